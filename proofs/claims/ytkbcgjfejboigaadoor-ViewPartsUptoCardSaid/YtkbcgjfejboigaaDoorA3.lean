/- ViewParts returns true for every input of bulk at most 1048576; each argument reads behind the call as it read before. -/
import Derived.Test.YtkbcgjfejboigaaDoorA2
import Derived.KernelRfl
import Derived.Laws.MakeOwn
set_option linter.unusedVariables false
set_option linter.unusedSimpArgs false
namespace Go.Proofs.YtkbcgjfejboigaaDoor
open Go Go.RowKit V
open Go.IntKind (i64 u32 u64)
open Go.Proofs (Tryd.prog)
section
set_option maxRecDepth 100000
def iK(wordsA:Option Addr)(aS:Nat)(wordsC:Nat)(R:ax)(w:World):Prop:=
 ∃Cc:Option Addr,∃BY:Nat,∃EJ:Nat,∃wv,(Instr.makeSlice 121 (.int .i64 0) (.int .i64 (i64.wrap (4*((aS:Nat):Int)))):Sem Value).run Tryd.prog w= .ok (.slice Cc BY EJ) wv∧
 ∃I:Nat→Option Addr→Nat→Nat→Int→World→Prop,(∃m,I m Cc BY EJ 0 wv)∧∀(m:Nat)(Bg:Nat→Value)(outA:Option Addr)(outN:Nat)(outC:Nat)(zK:Int),∀wC,I m outA outN outC zK wC→
 split (decide ((zK:Int)<((aS:Nat):Int))) (
  (0≤(zK:Int)∧(zK:Int)<((aS:Nat):Int))∧
  ay wordsA fun NB=>
  ∃yL:Int,wC.cell? (NB.add (Int.toNat zK*1))=some (.int .u32 yL)∧
  ∀(wD:Nat)(wF:World),wD=wC.heap.size→wF=wC.alloc (.cells #[(.int .u8 (IntKind.u8.wrap ((yL:Int).fdiv (2 ^ 24)))),(.int .u8 (IntKind.u8.wrap ((yL:Int).fdiv (2 ^ 16)))),(.int .u8 (IntKind.u8.wrap ((yL:Int).fdiv (2 ^ 8)))),(.int .u8 (IntKind.u8.wrap ((yL:Int).fdiv (2 ^ 0))))] 5)→
  ∃zi:Option Addr,∃yW:Nat,∃zh:Nat,∃wH,(Builtin.append_ #[121,121] 121 #[(.slice outA outN outC),(.slice (some (Addr.mk wD 0 none)) 4 4)]:Sem Value).run Tryd.prog wF= .ok (.slice zi yW zh) wH∧
  ∃m1,m1<m∧I m1 zi yW zh (i64.wrap (zK+1)) wH) (
  R (.slice outA outN outC) wC)
def nM:Ann:=(.node none .leaf (.node none .leaf (.node none (.node none .leaf (.node none (.node (some ⟨[(3,.one (.slice)),(12,.one (.int .i64))],[3,4,5,12,13,14,15,16,17,18,19,20,21,22,23,24,25,26,27,28,29,30,31,32,33,34]⟩) .leaf .leaf) .leaf)) .leaf)))
theorem WdBytes_eq(wordsA:Option Addr)(aS:Nat)(wordsC:Nat)(R:ax)(w:World):iK wordsA aS wordsC R w=vcF Tryd.prog aB [3] Tryd.f84 nM [(.slice wordsA aS wordsC)] R none w:=by kernel_rfl
theorem jn(wordsA:Option Addr)(aS:Nat)(wordsC:Nat) {R:ax} {w:World}(h:iK wordsA aS wordsC R w):Calls Tryd.prog 84 #[(.slice wordsA aS wordsC)] w fun e w'=>∃v,e= .returned v∧R v w':=
 aq Tryd.func84 av ar ((WdBytes_eq wordsA aS wordsC R w).mp h)
def iJ(bA:Option Addr)(bN:Nat)(bC:Nat)(R:ax)(w:World):Prop:=
 split (decide ((((bN:Nat):Int):Int)>1048576)) (
  R (.tuple #[(.slice none 0 0),(.int .i64 2)]) w) (
  split (((((bN:Nat):Int):Int).tmod 4:Int) !=0) (
   R (.tuple #[(.slice none 0 0),(.int .i64 11)]) w) (
   ∃zJ:Option Addr,∃zj:Nat,∃AO:Nat,∃wv,(Instr.makeSlice 47 (.int .i64 (i64.wrap ((((bN:Nat):Int):Int).tdiv 4))) (.int .i64 (i64.wrap ((((bN:Nat):Int):Int).tdiv 4))):Sem Value).run Tryd.prog w= .ok (.slice zJ zj AO) wv∧
   ∃I:Nat→Int→World→Prop,(∃m,I m 0 wv)∧∀(m:Nat)(Bg:Nat→Value)(yn:Int),∀wC,I m yn wC→
   split (decide ((yn:Int)<((zj:Nat):Int))) (
    (0≤(i64.wrap (4*yn):Int)∧(i64.wrap (4*yn):Int)≤((bN:Nat):Int))∧
    ∀ym:Option Addr,ym=(if bC=(Int.toNat (i64.wrap (4*yn)))then bA else(bA:Option Addr).map (·.add ((Int.toNat (i64.wrap (4*yn)))*1)))→∀yf:Nat,yf=bN - (Int.toNat (i64.wrap (4*yn)))→∀yX:Nat,yX=bC - (Int.toNat (i64.wrap (4*yn)))→
    ∃b:Nat→Nat→Prop,
    (0≤(0:Int)∧(0:Int)<((yf:Nat):Int))∧
    ay ym fun E3=>
    b 4 ((E3.add (Int.toNat 0*1)).block)∧
    ∃BN:Int,wC.drew.cell? (E3.add (Int.toNat 0*1))=some (.int .u8 BN)∧
    (0≤(1:Int)∧(1:Int)<((yf:Nat):Int))∧
    ay ym fun MM=>
    b 9 ((MM.add (Int.toNat 1*1)).block)∧
    ∃JA:Int,wC.drew.cell? (MM.add (Int.toNat 1*1))=some (.int .u8 JA)∧
    (0≤(2:Int)∧(2:Int)<((yf:Nat):Int))∧
    ay ym fun p41=>
    b 15 ((p41.add (Int.toNat 2*1)).block)∧
    ∃Ar:Int,wC.drew.cell? (p41.add (Int.toNat 2*1))=some (.int .u8 Ar)∧
    (0≤(3:Int)∧(3:Int)<((yf:Nat):Int))∧
    ay ym fun FF=>
    b 21 ((FF.add (Int.toNat 3*1)).block)∧
    ∃I6:Int,wC.drew.cell? (FF.add (Int.toNat 3*1))=some (.int .u8 I6)∧
    (0≤(yn:Int)∧(yn:Int)<((zj:Nat):Int))∧
    ay zJ fun ML=>
    aD wC.drew (ML.add (Int.toNat yn*1)) [(.int .u32 (u32.wrap (BitVec.ofInt u32.bits (u32.wrap (BitVec.ofInt u32.bits (u32.wrap (BitVec.ofInt u32.bits (u32.wrap ((u32.wrap BN:Int)*2 ^ 24)) ||| BitVec.ofInt u32.bits (u32.wrap ((u32.wrap JA:Int)*2 ^ 16))).toNat) ||| BitVec.ofInt u32.bits (u32.wrap ((u32.wrap Ar:Int)*2 ^ 8))).toNat) ||| BitVec.ofInt u32.bits (u32.wrap ((u32.wrap I6:Int)*2 ^ 0))).toNat))] fun wF=>
    ∃b1:Nat→Nat→Prop,(∀i k,b i k→b1 i k)∧
    ∃m1,m1<m∧I m1 (i64.wrap (yn+1)) wF) (
    R (.tuple #[(.slice zJ zj AO),(.int .i64 0)]) wC)))
def nL:Ann:=(.node none .leaf (.node none .leaf (.node none .leaf (.node none .leaf (.node none (.node none .leaf (.node none (.node (some ⟨[(20,.one (.int .i64))],[5,6,20,21,22,23,24,25,26,27,28,29,30,31,32,33,34,35,36,37,38,39,40,41,42,43,44,45,46,47,48,49,50,51,52,53]⟩) .leaf .leaf) .leaf)) .leaf)))))
theorem WdWords_eq(bA:Option Addr)(bN:Nat)(bC:Nat)(R:ax)(w:World):iJ bA bN bC R w=vcF Tryd.prog aB [] Tryd.f86 nL [(.slice bA bN bC)] R none w:=by kernel_rfl
theorem jm(bA:Option Addr)(bN:Nat)(bC:Nat) {R:ax} {w:World}(h:iJ bA bN bC R w):Calls Tryd.prog 86 #[(.slice bA bN bC)] w fun e w'=>∃v,e= .returned v∧R v w':=
 aq Tryd.func86 av ar ((WdWords_eq bA bN bC R w).mp h)
def je(keyA:Option Addr)(keyN:Nat)(keyC:Nat)(pad:Int)(R:ax)(w:World):Prop:=
 ∃J:Option Addr→Nat→Nat→World→Prop,(
  split (decide ((((keyN:Nat):Int):Int)>64)) (
   Calls Tryd.prog 92 #[(.slice keyA keyN keyC)] w fun e wv=>
   ∃Er:Int,∃Ep:Int,∃Ly:Int,∃Lx:Int,∃Lw:Int,∃Lv:Int,∃Lu:Int,∃Lt:Int,e= .returned (.agg #[(.int .u32 Er),(.int .u32 Ep),(.int .u32 Ly),(.int .u32 Lx),(.int .u32 Lw),(.int .u32 Lv),(.int .u32 Lu),(.int .u32 Lt)])∧
   ∀(gv:Nat)(wC:World),gv=wv.heap.size→wC=wv.alloc (.cells (#[(.int .u32 0),(.int .u32 0),(.int .u32 0),(.int .u32 0),(.int .u32 0),(.int .u32 0),(.int .u32 0),(.int .u32 0)]) 60)→
   aD wC (Addr.mk gv 0 none) [(.int .u32 Er),(.int .u32 Ep),(.int .u32 Ly),(.int .u32 Lx),(.int .u32 Lw),(.int .u32 Lv),(.int .u32 Lu),(.int .u32 Lt)] fun wF=>
   ∀Eo:Option Addr,Eo=(some (if 8=0 then Addr.mk gv 0 none else(Addr.mk gv 0 none).add (0*1)))→∀Em:Nat,Em=8 - 0→∀En:Nat,En=8 - 0→
   Calls Tryd.prog 84 #[(.slice Eo Em En)] wF fun e wH=>
   ∃Ei:Option Addr,∃Eh:Nat,∃EX:Nat,e= .returned (.slice Ei Eh EX)∧
   J Ei Eh EX wH) (
   J keyA keyN keyC w))∧∀(Bg:Nat→Value)(keyA1:Option Addr)(keyN1:Nat)(keyC1:Nat),∀wv,J keyA1 keyN1 keyC1 wv→
 ∃y8:Option Addr,∃yE:Nat,∃AQ:Nat,∃wC,(Instr.makeSlice 121 (.int .i64 64) (.int .i64 64):Sem Value).run Tryd.prog wv= .ok (.slice y8 yE AQ) wC∧
 ∃yL:Int,∃wF,(Builtin.copy_ #[121,121] 3 #[(.slice y8 yE AQ),(.slice keyA1 keyN1 keyC1)]:Sem Value).run Tryd.prog wC= .ok (.int .i64 yL) wF∧
 ∃I:Nat→Int→World→Prop,(∃m,I m 0 wF)∧∀(m:Nat)(Bf:Nat→Value)(xx:Int),∀wH,I m xx wH→
 split (decide ((xx:Int)<((yE:Nat):Int))) (
  (0≤(xx:Int)∧(xx:Int)<((yE:Nat):Int))∧
  ay y8 fun MO=>
  ∃zs:Int,wH.cell? (MO.add (Int.toNat xx*1))=some (.int .u8 zs)∧
  (0≤(xx:Int)∧(xx:Int)<((yE:Nat):Int))∧
  ay y8 fun E3=>
  aD wH (E3.add (Int.toNat xx*1)) [(.int .u8 (IntKind.u8.wrap (BitVec.ofInt IntKind.u8.bits zs ^^^ BitVec.ofInt IntKind.u8.bits pad).toNat))] fun wJ=>
  ∃m1,m1<m∧I m1 (i64.wrap (xx+1)) wJ) (
  R (.slice y8 yE AQ) wH)
def ob:Ann:=(.node none .leaf (.node none (.node none .leaf (.node (some ⟨[(0,.one (.slice))],[0,5,11,12,13,14]⟩) .leaf .leaf)) (.node none .leaf (.node none .leaf (.node none (.node none .leaf (.node none (.node (some ⟨[(21,.one (.int .i64))],[7,21,22,23,24,25,26,27,28,29,30,31]⟩) .leaf .leaf) .leaf)) .leaf)))))
theorem HPadded_eq(keyA:Option Addr)(keyN:Nat)(keyC:Nat)(pad:Int)(R:ax)(w:World):je keyA keyN keyC pad R w=vcF Tryd.prog aB [] Tryd.f87 ob [(.slice keyA keyN keyC),(.int .u8 pad)] R none w:=by kernel_rfl
theorem jD(keyA:Option Addr)(keyN:Nat)(keyC:Nat)(pad:Int) {R:ax} {w:World}(h:je keyA keyN keyC pad R w):Calls Tryd.prog 87 #[(.slice keyA keyN keyC),(.int .u8 pad)] w fun e w'=>∃v,e= .returned v∧R v w':=
 aq Tryd.func87 av ar ((HPadded_eq keyA keyN keyC pad R w).mp h)
def kr(keyA:Option Addr)(keyN:Nat)(keyC:Nat)(pad:Int)(R:ax)(w:World):Prop:=
 Calls Tryd.prog 85 #[] w fun e wv=>
 ∃x8:Option Addr,e= .returned (.pointer x8)∧
 Calls Tryd.prog 87 #[(.slice keyA keyN keyC),(.int .u8 pad)] wv fun e wC=>
 ∃B5:Option Addr,∃EY:Nat,∃Es:Nat,e= .returned (.slice B5 EY Es)∧
 Calls Tryd.prog 86 #[(.slice B5 EY Es)] wC fun e wF=>
 ∃x13aA:Option Addr,∃x13aN:Nat,∃x13aC:Nat,∃yF:Int,e= .returned (.tuple #[(.slice x13aA x13aN x13aC),(.int .i64 yF)])∧
 Calls Tryd.prog 62 #[(.pointer x8),(.slice x13aA x13aN x13aC)] wF fun e wH=>
 e= .returned (.tuple #[])∧
 R (.pointer x8) wH
def qs:Ann:= .leaf
theorem HBegun_eq(keyA:Option Addr)(keyN:Nat)(keyC:Nat)(pad:Int)(R:ax)(w:World):kr keyA keyN keyC pad R w=vcF Tryd.prog aB [] Tryd.f75 qs [(.slice keyA keyN keyC),(.int .u8 pad)] R none w:=by kernel_rfl
theorem ln(keyA:Option Addr)(keyN:Nat)(keyC:Nat)(pad:Int) {R:ax} {w:World}(h:kr keyA keyN keyC pad R w):Calls Tryd.prog 75 #[(.slice keyA keyN keyC),(.int .u8 pad)] w fun e w'=>∃v,e= .returned v∧R v w':=
 aq Tryd.func75 av ar ((HBegun_eq keyA keyN keyC pad R w).mp h)
def kq(keyA:Option Addr)(keyN:Nat)(keyC:Nat)(R:ax)(w:World):Prop:=
 split (decide ((((keyN:Nat):Int):Int)>16)) (
  Calls Tryd.prog 83 #[(.slice keyA keyN keyC)] w fun e wv=>
  ∃x8a:Int,∃x8b:Int,∃x8c:Int,∃x8d:Int,∃x8e:Int,∃x8f:Int,∃x8g:Int,∃x8h:Int,e= .returned (.agg #[(.int .u32 x8a),(.int .u32 x8b),(.int .u32 x8c),(.int .u32 x8d),(.int .u32 x8e),(.int .u32 x8f),(.int .u32 x8g),(.int .u32 x8h)])∧
  ∀(gv:Nat)(wC:World),gv=wv.heap.size→wC=wv.alloc (.cells (#[(.int .u32 0),(.int .u32 0),(.int .u32 0),(.int .u32 0),(.int .u32 0),(.int .u32 0),(.int .u32 0),(.int .u32 0)]) 60)→
  aD wC (Addr.mk gv 0 none) [(.int .u32 x8a),(.int .u32 x8b),(.int .u32 x8c),(.int .u32 x8d),(.int .u32 x8e),(.int .u32 x8f),(.int .u32 x8g),(.int .u32 x8h)] fun wF=>
  ∀Cc:Option Addr,Cc=(some (if 8=0 then Addr.mk gv 0 none else(Addr.mk gv 0 none).add (0*1)))→∀BY:Nat,BY=8 - 0→∀EJ:Nat,EJ=8 - 0→
  Calls Tryd.prog 84 #[(.slice Cc BY EJ)] wF fun e wH=>
  ∃xG:Option Addr,∃xE:Nat,∃xO:Nat,e= .returned (.slice xG xE xO)∧
  R (.slice xG xE xO) wH) (
  Calls Tryd.prog 84 #[(.slice keyA keyN keyC)] w fun e wv=>
  ∃xG:Option Addr,∃xE:Nat,∃xO:Nat,e= .returned (.slice xG xE xO)∧
  R (.slice xG xE xO) wv)
def qq:Ann:= .leaf
theorem HShort_eq(keyA:Option Addr)(keyN:Nat)(keyC:Nat)(R:ax)(w:World):kq keyA keyN keyC R w=vcF Tryd.prog aB [] Tryd.f74 qq [(.slice keyA keyN keyC)] R none w:=by kernel_rfl
theorem lh(keyA:Option Addr)(keyN:Nat)(keyC:Nat) {R:ax} {w:World}(h:kq keyA keyN keyC R w):Calls Tryd.prog 74 #[(.slice keyA keyN keyC)] w fun e w'=>∃v,e= .returned v∧R v w':=
 aq Tryd.func74 av ar ((HShort_eq keyA keyN keyC R w).mp h)
def o9(keyA:Option Addr)(keyN:Nat)(keyC:Nat)(R:ax)(w:World):Prop:=
 Calls Tryd.prog 74 #[(.slice keyA keyN keyC)] w fun e wv=>
 ∃Nh:Option Addr,∃Nf:Nat,∃Ng:Nat,e= .returned (.slice Nh Nf Ng)∧
 Calls Tryd.prog 75 #[(.slice Nh Nf Ng),(.int .u8 54)] wv fun e wC=>
 ∃x7:Option Addr,e= .returned (.pointer x7)∧
 Calls Tryd.prog 75 #[(.slice Nh Nf Ng),(.int .u8 92)] wC fun e wF=>
 ∃x9:Option Addr,e= .returned (.pointer x9)∧
 ∀(gv:Nat)(wH:World),gv=wF.heap.size→wH=wF.alloc (.cells #[(.pointer x7),(.pointer x9)] 131)→
 R (.pointer (some (Addr.mk gv 0 none))) wH
def tN:Ann:= .leaf
theorem HNew_eq(keyA:Option Addr)(keyN:Nat)(keyC:Nat)(R:ax)(w:World):o9 keyA keyN keyC R w=vcF Tryd.prog aB [] Tryd.f61 tN [(.slice keyA keyN keyC)] R none w:=by kernel_rfl
theorem oc(keyA:Option Addr)(keyN:Nat)(keyC:Nat) {R:ax} {w:World}(h:o9 keyA keyN keyC R w):Calls Tryd.prog 61 #[(.slice keyA keyN keyC)] w fun e w'=>∃v,e= .returned v∧R v w':=
 aq Tryd.func61 av ar ((HNew_eq keyA keyN keyC R w).mp h)
def jd(m:Option Addr)(R:ax)(w:World):Prop:=
 ∀(gv:Nat)(wv:World),gv=w.heap.size→wv=w.alloc (.cells (#[(.int .u32 0),(.int .u32 0),(.int .u32 0),(.int .u32 0),(.int .u32 0),(.int .u32 0),(.int .u32 0),(.int .u32 0)]) 60)→
 ay m fun p6=>
 ∃x8:Option Addr,wv.cell? (p6.add 0)=some (.pointer x8)∧
 Calls Tryd.prog 77 #[(.pointer x8)] wv fun e wC=>
 ∃Cj:Int,∃Ci:Int,∃x9c:Int,∃x9d:Int,∃x9e:Int,∃x9f:Int,∃x9g:Int,∃x9h:Int,e= .returned (.agg #[(.int .u32 Cj),(.int .u32 Ci),(.int .u32 x9c),(.int .u32 x9d),(.int .u32 x9e),(.int .u32 x9f),(.int .u32 x9g),(.int .u32 x9h)])∧
 ∀(wD:Nat)(wF:World),wD=wC.heap.size→wF=wC.alloc (.cells (#[(.int .u32 0),(.int .u32 0),(.int .u32 0),(.int .u32 0),(.int .u32 0),(.int .u32 0),(.int .u32 0),(.int .u32 0)]) 60)→
 aD wF (Addr.mk wD 0 none) [(.int .u32 Cj),(.int .u32 Ci),(.int .u32 x9c),(.int .u32 x9d),(.int .u32 x9e),(.int .u32 x9f),(.int .u32 x9g),(.int .u32 x9h)] fun wH=>
 ay m fun Gj=>
 ∃xR:Option Addr,wH.cell? (Gj.add 1)=some (.pointer xR)∧
 Calls Tryd.prog 78 #[(.pointer xR)] wH fun e wJ=>
 ∃xL:Option Addr,e= .returned (.pointer xL)∧
 ∀Bs:Option Addr,Bs=(some (if 8=0 then Addr.mk wD 0 none else(Addr.mk wD 0 none).add (0*1)))→∀zk:Nat,zk=8 - 0→∀Br:Nat,Br=8 - 0→
 Calls Tryd.prog 62 #[(.pointer xL),(.slice Bs zk Br)] wJ fun e wO=>
 e= .returned (.tuple #[])∧
 Calls Tryd.prog 77 #[(.pointer xL)] wO fun e wN=>
 ∃AN:Int,∃AM:Int,∃AL:Int,∃AK:Int,∃AJ:Int,∃AI:Int,∃AH:Int,∃AG:Int,e= .returned (.agg #[(.int .u32 AN),(.int .u32 AM),(.int .u32 AL),(.int .u32 AK),(.int .u32 AJ),(.int .u32 AI),(.int .u32 AH),(.int .u32 AG)])∧
 aD wN (Addr.mk gv 0 none) [(.int .u32 AN),(.int .u32 AM),(.int .u32 AL),(.int .u32 AK),(.int .u32 AJ),(.int .u32 AI),(.int .u32 AH),(.int .u32 AG)] fun wQ=>
 ∃xn:Int,∃xm:Int,∃xB:Int,∃xz:Int,∃xy:Int,∃yr:Int,∃yq:Int,∃yp:Int,(wQ.cell? ((Addr.mk gv 0 none).add 0)=some (.int .u32 xn)∧wQ.cell? ((Addr.mk gv 0 none).add 1)=some (.int .u32 xm)∧wQ.cell? ((Addr.mk gv 0 none).add 2)=some (.int .u32 xB)∧wQ.cell? ((Addr.mk gv 0 none).add 3)=some (.int .u32 xz)∧wQ.cell? ((Addr.mk gv 0 none).add 4)=some (.int .u32 xy)∧wQ.cell? ((Addr.mk gv 0 none).add 5)=some (.int .u32 yr)∧wQ.cell? ((Addr.mk gv 0 none).add 6)=some (.int .u32 yq)∧wQ.cell? ((Addr.mk gv 0 none).add 7)=some (.int .u32 yp))∧
 R (.agg #[(.int .u32 xn),(.int .u32 xm),(.int .u32 xB),(.int .u32 xz),(.int .u32 xy),(.int .u32 yr),(.int .u32 yq),(.int .u32 yp)]) wQ
def oa:Ann:= .leaf
theorem HTagMac_eq(m:Option Addr)(R:ax)(w:World):jd m R w=vcF Tryd.prog aB [] Tryd.f63 oa [(.pointer m)] R none w:=by kernel_rfl
theorem jC(m:Option Addr) {R:ax} {w:World}(h:jd m R w):Calls Tryd.prog 63 #[(.pointer m)] w fun e w'=>∃v,e= .returned v∧R v w':=
 aq Tryd.func63 av ar ((HTagMac_eq m R w).mp h)
def mX(keyA:Option Addr)(keyN:Nat)(keyC:Nat)(messageA:Option Addr)(messageN:Nat)(messageC:Nat)(R:ax)(w:World):Prop:=
 ∀(gv:Nat)(wv:World),gv=w.heap.size→wv=w.alloc (.cells (#[(.int .u32 0),(.int .u32 0),(.int .u32 0),(.int .u32 0),(.int .u32 0),(.int .u32 0),(.int .u32 0),(.int .u32 0)]) 60)→
 Calls Tryd.prog 61 #[(.slice keyA keyN keyC)] wv fun e wC=>
 ∃x7:Option Addr,e= .returned (.pointer x7)∧
 ay x7 fun p9=>
 ∃yl:Option Addr,wC.cell? (p9.add 0)=some (.pointer yl)∧
 Calls Tryd.prog 62 #[(.pointer yl),(.slice messageA messageN messageC)] wC fun e wF=>
 e= .returned (.tuple #[])∧
 Calls Tryd.prog 63 #[(.pointer x7)] wF fun e wH=>
 ∃AP:Int,∃zl:Int,∃D0:Int,∃DZ:Int,∃DY:Int,∃DX:Int,∃DW:Int,∃DV:Int,e= .returned (.agg #[(.int .u32 AP),(.int .u32 zl),(.int .u32 D0),(.int .u32 DZ),(.int .u32 DY),(.int .u32 DX),(.int .u32 DW),(.int .u32 DV)])∧
 aD wH (Addr.mk gv 0 none) [(.int .u32 AP),(.int .u32 zl),(.int .u32 D0),(.int .u32 DZ),(.int .u32 DY),(.int .u32 DX),(.int .u32 DW),(.int .u32 DV)] fun wJ=>
 ∃xn:Int,∃xm:Int,∃xB:Int,∃xz:Int,∃xy:Int,∃yr:Int,∃yq:Int,∃yp:Int,(wJ.cell? ((Addr.mk gv 0 none).add 0)=some (.int .u32 xn)∧wJ.cell? ((Addr.mk gv 0 none).add 1)=some (.int .u32 xm)∧wJ.cell? ((Addr.mk gv 0 none).add 2)=some (.int .u32 xB)∧wJ.cell? ((Addr.mk gv 0 none).add 3)=some (.int .u32 xz)∧wJ.cell? ((Addr.mk gv 0 none).add 4)=some (.int .u32 xy)∧wJ.cell? ((Addr.mk gv 0 none).add 5)=some (.int .u32 yr)∧wJ.cell? ((Addr.mk gv 0 none).add 6)=some (.int .u32 yq)∧wJ.cell? ((Addr.mk gv 0 none).add 7)=some (.int .u32 yp))∧
 R (.agg #[(.int .u32 xn),(.int .u32 xm),(.int .u32 xB),(.int .u32 xz),(.int .u32 xy),(.int .u32 yr),(.int .u32 yq),(.int .u32 yp)]) wJ
def sx:Ann:= .leaf
theorem HTagF_eq(keyA:Option Addr)(keyN:Nat)(keyC:Nat)(messageA:Option Addr)(messageN:Nat)(messageC:Nat)(R:ax)(w:World):mX keyA keyN keyC messageA messageN messageC R w=vcF Tryd.prog aB [] Tryd.f47 sx [(.slice keyA keyN keyC),(.slice messageA messageN messageC)] R none w:=by kernel_rfl
theorem mY(keyA:Option Addr)(keyN:Nat)(keyC:Nat)(messageA:Option Addr)(messageN:Nat)(messageC:Nat) {R:ax} {w:World}(h:mX keyA keyN keyC messageA messageN messageC R w):Calls Tryd.prog 47 #[(.slice keyA keyN keyC),(.slice messageA messageN messageC)] w fun e w'=>∃v,e= .returned v∧R v w':=
 aq Tryd.func47 av ar ((HTagF_eq keyA keyN keyC messageA messageN messageC R w).mp h)
def mw(d:Option Addr)(R:ax)(w:World):Prop:=
 ay d fun p5=>
 ∃zx:Int,∃Ab:Int,∃BM:Int,∃BL:Int,∃BK:Int,∃BJ:Int,∃BI:Int,∃BH:Int,∃BG:Int,∃x6jA:Option Addr,∃x6jN:Nat,∃x6jC:Nat,(w.cell? (p5.add 0)=some (.int .u32 zx)∧w.cell? (p5.add 1)=some (.int .u32 Ab)∧w.cell? (p5.add 2)=some (.int .u32 BM)∧w.cell? (p5.add 3)=some (.int .u32 BL)∧w.cell? (p5.add 4)=some (.int .u32 BK)∧w.cell? (p5.add 5)=some (.int .u32 BJ)∧w.cell? (p5.add 6)=some (.int .u32 BI)∧w.cell? (p5.add 7)=some (.int .u32 BH)∧w.cell? (p5.add 8)=some (.int .i64 BG)∧w.cell? (p5.add 9)=some (.slice x6jA x6jN x6jC))∧
 ∀(gv:Nat)(wv:World),gv=w.heap.size→wv=w.alloc (.cells (#[(.int .u32 0),(.int .u32 0),(.int .u32 0),(.int .u32 0),(.int .u32 0),(.int .u32 0),(.int .u32 0),(.int .u32 0),(.int .i64 0),(.slice none 0 0)]) 148)→
 aD wv (Addr.mk gv 0 none) [(.int .u32 zx),(.int .u32 Ab),(.int .u32 BM),(.int .u32 BL),(.int .u32 BK),(.int .u32 BJ),(.int .u32 BI),(.int .u32 BH),(.int .i64 BG),(.slice x6jA x6jN x6jC)] fun wC=>
 ay d fun p8=>
 ∃Ev:Option Addr,∃Et:Nat,∃Eu:Nat,wC.cell? (p8.add 9)=some (.slice Ev Et Eu)∧
 ∃xG:Option Addr,∃xE:Nat,∃xO:Nat,∃wF,(Builtin.append_ #[47,47] 47 #[(.slice none 0 0),(.slice Ev Et Eu)]:Sem Value).run Tryd.prog wC= .ok (.slice xG xE xO) wF∧
 aD wF ((Addr.mk gv 0 none).add 9) [(.slice xG xE xO)] fun wH=>
 R (.pointer (some (Addr.mk gv 0 none))) wH
def sk:Ann:= .leaf
theorem SCopy_eq(d:Option Addr)(R:ax)(w:World):mw d R w=vcF Tryd.prog aB [] Tryd.f78 sk [(.pointer d)] R none w:=by kernel_rfl
theorem my(d:Option Addr) {R:ax} {w:World}(h:mw d R w):Calls Tryd.prog 78 #[(.pointer d)] w fun e w'=>∃v,e= .returned v∧R v w':=
 aq Tryd.func78 av ar ((SCopy_eq d R w).mp h)
end
section
set_option maxRecDepth 100000
def oZ(d:Option Addr)(last:Int)(long:Int)(R:ax)(w:World):Prop:=
 ∀(gv:Nat)(wv:World),gv=w.heap.size→wv=w.alloc (.cells (#[(.int .u32 0),(.int .u32 0),(.int .u32 0),(.int .u32 0),(.int .u32 0),(.int .u32 0),(.int .u32 0),(.int .u32 0)]) 60)→
 ∃b:Nat→Nat→Prop,
 ay d fun EM=>
 b 3 ((EM.add 9).block)∧
 ∃B5:Option Addr,∃EY:Nat,∃Es:Nat,wv.drew.cell? (EM.add 9)=some (.slice B5 EY Es)∧
 ay d fun zO=>
 b 7 ((zO.add 9).block)∧
 ∃Bs:Option Addr,∃zk:Nat,∃Br:Nat,wv.drew.cell? (zO.add 9)=some (.slice Bs zk Br)∧
 ay d fun LX=>
 b 12 ((LX.add 9).block)∧
 ∃yh:Option Addr,∃xv:Nat,∃yg:Nat,wv.drew.cell? (LX.add 9)=some (.slice yh xv yg)∧
 (0≤(((xv:Nat):Int):Int)∧(((xv:Nat):Int):Int)≤((Es:Nat):Int))∧
 (0≤(((zk:Nat):Int):Int)∧(((zk:Nat):Int):Int)≤((Int.toNat ((xv:Nat):Int):Nat):Int))∧
 ∀Az:Option Addr,Az=(if(Int.toNat ((xv:Nat):Int))=0 then B5 else(B5:Option Addr).map (·.add (0*1)))→∀Ax:Nat,Ax=(Int.toNat ((zk:Nat):Int)) - 0→∀Ay:Nat,Ay=(Int.toNat ((xv:Nat):Int)) - 0→
 ∀(wD:Nat)(wC:World),wD=wv.drew.heap.size→wC=wv.drew.alloc (.cells #[(.int .u32 last)] 22)→
 Kept (aX b [0,1,2,3,4,5,6,7,8,9,10,11,12,13,14]) wv.drew wC∧∃b1:Nat→Nat→Prop,(∀i k,b i k→b1 i k)∧
 ∃ym:Option Addr,∃yf:Nat,∃yX:Nat,∃wF,(Builtin.append_ #[47,47] 47 #[(.slice Az Ax Ay),(.slice (some (Addr.mk wD 0 none)) 1 1)]:Sem Value).run Tryd.prog wC= .ok (.slice ym yf yX) wF∧
 Kept (aX b1 [0,1,4,5,6,9,10,11]) wC wF∧∃b2:Nat→Nat→Prop,(∀i k,b1 i k→b2 i k)∧
 ∃I:Nat→Option Addr→Nat→Nat→World→Prop,(∃m,I m ym yf yX wF)∧∀(m:Nat)(zV:Nat→Value)(leftA:Option Addr)(leftN:Nat)(leftC:Nat),∀wH,I m leftA leftN leftC wH→
 split (((((leftN:Nat):Int):Int).tmod 16:Int) !=14) (
  ∀(wV:Nat)(wJ:World),wV=wH.heap.size→wJ=wH.alloc (.cells #[(.int .u32 0)] 22)→
  ∃zi:Option Addr,∃yW:Nat,∃zh:Nat,∃wO,(Builtin.append_ #[47,47] 47 #[(.slice leftA leftN leftC),(.slice (some (Addr.mk wV 0 none)) 1 1)]:Sem Value).run Tryd.prog wJ= .ok (.slice zi yW zh) wO∧
  ∃m1,m1<m∧I m1 zi yW zh wO) (
  ∀(wV:Nat)(wJ:World),wV=wH.heap.size→wJ=wH.alloc (.cells #[(.int .u32 (u32.wrap ((long:Int).fdiv (2 ^ 32)))),(.int .u32 (u32.wrap long))] 22)→
  ∃Jp:Option Addr,∃Jn:Nat,∃Jo:Nat,∃wO,(Builtin.append_ #[47,47] 47 #[(.slice leftA leftN leftC),(.slice (some (Addr.mk wV 0 none)) 2 2)]:Sem Value).run Tryd.prog wJ= .ok (.slice Jp Jn Jo) wO∧
  ay d fun FG=>
  ∃CP:Int,∃CO:Int,∃CN:Int,∃CM:Int,∃CL:Int,∃Jg:Int,∃Jf:Int,∃Jd:Int,(wO.cell? ((FG.add 0).add 0)=some (.int .u32 CP)∧wO.cell? ((FG.add 0).add 1)=some (.int .u32 CO)∧wO.cell? ((FG.add 0).add 2)=some (.int .u32 CN)∧wO.cell? ((FG.add 0).add 3)=some (.int .u32 CM)∧wO.cell? ((FG.add 0).add 4)=some (.int .u32 CL)∧wO.cell? ((FG.add 0).add 5)=some (.int .u32 Jg)∧wO.cell? ((FG.add 0).add 6)=some (.int .u32 Jf)∧wO.cell? ((FG.add 0).add 7)=some (.int .u32 Jd))∧
  ∀(xU:Nat)(wN:World),xU=wO.heap.size→wN=wO.alloc (.cells (#[(.int .u32 0),(.int .u32 0),(.int .u32 0),(.int .u32 0),(.int .u32 0),(.int .u32 0),(.int .u32 0),(.int .u32 0)]) 60)→
  aD wN (Addr.mk xU 0 none) [(.int .u32 CP),(.int .u32 CO),(.int .u32 CN),(.int .u32 CM),(.int .u32 CL),(.int .u32 Jg),(.int .u32 Jf),(.int .u32 Jd)] fun wQ=>
  ∃I1:Nat→Option Addr→Nat→Nat→World→Prop,(∃m2,I1 m2 Jp Jn Jo wQ)∧∀(m2:Nat)(MH:Nat→Value)(leftA1:Option Addr)(leftN1:Nat)(leftC1:Nat),∀wK,I1 m2 leftA1 leftN1 leftC1 wK→
  split (decide ((((leftN1:Nat):Int):Int)>0)) (
   ∃b3:Nat→Nat→Prop,
   b3 0 ((Addr.mk xU 0 none).block)∧
   ∃CE:Int,∃CD:Int,∃CC:Int,∃CB:Int,∃CA:Int,∃Cz:Int,∃Cy:Int,∃Cx:Int,(wK.drew.cell? ((Addr.mk xU 0 none).add 0)=some (.int .u32 CE)∧wK.drew.cell? ((Addr.mk xU 0 none).add 1)=some (.int .u32 CD)∧wK.drew.cell? ((Addr.mk xU 0 none).add 2)=some (.int .u32 CC)∧wK.drew.cell? ((Addr.mk xU 0 none).add 3)=some (.int .u32 CB)∧wK.drew.cell? ((Addr.mk xU 0 none).add 4)=some (.int .u32 CA)∧wK.drew.cell? ((Addr.mk xU 0 none).add 5)=some (.int .u32 Cz)∧wK.drew.cell? ((Addr.mk xU 0 none).add 6)=some (.int .u32 Cy)∧wK.drew.cell? ((Addr.mk xU 0 none).add 7)=some (.int .u32 Cx))∧
   16≤leftN1∧
   ay leftA1 fun AV=>
   b3 3 (AV.block)∧
   ∃Ie:Int,∃Ic:Int,∃Ib:Int,∃Ia:Int,∃H9:Int,∃H8:Int,∃H7:Int,∃H6:Int,∃H5:Int,∃H4:Int,∃H3:Int,∃H2:Int,∃H0:Int,∃HZ:Int,∃HY:Int,∃HX:Int,(wK.drew.cell? (AV.add 0)=some (.int .u32 Ie)∧wK.drew.cell? (AV.add 1)=some (.int .u32 Ic)∧wK.drew.cell? (AV.add 2)=some (.int .u32 Ib)∧wK.drew.cell? (AV.add 3)=some (.int .u32 Ia)∧wK.drew.cell? (AV.add 4)=some (.int .u32 H9)∧wK.drew.cell? (AV.add 5)=some (.int .u32 H8)∧wK.drew.cell? (AV.add 6)=some (.int .u32 H7)∧wK.drew.cell? (AV.add 7)=some (.int .u32 H6)∧wK.drew.cell? (AV.add 8)=some (.int .u32 H5)∧wK.drew.cell? (AV.add 9)=some (.int .u32 H4)∧wK.drew.cell? (AV.add 10)=some (.int .u32 H3)∧wK.drew.cell? (AV.add 11)=some (.int .u32 H2)∧wK.drew.cell? (AV.add 12)=some (.int .u32 H0)∧wK.drew.cell? (AV.add 13)=some (.int .u32 HZ)∧wK.drew.cell? (AV.add 14)=some (.int .u32 HY)∧wK.drew.cell? (AV.add 15)=some (.int .u32 HX))∧
   Calls Tryd.prog 76 #[(.agg #[(.int .u32 CE),(.int .u32 CD),(.int .u32 CC),(.int .u32 CB),(.int .u32 CA),(.int .u32 Cz),(.int .u32 Cy),(.int .u32 Cx)]),(.agg #[(.int .u32 Ie),(.int .u32 Ic),(.int .u32 Ib),(.int .u32 Ia),(.int .u32 H9),(.int .u32 H8),(.int .u32 H7),(.int .u32 H6),(.int .u32 H5),(.int .u32 H4),(.int .u32 H3),(.int .u32 H2),(.int .u32 H0),(.int .u32 HZ),(.int .u32 HY),(.int .u32 HX)])] wK.drew fun e xw=>
   ∃HW:Int,∃HV:Int,∃HU:Int,∃HT:Int,∃HS:Int,∃HR:Int,∃HQ:Int,∃HP:Int,e= .returned (.agg #[(.int .u32 HW),(.int .u32 HV),(.int .u32 HU),(.int .u32 HT),(.int .u32 HS),(.int .u32 HR),(.int .u32 HQ),(.int .u32 HP)])∧
   ∃b4:Nat→Nat→Prop,(∀i k,b3 i k→b4 i k)∧
   aD xw (Addr.mk xU 0 none) [(.int .u32 HW),(.int .u32 HV),(.int .u32 HU),(.int .u32 HT),(.int .u32 HS),(.int .u32 HR),(.int .u32 HQ),(.int .u32 HP)] fun xq=>
   ∃b5:Nat→Nat→Prop,(∀i k,b4 i k→b5 i k)∧
   (0≤(16:Int)∧(16:Int)≤((leftN1:Nat):Int))∧
   ∀CH:Option Addr,CH=(if leftC1=(Int.toNat 16)then leftA1 else(leftA1:Option Addr).map (·.add ((Int.toNat 16)*1)))→∀CG:Nat,CG=leftN1 - (Int.toNat 16)→∀EU:Nat,EU=leftC1 - (Int.toNat 16)→
   ∃m3,m3<m2∧I1 m3 CH CG EU xq) (
   ∃HO:Int,∃HN:Int,∃HM:Int,∃HL:Int,∃HK:Int,∃HJ:Int,∃HI:Int,∃HH:Int,(wK.cell? ((Addr.mk xU 0 none).add 0)=some (.int .u32 HO)∧wK.cell? ((Addr.mk xU 0 none).add 1)=some (.int .u32 HN)∧wK.cell? ((Addr.mk xU 0 none).add 2)=some (.int .u32 HM)∧wK.cell? ((Addr.mk xU 0 none).add 3)=some (.int .u32 HL)∧wK.cell? ((Addr.mk xU 0 none).add 4)=some (.int .u32 HK)∧wK.cell? ((Addr.mk xU 0 none).add 5)=some (.int .u32 HJ)∧wK.cell? ((Addr.mk xU 0 none).add 6)=some (.int .u32 HI)∧wK.cell? ((Addr.mk xU 0 none).add 7)=some (.int .u32 HH))∧
   aD wK (Addr.mk gv 0 none) [(.int .u32 HO),(.int .u32 HN),(.int .u32 HM),(.int .u32 HL),(.int .u32 HK),(.int .u32 HJ),(.int .u32 HI),(.int .u32 HH)] fun xw=>
   ∃xn:Int,∃xm:Int,∃xB:Int,∃xz:Int,∃xy:Int,∃yr:Int,∃yq:Int,∃yp:Int,(xw.cell? ((Addr.mk gv 0 none).add 0)=some (.int .u32 xn)∧xw.cell? ((Addr.mk gv 0 none).add 1)=some (.int .u32 xm)∧xw.cell? ((Addr.mk gv 0 none).add 2)=some (.int .u32 xB)∧xw.cell? ((Addr.mk gv 0 none).add 3)=some (.int .u32 xz)∧xw.cell? ((Addr.mk gv 0 none).add 4)=some (.int .u32 xy)∧xw.cell? ((Addr.mk gv 0 none).add 5)=some (.int .u32 yr)∧xw.cell? ((Addr.mk gv 0 none).add 6)=some (.int .u32 yq)∧xw.cell? ((Addr.mk gv 0 none).add 7)=some (.int .u32 yp))∧
   R (.agg #[(.int .u32 xn),(.int .u32 xm),(.int .u32 xB),(.int .u32 xz),(.int .u32 xy),(.int .u32 yr),(.int .u32 yq),(.int .u32 yp)]) xw))
def tJ:Ann:=(.node none .leaf (.node none .leaf (.node none (.node none (.node (some ⟨[(7,.one (.slice))],[7,27,28,29,30,31,32,33]⟩) .leaf .leaf) .leaf) (.node none .leaf (.node none .leaf (.node none (.node none (.node (some ⟨[(7,.one (.slice))],[7,46,47,48,49,50,51,52,53,54,55]⟩) .leaf .leaf) .leaf) .leaf))))))
theorem SEnd_eq(d:Option Addr)(last:Int)(long:Int)(R:ax)(w:World):oZ d last long R w=vcF Tryd.prog aB [7] Tryd.f90 tJ [(.pointer d),(.int .u32 last),(.int .u64 long)] R none w:=by kernel_rfl
theorem nS(d:Option Addr)(last:Int)(long:Int) {R:ax} {w:World}(h:oZ d last long R w):Calls Tryd.prog 90 #[(.pointer d),(.int .u32 last),(.int .u64 long)] w fun e w'=>∃v,e= .returned v∧R v w':=
 aq Tryd.func90 av ar ((SEnd_eq d last long R w).mp h)
def eD(d:Option Addr)(R:ax)(w:World):Prop:=
 ∀(gv:Nat)(wv:World),gv=w.heap.size→wv=w.alloc (.cells (#[(.int .u32 0),(.int .u32 0),(.int .u32 0),(.int .u32 0),(.int .u32 0),(.int .u32 0),(.int .u32 0),(.int .u32 0)]) 60)→
 ay d fun p5=>
 ∃x7:Int,wv.cell? (p5.add 8)=some (.int .i64 x7)∧
 Calls Tryd.prog 90 #[(.pointer d),(.int .u32 2147483648),(.int .u64 (u64.wrap (32*(u64.wrap x7))))] wv fun e wC=>
 ∃zb:Int,∃yG:Int,∃LF:Int,∃LD:Int,∃LC:Int,∃LB:Int,∃LA:Int,∃Lz:Int,e= .returned (.agg #[(.int .u32 zb),(.int .u32 yG),(.int .u32 LF),(.int .u32 LD),(.int .u32 LC),(.int .u32 LB),(.int .u32 LA),(.int .u32 Lz)])∧
 aD wC (Addr.mk gv 0 none) [(.int .u32 zb),(.int .u32 yG),(.int .u32 LF),(.int .u32 LD),(.int .u32 LC),(.int .u32 LB),(.int .u32 LA),(.int .u32 Lz)] fun wF=>
 ∃xn:Int,∃xm:Int,∃xB:Int,∃xz:Int,∃xy:Int,∃yr:Int,∃yq:Int,∃yp:Int,(wF.cell? ((Addr.mk gv 0 none).add 0)=some (.int .u32 xn)∧wF.cell? ((Addr.mk gv 0 none).add 1)=some (.int .u32 xm)∧wF.cell? ((Addr.mk gv 0 none).add 2)=some (.int .u32 xB)∧wF.cell? ((Addr.mk gv 0 none).add 3)=some (.int .u32 xz)∧wF.cell? ((Addr.mk gv 0 none).add 4)=some (.int .u32 xy)∧wF.cell? ((Addr.mk gv 0 none).add 5)=some (.int .u32 yr)∧wF.cell? ((Addr.mk gv 0 none).add 6)=some (.int .u32 yq)∧wF.cell? ((Addr.mk gv 0 none).add 7)=some (.int .u32 yp))∧
 R (.agg #[(.int .u32 xn),(.int .u32 xm),(.int .u32 xB),(.int .u32 xz),(.int .u32 xy),(.int .u32 yr),(.int .u32 yq),(.int .u32 yp)]) wF
def jt:Ann:= .leaf
theorem SSumDigest_eq(d:Option Addr)(R:ax)(w:World):eD d R w=vcF Tryd.prog aB [] Tryd.f77 jt [(.pointer d)] R none w:=by kernel_rfl
theorem fR(d:Option Addr) {R:ax} {w:World}(h:eD d R w):Calls Tryd.prog 77 #[(.pointer d)] w fun e w'=>∃v,e= .returned v∧R v w':=
 aq Tryd.func77 av ar ((SSumDigest_eq d R w).mp h)
end
end Go.Proofs.YtkbcgjfejboigaaDoor
namespace Go.Proofs.YtkbcgjfejboigaaDoor
open Go Go.RowKit V
open Go.IntKind (i64 u32 u64)
def aP(a b:Int):Int:=u32.wrap (a+b)
def gW(a b:Int):Int:=u32.wrap (BitVec.ofInt u32.bits a ^^^ BitVec.ofInt u32.bits b).toNat
def rV(a b:Int):Int:=u32.wrap (BitVec.ofInt u32.bits a &&& BitVec.ofInt u32.bits b).toNat
def wj(a:Int):Int:=u32.wrap (BitVec.ofInt u32.bits (if u32.signed then -1 else u32.max) ^^^ BitVec.ofInt u32.bits a).toNat
def ff(w n:Int):Int:=u32.wrap (BitVec.ofInt u32.bits (w.fdiv (2 ^ (min n.toNat u32.bits))) ||| BitVec.ofInt u32.bits (u32.wrap (w*2 ^ (min (32 - n).toNat u32.bits)))).toNat
theorem vy {k:Int}(h: -31≤k∧k≤ -1):u64.wrap (BitVec.ofInt u64.bits (u64.wrap k) &&& BitVec.ofInt u64.bits 31).toNat=32+k:=by
 have:∀j:Fin 31,u64.wrap (BitVec.ofInt u64.bits (u64.wrap (-(j.val+1:Int))) &&& BitVec.ofInt u64.bits 31).toNat=32+ -(j.val+1:Int):=by decide+kernel
 have h2:=this ⟨(-k - 1).toNat,by omega⟩
 simp only []at h2
 rwa [show(-(((-k - 1).toNat:Nat)+1:Int))=k by omega]at h2
theorem uq {x:Int}(h:0≤x∧x<18446744073709551616):u64.wrap x=x:=by rw [IntKind.wrap_u64];omega
theorem rot_eq {x k:Int}(h: -31≤k∧k≤ -1):u32.wrap (BitVec.ofInt u32.bits (u32.wrap (x*2 ^ (min (32+k).toNat u32.bits))) ||| BitVec.ofInt u32.bits (x.fdiv (2 ^ (min (u64.wrap (32 - (32+k))).toNat u32.bits)))).toNat=ff x (-k):=by
 rw [uq (by omega),BitVec.or_comm,show 32 - (32+k)= -k by omega]
 unfold ff
 rw [show 32 - -k=32+k by omega]
def sg0(a:Int):Int:=gW (gW (ff a 7) (ff a 18)) (a.fdiv (2 ^ 3))
def sg1(b:Int):Int:=gW (gW (ff b 17) (ff b 19)) (b.fdiv (2 ^ 10))
abbrev back(l:List Int)(t k:Int):Int:=l.getD (Int.toNat (i64.wrap (t - k))) 0
def qQ(l:List Int)(t:Int):Int:=aP (aP (aP (back l t 16) (sg0 (back l t 15))) (back l t 7)) (sg1 (back l t 2))
def au(b:List Int):Nat→List Int
 | 0=>b++List.replicate 48 0
 | k+1=>(au b k).set (16+k) (qQ (au b k) ((16+k:Nat):Int))
theorem bu {b:List Int}(h:b.length=16):∀k,(au b k).length=64
 | 0=>by simp [au,h]
 | k+1=>by simp [au,bu h k]
theorem lF {b:List Int} {t:Int}(h:16≤t∧t<64):au b ((i64.wrap (t+1)).toNat - 16)=(au b (t.toNat - 16)).set t.toNat (qQ (au b (t.toNat - 16)) t):=by
 rw [aM (by omega),show(t+1).toNat - 16=(t.toNat - 16)+1 by omega,au,show 16+(t.toNat - 16)=t.toNat by omega,show((t.toNat:Nat):Int)=t by omega]
@[ext] structure S8 where
 (a b c d e f g h:Int)
deriving DecidableEq
def S8.T1(k w:Int)(s:S8):Int:=aP (aP (aP (aP s.h (gW (gW (ff s.e 6) (ff s.e 11)) (ff s.e 25))) (gW (rV s.e s.f) (rV (wj s.e) s.g))) k) w
def S8.T2(s:S8):Int:=aP (gW (gW (ff s.a 2) (ff s.a 13)) (ff s.a 22)) (gW (gW (rV s.a s.b) (rV s.a s.c)) (rV s.b s.c))
def S8.rnd(k w:Int)(s:S8):S8:=⟨aP (s.T1 k w) s.T2,s.a,s.b,s.c,aP s.d (s.T1 k w),s.e,s.f,s.g⟩
def aF(K W:List Int)(s:S8):Nat→S8
 | 0=>s
 | t+1=>S8.rnd (K.getD t 0) (W.getD t 0) (aF K W s t)
theorem cn {K W:List Int} {s:S8} {t:Int}(h:0≤t∧t<64):aF K W s (i64.wrap (t+1)).toNat=S8.rnd (K.getD t.toNat 0) (W.getD t.toNat 0) (aF K W s t.toNat):=by
 rw [aM (by omega),show(t+1).toNat=t.toNat+1 by omega,aF]
def S8.add(s v:S8):S8:=⟨aP v.a s.a,aP v.b s.b,aP v.c s.c,aP v.d s.d,aP v.e s.e,aP v.f s.f,aP v.g s.g,aP v.h s.h⟩
def dj(K:List Int)(s:S8)(b:List Int):S8:=s.add (aF K (au b 48) s 64)
def S8.first:S8:=⟨1779033703,3144134277,1013904242,2773480762,1359893119,2600822924,528734635,1541459225⟩
def S8.ok(s:S8):Prop:=(0≤s.a∧s.a<4294967296)∧(0≤s.b∧s.b<4294967296)∧(0≤s.c∧s.c<4294967296)∧(0≤s.d∧s.d<4294967296)∧(0≤s.e∧s.e<4294967296)∧(0≤s.f∧s.f<4294967296)∧(0≤s.g∧s.g<4294967296)∧(0≤s.h∧s.h<4294967296)
theorem bT(a b:Int):0≤aP a b∧aP a b<4294967296:=by unfold aP;rw [u32_eq];omega
theorem S8.iI(s v:S8):(s.add v).ok:=⟨bT _ _,bT _ _,bT _ _,bT _ _,bT _ _,bT _ _,bT _ _,bT _ _⟩
end Go.Proofs.YtkbcgjfejboigaaDoor
namespace Go.Proofs.YtkbcgjfejboigaaDoor.V
open Go Go.RowKit
open Go.IntKind (i64 u32 u64)
theorem ml:u32.bits=32:=rfl
def nor(x y:Int):Int:=((x.toNat ||| y.toNat:Nat):Int)
def uH(x y:Int):Int:=((x.toNat &&& y.toNat:Nat):Int)
theorem du {n:Nat} {x:Int}(h0:0≤x)(h:x<2 ^ n):(BitVec.ofInt n x).toNat=x.toNat:=by
 rw [BitVec.toNat_ofInt,Int.emod_eq_of_lt h0 (by exact_mod_cast h)]
theorem nt {x y:Int}(hx:0≤x∧x<4294967296)(hy:0≤y∧y<4294967296):u32.wrap (BitVec.ofInt u32.bits x ||| BitVec.ofInt u32.bits y).toNat=nor x y:=by
 have h:=BitVec.isLt (BitVec.ofInt 32 x ||| BitVec.ofInt 32 y)
 rw [ml,cY (by omega),BitVec.toNat_or,du hx.1 hx.2,du hy.1 hy.2];rfl
theorem oV {x y:Int}(hx:0≤x∧x<4294967296)(hy:0≤y∧y<4294967296):u32.wrap (BitVec.ofInt u32.bits x &&& BitVec.ofInt u32.bits y).toNat=uH x y:=by
 have h:=BitVec.isLt (BitVec.ofInt 32 x &&& BitVec.ofInt 32 y)
 rw [ml,cY (by omega),BitVec.toNat_and,du hx.1 hx.2,du hy.1 hy.2];rfl
theorem fi(k:Nat) {a y:Int}(ha:0≤a)(hy:0≤y)(h:y<2 ^ k):nor (2 ^ k*a) y=2 ^ k*a+y:=by
 obtain⟨a,rfl⟩:=Int.eq_ofNat_of_zero_le ha
 obtain⟨y,rfl⟩:=Int.eq_ofNat_of_zero_le hy
 have h':y<2 ^ k:=by exact_mod_cast h
 have e:((2:Int) ^ k*(a:Int)).toNat=2 ^ k*a:=by
  rw [show(2:Int) ^ k*(a:Int)=((2 ^ k*a:Nat):Int)by push_cast;rfl,Int.toNat_natCast]
 unfold nor
 rw [e,Int.toNat_natCast,← Nat.two_pow_add_eq_or_of_lt h']
 push_cast;rfl
theorem iq(x y:Int):nor x y=nor y x:=by unfold nor;rw [Nat.or_comm]
theorem jU(k:Nat) {x:Int}(hx:0≤x):uH x (2 ^ k - 1)=x % 2 ^ k:=by
 obtain⟨x,rfl⟩:=Int.eq_ofNat_of_zero_le hx
 have hp:0<2 ^ k:=Nat.two_pow_pos k
 have e:((2:Int) ^ k - 1).toNat=2 ^ k - 1:=by
  have:((2:Int) ^ k)=((2 ^ k:Nat):Int):=by push_cast;rfl
  omega
 unfold uH
 rw [e,Int.toNat_natCast,Nat.and_two_pow_sub_one_eq_mod]
 push_cast;rfl
theorem ma {x:Int}(n:Nat):x.fdiv (2 ^ n)=x / 2 ^ n:=Int.fdiv_eq_ediv_of_nonneg x (Int.pow_nonneg (by omega))
end Go.Proofs.YtkbcgjfejboigaaDoor.V
namespace Go.Proofs.YtkbcgjfejboigaaDoor
open Go Go.RowKit V
open Go.IntKind (i64 u32 u64)
section
def u6(K:List Int):Nat→S8→List U32→S8×List U32
 | 0,s,l=>(s,l)
 | f+1,s,l=>if 16≤l.length then u6 K f (dj K s ((l.take 16).map U32.v)) (l.drop 16)else(s,l)
def bz(K:List Int)(s:S8)(l:List U32):S8×List U32:=u6 K (l.length / 16) s l
theorem cI {K:List Int} {s:S8} {l:List U32}(h:l.length<16):bz K s l=(s,l):=by
 unfold bz
 rw [Nat.div_eq_of_lt h];rfl
theorem cH {K:List Int} {s:S8} {l:List U32}(h:16≤l.length):bz K s l=bz K (dj K s ((l.take 16).map U32.v)) (l.drop 16):=by
 unfold bz
 rw [show l.length / 16=(l.drop 16).length / 16+1 by rw [List.length_drop];omega,u6,if_pos h]
theorem eS {K:List Int} {p:S8→List U32→Prop}(h0:∀s l,l.length<16→p s l)(h1:∀s l,16≤l.length→p (dj K s ((l.take 16).map U32.v)) (l.drop 16)→p s l):∀(n:Nat)(s:S8)(l:List U32),l.length=n→p s l:=by
 intro n
 induction n using Nat.strongRecOn with
 | ind n ih=>
  intro s l hl
  by_cases h:l.length<16
  ·exact h0 s l h
  ·exact h1 s l (by omega) (ih (l.drop 16).length (by rw [List.length_drop];omega) _ _ rfl)
theorem nK(K:List Int)(s:S8)(l:List U32):(bz K s l).2.length=l.length % 16:=by
 refine eS (K:=K) (p:=fun s l=>(bz K s l).2.length=l.length % 16) (fun s l h=>?_) (fun s l h ih=>?_) _ s l rfl
 ·simp only [cI h];rw [Nat.mod_eq_of_lt h]
 ·simp only [cH h];rw [ih,List.length_drop];omega
theorem nJ(K:List Int)(s:S8)(l:List U32):∀x∈(bz K s l).2,x∈l:=by
 refine eS (K:=K) (p:=fun s l=>∀x∈(bz K s l).2,x∈l) (fun s l h=>?_) (fun s l h ih=>?_) _ s l rfl
 ·simp only [cI h];exact fun x h=>h
 ·simp only [cH h];exact fun x hx=>List.mem_of_mem_drop (ih x hx)
theorem ke(K:List Int)(s:S8)(l:List U32):s.ok→(bz K s l).1.ok:=by
 refine eS (K:=K) (p:=fun s l=>s.ok→(bz K s l).1.ok) (fun s l h=>?_) (fun s l h ih=>?_) _ s l rfl
 ·simp only [cI h];exact fun h=>h
 ·simp only [cH h];exact fun _=>ih (S8.iI _ _)
theorem dD {l:List U32}(h:16≤l.length):(l.take 16).map U32.v= [(l.getD 0 ⟨0⟩).v,(l.getD 1 ⟨0⟩).v,(l.getD 2 ⟨0⟩).v,(l.getD 3 ⟨0⟩).v,(l.getD 4 ⟨0⟩).v,(l.getD 5 ⟨0⟩).v,(l.getD 6 ⟨0⟩).v,(l.getD 7 ⟨0⟩).v,(l.getD 8 ⟨0⟩).v,(l.getD 9 ⟨0⟩).v,(l.getD 10 ⟨0⟩).v,(l.getD 11 ⟨0⟩).v,(l.getD 12 ⟨0⟩).v,(l.getD 13 ⟨0⟩).v,(l.getD 14 ⟨0⟩).v,(l.getD 15 ⟨0⟩).v]:=by
 rcases l with _ | ⟨a,_ | ⟨b,_ | ⟨c,_ | ⟨d,_ | ⟨e,_ | ⟨f,_ | ⟨g,_ | ⟨h,_ | ⟨i,_ | ⟨j,_ | ⟨k,_ | ⟨m,_ | ⟨n,_ | ⟨o,_ | ⟨p,_ | ⟨q,r⟩⟩⟩⟩⟩⟩⟩⟩⟩⟩⟩⟩⟩⟩⟩⟩
 all_goals first | rfl | (simp at h;done)
structure Dg where
 st:S8
 n:Int
 waits:List U32
namespace Dg
def new:Dg:=⟨S8.first,0,[]⟩
def add(K:List Int)(d:Dg)(l:List U32):Dg:=if(l.length:Int)>36028797018963968 - d.n then d else⟨(bz K d.st (d.waits++l)).1,d.n+l.length,(bz K d.st (d.waits++l)).2⟩
structure Ok(d:Dg):Prop where
 n:0≤d.n∧d.n≤36028797018963968
 len:d.waits.length=(d.n % 16).toNat
 st:d.st.ok
 words:∀x∈d.waits,0≤x.v∧x.v<4294967296
theorem kH:new.Ok:=⟨by decide,rfl,by unfold S8.ok new S8.first;decide,by simp [new]⟩
theorem iI {K:List Int} {d:Dg} {l:List U32}(h:d.Ok)(hl:∀x∈l,0≤x.v∧x.v<4294967296):(d.add K l).Ok:=by
 unfold add
 split
 ·exact h
 ·have hn:=h.n
  have hw:=h.len
  refine⟨⟨by show 0≤d.n+_;omega,by show d.n+_≤_;omega⟩,?_,ke _ _ _ h.st,fun x hx=>?_⟩
  ·show(bz K d.st (d.waits++l)).2.length=((d.n+l.length) % 16).toNat
   rw [nK,List.length_append,hw]
   omega
  ·rcases List.mem_append.1 (nJ _ _ _ x hx)with h1 | h1
   ·exact h.words x h1
   ·exact hl x h1
def v7(l:List U32):S8:=⟨(l.getD 0 ⟨0⟩).v,(l.getD 1 ⟨0⟩).v,(l.getD 2 ⟨0⟩).v,(l.getD 3 ⟨0⟩).v,(l.getD 4 ⟨0⟩).v,(l.getD 5 ⟨0⟩).v,(l.getD 6 ⟨0⟩).v,(l.getD 7 ⟨0⟩).v⟩
def nOf(l:List U32):Int:=(l.getD 8 ⟨0⟩).v*4294967296+(l.getD 9 ⟨0⟩).v
def load(l:List U32):Dg:=⟨v7 l,nOf l,(l.drop 10).take (nOf l % 16).toNat⟩
def zero:Dg:=⟨⟨0,0,0,0,0,0,0,0⟩,0,[]⟩
end Dg
structure DgL where
 Y:Nat→Prop
 a:Option Addr
 n:Nat
 c:Nat
def DgL.X(L:DgL)(g:Nat):Nat→Prop:=fun k=>k=g∨L.Y k
structure dR(w:World)(g:Nat)(L:DgL)(D:Dg):Prop where
 blk:∃T,Blk w g #[.int .u32 D.st.a,.int .u32 D.st.b,.int .u32 D.st.c,.int .u32 D.st.d,.int .u32 D.st.e,.int .u32 D.st.f,.int .u32 D.st.g,.int .u32 D.st.h,.int .i64 D.n,.slice L.a L.n L.c] T
 rd:Rd w L.Y L.a L.n L.c D.waits
 off:¬L.Y g
variable {w w':World} {g:Nat} {L:DgL} {D:Dg} {X:Nat→Prop}
theorem dR.lt(h:dR w g L D):∀k,L.X g k→k<w.heap.size:=by
 rintro k (rfl | hk)
 ·obtain⟨T,b⟩:=h.blk;exact b.lt
 ·exact h.rd.lt k hk
theorem dR.ch(h:dR w g L D)(hk:Ch X w w')(hx:∀k,L.X g k→¬X k):dR w' g L D:=
 ⟨h.blk.imp fun _ b=>hk.blk b (hx g (.inl rfl)),h.rd.ch hk fun k hk=>hx k (.inr hk),h.off⟩
theorem dR.pu(h:dR w g L D)(hk:Pu w w'):dR w' g L D:=h.ch hk (by simp)
end
structure Mem where
 S:Nat
 I:Nat
 pg:Bool→Nat→Nat→Int
namespace Mem
def cnt(m:Mem)(s:Bool):Nat:=match s with
 | true=>m.S
 | false=>m.I
def has(m:Mem)(s:Bool)(p:Int):Bool:=decide (0≤p∧p<(m.cnt s:Int))
def cF(o:Int):Bool:=decide (0≤o∧o<1024)
def eL(m:Mem)(s:Bool)(p o:Int):Int:=if m.has s p && cF o then m.pg s p.toNat o.toNat else 0
def tick(m:Mem)(_:Int):Mem:=m
def fill(m:Mem)(s:Bool)(p:Nat)(f:Nat→Int):Mem:= {m with pg:=fun s' p' o'=>if s'=s∧p'=p then f o' else m.pg s' p' o'}
def put(m:Mem)(s:Bool)(p o:Nat)(v:Int):Mem:=m.fill s p fun o'=>if o'=o then v else m.pg s p o'
def err(m:Mem)(s:Bool)(p o:Int):Int:=if m.has s p then(if cF o then 0 else 70)else 5
def write(m:Mem)(s:Bool)(p o v:Int):Mem:=if m.has s p && cF o then(m.put s p.toNat o.toNat v).tick 1 else m
def kv(m:Mem)(s:Bool)(p:Int):Int:=if m.has s p then 0 else 5
def zero(m:Mem)(s:Bool)(p:Int):Mem:=if m.has s p then(m.fill s p.toNat fun _=>0).tick 1024 else m
def fresh(S I:Nat):Mem:= {S,I,pg:=fun _ _ _=>0}
@[simp] theorem vN(m:Mem)(n:Int)(s:Bool):(m.tick n).cnt s=m.cnt s:=by cases s<;>rfl
@[simp] theorem vO(m:Mem)(s':Bool)(p:Nat)(f:Nat→Int)(s:Bool):(m.fill s' p f).cnt s=m.cnt s:=by cases s<;>rfl
@[simp] theorem vX(m:Mem)(s':Bool)(p o:Nat)(v:Int)(s:Bool):(m.put s' p o v).cnt s=m.cnt s:=by cases s<;>rfl
theorem gT {m:Mem} {s:Bool} {p:Int}(h:m.has s p=true):0≤p∧p<(m.cnt s:Int):=by simpa [has]using h
theorem dw {m:Mem} {s:Bool} {p:Int}(h:m.has s p=true):p.toNat<m.cnt s:=by have:=gT h;omega
theorem fH {o:Int}(h:cF o=true):0≤o∧o<1024:=by simpa [cF]using h
end Mem
section
structure cS where
 g:Nat
 a:Nat
 b:Nat
 pg:Bool→Nat→Nat
 n:Bool→Nat
def cS.row(L:cS)(s:Bool):Nat:=match s with
 | true=>L.a
 | false=>L.b
def cS.X(L:cS):Nat→Prop:=fun k=>k=L.g∨k=L.a∨k=L.b∨∃s i,i<L.n s∧k=L.pg s i
abbrev ptr(g:Nat):Value:= .pointer (some (Addr.mk g 0 none))
abbrev fr(s:Bool)(p:Int):Value:= .agg #[.bool s,.int .i64 p]
structure bF(w:World)(L:cS)(m:Mem):Prop where
 cnt:∀s,L.n s=m.cnt s
 hd:∃T:TypeId×Int,Blk w L.g #[.slice (some (Addr.mk L.a 0 none)) m.S m.S,.slice (some (Addr.mk L.b 0 none)) m.I m.I,.int .i64 T.2] T.1
 rows:∀s,∃T cs,Blk w (L.row s) cs T∧∀i,i<m.cnt s→cs[i]? =some (ptr (L.pg s i))
 pgs:∀s i,i<m.cnt s→∃T cs,Blk w (L.pg s i) cs T∧cs.size=1024∧∀o,o<1024→cs[o]? =some (.int .u32 (m.pg s i o))
 inj:∀s i s' i',i<m.cnt s→i'<m.cnt s'→L.pg s i=L.pg s' i'→s=s'∧i=i'
 dis:L.a≠L.g∧L.b≠L.g∧∀s i,i<m.cnt s→L.pg s i≠L.g∧L.pg s i≠L.a∧L.pg s i≠L.b
 u32:∀s i o,0≤m.pg s i o∧m.pg s i o<4294967296
 most:m.S≤64∧m.I≤64
theorem bF.inX {w:World} {L:cS} {m:Mem}(h:bF w L m) {s:Bool} {i:Nat}(hi:i<m.cnt s):L.X (L.pg s i):= .inr (.inr (.inr ⟨s,i,by rw [h.cnt];exact hi,rfl⟩))
theorem bF.kept {w w':World} {L:cS} {m:Mem} {B:Nat→Prop}(h:bF w L m)(hk:Kept B w w')(hb:∀k,L.X k→B k):bF w' L m:=by
 refine⟨h.cnt,?_,fun s=>?_,fun s i hi=>?_,h.inj,h.dis,h.u32,h.most⟩
 ·obtain⟨T,hd⟩:=h.hd
  exact⟨T,hd.kept hk (hb _ (.inl rfl))⟩
 ·obtain⟨T,cs,hr,h2⟩:=h.rows s
  exact⟨T,cs,hr.kept hk (hb _ (by cases s<;>simp [cS.X,cS.row])),h2⟩
 ·obtain⟨T,cs,hr,h2⟩:=h.pgs s i hi
  exact⟨T,cs,hr.kept hk (hb _ (h.inX hi)),h2⟩
theorem bF.lt {w:World} {L:cS} {m:Mem}(h:bF w L m):∀k,L.X k→k<w.heap.size:=by
 rintro k (rfl | rfl | rfl | ⟨s,i,hi,rfl⟩)
 ·obtain⟨T,hd⟩:=h.hd;exact hd.lt
 ·obtain⟨T,cs,hr,h2⟩:=h.rows true;exact hr.lt
 ·obtain⟨T,cs,hr,h2⟩:=h.rows false;exact hr.lt
 ·obtain⟨T,cs,hr,h2⟩:=h.pgs s i (by rw [← h.cnt];exact hi);exact hr.lt
theorem bF.ch {w w':World} {L:cS} {m:Mem} {Y:Nat→Prop}(h:bF w L m)(hk:Ch Y w w')(hb:∀k,L.X k→¬Y k):bF w' L m:=
 h.kept hk.kept fun k hx=>⟨h.lt k hx,hb k hx⟩
theorem bF.pu {w w':World} {L:cS} {m:Mem}(h:bF w L m)(hk:Pu w w'):bF w' L m:=h.ch hk (by simp)
theorem bF.ua {w w2:World} {L:cS} {m:Mem}(h:bF w L m) {T:TypeId} {x:Int}(hs:aY w L.g #[.slice (some (Addr.mk L.a 0 none)) m.S m.S,.slice (some (Addr.mk L.b 0 none)) m.I m.I,.int .i64 x] T w2):bF w2 L m:=by
 have hk:∀k,k≠L.g→(fun k=>k≠L.g) k:=fun _ h=>h
 refine⟨h.cnt,⟨(T,x),hs.blk⟩,fun s=>?_,fun s i hi=>?_,h.inj,h.dis,h.u32,h.most⟩
 ·obtain⟨T,cs,hr,h2⟩:=h.rows s
  exact⟨T,cs,hs.old hr (by cases s<;>simp [cS.row,h.dis.1,h.dis.2.1]),h2⟩
 ·obtain⟨T,cs,hr,h2⟩:=h.pgs s i hi
  exact⟨T,cs,hs.old hr (h.dis.2.2 s i hi).1,h2⟩
theorem bF.aK {w w2:World} {L:cS} {m:Mem}(h:bF w L m) {s:Bool} {i:Nat}(hi:i<m.cnt s) {cs:Array Value} {T:TypeId} {f:Nat→Int}(hs:aY w (L.pg s i) cs T w2)(hc:cs.size=1024)(hf:∀o,o<1024→cs[o]? =some (.int .u32 (f o)))
 (hu:∀o,0≤f o∧f o<4294967296):bF w2 L (m.fill s i f):=by
 obtain⟨T0,hd⟩:=h.hd
 refine⟨fun s=>by rw [h.cnt];simp,⟨T0,hs.old hd (fun e=>(h.dis.2.2 s i hi).1 e.symm)⟩,fun s'=>?_,fun s' i' zT=>?_,fun s1 i1 s2 i2 h1 h2=>h.inj s1 i1 s2 i2 (by simpa using h1) (by simpa using h2),⟨h.dis.1,h.dis.2.1,fun s1 i1 h1=>h.dis.2.2 s1 i1 (by simpa using h1)⟩,fun s' i' o=>?_,h.most⟩
 ·obtain⟨T,cs,hr,h2⟩:=h.rows s'
  refine⟨T,cs,hs.old hr ?_,by simpa using h2⟩
  have:=(h.dis.2.2 s i hi).2
  cases s'<;>simp only [cS.row]
  ·exact fun e=>this.2 e.symm
  ·exact fun e=>this.1 e.symm
 ·have FQ:i'<m.cnt s':=by simpa using zT
  by_cases hq:s'=s∧i'=i
  ·obtain⟨rfl,rfl⟩:=hq
   exact⟨T,cs,hs.blk,hc,fun o ho=>by rw [hf o ho];simp [Mem.fill]⟩
  ·obtain⟨T,cs,hr,h2,h3⟩:=h.pgs s' i' FQ
   refine⟨T,cs,hs.old hr (fun e=>hq (h.inj _ _ _ _ FQ hi e)),h2,fun o ho=>?_⟩
   rw [h3 o ho]
   simp only [Mem.fill]
   rw [if_neg hq]
 ·simp only [Mem.fill]
  split
  ·exact hu o
  ·exact h.u32 _ _ _
theorem vM {w:World} {g i:Nat} {cs:Array Value} {T:TypeId} {k:IntKind} {x:Int} {K:Int→Prop}(hb:Blk w g cs T)(hi:cs[i]? =some (.int k x))(hK:K x):
 ay (some (Addr.mk g 0 none)) fun p=>∃x:Int,w.cell? (p.add i)=some (.int k x)∧K x:=aw _ rfl ⟨_,hb.at hi,hK⟩
theorem uN {w:World} {g i:Nat} {cs:Array Value} {T:TypeId} {A:Option Addr} {n c:Nat} {K:Option Addr→Nat→Nat→Prop}(hb:Blk w g cs T)(hi:cs[i]? =some (.slice A n c))(hK:K A n c):
 ay (some (Addr.mk g 0 none)) fun p=>∃(A:Option Addr)(n c:Nat),w.cell? (p.add i)=some (.slice A n c)∧K A n c:=aw _ rfl ⟨_,_,_,hb.at hi,hK⟩
section
variable {w:World} {L:cS} {m:Mem}
theorem mAt(h:bF w L m)(s:Bool)(p:Int):
 Calls Tryd.prog 65 #[ptr L.g,fr s p] w fun e w'=>∃v,e= .returned v∧v= .pointer (if m.has s p then some (Addr.mk (L.pg s p.toNat) 0 none)else none)∧Pu w w':=by
 refine qn _ s p ?_
 intro g1 w1 hg hw
 have hM:=made hg hw
 have h1:=h.pu hM.pu
 obtain⟨T,hd⟩:=h1.hd
 refine uN hd rfl ⟨_,hM.blk.at rfl,?_⟩
 have fin:∀(a n:Nat),n=m.cnt s→a=L.row s→
  ∃J:Bool→World→Prop,(
  ∃xM:Int,w1.cell? ((Addr.mk g1 0 none).add 1)=some (.int .i64 xM)∧
  split (decide ((xM:Int)<0)) (
   J true w1) (
   ∃xx:Int,w1.cell? ((Addr.mk g1 0 none).add 1)=some (.int .i64 xx)∧
   J (decide ((xx:Int)≥((n:Nat):Int))) w1))∧∀(Bf:Nat→Value)(yk:Bool),∀wC,J yk wC→
  split yk (
   (∃v,v=(Value.pointer none)∧v= .pointer (if m.has s p then some (Addr.mk (L.pg s p.toNat) 0 none)else none)∧Pu w wC)) (
   ∃yO:Int,wC.cell? ((Addr.mk g1 0 none).add 1)=some (.int .i64 yO)∧
   (0≤(yO:Int)∧(yO:Int)<((n:Nat):Int))∧
   ay (some (Addr.mk a 0 none)) fun Gh=>
   ∃zr:Option Addr,wC.cell? (Gh.add (Int.toNat yO*1))=some (.pointer zr)∧
   (∃v,v=(Value.pointer zr)∧v= .pointer (if m.has s p then some (Addr.mk (L.pg s p.toNat) 0 none)else none)∧Pu w wC)):=by
  intro a n hn ha
  refine⟨fun b w'=>w1=w'∧b= !(m.has s p),⟨_,hM.blk.at rfl,aE (fun hb=>⟨rfl,?_⟩) (fun hb=>⟨_,hM.blk.at rfl,rfl,?_⟩)⟩,?_⟩
  ·simp at hb
   simp [Mem.has]
   omega
  ·simp at hb
   subst hn
   simp only [Mem.has,ge_iff_le]
   rw [Bool.eq_iff_iff]
   simp
   omega
  ·rintro _ x _ ⟨rfl,rfl⟩
   refine aE (fun hb=>⟨_,rfl,?_,hM.pu⟩) (fun hb=>?_)
   ·simp at hb;simp [hb]
   ·have MZ:m.has s p=true:=by simpa using hb
    have hp:0≤p∧p<(n:Int):=by subst hn;simpa [Mem.has]using MZ
    obtain⟨T2,cs,hr,hc⟩:=h1.rows s
    rw [← ha]at hr
    refine⟨_,hM.blk.at rfl,hp,aw _ rfl ⟨_,?_,_,rfl,by rw [if_pos MZ],hM.pu⟩⟩
    rw [Nat.mul_one]
    exact hr.at (hc _ (by omega))
 refine aE (fun hb=>?_) (fun hb=>?_)
 ·subst hb
  exact uN hd rfl (by
   obtain⟨J,hJ⟩:=fin L.a m.S rfl rfl
   refine⟨J,hJ.1,fun g x wv hj=>?_⟩
   have:=hJ.2 g x wv hj
   simpa using this)
 ·subst hb
  obtain⟨J,hJ⟩:=fin L.b m.I rfl rfl
  refine⟨J,hJ.1,fun g x wv hj=>?_⟩
  have:=hJ.2 g x wv hj
  simpa using this
theorem oJ(h:bF w L m):Calls Tryd.prog 48 #[ptr L.g] w fun e w'=>∃v,e= .returned v∧v= .int .i64 m.S∧w'=w:=by
 obtain⟨T,hd⟩:=h.hd
 exact jy _ (uN hd rfl ⟨rfl,rfl⟩)
theorem vI(h:bF w L m)(s:Bool)(p o:Int):
 Calls Tryd.prog 51 #[ptr L.g,fr s p,.int .i64 o] w fun e w'=>∃v,e= .returned v∧
  ((m.has s p && Mem.cF o)=true∧v= .tuple #[.pointer (some (Addr.mk (L.pg s p.toNat) o.toNat none)),.int .i64 0]∧bF w' L (m.tick 1)∧Ch L.X w w'∨
   (m.has s p && Mem.cF o)=false∧v= .tuple #[.pointer none,.int .i64 (m.err s p o)]∧m.err s p o≠0∧Pu w w'):=by
 refine mS _ s p o ?_
 intro g1 w1 hg hw
 have hM:=made hg hw
 refine⟨_,_,⟨hM.blk.at rfl,hM.blk.at rfl⟩,(mAt (h.pu hM.pu) s p).mono ?_⟩
 rintro e w2 ⟨_,rfl,rfl,hp⟩
 have zf:=hM.pu.trans hp
 refine⟨_,rfl,?_⟩
 cases hh:m.has s p with
 | false=>
  refine aE (fun _=>.inr ⟨rfl,?_,?_,zf⟩) (fun hb=>by simp at hb)
  ·simp [Mem.err,hh]
  ·simp [Mem.err,hh]
 | true=>
  refine aE (fun hb=>by simp at hb) (fun _=>?_)
  refine⟨fun b w'=>w2=w'∧b= !(Mem.cF o),aE (fun hb=>⟨rfl,?_⟩) (fun hb=>⟨rfl,?_⟩),?_⟩
  ·simp at hb;simp [Mem.cF];omega
  ·simp at hb;simp only [Mem.cF,ge_iff_le];rw [Bool.eq_iff_iff];simp;omega
  ·rintro _ x _ ⟨rfl,rfl⟩
   refine aE (fun hb=>?_) (fun hb=>?_)
   ·have ho:Mem.cF o=false:=by simpa using hb
    exact .inr ⟨by simp [ho],by simp [Mem.err,hh,ho],by simp [Mem.err,hh,ho],zf⟩
   ·have ho:Mem.cF o=true:=by simpa using hb
    have h2:=h.pu zf
    obtain⟨T,hd⟩:=h2.hd
    refine vM hd rfl (aw _ rfl (aI hd (by simp) fun w3 hs=>?_))
    have E8:=Mem.fH ho
    refine aw _ rfl ⟨E8,.inl ⟨by simp [ho],?_,h2.ua hs,?_⟩⟩
    ·rw [bB,Nat.zero_add,Nat.mul_one]
    ·exact(zf.mono (by simp)).stored hs (.inl (.inl rfl))
theorem uI(h:bF w L m)(s:Bool)(p o v:Int)(hv:0≤v∧v<4294967296):
 Calls Tryd.prog 35 #[ptr L.g,fr s p,.int .i64 o,.int .u32 v] w fun e w'=>∃u,e= .returned u∧u= .int .i64 (m.err s p o)∧bF w' L (m.write s p o v)∧Ch L.X w w':=by
 refine k7 _ s p o v ?_
 intro g1 w1 hg hw
 have hM:=made hg hw
 refine⟨_,_,⟨hM.blk.at rfl,hM.blk.at rfl⟩,(vI (h.pu hM.pu) s p o).mono ?_⟩
 rintro e w2 ⟨_,rfl,⟨hh,rfl,h2,hc⟩ | ⟨hh,rfl,he,hp⟩⟩
 ·refine⟨_,_,rfl,aE (fun _=>?_) (fun hb=>by simp at hb)⟩
  have Cg:Ch L.X w w2:=((Ch.refl _ w).made hM).trans hc
  simp only [Bool.and_eq_true]at hh
  have hi:=Mem.dw hh.1
  have ho:=Mem.fH hh.2
  obtain⟨T,cs,hr,xS,zg⟩:=h2.pgs s p.toNat (by simpa using hi)
  refine aw _ rfl (hE hr (by simp;omega) fun w3 hs=>⟨?_,?_,?_⟩)
  ·simp [Mem.err,hh.1,hh.2]
  ·have:=h2.aK (f:=fun o'=>if o'=o.toNat then v else m.pg s p.toNat o') (by simpa using hi) hs (by simp [setAt,xS]) (fun o' E8=>?_) (fun o'=>?_)
   ·simp only [Mem.write,hh.1,hh.2,Bool.and_self,if_true]
    exact this
   ·simp only [jL,Array.getElem?_setIfInBounds]
    by_cases e:o.toNat=o'
    ·rw [if_pos e,if_pos (by omega),if_pos e.symm]
    ·rw [if_neg e,if_neg (fun h=>e h.symm)]
     exact zg o' E8
   ·split
    ·exact hv
    ·exact h.u32 _ _ _
  ·exact Cg.stored hs (.inl (h.inX hi))
 ·refine⟨_,_,rfl,aE (fun hb=>absurd (by simpa using hb) he) (fun _=>⟨rfl,?_,?_⟩)⟩
  ·have:=(h.pu hM.pu).pu hp
   simpa [Mem.write,hh]using this
  ·exact(hM.pu.trans hp).mono (by simp)
theorem uc(h:bF w L m)(s:Bool)(p o:Int):
 Calls Tryd.prog 52 #[ptr L.g,fr s p,.int .i64 o] w fun e w'=>∃u,e= .returned u∧u= .int .u32 (m.eL s p o)∧Pu w w':=by
 refine mU _ s p o ?_
 intro g1 w1 hg hw
 have hM:=made hg hw
 refine⟨_,_,⟨hM.blk.at rfl,hM.blk.at rfl⟩,(mAt (h.pu hM.pu) s p).mono ?_⟩
 rintro e w2 ⟨_,rfl,rfl,hp⟩
 have zf:=hM.pu.trans hp
 refine⟨_,rfl,fun b w'=>w2=w'∧b= !(m.has s p && Mem.cF o),?_,?_⟩
 ·cases hh:m.has s p with
  | false=>exact aE (fun _=>⟨rfl,rfl⟩) (fun hb=>by simp at hb)
  | true=>
   refine aE (fun hb=>by simp at hb) (fun _=>aE (fun hb=>⟨rfl,?_⟩) (fun hb=>⟨rfl,?_⟩))
   ·simp at hb;simp [Mem.cF];omega
   ·simp at hb;simp only [Mem.cF,ge_iff_le];rw [Bool.eq_iff_iff];simp;omega
 ·rintro _ x _ ⟨rfl,rfl⟩
  refine aE (fun hb=>?_) (fun hb=>?_)
  ·have hh:(m.has s p && Mem.cF o)=false:=by rwa [Bool.not_eq_true']at hb
   exact⟨by simp [Mem.eL,hh],zf⟩
  ·have hh:(m.has s p && Mem.cF o)=true:=by simpa using hb
   have hh':=hh
   simp only [Bool.and_eq_true]at hh
   have hi:=Mem.dw hh.1
   have ho:=Mem.fH hh.2
   obtain⟨T,cs,hr,xS,zg⟩:=(h.pu zf).pgs s p.toNat hi
   rw [if_pos hh.1]
   refine aw _ rfl ⟨ho,_,by rw [Nat.mul_one];exact hr.at (zg _ (by omega)),?_,zf⟩
   simp only [Mem.eL,hh',if_true]
end
end
section
theorem oC:S1 Tryd.prog 47 22 (.int .u32 0) 4:=S1.of (by kernel_rfl) (by kernel_rfl) rfl
theorem uA:S1 Tryd.prog 95 124 (.pointer none) 8:=S1.of (by kernel_rfl) (by kernel_rfl) rfl
def dA(w:World)(g:Nat)(f:Nat→Int):Prop:=∃T cs,Blk w g cs T∧cs.size=1024∧∀o,o<1024→cs[o]? =some (.int .u32 (f o))
structure er(w:World)(g n k:Nat)(pg:Nat→Nat)(f:Nat→Nat→Int)(b:Nat):Prop where
 row:∃T cs,Blk w g cs T∧cs.size=n∧∀i,i<k→cs[i]? =some (ptr (pg i))
 pgs:∀i,i<k→dA w (pg i) (f i)
 inj:∀i j,i<k→j<k→pg i=pg j→i=j
 dis:∀i,i<k→pg i≠g
 low:b≤g∧∀i,i<k→b≤pg i
theorem dA.lt {w:World} {g:Nat} {f:Nat→Int}(h:dA w g f):g<w.heap.size:=by obtain⟨T,cs,hb,_⟩:=h;exact hb.lt
theorem dA.pu {w w':World} {g:Nat} {f:Nat→Int}(h:dA w g f)(hk:Pu w w'):dA w' g f:=by obtain⟨T,cs,hb,h2⟩:=h;exact⟨T,cs,hk.blk hb,h2⟩
theorem dA.old {w w':World} {g g':Nat} {f:Nat→Int} {cs:Array Value} {T:TypeId}(h:dA w g f)(hs:aY w g' cs T w')(xi:g≠g'):dA w' g f:=by obtain⟨T,cs,hb,h2⟩:=h;exact⟨T,cs,hs.old hb xi,h2⟩
theorem er.pu {w w':World} {g n k b:Nat} {pg:Nat→Nat} {f:Nat→Nat→Int}(h:er w g n k pg f b)(hk:Pu w w'):er w' g n k pg f b:=by
 obtain⟨⟨T,cs,hr,h2⟩,h3,h4,h5,h6⟩:=h
 exact⟨⟨T,cs,hk.blk hr,h2⟩,fun i hi=>(h3 i hi).pu hk,h4,h5,h6⟩
theorem er.more {w w1 w2:World} {g n k b p:Nat} {pg:Nat→Nat} {f:Nat→Nat→Int}(h:er w g n k pg f b)(hk:Pu w w1)(hp:dA w1 p (f k))(hnew:w.heap.size≤p)(zq:k<n)(hb:b≤w.heap.size):
 ∃T cs,Blk w1 g cs T∧k+1≤cs.size∧∀w2,aY w1 g (setAt cs k [ptr p]) T w2→er w2 g n (k+1) (fun i=>if i=k then p else pg i) f b:=by
 obtain⟨⟨T,cs,hr,xS,h2⟩,h3,h4,h5,h6⟩:=h
 have hg:=hr.lt
 have hold:∀i,i<k→pg i≠p:=fun i hi=>by have:=(h3 i hi).lt;omega
 refine⟨T,cs,hk.blk hr,by omega,fun w2 hs=>⟨⟨T,_,hs.blk,by rw [dE];exact xS,fun i hi=>?_⟩,fun i hi=>?_,fun i j hi hj=>?_,fun i hi=>?_,h6.1,fun i hi=>?_⟩⟩
 ·rw [cT _ _ _ _ (by simp;omega)]
  by_cases e:i=k
  ·subst e;simp
  ·rw [if_neg (by simp;omega),if_neg e]
   exact h2 i (by omega)
 ·by_cases e:i=k
  ·subst e
   rw [if_pos rfl]
   exact hp.old hs (by omega)
  ·rw [if_neg e]
   exact((h3 i (by omega)).pu hk).old hs (h5 i (by omega))
 ·by_cases e:i=k<;>by_cases e':j=k
  ·intro _;omega
  ·rw [if_pos e,if_neg e'];intro hh;exact absurd hh.symm (hold j (by omega))
  ·rw [if_neg e,if_pos e'];intro hh;exact absurd hh (hold i (by omega))
  ·rw [if_neg e,if_neg e'];exact h4 i j (by omega) (by omega)
 ·split
  ·omega
  ·exact h5 i (by omega)
 ·split
  ·omega
  ·exact h6.2 i (by omega)
section
variable {w:World} {L:cS} {m:Mem}
theorem ud(n:Nat)(hn:n≤64):
 Calls Tryd.prog 46 #[.int .i64 n] w fun e w'=>∃v,e= .returned v∧∃g pg,v= .slice (some (Addr.mk g 0 none)) n n∧er w' g n n pg (fun _ _=>0) w.heap.size∧Pu w w':=by
 refine mW _ ?_
 refine gR uA (by omega) (by omega) (by omega) fun g w1 hM=>?_
 rw [Int.toNat_natCast]at hM ⊢
 refine⟨fun k x w'=>∃i:Nat,x=(i:Int)∧i≤n∧k=n - i∧(∃pg,er w' g n i pg (fun _ _=>0) w.heap.size)∧Pu w w',⟨n,0,rfl,by omega,by omega,⟨fun _=>0,⟨⟨_,_,hM.blk,by simp,by simp⟩,by simp,by simp,by simp,by have:=hM.num;omega,by simp⟩⟩,hM.pu⟩,?_⟩
 rintro k _ x w2 ⟨i,rfl,hi,rfl,⟨pg,hP⟩,ED⟩
 refine aE (fun hb=>?_) (fun hb=>?_)
 ·have zT:i<n:=by simpa using hb
  intro p w3 hp FJ
  have M1:=made hp FJ
  obtain⟨T,cs,hr,xS,Me⟩:=hP.more (w2:=w3) M1.pu ⟨_,_,M1.blk,by simp,fun o ho=>by simp [ho]⟩ (by rw [M1.num];omega) zT ED.size
  refine⟨⟨by omega,by omega⟩,aw _ rfl ?_⟩
  rw [Nat.mul_one,Int.toNat_natCast]
  refine aI hr xS fun w4 hs=>⟨n - (i+1),by omega,i+1,?_,zT,rfl,⟨_,Me _ hs⟩,?_⟩
  ·rw [aM (by omega)];omega
  ·have hg:w.heap.size≤g:=hP.low.1
   exact((ED.made M1).mono (by simp):Ch (fun _=>False) w w3).stored hs (.inr hg)
 ·have:i=n:=by simp at hb;omega
  subst this
  exact⟨g,pg,rfl,hP,ED⟩
theorem wm(s i:Int)(hs:1≤s∧s≤64)(hi:1≤i∧i≤64):
 Calls Tryd.prog 29 #[.int .i64 s,.int .i64 i] w fun e w'=>∃v,e= .returned v∧∃L:cS,v= .tuple #[ptr L.g,.int .i64 0]∧bF w' L (Mem.fresh s.toNat i.toNat)∧(∀k,L.X k→w.heap.size≤k)∧Pu w w':=by
 refine n6 s i ?_
 refine⟨fun b w'=>w=w'∧b=false,?_,?_⟩
 ·refine aE (fun hb=>by simp at hb;omega) (fun _=>aE (fun hb=>by simp at hb;omega) (fun _=>aE (fun hb=>by simp at hb;omega) (fun _=>⟨rfl,by simp;omega⟩)))
 rintro _ x _ ⟨rfl,rfl⟩
 refine aE (fun hb=>by cases hb) (fun _=>?_)
 obtain⟨S,rfl⟩:=Int.eq_ofNat_of_zero_le (show 0≤s by omega)
 obtain⟨I,rfl⟩:=Int.eq_ofNat_of_zero_le (show 0≤i by omega)
 refine(ud S (by omega)).mono ?_
 rintro e w1 ⟨_,rfl,a,pa,rfl,hA,GS⟩
 refine⟨_,_,_,rfl,(ud I (by omega)).mono ?_⟩
 rintro e w2 ⟨_,rfl,b,pb,rfl,hB,zf⟩
 refine⟨_,_,_,rfl,?_⟩
 intro g w3 hg FJ
 have hM:=made hg FJ
 have hA3:=(hA.pu zf).pu hM.pu
 have hB3:=hB.pu hM.pu
 have Oi:∀j,j<S→pa j<w1.heap.size:=fun j hj=>(hA.pgs j hj).lt
 have yj:a<w1.heap.size:=by obtain⟨T,cs,hr,_⟩:=hA.row;exact hr.lt
 have G0:∀j,j<I→pb j<w2.heap.size:=fun j hj=>(hB.pgs j hj).lt
 have hbg:b<w2.heap.size:=by obtain⟨T,cs,hr,_⟩:=hB.row;exact hr.lt
 have h12:=zf.size
 have h01:=GS.size
 have hgn:=hM.num
 refine⟨⟨g,a,b,fun s=>match s with | true=>pa | false=>pb,fun s=>match s with | true=>S | false=>I⟩,rfl,⟨fun s=>by cases s<;>rfl,⟨(_,_),hM.blk⟩,fun s=>?_,fun s i hi=>?_,fun s i s' i' hi zT e=>?_,⟨by show a≠g;omega,by show b≠g;omega,fun s i hi=>?_⟩,fun _ _ _=>by simp [Mem.fresh],by simp [Mem.fresh];omega⟩,?_,(GS.trans zf).made hM⟩
 ·cases s
  ·obtain⟨T,cs,hr,_,h2⟩:=hB3.row;exact⟨T,cs,hr,h2⟩
  ·obtain⟨T,cs,hr,_,h2⟩:=hA3.row;exact⟨T,cs,hr,h2⟩
 ·cases s
  ·exact hB3.pgs i hi
  ·exact hA3.pgs i hi
 ·cases s<;>cases s'<;>simp only [Mem.cnt,Mem.fresh,Int.toNat_natCast]at hi zT<;>simp only at e
  ·exact⟨rfl,hB.inj _ _ hi zT e⟩
  ·have:=hB.low.2 i hi;have:=Oi i' zT;omega
  ·have:=hB.low.2 i' zT;have:=Oi i hi;omega
  ·exact⟨rfl,hA.inj _ _ hi zT e⟩
 ·cases s<;>simp only [Mem.cnt,Mem.fresh,Int.toNat_natCast]at hi<;>simp only
  ·have:=hB.low.2 i hi;have:=G0 i hi;have:=hB.dis i hi
   refine⟨?_,?_,this⟩<;>omega
  ·have:=hA.low.2 i hi;have:=Oi i hi;have h3:=hA.dis i hi;have:=hB.low.1
   refine⟨?_,h3,?_⟩<;>omega
 ·rintro k (rfl | rfl | rfl | ⟨s,i,hi,rfl⟩)
  ·omega
  ·exact hA.low.1
  ·have:=hB.low.1;omega
  ·cases s<;>simp only [Mem.cnt,Mem.fresh,Int.toNat_natCast]at hi<;>simp only
   ·have:=hB.low.2 i hi;omega
   ·exact hA.low.2 i hi
theorem uJ(h:bF w L m)(s:Bool)(p t:Int):
 Calls Tryd.prog 64 #[ptr L.g,fr s p,.int .i64 t] w fun e w'=>∃v,e= .returned v∧
  (m.has s p=true∧v= .tuple #[ptr (L.pg s p.toNat),.int .i64 0]∧bF w' L (m.tick (i64.wrap (t*1024)))∧Ch L.X w w'∨
   m.has s p=false∧v= .tuple #[.pointer none,.int .i64 5]∧Pu w w'):=by
 refine k8 _ s p t ?_
 intro g1 w1 hg hw
 have hM:=made hg hw
 refine⟨_,_,⟨hM.blk.at rfl,hM.blk.at rfl⟩,(mAt (h.pu hM.pu) s p).mono ?_⟩
 rintro e w2 ⟨_,rfl,rfl,hp⟩
 have zf:=hM.pu.trans hp
 refine⟨_,rfl,?_⟩
 cases hh:m.has s p with
 | false=>exact aE (fun _=>.inr ⟨rfl,rfl,zf⟩) (fun hb=>by simp at hb)
 | true=>
  refine aE (fun hb=>by simp at hb) (fun _=>?_)
  have h2:=h.pu zf
  obtain⟨T,hd⟩:=h2.hd
  refine vM hd rfl (aw _ rfl (aI hd (by simp) fun w3 hs=>.inl ⟨rfl,rfl,h2.ua hs,?_⟩))
  exact(zf.mono (by simp)).stored hs (.inl (.inl rfl))
theorem vH(h:bF w L m)(s:Bool)(p:Int):
 Calls Tryd.prog 49 #[ptr L.g,fr s p] w fun e w'=>∃v,e= .returned v∧v= .int .i64 (m.kv s p)∧bF w' L (m.zero s p)∧Ch L.X w w':=by
 refine mQ _ s p ?_
 intro g1 w1 hg hw
 have hM:=made hg hw
 refine⟨_,_,⟨hM.blk.at rfl,hM.blk.at rfl⟩,(uJ (h.pu hM.pu) s p 1).mono ?_⟩
 rintro e w2 ⟨_,rfl,⟨hh,rfl,h2,hc⟩ | ⟨hh,rfl,hp⟩⟩
 ·refine⟨_,_,rfl,aE (fun _=>aw _ rfl ?_) (fun hb=>by simp at hb)⟩
  rintro A rfl N rfl C rfl
  have hi:=Mem.dw hh
  obtain⟨T,cs,hr,xS,zg⟩:=h2.pgs s p.toNat (by simpa using hi)
  refine rN (o:=0) oC rfl hr (by omega) (by omega) fun w3 hs=>⟨?_,?_,?_⟩
  ·simp [Mem.kv,hh]
  ·have:=h2.aK (f:=fun _=>0) (by simpa using hi) hs (by rw [dE];exact xS) (fun o ho=>?_) (fun o=>by simp)
   ·simp only [Mem.zero,hh,if_true]
    exact this
   ·have hl:(List.replicate (1024 - 0) (Value.int .u32 0)).length=1024:=List.length_replicate ..
    rw [cT _ _ _ _ (by rw [hl];omega),if_pos (by rw [hl];omega),List.getElem?_replicate,if_pos (by omega)]
  ·exact(((Ch.refl _ w).made hM).trans hc).stored hs (.inl (h.inX hi))
 ·refine⟨_,_,rfl,aE (fun hb=>by simp at hb) (fun _=>⟨?_,?_,?_⟩)⟩
  ·simp [Mem.kv,hh]
  ·simpa [Mem.zero,hh]using (h.pu hM.pu).pu hp
  ·exact(hM.pu.trans hp).mono (by simp)
end
end
structure Ent where
 typ:Int
 owner:Int
 refs:Int
 state:Int
 ck:Bool
deriving DecidableEq
namespace Ent
abbrev free:Ent:=⟨0,0,0,0,false⟩
def ok(e:Ent):Bool:=
 decide (0≤e.typ∧e.typ≤6∧0≤e.owner∧e.owner≤63∧0≤e.refs∧e.refs≤63∧(e.typ=0→e.owner=0)∧(e.typ≠1→e.refs=0∧e.state=0)∧(e.typ=1→1≤e.state∧e.state≤3)∧(e.typ≠2→e.ck=false))
def w0(e:Ent):Int:=e.typ+16*e.state+65536*e.owner+(if e.ck then 256 else 0)
def w1(e:Ent):Int:=e.refs
def parts(a b:Int):Ent:=⟨a % 8,a / 65536 % 64,b % 64,a / 16 % 4,decide (a / 256 % 2=1)⟩
def dec(a b:Int):Ent:=if(parts a b).ok && decide ((parts a b).w0=a) && decide ((parts a b).w1=b)then parts a b else free
def iD(a b:Int):Int:=if(parts a b).ok && decide ((parts a b).w0=a) && decide ((parts a b).w1=b)then 0 else 110
theorem eh {e:Ent}(h:e.ok=true):0≤e.typ∧e.typ≤6∧0≤e.owner∧e.owner≤63∧0≤e.refs∧e.refs≤63∧(e.typ=0→e.owner=0)∧(e.typ≠1→e.refs=0∧e.state=0)∧(e.typ=1→1≤e.state∧e.state≤3)∧(e.typ≠2→e.ck=false):=by
 simpa only [ok,decide_eq_true_eq]using h
theorem eg {e:Ent}(h:e.ok=true):0≤e.state∧e.state≤3:=by
 have:=eh h
 by_cases h1:e.typ=1<;>omega
theorem pG {e:Ent}(h:e.ok=true):parts e.w0 e.w1=e:=by
 have h1:=eh h
 have h2:=eg h
 obtain⟨t,o,r,s,n⟩:=e
 simp only at h1 h2
 cases n<;>simp only [parts,w0,w1,Ent.mk.injEq,decide_eq_true_eq,decide_eq_false_iff_not,if_true,Bool.false_eq_true,if_false]<;>omega
theorem oQ {e:Ent}(h:e.ok=true):dec e.w0 e.w1=e∧iD e.w0 e.w1=0:=by
 unfold dec iD
 rw [pG h]
 simp [h]
theorem qB {e:Ent}(h:e.ok=true):0≤e.w0∧e.w0<4294967296:=by
 have h1:=eh h
 have h2:=eg h
 unfold w0
 split<;>omega
theorem qA {e:Ent}(h:e.ok=true):0≤e.w1∧e.w1<4294967296:=by
 have h1:=eh h
 unfold w1
 omega
theorem tq:free.ok=true:=by decide
end Ent
structure DB where
 mem:Mem
 aO:Int
 ent:Nat→Ent
namespace DB
def S(d:DB):Nat:=d.mem.S
def has(d:DB)(p:Int):Bool:=decide (0≤p∧p<(d.S:Int))
def at_(d:DB)(p:Int):Ent:=d.ent p.toNat
def set(d:DB)(p:Int)(e:Ent):DB:= {d with ent:=fun q=>if q=p.toNat then e else d.ent q}
def entry(d:DB)(p:Int):Ent:=if d.has p then d.at_ p else .free
def iC(d:DB)(p:Int):Int:=if d.has p then 0 else 5
def tj(d:DB)(p:Int):Bool:=d.has p && (d.at_ p).typ==1
def bJ(d:DB)(m:Mem):DB:=⟨m,d.aO,d.ent⟩
def ow(d:DB)(b:Int):DB:=⟨d.mem,b,d.ent⟩
def tW(d:DB)(f:Mem→Mem):DB:=d.bJ (f d.mem)
def free(d:DB):Int:=(((List.range d.S).filter fun p=>(d.ent p).typ==0).length:Int)
def turns(t:Int):Bool:=t==4 || t==5 || t==6
def sI(d:DB)(p t s:Int):Int:=
 if !d.has p then 5 else if t !=2 && !turns t then 124 else if !d.tj s || decide ((d.at_ s).refs≥63)then 122 else if(d.at_ p).typ !=0 then 120 else 0
def more(d:DB)(s k:Int):DB:=d.set s {d.at_ s with refs:=(d.at_ s).refs+k}
def ur(d:DB)(p t s:Int):DB:=(d.set p ⟨t,s,0,0,false⟩).more s 1
def take(d:DB)(p t s:Int):DB:=if d.sI p t s=0 then d.ur p t s else d
def words(d:DB):List Int:=d.aO::(List.range d.S).flatMap fun p=>[(d.ent p).w0,(d.ent p).w1]
structure Ok(d:DB):Prop where
 ent:∀p,p<d.S→(d.ent p).ok=true∧(d.ent p).owner<d.S
 aO:0≤d.aO∧d.aO≤64
@[simp] theorem wz(d:DB)(p:Int)(e:Ent):(d.set p e).S=d.S:=rfl
@[simp] theorem vW(d:DB)(p q:Int)(e:Ent):(d.set p e).has q=d.has q:=rfl
@[simp] theorem mem_set(d:DB)(p:Int)(e:Ent):(d.set p e).mem=d.mem:=rfl
@[simp] theorem uU(d:DB)(p:Int)(e:Ent):(d.set p e).aO=d.aO:=rfl
@[simp] theorem ub(d:DB)(m:Mem):(d.bJ m).mem=m:=rfl
@[simp] theorem rP(d:DB)(m:Mem):(d.bJ m).aO=d.aO:=rfl
@[simp] theorem uY(d:DB)(m:Mem)(p:Int):(d.bJ m).at_ p=d.at_ p:=rfl
@[simp] theorem vr(d:DB)(m:Mem):(d.bJ m).S=m.S:=rfl
@[simp] theorem vq(d:DB)(b:Int):(d.ow b).mem=d.mem:=rfl
@[simp] theorem tz(d:DB)(b:Int):(d.ow b).aO=b:=rfl
@[simp] theorem vQ(d:DB)(b:Int)(p:Int):(d.ow b).at_ p=d.at_ p:=rfl
@[simp] theorem vY(d:DB)(b:Int):(d.ow b).S=d.S:=rfl
@[simp] theorem qx(d:DB)(m m':Mem):(d.bJ m).bJ m'=d.bJ m':=rfl
theorem gT {d:DB} {p:Int}(h:d.has p=true):0≤p∧p<(d.S:Int):=by simpa [has]using h
theorem dw {d:DB} {p:Int}(h:d.has p=true):p.toNat<d.S:=by have:=gT h;omega
theorem Ok.at_ {d:DB}(h:d.Ok) {p:Int}(hp:d.has p=true):(d.at_ p).ok=true∧(d.at_ p).owner<d.S∧0≤(d.at_ p).owner:=
 ⟨(h.ent _ (dw hp)).1,(h.ent _ (dw hp)).2,(Ent.eh (h.ent _ (dw hp)).1).2.2.1⟩
end DB
section
structure dL where
 g:Nat
 a:Nat
 M:cS
def dL.X(L:dL):Nat→Prop:=fun k=>k=L.g∨k=L.a∨L.M.X k
abbrev DB.n2(D:DB):Nat:=2*D.mem.S
structure DBP(w:World)(L:dL)(D:DB):Prop where
 hd:∃T,Blk w L.g #[.pointer (some (Addr.mk L.M.g 0 none)),.int .i64 D.aO,.slice (some (Addr.mk L.a 0 none)) D.n2 D.n2] T
 ws:∃T cs,Blk w L.a cs T∧cs.size=D.n2∧∀p,p<D.S→cs[2*p]? =some (.int .u32 (D.ent p).w0)∧cs[2*p+1]? =some (.int .u32 (D.ent p).w1)
 mem:bF w L.M D.mem
 ok:D.Ok
 dis:L.a≠L.g∧¬L.M.X L.g∧¬L.M.X L.a
section
variable {w w' w2:World} {L:dL} {D:DB} {Y:Nat→Prop}
theorem DBP.lt(h:DBP w L D):∀k,L.X k→k<w.heap.size:=by
 rintro k (rfl | rfl | hk)
 ·obtain⟨T,hd⟩:=h.hd;exact hd.lt
 ·obtain⟨T,cs,hr,_⟩:=h.ws;exact hr.lt
 ·exact h.mem.lt k hk
theorem DBP.ch(h:DBP w L D)(hk:Ch Y w w')(hb:∀k,L.X k→¬Y k):DBP w' L D:=by
 refine⟨?_,?_,h.mem.ch hk fun k hx=>hb k (.inr (.inr hx)),h.ok,h.dis⟩
 ·obtain⟨T,hd⟩:=h.hd;exact⟨T,hk.blk hd (hb _ (.inl rfl))⟩
 ·obtain⟨T,cs,hr,h2⟩:=h.ws;exact⟨T,cs,hk.blk hr (hb _ (.inr (.inl rfl))),h2⟩
theorem DBP.pu(h:DBP w L D)(hk:Pu w w'):DBP w' L D:=h.ch hk (by simp)
theorem DBP.S64(h:DBP w L D):D.S≤64:=h.mem.most.1
theorem DBP.tW(h:DBP w L D) {m:Mem}(hm:bF w' L.M m)(hc:Ch L.M.X w w')(hs:m.S=D.mem.S):DBP w' L (D.bJ m):=by
 refine⟨?_,?_,hm,⟨fun p hp=>?_,h.ok.aO⟩,h.dis⟩
 ·obtain⟨T,hd⟩:=h.hd
  refine⟨T,?_⟩
  show Blk w' L.g #[_,_,.slice _ (2*m.S) (2*m.S)] T
  rw [hs];exact hc.blk hd h.dis.2.1
 ·obtain⟨T,cs,hr,h2⟩:=h.ws
  refine⟨T,cs,hc.blk hr h.dis.2.2,?_⟩
  show cs.size=2*m.S∧∀p,p<m.S→_
  rw [hs];exact h2
 ·have GU:p<m.S:=hp
  rw [hs]at GU
  have:=h.ok.ent p GU
  refine⟨this.1,?_⟩
  show _<(m.S:Int)
  rw [hs];exact this.2
theorem Mem.tH(m:Mem)(s:Bool)(p o v:Int):(m.write s p o v).S=m.S:=by unfold Mem.write;split<;>rfl
theorem dL.inM(L:dL)(k:Nat)(h:L.M.X k):L.X k:= .inr (.inr h)
theorem tt(h:DBP w L D)(s:Bool)(p o v:Int)(hv:0≤v∧v<4294967296):
 Calls Tryd.prog 35 #[ptr L.M.g,fr s p,.int .i64 o,.int .u32 v] w fun e w'=>∃u,e= .returned u∧u= .int .i64 (D.mem.err s p o)∧DBP w' L (D.bJ (D.mem.write s p o v))∧Ch L.M.X w w':=
 (uI h.mem s p o v hv).mono fun e w' ⟨u,he,hu,hm,hc⟩=>⟨u,he,hu,h.tW hm hc (Mem.tH ..),hc⟩
theorem uQ(h:DBP w L D)(s:Bool)(p o:Int):
 Calls Tryd.prog 52 #[ptr L.M.g,fr s p,.int .i64 o] w fun e w'=>∃u,e= .returned u∧u= .int .u32 (D.mem.eL s p o)∧Pu w w':=uc h.mem s p o
theorem pv(x:Int):0≤u32.wrap x∧u32.wrap x<4294967296:=by rw [u32_eq];omega
end
end
end Go.Proofs.YtkbcgjfejboigaaDoor
namespace Go.Proofs.YtkbcgjfejboigaaDoor
open Go Go.RowKit V
open Go.IntKind (i64 u32 u64)
open Go.Proofs (Tryd.prog)
section
set_option maxRecDepth 100000
def cN(x:Int)(k:Int)(R:ax)(w:World):Prop:=
 ∀s:Int,s=(u64.wrap (BitVec.ofInt u64.bits (u64.wrap k) &&& BitVec.ofInt u64.bits 31).toNat)→
 dF s fun GP=>
 dF (u64.wrap (32 - s)) fun EZ=>
 R (.int .u32 (u32.wrap (BitVec.ofInt u32.bits (u32.wrap ((x:Int)*2 ^ (min GP u32.bits))) ||| BitVec.ofInt u32.bits ((x:Int).fdiv (2 ^ (min EZ u32.bits)))).toNat)) w
def ez:Ann:= .leaf
theorem BitsRotateLeft32_eq(x:Int)(k:Int)(R:ax)(w:World):cN x k R w=vcF Tryd.prog aB [5] Tryd.f93 ez [(.int .u32 x),(.int .i64 k)] R none w:=by kernel_rfl
theorem dM(x:Int)(k:Int) {R:ax} {w:World}(h:cN x k R w):Calls Tryd.prog 93 #[(.int .u32 x),(.int .i64 k)] w fun e w'=>∃v,e= .returned v∧R v w':=
 aq Tryd.func93 av ar ((BitsRotateLeft32_eq x k R w).mp h)
def kj(wv:Int)(n:Int)(R:ax)(w:World):Prop:=
 Calls Tryd.prog 93 #[(.int .u32 wv),(.int .i64 (i64.wrap (0 - n)))] w fun e wC=>
 ∃x8:Int,e= .returned (.int .u32 x8)∧
 R (.int .u32 x8) wC
def qh:Ann:= .leaf
theorem SRight_eq(wv:Int)(n:Int)(R:ax)(w:World):kj wv n R w=vcF Tryd.prog aB [] Tryd.f89 qh [(.int .u32 wv),(.int .i64 n)] R none w:=by kernel_rfl
theorem kZ(wv:Int)(n:Int) {R:ax} {w:World}(h:kj wv n R w):Calls Tryd.prog 89 #[(.int .u32 wv),(.int .i64 n)] w fun e w'=>∃v,e= .returned v∧R v w':=
 aq Tryd.func89 av ar ((SRight_eq wv n R w).mp h)
def ft(blocka:Int)(blockb:Int)(blockc:Int)(blockd:Int)(blocke:Int)(blockf:Int)(blockg:Int)(blockh:Int)(blocki:Int)(blockj:Int)(blockk:Int)(blockl:Int)(blockm:Int)(blockn:Int)(blocko:Int)(blockp:Int)(R:ax)(w:World):Prop:=
 ∀(gv:Nat)(wv:World),gv=w.heap.size→wv=w.alloc (.cells #[(.int .u32 blocka),(.int .u32 blockb),(.int .u32 blockc),(.int .u32 blockd),(.int .u32 blocke),(.int .u32 blockf),(.int .u32 blockg),(.int .u32 blockh),(.int .u32 blocki),(.int .u32 blockj),(.int .u32 blockk),(.int .u32 blockl),(.int .u32 blockm),(.int .u32 blockn),(.int .u32 blocko),(.int .u32 blockp)] 150)→
 ∀(wD:Nat)(wC:World),wD=wv.heap.size→wC=wv.alloc (.cells (Array.replicate 64 (.int .u32 0)) 158)→
 ∀(wY:Nat)(wF:World),wY=wC.heap.size→wF=wC.alloc (.cells (Array.replicate 64 (.int .u32 0)) 158)→
 ∃b:Nat→Nat→Prop,
 ∀F3:Option Addr,F3=(some (if 64=0 then Addr.mk wY 0 none else(Addr.mk wY 0 none).add (0*1)))→∀EP:Nat,EP=64 - 0→∀F2:Nat,F2=64 - 0→
 ∀G6:Option Addr,G6=(some (if 16=0 then Addr.mk gv 0 none else(Addr.mk gv 0 none).add (0*1)))→∀G4:Nat,G4=16 - 0→∀G5:Nat,G5=16 - 0→
 ∃x9:Int,∃wH,(Builtin.copy_ #[47,47] 3 #[(.slice F3 EP F2),(.slice G6 G4 G5)]:Sem Value).run Tryd.prog wF.drew= .ok (.int .i64 x9) wH∧
 ∃b1:Nat→Nat→Prop,(∀i k,b i k→b1 i k)∧
 ∀t:Int,t=16→
 ∃I:Nat→Int→World→Prop,(∃m,I m t wH)∧∀(m:Nat)(Be:Nat→Value)(t1:Int),∀wJ,I m t1 wJ→
 split (decide ((t1:Int)<64)) (
  (0≤(i64.wrap (t1 - 15):Int)∧(i64.wrap (t1 - 15):Int)<((64:Nat):Int))∧
  ∃xM:Int,wJ.drew.cell? ((Addr.mk wY 0 none).add (Int.toNat (i64.wrap (t1 - 15))*1))=some (.int .u32 xM)∧
  (0≤(i64.wrap (t1 - 2):Int)∧(i64.wrap (t1 - 2):Int)<((64:Nat):Int))∧
  ∃xx:Int,wJ.drew.cell? ((Addr.mk wY 0 none).add (Int.toNat (i64.wrap (t1 - 2))*1))=some (.int .u32 xx)∧
  ∃b2:Nat→Nat→Prop,
  (0≤(i64.wrap (t1 - 16):Int)∧(i64.wrap (t1 - 16):Int)<((64:Nat):Int))∧
  b2 4 (((Addr.mk wY 0 none).add (Int.toNat (i64.wrap (t1 - 16))*1)).block)∧
  ∃Bi:Int,wJ.drew.drew.cell? ((Addr.mk wY 0 none).add (Int.toNat (i64.wrap (t1 - 16))*1))=some (.int .u32 Bi)∧
  (0≤(i64.wrap (t1 - 7):Int)∧(i64.wrap (t1 - 7):Int)<((64:Nat):Int))∧
  b2 17 (((Addr.mk wY 0 none).add (Int.toNat (i64.wrap (t1 - 7))*1)).block)∧
  ∃Fo:Int,wJ.drew.drew.cell? ((Addr.mk wY 0 none).add (Int.toNat (i64.wrap (t1 - 7))*1))=some (.int .u32 Fo)∧
  Calls Tryd.prog 89 #[(.int .u32 xM),(.int .i64 7)] wJ.drew.drew fun e wO=>
  ∃yO:Int,e= .returned (.int .u32 yO)∧
  Kept (aX b2 [0,1,2,3,4,7,10,11,14,15,16,17,19,21,24,25]) wJ.drew.drew wO∧∃b3:Nat→Nat→Prop,(∀i k,b2 i k→b3 i k)∧
  Calls Tryd.prog 89 #[(.int .u32 xM),(.int .i64 18)] wO fun e wN=>
  ∃zr:Int,e= .returned (.int .u32 zr)∧
  Kept (aX b3 [0,1,2,3,4,10,11,14,15,16,17,19,21,24,25]) wO wN∧∃b4:Nat→Nat→Prop,(∀i k,b3 i k→b4 i k)∧
  Calls Tryd.prog 89 #[(.int .u32 xx),(.int .i64 17)] wN fun e wQ=>
  ∃Ar:Int,e= .returned (.int .u32 Ar)∧
  Kept (aX b4 [0,1,2,3,4,9,10,11,12,13,14,15,16,17,18,21,24,25]) wN wQ∧∃b5:Nat→Nat→Prop,(∀i k,b4 i k→b5 i k)∧
  Calls Tryd.prog 89 #[(.int .u32 xx),(.int .i64 19)] wQ fun e wK=>
  ∃EL:Int,e= .returned (.int .u32 EL)∧
  Kept (aX b5 [0,1,2,3,4,5,9,10,11,12,13,14,15,16,17,18,24,25]) wQ wK∧∃b6:Nat→Nat→Prop,(∀i k,b5 i k→b6 i k)∧
  (0≤(t1:Int)∧(t1:Int)<((64:Nat):Int))∧
  aD wK ((Addr.mk wY 0 none).add (Int.toNat t1*1)) [(.int .u32 (u32.wrap ((u32.wrap ((u32.wrap (Bi+(u32.wrap (BitVec.ofInt u32.bits (u32.wrap (BitVec.ofInt u32.bits yO ^^^ BitVec.ofInt u32.bits zr).toNat) ^^^ BitVec.ofInt u32.bits ((xM:Int).fdiv (2 ^ 3))).toNat)))+Fo))+(u32.wrap (BitVec.ofInt u32.bits (u32.wrap (BitVec.ofInt u32.bits Ar ^^^ BitVec.ofInt u32.bits EL).toNat) ^^^ BitVec.ofInt u32.bits ((xx:Int).fdiv (2 ^ 10))).toNat))))] fun xw=>
  ∃b7:Nat→Nat→Prop,(∀i k,b6 i k→b7 i k)∧
  ∀t2:Int,t2=(i64.wrap (t1+1))→
  ∃m1,m1<m∧I m1 t2 xw) (
  ∃CF:Array Value,(CF.size=64∧∀i u,CF[i]? =some u→wJ.cell? ((Addr.mk wY 0 none).add i)=some u)∧
  CF.size=64∧(∀v∈CF.toList,one? v True)∧
  aD wJ (Addr.mk wD 0 none) CF.toList fun wO=>
  ∃r0:Array Value,(r0.size=64∧∀i u,r0[i]? =some u→wO.cell? ((Addr.mk wD 0 none).add i)=some u)∧
  R (.agg r0) wO)
def kY:Ann:=(.node none .leaf (.node none .leaf (.node none .leaf (.node none (.node none .leaf (.node none (.node (some ⟨[(4,.one (.int .i64))],[4,5,6,10,11,12,13,14,15,16,17,18,19,20,21,22,23,24,25,26,27,28,29,30,31,32,33,34,35,36,37,38,39,40,41,42,43,44,45,46,47,48,49,50]⟩) .leaf .leaf) .leaf)) .leaf))))
theorem SSchedule_eq(blocka:Int)(blockb:Int)(blockc:Int)(blockd:Int)(blocke:Int)(blockf:Int)(blockg:Int)(blockh:Int)(blocki:Int)(blockj:Int)(blockk:Int)(blockl:Int)(blockm:Int)(blockn:Int)(blocko:Int)(blockp:Int)(R:ax)(w:World):ft blocka blockb blockc blockd blocke blockf blockg blockh blocki blockj blockk blockl blockm blockn blocko blockp R w=vcF Tryd.prog aB [4] Tryd.f88 kY [(.agg #[(.int .u32 blocka),(.int .u32 blockb),(.int .u32 blockc),(.int .u32 blockd),(.int .u32 blocke),(.int .u32 blockf),(.int .u32 blockg),(.int .u32 blockh),(.int .u32 blocki),(.int .u32 blockj),(.int .u32 blockk),(.int .u32 blockl),(.int .u32 blockm),(.int .u32 blockn),(.int .u32 blocko),(.int .u32 blockp)])] R none w:=by kernel_rfl
theorem gK(blocka:Int)(blockb:Int)(blockc:Int)(blockd:Int)(blocke:Int)(blockf:Int)(blockg:Int)(blockh:Int)(blocki:Int)(blockj:Int)(blockk:Int)(blockl:Int)(blockm:Int)(blockn:Int)(blocko:Int)(blockp:Int) {R:ax} {w:World}(h:ft blocka blockb blockc blockd blocke blockf blockg blockh blocki blockj blockk blockl blockm blockn blocko blockp R w):Calls Tryd.prog 88 #[(.agg #[(.int .u32 blocka),(.int .u32 blockb),(.int .u32 blockc),(.int .u32 blockd),(.int .u32 blocke),(.int .u32 blockf),(.int .u32 blockg),(.int .u32 blockh),(.int .u32 blocki),(.int .u32 blockj),(.int .u32 blockk),(.int .u32 blockl),(.int .u32 blockm),(.int .u32 blockn),(.int .u32 blocko),(.int .u32 blockp)])] w fun e w'=>∃v,e= .returned v∧R v w':=
 aq Tryd.func88 av ar ((SSchedule_eq blocka blockb blockc blockd blocke blockf blockg blockh blocki blockj blockk blockl blockm blockn blocko blockp R w).mp h)
def kl(statea:Int)(stateb:Int)(statec:Int)(stated:Int)(statee:Int)(statef:Int)(stateg:Int)(stateh:Int)(blocka:Int)(blockb:Int)(blockc:Int)(blockd:Int)(blocke:Int)(blockf:Int)(blockg:Int)(blockh:Int)(blocki:Int)(blockj:Int)(blockk:Int)(blockl:Int)(blockm:Int)(blockn:Int)(blocko:Int)(blockp:Int)(R:ax)(w:World):Prop:=
 ∀(gv:Nat)(wv:World),gv=w.heap.size→wv=w.alloc (.cells #[(.int .u32 statea),(.int .u32 stateb),(.int .u32 statec),(.int .u32 stated),(.int .u32 statee),(.int .u32 statef),(.int .u32 stateg),(.int .u32 stateh)] 60)→
 ∀(wD:Nat)(wC:World),wD=wv.heap.size→wC=wv.alloc (.cells #[(.int .u32 blocka),(.int .u32 blockb),(.int .u32 blockc),(.int .u32 blockd),(.int .u32 blocke),(.int .u32 blockf),(.int .u32 blockg),(.int .u32 blockh),(.int .u32 blocki),(.int .u32 blockj),(.int .u32 blockk),(.int .u32 blockl),(.int .u32 blockm),(.int .u32 blockn),(.int .u32 blocko),(.int .u32 blockp)] 150)→
 ∀(wY:Nat)(wF:World),wY=wC.heap.size→wF=wC.alloc (.cells (#[(.int .u32 0),(.int .u32 0),(.int .u32 0),(.int .u32 0),(.int .u32 0),(.int .u32 0),(.int .u32 0),(.int .u32 0)]) 60)→
 ∃za:Int,∃yF:Int,∃El:Int,∃Ek:Int,∃Ej:Int,∃Ls:Int,∃Lr:Int,∃Lq:Int,(wF.cell? ((Addr.mk gv 0 none).add 0)=some (.int .u32 za)∧wF.cell? ((Addr.mk gv 0 none).add 1)=some (.int .u32 yF)∧wF.cell? ((Addr.mk gv 0 none).add 2)=some (.int .u32 El)∧wF.cell? ((Addr.mk gv 0 none).add 3)=some (.int .u32 Ek)∧wF.cell? ((Addr.mk gv 0 none).add 4)=some (.int .u32 Ej)∧wF.cell? ((Addr.mk gv 0 none).add 5)=some (.int .u32 Ls)∧wF.cell? ((Addr.mk gv 0 none).add 6)=some (.int .u32 Lr)∧wF.cell? ((Addr.mk gv 0 none).add 7)=some (.int .u32 Lq))∧
 ∀(wV:Nat)(wH:World),wV=wF.heap.size→wH=wF.alloc (.cells (#[(.int .u32 0),(.int .u32 0),(.int .u32 0),(.int .u32 0),(.int .u32 0),(.int .u32 0),(.int .u32 0),(.int .u32 0)]) 60)→
 aD wH (Addr.mk wV 0 none) [(.int .u32 za),(.int .u32 yF),(.int .u32 El),(.int .u32 Ek),(.int .u32 Ej),(.int .u32 Ls),(.int .u32 Lr),(.int .u32 Lq)] fun wJ=>
 ∃AR:Int,∃Bt:Int,∃Eg:Int,∃Ef:Int,∃Ee:Int,∃Ed:Int,∃Ec:Int,∃Eb:Int,∃Ea:Int,∃D9:Int,∃D8:Int,∃D7:Int,∃D6:Int,∃D5:Int,∃D4:Int,∃D3:Int,(wJ.cell? ((Addr.mk wD 0 none).add 0)=some (.int .u32 AR)∧wJ.cell? ((Addr.mk wD 0 none).add 1)=some (.int .u32 Bt)∧wJ.cell? ((Addr.mk wD 0 none).add 2)=some (.int .u32 Eg)∧wJ.cell? ((Addr.mk wD 0 none).add 3)=some (.int .u32 Ef)∧wJ.cell? ((Addr.mk wD 0 none).add 4)=some (.int .u32 Ee)∧wJ.cell? ((Addr.mk wD 0 none).add 5)=some (.int .u32 Ed)∧wJ.cell? ((Addr.mk wD 0 none).add 6)=some (.int .u32 Ec)∧wJ.cell? ((Addr.mk wD 0 none).add 7)=some (.int .u32 Eb)∧wJ.cell? ((Addr.mk wD 0 none).add 8)=some (.int .u32 Ea)∧wJ.cell? ((Addr.mk wD 0 none).add 9)=some (.int .u32 D9)∧wJ.cell? ((Addr.mk wD 0 none).add 10)=some (.int .u32 D8)∧wJ.cell? ((Addr.mk wD 0 none).add 11)=some (.int .u32 D7)∧wJ.cell? ((Addr.mk wD 0 none).add 12)=some (.int .u32 D6)∧wJ.cell? ((Addr.mk wD 0 none).add 13)=some (.int .u32 D5)∧wJ.cell? ((Addr.mk wD 0 none).add 14)=some (.int .u32 D4)∧wJ.cell? ((Addr.mk wD 0 none).add 15)=some (.int .u32 D3))∧
 Calls Tryd.prog 88 #[(.agg #[(.int .u32 AR),(.int .u32 Bt),(.int .u32 Eg),(.int .u32 Ef),(.int .u32 Ee),(.int .u32 Ed),(.int .u32 Ec),(.int .u32 Eb),(.int .u32 Ea),(.int .u32 D9),(.int .u32 D8),(.int .u32 D7),(.int .u32 D6),(.int .u32 D5),(.int .u32 D4),(.int .u32 D3)])] wJ fun e wO=>
 ∃BO:Array Value,e= .returned (.agg BO)∧
 ∃I:Nat→Int→World→Prop,(∃m,I m 0 wO)∧∀(m:Nat)(BF:Nat→Value)(xo:Int),∀wN,I m xo wN→
 split (decide ((xo:Int)<64)) (
  (0≤(xo:Int)∧(xo:Int)<((64:Nat):Int))∧
  ∃yT:Int,BO[Int.toNat xo*1]? =some (.int .u32 yT)∧
  (0≤(0:Int)∧(0:Int)<((8:Nat):Int))∧
  ∃xx:Int,wN.drew.cell? ((Addr.mk wV 0 none).add (Int.toNat 0*1))=some (.int .u32 xx)∧
  (0≤(4:Int)∧(4:Int)<((8:Nat):Int))∧
  ∃yY:Int,wN.drew.cell? ((Addr.mk wV 0 none).add (Int.toNat 4*1))=some (.int .u32 yY)∧
  ∃b:Nat→Nat→Prop,
  (0≤(7:Int)∧(7:Int)<((8:Nat):Int))∧
  b 1 (((Addr.mk wV 0 none).add (Int.toNat 7*1)).block)∧
  ∃yk:Int,wN.drew.drew.cell? ((Addr.mk wV 0 none).add (Int.toNat 7*1))=some (.int .u32 yk)∧
  (0≤(5:Int)∧(5:Int)<((8:Nat):Int))∧
  b 13 (((Addr.mk wV 0 none).add (Int.toNat 5*1)).block)∧
  ∃Fp:Int,wN.drew.drew.cell? ((Addr.mk wV 0 none).add (Int.toNat 5*1))=some (.int .u32 Fp)∧
  (0≤(6:Int)∧(6:Int)<((8:Nat):Int))∧
  b 18 (((Addr.mk wV 0 none).add (Int.toNat 6*1)).block)∧
  ∃Ar:Int,wN.drew.drew.cell? ((Addr.mk wV 0 none).add (Int.toNat 6*1))=some (.int .u32 Ar)∧
  (0≤(xo:Int)∧(xo:Int)<((64:Nat):Int))∧
  b 24 (((Addr.mk 1 0 none).add (Int.toNat xo*1)).block)∧
  ∃I6:Int,wN.drew.drew.cell? ((Addr.mk 1 0 none).add (Int.toNat xo*1))=some (.int .u32 I6)∧
  Calls Tryd.prog 89 #[(.int .u32 yY),(.int .i64 6)] wN.drew.drew fun e wQ=>
  ∃zs:Int,e= .returned (.int .u32 zs)∧
  Kept (aX b [0,1,4,7,11,12,13,14,15,16,17,18,19,20,22,23,24,26]) wN.drew.drew wQ∧∃b1:Nat→Nat→Prop,(∀i k,b i k→b1 i k)∧
  Calls Tryd.prog 89 #[(.int .u32 yY),(.int .i64 11)] wQ fun e wK=>
  ∃Bh:Int,e= .returned (.int .u32 Bh)∧
  Kept (aX b1 [0,1,7,11,12,13,14,15,16,17,18,19,20,22,23,24,26]) wQ wK∧∃b2:Nat→Nat→Prop,(∀i k,b1 i k→b2 i k)∧
  Calls Tryd.prog 89 #[(.int .u32 yY),(.int .i64 25)] wK fun e xw=>
  ∃J9:Int,e= .returned (.int .u32 J9)∧
  Kept (aX b2 [0,1,6,11,12,13,14,15,16,17,18,19,20,22,23,24,26]) wK xw∧∃b3:Nat→Nat→Prop,(∀i k,b2 i k→b3 i k)∧
  ∀t1:Int,t1=(u32.wrap ((u32.wrap ((u32.wrap ((u32.wrap (yk+(u32.wrap (BitVec.ofInt u32.bits (u32.wrap (BitVec.ofInt u32.bits zs ^^^ BitVec.ofInt u32.bits Bh).toNat) ^^^ BitVec.ofInt u32.bits J9).toNat)))+(u32.wrap (BitVec.ofInt u32.bits (u32.wrap (BitVec.ofInt u32.bits yY &&& BitVec.ofInt u32.bits Fp).toNat) ^^^ BitVec.ofInt u32.bits (u32.wrap (BitVec.ofInt u32.bits (u32.wrap (BitVec.ofInt u32.bits (if u32.signed then -1 else u32.max) ^^^ BitVec.ofInt u32.bits yY).toNat) &&& BitVec.ofInt u32.bits Ar).toNat)).toNat)))+I6))+yT))→
  ∃b4:Nat→Nat→Prop,
  (0≤(1:Int)∧(1:Int)<((8:Nat):Int))∧
  b4 10 (((Addr.mk wV 0 none).add (Int.toNat 1*1)).block)∧
  ∃x62:Int,xw.drew.cell? ((Addr.mk wV 0 none).add (Int.toNat 1*1))=some (.int .u32 x62)∧
  (0≤(2:Int)∧(2:Int)<((8:Nat):Int))∧
  b4 14 (((Addr.mk wV 0 none).add (Int.toNat 2*1)).block)∧
  ∃x66:Int,xw.drew.cell? ((Addr.mk wV 0 none).add (Int.toNat 2*1))=some (.int .u32 x66)∧
  (0≤(1:Int)∧(1:Int)<((8:Nat):Int))∧
  b4 18 (((Addr.mk wV 0 none).add (Int.toNat 1*1)).block)∧
  ∃x70:Int,xw.drew.cell? ((Addr.mk wV 0 none).add (Int.toNat 1*1))=some (.int .u32 x70)∧
  (0≤(2:Int)∧(2:Int)<((8:Nat):Int))∧
  b4 20 (((Addr.mk wV 0 none).add (Int.toNat 2*1)).block)∧
  ∃x72:Int,xw.drew.cell? ((Addr.mk wV 0 none).add (Int.toNat 2*1))=some (.int .u32 x72)∧
  Calls Tryd.prog 89 #[(.int .u32 xx),(.int .i64 2)] xw.drew fun e xq=>
  ∃Gd:Int,e= .returned (.int .u32 Gd)∧
  Kept (aX b4 [2,5,8,9,10,11,12,13,14,15,16,17,18,19,20,21,22]) xw.drew xq∧∃b5:Nat→Nat→Prop,(∀i k,b4 i k→b5 i k)∧
  Calls Tryd.prog 89 #[(.int .u32 xx),(.int .i64 13)] xq fun e xk=>
  ∃x55:Int,e= .returned (.int .u32 x55)∧
  Kept (aX b5 [5,8,9,10,11,12,13,14,15,16,17,18,19,20,21,22]) xq xk∧∃b6:Nat→Nat→Prop,(∀i k,b5 i k→b6 i k)∧
  Calls Tryd.prog 89 #[(.int .u32 xx),(.int .i64 22)] xk fun e wT=>
  ∃x58:Int,e= .returned (.int .u32 x58)∧
  Kept (aX b6 [4,8,9,10,11,12,13,14,15,16,17,18,19,20,21,22]) xk wT∧∃b7:Nat→Nat→Prop,(∀i k,b6 i k→b7 i k)∧
  ∀t2:Int,t2=(u32.wrap ((u32.wrap (BitVec.ofInt u32.bits (u32.wrap (BitVec.ofInt u32.bits Gd ^^^ BitVec.ofInt u32.bits x55).toNat) ^^^ BitVec.ofInt u32.bits x58).toNat)+(u32.wrap (BitVec.ofInt u32.bits (u32.wrap (BitVec.ofInt u32.bits (u32.wrap (BitVec.ofInt u32.bits xx &&& BitVec.ofInt u32.bits x62).toNat) ^^^ BitVec.ofInt u32.bits (u32.wrap (BitVec.ofInt u32.bits xx &&& BitVec.ofInt u32.bits x66).toNat)).toNat) ^^^ BitVec.ofInt u32.bits (u32.wrap (BitVec.ofInt u32.bits x70 &&& BitVec.ofInt u32.bits x72).toNat)).toNat)))→
  (0≤(0:Int)∧(0:Int)<((8:Nat):Int))∧
  ∃x80:Int,wT.cell? ((Addr.mk wV 0 none).add (Int.toNat 0*1))=some (.int .u32 x80)∧
  (0≤(1:Int)∧(1:Int)<((8:Nat):Int))∧
  ∃EO:Int,wT.cell? ((Addr.mk wV 0 none).add (Int.toNat 1*1))=some (.int .u32 EO)∧
  (0≤(2:Int)∧(2:Int)<((8:Nat):Int))∧
  ∃x84:Int,wT.cell? ((Addr.mk wV 0 none).add (Int.toNat 2*1))=some (.int .u32 x84)∧
  (0≤(3:Int)∧(3:Int)<((8:Nat):Int))∧
  ∃F1:Int,wT.cell? ((Addr.mk wV 0 none).add (Int.toNat 3*1))=some (.int .u32 F1)∧
  (0≤(4:Int)∧(4:Int)<((8:Nat):Int))∧
  ∃G3:Int,wT.cell? ((Addr.mk wV 0 none).add (Int.toNat 4*1))=some (.int .u32 G3)∧
  (0≤(5:Int)∧(5:Int)<((8:Nat):Int))∧
  ∃x92:Int,wT.cell? ((Addr.mk wV 0 none).add (Int.toNat 5*1))=some (.int .u32 x92)∧
  (0≤(6:Int)∧(6:Int)<((8:Nat):Int))∧
  ∃x94:Int,wT.cell? ((Addr.mk wV 0 none).add (Int.toNat 6*1))=some (.int .u32 x94)∧
  aD wT (Addr.mk wV 0 none) [(.int .u32 (u32.wrap (t1+t2))),(.int .u32 x80),(.int .u32 EO),(.int .u32 x84),(.int .u32 (u32.wrap (F1+t1))),(.int .u32 G3),(.int .u32 x92),(.int .u32 x94)] fun wS=>
  ∃m1,m1<m∧I m1 (i64.wrap (xo+1)) wS) (
  ∃I1:Nat→Int→World→Prop,(∃m2,I1 m2 0 wN)∧∀(m2:Nat)(MH:Nat→Value)(yN:Int),∀wQ,I1 m2 yN wQ→
  split (decide ((yN:Int)<8)) (
   ∃b:Nat→Nat→Prop,
   (0≤(yN:Int)∧(yN:Int)<((8:Nat):Int))∧
   b 2 (((Addr.mk wV 0 none).add (Int.toNat yN*1)).block)∧
   ∃LH:Int,wQ.drew.cell? ((Addr.mk wV 0 none).add (Int.toNat yN*1))=some (.int .u32 LH)∧
   (0≤(yN:Int)∧(yN:Int)<((8:Nat):Int))∧
   b 5 (((Addr.mk gv 0 none).add (Int.toNat yN*1)).block)∧
   ∃LG:Int,wQ.drew.cell? ((Addr.mk gv 0 none).add (Int.toNat yN*1))=some (.int .u32 LG)∧
   (0≤(yN:Int)∧(yN:Int)<((8:Nat):Int))∧
   aD wQ.drew ((Addr.mk wV 0 none).add (Int.toNat yN*1)) [(.int .u32 (u32.wrap (LH+LG)))] fun wK=>
   ∃b1:Nat→Nat→Prop,(∀i k,b i k→b1 i k)∧
   ∃m3,m3<m2∧I1 m3 (i64.wrap (yN+1)) wK) (
   ∃Fz:Int,∃Fy:Int,∃Fx:Int,∃Fw:Int,∃Fv:Int,∃Fu:Int,∃Ft:Int,∃Fq:Int,(wQ.cell? ((Addr.mk wV 0 none).add 0)=some (.int .u32 Fz)∧wQ.cell? ((Addr.mk wV 0 none).add 1)=some (.int .u32 Fy)∧wQ.cell? ((Addr.mk wV 0 none).add 2)=some (.int .u32 Fx)∧wQ.cell? ((Addr.mk wV 0 none).add 3)=some (.int .u32 Fw)∧wQ.cell? ((Addr.mk wV 0 none).add 4)=some (.int .u32 Fv)∧wQ.cell? ((Addr.mk wV 0 none).add 5)=some (.int .u32 Fu)∧wQ.cell? ((Addr.mk wV 0 none).add 6)=some (.int .u32 Ft)∧wQ.cell? ((Addr.mk wV 0 none).add 7)=some (.int .u32 Fq))∧
   aD wQ (Addr.mk wY 0 none) [(.int .u32 Fz),(.int .u32 Fy),(.int .u32 Fx),(.int .u32 Fw),(.int .u32 Fv),(.int .u32 Fu),(.int .u32 Ft),(.int .u32 Fq)] fun wK=>
   ∃xn:Int,∃xm:Int,∃xB:Int,∃xz:Int,∃xy:Int,∃yr:Int,∃yq:Int,∃yp:Int,(wK.cell? ((Addr.mk wY 0 none).add 0)=some (.int .u32 xn)∧wK.cell? ((Addr.mk wY 0 none).add 1)=some (.int .u32 xm)∧wK.cell? ((Addr.mk wY 0 none).add 2)=some (.int .u32 xB)∧wK.cell? ((Addr.mk wY 0 none).add 3)=some (.int .u32 xz)∧wK.cell? ((Addr.mk wY 0 none).add 4)=some (.int .u32 xy)∧wK.cell? ((Addr.mk wY 0 none).add 5)=some (.int .u32 yr)∧wK.cell? ((Addr.mk wY 0 none).add 6)=some (.int .u32 yq)∧wK.cell? ((Addr.mk wY 0 none).add 7)=some (.int .u32 yp))∧
   R (.agg #[(.int .u32 xn),(.int .u32 xm),(.int .u32 xB),(.int .u32 xz),(.int .u32 xy),(.int .u32 yr),(.int .u32 yq),(.int .u32 yp)]) wK))
def qj:Ann:=(.node none .leaf (.node none .leaf (.node none (.node none .leaf (.node none (.node (some ⟨[(16,.one (.int .i64))],[6,7,8,9,10,11,16,17,18,19,20,21,22,23,24,25,26,27,28,29,30,31,32,33,34,35,36,37,38,39,40,41,42,43,44,45,46,47,48,49,50,51,52,53,54,55,56,57,58,59,60,61,62,63,64,65,66,67,68,69,70,71,72,73,74,75,76,77,78,79,80,81,82,83,84,85,86,87,88,89,90,91,92,93,94,95,96]⟩) .leaf .leaf) .leaf)) (.node none (.node none .leaf (.node none (.node (some ⟨[(97,.one (.int .i64))],[12,97,98,99,100,101,102,103,104,105,106,107,108]⟩) .leaf .leaf) .leaf)) .leaf))))
theorem SBlock_eq(statea:Int)(stateb:Int)(statec:Int)(stated:Int)(statee:Int)(statef:Int)(stateg:Int)(stateh:Int)(blocka:Int)(blockb:Int)(blockc:Int)(blockd:Int)(blocke:Int)(blockf:Int)(blockg:Int)(blockh:Int)(blocki:Int)(blockj:Int)(blockk:Int)(blockl:Int)(blockm:Int)(blockn:Int)(blocko:Int)(blockp:Int)(R:ax)(w:World):kl statea stateb statec stated statee statef stateg stateh blocka blockb blockc blockd blocke blockf blockg blockh blocki blockj blockk blockl blockm blockn blocko blockp R w=vcF Tryd.prog aB [10,11] Tryd.f76 qj [(.agg #[(.int .u32 statea),(.int .u32 stateb),(.int .u32 statec),(.int .u32 stated),(.int .u32 statee),(.int .u32 statef),(.int .u32 stateg),(.int .u32 stateh)]),(.agg #[(.int .u32 blocka),(.int .u32 blockb),(.int .u32 blockc),(.int .u32 blockd),(.int .u32 blocke),(.int .u32 blockf),(.int .u32 blockg),(.int .u32 blockh),(.int .u32 blocki),(.int .u32 blockj),(.int .u32 blockk),(.int .u32 blockl),(.int .u32 blockm),(.int .u32 blockn),(.int .u32 blocko),(.int .u32 blockp)])] R none w:=by kernel_rfl
theorem k4(statea:Int)(stateb:Int)(statec:Int)(stated:Int)(statee:Int)(statef:Int)(stateg:Int)(stateh:Int)(blocka:Int)(blockb:Int)(blockc:Int)(blockd:Int)(blocke:Int)(blockf:Int)(blockg:Int)(blockh:Int)(blocki:Int)(blockj:Int)(blockk:Int)(blockl:Int)(blockm:Int)(blockn:Int)(blocko:Int)(blockp:Int) {R:ax} {w:World}(h:kl statea stateb statec stated statee statef stateg stateh blocka blockb blockc blockd blocke blockf blockg blockh blocki blockj blockk blockl blockm blockn blocko blockp R w):Calls Tryd.prog 76 #[(.agg #[(.int .u32 statea),(.int .u32 stateb),(.int .u32 statec),(.int .u32 stated),(.int .u32 statee),(.int .u32 statef),(.int .u32 stateg),(.int .u32 stateh)]),(.agg #[(.int .u32 blocka),(.int .u32 blockb),(.int .u32 blockc),(.int .u32 blockd),(.int .u32 blocke),(.int .u32 blockf),(.int .u32 blockg),(.int .u32 blockh),(.int .u32 blocki),(.int .u32 blockj),(.int .u32 blockk),(.int .u32 blockl),(.int .u32 blockm),(.int .u32 blockn),(.int .u32 blocko),(.int .u32 blockp)])] w fun e w'=>∃v,e= .returned v∧R v w':=
 aq Tryd.func76 av ar ((SBlock_eq statea stateb statec stated statee statef stateg stateh blocka blockb blockc blockd blocke blockf blockg blockh blocki blockj blockk blockl blockm blockn blocko blockp R w).mp h)
def kk(R:ax)(w:World):Prop:=
 ∀(gv:Nat)(wv:World),gv=w.heap.size→wv=w.alloc (.cells (#[(.int .u32 0),(.int .u32 0),(.int .u32 0),(.int .u32 0),(.int .u32 0),(.int .u32 0),(.int .u32 0),(.int .u32 0)]) 60)→
 aD wv (Addr.mk gv 0 none) [(.int .u32 1779033703),(.int .u32 3144134277),(.int .u32 1013904242),(.int .u32 2773480762),(.int .u32 1359893119),(.int .u32 2600822924),(.int .u32 528734635),(.int .u32 1541459225)] fun wC=>
 ∃xn:Int,∃xm:Int,∃xB:Int,∃xz:Int,∃xy:Int,∃yr:Int,∃yq:Int,∃yp:Int,(wC.cell? ((Addr.mk gv 0 none).add 0)=some (.int .u32 xn)∧wC.cell? ((Addr.mk gv 0 none).add 1)=some (.int .u32 xm)∧wC.cell? ((Addr.mk gv 0 none).add 2)=some (.int .u32 xB)∧wC.cell? ((Addr.mk gv 0 none).add 3)=some (.int .u32 xz)∧wC.cell? ((Addr.mk gv 0 none).add 4)=some (.int .u32 xy)∧wC.cell? ((Addr.mk gv 0 none).add 5)=some (.int .u32 yr)∧wC.cell? ((Addr.mk gv 0 none).add 6)=some (.int .u32 yq)∧wC.cell? ((Addr.mk gv 0 none).add 7)=some (.int .u32 yp))∧
 R (.agg #[(.int .u32 xn),(.int .u32 xm),(.int .u32 xB),(.int .u32 xz),(.int .u32 xy),(.int .u32 yr),(.int .u32 yq),(.int .u32 yp)]) wC
def qi:Ann:= .leaf
theorem SFirst_eq(R:ax)(w:World):kk R w=vcF Tryd.prog aB [] Tryd.f91 qi [] R none w:=by kernel_rfl
theorem k3 {R:ax} {w:World}(h:kk R w):Calls Tryd.prog 91 #[] w fun e w'=>∃v,e= .returned v∧R v w':=
 aq Tryd.func91 av ar ((SFirst_eq R w).mp h)
end
end Go.Proofs.YtkbcgjfejboigaaDoor
namespace Go.Proofs.YtkbcgjfejboigaaDoor
open Go Go.RowKit V
open Go.IntKind (i64 u32 u64)
section
set_option maxRecDepth 10000
set_option maxHeartbeats 1000000
theorem qS:S1 Tryd.prog 47 22 (.int .u32 0) 4:=S1.of (by kernel_rfl) (by kernel_rfl) rfl
theorem tR:SN Tryd.prog 47 22 (.int .u32 0) 1 4:=qS.sn
theorem fO {w:World}(x:Int)(k:Int)(hk: -31≤k∧k≤ -1):
 Calls Tryd.prog 93 #[(.int .u32 x),(.int .i64 k)] w fun e w'=>∃v,e= .returned v∧v= .int .u32 (ff x (-k))∧Pu w w':=by
 refine dM _ _ ?_
 have hs:=vy hk
 have hp:=Ch.refl (fun _=>False) w
 rintro _ rfl
 refine hN (by(rw [hs];omega)) (hN (by(rw [IntKind.wrap_u64];omega)) ?_)
 exact⟨congrArg (Value.int .u32) (by rw [hs];exact rot_eq hk),hp⟩
theorem dy {w:World}(wv:Int)(n:Int)(hn:1≤n∧n≤31):
 Calls Tryd.prog 89 #[(.int .u32 wv),(.int .i64 n)] w fun e w'=>∃v,e= .returned v∧v= .int .u32 (ff wv n)∧Pu w w':=by
 refine kZ _ _ ?_
 have e0:i64.wrap (0 - n)= -n:=by rw [aM (by omega)];omega
 have hp:=Ch.refl (fun _=>False) w
 refine Calls.mono (fO _ _ (by rw [e0];omega)) ?_
 rintro e wC ⟨_,rfl,rfl,xJ⟩
 refine⟨_,rfl,?_⟩
 have hp:=Ch.pu hp xJ
 exact⟨congrArg (Value.int .u32) (by rw [e0,Int.neg_neg]),hp⟩
theorem pA {w:World}(blocka:Int)(blockb:Int)(blockc:Int)(blockd:Int)(blocke:Int)(blockf:Int)(blockg:Int)(blockh:Int)(blocki:Int)(blockj:Int)(blockk:Int)(blockl:Int)(blockm:Int)(blockn:Int)(blocko:Int)(blockp:Int):
 Calls Tryd.prog 88 #[(.agg #[(.int .u32 blocka),(.int .u32 blockb),(.int .u32 blockc),(.int .u32 blockd),(.int .u32 blocke),(.int .u32 blockf),(.int .u32 blockg),(.int .u32 blockh),(.int .u32 blocki),(.int .u32 blockj),(.int .u32 blockk),(.int .u32 blockl),(.int .u32 blockm),(.int .u32 blockn),(.int .u32 blocko),(.int .u32 blockp)])] w fun e w'=>∃v,e= .returned v∧v= .agg (aW (au [blocka,blockb,blockc,blockd,blocke,blockf,blockg,blockh,blocki,blockj,blockk,blockl,blockm,blockn,blocko,blockp] 48))∧Pu w w':=by
 refine gK _ _ _ _ _ _ _ _ _ _ _ _ _ _ _ _ ?_
 obtain⟨bb,yS⟩:∃bb,bb= [blocka,blockb,blockc,blockd,blocke,blockf,blockg,blockh,blocki,blockj,blockk,blockl,blockm,blockn,blocko,blockp]:=⟨_,rfl⟩
 have hB:bb.length=16:=by rw [yS];rfl
 have hp:=Ch.refl (fun _=>False) w
 refine mkd fun gv wv xh=>?_
 have wB:=xh.blk
 have hp:=Ch.made hp xh
 refine mkd fun wD wC wM=>?_
 have wL:=wM.lo hp
 have wR:=wM.ne wB
 have wA:Blk wC wD (aW (List.replicate 64 0)) _:=wM.blk.cast (ie _ _)
 have hp:=Ch.made hp wM
 have wB:=Made.old wM wB
 refine mkd fun wY wF xe=>?_
 have yJ:=xe.lo hp
 have xK:=xe.ne wB
 have ne_gv1_gv2:=xe.ne wA
 have wG:Blk wF wY (aW (List.replicate 64 0)) _:=xe.blk.cast (ie _ _)
 refine⟨bXU [] [] wF.drew (fun _=>False),?_⟩
 rintro _ rfl _ rfl _ rfl
 rintro _ rfl _ rfl _ rfl
 have wG:=Blk.drew wG
 have wB:=Blk.drew (Made.old xe wB)
 have wB:Blk wF.drew gv (aW [blocka,blockb,blockc,blockd,blocke,blockf,blockg,blockh,blocki,blockj,blockk,blockl,blockm,blockn,blocko,blockp]) _:=wB.cast (by rfl)
 refine rL qS wG (o:=0) rfl (by(simp;done)) (bH.wi (Z:=fun _=>True) wB trivial rfl (by(simp;done)) (by(simp;done)) (by(simp;done))) (by(simp;done)) fun wH xu=>?_
 have wG:=xu.blk
 refine bXU.grow xu.ch ?_
 rintro _ rfl
 have hp:=Ch.call (Ch.drew (Ch.made hp xe)) xu.ch (by exact fun k e=>.inr (e▸yJ))
 have wB:=Ch.blk xu.ch wB (xK)
 have wA:=Ch.blk xu.ch (Blk.drew (Made.old xe wA)) (ne_gv1_gv2)
 refine⟨fun mz t1 W=>mz=(64 - t1).toNat∧(16≤t1∧t1≤64)∧Ch (fun _=>False) w W∧Blk W gv (aW ([blocka,blockb,blockc,blockd,blocke,blockf,blockg,blockh,blocki,blockj,blockk,blockl,blockm,blockn,blocko,blockp])) 150∧Blk W wD (aW (List.replicate 64 0)) 158∧Blk W wY (aW (au bb (t1.toNat - 16))) 158,⟨_,rfl,(by omega),hp,wB,wA,wG.cast (congrArg aW (by subst yS;rfl))⟩,?_⟩
 rintro _ _ t1 wJ ⟨rfl,h0,hp,wB,wA,wG⟩
 refine aH (fun c1=>?_) (fun c1=>?_)
 ·refine⟨by(simp only [IntKind.wrap_i64];omega),?_⟩
  have wG:=Blk.drew wG
  refine⟨_,wG.ig (i:=(i64.wrap (t1 - 15))) (by(rw [bu hB];simp only [IntKind.wrap_i64];omega)),⟨by(simp only [IntKind.wrap_i64];omega),⟨_,wG.ig (i:=(i64.wrap (t1 - 2))) (by(rw [bu hB];simp only [IntKind.wrap_i64];omega)),?_⟩⟩⟩
  refine⟨bXU [4,17] [] wJ.drew.drew (fun _=>False),?_⟩
  have wG:=Blk.drew wG
  refine⟨by(simp only [IntKind.wrap_i64];omega),⟨.inr ⟨by decide,bX.ld wG (fun h=>h) _⟩,_,wG.ig (i:=(i64.wrap (t1 - 16))) (by(rw [bu hB];simp only [IntKind.wrap_i64];omega)),⟨by(simp only [IntKind.wrap_i64];omega),⟨.inr ⟨by decide,bX.ld wG (fun h=>h) _⟩,_,wG.ig (i:=(i64.wrap (t1 - 7))) (by(rw [bu hB];simp only [IntKind.wrap_i64];omega)),?_⟩⟩⟩⟩
  refine Calls.mono (dy _ _ (by omega)) ?_
  rintro e wO ⟨_,rfl,rfl,wZ⟩
  refine⟨_,rfl,?_⟩
  refine bXU.dO wZ (by decide) ?_
  refine Calls.mono (dy _ _ (by omega)) ?_
  rintro e wN ⟨_,rfl,rfl,xt⟩
  refine⟨_,rfl,?_⟩
  refine bXU.dO xt (by decide) ?_
  refine Calls.mono (dy _ _ (by omega)) ?_
  rintro e wQ ⟨_,rfl,rfl,xd⟩
  refine⟨_,rfl,?_⟩
  refine bXU.dO xd (by decide) ?_
  refine Calls.mono (dy _ _ (by omega)) ?_
  rintro e wK ⟨_,rfl,rfl,xf⟩
  refine⟨_,rfl,?_⟩
  refine bXU.dO xf (by decide) ?_
  have wG:=Pu.blk xf (Pu.blk xd (Pu.blk xt (Pu.blk wZ wG)))
  refine⟨by omega,ni wG (by(rw [bu hB];omega)) fun xw AS=>?_⟩
  have wG:=AS.blk
  refine bXU.grow AS.ch ?_
  rintro _ rfl
  have hp:=Ch.call (Ch.pu (Ch.pu (Ch.pu (Ch.pu (Ch.drew (Ch.drew hp)) wZ) xt) xd) xf) AS.ch (by exact fun k e=>.inr (e▸yJ))
  have wB:=Ch.blk AS.ch (Pu.blk xf (Pu.blk xd (Pu.blk xt (Pu.blk wZ (Blk.drew (Blk.drew wB)))))) (xK)
  have wA:=Ch.blk AS.ch (Pu.blk xf (Pu.blk xd (Pu.blk xt (Pu.blk wZ (Blk.drew (Blk.drew wA)))))) (ne_gv1_gv2)
  exact⟨_,by rw [IntKind.wrap_i64];omega,rfl,by rw [IntKind.wrap_i64];omega,hp,wB,wA,wG.cast (congrArg aW (by exact lF (by omega)))⟩
 ·refine⟨aW (au bb (t1.toNat - 16)),wG.qV (by(simp [bu hB];done)),⟨by rw [bt];(simp [bu hB];done),fc,px wA (by(simp [bu hB];done)) fun wO xQ=>?_⟩⟩
  have wA:=xQ.blk
  refine⟨aW (au bb (t1.toNat - 16)),wA.qV (by(simp [bu hB];done)),?_⟩
  have hp:=Ch.call hp xQ.ch (by exact fun k e=>.inr (e▸wL))
  exact⟨congrArg (fun l=>Value.agg (aW l)) (by have:t1=64:=(by omega);subst this;rw [← yS];rfl),hp⟩
theorem qR {K:List Int} {w:World}(hk:cR w 1 K)(statea:Int)(stateb:Int)(statec:Int)(stated:Int)(statee:Int)(statef:Int)(stateg:Int)(stateh:Int)(blocka:Int)(blockb:Int)(blockc:Int)(blockd:Int)(blocke:Int)(blockf:Int)(blockg:Int)(blockh:Int)(blocki:Int)(blockj:Int)(blockk:Int)(blockl:Int)(blockm:Int)(blockn:Int)(blocko:Int)(blockp:Int):
 Calls Tryd.prog 76 #[(.agg #[(.int .u32 statea),(.int .u32 stateb),(.int .u32 statec),(.int .u32 stated),(.int .u32 statee),(.int .u32 statef),(.int .u32 stateg),(.int .u32 stateh)]),(.agg #[(.int .u32 blocka),(.int .u32 blockb),(.int .u32 blockc),(.int .u32 blockd),(.int .u32 blocke),(.int .u32 blockf),(.int .u32 blockg),(.int .u32 blockh),(.int .u32 blocki),(.int .u32 blockj),(.int .u32 blockk),(.int .u32 blockl),(.int .u32 blockm),(.int .u32 blockn),(.int .u32 blocko),(.int .u32 blockp)])] w fun e w'=>∃v,e= .returned v∧v= .agg #[(.int .u32 ((dj K (S8.mk statea stateb statec stated statee statef stateg stateh) [blocka,blockb,blockc,blockd,blocke,blockf,blockg,blockh,blocki,blockj,blockk,blockl,blockm,blockn,blocko,blockp]).a)),(.int .u32 ((dj K (S8.mk statea stateb statec stated statee statef stateg stateh) [blocka,blockb,blockc,blockd,blocke,blockf,blockg,blockh,blocki,blockj,blockk,blockl,blockm,blockn,blocko,blockp]).b)),(.int .u32 ((dj K (S8.mk statea stateb statec stated statee statef stateg stateh) [blocka,blockb,blockc,blockd,blocke,blockf,blockg,blockh,blocki,blockj,blockk,blockl,blockm,blockn,blocko,blockp]).c)),(.int .u32 ((dj K (S8.mk statea stateb statec stated statee statef stateg stateh) [blocka,blockb,blockc,blockd,blocke,blockf,blockg,blockh,blocki,blockj,blockk,blockl,blockm,blockn,blocko,blockp]).d)),(.int .u32 ((dj K (S8.mk statea stateb statec stated statee statef stateg stateh) [blocka,blockb,blockc,blockd,blocke,blockf,blockg,blockh,blocki,blockj,blockk,blockl,blockm,blockn,blocko,blockp]).e)),(.int .u32 ((dj K (S8.mk statea stateb statec stated statee statef stateg stateh) [blocka,blockb,blockc,blockd,blocke,blockf,blockg,blockh,blocki,blockj,blockk,blockl,blockm,blockn,blocko,blockp]).f)),(.int .u32 ((dj K (S8.mk statea stateb statec stated statee statef stateg stateh) [blocka,blockb,blockc,blockd,blocke,blockf,blockg,blockh,blocki,blockj,blockk,blockl,blockm,blockn,blocko,blockp]).g)),(.int .u32 ((dj K (S8.mk statea stateb statec stated statee statef stateg stateh) [blocka,blockb,blockc,blockd,blocke,blockf,blockg,blockh,blocki,blockj,blockk,blockl,blockm,blockn,blocko,blockp]).h))]∧Pu w w':=by
 refine k4 _ _ _ _ _ _ _ _ _ _ _ _ _ _ _ _ _ _ _ _ _ _ _ _ ?_
 obtain⟨bb,yS⟩:∃bb,bb= [blocka,blockb,blockc,blockd,blocke,blockf,blockg,blockh,blocki,blockj,blockk,blockl,blockm,blockn,blocko,blockp]:=⟨_,rfl⟩
 have hB:bb.length=16:=by rw [yS];rfl
 obtain⟨ss,yV⟩:∃ss,ss=(S8.mk statea stateb statec stated statee statef stateg stateh):=⟨_,rfl⟩
 have hp:=Ch.refl (fun _=>False) w
 have yi:=hk.lt
 refine mkd fun gv wv xh=>?_
 have wB:=xh.blk
 refine mkd fun wD wC wM=>?_
 have wA:=wM.blk
 have hp:=Ch.made (Ch.made hp xh) wM
 have wB:=Made.old wM wB
 refine mkd fun wY wF xe=>?_
 have yJ:=xe.lo hp
 have xK:=xe.ne wB
 have ne_gv1_gv2:=xe.ne wA
 have wG:=xe.blk
 have wB:=Made.old xe wB
 refine⟨_,_,_,_,_,_,_,_,⟨wB.at rfl,wB.at rfl,wB.at rfl,wB.at rfl,wB.at rfl,wB.at rfl,wB.at rfl,wB.at rfl⟩,?_⟩
 have hp:=Ch.made hp xe
 have wA:=Made.old xe wA
 refine mkd fun wV wH xg=>?_
 have wU:=xg.lo hp
 have wW:=xg.ne wB
 have ne_gv1_gv3:=xg.ne wA
 have ne_gv2_gv3:=xg.ne wG
 have wE:=xg.blk
 refine aJ wE rfl fun wJ wP=>?_
 have wE:=wP.blk
 have wA:=Ch.blk wP.ch (Made.old xg wA) (ne_gv1_gv3)
 refine⟨_,_,_,_,_,_,_,_,_,_,_,_,_,_,_,_,⟨wA.at rfl,wA.at rfl,wA.at rfl,wA.at rfl,wA.at rfl,wA.at rfl,wA.at rfl,wA.at rfl,wA.at rfl,wA.at rfl,wA.at rfl,wA.at rfl,wA.at rfl,wA.at rfl,wA.at rfl,wA.at rfl⟩,?_⟩
 refine Calls.mono (pA _ _ _ _ _ _ _ _ _ _ _ _ _ _ _ _) ?_
 rintro e wO ⟨_,rfl,rfl,wZ⟩
 refine⟨_,rfl,?_⟩
 have hp:=Ch.pu (Ch.call (Ch.made hp xg) wP.ch (by exact fun k e=>.inr (e▸wU))) wZ
 have hk:=(((((hk.pu xh.pu).pu wM.pu).pu xe.pu).pu xg.pu).ch wP.ch (fun k hx e=>(fun hx=>absurd (yi _ hx) (Nat.not_lt.2 wU)) (e▸hx))).pu wZ
 have wB:=Pu.blk wZ (Ch.blk wP.ch (Made.old xg wB) (wW))
 have wA:=Pu.blk wZ wA
 have wG:=Pu.blk wZ (Ch.blk wP.ch (Made.old xg wG) (ne_gv2_gv3))
 have wE:=Pu.blk wZ wE
 refine⟨fun mz xo W=>mz=(64 - xo).toNat∧(0≤xo∧xo≤64)∧Ch (fun _=>False) w W∧cR W 1 K∧Blk W gv #[(.int .u32 statea),(.int .u32 stateb),(.int .u32 statec),(.int .u32 stated),(.int .u32 statee),(.int .u32 statef),(.int .u32 stateg),(.int .u32 stateh)] 60∧Blk W wD #[(.int .u32 blocka),(.int .u32 blockb),(.int .u32 blockc),(.int .u32 blockd),(.int .u32 blocke),(.int .u32 blockf),(.int .u32 blockg),(.int .u32 blockh),(.int .u32 blocki),(.int .u32 blockj),(.int .u32 blockk),(.int .u32 blockl),(.int .u32 blockm),(.int .u32 blockn),(.int .u32 blocko),(.int .u32 blockp)] 150∧Blk W wY #[(.int .u32 0),(.int .u32 0),(.int .u32 0),(.int .u32 0),(.int .u32 0),(.int .u32 0),(.int .u32 0),(.int .u32 0)] 60∧Blk W wV #[(.int .u32 ((aF K (au bb 48) ss xo.toNat).a)),(.int .u32 ((aF K (au bb 48) ss xo.toNat).b)),(.int .u32 ((aF K (au bb 48) ss xo.toNat).c)),(.int .u32 ((aF K (au bb 48) ss xo.toNat).d)),(.int .u32 ((aF K (au bb 48) ss xo.toNat).e)),(.int .u32 ((aF K (au bb 48) ss xo.toNat).f)),(.int .u32 ((aF K (au bb 48) ss xo.toNat).g)),(.int .u32 ((aF K (au bb 48) ss xo.toNat).h))] 60,⟨_,rfl,(by omega),hp,hk,wB,wA,wG,wE.cast (tA (congrArg (Value.int .u32) (by subst yV;rfl)) (congrArg (Value.int .u32) (by subst yV;rfl)) (congrArg (Value.int .u32) (by subst yV;rfl)) (congrArg (Value.int .u32) (by subst yV;rfl)) (congrArg (Value.int .u32) (by subst yV;rfl)) (congrArg (Value.int .u32) (by subst yV;rfl)) (congrArg (Value.int .u32) (by subst yV;rfl)) (congrArg (Value.int .u32) (by subst yV;rfl)))⟩,?_⟩
 rintro _ _ xo wN ⟨rfl,h0,hp,hk,wB,wA,wG,wE⟩
 refine aH (fun c1=>?_) (fun c1=>?_)
 ·refine⟨by omega,⟨_,lJ (l:=(au [blocka,blockb,blockc,blockd,blocke,blockf,blockg,blockh,blocki,blockj,blockk,blockl,blockm,blockn,blocko,blockp] 48)) (i:=xo) (by(rw [bu rfl];omega)),⟨by decide,?_⟩⟩⟩
  have wE:=Blk.drew wE
  refine⟨_,wE.at rfl,⟨by decide,⟨_,wE.at rfl,?_⟩⟩⟩
  refine⟨bXU [1,13,18,24] [] wN.drew.drew (fun _=>False),?_⟩
  have wE:=Blk.drew wE
  have hk:=(hk.pu (Pu.aG _)).pu (Pu.aG _)
  obtain⟨_,drow_hk⟩:=hk.blk
  refine⟨by decide,⟨.inr ⟨by decide,bX.ld wE (fun h=>h) _⟩,_,wE.at rfl,⟨by decide,⟨.inr ⟨by decide,bX.ld wE (fun h=>h) _⟩,_,wE.at rfl,⟨by decide,⟨.inr ⟨by decide,bX.ld wE (fun h=>h) _⟩,_,wE.at rfl,⟨by omega,⟨.inr ⟨by decide,bX.ld drow_hk (fun h=>h) _⟩,_,drow_hk.ig (i:=xo) (by(have h9:=hk.len;omega)),?_⟩⟩⟩⟩⟩⟩⟩⟩
  refine Calls.mono (dy _ _ (by omega)) ?_
  rintro e wQ ⟨_,rfl,rfl,xd⟩
  refine⟨_,rfl,?_⟩
  refine bXU.dO xd (by decide) ?_
  refine Calls.mono (dy _ _ (by omega)) ?_
  rintro e wK ⟨_,rfl,rfl,xf⟩
  refine⟨_,rfl,?_⟩
  refine bXU.dO xf (by decide) ?_
  refine Calls.mono (dy _ _ (by omega)) ?_
  rintro e xw ⟨_,rfl,rfl,yu⟩
  refine⟨_,rfl,?_⟩
  refine bXU.dO yu (by decide) ?_
  rintro _ rfl
  refine⟨bXU [10,14,18,20] [] xw.drew (fun _=>False),?_⟩
  have wE:=Blk.drew (Pu.blk yu (Pu.blk xf (Pu.blk xd wE)))
  refine⟨by decide,⟨.inr ⟨by decide,bX.ld wE (fun h=>h) _⟩,_,wE.at rfl,⟨by decide,⟨.inr ⟨by decide,bX.ld wE (fun h=>h) _⟩,_,wE.at rfl,⟨by decide,⟨.inr ⟨by decide,bX.ld wE (fun h=>h) _⟩,_,wE.at rfl,⟨by decide,⟨.inr ⟨by decide,bX.ld wE (fun h=>h) _⟩,_,wE.at rfl,?_⟩⟩⟩⟩⟩⟩⟩⟩
  refine Calls.mono (dy _ _ (by omega)) ?_
  rintro e xq ⟨_,rfl,rfl,yy⟩
  refine⟨_,rfl,?_⟩
  refine bXU.dO yy (by decide) ?_
  refine Calls.mono (dy _ _ (by omega)) ?_
  rintro e xk ⟨_,rfl,rfl,yx⟩
  refine⟨_,rfl,?_⟩
  refine bXU.dO yx (by decide) ?_
  refine Calls.mono (dy _ _ (by omega)) ?_
  rintro e wT ⟨_,rfl,rfl,yw⟩
  refine⟨_,rfl,?_⟩
  refine bXU.dO yw (by decide) ?_
  rintro _ rfl
  have wE:=Pu.blk yw (Pu.blk yx (Pu.blk yy wE))
  refine⟨by decide,⟨_,wE.at rfl,⟨by decide,⟨_,wE.at rfl,⟨by decide,⟨_,wE.at rfl,⟨by decide,⟨_,wE.at rfl,⟨by decide,⟨_,wE.at rfl,⟨by decide,⟨_,wE.at rfl,⟨by decide,⟨_,wE.at rfl,aJ wE rfl fun wS yH=>?_⟩⟩⟩⟩⟩⟩⟩⟩⟩⟩⟩⟩⟩⟩
  have wE:=yH.blk
  have hp:=Ch.call (Ch.pu (Ch.pu (Ch.pu (Ch.drew (Ch.pu (Ch.pu (Ch.pu (Ch.drew (Ch.drew hp)) xd) xf) yu)) yy) yx) yw) yH.ch (by exact fun k e=>.inr (e▸wU))
  have hk:=(((((((hk.pu xd).pu xf).pu yu).pu (Pu.aG _)).pu yy).pu yx).pu yw).ch yH.ch (fun k hx e=>(fun hx=>absurd (yi _ hx) (Nat.not_lt.2 wU)) (e▸hx))
  have wB:=Ch.blk yH.ch (Pu.blk yw (Pu.blk yx (Pu.blk yy (Blk.drew (Pu.blk yu (Pu.blk xf (Pu.blk xd (Blk.drew (Blk.drew wB))))))))) (wW)
  have wA:=Ch.blk yH.ch (Pu.blk yw (Pu.blk yx (Pu.blk yy (Blk.drew (Pu.blk yu (Pu.blk xf (Pu.blk xd (Blk.drew (Blk.drew wA))))))))) (ne_gv1_gv3)
  have wG:=Ch.blk yH.ch (Pu.blk yw (Pu.blk yx (Pu.blk yy (Blk.drew (Pu.blk yu (Pu.blk xf (Pu.blk xd (Blk.drew (Blk.drew wG))))))))) (ne_gv2_gv3)
  exact⟨_,by rw [IntKind.wrap_i64];omega,rfl,by rw [IntKind.wrap_i64];omega,hp,hk,wB,wA,wG,wE.cast (tA (congrArg (Value.int .u32) (by rw [cn (by omega),yS];rfl)) (congrArg (Value.int .u32) (by rw [cn (by omega),yS];rfl)) (congrArg (Value.int .u32) (by rw [cn (by omega),yS];rfl)) (congrArg (Value.int .u32) (by rw [cn (by omega),yS];rfl)) (congrArg (Value.int .u32) (by rw [cn (by omega),yS];rfl)) (congrArg (Value.int .u32) (by rw [cn (by omega),yS];rfl)) (congrArg (Value.int .u32) (by rw [cn (by omega),yS];rfl)) (congrArg (Value.int .u32) (by rw [cn (by omega),yS];rfl)))⟩
 ·have e64:xo.toNat=64:=by omega
  rw [e64]at wE
  refine⟨fun mz yN W=>Ch (fun _=>False) w W∧cR W 1 K∧(∃T,Blk W gv #[(.int .u32 statea),(.int .u32 stateb),(.int .u32 statec),(.int .u32 stated),(.int .u32 statee),(.int .u32 statef),(.int .u32 stateg),(.int .u32 stateh)] T)∧(∃T,Blk W wD #[(.int .u32 blocka),(.int .u32 blockb),(.int .u32 blockc),(.int .u32 blockd),(.int .u32 blocke),(.int .u32 blockf),(.int .u32 blockg),(.int .u32 blockh),(.int .u32 blocki),(.int .u32 blockj),(.int .u32 blockk),(.int .u32 blockl),(.int .u32 blockm),(.int .u32 blockn),(.int .u32 blocko),(.int .u32 blockp)] T)∧(∃T,Blk W wY #[(.int .u32 0),(.int .u32 0),(.int .u32 0),(.int .u32 0),(.int .u32 0),(.int .u32 0),(.int .u32 0),(.int .u32 0)] T)∧((mz=8∧yN=0∧(∃T,Blk W wV #[(.int .u32 ((aF K (au bb 48) ss 64).a)),(.int .u32 ((aF K (au bb 48) ss 64).b)),(.int .u32 ((aF K (au bb 48) ss 64).c)),(.int .u32 ((aF K (au bb 48) ss 64).d)),(.int .u32 ((aF K (au bb 48) ss 64).e)),(.int .u32 ((aF K (au bb 48) ss 64).f)),(.int .u32 ((aF K (au bb 48) ss 64).g)),(.int .u32 ((aF K (au bb 48) ss 64).h))] T))∨(mz=7∧yN=1∧(∃T,Blk W wV #[(.int .u32 (aP (aF K (au bb 48) ss 64).a statea)),(.int .u32 ((aF K (au bb 48) ss 64).b)),(.int .u32 ((aF K (au bb 48) ss 64).c)),(.int .u32 ((aF K (au bb 48) ss 64).d)),(.int .u32 ((aF K (au bb 48) ss 64).e)),(.int .u32 ((aF K (au bb 48) ss 64).f)),(.int .u32 ((aF K (au bb 48) ss 64).g)),(.int .u32 ((aF K (au bb 48) ss 64).h))] T))∨(mz=6∧yN=2∧(∃T,Blk W wV #[(.int .u32 (aP (aF K (au bb 48) ss 64).a statea)),(.int .u32 (aP (aF K (au bb 48) ss 64).b stateb)),(.int .u32 ((aF K (au bb 48) ss 64).c)),(.int .u32 ((aF K (au bb 48) ss 64).d)),(.int .u32 ((aF K (au bb 48) ss 64).e)),(.int .u32 ((aF K (au bb 48) ss 64).f)),(.int .u32 ((aF K (au bb 48) ss 64).g)),(.int .u32 ((aF K (au bb 48) ss 64).h))] T))∨(mz=5∧yN=3∧(∃T,Blk W wV #[(.int .u32 (aP (aF K (au bb 48) ss 64).a statea)),(.int .u32 (aP (aF K (au bb 48) ss 64).b stateb)),(.int .u32 (aP (aF K (au bb 48) ss 64).c statec)),(.int .u32 ((aF K (au bb 48) ss 64).d)),(.int .u32 ((aF K (au bb 48) ss 64).e)),(.int .u32 ((aF K (au bb 48) ss 64).f)),(.int .u32 ((aF K (au bb 48) ss 64).g)),(.int .u32 ((aF K (au bb 48) ss 64).h))] T))∨(mz=4∧yN=4∧(∃T,Blk W wV #[(.int .u32 (aP (aF K (au bb 48) ss 64).a statea)),(.int .u32 (aP (aF K (au bb 48) ss 64).b stateb)),(.int .u32 (aP (aF K (au bb 48) ss 64).c statec)),(.int .u32 (aP (aF K (au bb 48) ss 64).d stated)),(.int .u32 ((aF K (au bb 48) ss 64).e)),(.int .u32 ((aF K (au bb 48) ss 64).f)),(.int .u32 ((aF K (au bb 48) ss 64).g)),(.int .u32 ((aF K (au bb 48) ss 64).h))] T))∨(mz=3∧yN=5∧(∃T,Blk W wV #[(.int .u32 (aP (aF K (au bb 48) ss 64).a statea)),(.int .u32 (aP (aF K (au bb 48) ss 64).b stateb)),(.int .u32 (aP (aF K (au bb 48) ss 64).c statec)),(.int .u32 (aP (aF K (au bb 48) ss 64).d stated)),(.int .u32 (aP (aF K (au bb 48) ss 64).e statee)),(.int .u32 ((aF K (au bb 48) ss 64).f)),(.int .u32 ((aF K (au bb 48) ss 64).g)),(.int .u32 ((aF K (au bb 48) ss 64).h))] T))∨(mz=2∧yN=6∧(∃T,Blk W wV #[(.int .u32 (aP (aF K (au bb 48) ss 64).a statea)),(.int .u32 (aP (aF K (au bb 48) ss 64).b stateb)),(.int .u32 (aP (aF K (au bb 48) ss 64).c statec)),(.int .u32 (aP (aF K (au bb 48) ss 64).d stated)),(.int .u32 (aP (aF K (au bb 48) ss 64).e statee)),(.int .u32 (aP (aF K (au bb 48) ss 64).f statef)),(.int .u32 ((aF K (au bb 48) ss 64).g)),(.int .u32 ((aF K (au bb 48) ss 64).h))] T))∨(mz=1∧yN=7∧(∃T,Blk W wV #[(.int .u32 (aP (aF K (au bb 48) ss 64).a statea)),(.int .u32 (aP (aF K (au bb 48) ss 64).b stateb)),(.int .u32 (aP (aF K (au bb 48) ss 64).c statec)),(.int .u32 (aP (aF K (au bb 48) ss 64).d stated)),(.int .u32 (aP (aF K (au bb 48) ss 64).e statee)),(.int .u32 (aP (aF K (au bb 48) ss 64).f statef)),(.int .u32 (aP (aF K (au bb 48) ss 64).g stateg)),(.int .u32 ((aF K (au bb 48) ss 64).h))] T))∨(mz=0∧yN=8∧(∃T,Blk W wV #[(.int .u32 (aP (aF K (au bb 48) ss 64).a statea)),(.int .u32 (aP (aF K (au bb 48) ss 64).b stateb)),(.int .u32 (aP (aF K (au bb 48) ss 64).c statec)),(.int .u32 (aP (aF K (au bb 48) ss 64).d stated)),(.int .u32 (aP (aF K (au bb 48) ss 64).e statee)),(.int .u32 (aP (aF K (au bb 48) ss 64).f statef)),(.int .u32 (aP (aF K (au bb 48) ss 64).g stateg)),(.int .u32 (aP (aF K (au bb 48) ss 64).h stateh))] T))),⟨_,hp,hk,⟨_,wB⟩,⟨_,wA⟩,⟨_,wG⟩,.inl ⟨rfl,rfl,⟨_,wE⟩⟩⟩,?_⟩
  rintro _ _ yN wQ ⟨hp,hk,⟨_,wB⟩,⟨_,wA⟩,⟨_,wG⟩,hU⟩
  rcases hU with⟨rfl,rfl,⟨_,wE⟩⟩ | ⟨rfl,rfl,⟨_,wE⟩⟩ | ⟨rfl,rfl,⟨_,wE⟩⟩ | ⟨rfl,rfl,⟨_,wE⟩⟩ | ⟨rfl,rfl,⟨_,wE⟩⟩ | ⟨rfl,rfl,⟨_,wE⟩⟩ | ⟨rfl,rfl,⟨_,wE⟩⟩ | ⟨rfl,rfl,⟨_,wE⟩⟩ | ⟨rfl,rfl,⟨_,wE⟩⟩
  ·refine bK ?_
   refine⟨bXU [] [2,5] wQ.drew (fun _=>False),?_⟩
   have wE:=Blk.drew wE
   have wB:=Blk.drew wB
   refine⟨by decide,⟨.inl (by decide),_,wE.at rfl,⟨by decide,⟨.inl (by decide),_,wB.at rfl,⟨by decide,aI wE (by simp) fun wK wI=>?_⟩⟩⟩⟩⟩
   have wE:Blk wK wV #[_,(.int .u32 ((aF K (au bb 48) ss 64).b)),(.int .u32 ((aF K (au bb 48) ss 64).c)),(.int .u32 ((aF K (au bb 48) ss 64).d)),(.int .u32 ((aF K (au bb 48) ss 64).e)),(.int .u32 ((aF K (au bb 48) ss 64).f)),(.int .u32 ((aF K (au bb 48) ss 64).g)),(.int .u32 ((aF K (au bb 48) ss 64).h))] _:=wI.blk
   refine bXU.grow wI.ch ?_
   have hp:=Ch.call (Ch.drew hp) wI.ch (by exact fun k e=>.inr (e▸wU))
   have hk:=(hk.pu (Pu.aG _)).ch wI.ch (fun k hx e=>(fun hx=>absurd (yi _ hx) (Nat.not_lt.2 wU)) (e▸hx))
   have wB:=Ch.blk wI.ch wB (wW)
   have wA:=Ch.blk wI.ch (Blk.drew wA) (ne_gv1_gv3)
   have wG:=Ch.blk wI.ch (Blk.drew wG) (ne_gv2_gv3)
   exact⟨7,by decide,hp,hk,⟨_,wB⟩,⟨_,wA⟩,⟨_,wG⟩,.inr (.inl ⟨rfl,rfl,⟨_,wE⟩⟩)⟩
  ·refine bK ?_
   refine⟨bXU [] [2,5] wQ.drew (fun _=>False),?_⟩
   have wE:=Blk.drew wE
   have wB:=Blk.drew wB
   refine⟨by decide,⟨.inl (by decide),_,wE.at rfl,⟨by decide,⟨.inl (by decide),_,wB.at rfl,⟨by decide,aI wE (by simp) fun wK wI=>?_⟩⟩⟩⟩⟩
   have wE:Blk wK wV #[(.int .u32 (aP (aF K (au bb 48) ss 64).a statea)),_,(.int .u32 ((aF K (au bb 48) ss 64).c)),(.int .u32 ((aF K (au bb 48) ss 64).d)),(.int .u32 ((aF K (au bb 48) ss 64).e)),(.int .u32 ((aF K (au bb 48) ss 64).f)),(.int .u32 ((aF K (au bb 48) ss 64).g)),(.int .u32 ((aF K (au bb 48) ss 64).h))] _:=wI.blk
   refine bXU.grow wI.ch ?_
   have hp:=Ch.call (Ch.drew hp) wI.ch (by exact fun k e=>.inr (e▸wU))
   have hk:=(hk.pu (Pu.aG _)).ch wI.ch (fun k hx e=>(fun hx=>absurd (yi _ hx) (Nat.not_lt.2 wU)) (e▸hx))
   have wB:=Ch.blk wI.ch wB (wW)
   have wA:=Ch.blk wI.ch (Blk.drew wA) (ne_gv1_gv3)
   have wG:=Ch.blk wI.ch (Blk.drew wG) (ne_gv2_gv3)
   exact⟨6,by decide,hp,hk,⟨_,wB⟩,⟨_,wA⟩,⟨_,wG⟩,.inr (.inr (.inl ⟨rfl,rfl,⟨_,wE⟩⟩))⟩
  ·refine bK ?_
   refine⟨bXU [] [2,5] wQ.drew (fun _=>False),?_⟩
   have wE:=Blk.drew wE
   have wB:=Blk.drew wB
   refine⟨by decide,⟨.inl (by decide),_,wE.at rfl,⟨by decide,⟨.inl (by decide),_,wB.at rfl,⟨by decide,aI wE (by simp) fun wK wI=>?_⟩⟩⟩⟩⟩
   have wE:Blk wK wV #[(.int .u32 (aP (aF K (au bb 48) ss 64).a statea)),(.int .u32 (aP (aF K (au bb 48) ss 64).b stateb)),_,(.int .u32 ((aF K (au bb 48) ss 64).d)),(.int .u32 ((aF K (au bb 48) ss 64).e)),(.int .u32 ((aF K (au bb 48) ss 64).f)),(.int .u32 ((aF K (au bb 48) ss 64).g)),(.int .u32 ((aF K (au bb 48) ss 64).h))] _:=wI.blk
   refine bXU.grow wI.ch ?_
   have hp:=Ch.call (Ch.drew hp) wI.ch (by exact fun k e=>.inr (e▸wU))
   have hk:=(hk.pu (Pu.aG _)).ch wI.ch (fun k hx e=>(fun hx=>absurd (yi _ hx) (Nat.not_lt.2 wU)) (e▸hx))
   have wB:=Ch.blk wI.ch wB (wW)
   have wA:=Ch.blk wI.ch (Blk.drew wA) (ne_gv1_gv3)
   have wG:=Ch.blk wI.ch (Blk.drew wG) (ne_gv2_gv3)
   exact⟨5,by decide,hp,hk,⟨_,wB⟩,⟨_,wA⟩,⟨_,wG⟩,.inr (.inr (.inr (.inl ⟨rfl,rfl,⟨_,wE⟩⟩)))⟩
  ·refine bK ?_
   refine⟨bXU [] [2,5] wQ.drew (fun _=>False),?_⟩
   have wE:=Blk.drew wE
   have wB:=Blk.drew wB
   refine⟨by decide,⟨.inl (by decide),_,wE.at rfl,⟨by decide,⟨.inl (by decide),_,wB.at rfl,⟨by decide,aI wE (by simp) fun wK wI=>?_⟩⟩⟩⟩⟩
   have wE:Blk wK wV #[(.int .u32 (aP (aF K (au bb 48) ss 64).a statea)),(.int .u32 (aP (aF K (au bb 48) ss 64).b stateb)),(.int .u32 (aP (aF K (au bb 48) ss 64).c statec)),_,(.int .u32 ((aF K (au bb 48) ss 64).e)),(.int .u32 ((aF K (au bb 48) ss 64).f)),(.int .u32 ((aF K (au bb 48) ss 64).g)),(.int .u32 ((aF K (au bb 48) ss 64).h))] _:=wI.blk
   refine bXU.grow wI.ch ?_
   have hp:=Ch.call (Ch.drew hp) wI.ch (by exact fun k e=>.inr (e▸wU))
   have hk:=(hk.pu (Pu.aG _)).ch wI.ch (fun k hx e=>(fun hx=>absurd (yi _ hx) (Nat.not_lt.2 wU)) (e▸hx))
   have wB:=Ch.blk wI.ch wB (wW)
   have wA:=Ch.blk wI.ch (Blk.drew wA) (ne_gv1_gv3)
   have wG:=Ch.blk wI.ch (Blk.drew wG) (ne_gv2_gv3)
   exact⟨4,by decide,hp,hk,⟨_,wB⟩,⟨_,wA⟩,⟨_,wG⟩,.inr (.inr (.inr (.inr (.inl ⟨rfl,rfl,⟨_,wE⟩⟩))))⟩
  ·refine bK ?_
   refine⟨bXU [] [2,5] wQ.drew (fun _=>False),?_⟩
   have wE:=Blk.drew wE
   have wB:=Blk.drew wB
   refine⟨by decide,⟨.inl (by decide),_,wE.at rfl,⟨by decide,⟨.inl (by decide),_,wB.at rfl,⟨by decide,aI wE (by simp) fun wK wI=>?_⟩⟩⟩⟩⟩
   have wE:Blk wK wV #[(.int .u32 (aP (aF K (au bb 48) ss 64).a statea)),(.int .u32 (aP (aF K (au bb 48) ss 64).b stateb)),(.int .u32 (aP (aF K (au bb 48) ss 64).c statec)),(.int .u32 (aP (aF K (au bb 48) ss 64).d stated)),_,(.int .u32 ((aF K (au bb 48) ss 64).f)),(.int .u32 ((aF K (au bb 48) ss 64).g)),(.int .u32 ((aF K (au bb 48) ss 64).h))] _:=wI.blk
   refine bXU.grow wI.ch ?_
   have hp:=Ch.call (Ch.drew hp) wI.ch (by exact fun k e=>.inr (e▸wU))
   have hk:=(hk.pu (Pu.aG _)).ch wI.ch (fun k hx e=>(fun hx=>absurd (yi _ hx) (Nat.not_lt.2 wU)) (e▸hx))
   have wB:=Ch.blk wI.ch wB (wW)
   have wA:=Ch.blk wI.ch (Blk.drew wA) (ne_gv1_gv3)
   have wG:=Ch.blk wI.ch (Blk.drew wG) (ne_gv2_gv3)
   exact⟨3,by decide,hp,hk,⟨_,wB⟩,⟨_,wA⟩,⟨_,wG⟩,.inr (.inr (.inr (.inr (.inr (.inl ⟨rfl,rfl,⟨_,wE⟩⟩)))))⟩
  ·refine bK ?_
   refine⟨bXU [] [2,5] wQ.drew (fun _=>False),?_⟩
   have wE:=Blk.drew wE
   have wB:=Blk.drew wB
   refine⟨by decide,⟨.inl (by decide),_,wE.at rfl,⟨by decide,⟨.inl (by decide),_,wB.at rfl,⟨by decide,aI wE (by simp) fun wK wI=>?_⟩⟩⟩⟩⟩
   have wE:Blk wK wV #[(.int .u32 (aP (aF K (au bb 48) ss 64).a statea)),(.int .u32 (aP (aF K (au bb 48) ss 64).b stateb)),(.int .u32 (aP (aF K (au bb 48) ss 64).c statec)),(.int .u32 (aP (aF K (au bb 48) ss 64).d stated)),(.int .u32 (aP (aF K (au bb 48) ss 64).e statee)),_,(.int .u32 ((aF K (au bb 48) ss 64).g)),(.int .u32 ((aF K (au bb 48) ss 64).h))] _:=wI.blk
   refine bXU.grow wI.ch ?_
   have hp:=Ch.call (Ch.drew hp) wI.ch (by exact fun k e=>.inr (e▸wU))
   have hk:=(hk.pu (Pu.aG _)).ch wI.ch (fun k hx e=>(fun hx=>absurd (yi _ hx) (Nat.not_lt.2 wU)) (e▸hx))
   have wB:=Ch.blk wI.ch wB (wW)
   have wA:=Ch.blk wI.ch (Blk.drew wA) (ne_gv1_gv3)
   have wG:=Ch.blk wI.ch (Blk.drew wG) (ne_gv2_gv3)
   exact⟨2,by decide,hp,hk,⟨_,wB⟩,⟨_,wA⟩,⟨_,wG⟩,.inr (.inr (.inr (.inr (.inr (.inr (.inl ⟨rfl,rfl,⟨_,wE⟩⟩))))))⟩
  ·refine bK ?_
   refine⟨bXU [] [2,5] wQ.drew (fun _=>False),?_⟩
   have wE:=Blk.drew wE
   have wB:=Blk.drew wB
   refine⟨by decide,⟨.inl (by decide),_,wE.at rfl,⟨by decide,⟨.inl (by decide),_,wB.at rfl,⟨by decide,aI wE (by simp) fun wK wI=>?_⟩⟩⟩⟩⟩
   have wE:Blk wK wV #[(.int .u32 (aP (aF K (au bb 48) ss 64).a statea)),(.int .u32 (aP (aF K (au bb 48) ss 64).b stateb)),(.int .u32 (aP (aF K (au bb 48) ss 64).c statec)),(.int .u32 (aP (aF K (au bb 48) ss 64).d stated)),(.int .u32 (aP (aF K (au bb 48) ss 64).e statee)),(.int .u32 (aP (aF K (au bb 48) ss 64).f statef)),_,(.int .u32 ((aF K (au bb 48) ss 64).h))] _:=wI.blk
   refine bXU.grow wI.ch ?_
   have hp:=Ch.call (Ch.drew hp) wI.ch (by exact fun k e=>.inr (e▸wU))
   have hk:=(hk.pu (Pu.aG _)).ch wI.ch (fun k hx e=>(fun hx=>absurd (yi _ hx) (Nat.not_lt.2 wU)) (e▸hx))
   have wB:=Ch.blk wI.ch wB (wW)
   have wA:=Ch.blk wI.ch (Blk.drew wA) (ne_gv1_gv3)
   have wG:=Ch.blk wI.ch (Blk.drew wG) (ne_gv2_gv3)
   exact⟨1,by decide,hp,hk,⟨_,wB⟩,⟨_,wA⟩,⟨_,wG⟩,.inr (.inr (.inr (.inr (.inr (.inr (.inr (.inl ⟨rfl,rfl,⟨_,wE⟩⟩)))))))⟩
  ·refine bK ?_
   refine⟨bXU [] [2,5] wQ.drew (fun _=>False),?_⟩
   have wE:=Blk.drew wE
   have wB:=Blk.drew wB
   refine⟨by decide,⟨.inl (by decide),_,wE.at rfl,⟨by decide,⟨.inl (by decide),_,wB.at rfl,⟨by decide,aI wE (by simp) fun wK wI=>?_⟩⟩⟩⟩⟩
   have wE:Blk wK wV #[(.int .u32 (aP (aF K (au bb 48) ss 64).a statea)),(.int .u32 (aP (aF K (au bb 48) ss 64).b stateb)),(.int .u32 (aP (aF K (au bb 48) ss 64).c statec)),(.int .u32 (aP (aF K (au bb 48) ss 64).d stated)),(.int .u32 (aP (aF K (au bb 48) ss 64).e statee)),(.int .u32 (aP (aF K (au bb 48) ss 64).f statef)),(.int .u32 (aP (aF K (au bb 48) ss 64).g stateg)),_] _:=wI.blk
   refine bXU.grow wI.ch ?_
   have hp:=Ch.call (Ch.drew hp) wI.ch (by exact fun k e=>.inr (e▸wU))
   have hk:=(hk.pu (Pu.aG _)).ch wI.ch (fun k hx e=>(fun hx=>absurd (yi _ hx) (Nat.not_lt.2 wU)) (e▸hx))
   have wB:=Ch.blk wI.ch wB (wW)
   have wA:=Ch.blk wI.ch (Blk.drew wA) (ne_gv1_gv3)
   have wG:=Ch.blk wI.ch (Blk.drew wG) (ne_gv2_gv3)
   exact⟨0,by decide,hp,hk,⟨_,wB⟩,⟨_,wA⟩,⟨_,wG⟩,.inr (.inr (.inr (.inr (.inr (.inr (.inr (.inr (⟨rfl,rfl,⟨_,wE⟩⟩))))))))⟩
  ·refine cv ⟨_,_,_,_,_,_,_,_,⟨wE.at rfl,wE.at rfl,wE.at rfl,wE.at rfl,wE.at rfl,wE.at rfl,wE.at rfl,wE.at rfl⟩,aJ wG rfl fun wK wI=>?_⟩
   have wG:=wI.blk
   refine⟨_,_,_,_,_,_,_,_,⟨wG.at rfl,wG.at rfl,wG.at rfl,wG.at rfl,wG.at rfl,wG.at rfl,wG.at rfl,wG.at rfl⟩,?_⟩
   have hp:=Ch.call hp wI.ch (by exact fun k e=>.inr (e▸yJ))
   exact⟨congrArg Value.agg (tA (congrArg (Value.int .u32) (by rw [← yS,← yV];subst yV;rfl)) (congrArg (Value.int .u32) (by rw [← yS,← yV];subst yV;rfl)) (congrArg (Value.int .u32) (by rw [← yS,← yV];subst yV;rfl)) (congrArg (Value.int .u32) (by rw [← yS,← yV];subst yV;rfl)) (congrArg (Value.int .u32) (by rw [← yS,← yV];subst yV;rfl)) (congrArg (Value.int .u32) (by rw [← yS,← yV];subst yV;rfl)) (congrArg (Value.int .u32) (by rw [← yS,← yV];subst yV;rfl)) (congrArg (Value.int .u32) (by rw [← yS,← yV];subst yV;rfl))),hp⟩
theorem uy {w:World}:
 Calls Tryd.prog 91 #[] w fun e w'=>∃v,e= .returned v∧v= .agg #[(.int .u32 S8.first.a),(.int .u32 S8.first.b),(.int .u32 S8.first.c),(.int .u32 S8.first.d),(.int .u32 S8.first.e),(.int .u32 S8.first.f),(.int .u32 S8.first.g),(.int .u32 S8.first.h)]∧Pu w w':=by
 refine k3 ?_
 have hp:=Ch.refl (fun _=>False) w
 refine mkd fun gv wv xh=>?_
 have zv:=xh.lo hp
 have wB:=xh.blk
 refine aJ wB rfl fun wC AT=>?_
 have wB:=AT.blk
 refine⟨_,_,_,_,_,_,_,_,⟨wB.at rfl,wB.at rfl,wB.at rfl,wB.at rfl,wB.at rfl,wB.at rfl,wB.at rfl,wB.at rfl⟩,?_⟩
 have hp:=Ch.call (Ch.made hp xh) AT.ch (by exact fun k e=>.inr (e▸zv))
 exact⟨congrArg Value.agg (tA (congrArg (Value.int .u32) (by rfl)) (congrArg (Value.int .u32) (by rfl)) (congrArg (Value.int .u32) (by rfl)) (congrArg (Value.int .u32) (by rfl)) (congrArg (Value.int .u32) (by rfl)) (congrArg (Value.int .u32) (by rfl)) (congrArg (Value.int .u32) (by rfl)) (congrArg (Value.int .u32) (by rfl))),hp⟩
end
end Go.Proofs.YtkbcgjfejboigaaDoor
namespace Go.Proofs.YtkbcgjfejboigaaDoor
open Go Go.RowKit V
open Go.IntKind (i64 u32 u64)
open Go.Proofs (Tryd.prog)
section
set_option maxRecDepth 100000
def oY(R:ax)(w:World):Prop:=
 Calls Tryd.prog 91 #[] w fun e wv=>
 ∃x1a:Int,∃x1b:Int,∃x1c:Int,∃x1d:Int,∃x1e:Int,∃x1f:Int,∃x1g:Int,∃x1h:Int,e= .returned (.agg #[(.int .u32 x1a),(.int .u32 x1b),(.int .u32 x1c),(.int .u32 x1d),(.int .u32 x1e),(.int .u32 x1f),(.int .u32 x1g),(.int .u32 x1h)])∧
 ∀(gv:Nat)(wC:World),gv=wv.heap.size→wC=wv.alloc (.cells #[(.int .u32 x1a),(.int .u32 x1b),(.int .u32 x1c),(.int .u32 x1d),(.int .u32 x1e),(.int .u32 x1f),(.int .u32 x1g),(.int .u32 x1h),(.int .i64 0),(.slice none 0 0)] 148)→
 R (.pointer (some (Addr.mk gv 0 none))) wC
def tI:Ann:= .leaf
theorem SNew_eq(R:ax)(w:World):oY R w=vcF Tryd.prog aB [] Tryd.f85 tI [] R none w:=by kernel_rfl
theorem nR {R:ax} {w:World}(h:oY R w):Calls Tryd.prog 85 #[] w fun e w'=>∃v,e= .returned v∧R v w':=
 aq Tryd.func85 av ar ((SNew_eq R w).mp h)
def o5(d:Option Addr)(wordsA:Option Addr)(aS:Nat)(wordsC:Nat)(R:ax)(w:World):Prop:=
 ay d fun p8=>
 ∃yB:Int,w.cell? (p8.add 8)=some (.int .i64 yB)∧
 split (decide ((((aS:Nat):Int):Int)>(i64.wrap (36028797018963968 - yB)))) (
  R (.tuple #[]) w) (
  ay d fun zO=>
  ∃xo:Int,w.cell? (zO.add 8)=some (.int .i64 xo)∧
  ay d fun GQ=>
  aD w (GQ.add 8) [(.int .i64 (i64.wrap (xo+((aS:Nat):Int))))] fun wv=>
  ∃b:Nat→Nat→Prop,
  ay d fun MP=>
  b 3 ((MP.add 9).block)∧
  ∃zH:Option Addr,∃Bq:Nat,∃Aw:Nat,wv.drew.cell? (MP.add 9)=some (.slice zH Bq Aw)∧
  ay d fun MN=>
  b 7 ((MN.add 9).block)∧
  ∃zD:Option Addr,∃yC:Nat,∃zC:Nat,wv.drew.cell? (MN.add 9)=some (.slice zD yC zC)∧
  ay d fun p32=>
  b 12 ((p32.add 9).block)∧
  ∃zB:Option Addr,∃yv:Nat,∃Av:Nat,wv.drew.cell? (p32.add 9)=some (.slice zB yv Av)∧
  (0≤(((yv:Nat):Int):Int)∧(((yv:Nat):Int):Int)≤((Aw:Nat):Int))∧
  (0≤(((yC:Nat):Int):Int)∧(((yC:Nat):Int):Int)≤((Int.toNat ((yv:Nat):Int):Nat):Int))∧
  ∀Au:Option Addr,Au=(if(Int.toNat ((yv:Nat):Int))=0 then zH else(zH:Option Addr).map (·.add (0*1)))→∀zA:Nat,zA=(Int.toNat ((yC:Nat):Int)) - 0→∀Bp:Nat,Bp=(Int.toNat ((yv:Nat):Int)) - 0→
  ∃Jz:Option Addr,∃Jw:Nat,∃Jy:Nat,∃wC,(Builtin.append_ #[47,47] 47 #[(.slice Au zA Bp),(.slice wordsA aS wordsC)]:Sem Value).run Tryd.prog wv.drew= .ok (.slice Jz Jw Jy) wC∧
  Kept (aX b [0,1,4,5,6,9,10,11]) wv.drew wC∧∃b1:Nat→Nat→Prop,(∀i k,b i k→b1 i k)∧
  ∃I:Nat→Option Addr→Nat→Nat→World→Prop,(∃m,I m Jz Jw Jy wC)∧∀(m:Nat)(Bg:Nat→Value)(leftA:Option Addr)(leftN:Nat)(leftC:Nat),∀wF,I m leftA leftN leftC wF→
  split (decide ((((leftN:Nat):Int):Int)≥16)) (
   ∃b2:Nat→Nat→Prop,
   ay d fun E2=>
   b2 4 ((E2.add 0).block)∧
   ∃I5:Int,∃I4:Int,∃I3:Int,∃I2:Int,∃I0:Int,∃IZ:Int,∃IY:Int,∃IX:Int,(wF.drew.cell? ((E2.add 0).add 0)=some (.int .u32 I5)∧wF.drew.cell? ((E2.add 0).add 1)=some (.int .u32 I4)∧wF.drew.cell? ((E2.add 0).add 2)=some (.int .u32 I3)∧wF.drew.cell? ((E2.add 0).add 3)=some (.int .u32 I2)∧wF.drew.cell? ((E2.add 0).add 4)=some (.int .u32 I0)∧wF.drew.cell? ((E2.add 0).add 5)=some (.int .u32 IZ)∧wF.drew.cell? ((E2.add 0).add 6)=some (.int .u32 IY)∧wF.drew.cell? ((E2.add 0).add 7)=some (.int .u32 IX))∧
   16≤leftN∧
   ay leftA fun AW=>
   b2 7 (AW.block)∧
   ∃CE:Int,∃CD:Int,∃CC:Int,∃CB:Int,∃CA:Int,∃Cz:Int,∃Cy:Int,∃Cx:Int,∃IA:Int,∃Iz:Int,∃Iy:Int,∃Ix:Int,∃Iw:Int,∃Iv:Int,∃Iu:Int,∃It:Int,(wF.drew.cell? (AW.add 0)=some (.int .u32 CE)∧wF.drew.cell? (AW.add 1)=some (.int .u32 CD)∧wF.drew.cell? (AW.add 2)=some (.int .u32 CC)∧wF.drew.cell? (AW.add 3)=some (.int .u32 CB)∧wF.drew.cell? (AW.add 4)=some (.int .u32 CA)∧wF.drew.cell? (AW.add 5)=some (.int .u32 Cz)∧wF.drew.cell? (AW.add 6)=some (.int .u32 Cy)∧wF.drew.cell? (AW.add 7)=some (.int .u32 Cx)∧wF.drew.cell? (AW.add 8)=some (.int .u32 IA)∧wF.drew.cell? (AW.add 9)=some (.int .u32 Iz)∧wF.drew.cell? (AW.add 10)=some (.int .u32 Iy)∧wF.drew.cell? (AW.add 11)=some (.int .u32 Ix)∧wF.drew.cell? (AW.add 12)=some (.int .u32 Iw)∧wF.drew.cell? (AW.add 13)=some (.int .u32 Iv)∧wF.drew.cell? (AW.add 14)=some (.int .u32 Iu)∧wF.drew.cell? (AW.add 15)=some (.int .u32 It))∧
   Calls Tryd.prog 76 #[(.agg #[(.int .u32 I5),(.int .u32 I4),(.int .u32 I3),(.int .u32 I2),(.int .u32 I0),(.int .u32 IZ),(.int .u32 IY),(.int .u32 IX)]),(.agg #[(.int .u32 CE),(.int .u32 CD),(.int .u32 CC),(.int .u32 CB),(.int .u32 CA),(.int .u32 Cz),(.int .u32 Cy),(.int .u32 Cx),(.int .u32 IA),(.int .u32 Iz),(.int .u32 Iy),(.int .u32 Ix),(.int .u32 Iw),(.int .u32 Iv),(.int .u32 Iu),(.int .u32 It)])] wF.drew fun e wH=>
   ∃Is:Int,∃Ir:Int,∃Iq:Int,∃Ip:Int,∃Im:Int,∃Il:Int,∃Ik:Int,∃Ij:Int,e= .returned (.agg #[(.int .u32 Is),(.int .u32 Ir),(.int .u32 Iq),(.int .u32 Ip),(.int .u32 Im),(.int .u32 Il),(.int .u32 Ik),(.int .u32 Ij)])∧
   Kept (aX b2 [0,1]) wF.drew wH∧∃b3:Nat→Nat→Prop,(∀i k,b2 i k→b3 i k)∧
   ay d fun p53=>
   aD wH (p53.add 0) [(.int .u32 Is),(.int .u32 Ir),(.int .u32 Iq),(.int .u32 Ip),(.int .u32 Im),(.int .u32 Il),(.int .u32 Ik),(.int .u32 Ij)] fun wJ=>
   ∃b4:Nat→Nat→Prop,(∀i k,b3 i k→b4 i k)∧
   (0≤(16:Int)∧(16:Int)≤((leftN:Nat):Int))∧
   ∀Aq:Option Addr,Aq=(if leftC=(Int.toNat 16)then leftA else(leftA:Option Addr).map (·.add ((Int.toNat 16)*1)))→∀zy:Nat,zy=leftN - (Int.toNat 16)→∀Ap:Nat,Ap=leftC - (Int.toNat 16)→
   ∃m1,m1<m∧I m1 Aq zy Ap wJ) (
   ∃HF:Option Addr,∃HD:Nat,∃HE:Nat,∃wH,(Builtin.append_ #[47,47] 47 #[(.slice none 0 0),(.slice leftA leftN leftC)]:Sem Value).run Tryd.prog wF= .ok (.slice HF HD HE) wH∧
   ay d fun p58=>
   aD wH (p58.add 9) [(.slice HF HD HE)] fun wJ=>
   R (.tuple #[]) wJ))
def tK:Ann:=(.node none .leaf (.node none .leaf (.node none .leaf (.node none (.node none (.node (some ⟨[(4,.one (.slice))],[4,39,40,41,42,43,44,45,46,47,48,49,50,51,52,53,54]⟩) .leaf .leaf) .leaf) .leaf))))
theorem SAdd_eq(d:Option Addr)(wordsA:Option Addr)(aS:Nat)(wordsC:Nat)(R:ax)(w:World):o5 d wordsA aS wordsC R w=vcF Tryd.prog aB [4] Tryd.f62 tK [(.pointer d),(.slice wordsA aS wordsC)] R none w:=by kernel_rfl
theorem nT(d:Option Addr)(wordsA:Option Addr)(aS:Nat)(wordsC:Nat) {R:ax} {w:World}(h:o5 d wordsA aS wordsC R w):Calls Tryd.prog 62 #[(.pointer d),(.slice wordsA aS wordsC)] w fun e w'=>∃v,e= .returned v∧R v w':=
 aq Tryd.func62 av ar ((SAdd_eq d wordsA aS wordsC R w).mp h)
end
end Go.Proofs.YtkbcgjfejboigaaDoor
namespace Go.Proofs.YtkbcgjfejboigaaDoor
open Go Go.RowKit V
open Go.IntKind (i64 u32 u64)
section
set_option maxRecDepth 10000
set_option maxHeartbeats 1000000
theorem wg {w:World}:
 Calls Tryd.prog 85 #[] w fun e w'=>∃v,e= .returned v∧∃g:Nat,∃L:DgL,v= .pointer (some (Addr.mk g 0 none))∧dR w' g L Dg.new∧(∀k,L.X g k→w.heap.size≤k)∧Pu w w':=by
 refine nR ?_
 have hp:=Ch.refl (fun _=>False) w
 refine Calls.mono (uy) ?_
 rintro e wv ⟨_,rfl,rfl,B7⟩
 refine⟨_,_,_,_,_,_,_,_,rfl,?_⟩
 refine mkd fun gv wC xh=>?_
 have wB:=xh.blk
 have hp:=Ch.made (Ch.pu hp B7) xh
 exact⟨gv,⟨fun _=>False,none,0,0⟩,rfl,⟨⟨_,wB⟩,Rd.nil,fun h=>h⟩,by have:=xh.num;have:=B7.size;rintro k (rfl | hk);omega;exact hk.elim,hp⟩
theorem uz {g:Nat} {L:DgL} {D:Dg} {Z:Nat→Prop} {wordsA:Option Addr} {aS:Nat} {wordsC:Nat} {l:List U32} {K:List Int} {w:World}(h:dR w g L D)(hz:Rd w Z wordsA aS wordsC l)(hk:cR w 1 K)(ok:D.Ok)(hlen:l.length≤1099511627776)(hzg:¬Z g)(EN:¬g=1):
 Calls Tryd.prog 62 #[(.pointer (some (Addr.mk g 0 none))),(.slice wordsA aS wordsC)] w fun e w'=>∃v,e= .returned v∧∃L':DgL,v= .tuple #[]∧dR w' g L' (D.add K l)∧(∀k,(L'.X g) k→(L.X g) k∨w.heap.size≤k)∧Ch (L.X g) w w':=by
 refine nT (some (Addr.mk g 0 none)) _ _ _ ?_
 have hn:=ok.n
 have hz0:=hz
 have hg9:=h.lt g (.inl rfl)
 have hp:=Ch.refl (L.X g) w
 have Gk:=h.lt
 have lt_hz:=hz.lt
 have yi:=hk.lt
 obtain⟨⟨hT,hb⟩,hr,zR⟩:=h
 have lt_hr:=hr.lt
 refine aw _ rfl ⟨_,hb.at rfl,?_⟩
 refine aH (fun c1=>?_) (fun c1=>?_)
 ·exact⟨L,rfl,by have hc:(l.length:Int)>36028797018963968 - D.n:=(by have:=hz.len;rw [aM (by omega)]at c1;omega);rw [Dg.add,if_pos hc];exact⟨⟨_,hb⟩,hr,zR⟩,fun k hk=>.inl hk,hp⟩
 ·have hzl:=hz.len
  have hrl:=hr.len
  have hn:=ok.n
  have hwl:=ok.len
  have Gu:=hr.cap
  rw [aM (by omega)]at c1
  refine aw _ rfl ⟨_,hb.at rfl,aw _ rfl (aI hb (by simp) fun wv B6=>?_)⟩
  have hb:Blk wv g #[(.int .u32 D.st.a),(.int .u32 D.st.b),(.int .u32 D.st.c),(.int .u32 D.st.d),(.int .u32 D.st.e),(.int .u32 D.st.f),(.int .u32 D.st.g),(.int .u32 D.st.h),(.int .i64 (i64.wrap (D.n+((aS:Nat):Int)))),(.slice L.a L.n L.c)] _:=B6.blk.cast (by kernel_rfl)
  refine⟨bXU [] [3,7,12] wv.drew (fun _=>False),?_⟩
  have hb:=Blk.drew hb
  refine aw _ rfl ⟨.inl (by decide),_,_,_,hb.at rfl,aw _ rfl ⟨.inl (by decide),_,_,_,hb.at rfl,aw _ rfl ⟨.inl (by decide),_,_,_,hb.at rfl,⟨by omega,⟨by omega,?_⟩⟩⟩⟩⟩
  have hr:=(hr.ch B6.ch (fun k hx e=>(zR) (e▸hx))).pu (Pu.aG _)
  rintro Au GI zA GG Bp GH
  have Gg:=Rd.all hr GI GG GH (by omega) (by omega)
  have hz:=(hz.ch B6.ch (fun k hx e=>(hzg) (e▸hx))).pu (Pu.aG _)
  have hp:=Ch.drew (Ch.call hp B6.ch (by exact fun k hk=>.inl (.inl hk)))
  refine uZ tR Gg (by omega) hz (by omega) (by omega) fun A_wv1 c_wv1 wC LY xJ=>?_
  refine bXU.tZ xJ (by decide) ?_
  have hp:=Ch.pu hp xJ
  have hz:=hz.pu xJ
  have hk:=((hk.ch B6.ch (fun k hx e=>(EN) (e▸hx))).pu (Pu.aG _)).pu xJ
  have hb:=Pu.blk xJ hb
  refine⟨fun mz leftA leftN leftC W=>∃Z_ll:Nat→Prop,∃ll:List U32,∃S:S8,∃n2:Int,mz=ll.length∧(bz K S ll=bz K D.st (D.waits++l))∧(¬Z_ll g)∧(ll.length≤1099511627800)∧(n2=D.n+l.length)∧Rd W Z_ll leftA leftN leftC ll∧Ch (L.X g) w W∧Rd W Z wordsA aS wordsC l∧cR W 1 K∧Blk W g #[(.int .u32 S.a),(.int .u32 S.b),(.int .u32 S.c),(.int .u32 S.d),(.int .u32 S.e),(.int .u32 S.f),(.int .u32 S.g),(.int .u32 S.h),(.int .i64 n2),(.slice L.a L.n L.c)] hT,⟨_,(fun k=>(L.Y k∨wv.drew.heap.size≤k)∧k<wC.heap.size),(D.waits++l),D.st,_,rfl,rfl,(by rintro⟨h | h,_⟩;exact zR h;exact absurd (Nat.lt_of_lt_of_le hg9 (Nat.le_trans B6.kept.size h)) (Nat.lt_irrefl _)),(by rw [List.length_append];omega),(by rw [aM (by omega)];omega),LY,hp,hz,hk,hb⟩,?_⟩
  rintro _ _ leftA leftN leftC wF ⟨Z_ll,ll,S,n2,rfl,hI,hlz,hlb,hn2,xP,hp,hz,hk,hb⟩
  refine aH (fun c2=>?_) (fun c2=>?_)
  ·refine⟨bXU [] [4,7] wF.drew (fun _=>False),?_⟩
   have hb:=Blk.drew hb
   have xP:=xP.pu (Pu.aG _)
   refine aw _ rfl ⟨.inl (by decide),_,_,_,_,_,_,_,_,⟨hb.at2 rfl,hb.at2 rfl,hb.at2 rfl,hb.at2 rfl,hb.at2 rfl,hb.at2 rfl,hb.at2 rfl,hb.at2 rfl⟩,⟨by omega,?_⟩⟩
   obtain⟨p3,ha3,hz3,yR⟩:=xP.u32 (by omega)
   refine aw p3 ha3 ⟨.inl (by decide),_,_,_,_,_,_,_,_,_,_,_,_,_,_,_,_,⟨yR 0 (by omega),yR 1 (by omega),yR 2 (by omega),yR 3 (by omega),yR 4 (by omega),yR 5 (by omega),yR 6 (by omega),yR 7 (by omega),yR 8 (by omega),yR 9 (by omega),yR 10 (by omega),yR 11 (by omega),yR 12 (by omega),yR 13 (by omega),yR 14 (by omega),yR 15 (by omega)⟩,?_⟩
   have hk:=hk.pu (Pu.aG _)
   refine Calls.mono (qR hk _ _ _ _ _ _ _ _ _ _ _ _ _ _ _ _ _ _ _ _ _ _ _ _) ?_
   rintro e wH ⟨_,rfl,rfl,wX⟩
   refine⟨_,_,_,_,_,_,_,_,rfl,?_⟩
   refine bXU.tZ wX (by decide) ?_
   have hb:=Pu.blk wX hb
   refine aw _ rfl (aI hb (by simp) fun wJ wP=>?_)
   have hb:Blk wJ g #[(.int .u32 ((dj K (S8.mk S.a S.b S.c S.d S.e S.f S.g S.h) [((ll.getD 0 ⟨0⟩).v),((ll.getD 1 ⟨0⟩).v),((ll.getD 2 ⟨0⟩).v),((ll.getD 3 ⟨0⟩).v),((ll.getD 4 ⟨0⟩).v),((ll.getD 5 ⟨0⟩).v),((ll.getD 6 ⟨0⟩).v),((ll.getD 7 ⟨0⟩).v),((ll.getD 8 ⟨0⟩).v),((ll.getD 9 ⟨0⟩).v),((ll.getD 10 ⟨0⟩).v),((ll.getD 11 ⟨0⟩).v),((ll.getD 12 ⟨0⟩).v),((ll.getD 13 ⟨0⟩).v),((ll.getD 14 ⟨0⟩).v),((ll.getD 15 ⟨0⟩).v)]).a)),(.int .u32 ((dj K (S8.mk S.a S.b S.c S.d S.e S.f S.g S.h) [((ll.getD 0 ⟨0⟩).v),((ll.getD 1 ⟨0⟩).v),((ll.getD 2 ⟨0⟩).v),((ll.getD 3 ⟨0⟩).v),((ll.getD 4 ⟨0⟩).v),((ll.getD 5 ⟨0⟩).v),((ll.getD 6 ⟨0⟩).v),((ll.getD 7 ⟨0⟩).v),((ll.getD 8 ⟨0⟩).v),((ll.getD 9 ⟨0⟩).v),((ll.getD 10 ⟨0⟩).v),((ll.getD 11 ⟨0⟩).v),((ll.getD 12 ⟨0⟩).v),((ll.getD 13 ⟨0⟩).v),((ll.getD 14 ⟨0⟩).v),((ll.getD 15 ⟨0⟩).v)]).b)),(.int .u32 ((dj K (S8.mk S.a S.b S.c S.d S.e S.f S.g S.h) [((ll.getD 0 ⟨0⟩).v),((ll.getD 1 ⟨0⟩).v),((ll.getD 2 ⟨0⟩).v),((ll.getD 3 ⟨0⟩).v),((ll.getD 4 ⟨0⟩).v),((ll.getD 5 ⟨0⟩).v),((ll.getD 6 ⟨0⟩).v),((ll.getD 7 ⟨0⟩).v),((ll.getD 8 ⟨0⟩).v),((ll.getD 9 ⟨0⟩).v),((ll.getD 10 ⟨0⟩).v),((ll.getD 11 ⟨0⟩).v),((ll.getD 12 ⟨0⟩).v),((ll.getD 13 ⟨0⟩).v),((ll.getD 14 ⟨0⟩).v),((ll.getD 15 ⟨0⟩).v)]).c)),(.int .u32 ((dj K (S8.mk S.a S.b S.c S.d S.e S.f S.g S.h) [((ll.getD 0 ⟨0⟩).v),((ll.getD 1 ⟨0⟩).v),((ll.getD 2 ⟨0⟩).v),((ll.getD 3 ⟨0⟩).v),((ll.getD 4 ⟨0⟩).v),((ll.getD 5 ⟨0⟩).v),((ll.getD 6 ⟨0⟩).v),((ll.getD 7 ⟨0⟩).v),((ll.getD 8 ⟨0⟩).v),((ll.getD 9 ⟨0⟩).v),((ll.getD 10 ⟨0⟩).v),((ll.getD 11 ⟨0⟩).v),((ll.getD 12 ⟨0⟩).v),((ll.getD 13 ⟨0⟩).v),((ll.getD 14 ⟨0⟩).v),((ll.getD 15 ⟨0⟩).v)]).d)),(.int .u32 ((dj K (S8.mk S.a S.b S.c S.d S.e S.f S.g S.h) [((ll.getD 0 ⟨0⟩).v),((ll.getD 1 ⟨0⟩).v),((ll.getD 2 ⟨0⟩).v),((ll.getD 3 ⟨0⟩).v),((ll.getD 4 ⟨0⟩).v),((ll.getD 5 ⟨0⟩).v),((ll.getD 6 ⟨0⟩).v),((ll.getD 7 ⟨0⟩).v),((ll.getD 8 ⟨0⟩).v),((ll.getD 9 ⟨0⟩).v),((ll.getD 10 ⟨0⟩).v),((ll.getD 11 ⟨0⟩).v),((ll.getD 12 ⟨0⟩).v),((ll.getD 13 ⟨0⟩).v),((ll.getD 14 ⟨0⟩).v),((ll.getD 15 ⟨0⟩).v)]).e)),(.int .u32 ((dj K (S8.mk S.a S.b S.c S.d S.e S.f S.g S.h) [((ll.getD 0 ⟨0⟩).v),((ll.getD 1 ⟨0⟩).v),((ll.getD 2 ⟨0⟩).v),((ll.getD 3 ⟨0⟩).v),((ll.getD 4 ⟨0⟩).v),((ll.getD 5 ⟨0⟩).v),((ll.getD 6 ⟨0⟩).v),((ll.getD 7 ⟨0⟩).v),((ll.getD 8 ⟨0⟩).v),((ll.getD 9 ⟨0⟩).v),((ll.getD 10 ⟨0⟩).v),((ll.getD 11 ⟨0⟩).v),((ll.getD 12 ⟨0⟩).v),((ll.getD 13 ⟨0⟩).v),((ll.getD 14 ⟨0⟩).v),((ll.getD 15 ⟨0⟩).v)]).f)),(.int .u32 ((dj K (S8.mk S.a S.b S.c S.d S.e S.f S.g S.h) [((ll.getD 0 ⟨0⟩).v),((ll.getD 1 ⟨0⟩).v),((ll.getD 2 ⟨0⟩).v),((ll.getD 3 ⟨0⟩).v),((ll.getD 4 ⟨0⟩).v),((ll.getD 5 ⟨0⟩).v),((ll.getD 6 ⟨0⟩).v),((ll.getD 7 ⟨0⟩).v),((ll.getD 8 ⟨0⟩).v),((ll.getD 9 ⟨0⟩).v),((ll.getD 10 ⟨0⟩).v),((ll.getD 11 ⟨0⟩).v),((ll.getD 12 ⟨0⟩).v),((ll.getD 13 ⟨0⟩).v),((ll.getD 14 ⟨0⟩).v),((ll.getD 15 ⟨0⟩).v)]).g)),(.int .u32 ((dj K (S8.mk S.a S.b S.c S.d S.e S.f S.g S.h) [((ll.getD 0 ⟨0⟩).v),((ll.getD 1 ⟨0⟩).v),((ll.getD 2 ⟨0⟩).v),((ll.getD 3 ⟨0⟩).v),((ll.getD 4 ⟨0⟩).v),((ll.getD 5 ⟨0⟩).v),((ll.getD 6 ⟨0⟩).v),((ll.getD 7 ⟨0⟩).v),((ll.getD 8 ⟨0⟩).v),((ll.getD 9 ⟨0⟩).v),((ll.getD 10 ⟨0⟩).v),((ll.getD 11 ⟨0⟩).v),((ll.getD 12 ⟨0⟩).v),((ll.getD 13 ⟨0⟩).v),((ll.getD 14 ⟨0⟩).v),((ll.getD 15 ⟨0⟩).v)]).h)),(.int .i64 n2),(.slice L.a L.n L.c)] _:=wP.blk.cast (by kernel_rfl)
   refine bXU.grow wP.ch ?_
   refine⟨by omega,?_⟩
   have xP:=(xP.pu wX).ch wP.ch (fun k hx e=>(hlz) (e▸hx))
   rintro Aq GF zy GC Ap GD
   have Gf:=Rd.from_ (lo:=16) xP GF GC GD (by omega) (by have:=xP.cap;omega)
   have hp:=Ch.call (Ch.pu (Ch.drew hp) wX) wP.ch (by exact fun k hk=>.inl (.inl hk))
   have hz:=((hz.pu (Pu.aG _)).pu wX).ch wP.ch (fun k hx e=>(hzg) (e▸hx))
   have hk:=(hk.pu wX).ch wP.ch (fun k hx e=>(EN) (e▸hx))
   exact⟨_,by rw [List.length_drop];have:=xP.len;omega,Z_ll,(ll.drop 16),(dj K S ((ll.take 16).map U32.v)),n2,rfl,(by rw [← hI,← cH (by have:=xP.len;omega)]),hlz,(by rw [List.length_drop];omega),hn2,Gf,hp,hz,hk,hb.cast (vR (congrArg (Value.int .u32) (by rw [dD (by have:=xP.len;omega)])) (congrArg (Value.int .u32) (by rw [dD (by have:=xP.len;omega)])) (congrArg (Value.int .u32) (by rw [dD (by have:=xP.len;omega)])) (congrArg (Value.int .u32) (by rw [dD (by have:=xP.len;omega)])) (congrArg (Value.int .u32) (by rw [dD (by have:=xP.len;omega)])) (congrArg (Value.int .u32) (by rw [dD (by have:=xP.len;omega)])) (congrArg (Value.int .u32) (by rw [dD (by have:=xP.len;omega)])) (congrArg (Value.int .u32) (by rw [dD (by have:=xP.len;omega)])) (rfl) (rfl))⟩
  ·have NJ:=hp.size
   have hog:¬wF.heap.size≤g:=by omega
   refine oT tR xP (by omega) (by omega) fun A_wv3 F0 wH BR wX=>?_
   have hb:=Pu.blk wX hb
   refine aw _ rfl (aI hb (by simp) fun wJ wP=>?_)
   have hb:Blk wJ g #[(.int .u32 S.a),(.int .u32 S.b),(.int .u32 S.c),(.int .u32 S.d),(.int .u32 S.e),(.int .u32 S.f),(.int .u32 S.g),(.int .u32 S.h),(.int .i64 n2),(.slice A_wv3 leftN F0)] _:=wP.blk.cast (by kernel_rfl)
   have BR:=BR.ch wP.ch (fun k hx e=>hog (e▸hx.1))
   have hp:=Ch.call (Ch.pu hp wX) wP.ch (by exact fun k hk=>.inl (.inl hk))
   exact⟨⟨fun k=>wF.heap.size≤k∧k<wJ.heap.size,A_wv3,leftN,F0⟩,rfl,by have hn:=ok.n;have hc:¬(l.length:Int)>36028797018963968 - D.n:=(by have:=hz0.len;omega);have ha:bz K D.st (D.waits++l)=(S,ll):=(by rw [← hI,cI (by have:=xP.len;omega)]);rw [Dg.add,if_neg hc,ha];exact⟨⟨_,Blk.cast hb (by rw [← hn2])⟩,(BR).uB (fun k hk=>⟨hk.1.1,hk.2⟩) (fun k hk=>hk.2),fun h=>absurd h.1 hog⟩,fun k hk=>hk.elim (fun e=>.inl (.inl e)) (fun h=>.inr (Nat.le_trans NJ h.1)),hp⟩
end
end Go.Proofs.YtkbcgjfejboigaaDoor
namespace Go.Proofs.YtkbcgjfejboigaaDoor
open Go Go.RowKit V
open Go.IntKind (i64 u32 u64)
open Enc (enc)
section
namespace V
theorem Rd.vS {α:Type} [Enc α] {P:Program} {w:World} {Z Y:Nat→Prop} {t ty e:TypeId} {z:Value} {bytes:Nat} {A:Option Addr} {n:Nat} {l l2:List α} {b:Addr} {m d:Nat}(hT:SN P t e z (Enc.size α) bytes)(h1:Rd w Z A n n l)(h2:Rd w Y (some b) m d l2)(hm:0<m)(Bm:n+m≤9223372036854775807)(Cb:(n+m)*bytes≤140737488355328)
 {K:Option Addr→Nat→Nat→World→Prop}(hK:∀A' c' w2,Own w2 (fun k=>w.heap.size≤k) e A' (n+m) c' (l++l2)→Pu w w2→K A' (n+m) c' w2):
 ∃(A':Option Addr)(n' c':Nat)(w2:World),(Builtin.append_ #[t,t] ty #[.slice A n n,.slice (some b) m d]:Sem Value).run P w= .ok (.slice A' n' c') w2∧K A' n' c' w2:=by
 obtain⟨i,hi,hz,xS,hb⟩:=hT.info
 cases A with
 | none=>
  obtain⟨Mg,hn⟩:=h1.uG
  subst Mg hn
  exact Own.apps (Own.nil (w:=w) (Z:=fun k=>w.heap.size≤k)) hT h2 Bm Cb (Nat.le_refl _) (fun A' c' w2 ho hc=>hK A' c' w2 ho hc.fresh) (fun h=>absurd h (by omega))
 | some a=>
  obtain⟨v',w2,hr,ho,hg⟩:=run_append_arg_grows (P:=P) w t ty e i z (Enc.size α) bytes hT.und hi hz xS hb hT.cells hT.pos a n n (l.flatMap enc) (by rw [bW,h1.len]) (h1.flat rfl) b m d (l2.flatMap enc) (by rw [bW,h2.len]) (h2.flat rfl) (by omega) (by simp only [maxLen];omega) Cb
  rw [← List.flatMap_append]at ho
  rcases ho.2 with⟨_,BU⟩ | ⟨g,cap,cur,hv,Ob,AY,rest⟩
  ·omega
  ·subst hv
   exact⟨_,_,_,_,hr,hK _ _ _ ⟨⟨⟨ho.1,.inr ⟨g,cap,cur,rfl,Nat.zero_le _,AY,rest⟩⟩,fun a ha=>by injection ha with ha;rw [← ha];exact Ob⟩,by rw [List.length_append,h1.len,h2.len]⟩ ⟨⟨hg.os,hg.tape,hg.output,hg.size,fun k hk=>hg.block k hk.1 (by simp)⟩⟩⟩
end V
def gV(l:List U32):List U32:=l++List.replicate ((30 - l.length % 16) % 16) (U32.mk 0)
theorem pj {l:List U32}(h:¬l.length % 16=14):gV (l++ [U32.mk 0])=gV l:=by
 have e:(30 - l.length % 16) % 16=(30 - (l++ [U32.mk 0]).length % 16) % 16+1:=by rw [List.length_append,List.length_singleton];omega
 unfold gV
 rw [e,List.append_assoc,List.replicate_succ];rfl
theorem pk {l:List U32}(h:l.length % 16=14):gV l=l:=by unfold gV;rw [h];simp
theorem ov(l:List U32):l.length≤(gV l).length∧(gV l).length≤l.length+15:=by unfold gV;rw [List.length_append,List.length_replicate];omega
def Dg.fin(K:List Int)(d:Dg)(x hi lo:Int):S8:=(bz K d.st (gV (d.waits++ [U32.mk x])++ [U32.mk hi,U32.mk lo])).1
def Dg.sum(K:List Int)(d:Dg):S8:=d.fin K 2147483648 (u32.wrap ((u64.wrap (32*(u64.wrap d.n)):Int).fdiv (2 ^ 32))) (u32.wrap (u64.wrap (32*(u64.wrap d.n))))
def s8C(s:S8):Array Value:= #[.int .u32 s.a,.int .u32 s.b,.int .u32 s.c,.int .u32 s.d,.int .u32 s.e,.int .u32 s.f,.int .u32 s.g,.int .u32 s.h]
theorem oB(x0 x1 x2 x3 x4 x5 x6 x7 y0 y1 y2 y3 y4 y5 y6 y7:Value):setAt #[x0,x1,x2,x3,x4,x5,x6,x7] 0 [y0,y1,y2,y3,y4,y5,y6,y7]= #[y0,y1,y2,y3,y4,y5,y6,y7]:=by kernel_rfl
theorem uv:SN Tryd.prog 47 22 (.int .u32 0) 1 4:=oC.sn
theorem sO {w:World} {g:Nat} {x:Int} {T:TypeId}(b:Blk w g #[.int .u32 x] T):Rd w (fun k=>k=g) (some (Addr.mk g 0 none)) 1 1 [U32.mk x]:=
 ⟨rfl,Nat.le_refl _,fun k hk=>by rw [hk];exact b.lt,fun i z hz=>⟨_,rfl,rfl,fun j hj=>by
  have hj:j=0:=by have:Enc.size U32=1:=rfl;omega
  subst hj
  match i,hz with
  | 0,hz=>injection hz with hz;subst hz;exact b.at2 (i:=0) (j:=0) rfl
  | i+1,hz=>simp at hz⟩⟩
theorem sM {w:World} {g:Nat} {x y:Int} {T:TypeId}(b:Blk w g #[.int .u32 x,.int .u32 y] T):Rd w (fun k=>k=g) (some (Addr.mk g 0 none)) 2 2 [U32.mk x,U32.mk y]:=
 ⟨rfl,Nat.le_refl _,fun k hk=>by rw [hk];exact b.lt,fun i z hz=>⟨_,rfl,rfl,fun j hj=>by
  have hj:j=0:=by have:Enc.size U32=1:=rfl;omega
  subst hj
  match i,hz with
  | 0,hz=>injection hz with hz;subst hz;exact b.at2 (i:=0) (j:=0) rfl
  | 1,hz=>injection hz with hz;subst hz;exact b.at2 (i:=1) (j:=0) rfl
  | i+2,hz=>simp at hz⟩⟩
attribute [local irreducible] bz dj
theorem wh {g:Nat} {L:DgL} {D:Dg} {K:List Int} {w:World}(h:dR w g L D)(hk:cR w 1 K)(hl:D.waits.length<16)(last long:Int):
 Calls Tryd.prog 90 #[.pointer (some (Addr.mk g 0 none)),.int .u32 last,.int .u64 long] w fun e w'=>∃v,e= .returned v∧v= .agg (s8C (D.fin K last (u32.wrap ((long:Int).fdiv (2 ^ 32))) (u32.wrap long)))∧Pu w w':=by
 obtain⟨⟨T,hb⟩,hr,zR⟩:=h
 have hlen:=hr.len
 have Gu:=hr.cap
 refine nS _ _ _ ?_
 refine mkd fun gv w1 m1=>?_
 have GS:Pu w w1.drew:=m1.pu.trans (Pu.aG w1)
 have b1:=GS.blk hb
 refine⟨bXU [3,7,12] [] w1.drew (fun _=>False),aw _ rfl ⟨.inr ⟨rfl,bX.ld b1 (fun h=>h) 9⟩,_,_,_,b1.at rfl,aw _ rfl ⟨.inr ⟨rfl,bX.ld b1 (fun h=>h) 9⟩,_,_,_,b1.at rfl,aw _ rfl ⟨.inr ⟨rfl,bX.ld b1 (fun h=>h) 9⟩,_,_,_,b1.at rfl,⟨by omega,by omega⟩,⟨by omega,by omega⟩,?_⟩⟩⟩⟩
 rintro A1 hA1 N1 On C1 Ou
 have On:N1=L.n:=by simpa using On
 have Ou:C1=L.n:=by simpa using Ou
 subst On
 subst Ou
 have r1:Rd w1.drew L.Y A1 L.n L.n D.waits:=by
  have:=(hr.pu GS).cut (lo:=0) (hi:=L.n) (m:=L.n) (A':=A1) (n':=L.n) (c':=L.n) (by rw [Int.toNat_natCast]at hA1;exact hA1) (by omega) (by omega) (by omega) (by omega) (by omega)
  rwa [List.drop_zero,Nat.sub_zero,List.take_of_length_le (by omega)]at this
 refine mkd fun g2 w2 m2=>bXU.dO m2.pu rfl ?_
 have zf:Pu w w2:=GS.trans m2.pu
 refine Rd.vS uv (r1.pu m2.pu) (sO m2.blk) (by omega) (by omega) (by omega) fun A3 c3 w3 o3 p3=>bXU.dO p3 rfl ?_
 have hz:=ov (D.waits++ [U32.mk last])
 rw [List.length_append,List.length_singleton]at hz
 refine⟨fun m A N C w'=>∃ll:List U32,Own w' (fun k=>w2.heap.size≤k) 22 A N C ll∧gV ll=gV (D.waits++ [U32.mk last])∧m=(30 - ll.length % 16) % 16∧Pu w2 w',⟨_,_,o3,rfl,rfl,p3⟩,?_⟩
 rintro m _ A4 N4 C4 w4 ⟨ll,o4,e4,rfl,p4⟩
 have s4:w2.heap.size≤w4.heap.size:=p4.size
 have hN4:=o4.len
 have hz4:=ov ll
 rw [e4]at hz4
 have et:((N4:Nat):Int).tmod 16=((N4 % 16:Nat):Int):=by rw [Int.tmod_eq_emod_of_nonneg (by omega)];omega
 refine aU (fun xi=>?_) (fun heq=>?_)
 ·have xi:¬ll.length % 16=14:=by rw [et]at xi;omega
  refine mkd fun g5 w5 m5=>?_
  refine Own.app (x:=U32.mk 0) (o4.pu m5.pu) uv m5.blk rfl (by omega) (by omega) (Nat.le_trans s4 m5.pu.size) fun A6 c6 w6 o6 q6=>?_
  exact⟨_,by rw [List.length_append,List.length_singleton];omega,ll++ [U32.mk 0],o6,(pj xi).trans e4,rfl,(p4.trans m5.pu).call q6 fun k hk=>.inr hk⟩
 ·have heq:ll.length % 16=14:=by rw [et]at heq;omega
  rw [pk heq]at e4
  refine mkd fun g5 w5 m5=>?_
  refine Own.apps (o4.pu m5.pu) uv (sM m5.blk) (by omega) (by omega) (Nat.le_trans s4 m5.pu.size) (fun A6 c6 w6 o6 q6=>?_) (fun h=>absurd h (by omega))
  have MO:Pu w2 w6:=(p4.trans m5.pu).call q6 fun k hk=>.inr hk
  have p6:Pu w w6:=zf.trans MO
  have b6:=p6.blk hb
  refine aw _ rfl ⟨_,_,_,_,_,_,_,_,⟨b6.at2 rfl,b6.at2 rfl,b6.at2 rfl,b6.at2 rfl,b6.at2 rfl,b6.at2 rfl,b6.at2 rfl,b6.at2 rfl⟩,mkd fun g7 w7 m7=>aR m7.blk (by simp) fun w8 s8=>?_⟩
  have Nz:Pu w6 w8:=m7.pu.stored s8 (.inr (by rw [m7.num];exact Nat.le_refl _))
  have r8:Rd w8 (fun k=>w2.heap.size≤k∧k<w6.heap.size) A6 (N4+2) c6 (ll++ [U32.mk (u32.wrap ((long:Int).fdiv (2 ^ 32))),U32.mk (u32.wrap long)]):=o6.rd.pu Nz
  have bgv:Blk w8 gv #[.int .u32 0,.int .u32 0,.int .u32 0,.int .u32 0,.int .u32 0,.int .u32 0,.int .u32 0,.int .u32 0] 60:=by
   have q:Pu w1 w2:=(Pu.aG w1).trans m2.pu
   exact Pu.blk ((q.trans MO).trans Nz) m1.blk
  have g7lt:w6.heap.size=g7:=m7.num.symm
  obtain⟨LL,Oo⟩:∃LL,LL=ll++ [U32.mk (u32.wrap ((long:Int).fdiv (2 ^ 32))),U32.mk (u32.wrap long)]:=⟨_,rfl⟩
  have Oq:LL.length % 16=0:=by rw [Oo,List.length_append];simp;omega
  rw [← Oo]at r8
  have i8:Blk w8 g7 (s8C D.st) 60:=by have h9:=s8.blk;rw [oB]at h9;exact h9
  refine⟨fun m A N C w'=>∃(S:S8)(rr:List U32),Rd w' (fun k=>w2.heap.size≤k∧k<w6.heap.size) A N C rr∧bz K S rr=bz K D.st LL∧rr.length % 16=0∧m=rr.length∧Blk w' g7 (s8C S) 60∧Blk w' gv #[.int .u32 0,.int .u32 0,.int .u32 0,.int .u32 0,.int .u32 0,.int .u32 0,.int .u32 0,.int .u32 0] 60∧Pu w w',⟨LL.length,D.st,LL,r8,rfl,Oq,rfl,i8,bgv,p6.trans Nz⟩,?_⟩
  rintro m _ A9 N9 C9 w9 ⟨⟨sa,sb,sc,sd,se,sf,sg,sh⟩,rr,r9,e9,h16,rfl,b9,bv9,p9⟩
  have hN9:=r9.len
  have hC9:=r9.cap
  refine aH (fun hpos=>?_) (fun h0=>?_)
  ·have hlr:16≤rr.length:=by omega
   have pd:=Pu.aG w9
   have zY:=pd.blk b9
   obtain⟨p,rfl,hp,hc⟩:=(r9.pu pd).u32 (by omega)
   refine⟨fun _ _=>True,trivial,_,_,_,_,_,_,_,_,⟨zY.at rfl,zY.at rfl,zY.at rfl,zY.at rfl,zY.at rfl,zY.at rfl,zY.at rfl,zY.at rfl⟩,by omega,aw _ rfl ⟨trivial,_,_,_,_,_,_,_,_,_,_,_,_,_,_,_,_,⟨hc 0 (by omega),hc 1 (by omega),hc 2 (by omega),hc 3 (by omega),hc 4 (by omega),hc 5 (by omega),hc 6 (by omega),hc 7 (by omega),hc 8 (by omega),hc 9 (by omega),hc 10 (by omega),hc 11 (by omega),hc 12 (by omega),hc 13 (by omega),hc 14 (by omega),hc 15 (by omega)⟩,?_⟩⟩
   refine(qR (hk.pu (p9.trans pd)) _ _ _ _ _ _ _ _ _ _ _ _ _ _ _ _ _ _ _ _ _ _ _ _).mono ?_
   rintro e zt ⟨_,rfl,rfl,Gj⟩
   have pp:Pu w9 zt:=pd.trans Gj
   refine⟨_,_,_,_,_,_,_,_,rfl,_,fun _ _ h=>h,aR (pp.blk b9) (by simp [s8C]) fun xF zn=>⟨_,fun _ _ h=>h,⟨by omega,by omega⟩,?_⟩⟩
   rintro A13 Ov N13 Om C13 Ot
   have r12:Rd xF (fun k=>w2.heap.size≤k∧k<w6.heap.size) (some p) N9 C9 rr:=(r9.pu pp).ch zn.ch fun k hk e=>by omega
   refine⟨rr.length - 16,by omega,dj K ⟨sa,sb,sc,sd,se,sf,sg,sh⟩ ((rr.take 16).map U32.v),rr.drop 16,r12.from_ (m:=C9) (lo:=16) Ov Om Ot (by omega) (by omega),by rw [← cH hlr];exact e9,by rw [List.length_drop];omega,by rw [List.length_drop],?_,zn.old (pp.blk bv9) (fun e=>by have:=m1.blk.lt;have:=((Pu.aG w1).trans m2.pu).size;have:=p3.size;omega),p9.trans pp |>.stored zn (.inr ?_)⟩
   ·have h9:=zn.blk
    unfold s8C at h9 ⊢
    rw [oB]at h9
    rw [dD hlr];exact h9
   ·rw [← g7lt];exact p6.size
  ·have Gp:rr= []:=List.eq_nil_of_length_eq_zero (by omega)
   subst Gp
   rw [cI (by simp)]at e9
   refine⟨_,_,_,_,_,_,_,_,⟨b9.at rfl,b9.at rfl,b9.at rfl,b9.at rfl,b9.at rfl,b9.at rfl,b9.at rfl,b9.at rfl⟩,aR bv9 (by simp) fun Ex Ey=>?_⟩
   have zY:=Ey.blk
   rw [oB]at zY
   refine⟨_,_,_,_,_,_,_,_,⟨zY.at rfl,zY.at rfl,zY.at rfl,zY.at rfl,zY.at rfl,zY.at rfl,zY.at rfl,zY.at rfl⟩,?_,p9.stored Ey (.inr (by rw [m1.num];exact Nat.le_refl _))⟩
   have e:D.fin K last (u32.wrap ((long:Int).fdiv (2 ^ 32))) (u32.wrap long)=⟨sa,sb,sc,sd,se,sf,sg,sh⟩:=by
    unfold Dg.fin
    rw [← e4,← Oo,← e9]
   rw [e];rfl
theorem vw {g:Nat} {L:DgL} {D:Dg} {K:List Int} {w:World}(h:dR w g L D)(hk:cR w 1 K)(hl:D.waits.length<16):
 Calls Tryd.prog 77 #[.pointer (some (Addr.mk g 0 none))] w fun e w'=>∃v,e= .returned v∧v= .agg (s8C (D.sum K))∧Pu w w':=by
 refine fR _ ?_
 refine mkd fun gv w1 m1=>?_
 have h1:=h.pu m1.pu
 obtain⟨T,hb⟩:=h1.blk
 refine aw _ rfl ⟨_,hb.at rfl,(wh h1 (hk.pu m1.pu) hl _ _).mono ?_⟩
 rintro e w2 ⟨_,rfl,rfl,p2⟩
 have e:D.sum K=D.fin K 2147483648 (u32.wrap ((u64.wrap (32*(u64.wrap D.n)):Int).fdiv (2 ^ 32))) (u32.wrap (u64.wrap (32*(u64.wrap D.n)))):=rfl
 rw [e]
 generalize D.fin K 2147483648 _ _=S
 obtain⟨sa,sb,sc,sd,se,sf,sg,sh⟩:=S
 refine⟨_,_,_,_,_,_,_,_,rfl,aR (p2.blk m1.blk) (by simp) fun w3 s3=>?_⟩
 have b3:=s3.blk
 unfold s8C at *
 rw [oB]at b3
 exact⟨_,_,_,_,_,_,_,_,⟨b3.at rfl,b3.at rfl,b3.at rfl,b3.at rfl,b3.at rfl,b3.at rfl,b3.at rfl,b3.at rfl⟩,rfl,(m1.pu.trans p2).stored s3 (.inr (by rw [m1.num];exact Nat.le_refl _))⟩
end
section
theorem sB8:S1 Tryd.prog 121 5 (.int .u8 0) 1:=S1.of (by kernel_rfl) (by kernel_rfl) rfl
theorem rdB {α:Type} [Enc α] {w:World} {g:Nat} {cs:Array Value} {T:TypeId} {l:List α}(b:Blk w g cs T)(h:cs.toList=l.flatMap enc) {n c:Nat}(hn:l.length=n)(hc:n≤c):Rd w (fun k=>k=g) (some (Addr.mk g 0 none)) n c l:=
 ⟨hn,hc,fun k hk=>hk▸b.lt,fun i x hx=>⟨_,rfl,rfl,fun j hj=>by
  have h1:=flat_get l i j x hx hj
  have hv:(enc x)[j]? =some ((enc x)[j]'(by rw [br];exact hj)):=List.getElem?_eq_getElem _
  rw [hv]
  exact b.at2 (by rw [← Array.getElem?_toList,h,h1,hv])⟩⟩
theorem pO {α:Type} [Enc α] {P:Program} {w:World} {t e:TypeId} {z:Value} {bytes:Nat}(h:S1 P t e z bytes)(hs:Enc.size α=1) {n:Int}(h0:0≤n)(hn:(bytes:Int)*n≤281474976710656)(Bm:n≤9223372036854775807) {K:Option Addr→Nat→Nat→World→Prop}
 (hK:∀A C w2,Own w2 (fun k=>w.heap.size≤k) e A 0 C ([]:List α)→Pu w w2→K A 0 C w2):
 ∃(A:Option Addr)(N C:Nat)(w2:World),(Instr.makeSlice t (.int .i64 0) (.int .i64 n):Sem Value).run P w= .ok (.slice A N C) w2∧K A N C w2:=by
 obtain⟨i,hi,hz,xS,hb⟩:=h.info
 have en:n=((n.toNat:Nat):Int):=by omega
 have eb:((bytes*n.toNat:Nat):Int)=(bytes:Int)*n:=by rw [Int.natCast_mul,← en]
 obtain⟨w2,hr,ho,hg⟩:=run_make_own (P:=P) w w.heap.size t e i z 1 h.und hi hz xS .i64 .i64 n.toNat (by rw [hb];omega) (by simp only [maxLen];omega) (Nat.le_refl _)
 rw [← en]at hr
 refine⟨_,_,_,_,hr,hK _ _ _ ⟨⟨?_,fun a ha=>?_⟩,rfl⟩ ⟨⟨hg.os,hg.tape,hg.output,hg.size,fun k hk=>hg.block k hk.1 (by simp)⟩⟩⟩
 ·rw [hs]
  rcases ho with⟨h1,h2⟩
  refine⟨h1,?_⟩
  rcases h2 with h2 | ⟨g,cap,cur,hv,AY,rest⟩
  ·exact .inl h2
  ·exact .inr ⟨g,cap,cur,hv,Nat.zero_le _,rest⟩
 ·injection ha with ha;rw [← ha];exact Nat.le_refl _
def byW(x:Int)(k:Nat):U8:=⟨IntKind.u8.wrap (x.fdiv (2 ^ k))⟩
def nE(x:U32):List U8:= [byW x.v 24,byW x.v 16,byW x.v 8,byW x.v 0]
def cL(l:List U32):List U8:=l.flatMap nE
theorem mj {l:List U32} {k:Nat} {x:U32}(h:l[k]? =some x):cL (l.take (k+1))=cL (l.take k)++nE x:=by
 unfold cL
 rw [List.take_add_one,h,List.flatMap_append];simp
theorem sG {w:World} {Y:Nat→Prop} {A:Option Addr} {n c:Nat} {l:List U32}(h:Rd w Y A n c l)(hn:n≤1099511627776):
 Calls Tryd.prog 84 #[.slice A n c] w fun e w'=>∃v,e= .returned v∧∃A' c',v= .slice A' (4*n) c'∧Own w' (fun k=>w.heap.size≤k) 5 A' (4*n) c' (cL l)∧Pu w w':=by
 have hl:=h.len
 refine jn _ _ _ ?_
 refine pO (α:=U8) sB8 rfl (by rw [aM (by omega)];omega) (by rw [aM (by omega)];omega) (by rw [aM (by omega)];omega) fun A0 C0 w0 o0 p0=>?_
 refine⟨fun m A' N' C' i w'=>∃k:Nat,i=(k:Int)∧k≤n∧m=n - k∧N'=4*k∧Own w' (fun a=>w.heap.size≤a) 5 A' (4*k) C' (cL (l.take k))∧Pu w w',⟨n,0,rfl,Nat.zero_le _,rfl,rfl,o0,p0⟩,?_⟩
 rintro m _ A' _ C' _ w1 ⟨k,rfl,hk,rfl,rfl,ho,q⟩
 refine aH (fun hb=>?_) (fun hb=>?_)
 ·refine⟨by omega,?_⟩
  obtain⟨p,x,hA,hx,hz,hc⟩:=(h.pu q).ld (i:=(k:Int)) (by omega) (by omega)
  rw [Int.toNat_natCast]at hx hc
  refine aw p hA ⟨x.v,by rw [Int.toNat_natCast];have:=hc 0 (by decide);exact this,?_⟩
  intro gv w2 hg hw
  have hM:=made hg hw
  refine Own.apps (l2:=nE x) (m:=4) (d:=4) (ho.pu hM.pu) sB8.sn (rdB hM.blk rfl rfl (Nat.le_refl _)) (by omega) (by omega) (by have:=hM.pu.size;have:=q.size;omega) (fun A3 c3 w3 o3 q3=>?_) (fun h=>absurd h (by omega))
  refine⟨n - (k+1),by omega,k+1,by rw [aM (by omega)];omega,by omega,rfl,by omega,?_,(q.trans hM.pu).call q3 fun a ha=>.inr ha⟩
  rw [mj hx];exact o3
 ·obtain rfl:k=n:=by omega
  refine⟨_,_,rfl,?_,q⟩
  rwa [List.take_of_length_le (by omega)]at ho
def be(a b c d:Int):Int:=u32.wrap (BitVec.ofInt u32.bits (u32.wrap (BitVec.ofInt u32.bits (u32.wrap (BitVec.ofInt u32.bits (u32.wrap ((u32.wrap a:Int)*2 ^ 24)) ||| BitVec.ofInt u32.bits (u32.wrap ((u32.wrap b:Int)*2 ^ 16))).toNat) ||| BitVec.ofInt u32.bits (u32.wrap ((u32.wrap c:Int)*2 ^ 8))).toNat) ||| BitVec.ofInt u32.bits (u32.wrap ((u32.wrap d:Int)*2 ^ 0))).toNat
theorem uW(a b c d:Int):0≤be a b c d∧be a b c d<4294967296:=pv _
def kz(l:List U8)(i:Nat):U32:=⟨be (l.getD (4*i) ⟨0⟩).v (l.getD (4*i+1) ⟨0⟩).v (l.getD (4*i+2) ⟨0⟩).v (l.getD (4*i+3) ⟨0⟩).v⟩
def eG(l:List U8):List U32:=(List.range (l.length / 4)).map (kz l)
theorem nf(l:List U8):(eG l).length=l.length / 4:=by unfold eG;rw [List.length_map,List.length_range]
theorem nd {l:List U8}:∀x∈eG l,0≤x.v∧x.v<4294967296:=by
 intro x hx
 obtain⟨i,_,rfl⟩:=List.mem_map.1 hx
 exact uW _ _ _ _
def aS(l:List U8)(k:Nat):List U32:=(List.range k).map (kz l)++List.replicate (l.length / 4 - k) ⟨0⟩
theorem ly {l:List U8} {k:Nat}(hk:k<l.length / 4):(aS l k).set k (kz l k)=aS l (k+1):=by
 unfold aS
 rw [List.set_append_right _ _ (by simp),List.range_succ,List.map_append,List.append_assoc]
 congr 1
 rw [show l.length / 4 - k=(l.length / 4 - (k+1))+1 by omega,List.replicate_succ]
 simp
theorem vA {w:World} {Z:Nat→Prop} {A:Option Addr} {n c:Nat} {l:List U8}(h:Rd w Z A n c l)(h0:0<n):∃p,A=some p∧∀i,i<n→w.cell? (p.add i)=some (.int .u8 (l.getD i ⟨0⟩).v):=by
 obtain⟨p,x,hA,hx,hz,hc⟩:=h.ld (i:=0) (by omega) (by omega)
 refine⟨p,hA,fun i hi=>?_⟩
 obtain⟨p',x',yz,FI,_,BW⟩:=h.ld (i:=(i:Int)) (by omega) (by omega)
 rw [hA]at yz
 injection yz with e
 subst e
 rw [Int.toNat_natCast]at FI BW
 have:=BW 0 (by decide)
 rw [List.getD_eq_getElem?_getD,FI]
 rw [show(p.add (i*Enc.size U8)).add 0=p.add i by rw [add_add,Nat.add_zero,show i*Enc.size U8=i from Nat.mul_one i]]at this
 exact this
theorem sF {w:World} {Y:Nat→Prop} {A:Option Addr} {n c:Nat} {l:List U8}(h:Rd w Y A n c l)(hn:n≤1048576)(h4:n % 4=0):
 Calls Tryd.prog 86 #[.slice A n c] w fun e w'=>∃v,e= .returned v∧∃A' c',v= .tuple #[.slice A' (n / 4) c',.int .i64 0]∧Own w' (fun k=>w.heap.size≤k) 22 A' (n / 4) c' (eG l)∧Pu w w':=by
 have hl:=h.len
 have Gu:=h.cap
 have et:(n:Int).tmod 4=0:=by rw [Int.tmod_eq_emod_of_nonneg (by omega)];omega
 have ed:i64.wrap ((n:Int).tdiv 4)=((n / 4:Nat):Int):=by
  have:(n:Int).tdiv 4=(n:Int) / 4:=Int.tdiv_eq_ediv_of_nonneg (by omega)
  rw [this,aM (by omega)];omega
 refine jm _ _ _ ?_
 refine aH (fun hb=>by omega) (fun hb=>?_)
 refine aU (fun hb=>absurd et hb) (fun _=>?_)
 refine l0 oC (⟨0⟩:U32) rfl (by omega) (by omega) (by omega) fun g w0 hM0 o0=>?_
 have eN:(i64.wrap ((n:Int).tdiv 4)).toNat=n / 4:=by omega
 rw [eN]at o0 ⊢
 have p0:Pu w w0:=hM0.pu
 have hg:w.heap.size≤g:=by rw [hM0.num];exact Nat.le_refl _
 refine⟨fun m i w'=>∃k:Nat,i=(k:Int)∧k≤n / 4∧m=n / 4 - k∧Own w' (fun a=>a=g) 22 (some (Addr.mk g 0 none)) (n / 4) (n / 4) (aS l k)∧Pu w w',⟨n / 4,0,rfl,Nat.zero_le _,rfl,by unfold aS;rw [hl];exact o0,p0⟩,?_⟩
 rintro m _ _ w1 ⟨k,rfl,hk,rfl,ho,q⟩
 refine aH (fun hb=>?_) (fun hb=>?_)
 ·have e4:i64.wrap (4*(k:Int))=((4*k:Nat):Int):=by rw [aM (by omega)];omega
  rw [e4]
  refine⟨by omega,?_⟩
  rintro A2 hA2 N2 hN2 C2 hC2
  rw [Int.toNat_natCast]at hA2 hN2 hC2
  have r2:Rd w1 Y A2 N2 C2 (l.drop (4*k)):=(h.pu q).from_ (m:=c) (lo:=4*k) hA2 hN2 hC2 (by omega) Gu
  obtain⟨p,rfl,hc⟩:=vA r2 (by omega)
  have hd:∀j,(l.drop (4*k)).getD j ⟨0⟩=l.getD (4*k+j) ⟨0⟩:=fun j=>by rw [List.getD_eq_getElem?_getD,List.getElem?_drop,List.getD_eq_getElem?_getD]
  refine⟨fun _ _=>True,by omega,aw p rfl ⟨trivial,_,hc 0 (by omega),by omega,aw p rfl ⟨trivial,_,hc 1 (by omega),by omega,aw p rfl ⟨trivial,_,hc 2 (by omega),by omega,aw p rfl ⟨trivial,_,hc 3 (by omega),by omega,aw _ rfl ?_⟩⟩⟩⟩⟩
  rw [Int.toNat_natCast]
  have hw:(aS l k)[k]? =some ⟨0⟩:=by
   unfold aS
   rw [List.getElem?_append_right (by simp),List.getElem?_replicate,if_pos (by simp;omega)]
  refine(ho.pu (Pu.aG w1)).st0 rfl (i:=k) (by omega) hw (y:=kz l k) (by simp only [hd];rfl) fun w2 o2 q2=>?_
  refine⟨_,fun _ _ h=>h,n / 4 - (k+1),by omega,k+1,by rw [aM (by omega)];omega,by omega,rfl,?_,(q.trans (Pu.aG w1)).call q2 fun a ha=>.inr (by have:a=g:=ha;omega)⟩
  rw [← ly (by omega)];exact o2
 ·obtain rfl:k=n / 4:=by omega
  refine⟨_,_,rfl,?_,q⟩
  have e:aS l (n / 4)=eG l:=by unfold aS eG;rw [hl,Nat.sub_self];simp
  rw [e]at ho
  exact ho.mono fun a ha=>by have:a=g:=ha;omega
def uk(x p:Int):Int:=IntKind.u8.wrap (BitVec.ofInt IntKind.u8.bits x ^^^ BitVec.ofInt IntKind.u8.bits p).toNat
def full(l:List U8):List U8:=l++List.replicate (64 - l.length) ⟨0⟩
def ns(l:List U8)(p:Int):List U8:=(full l).map fun x=>⟨uk x.v p⟩
theorem ei {l:List U8}(h:l.length≤64):(full l).length=64:=by unfold full;rw [List.length_append,List.length_replicate];omega
theorem cE {l:List U8}(h:l.length≤64)(p:Int):(ns l p).length=64:=by unfold ns;rw [List.length_map,ei h]
def gI(l:List U8)(p:Int)(k:Nat):List U8:=(ns l p).take k++(full l).drop k
theorem rh {l:List U8} {p:Int}(h:l.length≤64) {k:Nat}(hk:k≤64):(gI l p k).length=64:=by unfold gI;rw [List.length_append,List.length_take,List.length_drop,cE h,ei h];omega
theorem ri {l:List U8} {p:Int}(h:l.length≤64) {k:Nat}(hk:k<64):(gI l p k)[k]? =some ((full l).getD k ⟨0⟩):=by
 unfold gI
 rw [List.getElem?_append_right (by rw [List.length_take,cE h];omega),List.length_take,cE h,List.getElem?_drop,show k+(k - min k 64)=k by omega,List.getD_eq_getElem?_getD,List.getElem?_eq_getElem (by rw [ei h];exact hk)];rfl
theorem pL {l:List U8} {p:Int}(h:l.length≤64) {k:Nat}(hk:k<64):(gI l p k).set k ⟨uk ((full l).getD k ⟨0⟩).v p⟩=gI l p (k+1):=by
 have hf:=ei h
 unfold gI
 have hx:(full l)[k]? =some ((full l).getD k ⟨0⟩):=by rw [List.getD_eq_getElem?_getD,List.getElem?_eq_getElem (by omega)];rfl
 have hp:(ns l p)[k]? =some ⟨uk ((full l).getD k ⟨0⟩).v p⟩:=by unfold ns;rw [List.getElem?_map,hx];rfl
 rw [List.take_add_one,hp,List.set_append_right _ _ (by rw [List.length_take,cE h];omega),List.length_take,cE h,show k - min k 64=0 by omega,List.append_assoc]
 congr 1
 have zS:k<(full l).length:=by omega
 rw [List.drop_eq_getElem_cons zS];rfl
theorem uR(l:List U8):(l.map fun x:U8=>Value.int .u8 x.v)=l.flatMap enc:=by
 induction l with
 | nil=>rfl
 | cons x r ih=>rw [List.map_cons,List.flatMap_cons,ih];rfl
theorem qY {w:World} {Z:Nat→Prop} {A:Option Addr} {n c:Nat} {l:List U8}(h:Rd w Z A n c l):bH w Z .u8 A n c (l.map U8.v):=
 ⟨by rw [List.length_map];exact h.len,h.cap,fun j x hx=>by
  rw [List.getElem?_map]at hx
  obtain⟨y,hy,rfl⟩:=Option.map_eq_some_iff.1 hx
  obtain⟨p,hA,hz,hc⟩:=h.cell j y hy
  have:=hc 0 (by decide)
  rw [show(p.add (j*Enc.size U8)).add 0=p.add j by rw [add_add,Nat.add_zero,show j*Enc.size U8=j from Nat.mul_one j]]at this
  exact⟨p,hA,hz,this⟩⟩
theorem qJ {l:List U8}(h:l.length≤64):(setAt (Array.replicate 64 (.int .u8 0)) 0 (((l.map U8.v).take (min l.length 64)).map (Value.int .u8))).toList=(full l).map fun x:U8=>Value.int .u8 x.v:=by
 apply List.ext_getElem?
 intro i
 rw [Array.getElem?_toList,cT _ _ _ _ (by simp;omega)]
 unfold full
 simp only [List.length_map,List.length_take,List.getElem?_map,List.getElem?_append,List.getElem?_replicate,List.getElem?_take,Array.getElem?_replicate]
 rw [show min l.length 64=l.length by omega,Nat.min_self]
 by_cases hi:i<l.length
 ·rw [if_pos ⟨by omega,by omega⟩,if_pos hi,if_pos (by omega)]
  simp [List.getElem?_eq_getElem hi]
 ·rw [if_neg (by omega),if_neg hi]
  by_cases BX:i<64
  ·rw [if_pos BX,if_pos (by omega)];rfl
  ·rw [if_neg BX,if_neg (by omega)];rfl
theorem tm {w:World} {Y:Nat→Prop} {A:Option Addr} {n c:Nat} {l:List U8}(h:Rd w Y A n c l)(hn:n≤64)(pad:Int):
 Calls Tryd.prog 87 #[.slice A n c,.int .u8 pad] w fun e w'=>∃v,e= .returned v∧∃g,v= .slice (some (Addr.mk g 0 none)) 64 64∧Rd w' (fun k=>k=g) (some (Addr.mk g 0 none)) 64 64 (ns l pad)∧w.heap.size≤g∧Pu w w':=by
 have hl:=h.len
 have BX:l.length≤64:=by omega
 refine jD _ _ _ _ ?_
 refine⟨fun A' n' c' w'=>w'=w∧A'=A∧n'=n∧c'=c,aH (fun hb=>by omega) (fun _=>⟨rfl,rfl,rfl,rfl⟩),?_⟩
 rintro _ _ _ _ wv ⟨rfl,rfl,rfl,rfl⟩
 refine gR sB8 (n:=64) (by decide) (by decide) (by decide) fun g w1 m1=>?_
 have hg:wv.heap.size≤g:=by rw [m1.num];exact Nat.le_refl _
 refine kP sB8 (o:=0) m1.blk ((qY h).pu m1.pu) (by simp;omega) fun w2 s2=>?_
 have b2:Blk w2 g ((gI l pad 0).map fun x:U8=>Value.int .u8 x.v).toArray 5:=by
  refine s2.blk.cast ?_
  apply Array.ext'
  rw [← hl]
  have:=qJ BX
  unfold gI
  rw [List.take_zero,List.nil_append,List.drop_zero]
  exact this.symm
 have p2:Pu wv w2:=m1.pu.stored s2 (.inr hg)
 refine⟨fun m i w'=>∃k:Nat,i=(k:Int)∧k≤64∧m=64 - k∧Blk w' g ((gI l pad k).map fun x:U8=>Value.int .u8 x.v).toArray 5∧Pu wv w',⟨64,0,rfl,by omega,rfl,b2,p2⟩,?_⟩
 rintro m _ _ w3 ⟨k,rfl,hk,rfl,b3,p3⟩
 refine aH (fun hb=>?_) (fun hb=>?_)
 ·have Mh:k<64:=by have hb:(k:Int)<((64:Nat):Int):=hb;omega
  have yK:=ri (p:=pad) BX Mh
  have hc:((gI l pad k).map fun x:U8=>Value.int .u8 x.v).toArray[k*1]? =some (.int .u8 ((full l).getD k ⟨0⟩).v):=by
   rw [Nat.mul_one,List.getElem?_toArray,List.getElem?_map,yK];rfl
  refine⟨⟨by omega,by show(k:Int)<((64:Nat):Int);omega⟩,aw _ rfl ⟨_,by rw [Int.toNat_natCast];exact b3.at hc,⟨by omega,by show(k:Int)<((64:Nat):Int);omega⟩,aw _ rfl ?_⟩⟩
  rw [Int.toNat_natCast]
  refine aI b3 (by simp [rh BX hk];omega) fun w4 s4=>?_
  refine⟨64 - (k+1),by omega,k+1,by rw [aM (by omega)];omega,by omega,rfl,?_,p3.stored s4 (.inr hg)⟩
  refine s4.blk.cast ?_
  rw [jL,Nat.mul_one]
  apply Array.ext'
  rw [Array.toList_setIfInBounds,← pL BX Mh,List.map_set]
  rfl
 ·obtain rfl:k=64:=by have hb:¬(k:Int)<((64:Nat):Int):=hb;omega
  refine⟨g,rfl,rdB b3 ?_ (cE BX pad) (Nat.le_refl _),hg,p3⟩
  rw [← uR]
  unfold gI
  rw [List.take_of_length_le (by rw [cE BX];exact Nat.le_refl _),List.drop_of_length_le (by rw [ei BX];exact Nat.le_refl _),List.append_nil]
attribute [local irreducible] bz dj
theorem uu(K:List Int) {d:Dg}(h:d.Ok):(d.sum K).ok:=ke _ _ _ h.st
theorem Dg.Ok.lt {d:Dg}(h:d.Ok):d.waits.length<16:=by have:=h.len;have:=h.n;omega
def s8L(s:S8):List U32:= [⟨s.a⟩,⟨s.b⟩,⟨s.c⟩,⟨s.d⟩,⟨s.e⟩,⟨s.f⟩,⟨s.g⟩,⟨s.h⟩]
theorem vx {w:World} {g:Nat} {L:DgL} {D:Dg}(h:dR w g L D)(zd:D.Ok):
 Calls Tryd.prog 78 #[.pointer (some (Addr.mk g 0 none))] w fun e w'=>∃v,e= .returned v∧∃(g2:Nat)(L2:DgL),v= .pointer (some (Addr.mk g2 0 none))∧dR w' g2 L2 D∧(∀k,L2.X g2 k→w.heap.size≤k)∧Pu w w':=by
 obtain⟨⟨T,b⟩,hr,zR⟩:=h
 have hlen:=hr.len
 have hw:=zd.lt
 refine my _ ?_
 refine aw _ rfl ⟨_,_,_,_,_,_,_,_,_,_,_,_,⟨b.at rfl,b.at rfl,b.at rfl,b.at rfl,b.at rfl,b.at rfl,b.at rfl,b.at rfl,b.at rfl,b.at rfl⟩,mkd fun gv w1 m1=>aJ m1.blk rfl fun w2 s2=>?_⟩
 have hg:w.heap.size≤gv:=by rw [m1.num];exact Nat.le_refl _
 have p2:Pu w w2:=m1.pu.stored s2 (.inr hg)
 have b2:=p2.blk b
 refine aw _ rfl ⟨_,_,_,b2.at rfl,?_⟩
 refine oT oC.sn (hr.pu p2) (by omega) (by omega) fun sA sC w3 o3 q3=>?_
 have p3:Pu w w3:=p2.trans q3
 have b3:=q3.blk s2.blk
 refine aI b3 (by simp) fun w4 s4=>?_
 have q4:Ch (fun k=>k=gv) w3 w4:=s4.ch
 have hgw:gv<w2.heap.size:=s2.blk.lt
 refine⟨gv,⟨fun k=>w2.heap.size≤k∧k<w3.heap.size,sA,L.n,sC⟩,rfl,⟨⟨_,s4.blk⟩,?_,fun e=>by have:=e.1;omega⟩,?_,p3.call q4 fun k hk=>.inr (by have:k=gv:=hk;omega)⟩
 ·have:=o3.rd
  exact(this.ch q4 fun k hk e=>by have:k=gv:=e;have:=hk.1;omega).mono (fun k hk=>hk.1) fun k hk=>by have:=hk.2;have:=q4.size;omega
 ·rintro k (rfl | hk)
  ·exact hg
  ·have:=hk.1;have:=p2.size;omega
def l3(K:List Int)(kb:List U8)(pad:Int):Dg:=Dg.new.add K (eG (ns kb pad))
theorem kI(K:List Int)(kb:List U8)(pad:Int):(l3 K kb pad).Ok:=Dg.iI Dg.kH nd
def ru(K:List Int)(key msg:List U32):S8:=((l3 K (cL key) 92).add K (s8L (((l3 K (cL key) 54).add K msg).sum K))).sum K
theorem rF {w:World} {Y:Nat→Prop} {A:Option Addr} {n c:Nat} {l:List U8} {K:List Int}(h:Rd w Y A n c l)(hk:cR w 1 K)(hn:n≤64)(pad:Int):
 Calls Tryd.prog 75 #[.slice A n c,.int .u8 pad] w fun e w'=>∃v,e= .returned v∧∃(g:Nat)(L:DgL),v= .pointer (some (Addr.mk g 0 none))∧dR w' g L (l3 K l pad)∧(∀k,L.X g k→w.heap.size≤k)∧Pu w w':=by
 have hl:=h.len
 refine ln _ _ _ _ ?_
 refine wg.mono ?_
 rintro e w1 ⟨_,rfl,g,L,rfl,hD,hg,p1⟩
 refine⟨_,rfl,(tm (h.pu p1) hn pad).mono ?_⟩
 rintro e w2 ⟨_,rfl,g2,rfl,r2,Mq,p2⟩
 refine⟨_,_,_,rfl,(sF r2 (by omega) (by decide)).mono ?_⟩
 rintro e w3 ⟨_,rfl,A3,c3,rfl,o3,p3⟩
 have hpl:=cE (l:=l) (by omega) pad
 have B8:Pu w1 w3:=p2.trans p3
 have AY:=hg g (.inl rfl)
 have EN:=hD.lt g (.inl rfl)
 have hk0:=hk.lt _ rfl
 have EC:=p2.size
 refine⟨_,_,_,_,rfl,(uz (hD.pu B8) o3.rd (hk.pu (p1.trans B8)) Dg.kH (by rw [nf,hpl];decide) (fun e=>by have:=e.1;omega) (by omega)).mono ?_⟩
 rintro e w4 ⟨_,rfl,L4,rfl,hD4,hg4,q4⟩
 exact⟨rfl,g,L4,rfl,hD4,fun k hk=>(hg4 k hk).elim (hg k) fun h9=>by have:=B8.size;have:=p1.size;omega,(p1.trans B8).call q4 fun k hk=>.inr (hg k hk)⟩
theorem uM {w:World} {Y:Nat→Prop} {A:Option Addr} {n c:Nat} {l:List U32}(h:Rd w Y A n c l)(hn:n≤16):
 Calls Tryd.prog 74 #[.slice A n c] w fun e w'=>∃v,e= .returned v∧∃A' c',v= .slice A' (4*n) c'∧Own w' (fun k=>w.heap.size≤k) 5 A' (4*n) c' (cL l)∧Pu w w':=by
 refine lh _ _ _ (aH (fun hb=>by omega) fun _=>?_)
 refine(sG h (by omega)).mono ?_
 rintro e w1 ⟨_,rfl,A',c',rfl,ho,p⟩
 exact⟨_,_,_,rfl,_,_,rfl,ho,p⟩
structure vV(w:World)(g:Nat)(X:Nat→Prop)(D1 D2:Dg):Prop where
 ex:∃(T:TypeId)(g1 g2:Nat)(L1 L2:DgL),Blk w g #[.pointer (some (Addr.mk g1 0 none)),.pointer (some (Addr.mk g2 0 none))] T∧dR w g1 L1 D1∧dR w g2 L2 D2∧(∀k,L1.X g1 k→X k)∧(∀k,L2.X g2 k→X k)∧(∀k,L1.X g1 k→¬L2.X g2 k)∧¬L1.X g1 g∧¬L2.X g2 g
theorem wq {w:World} {Y:Nat→Prop} {A:Option Addr} {n c:Nat} {l:List U32} {K:List Int}(h:Rd w Y A n c l)(hk:cR w 1 K)(hn:n≤16):
 Calls Tryd.prog 61 #[.slice A n c] w fun e w'=>∃v,e= .returned v∧∃(g:Nat),v= .pointer (some (Addr.mk g 0 none))∧vV w' g (fun k=>w.heap.size≤k) (l3 K (cL l) 54) (l3 K (cL l) 92)∧w.heap.size≤g∧Pu w w':=by
 refine oc _ _ _ ?_
 refine(uM h hn).mono ?_
 rintro e w1 ⟨_,rfl,A1,c1,rfl,o1,p1⟩
 refine⟨_,_,_,rfl,(rF o1.rd (hk.pu p1) (by omega) 54).mono ?_⟩
 rintro e w2 ⟨_,rfl,g2,L2,rfl,d2,Mq,p2⟩
 refine⟨_,rfl,(rF (o1.pu p2).rd (hk.pu (p1.trans p2)) (by omega) 92).mono ?_⟩
 rintro e w3 ⟨_,rfl,g3,L3,rfl,d3,Mp,p3⟩
 refine⟨_,rfl,mkd fun gv w4 m4=>?_⟩
 have s1:=p1.size;have s2:=p2.size;have s3:=p3.size
 have zo:=d2.lt;have GY:=d3.lt
 have e4:=m4.num
 refine⟨gv,rfl,⟨_,g2,g3,L2,L3,m4.blk,d2.pu (p3.trans m4.pu),d3.pu m4.pu,fun k hk=>?_,fun k hk=>?_,fun k hk N0=>?_,fun hk=>?_,fun hk=>?_⟩,by omega,(p1.trans p2).trans (p3.trans m4.pu)⟩
 ·have:=Mq k hk;omega
 ·have:=Mp k hk;omega
 ·have:=zo k hk;have:=Mp k N0;omega
 ·have:=zo _ hk;omega
 ·have:=GY _ hk;omega
theorem tl {w:World} {g:Nat} {X:Nat→Prop} {D1 D2:Dg} {K:List Int}(h:vV w g X D1 D2)(hk:cR w 1 K)(h1:D1.Ok)(h2:D2.Ok):
 Calls Tryd.prog 63 #[.pointer (some (Addr.mk g 0 none))] w fun e w'=>∃v,e= .returned v∧v= .agg (s8C ((D2.add K (s8L (D1.sum K))).sum K))∧Pu w w':=by
 obtain⟨T,g1,g2,L1,L2,hb,d1,d2,_⟩:=h
 refine jC _ ?_
 refine mkd fun gv w1 m1=>aw _ rfl ⟨_,(m1.pu.blk hb).at rfl,(vw (d1.pu m1.pu) (hk.pu m1.pu) h1.lt).mono ?_⟩
 rintro e w2 ⟨_,rfl,rfl,p2⟩
 obtain⟨S,hS⟩:∃S,S=D1.sum K:=⟨_,rfl⟩
 rw [← hS]
 refine⟨_,_,_,_,_,_,_,_,rfl,mkd fun gs w3 m3=>aJ m3.blk rfl fun w4 s4=>?_⟩
 have zM:Pu w w2:=m1.pu.trans p2
 have hgs:w2.heap.size≤gs:=by rw [m3.num];exact Nat.le_refl _
 have Ny:Pu w2 w4:=m3.pu.stored s4 (.inr hgs)
 have q4:Pu w w4:=zM.trans Ny
 refine aw _ rfl ⟨_,(q4.blk hb).at rfl,(vx (d2.pu q4) h2).mono ?_⟩
 rintro e w5 ⟨_,rfl,g5,L5,rfl,d5,MX,p5⟩
 refine⟨_,rfl,?_⟩
 rintro A6 hA6 N6 hN6 C6 hC6
 have b5:=p5.blk s4.blk
 have r6:Rd w5 (fun k=>k=gs) A6 N6 C6 (s8L S):=by
  subst hA6 hN6 hC6
  exact rdB (l:=s8L S) b5 rfl rfl (Nat.le_refl _)
 have hk0:=hk.lt _ rfl
 have hgsl:=s4.blk.lt
 have zn:=zM.size;have s24:=Ny.size
 refine(uz d5 r6 (hk.pu (q4.trans p5)) h2 (show 8≤1099511627776 by decide) (fun e=>by have:=MX g5 (.inl rfl);have:g5=gs:=e;omega) (by have:=MX g5 (.inl rfl);omega)).mono ?_
 rintro e w6 ⟨_,rfl,L6,rfl,d6,hg6,q6⟩
 have q56:Pu w w6:=(q4.trans p5).call q6 fun k hk=>.inr (by have:=MX k hk;omega)
 have hr:∀x∈s8L S,0≤x.v∧x.v<4294967296:=by
  have:=uu K h1
  rw [← hS]at this
  obtain⟨a1,a2,a3,a4,a5,a6,a7,a8⟩:=this
  intro x hx
  simp only [s8L,List.mem_cons,List.not_mem_nil,or_false]at hx
  rcases hx with rfl | rfl | rfl | rfl | rfl | rfl | rfl | rfl<;>assumption
 refine⟨rfl,(vw d6 (hk.pu q56) (Dg.iI h2 hr).lt).mono ?_⟩
 rintro e w7 ⟨_,rfl,rfl,p7⟩
 generalize Dg.sum K (Dg.add K D2 (s8L S))=R
 have Oa:w.heap.size≤gv:=by rw [m1.num];exact Nat.le_refl _
 have LN:Pu w1 w7:=((p2.trans Ny).trans p5).call q6 (fun k hk=>.inr (by have:=MX k hk;have:=p2.size;omega)) |>.trans p7
 refine⟨_,_,_,_,_,_,_,_,rfl,aJ (Pu.blk LN m1.blk) rfl fun w8 s8=>?_⟩
 have b8:=s8.blk
 exact⟨_,_,_,_,_,_,_,_,⟨b8.at rfl,b8.at rfl,b8.at rfl,b8.at rfl,b8.at rfl,b8.at rfl,b8.at rfl,b8.at rfl⟩,rfl,(m1.pu.trans LN).stored s8 (.inr Oa)⟩
theorem vK {w:World} {Y Z:Nat→Prop} {kA mA:Option Addr} {kn kc mn mc:Nat} {key msg:List U32} {K:List Int}(h1:Rd w Y kA kn kc key)(h2:Rd w Z mA mn mc msg)(hk:cR w 1 K)(zq:kn≤16)(hmn:mn≤1099511627776)(hr:∀x∈msg,0≤x.v∧x.v<4294967296):
 Calls Tryd.prog 47 #[.slice kA kn kc,.slice mA mn mc] w fun e w'=>∃v,e= .returned v∧v= .agg (s8C (ru K key msg))∧Pu w w':=by
 refine mY _ _ _ _ _ _ ?_
 refine mkd fun gv w1 m1=>?_
 refine(wq (h1.pu m1.pu) (hk.pu m1.pu) zq).mono ?_
 rintro e w2 ⟨_,rfl,g,rfl,⟨T,g1,g2,L1,L2,hb,d1,d2,x1,x2,ne,n1,n2⟩,hg,p2⟩
 have FH:=m1.pu.trans p2
 have r2:=h2.pu FH
 have hz:=h2.lt
 have hk0:=hk.lt _ rfl
 have e1:=x1 g1 (.inl rfl)
 have sz:=m1.size
 refine⟨_,rfl,aw _ rfl ⟨_,hb.at rfl,(uz d1 r2 (hk.pu FH) (kI ..) (by rw [h2.len];exact hmn) (fun hh=>by have:=hz _ hh;omega) (by omega)).mono ?_⟩⟩
 rintro e w3 ⟨_,rfl,L3,rfl,d3,Mp,q3⟩
 have G0:=hb.lt
 refine⟨rfl,(tl (X:=fun _=>True) ⟨T,g1,g2,L3,L2,q3.blk hb n1,d3,d2.ch q3 (fun k hk Mj=>ne k Mj hk),fun _ _=>trivial,fun _ _=>trivial,fun k hk zS=>(Mp k hk).elim (fun h=>ne k h zS) (fun h=>by have:=d2.lt k zS;omega),fun h=>(Mp g h).elim n1 (fun h=>by omega),n2⟩ ((hk.pu FH).ch q3 fun k hk Mj=>?_) (Dg.iI (kI ..) hr) (kI ..)).mono ?_⟩
 ·have:=x1 k Mj;omega
 rintro e w4 ⟨_,rfl,rfl,p4⟩
 have eq:((l3 K (cL key) 92).add K (s8L (((l3 K (cL key) 54).add K msg).sum K))).sum K=ru K key msg:=rfl
 rw [eq]
 generalize ru K key msg=R
 have Oa:w.heap.size≤gv:=by rw [m1.num];exact Nat.le_refl _
 have yI:Pu w1 w4:=(p2.call q3 fun k hk=>.inr (x1 k hk)).trans p4
 refine⟨_,_,_,_,_,_,_,_,rfl,aJ (Pu.blk yI m1.blk) rfl fun w5 s5=>?_⟩
 have b5:=s5.blk
 exact⟨_,_,_,_,_,_,_,_,⟨b5.at rfl,b5.at rfl,b5.at rfl,b5.at rfl,b5.at rfl,b5.at rfl,b5.at rfl,b5.at rfl⟩,rfl,(m1.pu.trans yI).stored s5 (.inr Oa)⟩
end
end Go.Proofs.YtkbcgjfejboigaaDoor
namespace Go.Proofs.YtkbcgjfejboigaaDoor
open Go Go.RowKit V
open Go.IntKind (i64 u32 u64)
namespace Mem
def cD(m:Mem):Nat→Mem
 | 0=>m
 | k+1=>(cD m k).zero true k
theorem ui(m:Mem)(s:Bool)(p:Int):(m.zero s p).S=m.S:=by unfold zero;split<;>rfl
theorem uj(m:Mem)(s:Bool)(p:Int):(m.zero s p).I=m.I:=by unfold zero;split<;>rfl
@[simp] theorem eX(m:Mem):∀k,(m.cD k).S=m.S
 | 0=>rfl
 | k+1=>by rw [cD,ui,eX m k]
@[simp] theorem sD(m:Mem):∀k,(m.cD k).I=m.I
 | 0=>rfl
 | k+1=>by rw [cD,uj,sD m k]
theorem nb(m:Mem) {p:Int}(h:0≤p∧p<9000000000000000000):m.cD (i64.wrap (p+1)).toNat=(m.cD p.toNat).zero true p:=by
 rw [aM (by omega),show(p+1).toNat=p.toNat+1 by omega,cD,show((p.toNat:Nat):Int)=p by omega]
end Mem
def DB.new(m:Mem):DB:=⟨m.cD m.S,0,fun _=>.free⟩
theorem DB.tX(m:Mem):(DB.new m).S=m.S:=m.eX _
theorem DB.kH(m:Mem)(h:1≤m.S):(DB.new m).Ok:=⟨fun p hp=>⟨Ent.tq,by show(0:Int)<((DB.new m).S:Nat);rw [DB.tX];omega⟩,by show(0:Int)≤0∧(0:Int)≤64;omega⟩
def DB.ws(D:DB):List Int:=(List.range D.S).flatMap fun p=>[(D.ent p).w0,(D.ent p).w1]
def DB.wd(l:List U32)(i:Nat):Int:=(l.getD i ⟨0⟩).v
def DB.load(m:Mem)(l:List U32):DB:=⟨m,DB.wd l 0,fun p=>Ent.dec (DB.wd l (1+2*p)) (DB.wd l (2+2*p))⟩
theorem oD {n:Nat} {v:Value} {i:Nat}(h:i<n):(Array.replicate n v)[i]? =some v:=by simp [h]
namespace Ent
theorem or0 {e:Ent}(h:e.ok=true):u32.wrap (BitVec.ofInt u32.bits (u32.wrap (BitVec.ofInt u32.bits (u32.wrap ((u32.wrap e.typ:Int)*2 ^ 0)) ||| BitVec.ofInt u32.bits (u32.wrap ((u32.wrap e.state:Int)*2 ^ 4))).toNat) ||| BitVec.ofInt u32.bits (u32.wrap ((u32.wrap e.owner:Int)*2 ^ 16))).toNat=e.typ+16*e.state+65536*e.owner:=by
 have h1:=eh h
 have h2:=eg h
 rw [cY (x:=e.typ) (by omega),cY (x:=e.state) (by omega),cY (x:=e.owner) (by omega),cY (x:=e.typ*2 ^ 0) (by omega),cY (x:=e.state*2 ^ 4) (by omega),cY (x:=e.owner*2 ^ 16) (by omega),nt (x:=e.typ*2 ^ 0) (by omega) (by omega),iq,
  show e.state*2 ^ 4=2 ^ 4*e.state by omega,fi 4 (by omega) (by omega) (by omega),nt (by omega) (by omega),iq,show e.owner*2 ^ 16=2 ^ 16*e.owner by omega,fi 16 (by omega) (by omega) (by omega)]
 omega
theorem or1 {x:Int}(h:∃a b:Int,x=a+512*b∧0≤a∧a<256∧0≤b∧b<8388608):u32.wrap (BitVec.ofInt u32.bits x ||| BitVec.ofInt u32.bits 256).toNat=x+256:=by
 obtain⟨a,b,rfl,h1,h2,h3,h4⟩:=h
 have e1:nor (2 ^ 8*1) a=2 ^ 8*1+a:=fi 8 (by omega) h1 h2
 have e2:nor (2 ^ 9*b) a=2 ^ 9*b+a:=fi 9 h3 h1 (by omega)
 have e3:nor (2 ^ 9*b) (256+a)=2 ^ 9*b+(256+a):=fi 9 h3 (by omega) (by omega)
 rw [nt (by omega) (by omega)]
 have assoc:∀x y z:Int,nor (nor x y) z=nor x (nor y z):=by
  intro x y z;unfold nor;simp [Nat.or_assoc]
 rw [show a+512*b=2 ^ 9*b+a by omega,← e2,assoc,iq a 256,show nor 256 a=256+a by simpa using e1,e3,e2]
 omega
theorem mask(k:Nat) {x:Int}(m:Int)(hm:m=2 ^ k - 1)(hk:k≤31)(hx:0≤x∧x<4294967296):i64.wrap (u32.wrap (BitVec.ofInt u32.bits x &&& BitVec.ofInt u32.bits m).toNat)=x % 2 ^ k:=by
 have h2:(2:Int) ^ k≤2 ^ 31:=by exact_mod_cast Nat.pow_le_pow_right (n:=2) (by omega) hk
 have h3:(0:Int)<2 ^ k:=Int.pow_pos (by omega)
 have h4:=Int.emod_nonneg x (Int.ne_of_gt h3)
 have h5:=Int.emod_lt_of_pos x h3
 subst hm
 rw [oV hx (by omega),jU k hx.1,aM (by omega)]
theorem vF(k:Nat) {x:Int}(m:Int)(hm:m=2 ^ k - 1)(hk:k≤31)(hx:0≤x∧x<4294967296):u32.wrap (BitVec.ofInt u32.bits x &&& BitVec.ofInt u32.bits m).toNat=x % 2 ^ k:=by
 have h2:(2:Int) ^ k≤2 ^ 31:=by exact_mod_cast Nat.pow_le_pow_right (n:=2) (by omega) hk
 have h3:(0:Int)<2 ^ k:=Int.pow_pos (by omega)
 subst hm
 rw [oV hx (by omega),jU k hx.1]
theorem ey {x:Int}(n:Nat)(hx:0≤x∧x<4294967296):0≤x.fdiv (2 ^ n)∧x.fdiv (2 ^ n)<4294967296:=by
 rw [ma]
 have h3:(0:Int)<2 ^ n:=Int.pow_pos (by omega)
 refine⟨Int.ediv_nonneg hx.1 (by omega),?_⟩
 have:=Int.ediv_le_self (2 ^ n) hx.1
 omega
theorem parts_eq {a b:Int}(ha:0≤a∧a<4294967296)(hb:0≤b∧b<4294967296):
 i64.wrap (u32.wrap (BitVec.ofInt u32.bits ((a:Int).fdiv (2 ^ 0)) &&& BitVec.ofInt u32.bits 7).toNat)=(parts a b).typ∧
 i64.wrap (u32.wrap (BitVec.ofInt u32.bits ((a:Int).fdiv (2 ^ 16)) &&& BitVec.ofInt u32.bits 63).toNat)=(parts a b).owner∧
 i64.wrap (u32.wrap (BitVec.ofInt u32.bits b &&& BitVec.ofInt u32.bits 63).toNat)=(parts a b).refs∧
 i64.wrap (u32.wrap (BitVec.ofInt u32.bits ((a:Int).fdiv (2 ^ 4)) &&& BitVec.ofInt u32.bits 3).toNat)=(parts a b).state∧
 ((u32.wrap (BitVec.ofInt u32.bits ((a:Int).fdiv (2 ^ 8)) &&& BitVec.ofInt u32.bits 1).toNat:Int)==1)=(parts a b).ck:=by
 refine⟨?_,?_,?_,?_,?_⟩
 ·rw [mask 3 7 (by decide) (by decide) (ey 0 ha),ma];simp [parts]
 ·rw [mask 6 63 (by decide) (by decide) (ey 16 ha),ma];simp [parts]
 ·rw [mask 6 63 (by decide) (by decide) hb];simp [parts]
 ·rw [mask 2 3 (by decide) (by decide) (ey 4 ha),ma];simp [parts]
 ·rw [vF 1 1 (by decide) (by decide) (ey 8 ha),ma];simp only [parts];rw [Bool.eq_iff_iff];simp
theorem eqW(a b c d:Int):aL #[.int .u32 a,.int .u32 b] #[.int .u32 c,.int .u32 d]=(decide (a=c) && decide (b=d)):=by
 simp [aL,eqL,cr];rfl
end Ent
end Go.Proofs.YtkbcgjfejboigaaDoor
namespace Go.Proofs.YtkbcgjfejboigaaDoor
open Go Go.RowKit V
open Go.IntKind (i64 u32 u64)
open Go.Proofs (Tryd.prog)
section
set_option maxRecDepth 100000
def mZ(n:Int)(R:ax)(w:World):Prop:=
 ∃J:Bool→World→Prop,(
  split (decide ((n:Int)≥0)) (
   J (decide ((n:Int)≤63)) w) (
   J false w))∧∀(Bg:Nat→Value)(x2:Bool),∀wv,J x2 wv→
 R (.bool x2) wv
def sy:Ann:=(.node none .leaf (.node none (.node (some ⟨[(2,.one (.bool))],[2,3,4,5,6,7,8]⟩) .leaf .leaf) .leaf))
theorem EPage_eq(n:Int)(R:ax)(w:World):mZ n R w=vcF Tryd.prog aB [] Tryd.f80 sy [(.int .i64 n)] R none w:=by kernel_rfl
theorem na(n:Int) {R:ax} {w:World}(h:mZ n R w):Calls Tryd.prog 80 #[(.int .i64 n)] w fun e w'=>∃v,e= .returned v∧R v w':=
 aq Tryd.func80 av ar ((EPage_eq n R w).mp h)
def ks(ea:Int)(eb:Int)(ec:Int)(ed:Int)(ee:Bool)(R:ax)(w:World):Prop:=
 ∀(gv:Nat)(wv:World),gv=w.heap.size→wv=w.alloc (.cells #[(.int .i64 ea),(.int .i64 eb),(.int .i64 ec),(.int .i64 ed),(.bool ee)] 112)→
 ∃x6:Int,wv.cell? ((Addr.mk gv 0 none).add 0)=some (.int .i64 x6)∧
 ∀(wD:Nat)(wC:World),wD=wv.heap.size→wC=wv.alloc (.cells (#[(.int .i64 0),(.int .i64 0),(.int .i64 0),(.int .i64 0),(.bool false)]) 112)→
 aD wC (Addr.mk wD 0 none) [(.int .i64 x6),(.int .i64 0),(.int .i64 0),(.int .i64 0),(.bool false)] fun wF=>
 ∃J:Bool→World→Prop,(
  ∃x9:Int,wF.cell? ((Addr.mk gv 0 none).add 0)=some (.int .i64 x9)∧
  split (decide ((x9:Int)≥0)) (
   ∃xR:Int,wF.cell? ((Addr.mk gv 0 none).add 0)=some (.int .i64 xR)∧
   ∀ok:Bool,ok=(decide ((xR:Int)<7))→
   J ok wF) (
   ∀ok:Bool,ok=false→
   J ok wF))∧∀(zV:Nat→Value)(ok:Bool),∀wH,J ok wH→
 ∃xM:Int,wH.cell? ((Addr.mk gv 0 none).add 0)=some (.int .i64 xM)∧
 split ((xM:Int) !=0) (
  ∃yn:Int,wH.cell? ((Addr.mk gv 0 none).add 1)=some (.int .i64 yn)∧
  aD wH ((Addr.mk wD 0 none).add 1) [(.int .i64 yn)] fun wJ=>
  ∃J1:Bool→World→Prop,(
   split ok (
    ∃yk:Int,wJ.cell? ((Addr.mk gv 0 none).add 1)=some (.int .i64 yk)∧
    Calls Tryd.prog 80 #[(.int .i64 yk)] wJ fun e wO=>
    ∃Bi:Bool,e= .returned (.bool Bi)∧
    ∀yP:Bool,yP=Bi→
    J1 yP wO) (
    ∀yP:Bool,yP=false→
    J1 yP wJ))∧∀(Be:Nat→Value)(yP:Bool),∀wO,J1 yP wO→
  ∃Bh:Int,wO.cell? ((Addr.mk gv 0 none).add 0)=some (.int .i64 Bh)∧
  ∀zr:Bool,zr=((Bh:Int)==1)→
  split zr (
   ∃b:Nat→Nat→Prop,
   b 1 (((Addr.mk gv 0 none).add 2).block)∧
   ∃J5:Int,wO.drew.cell? ((Addr.mk gv 0 none).add 2)=some (.int .i64 J5)∧
   b 3 (((Addr.mk gv 0 none).add 3).block)∧
   ∃CQ:Int,wO.drew.cell? ((Addr.mk gv 0 none).add 3)=some (.int .i64 CQ)∧
   aD wO.drew ((Addr.mk wD 0 none).add 2) [(.int .i64 J5)] fun wN=>
   Kept (aX b [2,3]) wO.drew wN∧∃b1:Nat→Nat→Prop,(∀i k,b i k→b1 i k)∧
   aD wN ((Addr.mk wD 0 none).add 3) [(.int .i64 CQ)] fun wQ=>
   ∃b2:Nat→Nat→Prop,(∀i k,b1 i k→b2 i k)∧
   ∃J2:Bool→World→Prop,(
    split yP (
     ∃At:Int,wQ.cell? ((Addr.mk gv 0 none).add 2)=some (.int .i64 At)∧
     Calls Tryd.prog 80 #[(.int .i64 At)] wQ fun e wK=>
     ∃Ar:Bool,e= .returned (.bool Ar)∧
     split Ar (
      ∃Fm:Int,wK.cell? ((Addr.mk gv 0 none).add 3)=some (.int .i64 Fm)∧
      split (decide ((Fm:Int)>0)) (
       ∃CF:Int,wK.cell? ((Addr.mk gv 0 none).add 3)=some (.int .i64 CF)∧
       ∀BQ:Bool,BQ=(decide ((CF:Int)<4))→
       J2 BQ wK) (
       ∀BQ:Bool,BQ=false→
       J2 BQ wK)) (
      ∀BQ:Bool,BQ=false→
      J2 BQ wK)) (
     ∀BQ:Bool,BQ=false→
     J2 BQ wQ))∧∀(BF:Nat→Value)(BQ:Bool),∀wK,J2 BQ wK→
   ∃J3:Bool→World→Prop,(
    split (!BQ) (
     J3 true wK) (
     ∃ye:Int,∃yd:Int,∃yc:Int,∃yb:Int,∃ya:Bool,(wK.cell? ((Addr.mk gv 0 none).add 0)=some (.int .i64 ye)∧wK.cell? ((Addr.mk gv 0 none).add 1)=some (.int .i64 yd)∧wK.cell? ((Addr.mk gv 0 none).add 2)=some (.int .i64 yc)∧wK.cell? ((Addr.mk gv 0 none).add 3)=some (.int .i64 yb)∧wK.cell? ((Addr.mk gv 0 none).add 4)=some (.bool ya))∧
     ∃xZ:Int,∃xY:Int,∃xX:Int,∃xW:Int,∃xV:Bool,(wK.cell? ((Addr.mk wD 0 none).add 0)=some (.int .i64 xZ)∧wK.cell? ((Addr.mk wD 0 none).add 1)=some (.int .i64 xY)∧wK.cell? ((Addr.mk wD 0 none).add 2)=some (.int .i64 xX)∧wK.cell? ((Addr.mk wD 0 none).add 3)=some (.int .i64 xW)∧wK.cell? ((Addr.mk wD 0 none).add 4)=some (.bool xV))∧
     J3 (!(aL #[(.int .i64 ye),(.int .i64 yd),(.int .i64 yc),(.int .i64 yb),(.bool ya)] #[(.int .i64 xZ),(.int .i64 xY),(.int .i64 xX),(.int .i64 xW),(.bool xV)])) wK))∧∀(MH:Nat→Value)(Ad:Bool),∀xw,J3 Ad xw→
   split Ad (
    R (.int .i64 110) xw) (
    R (.int .i64 0) xw)) (
   ∀Cw:Bool,Cw=((Bh:Int)==2)→
   split Cw (
    ∃HG:Bool,wO.cell? ((Addr.mk gv 0 none).add 4)=some (.bool HG)∧
    aD wO ((Addr.mk wD 0 none).add 4) [(.bool HG)] fun wN=>
    ∃J2:Bool→World→Prop,(
     split (!yP) (
      J2 true wN) (
      ∃ye:Int,∃yd:Int,∃yc:Int,∃yb:Int,∃ya:Bool,(wN.cell? ((Addr.mk gv 0 none).add 0)=some (.int .i64 ye)∧wN.cell? ((Addr.mk gv 0 none).add 1)=some (.int .i64 yd)∧wN.cell? ((Addr.mk gv 0 none).add 2)=some (.int .i64 yc)∧wN.cell? ((Addr.mk gv 0 none).add 3)=some (.int .i64 yb)∧wN.cell? ((Addr.mk gv 0 none).add 4)=some (.bool ya))∧
      ∃xZ:Int,∃xY:Int,∃xX:Int,∃xW:Int,∃xV:Bool,(wN.cell? ((Addr.mk wD 0 none).add 0)=some (.int .i64 xZ)∧wN.cell? ((Addr.mk wD 0 none).add 1)=some (.int .i64 xY)∧wN.cell? ((Addr.mk wD 0 none).add 2)=some (.int .i64 xX)∧wN.cell? ((Addr.mk wD 0 none).add 3)=some (.int .i64 xW)∧wN.cell? ((Addr.mk wD 0 none).add 4)=some (.bool xV))∧
      J2 (!(aL #[(.int .i64 ye),(.int .i64 yd),(.int .i64 yc),(.int .i64 yb),(.bool ya)] #[(.int .i64 xZ),(.int .i64 xY),(.int .i64 xX),(.int .i64 xW),(.bool xV)])) wN))∧∀(BF:Nat→Value)(Ad:Bool),∀wQ,J2 Ad wQ→
    split Ad (
     R (.int .i64 110) wQ) (
     R (.int .i64 0) wQ)) (
    ∃J2:Bool→World→Prop,(
     split (!yP) (
      J2 true wO) (
      ∃ye:Int,∃yd:Int,∃yc:Int,∃yb:Int,∃ya:Bool,(wO.cell? ((Addr.mk gv 0 none).add 0)=some (.int .i64 ye)∧wO.cell? ((Addr.mk gv 0 none).add 1)=some (.int .i64 yd)∧wO.cell? ((Addr.mk gv 0 none).add 2)=some (.int .i64 yc)∧wO.cell? ((Addr.mk gv 0 none).add 3)=some (.int .i64 yb)∧wO.cell? ((Addr.mk gv 0 none).add 4)=some (.bool ya))∧
      ∃xZ:Int,∃xY:Int,∃xX:Int,∃xW:Int,∃xV:Bool,(wO.cell? ((Addr.mk wD 0 none).add 0)=some (.int .i64 xZ)∧wO.cell? ((Addr.mk wD 0 none).add 1)=some (.int .i64 xY)∧wO.cell? ((Addr.mk wD 0 none).add 2)=some (.int .i64 xX)∧wO.cell? ((Addr.mk wD 0 none).add 3)=some (.int .i64 xW)∧wO.cell? ((Addr.mk wD 0 none).add 4)=some (.bool xV))∧
      J2 (!(aL #[(.int .i64 ye),(.int .i64 yd),(.int .i64 yc),(.int .i64 yb),(.bool ya)] #[(.int .i64 xZ),(.int .i64 xY),(.int .i64 xX),(.int .i64 xW),(.bool xV)])) wO))∧∀(BF:Nat→Value)(Ad:Bool),∀wN,J2 Ad wN→
    split Ad (
     R (.int .i64 110) wN) (
     R (.int .i64 0) wN)))) (
  ∃Bh:Int,wH.cell? ((Addr.mk gv 0 none).add 0)=some (.int .i64 Bh)∧
  ∀zr:Bool,zr=((Bh:Int)==1)→
  split zr (
   ∃b:Nat→Nat→Prop,
   b 1 (((Addr.mk gv 0 none).add 2).block)∧
   ∃J5:Int,wH.drew.cell? ((Addr.mk gv 0 none).add 2)=some (.int .i64 J5)∧
   b 3 (((Addr.mk gv 0 none).add 3).block)∧
   ∃CQ:Int,wH.drew.cell? ((Addr.mk gv 0 none).add 3)=some (.int .i64 CQ)∧
   aD wH.drew ((Addr.mk wD 0 none).add 2) [(.int .i64 J5)] fun wJ=>
   Kept (aX b [2,3]) wH.drew wJ∧∃b1:Nat→Nat→Prop,(∀i k,b i k→b1 i k)∧
   aD wJ ((Addr.mk wD 0 none).add 3) [(.int .i64 CQ)] fun wO=>
   ∃b2:Nat→Nat→Prop,(∀i k,b1 i k→b2 i k)∧
   ∃J1:Bool→World→Prop,(
    split ok (
     ∃At:Int,wO.cell? ((Addr.mk gv 0 none).add 2)=some (.int .i64 At)∧
     Calls Tryd.prog 80 #[(.int .i64 At)] wO fun e wN=>
     ∃Ar:Bool,e= .returned (.bool Ar)∧
     split Ar (
      ∃Fm:Int,wN.cell? ((Addr.mk gv 0 none).add 3)=some (.int .i64 Fm)∧
      split (decide ((Fm:Int)>0)) (
       ∃CF:Int,wN.cell? ((Addr.mk gv 0 none).add 3)=some (.int .i64 CF)∧
       ∀yP:Bool,yP=(decide ((CF:Int)<4))→
       J1 yP wN) (
       ∀yP:Bool,yP=false→
       J1 yP wN)) (
      ∀yP:Bool,yP=false→
      J1 yP wN)) (
     ∀yP:Bool,yP=false→
     J1 yP wO))∧∀(Be:Nat→Value)(yP:Bool),∀wN,J1 yP wN→
   ∃J2:Bool→World→Prop,(
    split (!yP) (
     J2 true wN) (
     ∃ye:Int,∃yd:Int,∃yc:Int,∃yb:Int,∃ya:Bool,(wN.cell? ((Addr.mk gv 0 none).add 0)=some (.int .i64 ye)∧wN.cell? ((Addr.mk gv 0 none).add 1)=some (.int .i64 yd)∧wN.cell? ((Addr.mk gv 0 none).add 2)=some (.int .i64 yc)∧wN.cell? ((Addr.mk gv 0 none).add 3)=some (.int .i64 yb)∧wN.cell? ((Addr.mk gv 0 none).add 4)=some (.bool ya))∧
     ∃xZ:Int,∃xY:Int,∃xX:Int,∃xW:Int,∃xV:Bool,(wN.cell? ((Addr.mk wD 0 none).add 0)=some (.int .i64 xZ)∧wN.cell? ((Addr.mk wD 0 none).add 1)=some (.int .i64 xY)∧wN.cell? ((Addr.mk wD 0 none).add 2)=some (.int .i64 xX)∧wN.cell? ((Addr.mk wD 0 none).add 3)=some (.int .i64 xW)∧wN.cell? ((Addr.mk wD 0 none).add 4)=some (.bool xV))∧
     J2 (!(aL #[(.int .i64 ye),(.int .i64 yd),(.int .i64 yc),(.int .i64 yb),(.bool ya)] #[(.int .i64 xZ),(.int .i64 xY),(.int .i64 xX),(.int .i64 xW),(.bool xV)])) wN))∧∀(BF:Nat→Value)(Ad:Bool),∀wQ,J2 Ad wQ→
   split Ad (
    R (.int .i64 110) wQ) (
    R (.int .i64 0) wQ)) (
   ∀Cw:Bool,Cw=((Bh:Int)==2)→
   split Cw (
    ∃HG:Bool,wH.cell? ((Addr.mk gv 0 none).add 4)=some (.bool HG)∧
    aD wH ((Addr.mk wD 0 none).add 4) [(.bool HG)] fun wJ=>
    ∃J1:Bool→World→Prop,(
     split (!ok) (
      J1 true wJ) (
      ∃ye:Int,∃yd:Int,∃yc:Int,∃yb:Int,∃ya:Bool,(wJ.cell? ((Addr.mk gv 0 none).add 0)=some (.int .i64 ye)∧wJ.cell? ((Addr.mk gv 0 none).add 1)=some (.int .i64 yd)∧wJ.cell? ((Addr.mk gv 0 none).add 2)=some (.int .i64 yc)∧wJ.cell? ((Addr.mk gv 0 none).add 3)=some (.int .i64 yb)∧wJ.cell? ((Addr.mk gv 0 none).add 4)=some (.bool ya))∧
      ∃xZ:Int,∃xY:Int,∃xX:Int,∃xW:Int,∃xV:Bool,(wJ.cell? ((Addr.mk wD 0 none).add 0)=some (.int .i64 xZ)∧wJ.cell? ((Addr.mk wD 0 none).add 1)=some (.int .i64 xY)∧wJ.cell? ((Addr.mk wD 0 none).add 2)=some (.int .i64 xX)∧wJ.cell? ((Addr.mk wD 0 none).add 3)=some (.int .i64 xW)∧wJ.cell? ((Addr.mk wD 0 none).add 4)=some (.bool xV))∧
      J1 (!(aL #[(.int .i64 ye),(.int .i64 yd),(.int .i64 yc),(.int .i64 yb),(.bool ya)] #[(.int .i64 xZ),(.int .i64 xY),(.int .i64 xX),(.int .i64 xW),(.bool xV)])) wJ))∧∀(Be:Nat→Value)(Ad:Bool),∀wO,J1 Ad wO→
    split Ad (
     R (.int .i64 110) wO) (
     R (.int .i64 0) wO)) (
    ∃J1:Bool→World→Prop,(
     split (!ok) (
      J1 true wH) (
      ∃ye:Int,∃yd:Int,∃yc:Int,∃yb:Int,∃ya:Bool,(wH.cell? ((Addr.mk gv 0 none).add 0)=some (.int .i64 ye)∧wH.cell? ((Addr.mk gv 0 none).add 1)=some (.int .i64 yd)∧wH.cell? ((Addr.mk gv 0 none).add 2)=some (.int .i64 yc)∧wH.cell? ((Addr.mk gv 0 none).add 3)=some (.int .i64 yb)∧wH.cell? ((Addr.mk gv 0 none).add 4)=some (.bool ya))∧
      ∃xZ:Int,∃xY:Int,∃xX:Int,∃xW:Int,∃xV:Bool,(wH.cell? ((Addr.mk wD 0 none).add 0)=some (.int .i64 xZ)∧wH.cell? ((Addr.mk wD 0 none).add 1)=some (.int .i64 xY)∧wH.cell? ((Addr.mk wD 0 none).add 2)=some (.int .i64 xX)∧wH.cell? ((Addr.mk wD 0 none).add 3)=some (.int .i64 xW)∧wH.cell? ((Addr.mk wD 0 none).add 4)=some (.bool xV))∧
      J1 (!(aL #[(.int .i64 ye),(.int .i64 yd),(.int .i64 yc),(.int .i64 yb),(.bool ya)] #[(.int .i64 xZ),(.int .i64 xY),(.int .i64 xX),(.int .i64 xW),(.bool xV)])) wH))∧∀(Be:Nat→Value)(Ad:Bool),∀wJ,J1 Ad wJ→
    split Ad (
     R (.int .i64 110) wJ) (
     R (.int .i64 0) wJ))))
def qt:Ann:=(.node none .leaf (.node none .leaf (.node none (.node (some ⟨[(4,.one (.bool))],[4,8,9,10,11,12,13,14,15]⟩) .leaf .leaf) (.node none (.node none .leaf (.node none (.node none .leaf (.node (some ⟨[(4,.one (.bool))],[4,22,23,24,25,26,27]⟩) .leaf .leaf)) .leaf)) (.node none (.node none .leaf (.node none (.node none .leaf (.node none (.node none .leaf (.node (some ⟨[(4,.one (.bool))],[4,38,39,40,41,42,43,44,45,46,47,48,49,50,51,52,53]⟩) .leaf .leaf)) .leaf)) .leaf)) (.node none (.node none (.node (some ⟨[(65,.one (.bool))],[59,60,61,62,63,64,65]⟩) .leaf .leaf) .leaf) .leaf))))))
theorem ECheck_eq(ea:Int)(eb:Int)(ec:Int)(ed:Int)(ee:Bool)(R:ax)(w:World):ks ea eb ec ed ee R w=vcF Tryd.prog aB [4,30,54] Tryd.f68 qt [(.agg #[(.int .i64 ea),(.int .i64 eb),(.int .i64 ec),(.int .i64 ed),(.bool ee)])] R none w:=by kernel_rfl
theorem lr(ea:Int)(eb:Int)(ec:Int)(ed:Int)(ee:Bool) {R:ax} {w:World}(h:ks ea eb ec ed ee R w):Calls Tryd.prog 68 #[(.agg #[(.int .i64 ea),(.int .i64 eb),(.int .i64 ec),(.int .i64 ed),(.bool ee)])] w fun e w'=>∃v,e= .returned v∧R v w':=
 aq Tryd.func68 av ar ((ECheck_eq ea eb ec ed ee R w).mp h)
def jf(ea:Int)(eb:Int)(ec:Int)(ed:Int)(ee:Bool)(R:ax)(w:World):Prop:=
 ∀(gv:Nat)(wv:World),gv=w.heap.size→wv=w.alloc (.cells #[(.int .i64 ea),(.int .i64 eb),(.int .i64 ec),(.int .i64 ed),(.bool ee)] 112)→
 ∀(wD:Nat)(wC:World),wD=wv.heap.size→wC=wv.alloc (.cells (#[(.int .u32 0),(.int .u32 0)]) 28)→
 ∃Fl:Int,∃Fk:Int,∃Fj:Int,∃Fi:Int,∃Fh:Bool,(wC.cell? ((Addr.mk gv 0 none).add 0)=some (.int .i64 Fl)∧wC.cell? ((Addr.mk gv 0 none).add 1)=some (.int .i64 Fk)∧wC.cell? ((Addr.mk gv 0 none).add 2)=some (.int .i64 Fj)∧wC.cell? ((Addr.mk gv 0 none).add 3)=some (.int .i64 Fi)∧wC.cell? ((Addr.mk gv 0 none).add 4)=some (.bool Fh))∧
 Calls Tryd.prog 68 #[(.agg #[(.int .i64 Fl),(.int .i64 Fk),(.int .i64 Fj),(.int .i64 Fi),(.bool Fh)])] wC fun e wF=>
 ∃x6:Int,e= .returned (.int .i64 x6)∧
 split ((x6:Int) !=0) (
  aD wF (Addr.mk wD 0 none) [(.int .u32 0),(.int .u32 0)] fun wH=>
  ∃xn:Int,∃xm:Int,(wH.cell? ((Addr.mk wD 0 none).add 0)=some (.int .u32 xn)∧wH.cell? ((Addr.mk wD 0 none).add 1)=some (.int .u32 xm))∧
  R (.tuple #[(.agg #[(.int .u32 xn),(.int .u32 xm)]),(.int .i64 110)]) wH) (
  ∃yB:Int,wF.cell? ((Addr.mk gv 0 none).add 0)=some (.int .i64 yB)∧
  ∃xL:Int,wF.cell? ((Addr.mk gv 0 none).add 3)=some (.int .i64 xL)∧
  ∃yT:Int,wF.cell? ((Addr.mk gv 0 none).add 1)=some (.int .i64 yT)∧
  ∀wH:Int,wH=(u32.wrap (BitVec.ofInt u32.bits (u32.wrap (BitVec.ofInt u32.bits (u32.wrap ((u32.wrap yB:Int)*2 ^ 0)) ||| BitVec.ofInt u32.bits (u32.wrap ((u32.wrap xL:Int)*2 ^ 4))).toNat) ||| BitVec.ofInt u32.bits (u32.wrap ((u32.wrap yT:Int)*2 ^ 16))).toNat)→
  ∃KF:Bool,wF.cell? ((Addr.mk gv 0 none).add 4)=some (.bool KF)∧
  split KF (
   ∀wJ:Int,wJ=(u32.wrap (BitVec.ofInt u32.bits wH ||| BitVec.ofInt u32.bits 256).toNat)→
   ∃Bh:Int,wF.cell? ((Addr.mk gv 0 none).add 2)=some (.int .i64 Bh)∧
   aD wF (Addr.mk wD 0 none) [(.int .u32 wJ),(.int .u32 (u32.wrap Bh))] fun wO=>
   ∃xn:Int,∃xm:Int,(wO.cell? ((Addr.mk wD 0 none).add 0)=some (.int .u32 xn)∧wO.cell? ((Addr.mk wD 0 none).add 1)=some (.int .u32 xm))∧
   R (.tuple #[(.agg #[(.int .u32 xn),(.int .u32 xm)]),(.int .i64 0)]) wO) (
   ∃Bh:Int,wF.cell? ((Addr.mk gv 0 none).add 2)=some (.int .i64 Bh)∧
   aD wF (Addr.mk wD 0 none) [(.int .u32 wH),(.int .u32 (u32.wrap Bh))] fun wJ=>
   ∃xn:Int,∃xm:Int,(wJ.cell? ((Addr.mk wD 0 none).add 0)=some (.int .u32 xn)∧wJ.cell? ((Addr.mk wD 0 none).add 1)=some (.int .u32 xm))∧
   R (.tuple #[(.agg #[(.int .u32 xn),(.int .u32 xm)]),(.int .i64 0)]) wJ))
def od:Ann:= .leaf
theorem EEncode_eq(ea:Int)(eb:Int)(ec:Int)(ed:Int)(ee:Bool)(R:ax)(w:World):jf ea eb ec ed ee R w=vcF Tryd.prog aB [4] Tryd.f56 od [(.agg #[(.int .i64 ea),(.int .i64 eb),(.int .i64 ec),(.int .i64 ed),(.bool ee)])] R none w:=by kernel_rfl
theorem jE(ea:Int)(eb:Int)(ec:Int)(ed:Int)(ee:Bool) {R:ax} {w:World}(h:jf ea eb ec ed ee R w):Calls Tryd.prog 56 #[(.agg #[(.int .i64 ea),(.int .i64 eb),(.int .i64 ec),(.int .i64 ed),(.bool ee)])] w fun e w'=>∃v,e= .returned v∧R v w':=
 aq Tryd.func56 av ar ((EEncode_eq ea eb ec ed ee R w).mp h)
def jg(wa:Int)(wb:Int)(R:ax)(w:World):Prop:=
 ∀(gv:Nat)(wv:World),gv=w.heap.size→wv=w.alloc (.cells #[(.int .u32 wa),(.int .u32 wb)] 28)→
 ∀(wD:Nat)(wC:World),wD=wv.heap.size→wC=wv.alloc (.cells (#[(.int .i64 0),(.int .i64 0),(.int .i64 0),(.int .i64 0),(.bool false)]) 112)→
 (0≤(0:Int)∧(0:Int)<((2:Nat):Int))∧
 ∃x8:Int,wC.cell? ((Addr.mk gv 0 none).add (Int.toNat 0*1))=some (.int .u32 x8)∧
 (0≤(0:Int)∧(0:Int)<((2:Nat):Int))∧
 ∃xR:Int,wC.cell? ((Addr.mk gv 0 none).add (Int.toNat 0*1))=some (.int .u32 xR)∧
 (0≤(0:Int)∧(0:Int)<((2:Nat):Int))∧
 ∃yL:Int,wC.cell? ((Addr.mk gv 0 none).add (Int.toNat 0*1))=some (.int .u32 yL)∧
 (0≤(0:Int)∧(0:Int)<((2:Nat):Int))∧
 ∃yY:Int,wC.cell? ((Addr.mk gv 0 none).add (Int.toNat 0*1))=some (.int .u32 yY)∧
 (0≤(1:Int)∧(1:Int)<((2:Nat):Int))∧
 ∃yO:Int,wC.cell? ((Addr.mk gv 0 none).add (Int.toNat 1*1))=some (.int .u32 yO)∧
 ∀(wY:Nat)(wF:World),wY=wC.heap.size→wF=wC.alloc (.cells (#[(.int .i64 0),(.int .i64 0),(.int .i64 0),(.int .i64 0),(.bool false)]) 112)→
 aD wF (Addr.mk wY 0 none) [(.int .i64 (i64.wrap (u32.wrap (BitVec.ofInt u32.bits ((x8:Int).fdiv (2 ^ 0)) &&& BitVec.ofInt u32.bits 7).toNat))),(.int .i64 (i64.wrap (u32.wrap (BitVec.ofInt u32.bits ((yY:Int).fdiv (2 ^ 16)) &&& BitVec.ofInt u32.bits 63).toNat))),(.int .i64 (i64.wrap (u32.wrap (BitVec.ofInt u32.bits yO &&& BitVec.ofInt u32.bits 63).toNat))),(.int .i64 (i64.wrap (u32.wrap (BitVec.ofInt u32.bits ((xR:Int).fdiv (2 ^ 4)) &&& BitVec.ofInt u32.bits 3).toNat))),(.bool ((u32.wrap (BitVec.ofInt u32.bits ((yL:Int).fdiv (2 ^ 8)) &&& BitVec.ofInt u32.bits 1).toNat:Int)==1))] fun wH=>
 ∃CW:Int,∃CV:Int,∃CU:Int,∃CT:Int,∃CS:Bool,(wH.cell? ((Addr.mk wY 0 none).add 0)=some (.int .i64 CW)∧wH.cell? ((Addr.mk wY 0 none).add 1)=some (.int .i64 CV)∧wH.cell? ((Addr.mk wY 0 none).add 2)=some (.int .i64 CU)∧wH.cell? ((Addr.mk wY 0 none).add 3)=some (.int .i64 CT)∧wH.cell? ((Addr.mk wY 0 none).add 4)=some (.bool CS))∧
 Calls Tryd.prog 56 #[(.agg #[(.int .i64 CW),(.int .i64 CV),(.int .i64 CU),(.int .i64 CT),(.bool CS)])] wH fun e wJ=>
 ∃x34aa:Int,∃x34ab:Int,∃CR:Int,e= .returned (.tuple #[(.agg #[(.int .u32 x34aa),(.int .u32 x34ab)]),(.int .i64 CR)])∧
 ∀(wV:Nat)(wO:World),wV=wJ.heap.size→wO=wJ.alloc (.cells (#[(.int .u32 0),(.int .u32 0)]) 28)→
 aD wO (Addr.mk wV 0 none) [(.int .u32 x34aa),(.int .u32 x34ab)] fun wN=>
 ∃J:Bool→World→Prop,(
  split ((CR:Int) !=0) (
   J true wN) (
   ∃Js:Int,∃Jq:Int,(wN.cell? ((Addr.mk wV 0 none).add 0)=some (.int .u32 Js)∧wN.cell? ((Addr.mk wV 0 none).add 1)=some (.int .u32 Jq))∧
   ∃Jm:Int,∃Jl:Int,(wN.cell? ((Addr.mk gv 0 none).add 0)=some (.int .u32 Jm)∧wN.cell? ((Addr.mk gv 0 none).add 1)=some (.int .u32 Jl))∧
   J (!(aL #[(.int .u32 Js),(.int .u32 Jq)] #[(.int .u32 Jm),(.int .u32 Jl)])) wN))∧∀(BF:Nat→Value)(Jk:Bool),∀wQ,J Jk wQ→
 split Jk (
  aD wQ (Addr.mk wD 0 none) [(.int .i64 0),(.int .i64 0),(.int .i64 0),(.int .i64 0),(.bool false)] fun wK=>
  ∃xn:Int,∃xm:Int,∃xB:Int,∃xz:Int,∃xy:Bool,(wK.cell? ((Addr.mk wD 0 none).add 0)=some (.int .i64 xn)∧wK.cell? ((Addr.mk wD 0 none).add 1)=some (.int .i64 xm)∧wK.cell? ((Addr.mk wD 0 none).add 2)=some (.int .i64 xB)∧wK.cell? ((Addr.mk wD 0 none).add 3)=some (.int .i64 xz)∧wK.cell? ((Addr.mk wD 0 none).add 4)=some (.bool xy))∧
  R (.tuple #[(.agg #[(.int .i64 xn),(.int .i64 xm),(.int .i64 xB),(.int .i64 xz),(.bool xy)]),(.int .i64 110)]) wK) (
  ∃CP:Int,∃CO:Int,∃CN:Int,∃CM:Int,∃CL:Bool,(wQ.cell? ((Addr.mk wY 0 none).add 0)=some (.int .i64 CP)∧wQ.cell? ((Addr.mk wY 0 none).add 1)=some (.int .i64 CO)∧wQ.cell? ((Addr.mk wY 0 none).add 2)=some (.int .i64 CN)∧wQ.cell? ((Addr.mk wY 0 none).add 3)=some (.int .i64 CM)∧wQ.cell? ((Addr.mk wY 0 none).add 4)=some (.bool CL))∧
  aD wQ (Addr.mk wD 0 none) [(.int .i64 CP),(.int .i64 CO),(.int .i64 CN),(.int .i64 CM),(.bool CL)] fun wK=>
  ∃xn:Int,∃xm:Int,∃xB:Int,∃xz:Int,∃xy:Bool,(wK.cell? ((Addr.mk wD 0 none).add 0)=some (.int .i64 xn)∧wK.cell? ((Addr.mk wD 0 none).add 1)=some (.int .i64 xm)∧wK.cell? ((Addr.mk wD 0 none).add 2)=some (.int .i64 xB)∧wK.cell? ((Addr.mk wD 0 none).add 3)=some (.int .i64 xz)∧wK.cell? ((Addr.mk wD 0 none).add 4)=some (.bool xy))∧
  R (.tuple #[(.agg #[(.int .i64 xn),(.int .i64 xm),(.int .i64 xB),(.int .i64 xz),(.bool xy)]),(.int .i64 0)]) wK)
def oe:Ann:=(.node none .leaf (.node none .leaf (.node none (.node none .leaf (.node none (.node (some ⟨[(43,.one (.bool))],[37,38,39,40,41,42,43]⟩) .leaf .leaf) .leaf)) .leaf)))
theorem EDecode_eq(wa:Int)(wb:Int)(R:ax)(w:World):jg wa wb R w=vcF Tryd.prog aB [] Tryd.f79 oe [(.agg #[(.int .u32 wa),(.int .u32 wb)])] R none w:=by kernel_rfl
theorem jF(wa:Int)(wb:Int) {R:ax} {w:World}(h:jg wa wb R w):Calls Tryd.prog 79 #[(.agg #[(.int .u32 wa),(.int .u32 wb)])] w fun e w'=>∃v,e= .returned v∧R v w':=
 aq Tryd.func79 av ar ((EDecode_eq wa wb R w).mp h)
def jh(aK:Int)(R:ax)(w:World):Prop:=
 ∀(gv:Nat)(wv:World),gv=w.heap.size→wv=w.alloc (.cells (#[(.bool false),(.int .i64 0)]) 84)→
 aD wv (Addr.mk gv 0 none) [(.bool true),(.int .i64 aK)] fun wC=>
 ∃xn:Bool,∃xm:Int,(wC.cell? ((Addr.mk gv 0 none).add 0)=some (.bool xn)∧wC.cell? ((Addr.mk gv 0 none).add 1)=some (.int .i64 xm))∧
 R (.agg #[(.bool xn),(.int .i64 xm)]) wC
def oh:Ann:= .leaf
theorem DSecure_eq(aK:Int)(R:ax)(w:World):jh aK R w=vcF Tryd.prog aB [] Tryd.f50 oh [(.int .i64 aK)] R none w:=by kernel_rfl
theorem jG(aK:Int) {R:ax} {w:World}(h:jh aK R w):Calls Tryd.prog 50 #[(.int .i64 aK)] w fun e w'=>∃v,e= .returned v∧R v w':=
 aq Tryd.func50 av ar ((DSecure_eq aK R w).mp h)
def kt(d:Option Addr)(R:ax)(w:World):Prop:=
 ay d fun p4=>
 ∃Cd:Option Addr,∃Ac:Nat,∃EK:Nat,w.cell? (p4.add 2)=some (.slice Cd Ac EK)∧
 R (.int .i64 (i64.wrap ((((Ac:Nat):Int):Int).tdiv 2))) w
def qu:Ann:= .leaf
theorem DPages_eq(d:Option Addr)(R:ax)(w:World):kt d R w=vcF Tryd.prog aB [] Tryd.f54 qu [(.pointer d)] R none w:=by kernel_rfl
theorem lu(d:Option Addr) {R:ax} {w:World}(h:kt d R w):Calls Tryd.prog 54 #[(.pointer d)] w fun e w'=>∃v,e= .returned v∧R v w':=
 aq Tryd.func54 av ar ((DPages_eq d R w).mp h)
def jj(d:Option Addr)(R:ax)(w:World):Prop:=
 ay d fun p4=>
 ∃x6:Int,w.cell? (p4.add 1)=some (.int .i64 x6)∧
 R (.int .i64 x6) w
def ot:Ann:= .leaf
theorem DBirths_eq(d:Option Addr)(R:ax)(w:World):jj d R w=vcF Tryd.prog aB [] Tryd.f37 ot [(.pointer d)] R none w:=by kernel_rfl
theorem jI(d:Option Addr) {R:ax} {w:World}(h:jj d R w):Calls Tryd.prog 37 #[(.pointer d)] w fun e w'=>∃v,e= .returned v∧R v w':=
 aq Tryd.func37 av ar ((DBirths_eq d R w).mp h)
def ji(d:Option Addr)(R:ax)(w:World):Prop:=
 ay d fun p4=>
 ∃x6:Option Addr,w.cell? (p4.add 0)=some (.pointer x6)∧
 R (.pointer x6) w
def oo:Ann:= .leaf
theorem DMemory_eq(d:Option Addr)(R:ax)(w:World):ji d R w=vcF Tryd.prog aB [] Tryd.f34 oo [(.pointer d)] R none w:=by kernel_rfl
theorem jH(d:Option Addr) {R:ax} {w:World}(h:ji d R w):Calls Tryd.prog 34 #[(.pointer d)] w fun e w'=>∃v,e= .returned v∧R v w':=
 aq Tryd.func34 av ar ((DMemory_eq d R w).mp h)
def pf(d:Option Addr)(aK:Int)(R:ax)(w:World):Prop:=
 ∃J:Bool→World→Prop,(
  split (decide ((aK:Int)≥0)) (
   Calls Tryd.prog 54 #[(.pointer d)] w fun e wv=>
   ∃yB:Int,e= .returned (.int .i64 yB)∧
   J (decide ((aK:Int)<yB)) wv) (
   J false w))∧∀(Bg:Nat→Value)(x4:Bool),∀wv,J x4 wv→
 R (.bool x4) wv
def tP:Ann:=(.node none .leaf (.node none (.node (some ⟨[(4,.one (.bool))],[4,5,6,7,8,9,10,11,12]⟩) .leaf .leaf) .leaf))
theorem DHas_eq(d:Option Addr)(aK:Int)(R:ax)(w:World):pf d aK R w=vcF Tryd.prog aB [] Tryd.f66 tP [(.pointer d),(.int .i64 aK)] R none w:=by kernel_rfl
theorem oq(d:Option Addr)(aK:Int) {R:ax} {w:World}(h:pf d aK R w):Calls Tryd.prog 66 #[(.pointer d),(.int .i64 aK)] w fun e w'=>∃v,e= .returned v∧R v w':=
 aq Tryd.func66 av ar ((DHas_eq d aK R w).mp h)
def sB(d:Option Addr)(aK:Int)(R:ax)(w:World):Prop:=
 ∀(gv:Nat)(wv:World),gv=w.heap.size→wv=w.alloc (.cells (#[(.int .i64 0),(.int .i64 0),(.int .i64 0),(.int .i64 0),(.bool false)]) 112)→
 ay d fun p9=>
 ∃xG:Option Addr,∃xE:Nat,∃xO:Nat,wv.cell? (p9.add 2)=some (.slice xG xE xO)∧
 (0≤(i64.wrap (2*aK):Int)∧(i64.wrap (2*aK):Int)≤((xE:Nat):Int))∧
 ∀Ei:Option Addr,Ei=(if xO=(Int.toNat (i64.wrap (2*aK)))then xG else(xG:Option Addr).map (·.add ((Int.toNat (i64.wrap (2*aK)))*1)))→∀Eh:Nat,Eh=xE - (Int.toNat (i64.wrap (2*aK)))→∀EX:Nat,EX=xO - (Int.toNat (i64.wrap (2*aK)))→
 2≤Eh∧
 ay Ei fun Bw=>
 ∃yZ:Int,∃yD:Int,(wv.cell? (Bw.add 0)=some (.int .u32 yZ)∧wv.cell? (Bw.add 1)=some (.int .u32 yD))∧
 Calls Tryd.prog 79 #[(.agg #[(.int .u32 yZ),(.int .u32 yD)])] wv fun e wC=>
 ∃x17aa:Int,∃x17ab:Int,∃x17ac:Int,∃x17ad:Int,∃x17ae:Bool,∃zI:Int,e= .returned (.tuple #[(.agg #[(.int .i64 x17aa),(.int .i64 x17ab),(.int .i64 x17ac),(.int .i64 x17ad),(.bool x17ae)]),(.int .i64 zI)])∧
 ∀(wD:Nat)(wF:World),wD=wC.heap.size→wF=wC.alloc (.cells (#[(.int .i64 0),(.int .i64 0),(.int .i64 0),(.int .i64 0),(.bool false)]) 112)→
 aD wF (Addr.mk wD 0 none) [(.int .i64 x17aa),(.int .i64 x17ab),(.int .i64 x17ac),(.int .i64 x17ad),(.bool x17ae)] fun wH=>
 ∃AF:Int,∃AE:Int,∃AD:Int,∃AB:Int,∃AA:Bool,(wH.cell? ((Addr.mk wD 0 none).add 0)=some (.int .i64 AF)∧wH.cell? ((Addr.mk wD 0 none).add 1)=some (.int .i64 AE)∧wH.cell? ((Addr.mk wD 0 none).add 2)=some (.int .i64 AD)∧wH.cell? ((Addr.mk wD 0 none).add 3)=some (.int .i64 AB)∧wH.cell? ((Addr.mk wD 0 none).add 4)=some (.bool AA))∧
 aD wH (Addr.mk gv 0 none) [(.int .i64 AF),(.int .i64 AE),(.int .i64 AD),(.int .i64 AB),(.bool AA)] fun wJ=>
 ∃xn:Int,∃xm:Int,∃xB:Int,∃xz:Int,∃xy:Bool,(wJ.cell? ((Addr.mk gv 0 none).add 0)=some (.int .i64 xn)∧wJ.cell? ((Addr.mk gv 0 none).add 1)=some (.int .i64 xm)∧wJ.cell? ((Addr.mk gv 0 none).add 2)=some (.int .i64 xB)∧wJ.cell? ((Addr.mk gv 0 none).add 3)=some (.int .i64 xz)∧wJ.cell? ((Addr.mk gv 0 none).add 4)=some (.bool xy))∧
 R (.agg #[(.int .i64 xn),(.int .i64 xm),(.int .i64 xB),(.int .i64 xz),(.bool xy)]) wJ
def u9:Ann:= .leaf
theorem DAt_eq(d:Option Addr)(aK:Int)(R:ax)(w:World):sB d aK R w=vcF Tryd.prog aB [] Tryd.f67 u9 [(.pointer d),(.int .i64 aK)] R none w:=by kernel_rfl
theorem qw(d:Option Addr)(aK:Int) {R:ax} {w:World}(h:sB d aK R w):Calls Tryd.prog 67 #[(.pointer d),(.int .i64 aK)] w fun e w'=>∃v,e= .returned v∧R v w':=
 aq Tryd.func67 av ar ((DAt_eq d aK R w).mp h)
def ku(d:Option Addr)(aK:Int)(R:ax)(w:World):Prop:=
 ∀(gv:Nat)(wv:World),gv=w.heap.size→wv=w.alloc (.cells (#[(.int .i64 0),(.int .i64 0),(.int .i64 0),(.int .i64 0),(.bool false)]) 112)→
 Calls Tryd.prog 66 #[(.pointer d),(.int .i64 aK)] wv fun e wC=>
 ∃x8:Bool,e= .returned (.bool x8)∧
 split (!x8) (
  aD wC (Addr.mk gv 0 none) [(.int .i64 0),(.int .i64 0),(.int .i64 0),(.int .i64 0),(.bool false)] fun wF=>
  ∃xn:Int,∃xm:Int,∃xB:Int,∃xz:Int,∃xy:Bool,(wF.cell? ((Addr.mk gv 0 none).add 0)=some (.int .i64 xn)∧wF.cell? ((Addr.mk gv 0 none).add 1)=some (.int .i64 xm)∧wF.cell? ((Addr.mk gv 0 none).add 2)=some (.int .i64 xB)∧wF.cell? ((Addr.mk gv 0 none).add 3)=some (.int .i64 xz)∧wF.cell? ((Addr.mk gv 0 none).add 4)=some (.bool xy))∧
  R (.tuple #[(.agg #[(.int .i64 xn),(.int .i64 xm),(.int .i64 xB),(.int .i64 xz),(.bool xy)]),(.int .i64 5)]) wF) (
  Calls Tryd.prog 67 #[(.pointer d),(.int .i64 aK)] wC fun e wF=>
  ∃za:Int,∃yF:Int,∃El:Int,∃Ek:Int,∃Ej:Bool,e= .returned (.agg #[(.int .i64 za),(.int .i64 yF),(.int .i64 El),(.int .i64 Ek),(.bool Ej)])∧
  aD wF (Addr.mk gv 0 none) [(.int .i64 za),(.int .i64 yF),(.int .i64 El),(.int .i64 Ek),(.bool Ej)] fun wH=>
  ∃xn:Int,∃xm:Int,∃xB:Int,∃xz:Int,∃xy:Bool,(wH.cell? ((Addr.mk gv 0 none).add 0)=some (.int .i64 xn)∧wH.cell? ((Addr.mk gv 0 none).add 1)=some (.int .i64 xm)∧wH.cell? ((Addr.mk gv 0 none).add 2)=some (.int .i64 xB)∧wH.cell? ((Addr.mk gv 0 none).add 3)=some (.int .i64 xz)∧wH.cell? ((Addr.mk gv 0 none).add 4)=some (.bool xy))∧
  R (.tuple #[(.agg #[(.int .i64 xn),(.int .i64 xm),(.int .i64 xB),(.int .i64 xz),(.bool xy)]),(.int .i64 0)]) wH)
def qv:Ann:= .leaf
theorem DEntry_eq(d:Option Addr)(aK:Int)(R:ax)(w:World):ku d aK R w=vcF Tryd.prog aB [] Tryd.f55 qv [(.pointer d),(.int .i64 aK)] R none w:=by kernel_rfl
theorem lv(d:Option Addr)(aK:Int) {R:ax} {w:World}(h:ku d aK R w):Calls Tryd.prog 55 #[(.pointer d),(.int .i64 aK)] w fun e w'=>∃v,e= .returned v∧R v w':=
 aq Tryd.func55 av ar ((DEntry_eq d aK R w).mp h)
end
end Go.Proofs.YtkbcgjfejboigaaDoor
namespace Go.Proofs.YtkbcgjfejboigaaDoor
open Go Go.RowKit V
open Go.IntKind (i64 u32 u64)
section
set_option maxRecDepth 10000
set_option maxHeartbeats 1000000
theorem rI {w:World}(n:Int):
 Calls Tryd.prog 80 #[(.int .i64 n)] w fun e w'=>∃v,e= .returned v∧v= .bool (decide (0≤n∧n≤63))∧Pu w w':=by
 refine na _ ?_
 have hp:=Ch.refl (fun _=>False) w
 refine⟨fun x w'=>x=((decide ((n:Int)≥0)) && (decide ((n:Int)≤63)))∧Pu w w',?_,?_⟩
 ·refine aE (fun c1=>?_) (fun c1=>?_)
  ·exact⟨by simp only [c1,Bool.true_and,Bool.and_true,Bool.false_and,Bool.and_false,Bool.true_or,Bool.or_true,Bool.false_or,Bool.or_false,Bool.not_true,Bool.not_false,if_true,if_false,Bool.false_eq_true],Ch.refl _ _⟩
  ·exact⟨by simp only [c1,Bool.true_and,Bool.and_true,Bool.false_and,Bool.and_false,Bool.true_or,Bool.or_true,Bool.false_or,Bool.or_false,Bool.not_true,Bool.not_false,if_true,if_false,Bool.false_eq_true],Ch.refl _ _⟩
 rintro _ _ wv ⟨rfl,B7⟩
 have hp:=Ch.pu hp B7
 exact⟨congrArg Value.bool (by rw [Bool.eq_iff_iff];simp),hp⟩
theorem uO {w:World}(ea:Int)(eb:Int)(ec:Int)(ed:Int)(ee:Bool):
 Calls Tryd.prog 68 #[(.agg #[(.int .i64 ea),(.int .i64 eb),(.int .i64 ec),(.int .i64 ed),(.bool ee)])] w fun e w'=>∃v,e= .returned v∧v= .int .i64 (if(Ent.mk ea eb ec ed ee).ok then 0 else 110)∧Pu w w':=by
 refine lr _ _ _ _ _ ?_
 have hp:=Ch.refl (fun _=>False) w
 refine mkd fun gv wv xh=>?_
 have wB:=xh.blk
 refine⟨_,wB.at rfl,?_⟩
 have hp:=Ch.made hp xh
 refine mkd fun wD wC wM=>?_
 have wL:=wM.lo hp
 have wR:=wM.ne wB
 have wA:=wM.blk
 refine aR wA (by simp) fun wF xr=>?_
 have wA:Blk wF wD #[(.int .i64 ea),(.int .i64 0),(.int .i64 0),(.int .i64 0),(.bool false)] _:=xr.blk
 refine⟨fun x w'=>x=((decide ((ea:Int)≥0)) && (decide ((ea:Int)<7)))∧Pu wF w',?_,?_⟩
 ·have wB:=Ch.blk xr.ch (Made.old wM wB) (wR)
  refine⟨_,wB.at rfl,?_⟩
  refine aE (fun c1=>?_) (fun c1=>?_)
  ·refine⟨_,wB.at rfl,?_⟩
   rintro _ rfl
   exact⟨by simp only [c1,Bool.true_and,Bool.and_true,Bool.false_and,Bool.and_false,Bool.true_or,Bool.or_true,Bool.false_or,Bool.or_false,Bool.not_true,Bool.not_false,if_true,if_false,Bool.false_eq_true],Ch.refl _ _⟩
  ·rintro _ rfl
   exact⟨by simp only [c1,Bool.true_and,Bool.and_true,Bool.false_and,Bool.and_false,Bool.true_or,Bool.or_true,Bool.false_or,Bool.or_false,Bool.not_true,Bool.not_false,if_true,if_false,Bool.false_eq_true],Ch.refl _ _⟩
 rintro _ _ wH ⟨rfl,wX⟩
 have wB:=Pu.blk wX (Ch.blk xr.ch (Made.old wM wB) (wR))
 refine⟨_,wB.at rfl,?_⟩
 refine aU (fun c2=>?_) (fun c2=>?_)
 ·have wA:=Pu.blk wX wA
  refine⟨_,wB.at rfl,aI wA (by simp) fun wJ wP=>?_⟩
  have wA:Blk wJ wD #[(.int .i64 ea),(.int .i64 eb),(.int .i64 0),(.int .i64 0),(.bool false)] _:=wP.blk
  refine⟨fun x w'=>x=(((decide ((ea:Int)≥0)) && (decide ((ea:Int)<7))) && (decide (0≤eb∧eb≤63)))∧Pu wJ w',?_,?_⟩
  ·refine aE (fun c3=>?_) (fun c3=>?_)
   ·have wB:=Ch.blk wP.ch wB (wR)
    refine⟨_,wB.at rfl,?_⟩
    refine Calls.mono (rI _) ?_
    rintro e wO ⟨_,rfl,rfl,wZ⟩
    refine⟨_,rfl,?_⟩
    rintro _ rfl
    exact⟨by simp only [c3,Bool.true_and,Bool.and_true,Bool.false_and,Bool.and_false,Bool.true_or,Bool.or_true,Bool.false_or,Bool.or_false,Bool.not_true,Bool.not_false,if_true,if_false,Bool.false_eq_true],wZ⟩
   ·rintro _ rfl
    exact⟨by simp only [c3,Bool.true_and,Bool.and_true,Bool.false_and,Bool.and_false,Bool.true_or,Bool.or_true,Bool.false_or,Bool.or_false,Bool.not_true,Bool.not_false,if_true,if_false,Bool.false_eq_true],Ch.refl _ _⟩
  rintro _ _ wO ⟨rfl,wZ⟩
  have wB:=Pu.blk wZ (Ch.blk wP.ch wB (wR))
  refine⟨_,wB.at rfl,?_⟩
  rintro _ rfl
  refine bq (fun c4=>?_) (fun c4=>?_)
  ·refine⟨bXU [3] [1] wO.drew (fun k=>k=wD),?_⟩
   have wB:=Blk.drew wB
   have wA:=Blk.drew (Pu.blk wZ wA)
   refine⟨.inl (by decide),_,wB.at rfl,⟨.inr ⟨by decide,bX.ld wB (by(intro h;omega)) _⟩,_,wB.at rfl,aI wA (by simp) fun wN xl=>?_⟩⟩
   have wA:Blk wN wD #[(.int .i64 ea),(.int .i64 eb),(.int .i64 ec),(.int .i64 0),(.bool false)] _:=xl.blk
   refine bXU.more xl.ch (by intro k hk;exact .inl hk) (by decide) ?_
   refine aI wA (by simp) fun wQ zu=>?_
   have wA:Blk wQ wD #[(.int .i64 ea),(.int .i64 eb),(.int .i64 ec),(.int .i64 ed),(.bool false)] _:=zu.blk
   refine bXU.grow zu.ch ?_
   refine⟨fun x w'=>x=((((decide ((ea:Int)≥0)) && (decide ((ea:Int)<7))) && (decide (0≤eb∧eb≤63))) && ((decide (0≤ec∧ec≤63)) && ((decide ((ed:Int)>0)) && (decide ((ed:Int)<4)))))∧Pu wQ w',?_,?_⟩
   ·refine aE (fun c5=>?_) (fun c5=>?_)
    ·have wB:=Ch.blk zu.ch (Ch.blk xl.ch wB (wR)) (wR)
     refine⟨_,wB.at rfl,?_⟩
     refine Calls.mono (rI _) ?_
     rintro e wK ⟨_,rfl,rfl,xf⟩
     refine⟨_,rfl,?_⟩
     refine aE (fun c6=>?_) (fun c6=>?_)
     ·have wB:=Pu.blk xf wB
      refine⟨_,wB.at rfl,?_⟩
      refine aE (fun c7=>?_) (fun c7=>?_)
      ·refine⟨_,wB.at rfl,?_⟩
       rintro _ rfl
       exact⟨by simp only [c5,c6,c7,Bool.true_and,Bool.and_true,Bool.false_and,Bool.and_false,Bool.true_or,Bool.or_true,Bool.false_or,Bool.or_false,Bool.not_true,Bool.not_false,if_true,if_false,Bool.false_eq_true],xf⟩
      ·rintro _ rfl
       exact⟨by simp only [c5,c6,c7,Bool.true_and,Bool.and_true,Bool.false_and,Bool.and_false,Bool.true_or,Bool.or_true,Bool.false_or,Bool.or_false,Bool.not_true,Bool.not_false,if_true,if_false,Bool.false_eq_true],xf⟩
     ·rintro _ rfl
      exact⟨by simp only [c5,c6,Bool.true_and,Bool.and_true,Bool.false_and,Bool.and_false,Bool.true_or,Bool.or_true,Bool.false_or,Bool.or_false,Bool.not_true,Bool.not_false,if_true,if_false,Bool.false_eq_true],xf⟩
    ·rintro _ rfl
     exact⟨by simp only [c5,Bool.true_and,Bool.and_true,Bool.false_and,Bool.and_false,Bool.true_or,Bool.or_true,Bool.false_or,Bool.or_false,Bool.not_true,Bool.not_false,if_true,if_false,Bool.false_eq_true],Ch.refl _ _⟩
   rintro _ _ wK ⟨rfl,xf⟩
   refine⟨fun x w'=>x=((!((((decide ((ea:Int)≥0)) && (decide ((ea:Int)<7))) && (decide (0≤eb∧eb≤63))) && ((decide (0≤ec∧ec≤63)) && ((decide ((ed:Int)>0)) && (decide ((ed:Int)<4)))))) || (!(aL #[(.int .i64 ea),(.int .i64 eb),(.int .i64 ec),(.int .i64 ed),(.bool ee)] #[(.int .i64 ea),(.int .i64 eb),(.int .i64 ec),(.int .i64 ed),(.bool false)])))∧Pu wK w',?_,?_⟩
   ·refine aE (fun c8=>?_) (fun c8=>?_)
    ·exact⟨by simp only [c8,Bool.true_and,Bool.and_true,Bool.false_and,Bool.and_false,Bool.true_or,Bool.or_true,Bool.false_or,Bool.or_false,Bool.not_true,Bool.not_false,if_true,if_false,Bool.false_eq_true],Ch.refl _ _⟩
    ·have wB:=Pu.blk xf (Ch.blk zu.ch (Ch.blk xl.ch wB (wR)) (wR))
     have wA:=Pu.blk xf wA
     refine⟨_,_,_,_,_,⟨wB.at rfl,wB.at rfl,wB.at rfl,wB.at rfl,wB.at rfl⟩,⟨_,_,_,_,_,⟨wA.at rfl,wA.at rfl,wA.at rfl,wA.at rfl,wA.at rfl⟩,?_⟩⟩
     exact⟨by simp only [c8,Bool.true_and,Bool.and_true,Bool.false_and,Bool.and_false,Bool.true_or,Bool.or_true,Bool.false_or,Bool.or_false,Bool.not_true,Bool.not_false,if_true,if_false,Bool.false_eq_true],Ch.refl _ _⟩
   rintro _ _ xw ⟨rfl,yu⟩
   refine cZ (fun c9=>?_) (fun c9=>?_)
   ·have hp:=Ch.pu (Ch.pu (Ch.call (Ch.call (Ch.drew (Ch.pu (Ch.call (Ch.pu (Ch.call (Ch.made hp wM) xr.ch (by exact fun k e=>.inr (e▸wL))) wX) wP.ch (by exact fun k e=>.inr (e▸wL))) wZ)) xl.ch (by exact fun k e=>.inr (e▸wL))) zu.ch (by exact fun k e=>.inr (e▸wL))) xf) yu
    exact⟨congrArg (Value.int .i64) (by have hh:∀(p:Bool),(p=false→(110:Int)=if p then 0 else 110)∧(p=true→(0:Int)=if p then 0 else 110):=(by intro p;cases p<;>simp);(refine(hh _).1 ?_;simp only [Ent.ok];cases ee<;>simp [aL,eqL,cr]at c2 c4 c9 ⊢ <;>omega)),hp⟩
   ·have hp:=Ch.pu (Ch.pu (Ch.call (Ch.call (Ch.drew (Ch.pu (Ch.call (Ch.pu (Ch.call (Ch.made hp wM) xr.ch (by exact fun k e=>.inr (e▸wL))) wX) wP.ch (by exact fun k e=>.inr (e▸wL))) wZ)) xl.ch (by exact fun k e=>.inr (e▸wL))) zu.ch (by exact fun k e=>.inr (e▸wL))) xf) yu
    exact⟨congrArg (Value.int .i64) (by have hh:∀(p:Bool),(p=false→(110:Int)=if p then 0 else 110)∧(p=true→(0:Int)=if p then 0 else 110):=(by intro p;cases p<;>simp);(refine(hh _).2 ?_;simp only [Ent.ok];cases ee<;>simp [aL,eqL,cr]at c2 c4 c9 ⊢ <;>omega)),hp⟩
  ·rintro _ rfl
   refine bq (fun MD=>?_) (fun MD=>?_)
   ·have wA:=Pu.blk wZ wA
    refine⟨_,wB.at rfl,aI wA (by simp) fun wN xl=>?_⟩
    have wA:Blk wN wD #[(.int .i64 ea),(.int .i64 eb),(.int .i64 0),(.int .i64 0),(.bool ee)] _:=xl.blk
    refine⟨fun x w'=>x=((!(((decide ((ea:Int)≥0)) && (decide ((ea:Int)<7))) && (decide (0≤eb∧eb≤63)))) || (!(aL #[(.int .i64 ea),(.int .i64 eb),(.int .i64 ec),(.int .i64 ed),(.bool ee)] #[(.int .i64 ea),(.int .i64 eb),(.int .i64 0),(.int .i64 0),(.bool ee)])))∧Pu wN w',?_,?_⟩
    ·refine aE (fun OI=>?_) (fun OI=>?_)
     ·exact⟨by simp only [OI,Bool.true_and,Bool.and_true,Bool.false_and,Bool.and_false,Bool.true_or,Bool.or_true,Bool.false_or,Bool.or_false,Bool.not_true,Bool.not_false,if_true,if_false,Bool.false_eq_true],Ch.refl _ _⟩
     ·have wB:=Ch.blk xl.ch wB (wR)
      refine⟨_,_,_,_,_,⟨wB.at rfl,wB.at rfl,wB.at rfl,wB.at rfl,wB.at rfl⟩,⟨_,_,_,_,_,⟨wA.at rfl,wA.at rfl,wA.at rfl,wA.at rfl,wA.at rfl⟩,?_⟩⟩
      exact⟨by simp only [OI,Bool.true_and,Bool.and_true,Bool.false_and,Bool.and_false,Bool.true_or,Bool.or_true,Bool.false_or,Bool.or_false,Bool.not_true,Bool.not_false,if_true,if_false,Bool.false_eq_true],Ch.refl _ _⟩
    rintro _ _ wQ ⟨rfl,xd⟩
    refine cZ (fun OH=>?_) (fun OH=>?_)
    ·have hp:=Ch.pu (Ch.call (Ch.pu (Ch.call (Ch.pu (Ch.call (Ch.made hp wM) xr.ch (by exact fun k e=>.inr (e▸wL))) wX) wP.ch (by exact fun k e=>.inr (e▸wL))) wZ) xl.ch (by exact fun k e=>.inr (e▸wL))) xd
     exact⟨congrArg (Value.int .i64) (by have hh:∀(p:Bool),(p=false→(110:Int)=if p then 0 else 110)∧(p=true→(0:Int)=if p then 0 else 110):=(by intro p;cases p<;>simp);(refine(hh _).1 ?_;simp only [Ent.ok];cases ee<;>simp [aL,eqL,cr]at c2 c4 MD OH ⊢ <;>omega)),hp⟩
    ·have hp:=Ch.pu (Ch.call (Ch.pu (Ch.call (Ch.pu (Ch.call (Ch.made hp wM) xr.ch (by exact fun k e=>.inr (e▸wL))) wX) wP.ch (by exact fun k e=>.inr (e▸wL))) wZ) xl.ch (by exact fun k e=>.inr (e▸wL))) xd
     exact⟨congrArg (Value.int .i64) (by have hh:∀(p:Bool),(p=false→(110:Int)=if p then 0 else 110)∧(p=true→(0:Int)=if p then 0 else 110):=(by intro p;cases p<;>simp);(refine(hh _).2 ?_;simp only [Ent.ok];cases ee<;>simp [aL,eqL,cr]at c2 c4 MD OH ⊢ <;>omega)),hp⟩
   ·refine⟨fun x w'=>x=((!(((decide ((ea:Int)≥0)) && (decide ((ea:Int)<7))) && (decide (0≤eb∧eb≤63)))) || (!(aL #[(.int .i64 ea),(.int .i64 eb),(.int .i64 ec),(.int .i64 ed),(.bool ee)] #[(.int .i64 ea),(.int .i64 eb),(.int .i64 0),(.int .i64 0),(.bool false)])))∧Pu wO w',?_,?_⟩
    ·refine aE (fun OG=>?_) (fun OG=>?_)
     ·exact⟨by simp only [OG,Bool.true_and,Bool.and_true,Bool.false_and,Bool.and_false,Bool.true_or,Bool.or_true,Bool.false_or,Bool.or_false,Bool.not_true,Bool.not_false,if_true,if_false,Bool.false_eq_true],Ch.refl _ _⟩
     ·have wA:=Pu.blk wZ wA
      refine⟨_,_,_,_,_,⟨wB.at rfl,wB.at rfl,wB.at rfl,wB.at rfl,wB.at rfl⟩,⟨_,_,_,_,_,⟨wA.at rfl,wA.at rfl,wA.at rfl,wA.at rfl,wA.at rfl⟩,?_⟩⟩
      exact⟨by simp only [OG,Bool.true_and,Bool.and_true,Bool.false_and,Bool.and_false,Bool.true_or,Bool.or_true,Bool.false_or,Bool.or_false,Bool.not_true,Bool.not_false,if_true,if_false,Bool.false_eq_true],Ch.refl _ _⟩
    rintro _ _ wN ⟨rfl,xt⟩
    refine cZ (fun OF=>?_) (fun OF=>?_)
    ·have hp:=Ch.pu (Ch.pu (Ch.call (Ch.pu (Ch.call (Ch.made hp wM) xr.ch (by exact fun k e=>.inr (e▸wL))) wX) wP.ch (by exact fun k e=>.inr (e▸wL))) wZ) xt
     exact⟨congrArg (Value.int .i64) (by have hh:∀(p:Bool),(p=false→(110:Int)=if p then 0 else 110)∧(p=true→(0:Int)=if p then 0 else 110):=(by intro p;cases p<;>simp);(refine(hh _).1 ?_;simp only [Ent.ok];cases ee<;>simp [aL,eqL,cr]at c2 c4 MD OF ⊢ <;>omega)),hp⟩
    ·have hp:=Ch.pu (Ch.pu (Ch.call (Ch.pu (Ch.call (Ch.made hp wM) xr.ch (by exact fun k e=>.inr (e▸wL))) wX) wP.ch (by exact fun k e=>.inr (e▸wL))) wZ) xt
     exact⟨congrArg (Value.int .i64) (by have hh:∀(p:Bool),(p=false→(110:Int)=if p then 0 else 110)∧(p=true→(0:Int)=if p then 0 else 110):=(by intro p;cases p<;>simp);(refine(hh _).2 ?_;simp only [Ent.ok];cases ee<;>simp [aL,eqL,cr]at c2 c4 MD OF ⊢ <;>omega)),hp⟩
 ·refine⟨_,wB.at rfl,?_⟩
  rintro _ rfl
  refine bq (fun GJ=>?_) (fun GJ=>?_)
  ·refine⟨bXU [3] [1] wH.drew (fun k=>k=wD),?_⟩
   have wB:=Blk.drew wB
   have wA:=Blk.drew (Pu.blk wX wA)
   refine⟨.inl (by decide),_,wB.at rfl,⟨.inr ⟨by decide,bX.ld wB (by(intro h;omega)) _⟩,_,wB.at rfl,aI wA (by simp) fun wJ wP=>?_⟩⟩
   have wA:Blk wJ wD #[(.int .i64 ea),(.int .i64 0),(.int .i64 ec),(.int .i64 0),(.bool false)] _:=wP.blk
   refine bXU.more wP.ch (by intro k hk;exact .inl hk) (by decide) ?_
   refine aI wA (by simp) fun wO xQ=>?_
   have wA:Blk wO wD #[(.int .i64 ea),(.int .i64 0),(.int .i64 ec),(.int .i64 ed),(.bool false)] _:=xQ.blk
   refine bXU.grow xQ.ch ?_
   refine⟨fun x w'=>x=(((decide ((ea:Int)≥0)) && (decide ((ea:Int)<7))) && ((decide (0≤ec∧ec≤63)) && ((decide ((ed:Int)>0)) && (decide ((ed:Int)<4)))))∧Pu wO w',?_,?_⟩
   ·refine aE (fun MC=>?_) (fun MC=>?_)
    ·have wB:=Ch.blk xQ.ch (Ch.blk wP.ch wB (wR)) (wR)
     refine⟨_,wB.at rfl,?_⟩
     refine Calls.mono (rI _) ?_
     rintro e wN ⟨_,rfl,rfl,xt⟩
     refine⟨_,rfl,?_⟩
     refine aE (fun M4=>?_) (fun M4=>?_)
     ·have wB:=Pu.blk xt wB
      refine⟨_,wB.at rfl,?_⟩
      refine aE (fun OE=>?_) (fun OE=>?_)
      ·refine⟨_,wB.at rfl,?_⟩
       rintro _ rfl
       exact⟨by simp only [MC,M4,OE,Bool.true_and,Bool.and_true,Bool.false_and,Bool.and_false,Bool.true_or,Bool.or_true,Bool.false_or,Bool.or_false,Bool.not_true,Bool.not_false,if_true,if_false,Bool.false_eq_true],xt⟩
      ·rintro _ rfl
       exact⟨by simp only [MC,M4,OE,Bool.true_and,Bool.and_true,Bool.false_and,Bool.and_false,Bool.true_or,Bool.or_true,Bool.false_or,Bool.or_false,Bool.not_true,Bool.not_false,if_true,if_false,Bool.false_eq_true],xt⟩
     ·rintro _ rfl
      exact⟨by simp only [MC,M4,Bool.true_and,Bool.and_true,Bool.false_and,Bool.and_false,Bool.true_or,Bool.or_true,Bool.false_or,Bool.or_false,Bool.not_true,Bool.not_false,if_true,if_false,Bool.false_eq_true],xt⟩
    ·rintro _ rfl
     exact⟨by simp only [MC,Bool.true_and,Bool.and_true,Bool.false_and,Bool.and_false,Bool.true_or,Bool.or_true,Bool.false_or,Bool.or_false,Bool.not_true,Bool.not_false,if_true,if_false,Bool.false_eq_true],Ch.refl _ _⟩
   rintro _ _ wN ⟨rfl,xt⟩
   refine⟨fun x w'=>x=((!(((decide ((ea:Int)≥0)) && (decide ((ea:Int)<7))) && ((decide (0≤ec∧ec≤63)) && ((decide ((ed:Int)>0)) && (decide ((ed:Int)<4)))))) || (!(aL #[(.int .i64 ea),(.int .i64 eb),(.int .i64 ec),(.int .i64 ed),(.bool ee)] #[(.int .i64 ea),(.int .i64 0),(.int .i64 ec),(.int .i64 ed),(.bool false)])))∧Pu wN w',?_,?_⟩
   ·refine aE (fun OD=>?_) (fun OD=>?_)
    ·exact⟨by simp only [OD,Bool.true_and,Bool.and_true,Bool.false_and,Bool.and_false,Bool.true_or,Bool.or_true,Bool.false_or,Bool.or_false,Bool.not_true,Bool.not_false,if_true,if_false,Bool.false_eq_true],Ch.refl _ _⟩
    ·have wB:=Pu.blk xt (Ch.blk xQ.ch (Ch.blk wP.ch wB (wR)) (wR))
     have wA:=Pu.blk xt wA
     refine⟨_,_,_,_,_,⟨wB.at rfl,wB.at rfl,wB.at rfl,wB.at rfl,wB.at rfl⟩,⟨_,_,_,_,_,⟨wA.at rfl,wA.at rfl,wA.at rfl,wA.at rfl,wA.at rfl⟩,?_⟩⟩
     exact⟨by simp only [OD,Bool.true_and,Bool.and_true,Bool.false_and,Bool.and_false,Bool.true_or,Bool.or_true,Bool.false_or,Bool.or_false,Bool.not_true,Bool.not_false,if_true,if_false,Bool.false_eq_true],Ch.refl _ _⟩
   rintro _ _ wQ ⟨rfl,xd⟩
   refine cZ (fun OB=>?_) (fun OB=>?_)
   ·have hp:=Ch.pu (Ch.pu (Ch.call (Ch.call (Ch.drew (Ch.pu (Ch.call (Ch.made hp wM) xr.ch (by exact fun k e=>.inr (e▸wL))) wX)) wP.ch (by exact fun k e=>.inr (e▸wL))) xQ.ch (by exact fun k e=>.inr (e▸wL))) xt) xd
    exact⟨congrArg (Value.int .i64) (by have hh:∀(p:Bool),(p=false→(110:Int)=if p then 0 else 110)∧(p=true→(0:Int)=if p then 0 else 110):=(by intro p;cases p<;>simp);(refine(hh _).1 ?_;simp only [Ent.ok];cases ee<;>simp [aL,eqL,cr]at c2 GJ OB ⊢ <;>omega)),hp⟩
   ·have hp:=Ch.pu (Ch.pu (Ch.call (Ch.call (Ch.drew (Ch.pu (Ch.call (Ch.made hp wM) xr.ch (by exact fun k e=>.inr (e▸wL))) wX)) wP.ch (by exact fun k e=>.inr (e▸wL))) xQ.ch (by exact fun k e=>.inr (e▸wL))) xt) xd
    exact⟨congrArg (Value.int .i64) (by have hh:∀(p:Bool),(p=false→(110:Int)=if p then 0 else 110)∧(p=true→(0:Int)=if p then 0 else 110):=(by intro p;cases p<;>simp);(refine(hh _).2 ?_;simp only [Ent.ok];cases ee<;>simp [aL,eqL,cr]at c2 GJ OB ⊢ <;>omega)),hp⟩
  ·rintro _ rfl
   refine bq (fun MB=>?_) (fun MB=>?_)
   ·have wA:=Pu.blk wX wA
    refine⟨_,wB.at rfl,aI wA (by simp) fun wJ wP=>?_⟩
    have wA:Blk wJ wD #[(.int .i64 ea),(.int .i64 0),(.int .i64 0),(.int .i64 0),(.bool ee)] _:=wP.blk
    refine⟨fun x w'=>x=((!((decide ((ea:Int)≥0)) && (decide ((ea:Int)<7)))) || (!(aL #[(.int .i64 ea),(.int .i64 eb),(.int .i64 ec),(.int .i64 ed),(.bool ee)] #[(.int .i64 ea),(.int .i64 0),(.int .i64 0),(.int .i64 0),(.bool ee)])))∧Pu wJ w',?_,?_⟩
    ·refine aE (fun OA=>?_) (fun OA=>?_)
     ·exact⟨by simp only [OA,Bool.true_and,Bool.and_true,Bool.false_and,Bool.and_false,Bool.true_or,Bool.or_true,Bool.false_or,Bool.or_false,Bool.not_true,Bool.not_false,if_true,if_false,Bool.false_eq_true],Ch.refl _ _⟩
     ·have wB:=Ch.blk wP.ch wB (wR)
      refine⟨_,_,_,_,_,⟨wB.at rfl,wB.at rfl,wB.at rfl,wB.at rfl,wB.at rfl⟩,⟨_,_,_,_,_,⟨wA.at rfl,wA.at rfl,wA.at rfl,wA.at rfl,wA.at rfl⟩,?_⟩⟩
      exact⟨by simp only [OA,Bool.true_and,Bool.and_true,Bool.false_and,Bool.and_false,Bool.true_or,Bool.or_true,Bool.false_or,Bool.or_false,Bool.not_true,Bool.not_false,if_true,if_false,Bool.false_eq_true],Ch.refl _ _⟩
    rintro _ _ wO ⟨rfl,wZ⟩
    refine cZ (fun Oz=>?_) (fun Oz=>?_)
    ·have hp:=Ch.pu (Ch.call (Ch.pu (Ch.call (Ch.made hp wM) xr.ch (by exact fun k e=>.inr (e▸wL))) wX) wP.ch (by exact fun k e=>.inr (e▸wL))) wZ
     exact⟨congrArg (Value.int .i64) (by have hh:∀(p:Bool),(p=false→(110:Int)=if p then 0 else 110)∧(p=true→(0:Int)=if p then 0 else 110):=(by intro p;cases p<;>simp);(refine(hh _).1 ?_;simp only [Ent.ok];cases ee<;>simp [aL,eqL,cr]at c2 GJ MB Oz ⊢ <;>omega)),hp⟩
    ·have hp:=Ch.pu (Ch.call (Ch.pu (Ch.call (Ch.made hp wM) xr.ch (by exact fun k e=>.inr (e▸wL))) wX) wP.ch (by exact fun k e=>.inr (e▸wL))) wZ
     exact⟨congrArg (Value.int .i64) (by have hh:∀(p:Bool),(p=false→(110:Int)=if p then 0 else 110)∧(p=true→(0:Int)=if p then 0 else 110):=(by intro p;cases p<;>simp);(refine(hh _).2 ?_;simp only [Ent.ok];cases ee<;>simp [aL,eqL,cr]at c2 GJ MB Oz ⊢ <;>omega)),hp⟩
   ·refine⟨fun x w'=>x=((!((decide ((ea:Int)≥0)) && (decide ((ea:Int)<7)))) || (!(aL #[(.int .i64 ea),(.int .i64 eb),(.int .i64 ec),(.int .i64 ed),(.bool ee)] #[(.int .i64 ea),(.int .i64 0),(.int .i64 0),(.int .i64 0),(.bool false)])))∧Pu wH w',?_,?_⟩
    ·refine aE (fun Oy=>?_) (fun Oy=>?_)
     ·exact⟨by simp only [Oy,Bool.true_and,Bool.and_true,Bool.false_and,Bool.and_false,Bool.true_or,Bool.or_true,Bool.false_or,Bool.or_false,Bool.not_true,Bool.not_false,if_true,if_false,Bool.false_eq_true],Ch.refl _ _⟩
     ·have wA:=Pu.blk wX wA
      refine⟨_,_,_,_,_,⟨wB.at rfl,wB.at rfl,wB.at rfl,wB.at rfl,wB.at rfl⟩,⟨_,_,_,_,_,⟨wA.at rfl,wA.at rfl,wA.at rfl,wA.at rfl,wA.at rfl⟩,?_⟩⟩
      exact⟨by simp only [Oy,Bool.true_and,Bool.and_true,Bool.false_and,Bool.and_false,Bool.true_or,Bool.or_true,Bool.false_or,Bool.or_false,Bool.not_true,Bool.not_false,if_true,if_false,Bool.false_eq_true],Ch.refl _ _⟩
    rintro _ _ wJ ⟨rfl,zc⟩
    refine cZ (fun Ox=>?_) (fun Ox=>?_)
    ·have hp:=Ch.pu (Ch.pu (Ch.call (Ch.made hp wM) xr.ch (by exact fun k e=>.inr (e▸wL))) wX) zc
     exact⟨congrArg (Value.int .i64) (by have hh:∀(p:Bool),(p=false→(110:Int)=if p then 0 else 110)∧(p=true→(0:Int)=if p then 0 else 110):=(by intro p;cases p<;>simp);(refine(hh _).1 ?_;simp only [Ent.ok];cases ee<;>simp [aL,eqL,cr]at c2 GJ MB Ox ⊢ <;>omega)),hp⟩
    ·have hp:=Ch.pu (Ch.pu (Ch.call (Ch.made hp wM) xr.ch (by exact fun k e=>.inr (e▸wL))) wX) zc
     exact⟨congrArg (Value.int .i64) (by have hh:∀(p:Bool),(p=false→(110:Int)=if p then 0 else 110)∧(p=true→(0:Int)=if p then 0 else 110):=(by intro p;cases p<;>simp);(refine(hh _).2 ?_;simp only [Ent.ok];cases ee<;>simp [aL,eqL,cr]at c2 GJ MB Ox ⊢ <;>omega)),hp⟩
theorem oN {w:World}(ea:Int)(eb:Int)(ec:Int)(ed:Int)(ee:Bool):
 Calls Tryd.prog 56 #[(.agg #[(.int .i64 ea),(.int .i64 eb),(.int .i64 ec),(.int .i64 ed),(.bool ee)])] w fun e w'=>∃v,e= .returned v∧v= .tuple #[(.agg #[(.int .u32 (if(Ent.mk ea eb ec ed ee).ok then(Ent.mk ea eb ec ed ee).w0 else 0)),(.int .u32 (if(Ent.mk ea eb ec ed ee).ok then(Ent.mk ea eb ec ed ee).w1 else 0))]),(.int .i64 (if(Ent.mk ea eb ec ed ee).ok then 0 else 110))]∧Pu w w':=by
 refine jE _ _ _ _ _ ?_
 have LZ:∀(p:Bool),¬(if p then(0:Int)else 110)=0→p=false:=by intro p;cases p<;>simp
 have FZ:∀(p:Bool),(if p then(0:Int)else 110)=0→p=true:=by intro p;cases p<;>simp
 have hp:=Ch.refl (fun _=>False) w
 refine mkd fun gv wv xh=>?_
 have wB:=xh.blk
 have hp:=Ch.made hp xh
 refine mkd fun wD wC wM=>?_
 have wL:=wM.lo hp
 have wR:=wM.ne wB
 have wA:=wM.blk
 have wB:=Made.old wM wB
 refine⟨_,_,_,_,_,⟨wB.at rfl,wB.at rfl,wB.at rfl,wB.at rfl,wB.at rfl⟩,?_⟩
 refine Calls.mono (uO _ _ _ _ _) ?_
 rintro e wF ⟨_,rfl,rfl,xI⟩
 refine⟨_,rfl,?_⟩
 refine aU (fun c1=>?_) (fun c1=>?_)
 ·have wA:=Pu.blk xI wA
  refine aR wA (by simp) fun wH xu=>?_
  have wA:Blk wH wD #[(.int .u32 0),(.int .u32 0)] _:=xu.blk
  refine⟨_,_,⟨wA.at rfl,wA.at rfl⟩,?_⟩
  have hp:=Ch.call (Ch.pu (Ch.made hp wM) xI) xu.ch (by exact fun k e=>.inr (e▸wL))
  exact⟨by have h:=LZ _ c1;simp [h],hp⟩
 ·have wB:=Pu.blk xI wB
  refine⟨_,wB.at rfl,⟨_,wB.at rfl,⟨_,wB.at rfl,?_⟩⟩⟩
  rintro _ rfl
  refine⟨_,wB.at rfl,?_⟩
  refine aE (fun c2=>?_) (fun c2=>?_)
  ·rintro _ rfl
   have wA:=Pu.blk xI wA
   refine⟨_,wB.at rfl,aR wA (by simp) fun wO xQ=>?_⟩
   have wA:Blk wO wD #[_,(.int .u32 (u32.wrap ec))] _:=xQ.blk
   refine⟨_,_,⟨wA.at rfl,wA.at rfl⟩,?_⟩
   have hp:=Ch.call (Ch.pu (Ch.made hp wM) xI) xQ.ch (by exact fun k e=>.inr (e▸wL))
   exact⟨by have h:=FZ _ c1;have h1:=Ent.eh h;have h2:=Ent.eg h;simp only at h1 h2;have h3:=Ent.or0 h;simp only at h3;rw [h3,Ent.or1 ⟨ea+16*ed,128*eb,by omega⟩];rw [c2]at h ⊢;simp [h,Ent.w0,Ent.w1,cY (x:=ec) (by omega)],hp⟩
  ·have wA:=Pu.blk xI wA
   refine⟨_,wB.at rfl,aR wA (by simp) fun wJ wP=>?_⟩
   have wA:Blk wJ wD #[_,(.int .u32 (u32.wrap ec))] _:=wP.blk
   refine⟨_,_,⟨wA.at rfl,wA.at rfl⟩,?_⟩
   have hp:=Ch.call (Ch.pu (Ch.made hp wM) xI) wP.ch (by exact fun k e=>.inr (e▸wL))
   exact⟨by have h:=FZ _ c1;have h1:=Ent.eh h;have h2:=Ent.eg h;simp only at h1 h2;have h3:=Ent.or0 h;simp only at h3;rw [h3];rw [c2]at h ⊢;simp [h,Ent.w0,Ent.w1,cY (x:=ec) (by omega)],hp⟩
theorem ts {w:World}(wa:Int)(wb:Int)(ha:0≤wa∧wa<4294967296)(hb:0≤wb∧wb<4294967296):
 Calls Tryd.prog 79 #[(.agg #[(.int .u32 wa),(.int .u32 wb)])] w fun e w'=>∃v,e= .returned v∧v= .tuple #[(.agg #[(.int .i64 ((Ent.dec wa wb).typ)),(.int .i64 ((Ent.dec wa wb).owner)),(.int .i64 ((Ent.dec wa wb).refs)),(.int .i64 ((Ent.dec wa wb).state)),(.bool ((Ent.dec wa wb).ck))]),(.int .i64 (Ent.iD wa wb))]∧Pu w w':=by
 refine jF _ _ ?_
 obtain⟨e1,e2,e3,e4,e5⟩:=Ent.parts_eq ha hb
 have e6:Ent.mk (Ent.parts wa wb).typ (Ent.parts wa wb).owner (Ent.parts wa wb).refs (Ent.parts wa wb).state (Ent.parts wa wb).ck=Ent.parts wa wb:=rfl
 have hp:=Ch.refl (fun _=>False) w
 refine mkd fun gv wv xh=>?_
 have wB:=xh.blk
 have hp:=Ch.made hp xh
 refine mkd fun wD wC wM=>?_
 have wL:=wM.lo hp
 have wR:=wM.ne wB
 have wA:=wM.blk
 have wB:=Made.old wM wB
 refine⟨by decide,⟨_,wB.at rfl,⟨by decide,⟨_,wB.at rfl,⟨by decide,⟨_,wB.at rfl,⟨by decide,⟨_,wB.at rfl,⟨by decide,⟨_,wB.at rfl,?_⟩⟩⟩⟩⟩⟩⟩⟩⟩⟩
 have hp:=Ch.made hp wM
 refine mkd fun wY wF xe=>?_
 have yJ:=xe.lo hp
 have xK:=xe.ne wB
 have ne_gv1_gv2:=xe.ne wA
 have wG:=xe.blk
 refine aR wG (by simp) fun wH xu=>?_
 have wG:Blk wH wY #[_,_,_,_,_] _:=xu.blk
 refine⟨_,_,_,_,_,⟨wG.at rfl,wG.at rfl,wG.at rfl,wG.at rfl,wG.at rfl⟩,?_⟩
 refine Calls.mono (oN _ _ _ _ _) ?_
 rintro e wJ ⟨_,rfl,rfl,zc⟩
 refine⟨_,_,_,rfl,?_⟩
 have hp:=Ch.pu (Ch.call (Ch.made hp xe) xu.ch (by exact fun k e=>.inr (e▸yJ))) zc
 have wB:=Pu.blk zc (Ch.blk xu.ch (Made.old xe wB) (xK))
 have wA:=Pu.blk zc (Ch.blk xu.ch (Made.old xe wA) (ne_gv1_gv2))
 have wG:=Pu.blk zc wG
 refine mkd fun wV wO xg=>?_
 have wU:=xg.lo hp
 have wW:=xg.ne wB
 have ne_gv1_gv3:=xg.ne wA
 have ne_gv2_gv3:=xg.ne wG
 have wE:=xg.blk
 refine aR wE (by simp) fun wN xl=>?_
 have wE:Blk wN wV #[_,_] _:=xl.blk
 refine⟨fun x w'=>x=((((if(Ent.mk (i64.wrap (u32.wrap (BitVec.ofInt u32.bits ((wa:Int).fdiv (2 ^ 0)) &&& BitVec.ofInt u32.bits 7).toNat)) (i64.wrap (u32.wrap (BitVec.ofInt u32.bits ((wa:Int).fdiv (2 ^ 16)) &&& BitVec.ofInt u32.bits 63).toNat)) (i64.wrap (u32.wrap (BitVec.ofInt u32.bits wb &&& BitVec.ofInt u32.bits 63).toNat)) (i64.wrap (u32.wrap (BitVec.ofInt u32.bits ((wa:Int).fdiv (2 ^ 4)) &&& BitVec.ofInt u32.bits 3).toNat)) ((u32.wrap (BitVec.ofInt u32.bits ((wa:Int).fdiv (2 ^ 8)) &&& BitVec.ofInt u32.bits 1).toNat:Int)==1)).ok then 0 else 110):Int) !=0) || (!(aL #[(.int .u32 (if(Ent.mk (i64.wrap (u32.wrap (BitVec.ofInt u32.bits ((wa:Int).fdiv (2 ^ 0)) &&& BitVec.ofInt u32.bits 7).toNat)) (i64.wrap (u32.wrap (BitVec.ofInt u32.bits ((wa:Int).fdiv (2 ^ 16)) &&& BitVec.ofInt u32.bits 63).toNat)) (i64.wrap (u32.wrap (BitVec.ofInt u32.bits wb &&& BitVec.ofInt u32.bits 63).toNat)) (i64.wrap (u32.wrap (BitVec.ofInt u32.bits ((wa:Int).fdiv (2 ^ 4)) &&& BitVec.ofInt u32.bits 3).toNat)) ((u32.wrap (BitVec.ofInt u32.bits ((wa:Int).fdiv (2 ^ 8)) &&& BitVec.ofInt u32.bits 1).toNat:Int)==1)).ok then(Ent.mk (i64.wrap (u32.wrap (BitVec.ofInt u32.bits ((wa:Int).fdiv (2 ^ 0)) &&& BitVec.ofInt u32.bits 7).toNat)) (i64.wrap (u32.wrap (BitVec.ofInt u32.bits ((wa:Int).fdiv (2 ^ 16)) &&& BitVec.ofInt u32.bits 63).toNat)) (i64.wrap (u32.wrap (BitVec.ofInt u32.bits wb &&& BitVec.ofInt u32.bits 63).toNat)) (i64.wrap (u32.wrap (BitVec.ofInt u32.bits ((wa:Int).fdiv (2 ^ 4)) &&& BitVec.ofInt u32.bits 3).toNat)) ((u32.wrap (BitVec.ofInt u32.bits ((wa:Int).fdiv (2 ^ 8)) &&& BitVec.ofInt u32.bits 1).toNat:Int)==1)).w0 else 0)),(.int .u32 (if(Ent.mk (i64.wrap (u32.wrap (BitVec.ofInt u32.bits ((wa:Int).fdiv (2 ^ 0)) &&& BitVec.ofInt u32.bits 7).toNat)) (i64.wrap (u32.wrap (BitVec.ofInt u32.bits ((wa:Int).fdiv (2 ^ 16)) &&& BitVec.ofInt u32.bits 63).toNat)) (i64.wrap (u32.wrap (BitVec.ofInt u32.bits wb &&& BitVec.ofInt u32.bits 63).toNat)) (i64.wrap (u32.wrap (BitVec.ofInt u32.bits ((wa:Int).fdiv (2 ^ 4)) &&& BitVec.ofInt u32.bits 3).toNat)) ((u32.wrap (BitVec.ofInt u32.bits ((wa:Int).fdiv (2 ^ 8)) &&& BitVec.ofInt u32.bits 1).toNat:Int)==1)).ok then(Ent.mk (i64.wrap (u32.wrap (BitVec.ofInt u32.bits ((wa:Int).fdiv (2 ^ 0)) &&& BitVec.ofInt u32.bits 7).toNat)) (i64.wrap (u32.wrap (BitVec.ofInt u32.bits ((wa:Int).fdiv (2 ^ 16)) &&& BitVec.ofInt u32.bits 63).toNat)) (i64.wrap (u32.wrap (BitVec.ofInt u32.bits wb &&& BitVec.ofInt u32.bits 63).toNat)) (i64.wrap (u32.wrap (BitVec.ofInt u32.bits ((wa:Int).fdiv (2 ^ 4)) &&& BitVec.ofInt u32.bits 3).toNat)) ((u32.wrap (BitVec.ofInt u32.bits ((wa:Int).fdiv (2 ^ 8)) &&& BitVec.ofInt u32.bits 1).toNat:Int)==1)).w1 else 0))] #[(.int .u32 wa),(.int .u32 wb)])))∧Pu wN w',?_,?_⟩
 ·refine aE (fun c1=>?_) (fun c1=>?_)
  ·exact⟨by simp only [c1,Bool.true_and,Bool.and_true,Bool.false_and,Bool.and_false,Bool.true_or,Bool.or_true,Bool.false_or,Bool.or_false,Bool.not_true,Bool.not_false,if_true,if_false,Bool.false_eq_true],Ch.refl _ _⟩
  ·have wB:=Ch.blk xl.ch (Made.old xg wB) (wW)
   refine⟨_,_,⟨wE.at rfl,wE.at rfl⟩,⟨_,_,⟨wB.at rfl,wB.at rfl⟩,?_⟩⟩
   exact⟨by simp only [c1,Bool.true_and,Bool.and_true,Bool.false_and,Bool.and_false,Bool.true_or,Bool.or_true,Bool.false_or,Bool.or_false,Bool.not_true,Bool.not_false,if_true,if_false,Bool.false_eq_true],Ch.refl _ _⟩
 rintro _ _ wQ ⟨rfl,xd⟩
 refine cZ (fun c2=>?_) (fun c2=>?_)
 ·have wA:=Pu.blk xd (Ch.blk xl.ch (Made.old xg wA) (ne_gv1_gv3))
  refine aR wA (by simp) fun wK wI=>?_
  have wA:Blk wK wD #[(.int .i64 0),(.int .i64 0),(.int .i64 0),(.int .i64 0),(.bool false)] _:=wI.blk
  refine⟨_,_,_,_,_,⟨wA.at rfl,wA.at rfl,wA.at rfl,wA.at rfl,wA.at rfl⟩,?_⟩
  have hp:=Ch.call (Ch.pu (Ch.call (Ch.made hp xg) xl.ch (by exact fun k e=>.inr (e▸wU))) xd) wI.ch (by exact fun k e=>.inr (e▸wL))
  exact⟨by simp only [e1,e2,e3,e4,e5,e6]at c2 ⊢;cases hk:(Ent.parts wa wb).ok<;>by_cases q1:(Ent.parts wa wb).w0=wa<;>by_cases q2:(Ent.parts wa wb).w1=wb<;>simp [Ent.dec,Ent.iD,hk,q1,q2,Ent.eqW]at c2 ⊢,hp⟩
 ·have wG:=Pu.blk xd (Ch.blk xl.ch (Made.old xg wG) (ne_gv2_gv3))
  have wA:=Pu.blk xd (Ch.blk xl.ch (Made.old xg wA) (ne_gv1_gv3))
  refine⟨_,_,_,_,_,⟨wG.at rfl,wG.at rfl,wG.at rfl,wG.at rfl,wG.at rfl⟩,aR wA (by simp) fun wK wI=>?_⟩
  have wA:Blk wK wD #[_,_,_,_,_] _:=wI.blk
  refine⟨_,_,_,_,_,⟨wA.at rfl,wA.at rfl,wA.at rfl,wA.at rfl,wA.at rfl⟩,?_⟩
  have hp:=Ch.call (Ch.pu (Ch.call (Ch.made hp xg) xl.ch (by exact fun k e=>.inr (e▸wU))) xd) wI.ch (by exact fun k e=>.inr (e▸wL))
  exact⟨by simp only [e1,e2,e3,e4,e5,e6]at c2 ⊢;cases hk:(Ent.parts wa wb).ok<;>by_cases q1:(Ent.parts wa wb).w0=wa<;>by_cases q2:(Ent.parts wa wb).w1=wb<;>simp [Ent.dec,Ent.iD,hk,q1,q2,Ent.eqW]at c2 ⊢,hp⟩
theorem tw {w:World}(aK:Int):
 Calls Tryd.prog 50 #[(.int .i64 aK)] w fun e w'=>∃v,e= .returned v∧v= .agg #[(.bool true),(.int .i64 aK)]∧Pu w w':=by
 refine jG _ ?_
 have hp:=Ch.refl (fun _=>False) w
 refine mkd fun gv wv xh=>?_
 have zv:=xh.lo hp
 have wB:=xh.blk
 refine aR wB (by simp) fun wC AT=>?_
 have wB:Blk wC gv #[(.bool true),(.int .i64 aK)] _:=AT.blk
 refine⟨_,_,⟨wB.at rfl,wB.at rfl⟩,?_⟩
 have hp:=Ch.call (Ch.made hp xh) AT.ch (by exact fun k e=>.inr (e▸zv))
 exact⟨rfl,hp⟩
theorem nD {L:dL} {D:DB} {w:World}(h:DBP w L D):
 Calls Tryd.prog 54 #[(.pointer (some (Addr.mk L.g 0 none)))] w fun e w'=>∃v,e= .returned v∧v= .int .i64 (D.S:Int)∧w'=w:=by
 refine lu (some (Addr.mk L.g 0 none)) ?_
 obtain⟨_,dhd_h⟩:=h.hd
 refine aw _ rfl ⟨_,_,_,dhd_h.at rfl,?_⟩
 exact⟨congrArg (Value.int .i64) (by have:=h.S64;rw [aM (by rw [Int.tdiv_eq_ediv_of_nonneg (by omega)];unfold DB.S DB.n2 at *;omega)];rw [Int.tdiv_eq_ediv_of_nonneg (by omega)];unfold DB.S DB.n2;omega),rfl⟩
theorem tx {L:dL} {D:DB} {w:World}(h:DBP w L D):
 Calls Tryd.prog 37 #[(.pointer (some (Addr.mk L.g 0 none)))] w fun e w'=>∃v,e= .returned v∧v= .int .i64 D.aO∧w'=w:=by
 refine jI (some (Addr.mk L.g 0 none)) ?_
 obtain⟨_,dhd_h⟩:=h.hd
 refine aw _ rfl ⟨_,dhd_h.at rfl,?_⟩
 exact⟨rfl,rfl⟩
theorem fk {L:dL} {D:DB} {w:World}(h:DBP w L D):
 Calls Tryd.prog 34 #[(.pointer (some (Addr.mk L.g 0 none)))] w fun e w'=>∃v,e= .returned v∧v= .pointer (some (Addr.mk L.M.g 0 none))∧w'=w:=by
 refine jH (some (Addr.mk L.g 0 none)) ?_
 obtain⟨_,dhd_h⟩:=h.hd
 refine aw _ rfl ⟨_,dhd_h.at rfl,?_⟩
 exact⟨rfl,rfl⟩
theorem wx {L:dL} {D:DB} {w:World}(h:DBP w L D)(aK:Int):
 Calls Tryd.prog 66 #[(.pointer (some (Addr.mk L.g 0 none))),(.int .i64 aK)] w fun e w'=>∃v,e= .returned v∧v= .bool (D.has aK)∧Pu w w':=by
 refine oq (some (Addr.mk L.g 0 none)) _ ?_
 have hp:=Ch.refl (fun _=>False) w
 have Gk:=h.lt
 refine⟨fun x w'=>x=((decide ((aK:Int)≥0)) && (decide ((aK:Int)<(D.S:Int))))∧Pu w w',?_,?_⟩
 ·refine aE (fun c1=>?_) (fun c1=>?_)
  ·refine Calls.mono (nD h) ?_
   rintro e w9 ⟨_,rfl,rfl,e9⟩
   obtain rfl:=e9.symm
   refine⟨_,rfl,?_⟩
   exact⟨by simp only [c1,Bool.true_and,Bool.and_true,Bool.false_and,Bool.and_false,Bool.true_or,Bool.or_true,Bool.false_or,Bool.or_false,Bool.not_true,Bool.not_false,if_true,if_false,Bool.false_eq_true],Ch.refl _ _⟩
  ·exact⟨by simp only [c1,Bool.true_and,Bool.and_true,Bool.false_and,Bool.and_false,Bool.true_or,Bool.or_true,Bool.false_or,Bool.or_false,Bool.not_true,Bool.not_false,if_true,if_false,Bool.false_eq_true],Ch.refl _ _⟩
 rintro _ _ wv ⟨rfl,B7⟩
 have hp:=Ch.pu hp B7
 exact⟨congrArg Value.bool (by rw [Bool.eq_iff_iff];simp [DB.has]),hp⟩
theorem dAt {L:dL} {D:DB} {w:World}(h:DBP w L D)(aK:Int)(hp:D.has aK=true):
 Calls Tryd.prog 67 #[.pointer (some (Addr.mk L.g 0 none)),.int .i64 aK] w fun e w'=>∃v,e= .returned v∧v= .agg #[.int .i64 (D.at_ aK).typ,.int .i64 (D.at_ aK).owner,.int .i64 (D.at_ aK).refs,.int .i64 (D.at_ aK).state,.bool (D.at_ aK).ck]∧Pu w w':=by
 refine qw _ _ ?_
 refine mkd fun gv wv m=>?_
 have h1:=h.pu m.pu
 obtain⟨T,hd⟩:=h1.hd
 obtain⟨T2,cs,hr,xS,hw⟩:=h1.ws
 have hn:=DB.dw hp
 have ho:=DB.gT hp
 have BX:=h.S64
 have e0:i64.wrap (2*aK)=2*aK:=aM (by omega)
 have e1:(2*aK).toNat=2*aK.toNat:=by omega
 have e2:D.n2=2*D.S:=rfl
 refine aw _ rfl ⟨_,_,_,hd.at rfl,by rw [e0,e2];omega,?_⟩
 rintro _ rfl _ rfl _ rfl
 rw [e0,e1,e2]
 refine⟨by omega,aw (Addr.mk L.a (2*aK.toNat) none) (by rw [if_neg (by omega)];simp [Addr.add];omega) ?_⟩
 refine⟨_,_,⟨by rw [bB];exact hr.cell (hw _ hn).1,by rw [bB];exact hr.cell (hw _ hn).2⟩,?_⟩
 have zd:=(h.ok.ent _ hn).1
 refine Calls.mono (ts _ _ (Ent.qB zd) (Ent.qA zd)) ?_
 rw [(Ent.oQ zd).1,(Ent.oQ zd).2]
 rintro e w1 ⟨_,rfl,rfl,q1⟩
 refine⟨_,_,_,_,_,_,rfl,?_⟩
 refine mkd fun g1 w2 m1=>?_
 have b1:=m1.blk
 have b0:=m1.old (q1.blk m.blk)
 have ne:=m1.ne (q1.blk m.blk)
 refine aR b1 (by simp) fun w3 s3=>?_
 have GK:Blk w3 g1 #[.int .i64 (D.at_ aK).typ,.int .i64 (D.at_ aK).owner,.int .i64 (D.at_ aK).refs,.int .i64 (D.at_ aK).state,.bool (D.at_ aK).ck] _:=s3.blk
 refine⟨_,_,_,_,_,⟨GK.at rfl,GK.at rfl,GK.at rfl,GK.at rfl,GK.at rfl⟩,?_⟩
 refine aR (s3.old b0 ne) (by simp) fun w4 s4=>?_
 have MF:Blk w4 gv #[.int .i64 (D.at_ aK).typ,.int .i64 (D.at_ aK).owner,.int .i64 (D.at_ aK).refs,.int .i64 (D.at_ aK).state,.bool (D.at_ aK).ck] _:=s4.blk
 refine⟨_,_,_,_,_,⟨MF.at rfl,MF.at rfl,MF.at rfl,MF.at rfl,MF.at rfl⟩,?_⟩
 have hp0:Pu w wv:=m.pu
 have zf:Pu w w2:=(hp0.trans q1).made m1
 exact⟨rfl,(zf.stored s3 (.inr (m1.lo (hp0.trans q1)))).stored s4 (.inr (m.lo (Ch.refl (fun _=>False) w)))⟩
theorem rK {L:dL} {D:DB} {w:World}(h:DBP w L D)(aK:Int):
 Calls Tryd.prog 55 #[(.pointer (some (Addr.mk L.g 0 none))),(.int .i64 aK)] w fun e w'=>∃v,e= .returned v∧v= .tuple #[(.agg #[(.int .i64 ((D.entry aK).typ)),(.int .i64 ((D.entry aK).owner)),(.int .i64 ((D.entry aK).refs)),(.int .i64 ((D.entry aK).state)),(.bool ((D.entry aK).ck))]),(.int .i64 (D.iC aK))]∧Pu w w':=by
 refine lv (some (Addr.mk L.g 0 none)) _ ?_
 have hp:=Ch.refl (fun _=>False) w
 have Gk:=h.lt
 refine mkd fun gv wv xh=>?_
 have zv:=xh.lo hp
 have wB:=xh.blk
 have h:=h.pu xh.pu
 refine Calls.mono (wx h _) ?_
 rintro e wC ⟨_,rfl,rfl,xJ⟩
 refine⟨_,rfl,?_⟩
 refine py (fun c1=>?_) (fun c1=>?_)
 ·have wB:=Pu.blk xJ wB
  refine aR wB (by simp) fun wF xr=>?_
  have wB:Blk wF gv #[(.int .i64 0),(.int .i64 0),(.int .i64 0),(.int .i64 0),(.bool false)] _:=xr.blk
  refine⟨_,_,_,_,_,⟨wB.at rfl,wB.at rfl,wB.at rfl,wB.at rfl,wB.at rfl⟩,?_⟩
  have hp:=Ch.call (Ch.pu (Ch.made hp xh) xJ) xr.ch (by exact fun k e=>.inr (e▸zv))
  exact⟨by(simp [DB.entry,DB.iC,c1];done),hp⟩
 ·have h:=h.pu xJ
  refine Calls.mono (dAt h _ ‹_›) ?_
  rintro e wF ⟨_,rfl,rfl,xI⟩
  have wB:=Pu.blk xI (Pu.blk xJ wB)
  refine⟨_,_,_,_,_,rfl,aR wB (by simp) fun wH xu=>?_⟩
  have wB:Blk wH gv #[(.int .i64 ((D.at_ aK).typ)),(.int .i64 ((D.at_ aK).owner)),(.int .i64 ((D.at_ aK).refs)),(.int .i64 ((D.at_ aK).state)),(.bool ((D.at_ aK).ck))] _:=xu.blk
  refine⟨_,_,_,_,_,⟨wB.at rfl,wB.at rfl,wB.at rfl,wB.at rfl,wB.at rfl⟩,?_⟩
  have hp:=Ch.call (Ch.pu (Ch.pu (Ch.made hp xh) xJ) xI) xu.ch (by exact fun k e=>.inr (e▸zv))
  exact⟨by(simp [DB.entry,DB.iC,c1];done),hp⟩
end
end Go.Proofs.YtkbcgjfejboigaaDoor
namespace Go.Proofs.YtkbcgjfejboigaaDoor
open Go Go.RowKit V
open Go.IntKind (i64 u32 u64)
open Go.Proofs (Tryd.prog)
section
set_option maxRecDepth 100000
def pc(m:Option Addr)(R:ax)(w:World):Prop:=
 split m.isNone (
  R (.pointer none) w) (
  Calls Tryd.prog 48 #[(.pointer m)] w fun e wv=>
  ∃x7:Int,e= .returned (.int .i64 x7)∧
  ∃I:Nat→Int→World→Prop,(∃m1,I m1 0 wv)∧∀(m1:Nat)(Bg:Nat→Value)(x8:Int),∀wC,I m1 x8 wC→
  split (decide ((x8:Int)<x7)) (
   Calls Tryd.prog 50 #[(.int .i64 x8)] wC fun e wF=>
   ∃za:Bool,∃yF:Int,e= .returned (.agg #[(.bool za),(.int .i64 yF)])∧
   Calls Tryd.prog 49 #[(.pointer m),(.agg #[(.bool za),(.int .i64 yF)])] wF fun e wH=>
   ∃xL:Int,e= .returned (.int .i64 xL)∧
   ∃m2,m2<m1∧I m2 (i64.wrap (x8+1)) wH) (
   Calls Tryd.prog 48 #[(.pointer m)] wC fun e wF=>
   ∃yL:Int,e= .returned (.int .i64 yL)∧
   ∃Dl:Option Addr,∃Dj:Nat,∃Dk:Nat,∃wH,(Instr.makeSlice 47 (.int .i64 (i64.wrap (2*yL))) (.int .i64 (i64.wrap (2*yL))):Sem Value).run Tryd.prog wF= .ok (.slice Dl Dj Dk) wH∧
   ∀(wD:Nat)(wJ:World),wD=wH.heap.size→wJ=wH.alloc (.cells #[(.pointer m),(.int .i64 0),(.slice Dl Dj Dk)] 103)→
   R (.pointer (some (Addr.mk wD 0 none))) wJ))
def tO:Ann:=(.node none .leaf (.node none .leaf (.node none (.node none .leaf (.node none (.node (some ⟨[(8,.one (.int .i64))],[3,8,9,10,11,12,13,14,15]⟩) .leaf .leaf) .leaf)) .leaf)))
theorem DNew_eq(m:Option Addr)(R:ax)(w:World):pc m R w=vcF Tryd.prog aB [] Tryd.f32 tO [(.pointer m)] R none w:=by kernel_rfl
theorem om(m:Option Addr) {R:ax} {w:World}(h:pc m R w):Calls Tryd.prog 32 #[(.pointer m)] w fun e w'=>∃v,e= .returned v∧R v w':=
 aq Tryd.func32 av ar ((DNew_eq m R w).mp h)
end
end Go.Proofs.YtkbcgjfejboigaaDoor
namespace Go.Proofs.YtkbcgjfejboigaaDoor
open Go Go.RowKit V
open Go.IntKind (i64 u32 u64)
section
set_option maxRecDepth 10000
set_option maxHeartbeats 1000000
theorem wu {L:cS} {m:Mem} {w:World}(h:bF w L m)(hS:1≤m.S):
 Calls Tryd.prog 32 #[(.pointer (some (Addr.mk L.g 0 none)))] w fun e w'=>∃v,e= .returned v∧∃g:Nat,∃a:Nat,v= .pointer (some (Addr.mk g 0 none))∧bF w' L (m.cD m.S)∧DBP w' ⟨g,a,L⟩ (DB.new m)∧(w.heap.size≤g∧w.heap.size≤a)∧Ch L.X w w':=by
 refine om (some (Addr.mk L.g 0 none)) ?_
 have hm:=h.most
 have hp:=Ch.refl L.X w
 have Gk:=h.lt
 refine cv ?_
 refine Calls.mono (oJ h) ?_
 rintro e w9 ⟨_,rfl,rfl,e9⟩
 obtain rfl:=e9.symm
 refine⟨_,rfl,?_⟩
 refine⟨fun mz x8 W=>mz=(m.S - x8).toNat∧(0≤x8∧x8≤m.S)∧Ch L.X w W∧bF W L (m.cD x8.toNat),⟨_,rfl,(by omega),hp,by exact h⟩,?_⟩
 rintro _ _ x8 wC ⟨rfl,h0,hp,h⟩
 refine aH (fun c1=>?_) (fun c1=>?_)
 ·refine Calls.mono (tw _) ?_
  rintro e wF ⟨_,rfl,rfl,xI⟩
  refine⟨_,_,rfl,?_⟩
  have h:=h.pu xI
  refine Calls.mono (vH h _ _) ?_
  rintro e wH ⟨_,rfl,rfl,h,wX⟩
  refine⟨_,rfl,?_⟩
  have hp:=Ch.call (Ch.pu hp xI) wX (by exact fun k hk=>.inl hk)
  exact⟨_,by rw [IntKind.wrap_i64];omega,rfl,by rw [IntKind.wrap_i64];omega,hp,by rw [Mem.nb _ (by omega)];exact h⟩
 ·have FJ:=h.lt
  have hz1:=hp
  have hx:x8.toNat=m.S:=by omega
  have hm2:=h.most.1
  have MU:Int.toNat (i64.wrap (2*(((m.cD x8.toNat).S:Nat):Int)))=2*m.S:=by rw [Mem.eX,aM (by omega)];omega
  refine Calls.mono (oJ h) ?_
  rintro e w9 ⟨_,rfl,rfl,e9⟩
  obtain rfl:=e9.symm
  refine⟨_,rfl,?_⟩
  refine l0 qS ((⟨0⟩:U32)) (by rfl) (n:=(i64.wrap (2*((m.cD x8.toNat).S)))) (by rw [aM (by omega)];omega) (by rw [aM (by omega)];omega) (by rw [aM (by omega)];omega) fun FY wH yA BR=>?_
  have lo_g_wv3:=yA.lo hp
  refine mkd fun wD wJ wM=>?_
  have wA:=wM.blk
  have h:=(h.pu yA.pu).pu wM.pu
  have hp:=Ch.made (Ch.made hp yA) wM
  exact⟨wD,FY,rfl,by rw [show(m.cD m.S)=(m.cD x8.toNat)from by rw [hx]];exact h,⟨⟨_,Blk.cast wA (by rw [MU];show _=_;simp only [DB.n2,DB.new,Mem.eX])⟩,⟨_,_,Made.old wM yA.blk,by rw [Array.size_replicate,MU];show _=2*(m.cD m.S).S;rw [Mem.eX],fun p hp=>by have GU:p<m.S:=(by rwa [DB.tX]at hp);exact⟨oD (by rw [MU];omega),oD (by rw [MU];omega)⟩⟩,by show bF _ _ (m.cD m.S);rw [← hx];exact h,DB.kH m hS,by have:=wM.num;have:=yA.lt;simp only [];omega,fun hh=>absurd (show wD<wC.heap.size from FJ _ hh) (by have:=wM.num;have:=yA.kept.size;omega),fun hh=>absurd (show FY<wC.heap.size from FJ _ hh) (by have:=yA.num;omega)⟩,by have h1:=wM.num;have h2:=yA.num;have h3:=yA.kept.size;have h4:=hz1.size;omega,hp⟩
end
end Go.Proofs.YtkbcgjfejboigaaDoor
namespace Go.Proofs.YtkbcgjfejboigaaDoor
open Go Go.RowKit V
open Go.IntKind (i64 u32 u64)
open Enc (enc)
section
set_option maxRecDepth 10000
def tg(K:List Int)(s:S8):S8:=ru K (s8L s) [⟨2002874980⟩,⟨1701716075⟩,⟨1702436913⟩]
theorem wy {w:World} {K:List Int}(hk:cR w 1 K) {s:S8}:
 Calls Tryd.prog 31 #[.agg (s8C s)] w fun e w'=>∃v,e= .returned v∧v= .agg (s8C (tg K s))∧Pu w w':=by
 refine ou _ _ _ _ _ _ _ _ ?_
 refine mkd fun gk w1 m1=>mkd fun gr w2 m2=>?_
 rintro A7 hA7 N7 hN7 C7 hC7
 refine mkd fun gm w3 m3=>?_
 have B8:Pu w1 w3:=m2.pu.trans m3.pu
 have rk:Rd w3 (fun j=>j=gk) A7 N7 C7 (s8L s):=by subst hA7 hN7 hC7;exact rdB (l:=s8L s) (Pu.blk B8 m1.blk) rfl rfl (Nat.le_refl _)
 have rm:Rd w3 (fun j=>j=gm) (some (Addr.mk gm 0 none)) 3 3 [U32.mk 2002874980,⟨1701716075⟩,⟨1702436913⟩]:=rdB (l:= [U32.mk 2002874980,⟨1701716075⟩,⟨1702436913⟩]) m3.blk rfl rfl (Nat.le_refl _)
 obtain rfl:N7=8:=hN7
 refine(vK rk rm (hk.pu (m1.pu.trans B8)) (by omega) (by omega) (fun x hx=>?_)).mono ?_
 ·simp only [List.mem_cons,List.not_mem_nil,or_false]at hx
  rcases hx with rfl | rfl | rfl<;>decide
 rintro e w6 ⟨_,rfl,rfl,p6⟩
 have eq:ru K (s8L s) [U32.mk 2002874980,⟨1701716075⟩,⟨1702436913⟩]=tg K s:=rfl
 rw [eq]
 generalize tg K s=R
 have hgr:w.heap.size≤gr:=by rw [m2.num];exact m1.pu.size
 have q26:Pu w2 w6:=m3.pu.trans p6
 refine⟨_,_,_,_,_,_,_,_,rfl,aJ (Pu.blk q26 m2.blk) rfl fun w7 s7=>?_⟩
 have b7:=s7.blk
 exact⟨_,_,_,_,_,_,_,_,⟨b7.at rfl,b7.at rfl,b7.at rfl,b7.at rfl,b7.at rfl,b7.at rfl,b7.at rfl,b7.at rfl⟩,rfl,((m1.pu.trans m2.pu).trans q26).stored s7 (.inr hgr)⟩
@[reducible] def j3(a b:Int)(s:S8)(A:Option Addr)(n c:Nat):Array Value:= #[.int .i64 a,.int .i64 b,.int .u32 s.a,.int .u32 s.b,.int .u32 s.c,.int .u32 s.d,.int .u32 s.e,.int .u32 s.f,.int .u32 s.g,.int .u32 s.h,.slice A n c]
@[reducible] def moC(a b:Int)(s:S8)(A:Option Addr)(n c:Nat)(k:S8)(g:Nat)(r:Rg):Array Value:= #[.int .i64 a,.int .i64 b,.int .u32 s.a,.int .u32 s.b,.int .u32 s.c,.int .u32 s.d,.int .u32 s.e,.int .u32 s.f,.int .u32 s.g,.int .u32 s.h,.slice A n c,
 .int .u32 k.a,.int .u32 k.b,.int .u32 k.c,.int .u32 k.d,.int .u32 k.e,.int .u32 k.f,.int .u32 k.g,.int .u32 k.h,.pointer (some (Addr.mk g 0 none)),.int .u32 r.r0,.int .u32 r.r1,.int .u32 r.r2,.int .u32 r.r3,.int .u32 r.r4,.int .u32 r.r5,.int .u32 r.r6,.int .u32 r.r7,.int .u32 r.r8,.int .u32 r.r9,.int .u32 r.r10,.int .u32 r.r11,.int .u32 r.r12,.int .u32 r.r13,.int .u32 r.r14]
def Rg.zero:Rg:=⟨0,0,0,0,0,0,0,0,0,0,0,0,0,0,0⟩
structure fU(w:World)(g:Nat)(r:Rg)(L:dL)(D:DB):Prop where
 hd:∃a b s A n c k T,Blk w g (moC a b s A n c k L.g r) T
 db:DBP w L D
 dis:¬L.X g
section
variable {w w':World} {g:Nat} {r:Rg} {L:dL} {D:DB} {X:Nat→Prop}
theorem fU.ch(h:fU w g r L D)(q:Ch X w w')(hg:¬X g)(hb:∀k,L.X k→¬X k):fU w' g r L D:=by
 obtain⟨a,b,s,A,n,c,k,T,hd⟩:=h.hd
 exact⟨⟨a,b,s,A,n,c,k,T,q.blk hd hg⟩,h.db.ch q hb,h.dis⟩
theorem fU.pu(h:fU w g r L D)(q:Pu w w'):fU w' g r L D:=h.ch q (by simp) (by simp)
theorem wk(h:fU w g r L D):Calls Tryd.prog 36 #[.pointer (some (Addr.mk g 0 none))] w fun e w'=>∃v,e= .returned v∧v= .pointer (some (Addr.mk L.g 0 none))∧w'=w:=by
 obtain⟨a,b,s,A,n,c,k,T,hd⟩:=h.hd
 refine nZ _ ?_
 exact aw _ rfl ⟨_,hd.at rfl,rfl,rfl⟩
theorem lZ(h:fU w g r L D):Calls Tryd.prog 38 #[.pointer (some (Addr.mk g 0 none))] w fun e w'=>∃v,e= .returned v∧v= .agg #[.int .u32 r.r0,.int .u32 r.r1,.int .u32 r.r2,.int .u32 r.r3,.int .u32 r.r4,.int .u32 r.r5,.int .u32 r.r6,.int .u32 r.r7,.int .u32 r.r8,.int .u32 r.r9,.int .u32 r.r10,.int .u32 r.r11,.int .u32 r.r12,.int .u32 r.r13,.int .u32 r.r14]∧Pu w w':=by
 obtain⟨a,b,s,A,n,c,k,T,hd⟩:=h.hd
 refine fu _ ?_
 refine mkd fun gv w1 m=>?_
 have b0:=m.old hd
 refine aw _ rfl ?_
 refine⟨_,_,_,_,_,_,_,_,_,_,_,_,_,_,_,⟨b0.at2 rfl,b0.at2 rfl,b0.at2 rfl,b0.at2 rfl,b0.at2 rfl,b0.at2 rfl,b0.at2 rfl,b0.at2 rfl,b0.at2 rfl,b0.at2 rfl,b0.at2 rfl,b0.at2 rfl,b0.at2 rfl,b0.at2 rfl,b0.at2 rfl⟩,?_⟩
 refine aJ m.blk rfl fun w2 s2=>?_
 have b2:=s2.blk
 exact⟨_,_,_,_,_,_,_,_,_,_,_,_,_,_,_,⟨b2.at rfl,b2.at rfl,b2.at rfl,b2.at rfl,b2.at rfl,b2.at rfl,b2.at rfl,b2.at rfl,b2.at rfl,b2.at rfl,b2.at rfl,b2.at rfl,b2.at rfl,b2.at rfl,b2.at rfl⟩,rfl,(show Pu w w1 from m.pu).stored s2 (.inr (by have:=m.num;omega))⟩
def gN(e:Int):Int:=if e=70 then 4 else e
theorem td(h:fU w g r L D)(p o v:Int)(hv:0≤v∧v<4294967296):
 Calls Tryd.prog 23 #[.pointer (some (Addr.mk g 0 none)),.int .i64 p,.int .i64 o,.int .u32 v] w fun e w'=>∃u,e= .returned u∧u= .int .i64 (gN (D.mem.err false p o))∧fU w' g r L (D.bJ (D.mem.write false p o v))∧Ch L.M.X w w':=by
 obtain⟨a,b,s,A,n,c,k,T,hd⟩:=h.hd
 refine jx _ _ _ _ ?_
 refine aw _ rfl ⟨_,hd.at rfl,(fk h.db).mono ?_⟩
 rintro e _ ⟨_,rfl,rfl,rfl⟩
 refine⟨_,rfl,(tt h.db false p o v hv).mono ?_⟩
 rintro e w1 ⟨_,rfl,rfl,h1,q1⟩
 have hng:¬L.M.X g:=fun hx=>h.dis (L.inM g hx)
 have hm:fU w1 g r L (D.bJ (D.mem.write false p o v)):=⟨⟨a,b,s,A,n,c,k,T,q1.blk hd hng⟩,h1,h.dis⟩
 refine⟨_,rfl,?_⟩
 refine Calls.mono (P:=Tryd.prog) (iZ _ (R:=fun u w'=>u= .int .i64 (gN (D.mem.err false p o))∧w'=w1) ?_) ?_
 ·exact bq (fun h=>⟨by rw [gN,if_pos h],rfl⟩) (fun h=>⟨by rw [gN,if_neg h],rfl⟩)
 rintro e w2 ⟨_,rfl,rfl,rfl⟩
 exact⟨_,rfl,rfl,hm,q1⟩
theorem pP {L:cS} {m:Mem}(h:bF w L m):Calls Tryd.prog 39 #[ptr L.g] w fun e w'=>∃v,e= .returned v∧v= .int .i64 m.I∧w'=w:=by
 obtain⟨T,hd⟩:=h.hd
 refine gL _ ?_
 exact aw _ rfl ⟨_,_,_,hd.at rfl,rfl,rfl⟩
theorem vE(a b:Int)(s:S8)(A:Option Addr)(c:Nat):
 Calls Tryd.prog 28 #[.agg (j3 a b s A 0 c)] w fun e w'=>∃v,e= .returned v∧v= .bool (decide (1≤a∧a≤64∧1≤b∧b≤64))∧Pu w w':=by
 refine mM _ _ _ _ _ _ _ _ _ _ _ _ _ ?_
 refine mkd fun gv w1 m=>?_
 have b0:=m.blk
 refine⟨_,_,_,b0.at rfl,fun _ i w2=>i=0∧w2=w1,⟨0,rfl,rfl⟩,?_⟩
 rintro m2 _ _ _ ⟨rfl,rfl⟩
 refine aH (fun h=>by omega) (fun _=>?_)
 refine⟨fun x w2=>x=decide (1≤a∧a≤64∧1≤b∧b≤64)∧Pu w w2,?_,fun _ x w2 hx=>⟨by rw [hx.1],hx.2⟩⟩
 refine⟨_,b0.at rfl,aH (fun h1=>?_) (fun h1=>⟨(decide_eq_false (by omega)).symm,m.pu⟩)⟩
 refine⟨_,b0.at rfl,aH (fun h2=>?_) (fun h2=>⟨(decide_eq_false (by omega)).symm,m.pu⟩)⟩
 refine⟨_,b0.at rfl,aH (fun h3=>?_) (fun h3=>⟨(decide_eq_false (by omega)).symm,m.pu⟩)⟩
 refine⟨_,b0.at rfl,aH (fun h4=>?_) (fun h4=>⟨(decide_eq_false (by omega)).symm,m.pu⟩)⟩
 exact⟨_,_,_,b0.at rfl,by rw [decide_eq_true (by omega),decide_eq_true (by omega)],m.pu⟩
theorem s1L:S1 Tryd.prog 24 47 (.slice none 0 0) 24:=S1.of (by kernel_rfl) (by kernel_rfl) rfl
theorem rp(a b:Int)(s:S8)(A:Option Addr)(c:Nat):
 Calls Tryd.prog 30 #[.agg (j3 a b s A 0 c)] w fun e w'=>∃v,e= .returned v∧∃A' c',v= .agg (j3 a b s A' 0 c')∧Pu w w':=by
 refine ja _ _ _ _ _ _ _ _ _ _ _ _ _ ?_
 refine mkd fun gv w1 m=>mkd fun wD w2 m1=>?_
 have b0:=m1.old m.blk
 have ne:=m1.ne m.blk
 have s0:=m.num
 have s1:=m1.num
 have z0:=m.size
 have z1:=m1.size
 refine⟨_,_,_,b0.at rfl,gR s1L (by omega) (by omega) (by omega) fun g w3 m2=>?_⟩
 have b1:=m2.old b0
 have c1:=m2.old m1.blk
 refine⟨_,_,_,b1.at rfl,fun _ i w4=>i=0∧w4=w3,⟨0,rfl,rfl⟩,?_⟩
 rintro mz _ _ w3 ⟨rfl,rfl⟩
 refine aH (fun h=>by omega) (fun _=>?_)
 have q3:Pu w w3:=((show Pu w w1 from m.pu).made m1).made m2
 refine aI b1 (by simp) fun w4 s4=>?_
 have b4:Blk w4 gv (j3 a b s (some (Addr.mk g 0 none)) 0 0) _:=s4.blk
 refine⟨_,_,_,_,_,_,_,_,_,_,_,_,_,⟨b4.at rfl,b4.at rfl,b4.at rfl,b4.at rfl,b4.at rfl,b4.at rfl,b4.at rfl,b4.at rfl,b4.at rfl,b4.at rfl,b4.at rfl⟩,?_⟩
 refine aJ (s4.old c1 (fun e=>ne e.symm)) rfl fun w5 s5=>?_
 have b5:Blk w5 wD (j3 a b s (some (Addr.mk g 0 none)) 0 0) _:=s5.blk
 refine⟨_,_,_,_,_,_,_,_,_,_,_,_,_,⟨b5.at rfl,b5.at rfl,b5.at rfl,b5.at rfl,b5.at rfl,b5.at rfl,b5.at rfl,b5.at rfl,b5.at rfl,b5.at rfl,b5.at rfl⟩,?_⟩
 exact⟨_,_,rfl,(q3.stored s4 (.inr (by omega))).stored s5 (.inr (by omega))⟩
def lY(S I:Nat):DB:=DB.new (Mem.fresh S I)
theorem vD {K:List Int}(hk:cR w 1 K)(S I:Nat)(hS:1≤S∧S≤64)(hI:1≤I∧I≤64)(s:S8)(A:Option Addr)(c:Nat):
 Calls Tryd.prog 21 #[.agg (j3 S I s A 0 c)] w fun e w'=>∃v,e= .returned v∧∃g L,v= .tuple #[.pointer (some (Addr.mk g 0 none)),.int .i64 0]∧fU w' g Rg.zero L (lY S I)∧(∀k,L.X k→w.heap.size≤k)∧Pu w w':=by
 refine mK _ _ _ _ _ _ _ _ _ _ _ _ _ ?_
 refine mkd fun gv w1 m=>?_
 have b0:=m.blk
 refine⟨_,_,_,_,_,_,_,_,_,_,_,_,_,⟨b0.at rfl,b0.at rfl,b0.at rfl,b0.at rfl,b0.at rfl,b0.at rfl,b0.at rfl,b0.at rfl,b0.at rfl,b0.at rfl,b0.at rfl⟩,?_⟩
 refine(vE _ _ s A c).mono ?_
 rintro e w2 ⟨_,rfl,rfl,q2⟩
 refine⟨_,rfl,?_⟩
 rw [decide_eq_true (p:=1≤(S:Int)∧(S:Int)≤64∧1≤(I:Int)∧(I:Int)≤64) (by omega)]
 refine cv ?_
 have b2:=q2.blk b0
 refine⟨_,b2.at rfl,_,b2.at rfl,(wm S I (by omega) (by omega)).mono ?_⟩
 rintro e w3 ⟨_,rfl,L,rfl,h3,GY,q3⟩
 have p3:Pu w w3:=(m.pu.trans q2).trans q3
 have b3:=(q3.blk b2).drew
 have hw:w3.drew.heap.size=w3.heap.size:=rfl
 have lg:gv<w3.heap.size:=b3.lt
 have BD:∀i:Nat,((Addr.mk gv 0 none).add i).block<w3.drew.heap.size:=fun i=>by rw [block_add];exact lg
 refine⟨_,_,rfl,fun _ k=>k<w3.drew.heap.size,lg,?_⟩
 refine⟨_,_,_,_,_,_,_,_,_,_,_,_,_,⟨b3.at rfl,b3.at rfl,b3.at rfl,b3.at rfl,b3.at rfl,b3.at rfl,b3.at rfl,b3.at rfl,b3.at rfl,b3.at rfl,b3.at rfl⟩,BD _,?_⟩
 refine⟨_,_,_,_,_,_,_,_,⟨b3.at2 rfl,b3.at2 rfl,b3.at2 rfl,b3.at2 rfl,b3.at2 rfl,b3.at2 rfl,b3.at2 rfl,b3.at2 rfl⟩,?_⟩
 refine(rp _ _ s A c).mono ?_
 rintro e w4 ⟨_,rfl,A4,c4,rfl,q4⟩
 refine⟨_,_,_,_,_,_,_,_,_,_,_,_,_,rfl,aT q4 (fun _ h=>h.elim) (Nat.le_refl _),fun _ k=>k<w3.drew.heap.size,fun _ _ h=>h,?_⟩
 have p4:Pu w w4:=(p3.trans (Pu.aG w3)).trans q4
 have z4:=q4.size
 refine(wy (hk.pu p4) (s:=s)).mono ?_
 rintro e w5 ⟨_,rfl,rfl,q5⟩
 generalize tg K s=k5
 have z5:=q5.size
 refine⟨_,_,_,_,_,_,_,_,rfl,aT q5 (fun _ h=>h.elim) z4,fun _ k=>k<w3.drew.heap.size,fun _ _ h=>h,?_⟩
 have Nx:Pu w3 w5:=((Pu.aG w3).trans q4).trans q5
 refine(wu (h3.pu Nx) (by show 1≤((S:Int).toNat);omega)).mono ?_
 rintro e w6 ⟨_,rfl,gd,ad,rfl,hm6,hd6,⟨EN,Mq⟩,q6⟩
 have z6:=q6.size
 refine⟨_,rfl,fun _ k=>k<w3.drew.heap.size,fun _ _ h=>h,?_⟩
 refine mkd fun g w7 m7=>?_
 have z3:=p3.size
 refine⟨aT m7.pu (fun _ h=>h.elim) (by have:=Nx.size;omega),fun _ k=>k<w3.drew.heap.size,fun _ _ h=>h,?_⟩
 have xS:=Nx.size
 have n7:=m7.num
 have p6:Pu w w6:=((p3.trans (Pu.aG w3)).trans (q4.trans q5)).call q6 fun k hk=>.inr (by have:=GY k hk;have:=(m.pu.trans q2).size;omega)
 refine⟨g,⟨gd,ad,L⟩,rfl,⟨⟨_,_,s,_,_,_,k5,_,m7.blk⟩,hd6.pu m7.pu,fun hx=>?_⟩,fun k hk=>?_,p6.made m7⟩
 ·have:=hd6.lt _ hx
  omega
 ·have EN:w5.heap.size≤gd:=EN
  have Mq:w5.heap.size≤ad:=Mq
  have h12:=(m.pu.trans q2).size
  rcases hk with e | e | hk
  ·have e:k=gd:=e
   omega
  ·have e:k=ad:=e
   omega
  ·have:=GY k hk;omega
end
end
end Go.Proofs.YtkbcgjfejboigaaDoor
namespace Go.Proofs.YtkbcgjfejboigaaDoor.V
open Go Go.RowKit
open Go.IntKind (i64 u32 u64)
section
variable {w w0 w1 w2 A B:World} {X Y Z:Nat→Prop}
theorem Ch.tc(h:Kept X w A):Ch (fun k=>¬X k) w A:=⟨h.mono fun _ hk=>Classical.not_not.1 hk.2⟩
theorem Pu.join(p:Pu w w0)(d:Kept X w0 A)(j:Ch X w A):Pu w A:=
 ⟨⟨j.kept.os,j.kept.tape,j.kept.output,j.kept.size,fun k hk=>by
  by_cases hx:X k
  ·rw [d.block k hx];exact p.kept.block k hk
  ·exact j.kept.block k ⟨hk.1,hx⟩⟩⟩
theorem Pu.put(w:World)(l:Nat)(o:Obj)(X:Nat→Prop)(hl:X l):Ch X w (w.putObj l o):=⟨Kept.putObj w l o fun h=>h.2 hl⟩
theorem Ch.obj {o:Obj} {g:Nat}(q:Ch X w A)(h:w.heap[g]? =some o)(hg:¬X g):A.heap[g]? =some o:=
 (q.kept.block g ⟨(Array.getElem?_eq_some_iff.1 h).1,hg⟩).trans h
theorem pQ {P:Program} {gf:Nat} {cap:Array Value} {xs:Ys} {w:World}(hX:∀k,X k→k<w.heap.size)
 (h:∀(l:Nat)(J Jx:Nat→World→Prop)(W:World),
  (∀i A B,J i A→Ch X A B→J i B)→(∀i A B,Jx i A→Ch X A B→Jx i B)→J 0 W→Kept X w W→
  (∀i x A,xs.is i x A→J i A→Kept X w A→YieldAt Fence.wide 0 P l ⟨x⟩ A fun e B=>(e= .returned (.bool true)∧J (i+1) B∧Kept X A B)∨(e= .returned (.bool false)∧Jx (i+1) B∧Kept X A B))→
  Calls P gf (#[.func (.yield l) #[] #[]]++cap) W fun e B=>(∃v,e= .returned v)∧((J xs.n B∧Kept X w B)∨∃i,Jx i B∧Kept X w B)):
 Iter P gf cap xs X (fun _ A=>Kept X w A):=
 ⟨fun _ _ _ a k=>a.trans k,fun l J Jx W sJ sJx j0 d0 hy=>h l J Jx W (fun i A B a q=>sJ i A B a q.kept) (fun i A B a q=>sJx i A B a q.kept) j0 d0 hy⟩
theorem sK {l:Nat} {J:Nat→World→Prop}(h:∀i A B,J i A→Ch (fun k=>X k∨k=l) A B→J i B):mu X l J:=
 fun i A B a k=>h i A B a ⟨k.mono fun _ hk=>⟨hk.1,fun hx=>hk.2 (.inl hx),fun e=>hk.2 (.inr e)⟩⟩
theorem cO {P:Program} {l:Nat} {args:Array Value} {W:World} {R R':Ending→World→Prop}(h:YieldAt Fence.wide 0 P l args W R)(hR:∀e B,R e B→R' e B):YieldAt Fence.wide 0 P l args W R':=by
 obtain⟨fn,tmps,assign,body,h1,h2⟩:=h
 exact⟨fn,tmps,assign,body,h1,h2.mono hR⟩
end
end Go.Proofs.YtkbcgjfejboigaaDoor.V
