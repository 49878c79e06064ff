/-
  Verification conditions of functions of the translation, printed by a program (vcgen.py); each is shown to be what 'vcF' computes.
-/
import Derived.Test.YtlgffdmmlnoiaaaVd
import Derived.Test.YtlgffdmmlnoiaaaProg
import Derived.KernelRfl
set_option linter.unusedVariables false
set_option maxRecDepth 100000
namespace Go.Proofs.Ytlgffdmmlnoiaaa
open Go Go.RowKit V
open Go.Proofs (Try.prog)

def callees : List Nat := [2, 3, 4, 5, 6, 7, 8, 9, 10, 11, 12, 13, 14, 15, 16, 17, 18, 19, 20, 21, 22]
theorem callees_ok : callsOk Try.prog callees = true := by kernel_rfl
theorem follows_mixed : Try.prog.follows .mixedOrders = true := by kernel_rfl

/- warden/wardenlaw27.words (function 4); cut rrlrbLrlbrbLll (region): x24:bool; loop rrlrbLrlbrb: out:slice, k:int; loop rrlrb: out:slice, i:int -/
def Words_wp (lA : Option Addr) (lN : Nat) (lC : Nat) (R : Post) (w : World) : Prop :=
  ∀ i : Int, i = 0 →
  ∃ I : Nat → Option Addr → Nat → Nat → Int → World → Prop, (∃ m, I m none 0 0 i w) ∧ ∀ (m : Nat) (_gv : Nat → Value) (outA : Option Addr) (outN : Nat) (outC : Nat) (i1 : Int), ∀ wv, I m outA outN outC i1 wv →
  split (decide ((i1 : Int) < ((lN : Nat) : Int))) (
    ∀ k : Int, k = 0 →
    ∃ I1 : Nat → Option Addr → Nat → Nat → Int → World → Prop, (∃ m2, I1 m2 outA outN outC k wv) ∧ ∀ (m2 : Nat) (_gv1 : Nat → Value) (outA1 : Option Addr) (outN1 : Nat) (outC1 : Nat) (k1 : Int), ∀ wv1, I1 m2 outA1 outN1 outC1 k1 wv1 →
    ∃ J : Bool → World → Prop, (
      (0 ≤ (i1 : Int) ∧ (i1 : Int) < ((lN : Nat) : Int)) ∧
      onSome lA fun p15 =>
      ∃ x17 : Int, wv1.cell? ((p15.add (Int.toNat i1 * 2)).add 1) = some (.int .i64 x17) ∧
      Calls Try.prog 13 #[(.int .i64 x17), (.int .i64 0), (.int .i64 39999)] wv1 fun e wv2 =>
      ∃ x18 : Int, e = .returned (.int .i64 x18) ∧
      split (decide ((k1 : Int) < x18)) (
        J (decide ((((outN1 : Nat) : Int) : Int) < 262147)) wv2) (
        J false wv2)) ∧ ∀ (_gv2 : Nat → Value) (x24 : Bool), ∀ wv2, J x24 wv2 →
    split x24 (
      (0 ≤ (i1 : Int) ∧ (i1 : Int) < ((lN : Nat) : Int)) ∧
      onSome lA fun p30 =>
      ∃ x32 : Int, wv2.cell? ((p30.add (Int.toNat i1 * 2)).add 0) = some (.int .u32 x32) ∧
      ∃ x34A : Option Addr, ∃ x34N : Nat, ∃ x34C : Nat, ∃ wv3, (Builtin.append_ #[23, 23] 23 #[(.slice outA1 outN1 outC1), (.slice (some ⟨wv2.heap.size, 0, none⟩) 1 1)] : Sem Value).run Try.prog (wv2.alloc (.cells #[(.int .u32 x32)] 37)) = .ok (.slice x34A x34N x34C) wv3 ∧
      ∀ k2 : Int, k2 = (IntKind.i64.wrap (k1 + 1)) →
      ∃ m3, m3 < m2 ∧ I1 m3 x34A x34N x34C k2 wv3) (
      ∀ i2 : Int, i2 = (IntKind.i64.wrap (i1 + 1)) →
      ∃ m1, m1 < m ∧ I m1 outA1 outN1 outC1 i2 wv2)) (
    R (.slice outA outN outC) wv)

def Words_an : Ann := (.node none .leaf (.node none .leaf (.node none (.node none .leaf (.node none (.node (some ⟨[(3, .slice), (4, .int .i64)], [3, 4, 5, 6, 7, 8, 9, 10, 11, 12, 13, 14, 15, 16, 17, 18, 19, 20, 21, 22, 23, 24, 25, 26, 27, 28, 29, 30, 31, 32, 33, 34]⟩) (.node none .leaf (.node none (.node none (.node none .leaf (.node none (.node (some ⟨[(3, .slice), (5, .int .i64)], [3, 5, 12, 13, 14, 15, 16, 17, 18, 19, 20, 21, 22, 23, 24, 25, 26, 27, 28, 29, 30, 31, 32, 33, 34]⟩) (.node none (.node none (.node (some ⟨[(24, .bool)], [12, 13, 14, 15, 16, 17, 18, 19, 20, 21, 22, 23, 24]⟩) .leaf .leaf) .leaf) .leaf) .leaf) .leaf)) .leaf) .leaf)) .leaf) .leaf)) .leaf)))

theorem Words_eq (lA : Option Addr) (lN : Nat) (lC : Nat) (R : Post) (w : World) : Words_wp lA lN lC R w = vcF Try.prog callees [3, 4, 5] Try.f4 Words_an [(.slice lA lN lC)] R none w := by kernel_rfl

theorem Words_calls (lA : Option Addr) (lN : Nat) (lC : Nat) {R : Post} {w : World} (h : Words_wp lA lN lC R w) : Calls Try.prog 4 #[(.slice lA lN lC)] w fun e w' => ∃ v, e = .returned v ∧ R v w' :=
  returns_of_vc Try.func4 callees_ok follows_mixed ((Words_eq lA lN lC R w).mp h)

/- warden/wardenlaw27.numbers (function 5) -/
def Numbers_wp (R : Post) (w : World) : Prop :=
  R (.bool true) w

def Numbers_an : Ann := .leaf

theorem Numbers_eq (R : Post) (w : World) : Numbers_wp  R w = vcF Try.prog callees [] Try.f5 Numbers_an [] R none w := by kernel_rfl

theorem Numbers_calls {R : Post} {w : World} (h : Numbers_wp  R w) : Calls Try.prog 5 #[] w fun e w' => ∃ v, e = .returned v ∧ R v w' :=
  returns_of_vc Try.func5 callees_ok follows_mixed ((Numbers_eq  R w).mp h)

/- warden/wardenlaw27.known (function 6); cut rrrl (region): x0:bool -/
def Known_wp (R : Post) (w : World) : Prop :=
  Calls Try.prog 7 #[(.slice (some ⟨w.heap.size, 0, none⟩) 4 4)] (w.alloc (.cells #[(.int .u32 1), (.int .u32 2), (.int .u32 2), (.int .u32 3)] 37)) fun e wv =>
  ∃ x5A : Option Addr, ∃ x5N : Nat, ∃ x5C : Nat, e = .returned (.slice x5A x5N x5C) ∧
  Calls Try.prog 9 #[(.slice (some ⟨wv.heap.size, 0, none⟩) 10 10)] (wv.alloc (.cells #[(.int .u8 0), (.int .u8 0), (.int .u8 0), (.int .u8 3), (.int .u8 128), (.int .u8 3), (.int .u8 0), (.int .u8 0), (.int .u8 0), (.int .u8 7)] 5)) fun e wv1 =>
  ∃ x8aA : Option Addr, ∃ x8aN : Nat, ∃ x8aC : Nat, ∃ x8b : Int, e = .returned (.tuple #[(.slice x8aA x8aN x8aC), (.int .i64 x8b)]) ∧
  ∃ J : Bool → World → Prop, (
    ∃ x12 : ByteArray, ∃ wv2, (convert 24 9 (.slice x5A x5N x5C) : Sem Value).run Try.prog wv1 = .ok (.string x12) wv2 ∧
    split ((x12 : ByteArray).toList == (⟨#[0, 0, 0, 4, 0, 1, 0, 0, 0, 1, 128, 2, 0, 0, 0, 2, 0, 1, 0, 0, 0, 3]⟩ : ByteArray).toList) (
      split ((x8b : Int) == 0) (
        Calls Try.prog 12 #[(.slice x8aA x8aN x8aC), (.slice (some ⟨wv2.heap.size, 0, none⟩) 3 3)] (wv2.alloc (.cells #[(.int .u32 7), (.int .u32 7), (.int .u32 7)] 37)) fun e wv3 =>
        ∃ x21 : Bool, e = .returned (.bool x21) ∧
        J x21 wv3) (
        J false wv2)) (
      J false wv2)) ∧ ∀ (_gv : Nat → Value) (x0 : Bool), ∀ wv2, J x0 wv2 →
  R (.bool x0) wv2

def Known_an : Ann := (.node none .leaf (.node none .leaf (.node none .leaf (.node none (.node (some ⟨[(0, .bool)], [0, 11, 12, 13, 14, 15, 16, 17, 18, 19, 20, 21, 22]⟩) .leaf .leaf) .leaf))))

theorem Known_eq (R : Post) (w : World) : Known_wp  R w = vcF Try.prog callees [] Try.f6 Known_an [] R none w := by kernel_rfl

theorem Known_calls {R : Post} {w : World} (h : Known_wp  R w) : Calls Try.prog 6 #[] w fun e w' => ∃ v, e = .returned v ∧ R v w' :=
  returns_of_vc Try.func6 callees_ok follows_mixed ((Known_eq  R w).mp h)

/- warden/snap.Pack (function 7); loop rrrlbLrbrrrrlrb: out:slice, x53:int; loop rrrlb: words:slice, out:slice -/
def Pack_wp (wordsA : Option Addr) (wordsN : Nat) (wordsC : Nat) (R : Post) (w : World) : Prop :=
  split (decide ((((wordsN : Nat) : Int) : Int) > 262144)) (
    R (.slice none 0 0) w) (
    Calls Try.prog 14 #[(.slice none 0 0), (.int .u32 (IntKind.u32.wrap ((wordsN : Nat) : Int)))] w fun e wv =>
    ∃ x13A : Option Addr, ∃ x13N : Nat, ∃ x13C : Nat, e = .returned (.slice x13A x13N x13C) ∧
    ∃ I : Nat → Option Addr → Nat → Nat → Option Addr → Nat → Nat → World → Prop, (∃ m, I m wordsA wordsN wordsC x13A x13N x13C wv) ∧ ∀ (m : Nat) (_gv : Nat → Value) (wordsA1 : Option Addr) (wordsN1 : Nat) (wordsC1 : Nat) (outA : Option Addr) (outN : Nat) (outC : Nat), ∀ wv1, I m wordsA1 wordsN1 wordsC1 outA outN outC wv1 →
    split (decide ((((wordsN1 : Nat) : Int) : Int) > 0)) (
      Calls Try.prog 15 #[(.slice wordsA1 wordsN1 wordsC1)] wv1 fun e wv2 =>
      ∃ x18 : Int, e = .returned (.int .i64 x18) ∧
      ∀ n : Int, n = (if (32767 : Int) < x18 then 32767 else x18) →
      split (decide ((n : Int) ≥ 2)) (
        ∃ b, b ≤ wv2.heap.size ∧
        (0 ≤ (0 : Int) ∧ (0 : Int) < ((wordsN1 : Nat) : Int)) ∧
        onSome wordsA1 fun p32 =>
        (p32.add (Int.toNat 0 * 1)).block < b ∧
        ∃ x33 : Int, wv2.drew.cell? (p32.add (Int.toNat 0 * 1)) = some (.int .u32 x33) ∧
        Below b wv2.drew (wv2.drew.alloc (.cells #[(.int .u8 (IntKind.u8.wrap ((IntKind.i64.wrap (32768 + n) : Int).fdiv (2 ^ 8)))), (.int .u8 (IntKind.u8.wrap n))] 5)) ∧ ∃ b1, b ≤ b1 ∧
        ∃ x30A : Option Addr, ∃ x30N : Nat, ∃ x30C : Nat, ∃ wv3, (Builtin.append_ #[24, 24] 24 #[(.slice outA outN outC), (.slice (some ⟨wv2.drew.heap.size, 0, none⟩) 2 2)] : Sem Value).run Try.prog (wv2.drew.alloc (.cells #[(.int .u8 (IntKind.u8.wrap ((IntKind.i64.wrap (32768 + n) : Int).fdiv (2 ^ 8)))), (.int .u8 (IntKind.u8.wrap n))] 5)) = .ok (.slice x30A x30N x30C) wv3 ∧
        Below b1 (wv2.drew.alloc (.cells #[(.int .u8 (IntKind.u8.wrap ((IntKind.i64.wrap (32768 + n) : Int).fdiv (2 ^ 8)))), (.int .u8 (IntKind.u8.wrap n))] 5)) wv3 ∧ ∃ b2, b1 ≤ b2 ∧
        Calls Try.prog 14 #[(.slice x30A x30N x30C), (.int .u32 x33)] wv3 fun e wv4 =>
        ∃ x34A : Option Addr, ∃ x34N : Nat, ∃ x34C : Nat, e = .returned (.slice x34A x34N x34C) ∧
        Below b2 wv3 wv4 ∧ ∃ b3, b2 ≤ b3 ∧
        (0 ≤ (n : Int) ∧ (n : Int) ≤ ((wordsN1 : Nat) : Int)) ∧
        ∀ x37A : Option Addr, x37A = (if wordsC1 = (Int.toNat n) then wordsA1 else (wordsA1 : Option Addr).map (·.add ((Int.toNat n) * 1))) → ∀ x37N : Nat, x37N = wordsN1 - (Int.toNat n) → ∀ x37C : Nat, x37C = wordsC1 - (Int.toNat n) →
        ∃ m1, m1 < m ∧ I m1 x37A x37N x37C x34A x34N x34C wv4) (
        Calls Try.prog 16 #[(.slice wordsA1 wordsN1 wordsC1)] wv2 fun e wv3 =>
        ∃ x39 : Int, e = .returned (.int .i64 x39) ∧
        ∀ n1 : Int, n1 = (if (32767 : Int) < x39 then 32767 else x39) →
        ∃ x48A : Option Addr, ∃ x48N : Nat, ∃ x48C : Nat, ∃ wv4, (Builtin.append_ #[24, 24] 24 #[(.slice outA outN outC), (.slice (some ⟨wv3.heap.size, 0, none⟩) 2 2)] : Sem Value).run Try.prog (wv3.alloc (.cells #[(.int .u8 (IntKind.u8.wrap ((n1 : Int).fdiv (2 ^ 8)))), (.int .u8 (IntKind.u8.wrap n1))] 5)) = .ok (.slice x48A x48N x48C) wv4 ∧
        (0 ≤ (n1 : Int) ∧ (n1 : Int) ≤ ((wordsC1 : Nat) : Int)) ∧
        ∀ x51A : Option Addr, x51A = (if wordsC1 = 0 then wordsA1 else (wordsA1 : Option Addr).map (·.add (0 * 1))) → ∀ x51N : Nat, x51N = (Int.toNat n1) - 0 → ∀ x51C : Nat, x51C = wordsC1 - 0 →
        ∃ I1 : Nat → Option Addr → Nat → Nat → Int → World → Prop, (∃ m2, I1 m2 x48A x48N x48C 0 wv4) ∧ ∀ (m2 : Nat) (_gv1 : Nat → Value) (outA1 : Option Addr) (outN1 : Nat) (outC1 : Nat) (x53 : Int), ∀ wv5, I1 m2 outA1 outN1 outC1 x53 wv5 →
        split (decide ((x53 : Int) < ((x51N : Nat) : Int))) (
          (0 ≤ (x53 : Int) ∧ (x53 : Int) < ((x51N : Nat) : Int)) ∧
          onSome x51A fun p55 =>
          ∃ x56 : Int, wv5.cell? (p55.add (Int.toNat x53 * 1)) = some (.int .u32 x56) ∧
          Calls Try.prog 14 #[(.slice outA1 outN1 outC1), (.int .u32 x56)] wv5 fun e wv6 =>
          ∃ x59A : Option Addr, ∃ x59N : Nat, ∃ x59C : Nat, e = .returned (.slice x59A x59N x59C) ∧
          ∃ m3, m3 < m2 ∧ I1 m3 x59A x59N x59C (IntKind.i64.wrap (x53 + 1)) wv6) (
          (0 ≤ (n1 : Int) ∧ (n1 : Int) ≤ ((wordsN1 : Nat) : Int)) ∧
          ∀ x63A : Option Addr, x63A = (if wordsC1 = (Int.toNat n1) then wordsA1 else (wordsA1 : Option Addr).map (·.add ((Int.toNat n1) * 1))) → ∀ x63N : Nat, x63N = wordsN1 - (Int.toNat n1) → ∀ x63C : Nat, x63C = wordsC1 - (Int.toNat n1) →
          ∃ m1, m1 < m ∧ I m1 x63A x63N x63C outA1 outN1 outC1 wv5))) (
      R (.slice outA outN outC) wv1))

def Pack_an : Ann := (.node none .leaf (.node none .leaf (.node none .leaf (.node none (.node none (.node (some ⟨[(0, .slice), (3, .slice)], [0, 3, 4, 6, 14, 15, 16, 17, 18, 19, 20, 21, 22, 23, 24, 25, 26, 27, 28, 29, 30, 31, 32, 33, 34, 35, 36, 37, 38, 39, 40, 41, 42, 43, 44, 45, 46, 47, 48, 49, 50, 51, 52, 53, 54, 55, 56, 57, 58, 59, 60, 61, 62, 63]⟩) (.node none .leaf (.node none (.node none .leaf (.node none .leaf (.node none .leaf (.node none .leaf (.node none (.node none .leaf (.node none (.node (some ⟨[(3, .slice), (53, .int .i64)], [3, 6, 53, 54, 55, 56, 57, 58, 59, 60]⟩) .leaf .leaf) .leaf)) .leaf))))) .leaf)) .leaf) .leaf) .leaf))))

theorem Pack_eq (wordsA : Option Addr) (wordsN : Nat) (wordsC : Nat) (R : Post) (w : World) : Pack_wp wordsA wordsN wordsC R w = vcF Try.prog callees [3, 4] Try.f7 Pack_an [(.slice wordsA wordsN wordsC)] R none w := by kernel_rfl

theorem Pack_calls (wordsA : Option Addr) (wordsN : Nat) (wordsC : Nat) {R : Post} {w : World} (h : Pack_wp wordsA wordsN wordsC R w) : Calls Try.prog 7 #[(.slice wordsA wordsN wordsC)] w fun e w' => ∃ v, e = .returned v ∧ R v w' :=
  returns_of_vc Try.func7 callees_ok follows_mixed ((Pack_eq wordsA wordsN wordsC R w).mp h)

/- warden/wardenref27.Pack (function 8); cut rrrlrbLrbrrlbLrbll (region): x74:bool; cut rrrlrbLrbrrlbLll (region): x51:bool; loop rrrlrbLrbrrlb: n:int; loop rrrlrbLrbrrrrlrb: out:slice, i:int; cut rrrlrbLrbrrl (block): n:int; loop rrrlrb: out:slice, at:int -/
def RPack_wp (wordsA : Option Addr) (wordsN : Nat) (wordsC : Nat) (R : Post) (w : World) : Prop :=
  split (decide ((((wordsN : Nat) : Int) : Int) > 262144)) (
    R (.slice none 0 0) w) (
    Calls Try.prog 17 #[(.int .u32 (IntKind.u32.wrap ((wordsN : Nat) : Int)))] w fun e wv =>
    ∃ x13A : Option Addr, ∃ x13N : Nat, ∃ x13C : Nat, e = .returned (.slice x13A x13N x13C) ∧
    ∀ atv : Int, atv = 0 →
    ∃ I : Nat → Option Addr → Nat → Nat → Int → World → Prop, (∃ m, I m x13A x13N x13C atv wv) ∧ ∀ (m : Nat) (_gv : Nat → Value) (outA : Option Addr) (outN : Nat) (outC : Nat) (atv1 : Int), ∀ wv1, I m outA outN outC atv1 wv1 →
    split (decide ((atv1 : Int) < ((wordsN : Nat) : Int))) (
      Calls Try.prog 18 #[(.slice wordsA wordsN wordsC), (.int .i64 atv1)] wv1 fun e wv2 =>
      ∃ x20 : Int, e = .returned (.int .i64 x20) ∧
      ∀ n : Int, n = x20 →
      split (decide ((n : Int) ≥ 2)) (
        ∃ x31A : Option Addr, ∃ x31N : Nat, ∃ x31C : Nat, ∃ wv3, (Builtin.append_ #[24, 24] 24 #[(.slice outA outN outC), (.slice (some ⟨wv2.heap.size, 0, none⟩) 2 2)] : Sem Value).run Try.prog (wv2.alloc (.cells #[(.int .u8 (IntKind.u8.wrap ((IntKind.i64.wrap (32768 + n) : Int).fdiv (2 ^ 8)))), (.int .u8 (IntKind.u8.wrap n))] 5)) = .ok (.slice x31A x31N x31C) wv3 ∧
        (0 ≤ (atv1 : Int) ∧ (atv1 : Int) < ((wordsN : Nat) : Int)) ∧
        onSome wordsA fun p35 =>
        ∃ x36 : Int, wv3.cell? (p35.add (Int.toNat atv1 * 1)) = some (.int .u32 x36) ∧
        Calls Try.prog 17 #[(.int .u32 x36)] wv3 fun e wv4 =>
        ∃ x37A : Option Addr, ∃ x37N : Nat, ∃ x37C : Nat, e = .returned (.slice x37A x37N x37C) ∧
        ∃ x38A : Option Addr, ∃ x38N : Nat, ∃ x38C : Nat, ∃ wv5, (Builtin.append_ #[24, 24] 24 #[(.slice x31A x31N x31C), (.slice x37A x37N x37C)] : Sem Value).run Try.prog wv4 = .ok (.slice x38A x38N x38C) wv5 ∧
        ∀ atv2 : Int, atv2 = (IntKind.i64.wrap (atv1 + n)) →
        ∃ m1, m1 < m ∧ I m1 x38A x38N x38C atv2 wv5) (
        ∃ J : Int → World → Prop, (
          ∃ I1 : Nat → Int → World → Prop, (∃ m2, I1 m2 n wv2) ∧ ∀ (m2 : Nat) (_gv1 : Nat → Value) (n1 : Int), ∀ wv3, I1 m2 n1 wv3 →
          ∃ J1 : Bool → World → Prop, (
            split (decide ((n1 : Int) < 32767)) (
              J1 (decide ((IntKind.i64.wrap (atv1 + n1) : Int) < ((wordsN : Nat) : Int))) wv3) (
              J1 false wv3)) ∧ ∀ (_gv2 : Nat → Value) (x51 : Bool), ∀ wv4, J1 x51 wv4 →
          split x51 (
            ∃ J2 : Bool → World → Prop, (
              split (decide ((IntKind.i64.wrap ((IntKind.i64.wrap (atv1 + n1)) + 1) : Int) < ((wordsN : Nat) : Int))) (
                (0 ≤ (IntKind.i64.wrap (atv1 + n1) : Int) ∧ (IntKind.i64.wrap (atv1 + n1) : Int) < ((wordsN : Nat) : Int)) ∧
                onSome wordsA fun p64 =>
                ∃ x65 : Int, wv4.drew.cell? (p64.add (Int.toNat (IntKind.i64.wrap (atv1 + n1)) * 1)) = some (.int .u32 x65) ∧
                (0 ≤ (IntKind.i64.wrap ((IntKind.i64.wrap (atv1 + n1)) + 1) : Int) ∧ (IntKind.i64.wrap ((IntKind.i64.wrap (atv1 + n1)) + 1) : Int) < ((wordsN : Nat) : Int)) ∧
                onSome wordsA fun p71 =>
                ∃ x72 : Int, wv4.drew.cell? (p71.add (Int.toNat (IntKind.i64.wrap ((IntKind.i64.wrap (atv1 + n1)) + 1)) * 1)) = some (.int .u32 x72) ∧
                J2 ((x65 : Int) == x72) wv4.drew) (
                J2 false wv4.drew)) ∧ ∀ (_gv3 : Nat → Value) (x74 : Bool), ∀ wv5, J2 x74 wv5 →
            split x74 (
              J n1 wv5) (
              ∀ n2 : Int, n2 = (IntKind.i64.wrap (n1 + 1)) →
              ∃ m3, m3 < m2 ∧ I1 m3 n2 wv5)) (
            J n1 wv4)) ∧ ∀ (_gv1 : Nat → Value) (n1 : Int), ∀ wv3, J n1 wv3 →
        ∃ x84A : Option Addr, ∃ x84N : Nat, ∃ x84C : Nat, ∃ wv4, (Builtin.append_ #[24, 24] 24 #[(.slice outA outN outC), (.slice (some ⟨wv3.heap.size, 0, none⟩) 2 2)] : Sem Value).run Try.prog (wv3.alloc (.cells #[(.int .u8 (IntKind.u8.wrap ((n1 : Int).fdiv (2 ^ 8)))), (.int .u8 (IntKind.u8.wrap n1))] 5)) = .ok (.slice x84A x84N x84C) wv4 ∧
        ∀ i : Int, i = atv1 →
        ∃ I1 : Nat → Option Addr → Nat → Nat → Int → World → Prop, (∃ m2, I1 m2 x84A x84N x84C i wv4) ∧ ∀ (m2 : Nat) (_gv2 : Nat → Value) (outA1 : Option Addr) (outN1 : Nat) (outC1 : Nat) (i1 : Int), ∀ wv5, I1 m2 outA1 outN1 outC1 i1 wv5 →
        split (decide ((i1 : Int) < (IntKind.i64.wrap (atv1 + n1)))) (
          (0 ≤ (i1 : Int) ∧ (i1 : Int) < ((wordsN : Nat) : Int)) ∧
          onSome wordsA fun p96 =>
          ∃ x97 : Int, wv5.cell? (p96.add (Int.toNat i1 * 1)) = some (.int .u32 x97) ∧
          Calls Try.prog 17 #[(.int .u32 x97)] wv5 fun e wv6 =>
          ∃ x98A : Option Addr, ∃ x98N : Nat, ∃ x98C : Nat, e = .returned (.slice x98A x98N x98C) ∧
          ∃ x99A : Option Addr, ∃ x99N : Nat, ∃ x99C : Nat, ∃ wv7, (Builtin.append_ #[24, 24] 24 #[(.slice outA1 outN1 outC1), (.slice x98A x98N x98C)] : Sem Value).run Try.prog wv6 = .ok (.slice x99A x99N x99C) wv7 ∧
          ∀ i2 : Int, i2 = (IntKind.i64.wrap (i1 + 1)) →
          ∃ m3, m3 < m2 ∧ I1 m3 x99A x99N x99C i2 wv7) (
          ∀ atv2 : Int, atv2 = (IntKind.i64.wrap (atv1 + n1)) →
          ∃ m1, m1 < m ∧ I m1 outA1 outN1 outC1 atv2 wv5))) (
      R (.slice outA outN outC) wv1))

def RPack_an : Ann := (.node none .leaf (.node none .leaf (.node none .leaf (.node none (.node none .leaf (.node none (.node (some ⟨[(3, .slice), (4, .int .i64)], [3, 4, 5, 6, 14, 15, 16, 17, 18, 19, 20, 21, 22, 23, 24, 25, 26, 27, 28, 29, 30, 31, 32, 33, 34, 35, 36, 37, 38, 39, 40, 41, 42, 43, 44, 45, 46, 47, 48, 49, 50, 51, 52, 53, 54, 55, 56, 57, 58, 59, 60, 61, 62, 63, 64, 65, 66, 67, 68, 69, 70, 71, 72, 73, 74, 75, 76, 77, 78, 79, 80, 81, 82, 83, 84, 85, 86, 87, 88, 89, 90, 91, 92, 93, 94, 95, 96, 97, 98, 99, 100, 101, 102]⟩) (.node none .leaf (.node none (.node none .leaf (.node none .leaf (.node none (.node (some ⟨[(5, .int .i64)], [5, 42, 43, 44, 45, 46, 47, 48, 49, 50, 51, 52, 53, 54, 55, 56, 57, 58, 59, 60, 61, 62, 63, 64, 65, 66, 67, 68, 69, 70, 71, 72, 73, 74, 75, 76]⟩) (.node (some ⟨[(5, .int .i64)], [5, 42, 43, 44, 45, 46, 47, 48, 49, 50, 51, 52, 53, 54, 55, 56, 57, 58, 59, 60, 61, 62, 63, 64, 65, 66, 67, 68, 69, 70, 71, 72, 73, 74, 75, 76]⟩) (.node none (.node none (.node (some ⟨[(51, .bool)], [42, 43, 44, 45, 46, 47, 48, 49, 50, 51]⟩) .leaf .leaf) .leaf) (.node none (.node none (.node none (.node (some ⟨[(74, .bool)], [52, 53, 54, 55, 56, 57, 58, 59, 60, 61, 62, 63, 64, 65, 66, 67, 68, 69, 70, 71, 72, 73, 74]⟩) .leaf .leaf) .leaf) .leaf) .leaf)) .leaf) .leaf) (.node none .leaf (.node none (.node none .leaf (.node none (.node (some ⟨[(3, .slice), (6, .int .i64)], [3, 6, 86, 87, 88, 89, 90, 91, 92, 93, 94, 95, 96, 97, 98, 99]⟩) .leaf .leaf) .leaf)) .leaf))))) .leaf)) .leaf) .leaf)) .leaf))))

theorem RPack_eq (wordsA : Option Addr) (wordsN : Nat) (wordsC : Nat) (R : Post) (w : World) : RPack_wp wordsA wordsN wordsC R w = vcF Try.prog callees [3, 4, 5, 6] Try.f8 RPack_an [(.slice wordsA wordsN wordsC)] R none w := by kernel_rfl

theorem RPack_calls (wordsA : Option Addr) (wordsN : Nat) (wordsC : Nat) {R : Post} {w : World} (h : RPack_wp wordsA wordsN wordsC R w) : Calls Try.prog 8 #[(.slice wordsA wordsN wordsC)] w fun e w' => ∃ v, e = .returned v ∧ R v w' :=
  returns_of_vc Try.func8 callees_ok follows_mixed ((RPack_eq wordsA wordsN wordsC R w).mp h)

/- warden/snap.Unpack (function 9); loop rrrrrrlbLrbrrrrrrrrlrb: words:slice, x66:int; cut rrrrrrlbLrbrrrrrrrll (region): x64:bool; cut rrrrrrlbLrbrrrrrrlr (cond): size:int; cut rrrrrrrll (region): x96:bool; loop rrrrrrlb: rest:slice, words:slice -/
def Unpack_wp (bA : Option Addr) (bN : Nat) (bC : Nat) (R : Post) (w : World) : Prop :=
  split (decide ((((bN : Nat) : Int) : Int) < 4)) (
    R (.tuple #[(.slice none 0 0), (.int .i64 272)]) w) (
    Calls Try.prog 19 #[(.slice bA bN bC)] w fun e wv =>
    ∃ x16 : Int, e = .returned (.int .u32 x16) ∧
    split (decide ((x16 : Int) > 262144)) (
      R (.tuple #[(.slice none 0 0), (.int .i64 2)]) wv) (
      Calls Try.prog 19 #[(.slice bA bN bC)] wv fun e wv1 =>
      ∃ x19 : Int, e = .returned (.int .u32 x19) ∧
      ∀ n : Int, n = (IntKind.i64.wrap x19) →
      (0 ≤ (4 : Int) ∧ (4 : Int) ≤ ((bN : Nat) : Int)) ∧
      ∀ x22A : Option Addr, x22A = (if bC = (Int.toNat 4) then bA else (bA : Option Addr).map (·.add ((Int.toNat 4) * 1))) → ∀ x22N : Nat, x22N = bN - (Int.toNat 4) → ∀ x22C : Nat, x22C = bC - (Int.toNat 4) →
      ∃ I : Nat → Option Addr → Nat → Nat → Option Addr → Nat → Nat → World → Prop, (∃ m, I m x22A x22N x22C none 0 0 wv1) ∧ ∀ (m : Nat) (_gv : Nat → Value) (restA : Option Addr) (restN : Nat) (restC : Nat) (wordsA : Option Addr) (wordsN : Nat) (wordsC : Nat), ∀ wv2, I m restA restN restC wordsA wordsN wordsC wv2 →
      split (decide ((((wordsN : Nat) : Int) : Int) < n)) (
        split (decide ((((restN : Nat) : Int) : Int) < 2)) (
          R (.tuple #[(.slice none 0 0), (.int .i64 272)]) wv2) (
          (0 ≤ (0 : Int) ∧ (0 : Int) < ((restN : Nat) : Int)) ∧
          onSome restA fun p31 =>
          ∃ x32 : Int, wv2.drew.cell? (p31.add (Int.toNat 0 * 1)) = some (.int .u8 x32) ∧
          (0 ≤ (1 : Int) ∧ (1 : Int) < ((restN : Nat) : Int)) ∧
          onSome restA fun p36 =>
          ∃ x37 : Int, wv2.drew.cell? (p36.add (Int.toNat 1 * 1)) = some (.int .u8 x37) ∧
          ∀ k : Int, k = (IntKind.i64.wrap (BitVec.ofInt IntKind.i64.bits (IntKind.i64.wrap ((IntKind.i64.wrap x32 : Int) * 2 ^ 8)) ||| BitVec.ofInt IntKind.i64.bits (IntKind.i64.wrap x37)).toNat) →
          ∀ run : Bool, run = (decide ((k : Int) ≥ 32768)) →
          ∀ k1 : Int, k1 = ((k : Int).tmod 32768) →
          (0 ≤ (2 : Int) ∧ (2 : Int) ≤ ((restN : Nat) : Int)) ∧
          ∀ x45A : Option Addr, x45A = (if restC = (Int.toNat 2) then restA else (restA : Option Addr).map (·.add ((Int.toNat 2) * 1))) → ∀ x45N : Nat, x45N = restN - (Int.toNat 2) → ∀ x45C : Nat, x45C = restC - (Int.toNat 2) →
          ∀ size : Int, size = (IntKind.i64.wrap (4 * k1)) →
          ∃ J : Int → World → Prop, (
            split run (
              ∀ size1 : Int, size1 = 4 →
              J size1 wv2.drew) (
              J size wv2.drew)) ∧ ∀ (_gv1 : Nat → Value) (size1 : Int), ∀ wv3, J size1 wv3 →
          ∃ J1 : Bool → World → Prop, (
            split ((k1 : Int) == 0) (
              J1 true wv3) (
              split (decide ((k1 : Int) > (IntKind.i64.wrap (n - ((wordsN : Nat) : Int))))) (
                J1 true wv3) (
                J1 (decide ((((x45N : Nat) : Int) : Int) < size1)) wv3))) ∧ ∀ (_gv2 : Nat → Value) (x64 : Bool), ∀ wv4, J1 x64 wv4 →
          split x64 (
            R (.tuple #[(.slice none 0 0), (.int .i64 272)]) wv4) (
            ∃ I1 : Nat → Option Addr → Nat → Nat → Int → World → Prop, (∃ m2, I1 m2 wordsA wordsN wordsC 0 wv4) ∧ ∀ (m2 : Nat) (_gv3 : Nat → Value) (wordsA1 : Option Addr) (wordsN1 : Nat) (wordsC1 : Nat) (x66 : Int), ∀ wv5, I1 m2 wordsA1 wordsN1 wordsC1 x66 wv5 →
            split (decide ((x66 : Int) < k1)) (
              ∀ atv : Int, atv = (IntKind.i64.wrap (4 * x66)) →
              split run (
                ∀ atv1 : Int, atv1 = 0 →
                (0 ≤ (IntKind.i64.wrap (atv1 + 4) : Int) ∧ (IntKind.i64.wrap (atv1 + 4) : Int) ≤ ((x45C : Nat) : Int)) ∧
                (0 ≤ (IntKind.i64.wrap (atv1 + 4) : Int) ∧ (IntKind.i64.wrap (atv1 + 4) : Int) ≤ ((Int.toNat (IntKind.i64.wrap (atv1 + 4)) : Nat) : Int)) ∧
                (0 ≤ (atv1 : Int) ∧ (atv1 : Int) ≤ ((Int.toNat (IntKind.i64.wrap (atv1 + 4)) : Nat) : Int)) ∧
                ∀ x79A : Option Addr, x79A = (if (Int.toNat (IntKind.i64.wrap (atv1 + 4))) = (Int.toNat atv1) then x45A else (x45A : Option Addr).map (·.add ((Int.toNat atv1) * 1))) → ∀ x79N : Nat, x79N = (Int.toNat (IntKind.i64.wrap (atv1 + 4))) - (Int.toNat atv1) → ∀ x79C : Nat, x79C = (Int.toNat (IntKind.i64.wrap (atv1 + 4))) - (Int.toNat atv1) →
                Calls Try.prog 19 #[(.slice x79A x79N x79C)] wv5 fun e wv6 =>
                ∃ x80 : Int, e = .returned (.int .u32 x80) ∧
                ∃ x82A : Option Addr, ∃ x82N : Nat, ∃ x82C : Nat, ∃ wv7, (Builtin.append_ #[23, 23] 23 #[(.slice wordsA1 wordsN1 wordsC1), (.slice (some ⟨wv6.heap.size, 0, none⟩) 1 1)] : Sem Value).run Try.prog (wv6.alloc (.cells #[(.int .u32 x80)] 37)) = .ok (.slice x82A x82N x82C) wv7 ∧
                ∃ m3, m3 < m2 ∧ I1 m3 x82A x82N x82C (IntKind.i64.wrap (x66 + 1)) wv7) (
                (0 ≤ (IntKind.i64.wrap (atv + 4) : Int) ∧ (IntKind.i64.wrap (atv + 4) : Int) ≤ ((x45C : Nat) : Int)) ∧
                (0 ≤ (IntKind.i64.wrap (atv + 4) : Int) ∧ (IntKind.i64.wrap (atv + 4) : Int) ≤ ((Int.toNat (IntKind.i64.wrap (atv + 4)) : Nat) : Int)) ∧
                (0 ≤ (atv : Int) ∧ (atv : Int) ≤ ((Int.toNat (IntKind.i64.wrap (atv + 4)) : Nat) : Int)) ∧
                ∀ x79A : Option Addr, x79A = (if (Int.toNat (IntKind.i64.wrap (atv + 4))) = (Int.toNat atv) then x45A else (x45A : Option Addr).map (·.add ((Int.toNat atv) * 1))) → ∀ x79N : Nat, x79N = (Int.toNat (IntKind.i64.wrap (atv + 4))) - (Int.toNat atv) → ∀ x79C : Nat, x79C = (Int.toNat (IntKind.i64.wrap (atv + 4))) - (Int.toNat atv) →
                Calls Try.prog 19 #[(.slice x79A x79N x79C)] wv5 fun e wv6 =>
                ∃ x80 : Int, e = .returned (.int .u32 x80) ∧
                ∃ x82A : Option Addr, ∃ x82N : Nat, ∃ x82C : Nat, ∃ wv7, (Builtin.append_ #[23, 23] 23 #[(.slice wordsA1 wordsN1 wordsC1), (.slice (some ⟨wv6.heap.size, 0, none⟩) 1 1)] : Sem Value).run Try.prog (wv6.alloc (.cells #[(.int .u32 x80)] 37)) = .ok (.slice x82A x82N x82C) wv7 ∧
                ∃ m3, m3 < m2 ∧ I1 m3 x82A x82N x82C (IntKind.i64.wrap (x66 + 1)) wv7)) (
              (0 ≤ (size1 : Int) ∧ (size1 : Int) ≤ ((x45N : Nat) : Int)) ∧
              ∀ x86A : Option Addr, x86A = (if x45C = (Int.toNat size1) then x45A else (x45A : Option Addr).map (·.add ((Int.toNat size1) * 1))) → ∀ x86N : Nat, x86N = x45N - (Int.toNat size1) → ∀ x86C : Nat, x86C = x45C - (Int.toNat size1) →
              ∃ m1, m1 < m ∧ I m1 x86A x86N x86C wordsA1 wordsN1 wordsC1 wv5)))) (
        ∃ J : Bool → World → Prop, (
          split (decide ((((restN : Nat) : Int) : Int) > 0)) (
            J true wv2) (
            Calls Try.prog 7 #[(.slice wordsA wordsN wordsC)] wv2 fun e wv3 =>
            ∃ x92A : Option Addr, ∃ x92N : Nat, ∃ x92C : Nat, e = .returned (.slice x92A x92N x92C) ∧
            Calls Try.prog 20 #[(.slice x92A x92N x92C), (.slice bA bN bC)] wv3 fun e wv4 =>
            ∃ x94 : Bool, e = .returned (.bool x94) ∧
            J (!x94) wv4)) ∧ ∀ (_gv1 : Nat → Value) (x96 : Bool), ∀ wv3, J x96 wv3 →
        split x96 (
          R (.tuple #[(.slice none 0 0), (.int .i64 272)]) wv3) (
          (0 ≤ (((wordsN : Nat) : Int) : Int) ∧ (((wordsN : Nat) : Int) : Int) ≤ ((wordsC : Nat) : Int)) ∧
          (0 ≤ (((wordsN : Nat) : Int) : Int) ∧ (((wordsN : Nat) : Int) : Int) ≤ ((Int.toNat ((wordsN : Nat) : Int) : Nat) : Int)) ∧
          ∀ x102A : Option Addr, x102A = (if (Int.toNat ((wordsN : Nat) : Int)) = 0 then wordsA else (wordsA : Option Addr).map (·.add (0 * 1))) → ∀ x102N : Nat, x102N = (Int.toNat ((wordsN : Nat) : Int)) - 0 → ∀ x102C : Nat, x102C = (Int.toNat ((wordsN : Nat) : Int)) - 0 →
          R (.tuple #[(.slice x102A x102N x102C), (.int .i64 0)]) wv3))))

def Unpack_an : Ann := (.node none .leaf (.node none .leaf (.node none .leaf (.node none .leaf (.node none .leaf (.node none .leaf (.node none (.node none (.node (some ⟨[(5, .slice), (6, .slice)], [2, 3, 5, 6, 7, 8, 9, 10, 11, 23, 24, 25, 26, 27, 28, 29, 30, 31, 32, 33, 34, 35, 36, 37, 38, 39, 40, 41, 42, 43, 44, 45, 46, 47, 48, 49, 50, 51, 52, 53, 54, 55, 56, 57, 58, 59, 60, 61, 62, 63, 64, 65, 66, 67, 68, 69, 70, 71, 72, 73, 74, 75, 76, 77, 78, 79, 80, 81, 82, 83, 84, 85, 86]⟩) (.node none .leaf (.node none (.node none .leaf (.node none .leaf (.node none .leaf (.node none .leaf (.node none .leaf (.node none .leaf (.node none (.node none .leaf (.node (some ⟨[(9, .int .i64)], [9]⟩) .leaf .leaf)) (.node none (.node none (.node (some ⟨[(64, .bool)], [49, 50, 51, 52, 53, 54, 55, 56, 57, 58, 59, 60, 61, 62, 63, 64]⟩) .leaf .leaf) .leaf) (.node none (.node none .leaf (.node none (.node (some ⟨[(6, .slice), (66, .int .i64)], [6, 10, 11, 66, 67, 68, 69, 70, 71, 72, 73, 74, 75, 76, 77, 78, 79, 80, 81, 82, 83]⟩) .leaf .leaf) .leaf)) .leaf))))))))) .leaf)) .leaf) .leaf) (.node none (.node none (.node (some ⟨[(96, .bool)], [87, 88, 89, 90, 91, 92, 93, 94, 95, 96]⟩) .leaf .leaf) .leaf) .leaf))))))))

theorem Unpack_eq (bA : Option Addr) (bN : Nat) (bC : Nat) (R : Post) (w : World) : Unpack_wp bA bN bC R w = vcF Try.prog callees [4, 6, 7, 8, 9, 11] Try.f9 Unpack_an [(.slice bA bN bC)] R none w := by kernel_rfl

theorem Unpack_calls (bA : Option Addr) (bN : Nat) (bC : Nat) {R : Post} {w : World} (h : Unpack_wp bA bN bC R w) : Calls Try.prog 9 #[(.slice bA bN bC)] w fun e w' => ∃ v, e = .returned v ∧ R v w' :=
  returns_of_vc Try.func9 callees_ok follows_mixed ((Unpack_eq bA bN bC R w).mp h)

/- warden/wardenlaw27.copied (function 10) -/
def Copied_wp (bA : Option Addr) (bN : Nat) (bC : Nat) (R : Post) (w : World) : Prop :=
  ∃ x6A : Option Addr, ∃ x6N : Nat, ∃ x6C : Nat, ∃ wv, (Builtin.append_ #[24, 24] 24 #[(.slice none 0 0), (.slice bA bN bC)] : Sem Value).run Try.prog w = .ok (.slice x6A x6N x6C) wv ∧
  R (.slice x6A x6N x6C) wv

def Copied_an : Ann := .leaf

theorem Copied_eq (bA : Option Addr) (bN : Nat) (bC : Nat) (R : Post) (w : World) : Copied_wp bA bN bC R w = vcF Try.prog callees [3] Try.f10 Copied_an [(.slice bA bN bC)] R none w := by kernel_rfl

theorem Copied_calls (bA : Option Addr) (bN : Nat) (bC : Nat) {R : Post} {w : World} (h : Copied_wp bA bN bC R w) : Calls Try.prog 10 #[(.slice bA bN bC)] w fun e w' => ∃ v, e = .returned v ∧ R v w' :=
  returns_of_vc Try.func10 callees_ok follows_mixed ((Copied_eq bA bN bC R w).mp h)

/- warden/wardenref27.Unpack (function 11); cut rrrrrll (region): x28:bool -/
def RUnpack_wp (bA : Option Addr) (bN : Nat) (bC : Nat) (R : Post) (w : World) : Prop :=
  split (decide ((((bN : Nat) : Int) : Int) < 4)) (
    R (.tuple #[(.slice none 0 0), (.int .i64 272)]) w) (
    Calls Try.prog 21 #[(.slice bA bN bC)] w fun e wv =>
    ∃ x10 : Int, e = .returned (.int .u32 x10) ∧
    split (decide ((x10 : Int) > 262144)) (
      R (.tuple #[(.slice none 0 0), (.int .i64 2)]) wv) (
      Calls Try.prog 22 #[(.slice bA bN bC)] wv fun e wv1 =>
      ∃ x13A : Option Addr, ∃ x13N : Nat, ∃ x13C : Nat, e = .returned (.slice x13A x13N x13C) ∧
      Calls Try.prog 8 #[(.slice x13A x13N x13C)] wv1 fun e wv2 =>
      ∃ x15A : Option Addr, ∃ x15N : Nat, ∃ x15C : Nat, e = .returned (.slice x15A x15N x15C) ∧
      ∃ J : Bool → World → Prop, (
        Calls Try.prog 21 #[(.slice bA bN bC)] wv2 fun e wv3 =>
        ∃ x20 : Int, e = .returned (.int .u32 x20) ∧
        split ((IntKind.u32.wrap ((x13N : Nat) : Int) : Int) != x20) (
          J true wv3) (
          ∃ x24 : ByteArray, ∃ wv4, (convert 24 9 (.slice x15A x15N x15C) : Sem Value).run Try.prog wv3 = .ok (.string x24) wv4 ∧
          ∃ x26 : ByteArray, ∃ wv5, (convert 24 9 (.slice bA bN bC) : Sem Value).run Try.prog wv4 = .ok (.string x26) wv5 ∧
          J (!((x24 : ByteArray).toList == (x26 : ByteArray).toList)) wv5)) ∧ ∀ (_gv : Nat → Value) (x28 : Bool), ∀ wv3, J x28 wv3 →
      split x28 (
        R (.tuple #[(.slice none 0 0), (.int .i64 272)]) wv3) (
        R (.tuple #[(.slice x13A x13N x13C), (.int .i64 0)]) wv3)))

def RUnpack_an : Ann := (.node none .leaf (.node none .leaf (.node none .leaf (.node none .leaf (.node none .leaf (.node none (.node none (.node (some ⟨[(28, .bool)], [16, 17, 18, 19, 20, 21, 22, 23, 24, 25, 26, 27, 28]⟩) .leaf .leaf) .leaf) .leaf))))))

theorem RUnpack_eq (bA : Option Addr) (bN : Nat) (bC : Nat) (R : Post) (w : World) : RUnpack_wp bA bN bC R w = vcF Try.prog callees [] Try.f11 RUnpack_an [(.slice bA bN bC)] R none w := by kernel_rfl

theorem RUnpack_calls (bA : Option Addr) (bN : Nat) (bC : Nat) {R : Post} {w : World} (h : RUnpack_wp bA bN bC R w) : Calls Try.prog 11 #[(.slice bA bN bC)] w fun e w' => ∃ v, e = .returned v ∧ R v w' :=
  returns_of_vc Try.func11 callees_ok follows_mixed ((RUnpack_eq bA bN bC R w).mp h)

/- warden/wardenlaw27.same (function 12); loop rrlrb: i:int -/
def Same_wp (aA : Option Addr) (aN : Nat) (aC : Nat) (bA : Option Addr) (bN : Nat) (bC : Nat) (R : Post) (w : World) : Prop :=
  split ((((aN : Nat) : Int) : Int) != ((bN : Nat) : Int)) (
    R (.bool false) w) (
    ∀ i : Int, i = 0 →
    ∃ I : Nat → Int → World → Prop, (∃ m, I m i w) ∧ ∀ (m : Nat) (_gv : Nat → Value) (i1 : Int), ∀ wv, I m i1 wv →
    split (decide ((i1 : Int) < ((aN : Nat) : Int))) (
      (0 ≤ (i1 : Int) ∧ (i1 : Int) < ((aN : Nat) : Int)) ∧
      onSome aA fun p19 =>
      ∃ x20 : Int, wv.drew.cell? (p19.add (Int.toNat i1 * 1)) = some (.int .u32 x20) ∧
      (0 ≤ (i1 : Int) ∧ (i1 : Int) < ((bN : Nat) : Int)) ∧
      onSome bA fun p23 =>
      ∃ x24 : Int, wv.drew.cell? (p23.add (Int.toNat i1 * 1)) = some (.int .u32 x24) ∧
      split ((x20 : Int) != x24) (
        R (.bool false) wv.drew) (
        ∀ i2 : Int, i2 = (IntKind.i64.wrap (i1 + 1)) →
        ∃ m1, m1 < m ∧ I m1 i2 wv.drew)) (
      R (.bool true) wv))

def Same_an : Ann := (.node none .leaf (.node none .leaf (.node none (.node none .leaf (.node none (.node (some ⟨[(5, .int .i64)], [4, 5, 11, 12, 13, 14, 15, 16, 17, 18, 19, 20, 21, 22, 23, 24, 25]⟩) .leaf .leaf) .leaf)) .leaf)))

theorem Same_eq (aA : Option Addr) (aN : Nat) (aC : Nat) (bA : Option Addr) (bN : Nat) (bC : Nat) (R : Post) (w : World) : Same_wp aA aN aC bA bN bC R w = vcF Try.prog callees [5] Try.f12 Same_an [(.slice aA aN aC), (.slice bA bN bC)] R none w := by kernel_rfl

theorem Same_calls (aA : Option Addr) (aN : Nat) (aC : Nat) (bA : Option Addr) (bN : Nat) (bC : Nat) {R : Post} {w : World} (h : Same_wp aA aN aC bA bN bC R w) : Calls Try.prog 12 #[(.slice aA aN aC), (.slice bA bN bC)] w fun e w' => ∃ v, e = .returned v ∧ R v w' :=
  returns_of_vc Try.func12 callees_ok follows_mixed ((Same_eq aA aN aC bA bN bC R w).mp h)

/- warden/wardenlaw27.within (function 13) -/
def Within_wp (x : Int) (lo : Int) (hi : Int) (R : Post) (w : World) : Prop :=
  nz (IntKind.i64.wrap ((IntKind.i64.wrap (hi - lo)) + 1)) (
    ∀ r : Int, r = ((x : Int).tmod (IntKind.i64.wrap ((IntKind.i64.wrap (hi - lo)) + 1))) →
    split (decide ((r : Int) < 0)) (
      ∀ r1 : Int, r1 = (IntKind.i64.wrap ((IntKind.i64.wrap ((IntKind.i64.wrap (r + hi)) - lo)) + 1)) →
      R (.int .i64 (IntKind.i64.wrap (lo + r1))) w) (
      R (.int .i64 (IntKind.i64.wrap (lo + r))) w))

def Within_an : Ann := .leaf

theorem Within_eq (x : Int) (lo : Int) (hi : Int) (R : Post) (w : World) : Within_wp x lo hi R w = vcF Try.prog callees [7] Try.f13 Within_an [(.int .i64 x), (.int .i64 lo), (.int .i64 hi)] R none w := by kernel_rfl

theorem Within_calls (x : Int) (lo : Int) (hi : Int) {R : Post} {w : World} (h : Within_wp x lo hi R w) : Calls Try.prog 13 #[(.int .i64 x), (.int .i64 lo), (.int .i64 hi)] w fun e w' => ∃ v, e = .returned v ∧ R v w' :=
  returns_of_vc Try.func13 callees_ok follows_mixed ((Within_eq x lo hi R w).mp h)

/- warden/snap.put (function 14) -/
def Put_wp (outA : Option Addr) (outN : Nat) (outC : Nat) (wv : Int) (R : Post) (w : World) : Prop :=
  ∃ x18A : Option Addr, ∃ x18N : Nat, ∃ x18C : Nat, ∃ wv1, (Builtin.append_ #[24, 24] 24 #[(.slice outA outN outC), (.slice (some ⟨w.heap.size, 0, none⟩) 4 4)] : Sem Value).run Try.prog (w.alloc (.cells #[(.int .u8 (IntKind.u8.wrap ((wv : Int).fdiv (2 ^ 24)))), (.int .u8 (IntKind.u8.wrap ((wv : Int).fdiv (2 ^ 16)))), (.int .u8 (IntKind.u8.wrap ((wv : Int).fdiv (2 ^ 8)))), (.int .u8 (IntKind.u8.wrap wv))] 5)) = .ok (.slice x18A x18N x18C) wv1 ∧
  R (.slice x18A x18N x18C) wv1

def Put_an : Ann := .leaf

theorem Put_eq (outA : Option Addr) (outN : Nat) (outC : Nat) (wv : Int) (R : Post) (w : World) : Put_wp outA outN outC wv R w = vcF Try.prog callees [] Try.f14 Put_an [(.slice outA outN outC), (.int .u32 wv)] R none w := by kernel_rfl

theorem Put_calls (outA : Option Addr) (outN : Nat) (outC : Nat) (wv : Int) {R : Post} {w : World} (h : Put_wp outA outN outC wv R w) : Calls Try.prog 14 #[(.slice outA outN outC), (.int .u32 wv)] w fun e w' => ∃ v, e = .returned v ∧ R v w' :=
  returns_of_vc Try.func14 callees_ok follows_mixed ((Put_eq outA outN outC wv R w).mp h)

/- warden/snap.alike (function 15); cut rrlbLll (region): x17:bool; loop rrlb: n:int -/
def Alike_wp (wordsA : Option Addr) (wordsN : Nat) (wordsC : Nat) (R : Post) (w : World) : Prop :=
  ∀ n : Int, n = 1 →
  ∃ I : Nat → Int → World → Prop, (∃ m, I m n w) ∧ ∀ (m : Nat) (_gv : Nat → Value) (n1 : Int), ∀ wv, I m n1 wv →
  ∃ J : Bool → World → Prop, (
    split (decide ((n1 : Int) < ((wordsN : Nat) : Int))) (
      (0 ≤ (n1 : Int) ∧ (n1 : Int) < ((wordsN : Nat) : Int)) ∧
      onSome wordsA fun p11 =>
      ∃ x12 : Int, wv.drew.cell? (p11.add (Int.toNat n1 * 1)) = some (.int .u32 x12) ∧
      (0 ≤ (0 : Int) ∧ (0 : Int) < ((wordsN : Nat) : Int)) ∧
      onSome wordsA fun p14 =>
      ∃ x15 : Int, wv.drew.cell? (p14.add (Int.toNat 0 * 1)) = some (.int .u32 x15) ∧
      J ((x12 : Int) == x15) wv.drew) (
      J false wv.drew)) ∧ ∀ (_gv1 : Nat → Value) (x17 : Bool), ∀ wv1, J x17 wv1 →
  split x17 (
    ∀ n2 : Int, n2 = (IntKind.i64.wrap (n1 + 1)) →
    ∃ m1, m1 < m ∧ I m1 n2 wv1) (
    R (.int .i64 n1) wv1)

def Alike_an : Ann := (.node none .leaf (.node none .leaf (.node none (.node none (.node (some ⟨[(3, .int .i64)], [3, 4, 5, 6, 7, 8, 9, 10, 11, 12, 13, 14, 15, 16, 17, 18, 19]⟩) (.node none (.node none (.node (some ⟨[(17, .bool)], [4, 5, 6, 7, 8, 9, 10, 11, 12, 13, 14, 15, 16, 17]⟩) .leaf .leaf) .leaf) .leaf) .leaf) .leaf) .leaf)))

theorem Alike_eq (wordsA : Option Addr) (wordsN : Nat) (wordsC : Nat) (R : Post) (w : World) : Alike_wp wordsA wordsN wordsC R w = vcF Try.prog callees [3] Try.f15 Alike_an [(.slice wordsA wordsN wordsC)] R none w := by kernel_rfl

theorem Alike_calls (wordsA : Option Addr) (wordsN : Nat) (wordsC : Nat) {R : Post} {w : World} (h : Alike_wp wordsA wordsN wordsC R w) : Calls Try.prog 15 #[(.slice wordsA wordsN wordsC)] w fun e w' => ∃ v, e = .returned v ∧ R v w' :=
  returns_of_vc Try.func15 callees_ok follows_mixed ((Alike_eq wordsA wordsN wordsC R w).mp h)

/- warden/snap.unlike (function 16); cut rrlbLll (region): x26:bool; loop rrlb: n:int -/
def Unlike_wp (wordsA : Option Addr) (wordsN : Nat) (wordsC : Nat) (R : Post) (w : World) : Prop :=
  ∀ n : Int, n = 1 →
  ∃ I : Nat → Int → World → Prop, (∃ m, I m n w) ∧ ∀ (m : Nat) (_gv : Nat → Value) (n1 : Int), ∀ wv, I m n1 wv →
  ∃ J : Bool → World → Prop, (
    split (decide ((n1 : Int) < ((wordsN : Nat) : Int))) (
      split ((IntKind.i64.wrap (n1 + 1) : Int) == ((wordsN : Nat) : Int)) (
        J true wv.drew) (
        (0 ≤ (n1 : Int) ∧ (n1 : Int) < ((wordsN : Nat) : Int)) ∧
        onSome wordsA fun p17 =>
        ∃ x18 : Int, wv.drew.cell? (p17.add (Int.toNat n1 * 1)) = some (.int .u32 x18) ∧
        (0 ≤ (IntKind.i64.wrap (n1 + 1) : Int) ∧ (IntKind.i64.wrap (n1 + 1) : Int) < ((wordsN : Nat) : Int)) ∧
        onSome wordsA fun p22 =>
        ∃ x23 : Int, wv.drew.cell? (p22.add (Int.toNat (IntKind.i64.wrap (n1 + 1)) * 1)) = some (.int .u32 x23) ∧
        J ((x18 : Int) != x23) wv.drew)) (
      J false wv.drew)) ∧ ∀ (_gv1 : Nat → Value) (x26 : Bool), ∀ wv1, J x26 wv1 →
  split x26 (
    ∀ n2 : Int, n2 = (IntKind.i64.wrap (n1 + 1)) →
    ∃ m1, m1 < m ∧ I m1 n2 wv1) (
    R (.int .i64 n1) wv1)

def Unlike_an : Ann := (.node none .leaf (.node none .leaf (.node none (.node none (.node (some ⟨[(3, .int .i64)], [3, 4, 5, 6, 7, 8, 9, 10, 11, 12, 13, 14, 15, 16, 17, 18, 19, 20, 21, 22, 23, 24, 25, 26, 27, 28]⟩) (.node none (.node none (.node (some ⟨[(26, .bool)], [4, 5, 6, 7, 8, 9, 10, 11, 12, 13, 14, 15, 16, 17, 18, 19, 20, 21, 22, 23, 24, 25, 26]⟩) .leaf .leaf) .leaf) .leaf) .leaf) .leaf) .leaf)))

theorem Unlike_eq (wordsA : Option Addr) (wordsN : Nat) (wordsC : Nat) (R : Post) (w : World) : Unlike_wp wordsA wordsN wordsC R w = vcF Try.prog callees [3] Try.f16 Unlike_an [(.slice wordsA wordsN wordsC)] R none w := by kernel_rfl

theorem Unlike_calls (wordsA : Option Addr) (wordsN : Nat) (wordsC : Nat) {R : Post} {w : World} (h : Unlike_wp wordsA wordsN wordsC R w) : Calls Try.prog 16 #[(.slice wordsA wordsN wordsC)] w fun e w' => ∃ v, e = .returned v ∧ R v w' :=
  returns_of_vc Try.func16 callees_ok follows_mixed ((Unlike_eq wordsA wordsN wordsC R w).mp h)

/- warden/wardenref27.four (function 17) -/
def Four_wp (wv : Int) (R : Post) (w : World) : Prop :=
  R (.slice (some ⟨w.heap.size, 0, none⟩) 4 4) (w.alloc (.cells #[(.int .u8 (IntKind.u8.wrap ((wv : Int).fdiv (2 ^ 24)))), (.int .u8 (IntKind.u8.wrap ((wv : Int).fdiv (2 ^ 16)))), (.int .u8 (IntKind.u8.wrap ((wv : Int).fdiv (2 ^ 8)))), (.int .u8 (IntKind.u8.wrap wv))] 5))

def Four_an : Ann := .leaf

theorem Four_eq (wv : Int) (R : Post) (w : World) : Four_wp wv R w = vcF Try.prog callees [] Try.f17 Four_an [(.int .u32 wv)] R none w := by kernel_rfl

theorem Four_calls (wv : Int) {R : Post} {w : World} (h : Four_wp wv R w) : Calls Try.prog 17 #[(.int .u32 wv)] w fun e w' => ∃ v, e = .returned v ∧ R v w' :=
  returns_of_vc Try.func17 callees_ok follows_mixed ((Four_eq wv R w).mp h)

/- warden/wardenref27.alike (function 18); cut rrlbLll (region): x28:bool; loop rrlb: n:int -/
def RAlike_wp (wordsA : Option Addr) (wordsN : Nat) (wordsC : Nat) (atv : Int) (R : Post) (w : World) : Prop :=
  ∀ n : Int, n = 1 →
  ∃ I : Nat → Int → World → Prop, (∃ m, I m n w) ∧ ∀ (m : Nat) (_gv : Nat → Value) (n1 : Int), ∀ wv, I m n1 wv →
  ∃ J : Bool → World → Prop, (
    split (decide ((n1 : Int) < 32767)) (
      split (decide ((IntKind.i64.wrap (atv + n1) : Int) < ((wordsN : Nat) : Int))) (
        (0 ≤ (IntKind.i64.wrap (atv + n1) : Int) ∧ (IntKind.i64.wrap (atv + n1) : Int) < ((wordsN : Nat) : Int)) ∧
        onSome wordsA fun p21 =>
        ∃ x22 : Int, wv.drew.cell? (p21.add (Int.toNat (IntKind.i64.wrap (atv + n1)) * 1)) = some (.int .u32 x22) ∧
        (0 ≤ (atv : Int) ∧ (atv : Int) < ((wordsN : Nat) : Int)) ∧
        onSome wordsA fun p25 =>
        ∃ x26 : Int, wv.drew.cell? (p25.add (Int.toNat atv * 1)) = some (.int .u32 x26) ∧
        J ((x22 : Int) == x26) wv.drew) (
        J false wv.drew)) (
      J false wv.drew)) ∧ ∀ (_gv1 : Nat → Value) (x28 : Bool), ∀ wv1, J x28 wv1 →
  split x28 (
    ∀ n2 : Int, n2 = (IntKind.i64.wrap (n1 + 1)) →
    ∃ m1, m1 < m ∧ I m1 n2 wv1) (
    R (.int .i64 n1) wv1)

def RAlike_an : Ann := (.node none .leaf (.node none .leaf (.node none (.node none (.node (some ⟨[(5, .int .i64)], [5, 6, 7, 8, 9, 10, 11, 12, 13, 14, 15, 16, 17, 18, 19, 20, 21, 22, 23, 24, 25, 26, 27, 28, 29, 30]⟩) (.node none (.node none (.node (some ⟨[(28, .bool)], [6, 7, 8, 9, 10, 11, 12, 13, 14, 15, 16, 17, 18, 19, 20, 21, 22, 23, 24, 25, 26, 27, 28]⟩) .leaf .leaf) .leaf) .leaf) .leaf) .leaf) .leaf)))

theorem RAlike_eq (wordsA : Option Addr) (wordsN : Nat) (wordsC : Nat) (atv : Int) (R : Post) (w : World) : RAlike_wp wordsA wordsN wordsC atv R w = vcF Try.prog callees [5] Try.f18 RAlike_an [(.slice wordsA wordsN wordsC), (.int .i64 atv)] R none w := by kernel_rfl

theorem RAlike_calls (wordsA : Option Addr) (wordsN : Nat) (wordsC : Nat) (atv : Int) {R : Post} {w : World} (h : RAlike_wp wordsA wordsN wordsC atv R w) : Calls Try.prog 18 #[(.slice wordsA wordsN wordsC), (.int .i64 atv)] w fun e w' => ∃ v, e = .returned v ∧ R v w' :=
  returns_of_vc Try.func18 callees_ok follows_mixed ((RAlike_eq wordsA wordsN wordsC atv R w).mp h)

/- warden/snap.get (function 19) -/
def Get_wp (bA : Option Addr) (bN : Nat) (bC : Nat) (R : Post) (w : World) : Prop :=
  (0 ≤ (0 : Int) ∧ (0 : Int) < ((bN : Nat) : Int)) ∧
  onSome bA fun p4 =>
  ∃ x5 : Int, w.drew.cell? (p4.add (Int.toNat 0 * 1)) = some (.int .u8 x5) ∧
  (0 ≤ (1 : Int) ∧ (1 : Int) < ((bN : Nat) : Int)) ∧
  onSome bA fun p9 =>
  ∃ x10 : Int, w.drew.cell? (p9.add (Int.toNat 1 * 1)) = some (.int .u8 x10) ∧
  (0 ≤ (2 : Int) ∧ (2 : Int) < ((bN : Nat) : Int)) ∧
  onSome bA fun p15 =>
  ∃ x16 : Int, w.drew.cell? (p15.add (Int.toNat 2 * 1)) = some (.int .u8 x16) ∧
  (0 ≤ (3 : Int) ∧ (3 : Int) < ((bN : Nat) : Int)) ∧
  onSome bA fun p21 =>
  ∃ x22 : Int, w.drew.cell? (p21.add (Int.toNat 3 * 1)) = some (.int .u8 x22) ∧
  R (.int .u32 (IntKind.u32.wrap (BitVec.ofInt IntKind.u32.bits (IntKind.u32.wrap (BitVec.ofInt IntKind.u32.bits (IntKind.u32.wrap (BitVec.ofInt IntKind.u32.bits (IntKind.u32.wrap ((IntKind.u32.wrap x5 : Int) * 2 ^ 24)) ||| BitVec.ofInt IntKind.u32.bits (IntKind.u32.wrap ((IntKind.u32.wrap x10 : Int) * 2 ^ 16))).toNat) ||| BitVec.ofInt IntKind.u32.bits (IntKind.u32.wrap ((IntKind.u32.wrap x16 : Int) * 2 ^ 8))).toNat) ||| BitVec.ofInt IntKind.u32.bits (IntKind.u32.wrap x22)).toNat)) w.drew

def Get_an : Ann := .leaf

theorem Get_eq (bA : Option Addr) (bN : Nat) (bC : Nat) (R : Post) (w : World) : Get_wp bA bN bC R w = vcF Try.prog callees [] Try.f19 Get_an [(.slice bA bN bC)] R none w := by kernel_rfl

theorem Get_calls (bA : Option Addr) (bN : Nat) (bC : Nat) {R : Post} {w : World} (h : Get_wp bA bN bC R w) : Calls Try.prog 19 #[(.slice bA bN bC)] w fun e w' => ∃ v, e = .returned v ∧ R v w' :=
  returns_of_vc Try.func19 callees_ok follows_mixed ((Get_eq bA bN bC R w).mp h)

/- bytes.Equal (function 20) -/
def BEqual_wp (aA : Option Addr) (aN : Nat) (aC : Nat) (bA : Option Addr) (bN : Nat) (bC : Nat) (R : Post) (w : World) : Prop :=
  ∃ x6 : ByteArray, ∃ wv, (convert 24 9 (.slice aA aN aC) : Sem Value).run Try.prog w = .ok (.string x6) wv ∧
  ∃ x8 : ByteArray, ∃ wv1, (convert 24 9 (.slice bA bN bC) : Sem Value).run Try.prog wv = .ok (.string x8) wv1 ∧
  R (.bool ((x6 : ByteArray).toList == (x8 : ByteArray).toList)) wv1

def BEqual_an : Ann := .leaf

theorem BEqual_eq (aA : Option Addr) (aN : Nat) (aC : Nat) (bA : Option Addr) (bN : Nat) (bC : Nat) (R : Post) (w : World) : BEqual_wp aA aN aC bA bN bC R w = vcF Try.prog callees [] Try.f20 BEqual_an [(.slice aA aN aC), (.slice bA bN bC)] R none w := by kernel_rfl

theorem BEqual_calls (aA : Option Addr) (aN : Nat) (aC : Nat) (bA : Option Addr) (bN : Nat) (bC : Nat) {R : Post} {w : World} (h : BEqual_wp aA aN aC bA bN bC R w) : Calls Try.prog 20 #[(.slice aA aN aC), (.slice bA bN bC)] w fun e w' => ∃ v, e = .returned v ∧ R v w' :=
  returns_of_vc Try.func20 callees_ok follows_mixed ((BEqual_eq aA aN aC bA bN bC R w).mp h)

/- warden/wardenref27.number (function 21) -/
def Number_wp (bA : Option Addr) (bN : Nat) (bC : Nat) (R : Post) (w : World) : Prop :=
  (0 ≤ (0 : Int) ∧ (0 : Int) < ((bN : Nat) : Int)) ∧
  onSome bA fun p4 =>
  ∃ x5 : Int, w.drew.cell? (p4.add (Int.toNat 0 * 1)) = some (.int .u8 x5) ∧
  (0 ≤ (1 : Int) ∧ (1 : Int) < ((bN : Nat) : Int)) ∧
  onSome bA fun p9 =>
  ∃ x10 : Int, w.drew.cell? (p9.add (Int.toNat 1 * 1)) = some (.int .u8 x10) ∧
  (0 ≤ (2 : Int) ∧ (2 : Int) < ((bN : Nat) : Int)) ∧
  onSome bA fun p15 =>
  ∃ x16 : Int, w.drew.cell? (p15.add (Int.toNat 2 * 1)) = some (.int .u8 x16) ∧
  (0 ≤ (3 : Int) ∧ (3 : Int) < ((bN : Nat) : Int)) ∧
  onSome bA fun p21 =>
  ∃ x22 : Int, w.drew.cell? (p21.add (Int.toNat 3 * 1)) = some (.int .u8 x22) ∧
  R (.int .u32 (IntKind.u32.wrap ((IntKind.u32.wrap ((IntKind.u32.wrap ((IntKind.u32.wrap ((IntKind.u32.wrap x5 : Int) * 2 ^ 24)) + (IntKind.u32.wrap ((IntKind.u32.wrap x10 : Int) * 2 ^ 16)))) + (IntKind.u32.wrap ((IntKind.u32.wrap x16 : Int) * 2 ^ 8)))) + (IntKind.u32.wrap x22)))) w.drew

def Number_an : Ann := .leaf

theorem Number_eq (bA : Option Addr) (bN : Nat) (bC : Nat) (R : Post) (w : World) : Number_wp bA bN bC R w = vcF Try.prog callees [] Try.f21 Number_an [(.slice bA bN bC)] R none w := by kernel_rfl

theorem Number_calls (bA : Option Addr) (bN : Nat) (bC : Nat) {R : Post} {w : World} (h : Number_wp bA bN bC R w) : Calls Try.prog 21 #[(.slice bA bN bC)] w fun e w' => ∃ v, e = .returned v ∧ R v w' :=
  returns_of_vc Try.func21 callees_ok follows_mixed ((Number_eq bA bN bC R w).mp h)

/- warden/wardenref27.loose (function 22); cut rrrlrbLrbrrlrlrrlrbLll (region): x60:bool; loop rrrlrbLrbrrlrlrrlrb: l:slice, i:int; cut rrrlrbLrbrrrrbLll (region): x84:bool; loop rrrlrbLrbrrrrb: l:slice, at:int, i:int; cut rrrlrbLll (region): x23:bool; loop rrrlrb: l:slice, at:int -/
def Loose_wp (bA : Option Addr) (bN : Nat) (bC : Nat) (R : Post) (w : World) : Prop :=
  Calls Try.prog 21 #[(.slice bA bN bC)] w fun e wv =>
  ∃ x11 : Int, e = .returned (.int .u32 x11) ∧
  ∀ n : Int, n = (IntKind.i64.wrap x11) →
  ∀ atv : Int, atv = 4 →
  ∃ I : Nat → Option Addr → Nat → Nat → Int → World → Prop, (∃ m, I m none 0 0 atv wv) ∧ ∀ (m : Nat) (_gv : Nat → Value) (lA : Option Addr) (lN : Nat) (lC : Nat) (atv1 : Int), ∀ wv1, I m lA lN lC atv1 wv1 →
  ∃ J : Bool → World → Prop, (
    split (decide ((IntKind.i64.wrap (atv1 + 2) : Int) ≤ ((bN : Nat) : Int))) (
      J (decide ((((lN : Nat) : Int) : Int) < n)) wv1) (
      J false wv1)) ∧ ∀ (_gv1 : Nat → Value) (x23 : Bool), ∀ wv2, J x23 wv2 →
  split x23 (
    (0 ≤ (atv1 : Int) ∧ (atv1 : Int) < ((bN : Nat) : Int)) ∧
    onSome bA fun p26 =>
    ∃ x27 : Int, wv2.drew.cell? (p26.add (Int.toNat atv1 * 1)) = some (.int .u8 x27) ∧
    (0 ≤ (IntKind.i64.wrap (atv1 + 1) : Int) ∧ (IntKind.i64.wrap (atv1 + 1) : Int) < ((bN : Nat) : Int)) ∧
    onSome bA fun p33 =>
    ∃ x34 : Int, wv2.drew.cell? (p33.add (Int.toNat (IntKind.i64.wrap (atv1 + 1)) * 1)) = some (.int .u8 x34) ∧
    ∀ k : Int, k = (IntKind.i64.wrap ((IntKind.i64.wrap ((IntKind.i64.wrap x27 : Int) * 2 ^ 8)) + (IntKind.i64.wrap x34))) →
    ∀ atv2 : Int, atv2 = (IntKind.i64.wrap (atv1 + 2)) →
    split (decide ((k : Int) ≥ 32768)) (
      split (decide ((IntKind.i64.wrap (atv2 + 4) : Int) > ((bN : Nat) : Int))) (
        R (.slice lA lN lC) wv2.drew) (
        (0 ≤ (atv2 : Int) ∧ (atv2 : Int) ≤ ((bN : Nat) : Int)) ∧
        ∀ x49A : Option Addr, x49A = (if bC = (Int.toNat atv2) then bA else (bA : Option Addr).map (·.add ((Int.toNat atv2) * 1))) → ∀ x49N : Nat, x49N = bN - (Int.toNat atv2) → ∀ x49C : Nat, x49C = bC - (Int.toNat atv2) →
        Calls Try.prog 21 #[(.slice x49A x49N x49C)] wv2.drew fun e wv3 =>
        ∃ x50 : Int, e = .returned (.int .u32 x50) ∧
        ∀ i : Int, i = 0 →
        ∃ I1 : Nat → Option Addr → Nat → Nat → Int → World → Prop, (∃ m2, I1 m2 lA lN lC i wv3) ∧ ∀ (m2 : Nat) (_gv2 : Nat → Value) (lA1 : Option Addr) (lN1 : Nat) (lC1 : Nat) (i1 : Int), ∀ wv4, I1 m2 lA1 lN1 lC1 i1 wv4 →
        ∃ J1 : Bool → World → Prop, (
          split (decide ((i1 : Int) < (IntKind.i64.wrap (k - 32768)))) (
            J1 (decide ((((lN1 : Nat) : Int) : Int) ≤ n)) wv4) (
            J1 false wv4)) ∧ ∀ (_gv3 : Nat → Value) (x60 : Bool), ∀ wv5, J1 x60 wv5 →
        split x60 (
          ∃ x66A : Option Addr, ∃ x66N : Nat, ∃ x66C : Nat, ∃ wv6, (Builtin.append_ #[23, 23] 23 #[(.slice lA1 lN1 lC1), (.slice (some ⟨wv5.heap.size, 0, none⟩) 1 1)] : Sem Value).run Try.prog (wv5.alloc (.cells #[(.int .u32 x50)] 37)) = .ok (.slice x66A x66N x66C) wv6 ∧
          ∀ i2 : Int, i2 = (IntKind.i64.wrap (i1 + 1)) →
          ∃ m3, m3 < m2 ∧ I1 m3 x66A x66N x66C i2 wv6) (
          ∀ atv3 : Int, atv3 = (IntKind.i64.wrap (atv2 + 4)) →
          ∃ m1, m1 < m ∧ I m1 lA1 lN1 lC1 atv3 wv5))) (
      ∀ i : Int, i = 0 →
      ∃ I1 : Nat → Option Addr → Nat → Nat → Int → Int → World → Prop, (∃ m2, I1 m2 lA lN lC atv2 i wv2.drew) ∧ ∀ (m2 : Nat) (_gv2 : Nat → Value) (lA1 : Option Addr) (lN1 : Nat) (lC1 : Nat) (atv3 : Int) (i1 : Int), ∀ wv3, I1 m2 lA1 lN1 lC1 atv3 i1 wv3 →
      ∃ J1 : Bool → World → Prop, (
        split (decide ((i1 : Int) < k)) (
          split (decide ((IntKind.i64.wrap (atv3 + 4) : Int) ≤ ((bN : Nat) : Int))) (
            J1 (decide ((((lN1 : Nat) : Int) : Int) ≤ n)) wv3) (
            J1 false wv3)) (
          J1 false wv3)) ∧ ∀ (_gv3 : Nat → Value) (x84 : Bool), ∀ wv4, J1 x84 wv4 →
      split x84 (
        (0 ≤ (atv3 : Int) ∧ (atv3 : Int) ≤ ((bN : Nat) : Int)) ∧
        ∀ x90A : Option Addr, x90A = (if bC = (Int.toNat atv3) then bA else (bA : Option Addr).map (·.add ((Int.toNat atv3) * 1))) → ∀ x90N : Nat, x90N = bN - (Int.toNat atv3) → ∀ x90C : Nat, x90C = bC - (Int.toNat atv3) →
        Calls Try.prog 21 #[(.slice x90A x90N x90C)] wv4 fun e wv5 =>
        ∃ x91 : Int, e = .returned (.int .u32 x91) ∧
        ∃ x93A : Option Addr, ∃ x93N : Nat, ∃ x93C : Nat, ∃ wv6, (Builtin.append_ #[23, 23] 23 #[(.slice lA1 lN1 lC1), (.slice (some ⟨wv5.heap.size, 0, none⟩) 1 1)] : Sem Value).run Try.prog (wv5.alloc (.cells #[(.int .u32 x91)] 37)) = .ok (.slice x93A x93N x93C) wv6 ∧
        ∀ atv4 : Int, atv4 = (IntKind.i64.wrap (atv3 + 4)) →
        ∀ i2 : Int, i2 = (IntKind.i64.wrap (i1 + 1)) →
        ∃ m3, m3 < m2 ∧ I1 m3 x93A x93N x93C atv4 i2 wv6) (
        ∃ m1, m1 < m ∧ I m1 lA1 lN1 lC1 atv3 wv4))) (
    R (.slice lA lN lC) wv2)

def Loose_an : Ann := (.node none .leaf (.node none .leaf (.node none .leaf (.node none (.node none .leaf (.node none (.node (some ⟨[(4, .slice), (5, .int .i64)], [2, 4, 5, 6, 7, 8, 9, 13, 14, 15, 16, 17, 18, 19, 20, 21, 22, 23, 24, 25, 26, 27, 28, 29, 30, 31, 32, 33, 34, 35, 36, 37, 38, 39, 40, 41, 42, 43, 44, 45, 46, 47, 48, 49, 50, 51, 52, 53, 54, 55, 56, 57, 58, 59, 60, 61, 62, 63, 64, 65, 66, 67, 68, 69, 70, 71, 72, 73, 74, 75, 76, 77, 78, 79, 80, 81, 82, 83, 84, 85, 86, 87, 88, 89, 90, 91, 92, 93, 94, 95]⟩) (.node none (.node none (.node (some ⟨[(23, .bool)], [13, 14, 15, 16, 17, 18, 19, 20, 21, 22, 23]⟩) .leaf .leaf) .leaf) (.node none (.node none .leaf (.node none .leaf (.node none (.node none .leaf (.node none (.node none .leaf (.node none .leaf (.node none (.node none .leaf (.node none (.node (some ⟨[(4, .slice), (8, .int .i64)], [4, 8, 51, 52, 53, 54, 55, 56, 57, 58, 59, 60, 61, 62, 63, 64, 65, 66]⟩) (.node none (.node none (.node (some ⟨[(60, .bool)], [51, 52, 53, 54, 55, 56, 57, 58, 59, 60]⟩) .leaf .leaf) .leaf) .leaf) .leaf) .leaf)) .leaf))) .leaf)) (.node none .leaf (.node none (.node (some ⟨[(4, .slice), (5, .int .i64), (9, .int .i64)], [4, 5, 9, 69, 70, 71, 72, 73, 74, 75, 76, 77, 78, 79, 80, 81, 82, 83, 84, 85, 86, 87, 88, 89, 90, 91, 92, 93, 94, 95]⟩) (.node none (.node none (.node (some ⟨[(84, .bool)], [69, 70, 71, 72, 73, 74, 75, 76, 77, 78, 79, 80, 81, 82, 83, 84]⟩) .leaf .leaf) .leaf) .leaf) .leaf) .leaf))))) .leaf)) .leaf) .leaf)) .leaf))))

theorem Loose_eq (bA : Option Addr) (bN : Nat) (bC : Nat) (R : Post) (w : World) : Loose_wp bA bN bC R w = vcF Try.prog callees [3, 4, 5, 6, 8, 9] Try.f22 Loose_an [(.slice bA bN bC)] R none w := by kernel_rfl

theorem Loose_calls (bA : Option Addr) (bN : Nat) (bC : Nat) {R : Post} {w : World} (h : Loose_wp bA bN bC R w) : Calls Try.prog 22 #[(.slice bA bN bC)] w fun e w' => ∃ v, e = .returned v ∧ R v w' :=
  returns_of_vc Try.func22 callees_ok follows_mixed ((Loose_eq bA bN bC R w).mp h)

/- warden/wardenlaw27.SnapPacks (function 3); cut rrrrrrrrl (region): x6:bool; cut rrll (region): x30:bool -/
def Law_wp (runsA : Option Addr) (runsN : Nat) (runsC : Nat) (listA : Option Addr) (listN : Nat) (listC : Nat) (bA : Option Addr) (bN : Nat) (bC : Nat) (R : Post) (w : World) : Prop :=
  Calls Try.prog 4 #[(.slice runsA runsN runsC)] w fun e wv =>
  ∃ x14A : Option Addr, ∃ x14N : Nat, ∃ x14C : Nat, e = .returned (.slice x14A x14N x14C) ∧
  ∃ J : Bool → World → Prop, (
    ∃ b, b ≤ wv.heap.size ∧
    Calls Try.prog 5 #[] wv.drew fun e wv1 =>
    ∃ x15 : Bool, e = .returned (.bool x15) ∧
    Below b wv.drew wv1 ∧ ∃ b1, b ≤ b1 ∧
    split (!x15) (
      J true wv1) (
      Calls Try.prog 6 #[] wv1 fun e wv2 =>
      ∃ x18 : Bool, e = .returned (.bool x18) ∧
      Below b1 wv1 wv2 ∧ ∃ b2, b1 ≤ b2 ∧
      split (!x18) (
        J true wv2) (
        Calls Try.prog 7 #[(.slice x14A x14N x14C)] wv2 fun e wv3 =>
        ∃ x23A : Option Addr, ∃ x23N : Nat, ∃ x23C : Nat, e = .returned (.slice x23A x23N x23C) ∧
        Below b2 wv2 wv3 ∧ ∃ b3, b2 ≤ b3 ∧
        ∃ x24 : ByteArray, (∀ w', Below b3 wv3 w' → (convert 24 9 (.slice x23A x23N x23C)).run Try.prog w' = .ok (.string x24) w') ∧
        Calls Try.prog 4 #[(.slice runsA runsN runsC)] wv3 fun e wv4 =>
        ∃ x26A : Option Addr, ∃ x26N : Nat, ∃ x26C : Nat, e = .returned (.slice x26A x26N x26C) ∧
        Below b3 wv3 wv4 ∧ ∃ b4, b3 ≤ b4 ∧
        Calls Try.prog 8 #[(.slice x26A x26N x26C)] wv4 fun e wv5 =>
        ∃ x27A : Option Addr, ∃ x27N : Nat, ∃ x27C : Nat, e = .returned (.slice x27A x27N x27C) ∧
        Below b4 wv4 wv5 ∧ ∃ b5, b4 ≤ b5 ∧
        ∃ x28 : ByteArray, (∀ w', Below b5 wv5 w' → (convert 24 9 (.slice x27A x27N x27C)).run Try.prog w' = .ok (.string x28) w') ∧
        J (!((x24 : ByteArray).toList == (x28 : ByteArray).toList)) wv5))) ∧ ∀ (_gv : Nat → Value) (x30 : Bool), ∀ wv1, J x30 wv1 →
  split x30 (
    R (.bool false) wv1) (
    ∃ x33A : Option Addr, ∃ x33N : Nat, ∃ x33C : Nat, ∃ wv2, (Builtin.append_ #[23, 23] 23 #[(.slice none 0 0), (.slice listA listN listC)] : Sem Value).run Try.prog wv1 = .ok (.slice x33A x33N x33C) wv2 ∧
    ∃ b, b ≤ wv2.heap.size ∧
    Calls Try.prog 7 #[(.slice x33A x33N x33C)] wv2.drew fun e wv3 =>
    ∃ x35A : Option Addr, ∃ x35N : Nat, ∃ x35C : Nat, e = .returned (.slice x35A x35N x35C) ∧
    Below b wv2.drew wv3 ∧ ∃ b1, b ≤ b1 ∧
    ∃ x36 : ByteArray, (∀ w', Below b1 wv3 w' → (convert 24 9 (.slice x35A x35N x35C)).run Try.prog w' = .ok (.string x36) w') ∧
    Calls Try.prog 8 #[(.slice listA listN listC)] wv3 fun e wv4 =>
    ∃ x38A : Option Addr, ∃ x38N : Nat, ∃ x38C : Nat, e = .returned (.slice x38A x38N x38C) ∧
    Below b1 wv3 wv4 ∧ ∃ b2, b1 ≤ b2 ∧
    ∃ x39 : ByteArray, (∀ w', Below b2 wv4 w' → (convert 24 9 (.slice x38A x38N x38C)).run Try.prog w' = .ok (.string x39) w') ∧
    split (!((x36 : ByteArray).toList == (x39 : ByteArray).toList)) (
      R (.bool false) wv4) (
      Calls Try.prog 10 #[(.slice bA bN bC)] wv4 fun e wv5 =>
      ∃ x43A : Option Addr, ∃ x43N : Nat, ∃ x43C : Nat, e = .returned (.slice x43A x43N x43C) ∧
      Calls Try.prog 9 #[(.slice x43A x43N x43C)] wv5 fun e wv6 =>
      ∃ x44aA : Option Addr, ∃ x44aN : Nat, ∃ x44aC : Nat, ∃ x44b : Int, e = .returned (.tuple #[(.slice x44aA x44aN x44aC), (.int .i64 x44b)]) ∧
      Calls Try.prog 11 #[(.slice bA bN bC)] wv6 fun e wv7 =>
      ∃ x49aA : Option Addr, ∃ x49aN : Nat, ∃ x49aC : Nat, ∃ x49b : Int, e = .returned (.tuple #[(.slice x49aA x49aN x49aC), (.int .i64 x49b)]) ∧
      ∃ J1 : Bool → World → Prop, (
        Calls Try.prog 12 #[(.slice x44aA x44aN x44aC), (.slice x49aA x49aN x49aC)] wv7 fun e wv8 =>
        ∃ x54 : Bool, e = .returned (.bool x54) ∧
        split x54 (
          J1 ((x44b : Int) == x49b) wv8) (
          J1 false wv8)) ∧ ∀ (_gv1 : Nat → Value) (x6 : Bool), ∀ wv8, J1 x6 wv8 →
      R (.bool x6) wv8))

def Law_an : Ann := (.node none .leaf (.node none .leaf (.node none (.node none (.node (some ⟨[(30, .bool)], [15, 16, 17, 18, 19, 20, 21, 22, 23, 24, 25, 26, 27, 28, 29, 30]⟩) .leaf .leaf) .leaf) (.node none .leaf (.node none .leaf (.node none .leaf (.node none .leaf (.node none .leaf (.node none (.node (some ⟨[(6, .bool)], [6, 52, 53, 54, 55, 56, 57, 58, 59]⟩) .leaf .leaf) .leaf)))))))))

theorem Law_eq (runsA : Option Addr) (runsN : Nat) (runsC : Nat) (listA : Option Addr) (listN : Nat) (listC : Nat) (bA : Option Addr) (bN : Nat) (bC : Nat) (R : Post) (w : World) : Law_wp runsA runsN runsC listA listN listC bA bN bC R w = vcF Try.prog callees [8] Try.f3 Law_an [(.slice runsA runsN runsC), (.slice listA listN listC), (.slice bA bN bC)] R none w := by kernel_rfl

theorem Law_calls (runsA : Option Addr) (runsN : Nat) (runsC : Nat) (listA : Option Addr) (listN : Nat) (listC : Nat) (bA : Option Addr) (bN : Nat) (bC : Nat) {R : Post} {w : World} (h : Law_wp runsA runsN runsC listA listN listC bA bN bC R w) : Calls Try.prog 3 #[(.slice runsA runsN runsC), (.slice listA listN listC), (.slice bA bN bC)] w fun e w' => ∃ v, e = .returned v ∧ R v w' :=
  returns_of_vc Try.func3 callees_ok follows_mixed ((Law_eq runsA runsN runsC listA listN listC bA bN bC R w).mp h)

end Go.Proofs.Ytlgffdmmlnoiaaa
