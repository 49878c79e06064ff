/-
  The small functions of the packed form: what each call returns.
-/
import Derived.Test.YtlgffdmmlnoiaaaCo
import Derived.Test.YtlgffdmmlnoiaaaMem
import Derived.Test.YtlgffdmmlnoiaaaPl
set_option linter.unusedVariables false
namespace Go.Proofs.Ytlgffdmmlnoiaaa
open Go Go.RowKit V Pk

theorem st8 : ST Try.prog 24 5 .u8 1 := ST.of (by kernel_rfl) (by kernel_rfl) (by kernel_rfl)
theorem st32 : ST Try.prog 23 37 .u32 4 := ST.of (by kernel_rfl) (by kernel_rfl) (by kernel_rfl)
theorem undStr : Try.prog.underlying 9 = some .string := by kernel_rfl

abbrev Wd (l : List Int) : Prop := ∀ x ∈ l, 0 ≤ x ∧ x < 4294967296
abbrev Bt (l : List Int) : Prop := ∀ x ∈ l, 0 ≤ x ∧ x < 256

theorem Below.drw {b : Nat} {w w' : World} (h : Below b w w') : Below b w w'.drew := h.drew

/-- put -/
theorem put_c (A : Option Addr) (n c : Nat) (x : Int) (l : List Int) (base : Nat) (w : World) (h : OwnI w base 5 .u8 A n c l) (hb : base ≤ w.heap.size) (hn : n ≤ 140737488355000) :
    Calls Try.prog 14 #[.slice A n c, .int .u32 x] w fun e w' => ∃ v, e = .returned v ∧ ∃ A' n' c', v = .slice A' n' c' ∧ OwnI w' base 5 .u8 A' n' c' (l ++ four x) ∧ n' = n + 4 ∧ Below base w w' := by
  refine Put_calls A n c x ?_
  obtain ⟨A', n', c', w', hr, ho, hn', hb', _⟩ := app_new st8 24 h hb (four x) 4 rfl (by omega) (by omega)
  exact ⟨A', n', c', w', hr, A', n', c', rfl, ho, hn', hb'⟩

/-- four -/
theorem four_c (x : Int) (w : World) :
    Calls Try.prog 17 #[.int .u32 x] w fun e w' => ∃ v, e = .returned v ∧ ∃ A' n' c', v = .slice A' n' c' ∧ OwnI w' w.heap.size 5 .u8 A' n' c' (four x) ∧ n' = 4 ∧ Below w.heap.size w w' := by
  refine Four_calls x ?_
  refine ⟨_, 4, 4, rfl, ⟨rfl, .inr ⟨w.heap.size, 4, _, rfl, Nat.le_refl _, heap_alloc_new w _, Nat.le_refl _, by decide, rfl, rfl⟩⟩, rfl, (Below.refl _ w).alloc (Nat.le_refl _) _⟩

theorem getD_bt {l : List Int} (h : Bt l) (i : Nat) : 0 ≤ l.getD i 0 ∧ l.getD i 0 < 256 := by
  rw [List.getD_eq_getElem?_getD]
  cases hi : l[i]? with
  | none => simp
  | some x => simpa using h x (List.mem_of_getElem? hi)

theorem getD_wd {l : List Int} (h : Wd l) (i : Nat) : 0 ≤ l.getD i 0 ∧ l.getD i 0 < 4294967296 := by
  rw [List.getD_eq_getElem?_getD]
  cases hi : l[i]? with
  | none => simp
  | some x => simpa using h x (List.mem_of_getElem? hi)

/-- '|' of numbers whose bits stand apart is '+'. -/
theorem or_add (k : IntKind) (i : Nat) (a b : Nat) (hb : b < 2 ^ i) (ha : 2 ^ i * a + b < 2 ^ k.bits) : (BitVec.ofInt k.bits ((2 ^ i * a : Nat) : Int) ||| BitVec.ofInt k.bits ((b : Nat) : Int)).toNat = 2 ^ i * a + b := by
  have h1 : 2 ^ i * a < 2 ^ k.bits := by omega
  have h2 : b < 2 ^ k.bits := by omega
  rw [BitVec.toNat_or, BitVec.ofInt_natCast, BitVec.ofInt_natCast, BitVec.toNat_ofNat, BitVec.toNat_ofNat, Nat.mod_eq_of_lt h1, Nat.mod_eq_of_lt h2]
  exact (Nat.two_pow_add_eq_or_of_lt hb a).symm

theorem get_val (a b c d : Int) (ha : 0 ≤ a ∧ a < 256) (hb : 0 ≤ b ∧ b < 256) (hc : 0 ≤ c ∧ c < 256) (hd : 0 ≤ d ∧ d < 256) :
    IntKind.u32.wrap (BitVec.ofInt IntKind.u32.bits (IntKind.u32.wrap (BitVec.ofInt IntKind.u32.bits (IntKind.u32.wrap (BitVec.ofInt IntKind.u32.bits (IntKind.u32.wrap ((IntKind.u32.wrap a : Int) * 2 ^ 24)) ||| BitVec.ofInt IntKind.u32.bits (IntKind.u32.wrap ((IntKind.u32.wrap b : Int) * 2 ^ 16))).toNat) ||| BitVec.ofInt IntKind.u32.bits (IntKind.u32.wrap ((IntKind.u32.wrap c : Int) * 2 ^ 8))).toNat) ||| BitVec.ofInt IntKind.u32.bits (IntKind.u32.wrap d)).toNat = a * 16777216 + b * 65536 + c * 256 + d := by
  obtain ⟨a, rfl⟩ := Int.eq_ofNat_of_zero_le ha.1
  obtain ⟨b, rfl⟩ := Int.eq_ofNat_of_zero_le hb.1
  obtain ⟨c, rfl⟩ := Int.eq_ofNat_of_zero_le hc.1
  obtain ⟨d, rfl⟩ := Int.eq_ofNat_of_zero_le hd.1
  have e1 : (IntKind.u32.wrap ((IntKind.u32.wrap (a : Int) : Int) * 2 ^ 24)) = ((2 ^ 24 * a : Nat) : Int) := by rw [u32_eq, u32_eq]; omega
  have e2 : (IntKind.u32.wrap ((IntKind.u32.wrap (b : Int) : Int) * 2 ^ 16)) = ((2 ^ 16 * b : Nat) : Int) := by rw [u32_eq, u32_eq]; omega
  have e3 : (IntKind.u32.wrap ((IntKind.u32.wrap (c : Int) : Int) * 2 ^ 8)) = ((2 ^ 8 * c : Nat) : Int) := by rw [u32_eq, u32_eq]; omega
  have e4 : IntKind.u32.wrap (d : Int) = ((d : Nat) : Int) := by rw [u32_eq]; omega
  rw [e1, e2, e3, e4]
  rw [or_add .u32 24 a (2 ^ 16 * b) (by omega) (by simp only [IntKind.bits]; omega)]
  rw [show IntKind.u32.wrap ((2 ^ 24 * a + 2 ^ 16 * b : Nat) : Int) = ((2 ^ 16 * (2 ^ 8 * a + b) : Nat) : Int) by rw [u32_eq]; omega]
  rw [or_add .u32 16 (2 ^ 8 * a + b) (2 ^ 8 * c) (by omega) (by simp only [IntKind.bits]; omega)]
  rw [show IntKind.u32.wrap ((2 ^ 16 * (2 ^ 8 * a + b) + 2 ^ 8 * c : Nat) : Int) = ((2 ^ 8 * (2 ^ 16 * a + 2 ^ 8 * b + c) : Nat) : Int) by rw [u32_eq]; omega]
  rw [or_add .u32 8 (2 ^ 16 * a + 2 ^ 8 * b + c) d (by omega) (by simp only [IntKind.bits]; omega)]
  rw [u32_eq]
  omega

/-- get -/
theorem get_c (A : Option Addr) (n c b : Nat) (l : List Int) (w : World) (h : Ints w b .u8 A n c l) (hn : 4 ≤ n) (hb : Bt l) :
    Calls Try.prog 19 #[.slice A n c] w fun e w' => ∃ v, e = .returned v ∧ v = .int .u32 (num4 l) ∧ w' = w.drew := by
  refine Get_calls A n c ?_
  have h' : Ints w.drew b .u8 A n c l := h.drew
  refine h'.rd (by omega) (by omega) (h'.rd (by omega) (by omega) (h'.rd (by omega) (by omega) (h'.rd (by omega) (by omega) ⟨?_, rfl⟩)))
  rw [get_val _ _ _ _ (getD_bt hb _) (getD_bt hb _) (getD_bt hb _) (getD_bt hb _)]
  rfl

/-- number -/
theorem number_c (A : Option Addr) (n c b : Nat) (l : List Int) (w : World) (h : Ints w b .u8 A n c l) (hn : 4 ≤ n) (hb : Bt l) :
    Calls Try.prog 21 #[.slice A n c] w fun e w' => ∃ v, e = .returned v ∧ v = .int .u32 (num4 l) ∧ w' = w.drew := by
  refine Number_calls A n c ?_
  have h' : Ints w.drew b .u8 A n c l := h.drew
  refine h'.rd (by omega) (by omega) (h'.rd (by omega) (by omega) (h'.rd (by omega) (by omega) (h'.rd (by omega) (by omega) ⟨?_, rfl⟩)))
  have e0 := getD_bt hb 0
  have e1 := getD_bt hb 1
  have e2 := getD_bt hb 2
  have e3 := getD_bt hb 3
  simp only [u32_eq, num4]
  congr 1
  simp only [Int.toNat_zero, Int.toNat_one, show Int.toNat 2 = 2 from rfl, show Int.toNat 3 = 3 from rfl]
  omega
end Go.Proofs.Ytlgffdmmlnoiaaa
