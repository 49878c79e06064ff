/-
  The packed form of a list of words, as plain functions on lists; no program here.
-/
import Derived.WalkKit
namespace Go.Proofs.Ytlgffdmmlnoiaaa.Pk
open Go

def four (x : Int) : List Int := [IntKind.u8.wrap (x.fdiv (2 ^ 24)), IntKind.u8.wrap (x.fdiv (2 ^ 16)), IntKind.u8.wrap (x.fdiv (2 ^ 8)), IntKind.u8.wrap x]
def hdr (n : Int) : List Int := [IntKind.u8.wrap (n.fdiv (2 ^ 8)), IntKind.u8.wrap n]
def rhdr (n : Int) : List Int := [IntKind.u8.wrap ((32768 + n).fdiv (2 ^ 8)), IntKind.u8.wrap n]

theorem u8_eq (x : Int) : IntKind.u8.wrap x = x % 256 := by rw [IntKind.wrap_u8]
theorem u32_eq (x : Int) : IntKind.u32.wrap x = x % 4294967296 := by rw [IntKind.wrap_u32]

/-- How many from the front on are as the first. -/
def alikeN : List Int → Nat
  | [] => 1
  | x :: r => 1 + (r.takeWhile (· == x)).length

/-- How many stand ahead of the next two alike ones. -/
def unl : List Int → Nat
  | [] => 0
  | [_] => 1
  | y :: z :: r => if y = z then 0 else 1 + unl (z :: r)
def unlikeN : List Int → Nat
  | [] => 1
  | _ :: r => 1 + unl r

def packB : Nat → List Int → List Int
  | 0, _ => []
  | _ + 1, [] => []
  | m + 1, x :: r =>
    if 2 ≤ min (alikeN (x :: r)) 32767 then rhdr (min (alikeN (x :: r)) 32767 : Nat) ++ four x ++ packB m ((x :: r).drop (min (alikeN (x :: r)) 32767))
    else hdr (min (unlikeN (x :: r)) 32767 : Nat) ++ ((x :: r).take (min (unlikeN (x :: r)) 32767)).flatMap four ++ packB m ((x :: r).drop (min (unlikeN (x :: r)) 32767))

def pack (l : List Int) : List Int := if 262144 < l.length then [] else four (l.length : Int) ++ packB l.length l

theorem alikeN_pos (l : List Int) : 1 ≤ alikeN l := by cases l <;> simp [alikeN]
theorem unlikeN_pos (l : List Int) : 1 ≤ unlikeN l := by cases l <;> simp [unlikeN]
theorem alikeN_le (x : Int) (r : List Int) : alikeN (x :: r) ≤ r.length + 1 := by
  have := (List.takeWhile_prefix (p := (· == x)) (l := r)).length_le
  simp only [alikeN]; omega
theorem unl_le : ∀ l : List Int, unl l ≤ l.length
  | [] => by simp [unl]
  | [_] => by simp [unl]
  | y :: z :: r => by
    have := unl_le (z :: r)
    simp only [unl]
    split <;> simp at * <;> omega
theorem unlikeN_le (x : Int) (r : List Int) : unlikeN (x :: r) ≤ r.length + 1 := by
  have := unl_le r
  simp only [unlikeN]; omega

/-- Enough rounds are enough. -/
theorem packB_more : ∀ (m k : Nat) (l : List Int), l.length ≤ m → l.length ≤ k → packB m l = packB k l
  | 0, k, l, h, _ => by
    have : l = [] := List.eq_nil_of_length_eq_zero (by omega)
    subst this
    cases k <;> rfl
  | m + 1, 0, l, _, h => by
    have : l = [] := List.eq_nil_of_length_eq_zero (by omega)
    subst this
    rfl
  | m + 1, k + 1, [], _, _ => rfl
  | m + 1, k + 1, x :: r, h, h' => by
    have ha := alikeN_pos (x :: r)
    have hu := unlikeN_pos (x :: r)
    simp only [List.length_cons] at h h'
    simp only [packB]
    split
    · rw [packB_more m k _ (by simp; omega) (by simp; omega)]
    · rw [packB_more m k _ (by simp; omega) (by simp; omega)]

theorem packB_step (x : Int) (r : List Int) : packB (x :: r).length (x :: r) =
    if 2 ≤ min (alikeN (x :: r)) 32767 then rhdr (min (alikeN (x :: r)) 32767 : Nat) ++ four x ++ packB ((x :: r).drop (min (alikeN (x :: r)) 32767)).length ((x :: r).drop (min (alikeN (x :: r)) 32767))
    else hdr (min (unlikeN (x :: r)) 32767 : Nat) ++ ((x :: r).take (min (unlikeN (x :: r)) 32767)).flatMap four ++ packB ((x :: r).drop (min (unlikeN (x :: r)) 32767)).length ((x :: r).drop (min (unlikeN (x :: r)) 32767)) := by
  have ha := alikeN_pos (x :: r)
  have hu := unlikeN_pos (x :: r)
  simp only [List.length_cons, packB]
  split
  · rw [packB_more r.length _ _ (by simp; omega) (Nat.le_refl _)]
  · rw [packB_more r.length _ _ (by simp; omega) (Nat.le_refl _)]

theorem four_length (x : Int) : (four x).length = 4 := rfl
theorem flatMap_four_length : ∀ l : List Int, (l.flatMap four).length = 4 * l.length
  | [] => rfl
  | x :: r => by simp [flatMap_four_length r, four_length]; omega

theorem packB_length : ∀ (m : Nat) (l : List Int), (packB m l).length ≤ 6 * l.length
  | 0, l => by simp [packB]
  | m + 1, [] => by simp [packB]
  | m + 1, x :: r => by
    have ha := alikeN_pos (x :: r)
    have hu := unlikeN_pos (x :: r)
    have h1 := alikeN_le x r
    have h2 := unlikeN_le x r
    simp only [packB]
    split
    · have := packB_length m ((x :: r).drop (min (alikeN (x :: r)) 32767))
      simp only [List.length_append, List.length_drop, List.length_cons, rhdr, four, List.length_nil] at *
      omega
    · have := packB_length m ((x :: r).drop (min (unlikeN (x :: r)) 32767))
      simp only [List.length_append, List.length_drop, List.length_cons, hdr, List.length_nil, flatMap_four_length, List.length_take] at *
      omega

/-! ### The two counts, step by step, as the loops take them -/
theorem takeWhile_getD (x : Int) : ∀ (r : List Int) (j : Nat), j < (r.takeWhile (· == x)).length → r.getD j 0 = x
  | [], j, h => by simp at h
  | y :: r, j, h => by
    rw [List.takeWhile_cons] at h
    split at h
    · rename_i hy
      cases j with
      | zero => simpa using hy
      | succ j => simpa using takeWhile_getD x r j (by simpa using h)
    · simp at h

theorem takeWhile_end (x : Int) : ∀ (r : List Int) , (r.takeWhile (· == x)).length < r.length → r.getD (r.takeWhile (· == x)).length 0 ≠ x
  | [], h => by simp at h
  | y :: r, h => by
    rw [List.takeWhile_cons] at h ⊢
    split
    · rename_i hy
      simp only [hy, if_true, List.length_cons] at h
      simpa using takeWhile_end x r (by omega)
    · rename_i hy
      simpa using hy

/-- 'alikeN' is where the first stops being met. -/
theorem alikeN_of {l : List Int} {n : Nat} (h1 : 1 ≤ n) (h2 : n ≤ l.length) (h3 : ∀ j, j < n → l.getD j 0 = l.getD 0 0) (h4 : n = l.length ∨ l.getD n 0 ≠ l.getD 0 0) : alikeN l = n := by
  cases l with
  | nil => simp at h2; omega
  | cons x r =>
    have ht := (List.takeWhile_prefix (p := (· == x)) (l := r)).length_le
    simp only [alikeN]
    simp only [List.length_cons] at h2 h4
    rcases Nat.lt_trichotomy (1 + (r.takeWhile (· == x)).length) n with h | h | h
    · have := takeWhile_end x r (by omega)
      have h5 := h3 (1 + (r.takeWhile (· == x)).length) h
      rw [Nat.add_comm] at h5
      simp at h5
      exact absurd h5 (by simpa using this)
    · exact h
    · have := takeWhile_getD x r (n - 1) (by omega)
      rcases h4 with h4 | h4
      · omega
      · obtain ⟨k, rfl⟩ : ∃ k, n = k + 1 := ⟨n - 1, by omega⟩
        simp at h4 this
        exact absurd this h4

theorem unl_getD : ∀ (r : List Int) (j : Nat), j < unl r → j + 1 = r.length ∨ r.getD j 0 ≠ r.getD (j + 1) 0
  | [], j, h => by simp [unl] at h
  | [_], j, h => by simp [unl] at h; simp [h]
  | y :: z :: r, j, h => by
    simp only [unl] at h
    split at h
    · omega
    · rename_i hyz
      cases j with
      | zero => right; simpa using hyz
      | succ j =>
        rcases unl_getD (z :: r) j (by omega) with h1 | h1
        · left; simp at h1 ⊢; omega
        · right; simpa using h1

theorem unl_end : ∀ (r : List Int), unl r < r.length → unl r + 1 < r.length ∧ r.getD (unl r) 0 = r.getD (unl r + 1) 0
  | [], h => by simp at h
  | [_], h => by simp [unl] at h
  | y :: z :: r, h => by
    simp only [unl] at h ⊢
    split
    · rename_i hyz; simp [hyz]
    · rename_i hyz
      rw [if_neg hyz] at h
      have := unl_end (z :: r) (by simp at h ⊢; omega)
      rw [show 1 + unl (z :: r) = unl (z :: r) + 1 by omega]
      refine ⟨by have := this.1; simp at this ⊢; omega, ?_⟩
      simpa using this.2

theorem unlikeN_of {l : List Int} {n : Nat} (h1 : 1 ≤ n) (h2 : n ≤ l.length) (h3 : ∀ j, 1 ≤ j → j < n → j + 1 = l.length ∨ l.getD j 0 ≠ l.getD (j + 1) 0) (h4 : n = l.length ∨ (n + 1 < l.length ∧ l.getD n 0 = l.getD (n + 1) 0)) : unlikeN l = n := by
  cases l with
  | nil => simp at h2; omega
  | cons x r =>
    have ht := unl_le r
    simp only [unlikeN]
    simp only [List.length_cons] at h2 h4
    rcases Nat.lt_trichotomy (1 + unl r) n with h | h | h
    · have := unl_end r (by omega)
      have h5 := h3 (1 + unl r) (by omega) h
      rw [Nat.add_comm 1] at h5
      simp only [List.length_cons, List.getD_cons_succ] at h5
      rcases h5 with h5 | h5
      · omega
      · exact absurd this.2 h5
    · exact h
    · obtain ⟨k, rfl⟩ : ∃ k, n = k + 1 := ⟨n - 1, by omega⟩
      have := unl_getD r k (by omega)
      rcases h4 with h4 | h4
      · omega
      · simp only [List.getD_cons_succ] at h4
        rcases this with h5 | h5
        · omega
        · exact absurd h4.2 h5
end Go.Proofs.Ytlgffdmmlnoiaaa.Pk
