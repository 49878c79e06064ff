/-
  What packed bytes say of the list that was packed; plain lists.
-/
import Derived.Test.YtlgffdmmlnoiaaaPk
namespace Go.Proofs.Ytlgffdmmlnoiaaa.Pk
open Go

/-- The number that four bytes are. -/
def num4 (l : List Int) : Int := l.getD 0 0 * 16777216 + l.getD 1 0 * 65536 + l.getD 2 0 * 256 + l.getD 3 0

def GoodP (L b : List Int) : Prop := (∀ x ∈ L, 0 ≤ x ∧ x < 4294967296) ∧ L.length ≤ 262144 ∧ pack L = b

theorem fdiv_eq (x : Int) (n : Nat) : x.fdiv (2 ^ n) = x / 2 ^ n := by
  rw [Int.fdiv_eq_ediv_of_nonneg]
  exact Int.le_of_lt (Int.pow_pos (by decide))

theorem num4_four {x : Int} (h : 0 ≤ x ∧ x < 4294967296) (r : List Int) : num4 (four x ++ r) = x := by
  simp only [num4, four, List.cons_append, List.nil_append, List.getD_cons_zero, List.getD_cons_succ, u8_eq]
  rw [fdiv_eq, fdiv_eq, fdiv_eq]
  omega

theorem num4_cut (l : List Int) (a : Nat) : num4 ((l.take (a + 4)).drop a) = num4 (l.drop a) := by
  simp only [num4, List.getD_eq_getElem?_getD, List.getElem?_drop, List.getElem?_take]
  rw [if_pos (by omega), if_pos (by omega), if_pos (by omega), if_pos (by omega)]

theorem num4_take (l : List Int) : num4 (l.take 4) = num4 l := by
  have := num4_cut l 0
  simpa using this

theorem num4_range {l : List Int} (h : ∀ x ∈ l, 0 ≤ x ∧ x < 256) : 0 ≤ num4 l ∧ num4 l < 4294967296 := by
  have g : ∀ i, 0 ≤ l.getD i 0 ∧ l.getD i 0 < 256 := by
    intro i
    rw [List.getD_eq_getElem?_getD]
    cases hi : l[i]? with
    | none => simp
    | some x => simpa using h x (List.mem_of_getElem? hi)
  have := g 0; have := g 1; have := g 2; have := g 3
  simp only [num4]
  omega

theorem GoodP.head {L b : List Int} (h : GoodP L b) : b = four (L.length : Int) ++ packB L.length L := by
  have := h.2.2
  rw [← this]
  unfold pack
  rw [if_neg (by have := h.2.1; omega)]

theorem GoodP.num {L b : List Int} (h : GoodP L b) : num4 b = (L.length : Int) := by
  rw [h.head, num4_four (by have := h.2.1; omega)]

theorem GoodP.len {L b : List Int} (h : GoodP L b) : 4 ≤ b.length := by
  rw [h.head]
  simp [four]

/-- How a stretch of the packed form begins. -/
theorem packB_shape (D : List Int) (hD : D ≠ []) :
    (∃ N : Nat, 2 ≤ N ∧ N ≤ 32767 ∧ N ≤ D.length ∧ packB D.length D = rhdr (N : Int) ++ four (D.getD 0 0) ++ packB (D.drop N).length (D.drop N) ∧ ∀ j, j < N → D.getD j 0 = D.getD 0 0) ∨
    (∃ M : Nat, 1 ≤ M ∧ M ≤ 32767 ∧ M ≤ D.length ∧ packB D.length D = hdr (M : Int) ++ (D.take M).flatMap four ++ packB (D.drop M).length (D.drop M)) := by
  cases D with
  | nil => exact absurd rfl hD
  | cons x r =>
    have hstep := packB_step x r
    have ha := alikeN_le x r
    have hu := unlikeN_le x r
    have hup := unlikeN_pos (x :: r)
    split at hstep
    · rename_i h2
      refine .inl ⟨_, h2, by omega, by simp only [List.length_cons]; omega, by simpa using hstep, fun j hj => ?_⟩
      cases j with
      | zero => rfl
      | succ j =>
        have : j < (r.takeWhile (· == x)).length := by simp only [alikeN] at hj; omega
        simpa using takeWhile_getD x r j this
    · exact .inr ⟨_, by omega, by omega, by simp only [List.length_cons]; omega, hstep⟩

/-- The number of a stretch's two first bytes. -/
def head2 (l : List Int) : Int := l.getD 0 0 * 256 + l.getD 1 0

theorem head2_rhdr {N : Nat} (h1 : N ≤ 32767) (r : List Int) : head2 (rhdr (N : Int) ++ r) = 32768 + N := by
  simp only [head2, rhdr, List.cons_append, List.nil_append, List.getD_cons_zero, List.getD_cons_succ, u8_eq]
  rw [fdiv_eq]
  omega
theorem head2_hdr {M : Nat} (h1 : M ≤ 32767) (r : List Int) : head2 (hdr (M : Int) ++ r) = M := by
  simp only [head2, hdr, List.cons_append, List.nil_append, List.getD_cons_zero, List.getD_cons_succ, u8_eq]
  rw [fdiv_eq]
  omega

/-- The words that a stretch says: 'run': the first one again and again. -/
def ext (run : Bool) (rest : List Int) (k : Nat) : List Int := (List.range k).map fun q => num4 (rest.drop (if run then 0 else 4 * q))

theorem ext_succ (run : Bool) (rest : List Int) (k : Nat) : ext run rest (k + 1) = ext run rest k ++ [num4 (rest.drop (if run then 0 else 4 * k))] := by
  simp [ext, List.range_succ]

theorem ext_length (run : Bool) (rest : List Int) (k : Nat) : (ext run rest k).length = k := by simp [ext]

theorem drop_flatMap_four : ∀ (l : List Int) (q : Nat), (l.flatMap four).drop (4 * q) = (l.drop q).flatMap four
  | l, 0 => by simp
  | [], q + 1 => by simp
  | x :: r, q + 1 => by
    rw [List.flatMap_cons, show 4 * (q + 1) = 4 + 4 * q by omega, ← List.drop_drop]
    rw [show (four x ++ r.flatMap four).drop 4 = r.flatMap four by simp [four]]
    simpa using drop_flatMap_four r q

theorem ext_run {N : Nat} {D rest : List Int} (hN : N ≤ D.length) (hall : ∀ j, j < N → D.getD j 0 = num4 rest) : ext true rest N = D.take N := by
  apply List.ext_getElem
  · simp [ext_length]; omega
  · intro j h1 h2
    simp only [ext_length] at h1
    have := hall j h1
    rw [List.getD_eq_getElem?_getD, List.getElem?_eq_getElem (by omega)] at this
    simp [ext]
    simpa using this.symm

theorem ext_lone {M : Nat} {D X : List Int} (hM : M ≤ D.length) (hw : ∀ x ∈ D, 0 ≤ x ∧ x < 4294967296) : ext false ((D.take M).flatMap four ++ X) M = D.take M := by
  apply List.ext_getElem
  · simp [ext_length]; omega
  · intro j h1 h2
    simp only [ext_length] at h1
    simp only [ext, List.getElem_map, List.getElem_range, Bool.false_eq_true, if_false]
    have hlen : 4 * j ≤ ((D.take M).flatMap four).length := by rw [flatMap_four_length, List.length_take]; omega
    rw [List.drop_append_of_le_length hlen, drop_flatMap_four]
    have hj : j < (D.take M).length := by rw [List.length_take]; omega
    rw [List.drop_eq_getElem_cons hj, List.flatMap_cons, List.append_assoc, num4_four]
    have : (D.take M)[j] ∈ D := List.mem_of_mem_take (List.getElem_mem hj)
    exact hw _ this

/-- What is behind a stretch's head, where the bytes are a list's. -/
theorem stretch {L : List Int} (hw : ∀ x ∈ L, 0 ≤ x ∧ x < 4294967296) {i : Nat} (hi : i < L.length) {rest : List Int} (hr : rest = packB (L.drop i).length (L.drop i)) :
    ∃ k : Nat, 1 ≤ k ∧ k ≤ 32767 ∧ i + k ≤ L.length ∧ 2 ≤ rest.length ∧
      ((head2 rest = 32768 + k ∧ 6 ≤ rest.length ∧ ext true (rest.drop 2) k = (L.drop i).take k ∧ (rest.drop 2).drop 4 = packB (L.drop (i + k)).length (L.drop (i + k))) ∨
       (head2 rest = k ∧ 2 + 4 * k ≤ rest.length ∧ ext false (rest.drop 2) k = (L.drop i).take k ∧ (rest.drop 2).drop (4 * k) = packB (L.drop (i + k)).length (L.drop (i + k)))) := by
  have hlen : (L.drop i).length = L.length - i := List.length_drop
  have hwD : ∀ x ∈ L.drop i, 0 ≤ x ∧ x < 4294967296 := fun x hx => hw x (List.mem_of_mem_drop hx)
  rcases packB_shape (L.drop i) (by intro e; rw [e] at hlen; simp at hlen; omega) with ⟨N, h2, h3, h4, he, hall⟩ | ⟨M, h2, h3, h4, he⟩
  · refine ⟨N, by omega, h3, by omega, ?_, .inl ⟨?_, ?_, ?_, ?_⟩⟩
    · rw [hr, he]; simp [rhdr]
    · rw [hr, he, List.append_assoc, head2_rhdr h3]
    · rw [hr, he]; simp [rhdr, four]
    · have hx : 0 ≤ (L.drop i).getD 0 0 ∧ (L.drop i).getD 0 0 < 4294967296 := by
        rw [List.getD_eq_getElem?_getD, List.getElem?_eq_getElem (by omega)]
        exact hwD _ (List.getElem_mem _)
      refine ext_run h4 fun j hj => ?_
      rw [hall j hj, hr, he]
      rw [show (rhdr (N : Int) ++ four ((L.drop i).getD 0 0) ++ packB ((L.drop i).drop N).length ((L.drop i).drop N)).drop 2 = four ((L.drop i).getD 0 0) ++ packB ((L.drop i).drop N).length ((L.drop i).drop N) by simp [rhdr]]
      rw [num4_four hx]
    · rw [hr, he, List.drop_drop]
      simp [rhdr, four]
  · refine ⟨M, h2, h3, by omega, ?_, .inr ⟨?_, ?_, ?_, ?_⟩⟩
    · rw [hr, he]; simp [hdr]
    · rw [hr, he, List.append_assoc, head2_hdr h3]
    · rw [hr, he]
      simp only [List.length_append, hdr, List.length_cons, List.length_nil, flatMap_four_length, List.length_take]
      omega
    · rw [hr, he]
      rw [show (hdr (M : Int) ++ ((L.drop i).take M).flatMap four ++ packB ((L.drop i).drop M).length ((L.drop i).drop M)).drop 2 = ((L.drop i).take M).flatMap four ++ packB ((L.drop i).drop M).length ((L.drop i).drop M) by simp [hdr]]
      exact ext_lone h4 hwD
    · rw [hr, he]
      rw [show (hdr (M : Int) ++ ((L.drop i).take M).flatMap four ++ packB ((L.drop i).drop M).length ((L.drop i).drop M)).drop 2 = ((L.drop i).take M).flatMap four ++ packB ((L.drop i).drop M).length ((L.drop i).drop M) by simp [hdr]]
      have hl : (((L.drop i).take M).flatMap four).length = 4 * M := by rw [flatMap_four_length, List.length_take]; omega
      rw [← hl, List.drop_left, List.drop_drop]

theorem u8_range (x : Int) : 0 ≤ IntKind.u8.wrap x ∧ IntKind.u8.wrap x < 256 := by rw [u8_eq]; omega
theorem four_bt (x : Int) : ∀ y ∈ four x, 0 ≤ y ∧ y < 256 := by
  intro y hy
  simp only [four, List.mem_cons, List.not_mem_nil, or_false] at hy
  rcases hy with rfl | rfl | rfl | rfl <;> exact u8_range _
theorem packB_bt : ∀ (m : Nat) (l : List Int), ∀ y ∈ packB m l, 0 ≤ y ∧ y < 256
  | 0, l, y, hy => by simp [packB] at hy
  | m + 1, [], y, hy => by simp [packB] at hy
  | m + 1, x :: r, y, hy => by
    simp only [packB] at hy
    split at hy
    · simp only [List.mem_append] at hy
      rcases hy with (hy | hy) | hy
      · simp only [rhdr, List.mem_cons, List.not_mem_nil, or_false] at hy
        rcases hy with rfl | rfl <;> exact u8_range _
      · exact four_bt _ y hy
      · exact packB_bt m _ y hy
    · simp only [List.mem_append] at hy
      rcases hy with (hy | hy) | hy
      · simp only [hdr, List.mem_cons, List.not_mem_nil, or_false] at hy
        rcases hy with rfl | rfl <;> exact u8_range _
      · obtain ⟨z, _, hz⟩ := List.mem_flatMap.1 hy
        exact four_bt z y hz
      · exact packB_bt m _ y hy
theorem pack_bt (l : List Int) : ∀ y ∈ pack l, 0 ≤ y ∧ y < 256 := by
  intro y hy
  unfold pack at hy
  split at hy
  · simp at hy
  · rcases List.mem_append.1 hy with hy | hy
    · exact four_bt _ y hy
    · exact packB_bt _ _ y hy
end Go.Proofs.Ytlgffdmmlnoiaaa.Pk
