/-
  Arguments of a law, opened: slices of integers. No program is named here.
-/
import Derived.Test.YtlgffdmmlnoiaaaMem
import Derived.ProofKit
import Derived.SizedLaws
import Derived.OpenShut
import Derived.Deep.SlicePairs
namespace Go.Proofs.Ytlgffdmmlnoiaaa.V
open Go Go.RowKit Go.ChangeShapes Go.WideShapes Go.ChangeAt

section
variable {P : Program} {W : World} {H : Type} {enc : TypeId × Value → H}

theorem wf_u8 {x : Int} (h : (Lit.int .u8 x).wf = true) : 0 ≤ x ∧ x < 256 := by
  have : 0 ≤ x ∧ x ≤ 255 := by simpa [Lit.wf, IntKind.min, IntKind.max, IntKind.signed, IntKind.bits] using h
  omega
theorem wf_u32 {x : Int} (h : (Lit.int .u32 x).wf = true) : 0 ≤ x ∧ x < 4294967296 := by
  have : 0 ≤ x ∧ x ≤ 4294967295 := by simpa [Lit.wf, IntKind.min, IntKind.max, IntKind.signed, IntKind.bits] using h
  omega
theorem wf_i64 {x : Int} (h : (Lit.int .i64 x).wf = true) : -9223372036854775808 ≤ x ∧ x ≤ 9223372036854775807 := by
  simpa [Lit.wf, IntKind.min, IntKind.max, IntKind.signed, IntKind.bits] using h

/-- A slice of integers that came in. -/
theorem open_Ints {t e : TypeId} {k : IntKind} {bytes : Nat} {v : Value} {d : DataW H} {p : List MemPlace} (hT : ST P t e k bytes) (hc : P.cellsOf e = 1) {base : Nat} (hv : Value.okWide P W .any base t v)
    (h : DataW.Trod enc P W 0 (fun _ => true) true t v d p) :
    ∃ A n c l, v = .slice A n c ∧ Ints W W.heap.size k A n c l ∧ (∀ x ∈ l, (Lit.int k x).wf = true) ∧ (c = 0 ∨ ∃ el sp, d = .slice el sp ∧ el.length + sp.length = c) := by
  obtain ⟨a0, len, cap, rfl⟩ := okWide_slice hT.und hv
  obtain ⟨fuel, hf⟩ := h
  rcases open_ints hT.und hT.el hc hf with ⟨hcs, hx⟩ | ⟨a, len', cap', zs, hcs, _, hl, hm, hz, hx, hcell, hwz⟩
  · simp [Value.cells] at hcs
    obtain ⟨rfl, rfl, rfl⟩ := hcs
    exact ⟨none, 0, 0, [], rfl, Ints.nil, by simp, .inl rfl⟩
  · simp [Value.cells] at hcs
    obtain ⟨rfl, rfl, rfl⟩ := hcs
    simp only [if_true] at hz
    simp only [Prod.mk.injEq] at hx
    refine ⟨some a, len, cap, zs.take len, rfl, ⟨by simp; omega, hl, fun j x hj => ?_⟩, fun x hx => hwz x (List.mem_of_mem_take hx), .inr ⟨_, _, hx.1, by simp [lits]; omega⟩⟩
    rw [List.getElem?_take] at hj
    split at hj
    · have hjz : j < zs.length := by
        rcases Nat.lt_or_ge j zs.length with h | h
        · exact h
        · rw [List.getElem?_eq_none h] at hj; cases hj
      have hcj := hcell j hjz
      rw [List.getD_eq_getElem?_getD, hj, Option.getD_some] at hcj
      refine ⟨a, rfl, ?_, hcj⟩
      have := World.block_lt_of_cell? W _ hcj
      rwa [block_add] at this
    · cases hj

/-- A slice of pairs of integers that came in. -/
theorem open_Pairs {t e : TypeId} {f0 f1 : Field} {k0 k1 : IntKind} {v : Value} {d : DataW H} {p : List MemPlace} (ht : P.underlying t = some (.slice e)) (he : P.underlying e = some (.struct #[f0, f1]))
    (ce : P.cellsOf e = 2) (o0 : f0.offset = 0) (o1 : f1.offset = 1) (c0 : P.cellsOf f0.type = 1) (c1 : P.cellsOf f1.type = 1) (u0 : P.underlying f0.type = some (.int k0)) (u1 : P.underlying f1.type = some (.int k1))
    {base : Nat} (hv : Value.okWide P W .any base t v) (h : DataW.Trod enc P W 0 (fun _ => true) true t v d p) :
    ∃ (A : Option Addr) (n c : Nat) (l : List (Int × Int)), v = .slice A n c ∧ l.length = n ∧ (∀ j x, l[j]? = some x → ∃ p, A = some p ∧ p.block < W.heap.size ∧ W.cell? (p.add (2 * j)) = some (.int k0 x.1) ∧ W.cell? (p.add (2 * j + 1)) = some (.int k1 x.2)) ∧
      (∀ x ∈ l, (Lit.int k0 x.1).wf = true ∧ (Lit.int k1 x.2).wf = true) ∧ n ≤ c ∧ (c = 0 ∨ ∃ el sp, d = .slice el sp ∧ el.length + sp.length = c) := by
  obtain ⟨a0, len, cap, rfl⟩ := okWide_slice ht hv
  obtain ⟨fuel, hf⟩ := h
  rcases Go.Deep.open_slice_pairs ht he ce o0 o1 c0 c1 hf with ⟨hcs, hx⟩ | ⟨a, len', cap', m, n, V0, V1, D0, D1, P0, P1, hcs, _, hl, hm, hmm, hx, hcell⟩
  · simp [Value.cells] at hcs
    obtain ⟨rfl, rfl, rfl⟩ := hcs
    exact ⟨none, 0, 0, [], rfl, rfl, by simp, by simp, by omega, .inl rfl⟩
  · simp [Value.cells] at hcs
    obtain ⟨rfl, rfl, rfl⟩ := hcs
    simp only [if_true] at hmm
    subst hmm
    simp only [Prod.mk.injEq] at hx
    have each : ∀ i, i < m → ∃ q : Int × Int, W.cell? (a.add (2 * i)) = some (.int k0 q.1) ∧ W.cell? (a.add (2 * i + 1)) = some (.int k1 q.2) ∧ (Lit.int k0 q.1).wf = true ∧ (Lit.int k1 q.2).wf = true := by
      intro i hi
      obtain ⟨h0, h1, t0, t1⟩ := hcell i hi
      obtain ⟨n0, e0, _, w0⟩ := DataW.trod_int u0 t0
      obtain ⟨n1, e1, _, w1⟩ := DataW.trod_int u1 t1
      simp at e0 e1
      refine ⟨(n0, n1), by rw [Nat.mul_comm, h0, e0], by rw [Nat.mul_comm, h1, e1], w0, w1⟩
    obtain ⟨q, hq⟩ := Go.Deep.choose_lt each
    refine ⟨some a, len, m, (List.range len).map q, rfl, by simp, fun j x hj => ?_, fun x hx => ?_, hl, .inr ⟨_, _, hx.1, by simp; omega⟩⟩
    · have hjl : j < len := by
        rcases Nat.lt_or_ge j len with h | h
        · exact h
        · rw [List.getElem?_eq_none (by simpa using h)] at hj; cases hj
      rw [List.getElem?_map, List.getElem?_range hjl] at hj
      injection hj with hj
      subst hj
      refine ⟨a, rfl, ?_, (hq j (by omega)).1, (hq j (by omega)).2.1⟩
      have := World.block_lt_of_cell? W _ (hq j (by omega)).1
      rwa [block_add] at this
    · obtain ⟨i, hi, rfl⟩ := List.mem_map.1 hx
      have := List.mem_range.1 hi
      exact ⟨(hq i (by omega)).2.2.1, (hq i (by omega)).2.2.2⟩
end
end Go.Proofs.Ytlgffdmmlnoiaaa.V
