/-
  SnapPacks returns true for every input, and each argument reads behind the call as it read before; no condition.
-/
import Derived.Test.YtlgffdmmlnoiaaaRows
import Derived.Test.YtlgffdmmlnoiaaaWg
import Derived.Test.YtlgffdmmlnoiaaaOpen
set_option linter.unusedVariables false
namespace Go.Proofs.Ytlgffdmmlnoiaaa
open Go Go.RowKit V Pk Go.ChangeShapes Go.WideShapes Go.ChangeAt

theorem law_own : ownKnob Try.prog.godebug = none := by kernel_rfl
theorem law_laidOut : laidOutB Try.prog = true := by kernel_rfl
theorem law_by32 : Try.prog.bytesOf 37 = 4 := by kernel_rfl
theorem law_by8 : Try.prog.bytesOf 5 = 1 := by kernel_rfl
theorem law_byR : Try.prog.bytesOf 39 = 16 := by kernel_rfl
theorem law_c32 : Try.prog.cellsOf 37 = 1 := by kernel_rfl
theorem law_c64 : Try.prog.cellsOf 3 = 1 := by kernel_rfl
theorem law_c8 : Try.prog.cellsOf 5 = 1 := by kernel_rfl
theorem law_cR : Try.prog.cellsOf 39 = 2 := by kernel_rfl

set_option maxRecDepth 100000 in
theorem law_lifted (os : Os) (started : os.Started) (H : Type) (enc : TypeId × Value → H) :
    ReturnsInHanded {} Try.checked os 3 .any (Rows.snapPacksSpec.pre6 enc Try.prog Try.f3 Rows.snapPacksRow.domain false) (Rows.snapPacksSpec.post enc Try.prog Try.f3 false true false false) := by
  refine returnsInHanded_of_change_sized (C := Try.checked) law_own started (by kernel_rfl) Try.func3
    (ChangeSpec.witness6 (enc := enc) (C := Try.checked) false ⟨#[], #[.slice none 0 0, .slice none 0 0, .slice none 0 0], []⟩ 8 (by kernel_rfl) (by kernel_rfl) (by kernel_rfl) (by kernel_rfl)) ?_
  intro W base args ds gs before hval0 hW _ hsz0 _
  have hsz : (DataW.weightsEach Try.prog (Try.f3.params.toList ++ Rows.snapPacksSpec.plain.varTypes Try.prog) (ds ++ gs)).all (· ≤ reachBytes) = true := hsz0
  clear hsz0
  have hval : ∀ (j : Nat) t v, Try.f3.params[j]? = some t → args[j]? = some v → Value.okWide Try.prog W .any base t v := hval0
  have hW' := hW
  obtain ⟨p, q, hA0, hV, rfl, _, _⟩ := hW
  have hA : DataW.TrodAll enc Try.prog W 0 (fun _ => true) true Try.f3.params.toList args.toList ds p := hA0
  rw [Try.params3] at hA hval hsz
  obtain ⟨v0, v1, v2, d0, d1, d2, p0, p1, p2, rfl, rfl, rfl, h0, h1, h2⟩ := trodAll_three hA
  obtain ⟨rfl, rfl⟩ := trodVars_none hV
  obtain ⟨A0, n0, c0, l0, rfl, hl0, hc0, hw0, hnc0, hs0⟩ := open_Pairs (k0 := .u32) (k1 := .i64) Try.underlying22 Try.underlying39 law_cR rfl rfl law_c32 law_c64 Try.underlying37 Try.underlying3 (hval 0 22 v0 rfl rfl) h0
  obtain ⟨A1, n1, c1, l1, rfl, hI1, hw1, hs1⟩ := open_Ints st32 law_c32 (hval 1 23 v1 rfl rfl) h1
  obtain ⟨A2, n2, c2, l2, rfl, hI2, hw2, hs2⟩ := open_Ints st8 law_c8 (hval 2 24 v2 rfl rfl) h2
  clear hA0 hval0
  simp only [List.append_nil] at hW'
  have hlt : ∀ x ∈ p0 ++ (p1 ++ p2), x.block < W.heap.size := fun x hx => by simpa using hW'.lt x (by simpa [List.append_assoc] using hx)
  have b0 : c0 * 16 ≤ 140737488351232 := by
    rcases hs0 with rfl | ⟨el, sp, rfl, hlen⟩
    · omega
    · have := sized_slice hsz (j := 0) (t := 22) (e := 39) rfl rfl Try.underlying22
      rw [law_byR, hlen] at this
      simpa [reachBytes] using this
  have b1 : c1 * 4 ≤ 140737488351232 := by
    rcases hs1 with rfl | ⟨el, sp, rfl, hlen⟩
    · omega
    · have := sized_slice hsz (j := 1) (t := 23) (e := 37) rfl rfl Try.underlying23
      rw [law_by32, hlen] at this
      simpa [reachBytes] using this
  have b2 : c2 * 1 ≤ 140737488351232 := by
    rcases hs2 with rfl | ⟨el, sp, rfl, hlen⟩
    · omega
    · have := sized_slice hsz (j := 2) (t := 24) (e := 5) rfl rfl Try.underlying24
      rw [law_by8, hlen] at this
      simpa [reachBytes] using this
  refine (law_c A0 n0 c0 A1 n1 c1 A2 n2 c2 l0 l1 l2 W ⟨hl0, hc0⟩ hI1 hI2 (by omega) (by omega) (by omega)
    (fun r hr => ⟨wf_u32 (hw0 r hr).1, wf_i64 (hw0 r hr).2⟩) (fun x hx => wf_u32 (hw1 x hx)) (fun x hx => wf_u8 (hw2 x hx))).mono fun e W' ⟨v, he, hv, hn⟩ => ?_
  subst he hv
  refine ⟨_, rfl, _, _, _, [], p0 ++ (p1 ++ p2), [], hW', trodAll_mk1 (shut_bool Try.underlying4 _), ?_, rfl, hn.frame _, fun h => by cases h⟩
  exact trodAll_mk3 (Below.trod law_laidOut (by kernel_rfl) (of_decide_eq_true (by kernel_rfl)) h0 hn (fun x hx => hlt x (by simp [hx])))
    (Below.trod law_laidOut (by kernel_rfl) (of_decide_eq_true (by kernel_rfl)) h1 hn (fun x hx => hlt x (by simp [hx])))
    (Below.trod law_laidOut (by kernel_rfl) (of_decide_eq_true (by kernel_rfl)) h2 hn (fun x hx => hlt x (by simp [hx])))

theorem snapPacks_holds : Rows.SnapPacksSaid :=
  OpenClaim.holds_of_wide 3 Try.f3 rfl rfl rfl rfl rfl rfl rfl ⟨rfl, rfl, rfl, rfl, rfl⟩ rfl rfl rfl rfl rfl (by kernel_rfl) Try.func3 (by kernel_rfl)
    (of_decide_eq_true (by kernel_rfl)) (by unfold Func.isWrapper; rw [if_neg (of_decide_eq_false (by kernel_rfl))]; exact ⟨rfl, rfl⟩)
    (fun os started H enc _ => law_lifted os started H enc)
#print axioms snapPacks_holds
end Go.Proofs.Ytlgffdmmlnoiaaa
