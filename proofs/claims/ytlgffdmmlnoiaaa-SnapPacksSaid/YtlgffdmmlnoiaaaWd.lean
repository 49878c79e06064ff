/-
  Pack of the document's answer: it gives 'pack', too.
-/
import Derived.Test.YtlgffdmmlnoiaaaWc
set_option linter.unusedVariables false
namespace Go.Proofs.Ytlgffdmmlnoiaaa
open Go Go.RowKit V Pk

/-- Where the search for two alike ones stops, at most at a bound. -/
theorem unlike_min {l : List Int} {n B : Nat} (hB : 1 ≤ B) (h1 : 1 ≤ n) (h2 : n ≤ l.length) (hnB : n ≤ B) (h3 : ∀ j, 1 ≤ j → j < n → j + 1 = l.length ∨ l.getD j 0 ≠ l.getD (j + 1) 0)
    (h4 : n = B ∨ n = l.length ∨ (n + 1 < l.length ∧ l.getD n 0 = l.getD (n + 1) 0)) : min (unlikeN l) B = n := by
  rcases h4 with rfl | h4
  · -- the count is at least n
    cases l with
    | nil => simp at h2; omega
    | cons x r =>
      have ht := unl_le r
      simp only [unlikeN, List.length_cons] at *
      by_cases hlt : 1 + unl r < n
      · have := unl_end r (by omega)
        have h5 := h3 (1 + unl r) (by omega) hlt
        rw [Nat.add_comm 1] at h5
        simp only [List.getD_cons_succ] at h5
        rcases h5 with h5 | h5
        · omega
        · exact absurd this.2 h5
      · omega
  · rw [unlikeN_of h1 h2 h3 h4]
    omega

set_option maxRecDepth 100000 in
set_option maxHeartbeats 1000000 in
/-- Pack of the document's answer -/
theorem rpack_c (A : Option Addr) (n c b : Nat) (l : List Int) (w : World) (h : Ints w b .u32 A n c l) (hb : b ≤ w.heap.size) (hm : n ≤ 140737488355328) (hw : Wd l) :
    Calls Try.prog 8 #[.slice A n c] w fun e w' => ∃ v, e = .returned v ∧ PackPost w.heap.size l w v w' := by
  have hl := h.len
  refine RPack_calls A n c ?_
  refine split_mk (fun hlong => ?_) (fun hshort => ?_)
  · have hlong' : 262144 < l.length := by have : (n : Int) > 262144 := by simpa using hlong
                                          omega
    exact ⟨none, 0, 0, rfl, by unfold pack; rw [if_pos hlong']; exact OwnI.nil, Below.refl _ _⟩
  · have hshort' : ¬ 262144 < l.length := by have : ¬ (n : Int) > 262144 := by simpa using hshort
                                             omega
    have e0 : IntKind.u32.wrap ((n : Nat) : Int) = (l.length : Int) := by rw [u32_eq]; omega
    rw [e0]
    refine (four_c (l.length : Int) w).mono ?_
    rintro e wv ⟨_, rfl, A0, n0, c0, rfl, hown0, rfl, hb0⟩
    refine ⟨A0, 4, c0, rfl, ?_⟩
    rintro at0 rfl
    refine ⟨fun m oA oN oC at_ w' => ∃ i : Nat, at_ = (i : Int) ∧ i ≤ l.length ∧ m = l.length - i ∧ ∃ out, OwnI w' w.heap.size 5 .u8 oA oN oC out ∧ out.length ≤ 4 + 6 * i ∧
        out ++ packB (l.drop i).length (l.drop i) = four (l.length : Int) ++ packB l.length l ∧ Below w.heap.size w w',
      ⟨_, 0, rfl, by omega, rfl, _, hown0, by simp [four], by simp, hb0⟩, ?_⟩
    rintro m _ oA oN oC at_ wv1 ⟨i, rfl, hi, rfl, out, hO, hol, htot, hbel⟩
    have hOl := hO.len
    have hI := h.below (hbel.mono hb)
    refine split_mk (fun hgt => ?_) (fun hend => ?_)
    · have hgt' : i < l.length := by have : (i : Int) < (n : Int) := by simpa using hgt
                                     omega
      have hdl : (l.drop i).length = l.length - i := List.length_drop
      have hdc := drop_cons hgt'
      have hstep := packB_step (l.getD i 0) (l.drop (i + 1))
      rw [← hdc] at hstep
      have hal := alikeN_le (l.getD i 0) (l.drop (i + 1))
      have hul := unlikeN_le (l.getD i 0) (l.drop (i + 1))
      rw [← hdc, List.length_drop] at hal hul
      have hap := alikeN_pos (l.drop i)
      have hup := unlikeN_pos (l.drop i)
      refine (ralike_c A n c b l (i : Int) wv1 hI (by omega) (by omega) (by omega)).mono ?_
      rintro e _ ⟨_, rfl, rfl, k, rfl⟩
      refine ⟨_, rfl, ?_⟩
      rintro nn hnn
      rw [Int.toNat_natCast] at hnn
      generalize hN : min (alikeN (l.drop i)) 32767 = N at hstep hnn
      subst hnn
      have hI1 := hI.drewN k
      have hO1 : OwnI (wv1.drewN k) w.heap.size 5 .u8 oA oN oC out := hO
      refine split_mk (fun hge => ?_) (fun hlt => ?_)
      · have hge' : 2 ≤ N := by have : (N : Int) ≥ 2 := by simpa using hge
                                omega
        rw [if_pos hge'] at hstep
        rw [i64_id (x := 32768 + (N : Int)) (by omega)]
        obtain ⟨A1, n1, c1, w1, hr1, ho1, hn1, hb2, _⟩ := app_new st8 24 hO1 (by exact hbel.size) (rhdr N) 2 rfl (by omega) (by omega)
        have hb3 : Below w.heap.size wv1 w1 := ⟨hb2.os, hb2.tape, hb2.output, hb2.size, hb2.block⟩
        refine ⟨A1, n1, c1, w1, hr1, ?_⟩
        refine (hI.below (hb3.mono hb)).rd (by omega) (by omega) ?_
        refine (four_c _ w1).mono ?_
        rintro e w2 ⟨_, rfl, A2, n2, c2, rfl, ho2, rfl, hb4⟩
        refine ⟨A2, 4, c2, rfl, ?_⟩
        have hle1 : w.heap.size ≤ w1.heap.size := Nat.le_trans hbel.size hb3.size
        obtain ⟨A3, n3, c3, w3, hr3, ho3, hn3, hb5⟩ := app_ints st8 24 (ho1.keep hb4) (Nat.le_trans hle1 hb4.size) ho2.ints (by omega) (by omega)
        refine ⟨A3, n3, c3, w3, hr3, ?_⟩
        rintro at2 rfl
        refine ⟨l.length - (i + N), by omega, i + N, by rw [i64_id (by omega)]; omega, by omega, rfl, _, ho3, ?_, ?_, ((hbel.trans hb3).trans (hb4.mono hle1)).trans hb5⟩
        · simp only [List.length_append, rhdr, four, List.length_cons, List.length_nil]; omega
        · rw [← htot, hstep, List.drop_drop]
          simp [List.append_assoc]
      · have hlt' : ¬ 2 ≤ N := by have : ¬ (N : Int) ≥ 2 := by simpa using hlt
                                  omega
        rw [if_neg hlt'] at hstep
        obtain rfl : N = 1 := by omega
        clear hN hlt
        refine ⟨fun x w' => x = (min (unlikeN (l.drop i)) 32767 : Nat) ∧ ∃ k, w' = wv1.drewN k, ?_, ?_⟩
        · refine ⟨fun m2 x w' => ∃ j : Nat, x = (j : Int) ∧ 1 ≤ j ∧ j ≤ 32767 ∧ j ≤ (l.drop i).length ∧ m2 = 32767 - j ∧ (∀ q, 1 ≤ q → q < j → q + 1 = (l.drop i).length ∨ (l.drop i).getD q 0 ≠ (l.drop i).getD (q + 1) 0) ∧ ∃ k, w' = wv1.drewN k,
            ⟨32766, 1, by omega, by omega, by omega, by omega, by omega, by omega, k, rfl⟩, ?_⟩
          rintro m2 _ x w3 ⟨j, rfl, hj1, hj2, hj3, rfl, hall, k3, rfl⟩
          refine ⟨fun T w' => w' = wv1.drewN k3 ∧ T = decide ((j : Int) < 32767 ∧ (i : Int) + j < n), ?_, ?_⟩
          · refine split_mk (fun hb => ?_) (fun hb => ?_)
            · have hb' : j < 32767 := by have : (j : Int) < 32767 := by simpa using hb
                                         omega
              rw [i64_id (by omega)]
              refine ⟨rfl, ?_⟩
              rw [decide_eq_decide]
              omega
            · have hb' : ¬ j < 32767 := by have : ¬ (j : Int) < 32767 := by simpa using hb
                                           omega
              exact ⟨rfl, (decide_eq_false (fun hh => hb' (by omega))).symm⟩
          · rintro _ T _ ⟨rfl, hT⟩
            refine split_mk (fun hb => ?_) (fun hb => ?_)
            · subst hb
              obtain ⟨hjb', hjl'⟩ := of_decide_eq_true hT.symm
              have hjb : j < 32767 := by omega
              have hjl : j < (l.drop i).length := by omega
              refine ⟨fun T w' => w' = wv1.drewN (k3 + 1) ∧ T = decide (j + 1 < (l.drop i).length ∧ (l.drop i).getD j 0 = (l.drop i).getD (j + 1) 0), ?_, ?_⟩
              · have hI3 : Ints (wv1.drewN k3).drew b .u32 A n c l := (hI.drewN k3).drew
                rw [i64_id (x := (i : Int) + j) (by omega), i64_id (x := (i : Int) + j + 1) (by omega)]
                refine split_mk (fun hc => ?_) (fun hc => ?_)
                · have hc' : j + 1 < (l.drop i).length := by have : (i : Int) + j + 1 < (n : Int) := by simpa using hc
                                                             omega
                  refine hI3.rd (by omega) (by omega) (hI3.rd (by omega) (by omega) ⟨rfl, ?_⟩)
                  rw [getD_drop, getD_drop, show ((i : Int) + j).toNat = i + j by omega, show ((i : Int) + j + 1).toNat = i + (j + 1) by omega]
                  simp [ibeq]
                  omega
                · have hc' : ¬ j + 1 < (l.drop i).length := by have : ¬ (i : Int) + j + 1 < (n : Int) := by simpa using hc
                                                               omega
                  exact ⟨rfl, (decide_eq_false (fun hh => hc' hh.1)).symm⟩
              · rintro _ T _ ⟨rfl, hT⟩
                refine split_mk (fun hb => ?_) (fun hb => ?_)
                · subst hb
                  have ht := of_decide_eq_true hT.symm
                  refine ⟨?_, k3 + 1, rfl⟩
                  rw [unlike_min (l := l.drop i) (n := j) (B := 32767) (by omega) hj1 hj3 hj2 hall (.inr (.inr ht))]
                · subst hb
                  have hf := of_decide_eq_false hT.symm
                  rintro n2 rfl
                  refine ⟨32767 - (j + 1), by omega, j + 1, by rw [i64_id (by omega)]; rfl, by omega, by omega, by omega, rfl, fun q hq hq2 => ?_, k3 + 1, rfl⟩
                  by_cases hqj : q < j
                  · exact hall q hq hqj
                  · obtain rfl : q = j := by omega
                    by_cases hql : q + 1 = (l.drop i).length
                    · exact .inl hql
                    · exact .inr fun he => hf ⟨by omega, he⟩
            · subst hb
              have hf := of_decide_eq_false hT.symm
              refine ⟨?_, k3, rfl⟩
              rw [unlike_min (l := l.drop i) (n := j) (B := 32767) (by omega) hj1 hj3 hj2 hall (by omega)]
        · rintro _ x _ ⟨rfl, k2, rfl⟩
          generalize hM : min (unlikeN (l.drop i)) 32767 = M at hstep
          have hO2 : OwnI (wv1.drewN k2) w.heap.size 5 .u8 oA oN oC out := hO
          obtain ⟨A1, n1, c1, w1, hr1, ho1, hn1, hb2, _⟩ := app_new st8 24 hO2 (by exact hbel.size) (hdr M) 2 rfl (by omega) (by omega)
          have hb3 : Below w.heap.size wv1 w1 := ⟨hb2.os, hb2.tape, hb2.output, hb2.size, hb2.block⟩
          refine ⟨A1, n1, c1, w1, hr1, ?_⟩
          rintro i0 rfl
          refine ⟨fun m2 oA2 oN2 oC2 x w' => ∃ j : Nat, x = (i : Int) + (j : Int) ∧ j ≤ M ∧ m2 = M - j ∧ OwnI w' w.heap.size 5 .u8 oA2 oN2 oC2 (out ++ hdr M ++ ((l.drop i).take j).flatMap four) ∧ Below w.heap.size w1 w',
            ⟨_, 0, by omega, by omega, rfl, by simpa using ho1, Below.refl _ _⟩, ?_⟩
          rintro m2 _ oA2 oN2 oC2 x wv5 ⟨j, rfl, hj, rfl, hO2, hb5⟩
          have hO2l := hO2.len
          rw [i64_id (x := (i : Int) + M) (by omega)]
          refine split_mk (fun hjl => ?_) (fun hje => ?_)
          · have hjl' : j < M := by have : (i : Int) + (j : Int) < (i : Int) + M := by simpa using hjl
                                    omega
            refine ((hI.below (hb3.mono hb)).below (hb5.mono hb)).rd (by omega) (by omega) ?_
            simp only [List.length_append, flatMap_four_length, hdr, List.length_cons, List.length_nil, List.length_take, List.length_drop] at hO2l
            have hle5 : w.heap.size ≤ wv5.heap.size := Nat.le_trans hbel.size (Nat.le_trans hb3.size hb5.size)
            refine (four_c _ wv5).mono ?_
            rintro e w6 ⟨_, rfl, A6, n6, c6, rfl, ho6, rfl, hb6⟩
            refine ⟨A6, 4, c6, rfl, ?_⟩
            obtain ⟨A7, n7, c7, w7, hr7, ho7, hn7, hb7⟩ := app_ints st8 24 (hO2.keep hb6) (Nat.le_trans hle5 hb6.size) ho6.ints (by omega) (by omega)
            refine ⟨A7, n7, c7, w7, hr7, ?_⟩
            rintro i2 rfl
            refine ⟨M - (j + 1), by omega, j + 1, by rw [i64_id (by omega)]; omega, by omega, rfl, ?_, (hb5.trans (hb6.mono hle5)).trans hb7⟩
            have hlt2 : j < (l.drop i).length := by rw [List.length_drop]; omega
            rw [take_succ_getD hlt2, List.flatMap_append, getD_drop]
            rw [show ((i : Int) + (j : Int)).toNat = i + j by omega] at ho7
            simpa [List.append_assoc] using ho7
          · have hje' : ¬ j < M := by have : ¬ (i : Int) + (j : Int) < (i : Int) + M := by simpa using hje
                                      omega
            obtain rfl : j = M := by omega
            rintro at2 rfl
            refine ⟨l.length - (i + j), by omega, i + j, by rfl, by omega, rfl, _, hO2, ?_, ?_, (hbel.trans hb3).trans hb5⟩
            · simp only [List.length_append, flatMap_four_length, hdr, List.length_cons, List.length_nil, List.length_take, List.length_drop]; omega
            · rw [← htot, hstep, List.drop_drop]
              simp [List.append_assoc]
    · have hend' : l.drop i = [] := by
        have : ¬ (i : Int) < (n : Int) := by simpa using hend
        exact List.eq_nil_of_length_eq_zero (by rw [List.length_drop]; omega)
      rw [hend'] at htot
      simp only [List.length_nil, packB, List.append_nil] at htot
      subst htot
      exact ⟨oA, oN, oC, rfl, by unfold pack; rw [if_neg hshort']; exact hO, hbel⟩
end Go.Proofs.Ytlgffdmmlnoiaaa
