/-
  Pack, of the program and of the document's answer: both give 'pack'.
-/
import Derived.Test.YtlgffdmmlnoiaaaWb
set_option linter.unusedVariables false
namespace Go.Proofs.Ytlgffdmmlnoiaaa
open Go Go.RowKit V Pk

theorem drop_cons {l : List Int} {i : Nat} (h : i < l.length) : l.drop i = l.getD i 0 :: l.drop (i + 1) := by
  rw [List.drop_eq_getElem_cons h]
  congr 1
  simp [List.getD_eq_getElem?_getD, h]

theorem take_succ_getD {l : List Int} {i : Nat} (h : i < l.length) : l.take (i + 1) = l.take i ++ [l.getD i 0] := by
  rw [List.take_succ_eq_append_getElem h]
  congr 2
  simp [List.getD_eq_getElem?_getD, h]

/-- What Pack hands back. -/
def PackPost (base : Nat) (l : List Int) (w : World) (v : Value) (w' : World) : Prop :=
  ∃ A' n' c', v = .slice A' n' c' ∧ OwnI w' base 5 .u8 A' n' c' (pack l) ∧ Below base w w'

set_option maxHeartbeats 1000000 in
/-- Pack -/
theorem pack_c (A : Option Addr) (n c b : Nat) (l : List Int) (w : World) (h : Ints w b .u32 A n c l) (hb : b ≤ w.heap.size) (hm : n ≤ 140737488355328) (hw : Wd l) :
    Calls Try.prog 7 #[.slice A n c] w fun e w' => ∃ v, e = .returned v ∧ PackPost w.heap.size l w v w' := by
  have hl := h.len
  refine Pack_calls A n c ?_
  refine split_mk (fun hlong => ?_) (fun hshort => ?_)
  · have hlong' : 262144 < l.length := by have : (n : Int) > 262144 := by simpa using hlong
                                          omega
    exact ⟨none, 0, 0, rfl, by unfold pack; rw [if_pos hlong']; exact OwnI.nil, Below.refl _ _⟩
  · have hshort' : ¬ 262144 < l.length := by have : ¬ (n : Int) > 262144 := by simpa using hshort
                                             omega
    have e0 : IntKind.u32.wrap ((n : Nat) : Int) = (l.length : Int) := by rw [u32_eq]; omega
    rw [e0]
    refine (put_c none 0 0 (l.length : Int) [] w.heap.size w OwnI.nil (Nat.le_refl _) (by omega)).mono ?_
    rintro e wv ⟨_, rfl, A0, n0, c0, rfl, hown0, hn0, hb0⟩
    refine ⟨A0, n0, c0, rfl, ?_⟩
    refine ⟨fun m wA wN wC oA oN oC w' => ∃ i : Nat, i ≤ l.length ∧ m = l.length - i ∧ Ints w' b .u32 wA wN wC (l.drop i) ∧ ∃ out, OwnI w' w.heap.size 5 .u8 oA oN oC out ∧ out.length ≤ 4 + 6 * i ∧
        out ++ packB (l.drop i).length (l.drop i) = four (l.length : Int) ++ packB l.length l ∧ Below w.heap.size w w',
      ⟨_, 0, by omega, rfl, by simpa using h.below (hb0.mono hb), _, hown0, by simp [four], by simp, hb0⟩, ?_⟩
    rintro m _ wA wN wC oA oN oC wv1 ⟨i, hi, rfl, hI, out, hO, hol, htot, hbel⟩
    have hdl := hI.len
    have hOl := hO.len
    rw [List.length_drop] at hdl
    refine split_mk (fun hgt => ?_) (fun hend => ?_)
    · have hgt' : i < l.length := by have : (wN : Int) > 0 := by simpa using hgt
                                     omega
      have hdc := drop_cons hgt'
      have hstep := packB_step (l.getD i 0) (l.drop (i + 1))
      rw [← hdc] at hstep
      have hal := alikeN_le (l.getD i 0) (l.drop (i + 1))
      have hul := unlikeN_le (l.getD i 0) (l.drop (i + 1))
      rw [← hdc, List.length_drop] at hal hul
      have hap := alikeN_pos (l.drop i)
      have hup := unlikeN_pos (l.drop i)
      refine (alike_c wA wN wC b (l.drop i) wv1 hI (by omega) (by omega)).mono ?_
      rintro e _ ⟨_, rfl, rfl, k, rfl⟩
      refine ⟨_, rfl, ?_⟩
      rintro nn hnn
      generalize hN : min (alikeN (l.drop i)) 32767 = N at hstep
      have hnn' : nn = (N : Int) := by rw [hnn]; split <;> omega
      clear hnn
      subst hnn'
      refine split_mk (fun hge => ?_) (fun hlt => ?_)
      · have hge' : 2 ≤ N := by have : (N : Int) ≥ 2 := by simpa using hge
                                omega
        rw [if_pos hge'] at hstep
        have hI1 : Ints (wv1.drewN k).drew b .u32 wA wN wC (l.drop i) := (hI.drewN k).drew
        have hO1 : OwnI (wv1.drewN k).drew w.heap.size 5 .u8 oA oN oC out := hO
        refine ⟨w.heap.size, hbel.size, ?_⟩
        refine hI1.rdB (by omega) (by omega) hb ?_
        have hb1 : Below w.heap.size (wv1.drewN k).drew ((wv1.drewN k).drew.alloc (.cells #[.int .u8 (IntKind.u8.wrap ((IntKind.i64.wrap (32768 + (N : Int)) : Int).fdiv (2 ^ 8))), .int .u8 (IntKind.u8.wrap (N : Int))] 5)) :=
          (Below.refl w.heap.size (wv1.drewN k).drew).alloc (show w.heap.size ≤ (wv1.drewN k).drew.heap.size from hbel.size) _
        refine ⟨hb1, _, Nat.le_refl _, ?_⟩
        rw [i64_id (by omega)] at *
        obtain ⟨A1, n1, c1, w1, hr1, ho1, hn1, hb2, hb2'⟩ := app_new st8 24 hO1 (by exact hbel.size) (rhdr N) 2 rfl (by omega) (by omega)
        have hb3 : Below w.heap.size wv1 w1 := ⟨hb2.os, hb2.tape, hb2.output, hb2.size, hb2.block⟩
        refine ⟨A1, n1, c1, w1, hr1, ?_, _, Nat.le_refl _, ?_⟩
        · exact hb2'
        refine (put_c A1 n1 c1 _ (out ++ rhdr N) w.heap.size w1 ho1 (Nat.le_trans hbel.size hb3.size) (by omega)).mono ?_
        rintro e w2 ⟨_, rfl, A2, n2, c2, rfl, ho2, hn2, hb4⟩
        refine ⟨A2, n2, c2, rfl, hb4, _, Nat.le_refl _, ⟨by omega, by omega⟩, ?_⟩
        rintro A3 hA3 N3 hN3 C3 hC3
        refine ⟨l.length - (i + N), by omega, i + N, by omega, rfl, ?_, out ++ rhdr N ++ four ((l.drop i).getD 0 0), ?_, ?_, ?_, (hbel.trans hb3).trans hb4⟩
        · have hI3 := (hI.below (hb3.mono hb)).below (hb4.mono hb)
          have := hI3.from_ (lo := N) (m := wC) (by simpa using hA3) (by simpa using hN3) (by simpa using hC3) (by omega) hI.cap
          rwa [List.drop_drop] at this
        · exact ho2
        · simp only [List.length_append, rhdr, four, List.length_cons, List.length_nil]; omega
        · rw [← htot, hstep, List.drop_drop, getD_drop]
          simp [List.append_assoc]
      · have hlt' : ¬ 2 ≤ N := by have : ¬ (N : Int) ≥ 2 := by simpa using hlt
                                  omega
        rw [if_neg hlt'] at hstep
        clear hN hlt
        refine (unlike_c wA wN wC b (l.drop i) (wv1.drewN k) (hI.drewN k) (by omega) (by omega)).mono ?_
        rintro e _ ⟨_, rfl, rfl, k2, rfl⟩
        refine ⟨_, rfl, ?_⟩
        rintro nn hnn
        generalize hM : min (unlikeN (l.drop i)) 32767 = M at hstep
        have hnn' : nn = (M : Int) := by rw [hnn]; split <;> omega
        clear hnn
        subst hnn'
        have hI1 : Ints ((wv1.drewN k).drewN k2) b .u32 wA wN wC (l.drop i) := (hI.drewN k).drewN k2
        have hO1 : OwnI ((wv1.drewN k).drewN k2) w.heap.size 5 .u8 oA oN oC out := hO
        obtain ⟨A1, n1, c1, w1, hr1, ho1, hn1, hb2, hb2'⟩ := app_new st8 24 hO1 (by exact hbel.size) (hdr M) 2 rfl (by omega) (by omega)
        have hb3 : Below w.heap.size wv1 w1 := ⟨hb2.os, hb2.tape, hb2.output, hb2.size, hb2.block⟩
        refine ⟨A1, n1, c1, w1, hr1, ⟨by omega, by have := hI.cap; omega⟩, ?_⟩
        rintro A3 hA3 N3 hN3 C3 hC3
        have hI3 : Ints w1 b .u32 A3 N3 C3 (((l.drop i).take M).drop 0) := (hI.below (hb3.mono hb)).cut (lo := 0) (hi := M) (m := wC) hA3 (by simpa using hN3) hC3 (by omega) (by omega) (by have := hI.cap; omega)
        rw [List.drop_zero] at hI3
        have hN3' := hI3.len
        rw [List.length_take, List.length_drop] at hN3'
        refine ⟨fun m2 oA2 oN2 oC2 x w' => ∃ j : Nat, x = (j : Int) ∧ j ≤ M ∧ m2 = M - j ∧ OwnI w' w.heap.size 5 .u8 oA2 oN2 oC2 (out ++ hdr M ++ ((l.drop i).take j).flatMap four) ∧ Below w.heap.size w1 w',
          ⟨_, 0, rfl, by omega, rfl, by simpa using ho1, Below.refl _ _⟩, ?_⟩
        rintro m2 _ oA2 oN2 oC2 x wv5 ⟨j, rfl, hj, rfl, hO2, hb5⟩
        have hO2l := hO2.len
        refine split_mk (fun hjl => ?_) (fun hje => ?_)
        · have hjl' : j < M := by have : (j : Int) < (N3 : Int) := by simpa using hjl
                                  omega
          refine (hI3.below (hb5.mono hb)).rd (by omega) (by omega) ?_
          simp only [List.length_append, flatMap_four_length, hdr, List.length_cons, List.length_nil, List.length_take, List.length_drop] at hO2l
          refine (put_c oA2 oN2 oC2 _ _ w.heap.size wv5 hO2 (Nat.le_trans hbel.size (Nat.le_trans hb3.size hb5.size)) (by omega)).mono ?_
          rintro e w6 ⟨_, rfl, A6, n6, c6, rfl, ho6, hn6, hb6⟩
          refine ⟨A6, n6, c6, rfl, M - (j + 1), by omega, j + 1, by rw [i64_id (by omega)]; rfl, by omega, rfl, ?_, hb5.trans hb6⟩
          have hlt2 : j < (l.drop i).length := by rw [List.length_drop]; omega
          rw [take_succ_getD hlt2, List.flatMap_append]
          have e6 : ((l.drop i).take M).getD ((j : Int).toNat) 0 = (l.drop i).getD j 0 := by
            rw [Int.toNat_natCast, List.getD_eq_getElem?_getD, List.getD_eq_getElem?_getD, List.getElem?_take, if_pos hjl']
          rw [e6] at ho6
          simpa [List.append_assoc] using ho6
        · have hje' : ¬ j < M := by have : ¬ (j : Int) < (N3 : Int) := by simpa using hje
                                    omega
          obtain rfl : j = M := by omega
          refine ⟨⟨by omega, by omega⟩, ?_⟩
          rintro A4 hA4 N4 hN4 C4 hC4
          refine ⟨l.length - (i + j), by omega, i + j, by omega, rfl, ?_, _, hO2, ?_, ?_, (hbel.trans hb3).trans hb5⟩
          · have hI4 := (hI.below (hb3.mono hb)).below (hb5.mono hb)
            have := hI4.from_ (lo := j) (m := wC) (by simpa using hA4) (by simpa using hN4) (by simpa using hC4) (by omega) hI.cap
            rwa [List.drop_drop] at this
          · simp only [List.length_append, flatMap_four_length, hdr, List.length_cons, List.length_nil, List.length_take, List.length_drop]; omega
          · rw [← htot, hstep, List.drop_drop]
            simp [List.append_assoc]
    · have hend' : l.drop i = [] := by
        have : ¬ (wN : Int) > 0 := by simpa using hend
        exact List.eq_nil_of_length_eq_zero (by rw [List.length_drop]; omega)
      rw [hend'] at htot
      simp only [List.length_nil, packB, List.append_nil] at htot
      subst htot
      exact ⟨oA, oN, oC, rfl, by unfold pack; rw [if_neg hshort']; exact hO, hbel⟩
end Go.Proofs.Ytlgffdmmlnoiaaa
