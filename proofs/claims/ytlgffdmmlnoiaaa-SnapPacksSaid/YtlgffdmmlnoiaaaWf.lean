/-
  Unpack of the document's answer.
-/
import Derived.Test.YtlgffdmmlnoiaaaWe
set_option linter.unusedVariables false
namespace Go.Proofs.Ytlgffdmmlnoiaaa
open Go Go.RowKit V Pk

theorem head2_sum (a b : Int) (ha : 0 ≤ a ∧ a < 256) (hb : 0 ≤ b ∧ b < 256) :
    IntKind.i64.wrap ((IntKind.i64.wrap ((IntKind.i64.wrap a : Int) * 2 ^ 8)) + (IntKind.i64.wrap b)) = a * 256 + b := by
  rw [i64_id (x := a) (by omega), i64_id (x := b) (by omega), i64_id (x := a * 2 ^ 8) (by omega), i64_id (by omega)]
  omega

/-- What is known of the list that 'loose' collects. -/
def LInv (b : List Int) (num : Nat) (base : Nat) (w : World) (A : Option Addr) (n c : Nat) (l : List Int) (w' : World) : Prop :=
  OwnI w' base 37 .u32 A n c l ∧ Below base w w' ∧ Wd l ∧ l.length ≤ num + 1

/-- What 'loose' hands back. -/
def LPost (base : Nat) (b : List Int) (num : Nat) (w : World) (v : Value) (w' : World) : Prop :=
  ∃ A' n' c' l, v = .slice A' n' c' ∧ LInv b num base w A' n' c' l w' ∧ ∀ L, GoodP L b → l = L

set_option maxRecDepth 10000 in
set_option maxHeartbeats 2000000 in
/-- loose -/
theorem loose_c (A : Option Addr) (n c b : Nat) (l : List Int) (w : World) (h : Ints w b .u8 A n c l) (hb : b ≤ w.heap.size) (hm : n ≤ 140737488355328) (h4 : 4 ≤ n) (hbt : Bt l) (num : Nat) (hnum : num4 l = num) (hnm : num ≤ 262144) :
    Calls Try.prog 22 #[.slice A n c] w fun e w' => ∃ v, e = .returned v ∧ LPost w.heap.size l num w v w' := by
  have hl := h.len
  refine Loose_calls A n c ?_
  refine (number_c A n c b l w h h4 hbt).mono ?_
  rintro e _ ⟨_, rfl, rfl, rfl⟩
  refine ⟨_, rfl, ?_⟩
  rintro nn hnn
  rw [i64_id (by omega), hnum] at hnn
  subst hnn
  rintro at0 rfl
  refine ⟨fun m lA lN lC at_ w' => ∃ (a : Nat) (l' : List Int), at_ = (a : Int) ∧ 4 ≤ a ∧ a ≤ l.length ∧ m = l.length - a ∧ LInv l num w.heap.size w lA lN lC l' w' ∧ ∀ L, GoodP L l → ∃ i, i ≤ L.length ∧ l' = L.take i ∧ l.drop a = packB (L.drop i).length (L.drop i),
    ⟨_, 4, [], rfl, by omega, by omega, rfl, ⟨OwnI.nil, (Below.refl _ _).drew, (by intro x hx; cases hx), Nat.zero_le _⟩, fun L hL => ⟨0, by omega, by simp, by rw [hL.head]; simp [four]⟩⟩, ?_⟩
  rintro m _ lA lN lC at_ wv1 ⟨a, l', rfl, ha4, hal, rfl, ⟨hO, hbel, hwd, hln⟩, hG⟩
  have hOl := hO.len
  refine ⟨fun T w' => wv1 = w' ∧ T = decide ((a : Int) + 2 ≤ n ∧ l'.length < num), ?_, ?_⟩
  · rw [i64_id (by omega)]
    refine split_mk (fun hc => ?_) (fun hc => ?_)
    · have hc' : (a : Int) + 2 ≤ n := by simpa using hc
      refine ⟨rfl, ?_⟩
      rw [decide_eq_decide]
      omega
    · have hc' : ¬ (a : Int) + 2 ≤ n := by simpa using hc
      exact ⟨rfl, (decide_eq_false (fun hh => hc' hh.1)).symm⟩
  rintro _ T _ ⟨rfl, hT⟩
  have hrest : (l.drop a).length = l.length - a := List.length_drop
  have hbr := hbt.drop a
  refine split_mk (fun hc => ?_) (fun hc => ?_)
  · subst hc
    obtain ⟨ha2, hlt⟩ := of_decide_eq_true hT.symm
    have hSt : ∀ L, GoodP L l → ∃ i, i < L.length ∧ l' = L.take i ∧ L.length = num ∧ ∃ k : Nat, 1 ≤ k ∧ k ≤ 32767 ∧ i + k ≤ L.length ∧ 2 ≤ (l.drop a).length ∧
        ((head2 (l.drop a) = 32768 + k ∧ 6 ≤ (l.drop a).length ∧ ext true ((l.drop a).drop 2) k = (L.drop i).take k ∧ ((l.drop a).drop 2).drop 4 = packB (L.drop (i + k)).length (L.drop (i + k))) ∨
         (head2 (l.drop a) = k ∧ 2 + 4 * k ≤ (l.drop a).length ∧ ext false ((l.drop a).drop 2) k = (L.drop i).take k ∧ ((l.drop a).drop 2).drop (4 * k) = packB (L.drop (i + k)).length (L.drop (i + k)))) := by
      intro L hL
      obtain ⟨i, hi, hwi, hri⟩ := hG L hL
      have hnL : L.length = num := by have := hL.num; omega
      have hilt : i < L.length := by
        rw [hwi, List.length_take] at hlt
        omega
      exact ⟨i, hilt, hwi, hnL, stretch hL.1 hilt hri⟩
    have hI := h.below (hbel.mono hb)
    have hI' : Ints wv1.drew b .u8 A n c l := hI.drew
    refine hI'.rd (by omega) (by omega) ?_
    rw [i64_id (x := (a : Int) + 1) (by omega)]
    refine hI'.rd (by omega) (by omega) ?_
    have e0 : l.getD (a : Int).toNat 0 = (l.drop a).getD 0 0 := by rw [getD_drop]; rfl
    have e1 : l.getD ((a : Int) + 1).toNat 0 = (l.drop a).getD 1 0 := by rw [getD_drop]; congr 1
    rw [e0, e1, head2_sum _ _ (getD_bt hbr _) (getD_bt hbr _)]
    have g0 := getD_bt hbr 0
    have g1 := getD_bt hbr 1
    rintro k0 hk0
    have hk0' : k0 = head2 (l.drop a) := hk0
    have hhead : 0 ≤ head2 (l.drop a) ∧ head2 (l.drop a) < 65536 := by unfold head2; omega
    clear hk0
    rintro at2 hat2
    rw [i64_id (by omega)] at hat2
    obtain rfl : at2 = ((a + 2 : Nat) : Int) := by omega
    generalize hrest2 : (l.drop a).drop 2 = rest2 at hSt
    have hr2e : rest2 = l.drop (a + 2) := by rw [← hrest2, List.drop_drop]
    have hbr2 : Bt rest2 := by rw [hr2e]; exact hbt.drop _
    refine split_mk (fun hrun => ?_) (fun hlone => ?_)
    · have hrun' : k0 ≥ 32768 := by simpa using hrun
      rw [i64_id (x := ((a + 2 : Nat) : Int) + 4) (by omega)]
      refine split_mk (fun hsh => ?_) (fun hsh => ?_)
      · have hsh' : ((a + 2 : Nat) : Int) + 4 > n := by simpa using hsh
        refine ⟨lA, lN, lC, l', rfl, ⟨hO, hbel.drew, hwd, hln⟩, fun L hL => ?_⟩
        obtain ⟨i, hi, hwi, hnL, k, h1, h2, h3, h4', h5⟩ := hSt L hL
        exfalso
        rcases h5 with ⟨hh, h6, _⟩ | ⟨hh, h6, _⟩ <;> omega
      · have hsh' : ¬ ((a + 2 : Nat) : Int) + 4 > n := by simpa using hsh
        refine ⟨⟨by omega, by omega⟩, ?_⟩
        rintro xA hxA xN hxN xC hxC
        have hX : Ints wv1.drew b .u8 xA xN xC (l.drop (a + 2)) := hI'.from_ (lo := a + 2) (m := c) hxA hxN hxC (by omega) h.cap
        refine (number_c xA xN xC b _ wv1.drew hX (by have := hX.len; rw [List.length_drop] at this; omega) (hbt.drop _)).mono ?_
        rintro e _ ⟨_, rfl, rfl, rfl⟩
        refine ⟨_, rfl, ?_⟩
        rintro i0 rfl
        refine ⟨fun m2 lA2 lN2 lC2 x w' => ∃ j : Nat, x = (j : Int) ∧ (j : Int) ≤ k0 - 32768 ∧ m2 = (k0 - 32768).toNat - j ∧ LInv l num w.heap.size w lA2 lN2 lC2 (l' ++ ext true rest2 j) w',
          ⟨_, 0, rfl, by omega, rfl, by simpa [ext] using (show LInv l num w.heap.size w lA lN lC l' wv1.drew.drew from ⟨hO, hbel.drew.drew, hwd, hln⟩)⟩, ?_⟩
        rintro m2 _ lA2 lN2 lC2 x wv4 ⟨j, rfl, hj, rfl, ⟨hO2, hbel2, hwd2, hln2⟩⟩
        have hO2l := hO2.len
        rw [i64_id (x := k0 - 32768) (by omega)]
        refine ⟨fun T w' => wv4 = w' ∧ T = decide ((j : Int) < k0 - 32768 ∧ (l' ++ ext true rest2 j).length ≤ num), ?_, ?_⟩
        · refine split_mk (fun hc => ?_) (fun hc => ?_)
          · have hc' : (j : Int) < k0 - 32768 := by simpa using hc
            refine ⟨rfl, ?_⟩
            rw [decide_eq_decide]
            omega
          · have hc' : ¬ (j : Int) < k0 - 32768 := of_decide_eq_false hc
            exact ⟨rfl, (decide_eq_false (fun hh => hc' hh.1)).symm⟩
        rintro _ T _ ⟨rfl, hT⟩
        refine split_mk (fun hc => ?_) (fun hc => ?_)
        · subst hc
          obtain ⟨hj2, hl2⟩ := of_decide_eq_true hT.symm
          obtain ⟨A7, n7, c7, w7, hr7, ho7, hn7, hb7, _⟩ := app_new st32 23 hO2 hbel2.size [num4 (l.drop (a + 2))] 1 rfl (by omega) (by omega)
          refine ⟨A7, n7, c7, w7, hr7, ?_⟩
          rintro i2 rfl
          refine ⟨(k0 - 32768).toNat - (j + 1), by omega, j + 1, (i64_id (by omega)).trans (by omega), by omega, rfl, ?_, hbel2.trans hb7, ?_, ?_⟩
          · rw [ext_succ, ← List.append_assoc]
            simpa [hr2e] using ho7
          · intro y hy
            rcases List.mem_append.1 hy with hy | hy
            · exact hwd y hy
            · obtain ⟨q, _, rfl⟩ := List.mem_map.1 hy
              exact num4_range (hbr2.drop _)
          · rw [ext_succ, ← List.append_assoc, List.length_append]
            simp only [List.length_cons, List.length_nil]
            omega
        · subst hc
          have hstop := of_decide_eq_false hT.symm
          rintro at3 rfl
          refine ⟨l.length - (a + 6), by omega, a + 6, l' ++ ext true rest2 j, by omega, by omega, by omega, rfl, ⟨hO2, hbel2, hwd2, hln2⟩, fun L hL => ?_⟩
          obtain ⟨i, hi, hwi, hnL, k, h1, h2, h3, h4', h5⟩ := hSt L hL
          have hwl : l'.length = i := by rw [hwi, List.length_take]; omega
          rw [List.length_append, ext_length] at hstop
          rcases h5 with ⟨hh, h6, h7, h8⟩ | ⟨hh, h6, h7, h8⟩
          · obtain rfl : k = j := by omega
            refine ⟨i + k, by omega, ?_, ?_⟩
            · rw [h7, hwi, List.take_add]
            · rw [← h8, hr2e, List.drop_drop]
          · omega
    · have hlone' : ¬ k0 ≥ 32768 := by simpa using hlone
      rintro i0 rfl
      refine ⟨fun m2 lA2 lN2 lC2 at3 x w' => ∃ j : Nat, x = (j : Int) ∧ at3 = ((a + 2 + 4 * j : Nat) : Int) ∧ a + 2 + 4 * j ≤ l.length ∧ (j : Int) ≤ k0 ∧ m2 = k0.toNat - j ∧ LInv l num w.heap.size w lA2 lN2 lC2 (l' ++ ext false rest2 j) w',
        ⟨_, 0, rfl, by simp, by omega, by omega, rfl, by simpa [ext] using (show LInv l num w.heap.size w lA lN lC l' wv1.drew from ⟨hO, hbel.drew, hwd, hln⟩)⟩, ?_⟩
      rintro m2 _ lA2 lN2 lC2 at3 x wv3 ⟨j, rfl, rfl, hjl, hj, rfl, ⟨hO2, hbel2, hwd2, hln2⟩⟩
      have hO2l := hO2.len
      rw [i64_id (x := ((a + 2 + 4 * j : Nat) : Int) + 4) (by omega)]
      refine ⟨fun T w' => wv3 = w' ∧ T = decide ((j : Int) < k0 ∧ ((a + 2 + 4 * j : Nat) : Int) + 4 ≤ n ∧ (l' ++ ext false rest2 j).length ≤ num), ?_, ?_⟩
      · refine split_mk (fun hc => ?_) (fun hc => ?_)
        · have hc' : (j : Int) < k0 := by simpa using hc
          refine split_mk (fun hd => ?_) (fun hd => ?_)
          · have hd' : ((a + 2 + 4 * j : Nat) : Int) + 4 ≤ n := of_decide_eq_true hd
            refine ⟨rfl, ?_⟩
            rw [decide_eq_decide]
            omega
          · have hd' := of_decide_eq_false hd
            exact ⟨rfl, (decide_eq_false (fun hh => hd' hh.2.1)).symm⟩
        · have hc' := of_decide_eq_false hc
          exact ⟨rfl, (decide_eq_false (fun hh => hc' hh.1)).symm⟩
      rintro _ T _ ⟨rfl, hT⟩
      refine split_mk (fun hc => ?_) (fun hc => ?_)
      · subst hc
        obtain ⟨hj2, hn2, hl2⟩ := of_decide_eq_true hT.symm
        refine ⟨⟨by omega, by omega⟩, ?_⟩
        rintro xA hxA xN hxN xC hxC
        have et : (((a + 2 + 4 * j : Nat) : Int)).toNat = a + 2 + 4 * j := by omega
        rw [et] at hxA hxN hxC
        have hX : Ints wv3 b .u8 xA xN xC (l.drop (a + 2 + 4 * j)) := (h.below (hbel2.mono hb)).from_ (lo := a + 2 + 4 * j) (m := c) hxA hxN hxC (by omega) h.cap
        refine (number_c xA xN xC b _ wv3 hX (by have := hX.len; rw [List.length_drop] at this; omega) (hbt.drop _)).mono ?_
        rintro e _ ⟨_, rfl, rfl, rfl⟩
        refine ⟨_, rfl, ?_⟩
        obtain ⟨A7, n7, c7, w7, hr7, ho7, hn7, hb7, _⟩ := app_new st32 23 (w := wv3.drew) (show OwnI wv3.drew w.heap.size 37 .u32 lA2 lN2 lC2 _ from hO2) hbel2.size [num4 (l.drop (a + 2 + 4 * j))] 1 rfl (by omega) (by omega)
        refine ⟨A7, n7, c7, w7, hr7, ?_⟩
        rintro at4 rfl i2 rfl
        refine ⟨k0.toNat - (j + 1), by omega, j + 1, (i64_id (by omega)).trans (by omega), by omega, by omega, by omega, rfl, ?_, hbel2.trans ⟨hb7.os, hb7.tape, hb7.output, hb7.size, hb7.block⟩, ?_, ?_⟩
        · rw [ext_succ, ← List.append_assoc]
          simpa [hr2e] using ho7
        · intro y hy
          rcases List.mem_append.1 hy with hy | hy
          · exact hwd y hy
          · obtain ⟨q, _, rfl⟩ := List.mem_map.1 hy
            exact num4_range (hbr2.drop _)
        · rw [ext_succ, ← List.append_assoc, List.length_append]
          simp only [List.length_cons, List.length_nil]
          omega
      · subst hc
        have hstop := of_decide_eq_false hT.symm
        refine ⟨l.length - (a + 2 + 4 * j), by omega, a + 2 + 4 * j, l' ++ ext false rest2 j, rfl, by omega, hjl, rfl, ⟨hO2, hbel2, hwd2, hln2⟩, fun L hL => ?_⟩
        obtain ⟨i, hi, hwi, hnL, k, h1, h2, h3, h4', h5⟩ := hSt L hL
        have hwl : l'.length = i := by rw [hwi, List.length_take]; omega
        rw [List.length_append, ext_length] at hstop
        rcases h5 with ⟨hh, h6, h7, h8⟩ | ⟨hh, h6, h7, h8⟩
        · omega
        · obtain rfl : k = j := by omega
          refine ⟨i + k, by omega, ?_, ?_⟩
          · rw [h7, hwi, List.take_add]
          · rw [← h8, hr2e, List.drop_drop]
  · subst hc
    have hstop := of_decide_eq_false hT.symm
    refine ⟨lA, lN, lC, l', rfl, ⟨hO, hbel, hwd, hln⟩, fun L hL => ?_⟩
    obtain ⟨i, hi, hwi, hri⟩ := hG L hL
    have hnL : L.length = num := by have := hL.num; omega
    have hwl : l'.length = i := by rw [hwi, List.length_take]; omega
    by_cases hilt : i < L.length
    · obtain ⟨k, _, _, _, h2, _⟩ := stretch hL.1 hilt hri
      omega
    · rw [hwi, List.take_of_length_le (by omega)]

set_option maxHeartbeats 1000000 in
/-- Unpack of the document's answer -/
theorem runpack_c (A : Option Addr) (n c b : Nat) (l : List Int) (w : World) (h : Ints w b .u8 A n c l) (hb : b ≤ w.heap.size) (hm : n ≤ 140737488355328) (hbt : Bt l) :
    Calls Try.prog 11 #[.slice A n c] w fun e w' => ∃ v, e = .returned v ∧ UPost w.heap.size l w v w' := by
  have hl := h.len
  refine RUnpack_calls A n c ?_
  refine split_mk (fun hs => ?_) (fun hs => ?_)
  · have hs' : l.length < 4 := by have : (n : Int) < 4 := by simpa using hs
                                  omega
    exact ⟨none, 0, 0, 272, rfl, Below.refl _ _, .inr ⟨rfl, rfl, rfl, by rw [if_pos hs'], fun ⟨L, hL⟩ => by have := hL.len; omega⟩⟩
  have hs' : ¬ l.length < 4 := by have : ¬ (n : Int) < 4 := by simpa using hs
                                  omega
  have hnr := num4_range hbt
  refine (number_c A n c b l w h (by omega) hbt).mono ?_
  rintro e _ ⟨_, rfl, rfl, rfl⟩
  refine ⟨_, rfl, ?_⟩
  refine split_mk (fun hbig => ?_) (fun hsm => ?_)
  · have hbig' : 262144 < num4 l := by simpa using hbig
    exact ⟨none, 0, 0, 2, rfl, (Below.refl _ _).drew, .inr ⟨rfl, rfl, rfl, by rw [if_neg hs', if_pos hbig'], fun ⟨L, hL⟩ => by have := hL.num; have := hL.2.1; omega⟩⟩
  have hsm' : ¬ 262144 < num4 l := by simpa using hsm
  obtain ⟨num, hnum⟩ := Int.eq_ofNat_of_zero_le hnr.1
  refine (loose_c A n c b l w.drew h.drew hb hm (by omega) hbt num hnum (by omega)).mono ?_
  rintro e wv1 ⟨_, rfl, lA, lN, lC, l', rfl, ⟨hO, hbel, hwd, hln⟩, hG⟩
  refine ⟨lA, lN, lC, rfl, ?_⟩
  have hbel0 : Below w.heap.size w wv1 := ⟨hbel.os, hbel.tape, hbel.output, hbel.size, hbel.block⟩
  have hOl := hO.len
  refine (rpack_c lA lN lC wv1.heap.size l' wv1 hO.ints (Nat.le_refl _) (by omega) hwd).mono ?_
  rintro e wv2 ⟨_, rfl, pA, pN, pC, rfl, hP, hb2⟩
  refine ⟨pA, pN, pC, rfl, ?_⟩
  have hle : w.heap.size ≤ wv1.heap.size := hbel0.size
  have hI2 := (h.below (hbel0.mono hb)).below (hb2.mono (Nat.le_trans hb hle))
  refine ⟨fun T w' => Below wv2.heap.size wv2 w' ∧ (T = true ↔ ¬ GoodP l' l), ?_, ?_⟩
  · refine (number_c A n c b l wv2 hI2 (by omega) hbt).mono ?_
    rintro e _ ⟨_, rfl, rfl, rfl⟩
    refine ⟨_, rfl, ?_⟩
    rw [u32_eq, Int.emod_eq_of_lt (by omega) (by omega)]
    refine split_mk (fun hc => ?_) (fun hc => ?_)
    · have hc' : (lN : Int) ≠ num4 l := by simpa using hc
      refine ⟨(Below.refl _ _).drew, ⟨fun _ hg => ?_, fun _ => rfl⟩⟩
      have := hg.num
      omega
    · have hc' : (lN : Int) = num4 l := by simpa using hc
      have hP' : Ints wv2.drew wv2.heap.size .u8 pA pN pC (pack l') := hP.ints.drew
      refine ⟨_, wv2.drew, conv_str und8 undu8 undStr hP', _, wv2.drew, conv_str und8 undu8 undStr hI2.drew, (Below.refl _ _).drew, ?_⟩
      rw [strOf_eq (pack_bt l') hbt, ← decide_not, decide_eq_true_iff]
      exact not_congr ⟨fun hp => ⟨hwd, by omega, hp⟩, fun hg => hg.2.2⟩
  · rintro _ T wv3 ⟨hb3, hT⟩
    refine split_mk (fun hc => ?_) (fun hc => ?_)
    · subst hc
      have hno := hT.1 rfl
      refine ⟨none, 0, 0, 272, rfl, (hbel0.trans (hb2.mono hle)).trans (hb3.mono (Nat.le_trans hle hb2.size)), .inr ⟨rfl, rfl, rfl, by rw [if_neg hs', if_neg hsm'], fun ⟨L, hL⟩ => ?_⟩⟩
      exact hno (by rw [hG L hL]; exact hL)
    · subst hc
      have hyes : ¬ ¬ GoodP l' l := fun hh => by cases hT.2 hh
      refine ⟨lA, lN, lC, 0, rfl, (hbel0.trans (hb2.mono hle)).trans (hb3.mono (Nat.le_trans hle hb2.size)), .inl ⟨rfl, l', Classical.not_not.1 hyes, ?_⟩⟩
      exact ((hO.ints.below hb2).below (hb3.mono hb2.size)).mono (Nat.le_trans hb2.size hb3.size)
end Go.Proofs.Ytlgffdmmlnoiaaa
