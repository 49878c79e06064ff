/-
  The counts and the packing, of the program and of the document's answer: both are 'pack'.
-/
import Derived.Test.YtlgffdmmlnoiaaaWa
set_option linter.unusedVariables false
namespace Go.Proofs.Ytlgffdmmlnoiaaa
open Go Go.RowKit V Pk

theorem ibeq (a b : Int) : (a == b) = decide (a = b) := rfl
theorem i64_id {x : Int} (h : -9223372036854775808 ≤ x ∧ x ≤ 9223372036854775807) : IntKind.i64.wrap x = x := IntWalk.i64_in x h

/-- alike -/
theorem alike_c (A : Option Addr) (n c b : Nat) (l : List Int) (w : World) (h : Ints w b .u32 A n c l) (hn : 1 ≤ n) (hm : n ≤ 140737488355328) :
    Calls Try.prog 15 #[.slice A n c] w fun e w' => ∃ v, e = .returned v ∧ v = .int .i64 (alikeN l) ∧ ∃ k, w' = w.drewN k := by
  have hl := h.len
  refine Alike_calls A n c ?_
  rintro n0 rfl
  refine ⟨fun m i w' => (∃ k, w' = w.drewN k) ∧ 1 ≤ i ∧ i ≤ n ∧ m = n - i.toNat ∧ ∀ j : Nat, j < i.toNat → l.getD j 0 = l.getD 0 0, ⟨_, ⟨0, rfl⟩, by omega, by omega, rfl, ?_⟩, ?_⟩
  · intro j hj
    obtain rfl : j = 0 := by omega
    rfl
  · rintro m _ i wv ⟨⟨k, rfl⟩, h1, h2, rfl, hall⟩
    refine ⟨fun T w' => w' = w.drewN (k + 1) ∧ (T = decide (i < n ∧ l.getD i.toNat 0 = l.getD 0 0)), ?_, ?_⟩
    · have h' : Ints (w.drewN k).drew b .u32 A n c l := (h.drewN k).drew
      refine split_mk (fun hb => ?_) (fun hb => ?_)
      · have hb' : i < n := by simpa using hb
        refine h'.rd (by omega) hb' (h'.rd (by omega) (by omega) ⟨rfl, ?_⟩)
        simp [hb', ibeq]
      · refine ⟨rfl, ?_⟩
        have hb' : ¬ i < n := by simpa using hb
        simp [hb']
    · rintro _ T _ ⟨rfl, hT⟩
      refine split_mk (fun hb => ?_) (fun hb => ?_)
      · subst hb
        obtain ⟨hlt, heq⟩ := of_decide_eq_true hT.symm
        rintro i2 rfl
        rw [i64_id (by omega)]
        refine ⟨n - (i + 1).toNat, by omega, ⟨k + 1, rfl⟩, by omega, by omega, rfl, fun j hj => ?_⟩
        by_cases hji : j < i.toNat
        · exact hall j hji
        · obtain rfl : j = i.toNat := by omega
          exact heq
      · subst hb
        have hf := of_decide_eq_false hT.symm
        refine ⟨?_, k + 1, rfl⟩
        rw [alikeN_of (l := l) (n := i.toNat) (by omega) (by omega) hall (by
          by_cases hi : i.toNat = l.length
          · exact .inl hi
          · exact .inr fun he => hf ⟨by omega, he⟩)]
        congr 1
        omega

/-- unlike -/
theorem unlike_c (A : Option Addr) (n c b : Nat) (l : List Int) (w : World) (h : Ints w b .u32 A n c l) (hn : 1 ≤ n) (hm : n ≤ 140737488355328) :
    Calls Try.prog 16 #[.slice A n c] w fun e w' => ∃ v, e = .returned v ∧ v = .int .i64 (unlikeN l) ∧ ∃ k, w' = w.drewN k := by
  have hl := h.len
  refine Unlike_calls A n c ?_
  rintro n0 rfl
  refine ⟨fun m i w' => (∃ k, w' = w.drewN k) ∧ 1 ≤ i ∧ i ≤ n ∧ m = n - i.toNat ∧ ∀ j : Nat, 1 ≤ j → j < i.toNat → j + 1 = l.length ∨ l.getD j 0 ≠ l.getD (j + 1) 0, ⟨_, ⟨0, rfl⟩, by omega, by omega, rfl, by omega⟩, ?_⟩
  rintro m _ i wv ⟨⟨k, rfl⟩, h1, h2, rfl, hall⟩
  refine ⟨fun T w' => w' = w.drewN (k + 1) ∧ (T = decide (i < n ∧ (i + 1 = n ∨ l.getD i.toNat 0 ≠ l.getD (i.toNat + 1) 0))), ?_, ?_⟩
  · have h' : Ints (w.drewN k).drew b .u32 A n c l := (h.drewN k).drew
    refine split_mk (fun hb => ?_) (fun hb => ?_)
    · have hb' : i < n := by simpa using hb
      rw [i64_id (by omega)]
      refine split_mk (fun hc => ?_) (fun hc => ?_)
      · have hc' : i + 1 = n := by simpa using hc
        exact ⟨rfl, by simp [hb', hc']⟩
      · have hc' : ¬ i + 1 = n := by simpa using hc
        refine h'.rd (by omega) hb' (h'.rd (by omega) (by omega) ⟨rfl, ?_⟩)
        have e : (i + 1).toNat = i.toNat + 1 := by omega
        rw [e]
        simp [hb', hc', bne, ibeq]
    · refine ⟨rfl, ?_⟩
      have hb' : ¬ i < n := by simpa using hb
      simp [hb']
  · rintro _ T _ ⟨rfl, hT⟩
    refine split_mk (fun hb => ?_) (fun hb => ?_)
    · subst hb
      obtain ⟨hlt, heq⟩ := of_decide_eq_true hT.symm
      rintro i2 rfl
      rw [i64_id (by omega)]
      refine ⟨n - (i + 1).toNat, by omega, ⟨k + 1, rfl⟩, by omega, by omega, rfl, fun j hj hj2 => ?_⟩
      by_cases hji : j < i.toNat
      · exact hall j hj hji
      · obtain rfl : j = i.toNat := by omega
        rcases heq with heq | heq
        · left; omega
        · exact .inr heq
    · subst hb
      have hf := of_decide_eq_false hT.symm
      refine ⟨?_, k + 1, rfl⟩
      rw [unlikeN_of (l := l) (n := i.toNat) (by omega) (by omega) hall (by
        by_cases hi : i.toNat = l.length
        · exact .inl hi
        · have hlt : i < n := by omega
          have h3 : ¬ (i + 1 = n ∨ l.getD i.toNat 0 ≠ l.getD (i.toNat + 1) 0) := fun he => hf ⟨hlt, he⟩
          simp only [not_or, ne_eq, Classical.not_not] at h3
          exact .inr ⟨by omega, h3.2⟩)]
      congr 1
      omega

theorem getD_drop (l : List Int) (i j : Nat) : (l.drop i).getD j 0 = l.getD (i + j) 0 := by
  simp [List.getD_eq_getElem?_getD, List.getElem?_drop]

/-- alike, of the document's answer: from a place on, at most 32767 -/
theorem ralike_c (A : Option Addr) (n c b : Nat) (l : List Int) (at_ : Int) (w : World) (h : Ints w b .u32 A n c l) (h0 : 0 ≤ at_) (hn : at_ < n) (hm : n ≤ 140737488355328) :
    Calls Try.prog 18 #[.slice A n c, .int .i64 at_] w fun e w' => ∃ v, e = .returned v ∧ v = .int .i64 (min (alikeN (l.drop at_.toNat)) 32767 : Nat) ∧ ∃ k, w' = w.drewN k := by
  have hl := h.len
  have hd : (l.drop at_.toNat).length = n - at_.toNat := by rw [List.length_drop, hl]
  refine RAlike_calls A n c at_ ?_
  rintro n0 rfl
  refine ⟨fun m i w' => (∃ k, w' = w.drewN k) ∧ 1 ≤ i ∧ at_ + i ≤ n ∧ i ≤ 32767 ∧ m = n - i.toNat ∧ ∀ j : Nat, j < i.toNat → (l.drop at_.toNat).getD j 0 = (l.drop at_.toNat).getD 0 0, ⟨_, ⟨0, rfl⟩, by omega, by omega, by omega, rfl, ?_⟩, ?_⟩
  · intro j hj
    obtain rfl : j = 0 := by omega
    rfl
  · rintro m _ i wv ⟨⟨k, rfl⟩, h1, h2, h3, rfl, hall⟩
    refine ⟨fun T w' => w' = w.drewN (k + 1) ∧ (T = decide (i < 32767 ∧ at_ + i < n ∧ (l.drop at_.toNat).getD i.toNat 0 = (l.drop at_.toNat).getD 0 0)), ?_, ?_⟩
    · have h' : Ints (w.drewN k).drew b .u32 A n c l := (h.drewN k).drew
      refine split_mk (fun hb => ?_) (fun hb => ?_)
      · have hb' : i < 32767 := by simpa using hb
        rw [i64_id (by omega)]
        refine split_mk (fun hc => ?_) (fun hc => ?_)
        · have hc' : at_ + i < n := by simpa using hc
          refine h'.rd (by omega) hc' (h'.rd (by omega) (by omega) ⟨rfl, ?_⟩)
          rw [getD_drop, getD_drop]
          rw [show (at_ + i).toNat = at_.toNat + i.toNat by omega]
          simp [hb', hc', ibeq]
        · have hc' : ¬ at_ + i < n := by simpa using hc
          exact ⟨rfl, by simp [hc']⟩
      · have hb' : ¬ i < 32767 := by simpa using hb
        exact ⟨rfl, by simp [hb']⟩
    · rintro _ T _ ⟨rfl, hT⟩
      refine split_mk (fun hb => ?_) (fun hb => ?_)
      · subst hb
        obtain ⟨hlt, hlt2, heq⟩ := of_decide_eq_true hT.symm
        rintro i2 rfl
        rw [i64_id (by omega)]
        refine ⟨n - (i + 1).toNat, by omega, ⟨k + 1, rfl⟩, by omega, by omega, by omega, rfl, fun j hj => ?_⟩
        by_cases hji : j < i.toNat
        · exact hall j hji
        · obtain rfl : j = i.toNat := by omega
          exact heq
      · subst hb
        have hf := of_decide_eq_false hT.symm
        refine ⟨?_, k + 1, rfl⟩
        congr 1
        by_cases hi : i = 32767
        · -- the bound
          have : 32767 ≤ alikeN (l.drop at_.toNat) := by
            cases hcs : l.drop at_.toNat with
            | nil => rw [hcs] at hd; simp at hd; omega
            | cons x r =>
              rw [hcs] at hall hd
              simp only [alikeN]
              have hle : (r.takeWhile (· == x)).length ≤ r.length := (List.takeWhile_prefix (p := (· == x)) (l := r)).length_le
              by_cases hlt : 1 + (r.takeWhile (· == x)).length < 32767
              · exfalso
                have h5 := takeWhile_end x r (by simp at hd; omega)
                have h6 := hall (1 + (r.takeWhile (· == x)).length) (by omega)
                rw [Nat.add_comm] at h6
                simp only [List.getD_cons_succ, List.getD_cons_zero] at h6
                exact h5 h6
              · omega
          omega
        · rw [alikeN_of (l := l.drop at_.toNat) (n := i.toNat) (by omega) (by omega) hall (by
            by_cases hi2 : i.toNat = (l.drop at_.toNat).length
            · exact .inl hi2
            · exact .inr fun he => hf ⟨by omega, by omega, he⟩)]
          omega
end Go.Proofs.Ytlgffdmmlnoiaaa
