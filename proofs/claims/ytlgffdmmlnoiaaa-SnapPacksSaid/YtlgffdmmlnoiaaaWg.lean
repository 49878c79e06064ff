/-
  The law's own functions, and the law: it returns true.
-/
import Derived.Test.YtlgffdmmlnoiaaaWf
set_option linter.unusedVariables false
namespace Go.Proofs.Ytlgffdmmlnoiaaa
open Go Go.RowKit V Pk

/-- within, from 0 to 39999 -/
theorem within_c (x : Int) (w : World) (hx : -9223372036854775808 ≤ x ∧ x ≤ 9223372036854775807) :
    Calls Try.prog 13 #[.int .i64 x, .int .i64 0, .int .i64 39999] w fun e w' => ∃ v, e = .returned v ∧ v = .int .i64 (x % 40000) ∧ w' = w := by
  refine Within_calls x 0 39999 ?_
  unfold Within_wp
  rw [i64_id (x := 39999 - 0) (by omega), i64_id (x := 39999 - 0 + 1) (by omega)]
  refine nz_mk (by omega) ?_
  rintro r hr
  rw [show (39999 - 0 + 1 : Int) = 40000 by omega, tmod_eq_if] at hr
  have hrb : -40000 < r ∧ r < 40000 := by rw [hr]; split <;> omega
  refine split_mk (fun hc => ?_) (fun hc => ?_)
  · have hc' : r < 0 := by simpa using hc
    rintro r1 hr1
    rw [i64_id (x := r + 39999) (by omega), i64_id (x := r + 39999 - 0) (by omega), i64_id (by omega)] at hr1
    refine ⟨?_, rfl⟩
    rw [i64_id (by omega)]
    congr 1
    subst hr1
    split at hr <;> omega
  · have hc' : ¬ r < 0 := by simpa using hc
    refine ⟨?_, rfl⟩
    rw [i64_id (by omega)]
    congr 1
    split at hr <;> omega

/-- The slice of runs (A, n) reads as l. -/
structure RunsAt (w : World) (b : Nat) (A : Option Addr) (n : Nat) (l : List (Int × Int)) : Prop where
  len : l.length = n
  cell : ∀ j x, l[j]? = some x → ∃ p, A = some p ∧ p.block < b ∧ w.cell? (p.add (2 * j)) = some (.int .u32 x.1) ∧ w.cell? (p.add (2 * j + 1)) = some (.int .i64 x.2)

theorem RunsAt.below {w w' : World} {b : Nat} {A : Option Addr} {n : Nat} {l : List (Int × Int)} (h : RunsAt w b A n l) (hb : Below b w w') : RunsAt w' b A n l :=
  ⟨h.len, fun j x hx => by
    obtain ⟨p, hA, hp, h1, h2⟩ := h.cell j x hx
    exact ⟨p, hA, hp, (hb.cell (by rw [block_add]; exact hp)).trans h1, (hb.cell (by rw [block_add]; exact hp)).trans h2⟩⟩

theorem RunsAt.drew {w : World} {b : Nat} {A : Option Addr} {n : Nat} {l : List (Int × Int)} (h : RunsAt w b A n l) : RunsAt w.drew b A n l := ⟨h.len, h.cell⟩

theorem RunsAt.rd {w : World} {b : Nat} {A : Option Addr} {n : Nat} {l : List (Int × Int)} {i : Int} {j : Nat} {K : Int → Prop} (h : RunsAt w b A n l) (hi : i = (j : Int)) (hj : j < n) (hK : K (l.getD j (0, 0)).2) :
    (0 ≤ i ∧ i < ((n : Nat) : Int)) ∧ onSome A fun p => ∃ x : Int, w.cell? ((p.add (i.toNat * 2)).add 1) = some (.int .i64 x) ∧ K x := by
  subst hi
  have hjl : j < l.length := by rw [h.len]; exact hj
  obtain ⟨p, hA, _, _, h2⟩ := h.cell j _ (List.getElem?_eq_getElem hjl)
  refine ⟨⟨by omega, by omega⟩, onSome_mk p hA ⟨_, ?_, hK⟩⟩
  rw [add_add, Int.toNat_natCast, Nat.mul_comm]
  rw [List.getD_eq_getElem?_getD, List.getElem?_eq_getElem hjl]
  exact h2

theorem RunsAt.rd0 {w : World} {b : Nat} {A : Option Addr} {n : Nat} {l : List (Int × Int)} {i : Int} {j : Nat} {K : Int → Prop} (h : RunsAt w b A n l) (hi : i = (j : Int)) (hj : j < n) (hK : K (l.getD j (0, 0)).1) :
    (0 ≤ i ∧ i < ((n : Nat) : Int)) ∧ onSome A fun p => ∃ x : Int, w.cell? ((p.add (i.toNat * 2)).add 0) = some (.int .u32 x) ∧ K x := by
  subst hi
  have hjl : j < l.length := by rw [h.len]; exact hj
  obtain ⟨p, hA, _, h1, _⟩ := h.cell j _ (List.getElem?_eq_getElem hjl)
  refine ⟨⟨by omega, by omega⟩, onSome_mk p hA ⟨_, ?_, hK⟩⟩
  rw [add_add, Int.toNat_natCast, Nat.mul_comm]
  rw [List.getD_eq_getElem?_getD, List.getElem?_eq_getElem hjl]
  exact h1

/-- One run more. -/
def wstep (out : List Int) (r : Int × Int) : List Int := out ++ List.replicate (min (r.2 % 40000).toNat (262147 - out.length)) r.1
def wordsL (l : List (Int × Int)) : List Int := l.foldl wstep []

theorem wstep_len (out : List Int) (r : Int × Int) (h : out.length ≤ 262147) : (wstep out r).length ≤ 262147 := by
  simp [wstep]; omega
theorem foldl_len : ∀ (l : List (Int × Int)) (out : List Int), out.length ≤ 262147 → (l.foldl wstep out).length ≤ 262147
  | [], out, h => h
  | r :: l, out, h => foldl_len l _ (wstep_len out r h)
theorem wstep_wd (out : List Int) (r : Int × Int) (h : Wd out) (hr : 0 ≤ r.1 ∧ r.1 < 4294967296) : Wd (wstep out r) := by
  intro x hx
  rcases List.mem_append.1 hx with hx | hx
  · exact h x hx
  · rw [List.eq_of_mem_replicate hx]; exact hr
theorem foldl_wd : ∀ (l : List (Int × Int)) (out : List Int), Wd out → (∀ r ∈ l, 0 ≤ r.1 ∧ r.1 < 4294967296) → Wd (l.foldl wstep out)
  | [], out, h, _ => h
  | r :: l, out, h, hl => foldl_wd l _ (wstep_wd out r h (hl r (List.mem_cons_self ..))) (fun x hx => hl x (List.mem_cons_of_mem _ hx))

set_option maxRecDepth 10000 in
set_option maxHeartbeats 1000000 in
/-- words -/
theorem words_c (A : Option Addr) (n c b : Nat) (l : List (Int × Int)) (w : World) (h : RunsAt w b A n l) (hb : b ≤ w.heap.size) (hm : n ≤ 140737488355328) (hr : ∀ r ∈ l, -9223372036854775808 ≤ r.2 ∧ r.2 ≤ 9223372036854775807) :
    Calls Try.prog 4 #[.slice A n c] w fun e w' => ∃ v, e = .returned v ∧ ∃ A' n' c', v = .slice A' n' c' ∧ OwnI w' w.heap.size 37 .u32 A' n' c' (wordsL l) ∧ Below w.heap.size w w' := by
  have hl := h.len
  refine Words_calls A n c ?_
  rintro i0 rfl
  refine ⟨fun m oA oN oC i w' => ∃ j : Nat, i = (j : Int) ∧ j ≤ n ∧ m = n - j ∧ OwnI w' w.heap.size 37 .u32 oA oN oC ((l.take j).foldl wstep []) ∧ Below w.heap.size w w',
    ⟨_, 0, rfl, by omega, rfl, OwnI.nil, Below.refl _ _⟩, ?_⟩
  rintro m _ oA oN oC i wv ⟨j, rfl, hj, rfl, hO, hbel⟩
  refine split_mk (fun hc => ?_) (fun hc => ?_)
  · have hc' : j < n := by have : (j : Int) < n := by simpa using hc
                           omega
    have hlen := foldl_len (l.take j) [] (by simp)
    generalize hout : (l.take j).foldl wstep [] = out at hO hlen
    have hget : l.take (j + 1) = l.take j ++ [l.getD j (0, 0)] := by
      rw [List.take_succ_eq_append_getElem (by omega)]
      congr 2
      simp [List.getD_eq_getElem?_getD, List.getElem?_eq_getElem (show j < l.length by omega)]
    generalize hrv : l.getD j (0, 0) = rv at hget
    have hrr : -9223372036854775808 ≤ rv.2 ∧ rv.2 ≤ 9223372036854775807 := by
      refine hr rv ?_
      rw [← hrv, List.getD_eq_getElem?_getD, List.getElem?_eq_getElem (show j < l.length by omega)]
      exact List.getElem_mem _
    rintro k0 rfl
    refine ⟨fun m2 oA2 oN2 oC2 k w' => ∃ q : Nat, k = (q : Int) ∧ q ≤ min (rv.2 % 40000).toNat (262147 - out.length) ∧ m2 = min (rv.2 % 40000).toNat (262147 - out.length) - q ∧ OwnI w' w.heap.size 37 .u32 oA2 oN2 oC2 (out ++ List.replicate q rv.1) ∧ Below w.heap.size w w',
      ⟨_, 0, rfl, by omega, rfl, by simpa using hO, hbel⟩, ?_⟩
    rintro m2 _ oA2 oN2 oC2 k wv1 ⟨q, rfl, hq, rfl, hO2, hbel2⟩
    have hO2l := hO2.len
    rw [List.length_append, List.length_replicate] at hO2l
    have hI := h.below (hbel2.mono hb)
    refine ⟨fun T w' => wv1 = w' ∧ T = decide ((q : Int) < rv.2 % 40000 ∧ (oN2 : Int) < 262147), ?_, ?_⟩
    · refine hI.rd rfl hc' ?_
      rw [hrv]
      refine (within_c rv.2 wv1 hrr).mono ?_
      rintro e _ ⟨_, rfl, rfl, rfl⟩
      refine ⟨_, rfl, ?_⟩
      refine split_mk (fun hd => ?_) (fun hd => ?_)
      · have hd' : (q : Int) < rv.2 % 40000 := of_decide_eq_true hd
        refine ⟨rfl, ?_⟩
        rw [decide_eq_decide]
        omega
      · have hd' := of_decide_eq_false hd
        exact ⟨rfl, (decide_eq_false (fun hh => hd' hh.1)).symm⟩
    rintro _ T _ ⟨rfl, hT⟩
    refine split_mk (fun hd => ?_) (fun hd => ?_)
    · subst hd
      obtain ⟨h1, h2⟩ := of_decide_eq_true hT.symm
      refine hI.rd0 rfl hc' ?_
      rw [hrv]
      obtain ⟨A7, n7, c7, w7, hr7, ho7, hn7, hb7, _⟩ := app_new st32 23 hO2 hbel2.size [rv.1] 1 rfl (by omega) (by omega)
      refine ⟨A7, n7, c7, w7, hr7, ?_⟩
      rintro k2 rfl
      refine ⟨min (rv.2 % 40000).toNat (262147 - out.length) - (q + 1), by omega, q + 1, (i64_id (by omega)).trans (by omega), by omega, rfl, ?_, hbel2.trans hb7⟩
      rw [List.append_assoc, ← List.replicate_succ'] at ho7
      exact ho7
    · subst hd
      have hstop := of_decide_eq_false hT.symm
      obtain rfl : q = min (rv.2 % 40000).toNat (262147 - out.length) := by omega
      rintro i2 rfl
      refine ⟨n - (j + 1), by omega, j + 1, (i64_id (by omega)).trans (by omega), by omega, rfl, ?_, hbel2⟩
      rw [hget, List.foldl_append, hout]
      exact hO2
  · have hc' : ¬ j < n := by have : ¬ (j : Int) < n := by simpa using hc
                             omega
    rw [List.take_of_length_le (by omega)] at hO
    exact ⟨oA, oN, oC, rfl, hO, hbel⟩

theorem numbers_c (w : World) : Calls Try.prog 5 #[] w fun e w' => ∃ v, e = .returned v ∧ v = .bool true ∧ w' = w := Numbers_calls ⟨rfl, rfl⟩

theorem pack_1223 : pack [1, 2, 2, 3] = [0, 0, 0, 4, 0, 1, 0, 0, 0, 1, 128, 2, 0, 0, 0, 2, 0, 1, 0, 0, 0, 3] := by decide +kernel
theorem pack_777 : pack [7, 7, 7] = [0, 0, 0, 3, 128, 3, 0, 0, 0, 7] := by decide +kernel

/-- A list is told by its packed form. -/
theorem goodP_inj {L L' b : List Int} (h : GoodP L b) (h' : GoodP L' b) : L = L' := by
  have key : ∀ (i : Nat), i ≤ L.length → L.take i = L'.take i ∧ packB (L.drop i).length (L.drop i) = packB (L'.drop i).length (L'.drop i) → L = L' := by
    intro i hi
    generalize hn : L.length - i = n
    induction n using Nat.strongRecOn generalizing i with
    | _ n ih =>
      rintro ⟨ht, hp⟩
      have hlen : L.length = L'.length := by have := h.num; have := h'.num; omega
      by_cases hil : i < L.length
      · obtain ⟨k, h1, h2, h3, h4, h5⟩ := stretch h.1 hil rfl
        obtain ⟨k', h1', h2', h3', h4', h5'⟩ := stretch h'.1 (show i < L'.length by omega) hp
        have hkk : k = k' ∧ (L.drop i).take k = (L'.drop i).take k ∧ packB (L.drop (i + k)).length (L.drop (i + k)) = packB (L'.drop (i + k)).length (L'.drop (i + k)) := by
          rcases h5 with ⟨a1, a2, a3, a4⟩ | ⟨a1, a2, a3, a4⟩ <;> rcases h5' with ⟨b1, b2, b3, b4⟩ | ⟨b1, b2, b3, b4⟩
          · obtain rfl : k = k' := by omega
            exact ⟨rfl, by rw [← a3, ← b3], by rw [← a4, ← b4]⟩
          · omega
          · omega
          · obtain rfl : k = k' := by omega
            exact ⟨rfl, by rw [← a3, ← b3], by rw [← a4, ← b4]⟩
        obtain ⟨rfl, h6, h7⟩ := hkk
        exact ih (L.length - (i + k)) (by omega) (i + k) (by omega) rfl ⟨by rw [List.take_add, List.take_add, ht, h6], h7⟩
      · rw [List.take_of_length_le (by omega), List.take_of_length_le (by omega)] at ht
        exact ht
  have e := h.head.symm.trans h'.head
  have hlen : (L.length : Int) = L'.length := by rw [← h.num, ← h'.num]
  rw [hlen] at e
  exact key 0 (by omega) ⟨by simp, by simpa using List.append_cancel_left e⟩

/-- known -/
theorem known_c (w : World) : Calls Try.prog 6 #[] w fun e w' => ∃ v, e = .returned v ∧ v = .bool true ∧ Below w.heap.size w w' := by
  refine Known_calls ?_
  have hb0 : Below w.heap.size w (w.alloc (.cells ⟨[1, 2, 2, 3].map (Value.int .u32)⟩ 37)) := (Below.refl _ w).alloc (Nat.le_refl _) _
  refine (pack_c _ 4 4 (w.heap.size + 1) [1, 2, 2, 3] _ (ints_new w [1, 2, 2, 3] 4 rfl) (by simp) (by omega) (by intro x hx; simp at hx; omega)).mono ?_
  rintro e wv ⟨_, rfl, pA, pN, pC, rfl, hP, hb1⟩
  refine ⟨pA, pN, pC, rfl, ?_⟩
  have hs1 : w.heap.size + 1 ≤ wv.heap.size := by have := hb1.size; simpa using this
  have hb2 : Below wv.heap.size wv (wv.alloc (.cells ⟨[0, 0, 0, 3, 128, 3, 0, 0, 0, 7].map (Value.int .u8)⟩ 5)) := (Below.refl _ wv).alloc (Nat.le_refl _) _
  refine (unpack_c _ 10 10 (wv.heap.size + 1) [0, 0, 0, 3, 128, 3, 0, 0, 0, 7] _ (ints_new wv [0, 0, 0, 3, 128, 3, 0, 0, 0, 7] 10 rfl) (by simp) (by omega) (by omega) (by intro x hx; simp at hx; omega)).mono ?_
  rintro e wv1 ⟨_, rfl, uA, uN, uC, er, rfl, hb3, hu⟩
  refine ⟨uA, uN, uC, er, rfl, ?_⟩
  have g7 : GoodP [7, 7, 7] [0, 0, 0, 3, 128, 3, 0, 0, 0, 7] := ⟨by intro x hx; simp at hx; omega, by simp, pack_777⟩
  have hu' : er = 0 ∧ Ints wv1 wv1.heap.size .u32 uA uN uC [7, 7, 7] := by
    rcases hu with ⟨he, L, hL, hI⟩ | ⟨_, _, _, _, hno⟩
    · exact ⟨he, (goodP_inj hL g7) ▸ hI⟩
    · exact absurd ⟨_, g7⟩ hno
  obtain ⟨rfl, hI⟩ := hu'
  have hs3 : wv.heap.size + 1 ≤ wv1.heap.size := by have := hb3.size; simpa using this
  have hball : Below w.heap.size w wv1 := ((hb0.trans (hb1.mono (by simp))).trans (hb2.mono (by omega))).trans (hb3.mono (by simp; omega))
  have hP1 : Ints wv1 wv.heap.size .u8 pA pN pC (pack [1, 2, 2, 3]) := (hP.ints.below hb2).below (hb3.mono (by simp))
  refine ⟨fun T w' => Below w.heap.size w w' ∧ T = true, ?_, ?_⟩
  · refine ⟨_, wv1, conv_str und8 undu8 undStr hP1, ?_⟩
    refine split_mk (fun _ => ?_) (fun hc => ?_)
    · refine split_mk (fun _ => ?_) (fun hc => by simp at hc)
      have hb4 : Below wv1.heap.size wv1 (wv1.alloc (.cells ⟨[7, 7, 7].map (Value.int .u32)⟩ 37)) := (Below.refl _ wv1).alloc (Nat.le_refl _) _
      refine (same_c uA _ uN uC 3 3 wv1.heap.size (wv1.heap.size + 1) [7, 7, 7] [7, 7, 7] _ (hI.below hb4) (ints_new wv1 [7, 7, 7] 3 rfl) (by have := hI.len; simp at this; omega)).mono ?_
      rintro e _ ⟨_, rfl, rfl, k, rfl⟩
      refine ⟨_, rfl, ⟨hball.os, hball.tape, hball.output, by have := hball.size; simp; omega, fun q hq => ?_⟩, by simp⟩
      have := (hball.trans (hb4.mono (by omega))).block q hq
      exact this
    · exfalso
      rw [pack_1223] at hc
      revert hc
      decide +kernel
  · rintro _ T wv2 ⟨hb5, rfl⟩
    exact ⟨rfl, hb5⟩

set_option maxHeartbeats 1000000 in
/-- THE LAW: true, whatever comes in. -/
theorem law_c (rA : Option Addr) (rN rC : Nat) (lA : Option Addr) (lN lC : Nat) (bA : Option Addr) (bN bC : Nat) (runs : List (Int × Int)) (list bs : List Int) (w : World)
    (hr : RunsAt w w.heap.size rA rN runs) (hl : Ints w w.heap.size .u32 lA lN lC list) (hb : Ints w w.heap.size .u8 bA bN bC bs) (h1 : rN ≤ 8796093022208) (h2 : lC ≤ 35184372088832) (h3 : bC ≤ 140737488355000)
    (hrr : ∀ r ∈ runs, (0 ≤ r.1 ∧ r.1 < 4294967296) ∧ -9223372036854775808 ≤ r.2 ∧ r.2 ≤ 9223372036854775807) (hlw : Wd list) (hbt : Bt bs) :
    Calls Try.prog 3 #[.slice rA rN rC, .slice lA lN lC, .slice bA bN bC] w fun e w' => ∃ v, e = .returned v ∧ v = .bool true ∧ Below w.heap.size w w' := by
  have hlc := hl.cap
  have hbc := hb.cap
  have hwd : Wd (wordsL runs) := foldl_wd runs [] (by intro x hx; cases hx) (fun r h => (hrr r h).1)
  have hwl : (wordsL runs).length ≤ 262147 := foldl_len runs [] (by simp)
  refine Law_calls rA rN rC lA lN lC bA bN bC ?_
  refine (words_c rA rN rC w.heap.size runs w hr (Nat.le_refl _) (by omega) (fun r h => (hrr r h).2)).mono ?_
  rintro e wv ⟨_, rfl, A1, n1, c1, rfl, hO1, hb1⟩
  refine ⟨A1, n1, c1, rfl, ?_⟩
  have hO1l := hO1.len
  refine ⟨fun T w' => Below w.heap.size w w' ∧ T = false, ?_, ?_⟩
  · refine ⟨wv.heap.size, Nat.le_refl _, ?_⟩
    refine (numbers_c wv.drew).mono ?_
    rintro e _ ⟨_, rfl, rfl, rfl⟩
    refine ⟨_, rfl, Below.refl _ _, wv.heap.size, Nat.le_refl _, ?_⟩
    refine split_mk (fun hc => by simp at hc) (fun _ => ?_)
    refine (known_c wv.drew).mono ?_
    rintro e wv2 ⟨_, rfl, rfl, hb2⟩
    have hb2' : Below wv.heap.size wv wv2 := ⟨hb2.os, hb2.tape, hb2.output, hb2.size, hb2.block⟩
    refine ⟨_, rfl, hb2, wv.heap.size, Nat.le_refl _, ?_⟩
    refine split_mk (fun hc => by simp at hc) (fun _ => ?_)
    have hI1 : Ints wv2 wv.heap.size .u32 A1 n1 c1 (wordsL runs) := hO1.ints.below hb2'
    refine (pack_c A1 n1 c1 wv.heap.size (wordsL runs) wv2 hI1 hb2'.size (by omega) hwd).mono ?_
    rintro e wv3 ⟨_, rfl, pA, pN, pC, rfl, hP, hb3⟩
    have hI3 : Ints wv3 wv3.heap.size .u8 pA pN pC (pack (wordsL runs)) := hP.ints
    refine ⟨pA, pN, pC, rfl, hb3.mono hb2'.size, wv3.heap.size, Nat.le_trans hb2'.size hb3.size, ?_⟩
    refine ⟨strOf (pack (wordsL runs)), fun w' hw' => conv_str und8 undu8 undStr (hI3.below hw'), ?_⟩
    have hball : Below w.heap.size w wv3 := (hb1.trans (hb2'.mono hb1.size)).trans (hb3.mono (Nat.le_trans hb1.size hb2'.size))
    refine (words_c rA rN rC w.heap.size runs wv3 (hr.below hball) hball.size (by omega) (fun r h => (hrr r h).2)).mono ?_
    rintro e wv4 ⟨_, rfl, A4, n4, c4, rfl, hO4, hb4⟩
    have hO4l := hO4.len
    refine ⟨A4, n4, c4, rfl, hb4, wv3.heap.size, Nat.le_refl _, ?_⟩
    refine (rpack_c A4 n4 c4 wv4.heap.size (wordsL runs) wv4 hO4.ints (Nat.le_refl _) (by omega) hwd).mono ?_
    rintro e wv5 ⟨_, rfl, qA, qN, qC, rfl, hQ, hb5⟩
    have hI5 : Ints wv5 wv5.heap.size .u8 qA qN qC (pack (wordsL runs)) := hQ.ints
    refine ⟨qA, qN, qC, rfl, hb5.mono hb4.size, wv5.heap.size, Nat.le_trans hb4.size hb5.size, ?_⟩
    refine ⟨strOf (pack (wordsL runs)), fun w' hw' => conv_str und8 undu8 undStr (hI5.below hw'), ?_⟩
    refine ⟨(hball.trans (hb4.mono hball.size)).trans (hb5.mono (Nat.le_trans hball.size hb4.size)), ?_⟩
    rw [strOf_eq (pack_bt _) (pack_bt _)]
    simp
  rintro _ T wv1 ⟨hb2, rfl⟩
  refine split_mk (fun hc => by cases hc) (fun _ => ?_)
  obtain ⟨oA, oN, oC, w2, hr2, ho2, hn2, hb3⟩ := app_ints st32 23 (w := wv1) (base := wv1.heap.size) OwnI.nil (Nat.le_refl _) (hl.below hb2) (by omega) (by omega)
  refine ⟨oA, oN, oC, w2, hr2, ?_⟩
  have hball2 : Below w.heap.size w w2 := hb2.trans (hb3.mono hb2.size)
  refine ⟨w2.heap.size, Nat.le_refl _, ?_⟩
  rw [List.nil_append] at ho2
  refine (pack_c oA oN oC w2.heap.size list w2.drew (ho2.ints.drew) (Nat.le_refl _) (by omega) hlw).mono ?_
  rintro e w3 ⟨_, rfl, pA, pN, pC, rfl, hP, hb4⟩
  have hb4' : Below w2.heap.size w2 w3 := ⟨hb4.os, hb4.tape, hb4.output, hb4.size, hb4.block⟩
  have hI3 : Ints w3 w3.heap.size .u8 pA pN pC (pack list) := hP.ints
  refine ⟨pA, pN, pC, rfl, hb4, w3.heap.size, hb4'.size, ?_⟩
  refine ⟨strOf (pack list), fun w' hw' => conv_str und8 undu8 undStr (hI3.below hw'), ?_⟩
  have hball3 : Below w.heap.size w w3 := hball2.trans (hb4'.mono hball2.size)
  refine (rpack_c lA lN lC w.heap.size list w3 (hl.below hball3) hball3.size (by omega) hlw).mono ?_
  rintro e w4 ⟨_, rfl, qA, qN, qC, rfl, hQ, hb5⟩
  have hI4 : Ints w4 w4.heap.size .u8 qA qN qC (pack list) := hQ.ints
  refine ⟨qA, qN, qC, rfl, hb5, w4.heap.size, hb5.size, ?_⟩
  refine ⟨strOf (pack list), fun w' hw' => conv_str und8 undu8 undStr (hI4.below hw'), ?_⟩
  have hball4 : Below w.heap.size w w4 := hball3.trans (hb5.mono hball3.size)
  rw [strOf_eq (pack_bt _) (pack_bt _)]
  refine split_mk (fun hc => by simp at hc) (fun _ => ?_)
  refine (copied_c bA bN bC w.heap.size bs w4 (hb.below hball4) (by omega)).mono ?_
  rintro e w5 ⟨_, rfl, cA, cN, cC, rfl, hC, hb6⟩
  refine ⟨cA, cN, cC, rfl, ?_⟩
  have hCl := hC.len
  have hbl := hb.len
  have hCi := hC.ints
  have hcc : cC ≤ 9223372036854775807 := by
    rcases hC.2 with ⟨hv, _⟩ | ⟨g, cap, cur, hv, _, _, _, hcm, _⟩
    · injection hv with _ _ hc; omega
    · injection hv with _ _ hc; unfold maxLen at hcm; omega
  have hball5 : Below w.heap.size w w5 := hball4.trans (hb6.mono hball4.size)
  refine (unpack_c cA cN cC w5.heap.size bs w5 hCi (Nat.le_refl _) (by omega) hcc hbt).mono ?_
  rintro e w6 ⟨_, rfl, uA, uN, uC, e1, rfl, hb7, hu⟩
  refine ⟨uA, uN, uC, e1, rfl, ?_⟩
  have hball6 : Below w.heap.size w w6 := hball5.trans (hb7.mono hball5.size)
  refine (runpack_c bA bN bC w.heap.size bs w6 (hb.below hball6) hball6.size (by omega) hbt).mono ?_
  rintro e w7 ⟨_, rfl, vA, vN, vC, e2, rfl, hb8, hv⟩
  refine ⟨vA, vN, vC, e2, rfl, ?_⟩
  have hball7 : Below w.heap.size w w7 := hball6.trans (hb8.mono hball6.size)
  have hfin : e1 = e2 ∧ ∃ l, Ints w7 w6.heap.size .u32 uA uN uC l ∧ Ints w7 w7.heap.size .u32 vA vN vC l ∧ l.length ≤ 262144 := by
    rcases hu with ⟨he, L, hL, hI⟩ | ⟨rfl, rfl, rfl, he, hno⟩ <;> rcases hv with ⟨he', L', hL', hI'⟩ | ⟨rfl, rfl, rfl, he', hno'⟩
    · obtain rfl := goodP_inj hL hL'
      exact ⟨by omega, L, hI.below hb8, hI', hL.2.1⟩
    · exact absurd ⟨_, hL⟩ hno'
    · exact absurd ⟨_, hL'⟩ hno
    · exact ⟨by rw [he, he'], [], Ints.nil, Ints.nil, by simp⟩
  obtain ⟨rfl, L, hI, hI', hLl⟩ := hfin
  refine ⟨fun T w' => (∃ k, w' = w7.drewN k) ∧ T = true, ?_, ?_⟩
  · refine (same_c uA vA uN uC vN vC _ _ L L w7 hI hI' (by have := hI.len; omega)).mono ?_
    rintro e _ ⟨_, rfl, rfl, k, rfl⟩
    refine ⟨_, rfl, ?_⟩
    refine split_mk (fun _ => ⟨⟨k, rfl⟩, by simp⟩) (fun hc => by simp at hc)
  · rintro _ T _ ⟨⟨k, rfl⟩, rfl⟩
    exact ⟨rfl, hball7.os, hball7.tape, hball7.output, hball7.size, hball7.block⟩
end Go.Proofs.Ytlgffdmmlnoiaaa
