/-
  bytes.Equal, Same, Copied, Within; Unpack of the program.
-/
import Derived.Test.YtlgffdmmlnoiaaaWd
set_option linter.unusedVariables false
namespace Go.Proofs.Ytlgffdmmlnoiaaa
open Go Go.RowKit V Pk

theorem strOf_eq {a b : List Int} (ha : Bt a) (hb : Bt b) : ((strOf a).toList == (strOf b).toList) = decide (a = b) := by
  rw [ByteArray.toList_eq, ByteArray.toList_eq]
  have key : ∀ (a b : List Int), Bt a → Bt b → (a.map fun x => UInt8.ofNat x.toNat) = (b.map fun x => UInt8.ofNat x.toNat) → a = b := by
    intro a
    induction a with
    | nil => intro b _ _ h; cases b <;> simp_all
    | cons x r ih =>
      intro b ha hb h
      cases b with
      | nil => simp at h
      | cons y s =>
        simp only [List.map_cons, List.cons.injEq] at h
        have h1 := ha x (List.mem_cons_self ..)
        have h2 := hb y (List.mem_cons_self ..)
        have h3 : x.toNat % 256 = y.toNat % 256 := by
          have := congrArg UInt8.toNat h.1
          simpa using this
        rw [ih s (fun z hz => ha z (List.mem_cons_of_mem _ hz)) (fun z hz => hb z (List.mem_cons_of_mem _ hz)) h.2]
        congr 1
        omega
  by_cases h : a = b
  · subst h; simp
  · rw [decide_eq_false h]
    apply beq_eq_false_iff_ne.2
    intro e
    exact h (key a b ha hb (by simpa [strOf] using e))

theorem und8 : Try.prog.underlying 24 = some (.slice 5) := by kernel_rfl
theorem undu8 : Try.prog.underlying 5 = some (.int .u8) := by kernel_rfl

theorem bequal_c (A B : Option Addr) (n c m d b b' : Nat) (x y : List Int) (w : World) (h : Ints w b .u8 A n c x) (h' : Ints w b' .u8 B m d y) (hx : Bt x) (hy : Bt y) :
    Calls Try.prog 20 #[.slice A n c, .slice B m d] w fun e w' => ∃ v, e = .returned v ∧ v = .bool (decide (x = y)) ∧ w' = w := by
  refine BEqual_calls A n c B m d ?_
  refine ⟨_, w, conv_str und8 undu8 undStr h, _, w, conv_str und8 undu8 undStr h', ?_, rfl⟩
  rw [strOf_eq hx hy]

theorem getD_ext {x y : List Int} (hl : x.length = y.length) (h : ∀ j, j < x.length → x.getD j 0 = y.getD j 0) : x = y := by
  apply List.ext_getElem hl
  intro j h1 h2
  have := h j h1
  rwa [List.getD_eq_getElem?_getD, List.getD_eq_getElem?_getD, List.getElem?_eq_getElem h1, List.getElem?_eq_getElem h2] at this

/-- same -/
theorem same_c (A B : Option Addr) (n c m d b b' : Nat) (x y : List Int) (w : World) (h : Ints w b .u32 A n c x) (h' : Ints w b' .u32 B m d y) (hn : n ≤ 140737488355328) :
    Calls Try.prog 12 #[.slice A n c, .slice B m d] w fun e w' => ∃ v, e = .returned v ∧ v = .bool (decide (x = y)) ∧ ∃ k, w' = w.drewN k := by
  have hl := h.len
  have hl' := h'.len
  refine Same_calls A n c B m d ?_
  refine split_mk (fun hb => ?_) (fun hb => ?_)
  · have hb' : n ≠ m := by have : (n : Int) ≠ m := by simpa using hb
                           omega
    exact ⟨by rw [decide_eq_false (by rintro rfl; omega)], 0, rfl⟩
  · have hb' : n = m := by have : (n : Int) = m := by simpa using hb
                           omega
    subst hb'
    rintro i0 rfl
    refine ⟨fun q i w' => ∃ j : Nat, i = (j : Int) ∧ j ≤ n ∧ q = n - j ∧ (∀ k, k < j → x.getD k 0 = y.getD k 0) ∧ ∃ k, w' = w.drewN k, ⟨_, 0, rfl, by omega, rfl, by omega, 0, rfl⟩, ?_⟩
    rintro q _ i wv ⟨j, rfl, hj, rfl, hall, k, rfl⟩
    refine split_mk (fun hb => ?_) (fun hb => ?_)
    · have hb' : j < n := by have : (j : Int) < n := by simpa using hb
                             omega
      have h1 : Ints (w.drewN k).drew b .u32 A n c x := (h.drewN k).drew
      have h2 : Ints (w.drewN k).drew b' .u32 B n d y := (h'.drewN k).drew
      refine h1.rd (by omega) (by omega) (h2.rd (by omega) (by omega) ?_)
      rw [Int.toNat_natCast]
      refine split_mk (fun hc => ?_) (fun hc => ?_)
      · have hc' : x.getD j 0 ≠ y.getD j 0 := by simpa using hc
        exact ⟨by rw [decide_eq_false (by rintro rfl; exact hc' rfl)], k + 1, rfl⟩
      · have hc' : x.getD j 0 = y.getD j 0 := by simpa using hc
        rintro i2 rfl
        refine ⟨n - (j + 1), by omega, j + 1, by rw [i64_id (by omega)]; rfl, by omega, rfl, fun k' hk' => ?_, k + 1, rfl⟩
        by_cases hkj : k' < j
        · exact hall k' hkj
        · obtain rfl : k' = j := by omega
          exact hc'
    · have hb' : ¬ j < n := by have : ¬ (j : Int) < n := by simpa using hb
                               omega
      exact ⟨by rw [decide_eq_true (getD_ext (by omega) (fun k hk => hall k (by omega)))], k, rfl⟩

/-- copied -/
theorem copied_c (A : Option Addr) (n c b : Nat) (l : List Int) (w : World) (h : Ints w b .u8 A n c l) (hn : n ≤ 140737488355328) :
    Calls Try.prog 10 #[.slice A n c] w fun e w' => ∃ v, e = .returned v ∧ ∃ A' n' c', v = .slice A' n' c' ∧ OwnI w' w.heap.size 5 .u8 A' n' c' l ∧ Below w.heap.size w w' := by
  refine Copied_calls A n c ?_
  obtain ⟨A', n', c', w', hr, ho, hn', hb'⟩ := app_ints st8 24 (w := w) (base := w.heap.size) OwnI.nil (Nat.le_refl _) h (by omega) (by omega)
  exact ⟨A', n', c', w', hr, A', n', c', rfl, ho, hb'⟩

theorem k_val (a b : Int) (ha : 0 ≤ a ∧ a < 256) (hb : 0 ≤ b ∧ b < 256) :
    IntKind.i64.wrap (BitVec.ofInt IntKind.i64.bits (IntKind.i64.wrap ((IntKind.i64.wrap a : Int) * 2 ^ 8)) ||| BitVec.ofInt IntKind.i64.bits (IntKind.i64.wrap b)).toNat = a * 256 + b := by
  obtain ⟨a, rfl⟩ := Int.eq_ofNat_of_zero_le ha.1
  obtain ⟨b, rfl⟩ := Int.eq_ofNat_of_zero_le hb.1
  have e1 : (IntKind.i64.wrap ((IntKind.i64.wrap (a : Int) : Int) * 2 ^ 8)) = ((2 ^ 8 * a : Nat) : Int) := by rw [i64_id (x := (a : Int)) (by omega), i64_id (by omega)]; omega
  have e2 : IntKind.i64.wrap (b : Int) = ((b : Nat) : Int) := i64_id (by omega)
  rw [e1, e2, or_add .i64 8 a b (by omega) (by simp only [IntKind.bits]; omega), i64_id (by omega)]
  omega

theorem Bt.drop {l : List Int} (h : Bt l) (i : Nat) : Bt (l.drop i) := fun x hx => h x (List.mem_of_mem_drop hx)
theorem Bt.take {l : List Int} (h : Bt l) (i : Nat) : Bt (l.take i) := fun x hx => h x (List.mem_of_mem_take hx)

/-- What Unpack hands back. -/
def UPost (base : Nat) (b : List Int) (w : World) (v : Value) (w' : World) : Prop :=
  ∃ A' n' c' e, v = .tuple #[.slice A' n' c', .int .i64 e] ∧ Below base w w' ∧
    ((e = 0 ∧ ∃ l, GoodP l b ∧ Ints w' w'.heap.size .u32 A' n' c' l) ∨
     (A' = none ∧ n' = 0 ∧ c' = 0 ∧ e = (if b.length < 4 then 272 else if 262144 < num4 b then 2 else 272) ∧ ¬ ∃ l, GoodP l b))

set_option maxRecDepth 10000 in
set_option maxHeartbeats 2000000 in
/-- Unpack -/
theorem unpack_c (A : Option Addr) (n c b : Nat) (l : List Int) (w : World) (h : Ints w b .u8 A n c l) (hb : b ≤ w.heap.size) (hm : n ≤ 140737488355328) (hcm : c ≤ 9223372036854775807) (hbt : Bt l) :
    Calls Try.prog 9 #[.slice A n c] w fun e w' => ∃ v, e = .returned v ∧ UPost w.heap.size l w v w' := by
  have hl := h.len
  refine Unpack_calls A n c ?_
  refine split_mk (fun hs => ?_) (fun hs => ?_)
  · have hs' : l.length < 4 := by have : (n : Int) < 4 := by simpa using hs
                                  omega
    exact ⟨none, 0, 0, 272, rfl, Below.refl _ _, .inr ⟨rfl, rfl, rfl, by rw [if_pos hs'], fun ⟨L, hL⟩ => by have := hL.len; omega⟩⟩
  have hs' : ¬ l.length < 4 := by have : ¬ (n : Int) < 4 := by simpa using hs
                                  omega
  have hnr := num4_range hbt
  refine (get_c A n c b l w h (by omega) hbt).mono ?_
  rintro e _ ⟨_, rfl, rfl, rfl⟩
  refine ⟨_, rfl, ?_⟩
  refine split_mk (fun hbig => ?_) (fun hsm => ?_)
  · have hbig' : 262144 < num4 l := by simpa using hbig
    exact ⟨none, 0, 0, 2, rfl, (Below.refl _ _).drew, .inr ⟨rfl, rfl, rfl, by rw [if_neg hs', if_pos hbig'], fun ⟨L, hL⟩ => by have := hL.num; have := hL.2.1; omega⟩⟩
  have hsm' : ¬ 262144 < num4 l := by simpa using hsm
  refine (get_c A n c b l w.drew h.drew (by omega) hbt).mono ?_
  rintro e _ ⟨_, rfl, rfl, rfl⟩
  refine ⟨_, rfl, ?_⟩
  rintro nn hnn
  rw [i64_id (by omega)] at hnn
  obtain ⟨num, hnum⟩ := Int.eq_ofNat_of_zero_le hnr.1
  rw [hnum] at hnn
  subst hnn
  refine ⟨⟨by omega, by omega⟩, ?_⟩
  rintro xA hxA xN hxN xC hxC
  have hI0 : Ints w b .u8 xA xN xC (l.drop 4) := h.from_ (lo := 4) (m := c) hxA hxN hxC (by omega) h.cap
  have hbad : ∀ (P : Prop), ¬ P → (e : Int) → e = 272 → e = (if l.length < 4 then 272 else if 262144 < num4 l then 2 else 272) := by
    intro _ _ e he
    rw [if_neg hs', if_neg hsm']
    exact he
  refine ⟨fun m rA rN rC wA wN wC w' => ∃ rest words : List Int, Ints w' b .u8 rA rN rC rest ∧ rC ≤ c ∧ OwnI w' w.heap.size 37 .u32 wA wN wC words ∧ Below w.heap.size w w' ∧ Wd words ∧ words.length ≤ num ∧ Bt rest ∧ m = num - words.length ∧
      ∀ L, GoodP L l → ∃ i, i ≤ L.length ∧ words = L.take i ∧ rest = packB (L.drop i).length (L.drop i),
    ⟨_, _, [], hI0.drew.drew, by omega, OwnI.nil, (Below.refl _ _).drew.drew, (by intro x hx; cases hx), Nat.zero_le _, hbt.drop 4, rfl, fun L hL => ⟨0, by omega, by simp, by rw [hL.head]; simp [four]⟩⟩, ?_⟩
  rintro m _ rA rN rC wA wN wC wv2 ⟨rest, words, hR, hrC, hO, hbel, hwd, hwn, hbr, rfl, hG⟩
  have hRl := hR.len
  have hOl := hO.len
  refine split_mk (fun hlt => ?_) (fun hge => ?_)
  · have hlt' : words.length < num := by have : (wN : Int) < (num : Int) := by simpa using hlt
                                         omega
    -- what a list whose bytes these are says of this stretch
    have hSt : ∀ L, GoodP L l → ∃ i, i < L.length ∧ words = L.take i ∧ L.length = num ∧ ∃ k : Nat, 1 ≤ k ∧ k ≤ 32767 ∧ i + k ≤ L.length ∧ 2 ≤ rest.length ∧
        ((head2 rest = 32768 + k ∧ 6 ≤ rest.length ∧ ext true (rest.drop 2) k = (L.drop i).take k ∧ (rest.drop 2).drop 4 = packB (L.drop (i + k)).length (L.drop (i + k))) ∨
         (head2 rest = k ∧ 2 + 4 * k ≤ rest.length ∧ ext false (rest.drop 2) k = (L.drop i).take k ∧ (rest.drop 2).drop (4 * k) = packB (L.drop (i + k)).length (L.drop (i + k)))) := by
      intro L hL
      obtain ⟨i, hi, hwi, hri⟩ := hG L hL
      have hnL : L.length = num := by have := hL.num; omega
      have hilt : i < L.length := by
        rw [hwi, List.length_take] at hlt'
        omega
      exact ⟨i, hilt, hwi, hnL, stretch hL.1 hilt hri⟩
    have hbadG : (¬ ∃ L, GoodP L l) → ∀ w' : World, Below w.heap.size w w' → UPost w.heap.size l w (.tuple #[.slice none 0 0, .int .i64 272]) w' := fun hno w' hw' =>
      ⟨none, 0, 0, 272, rfl, hw', .inr ⟨rfl, rfl, rfl, by rw [if_neg hs', if_neg hsm'], hno⟩⟩
    refine split_mk (fun hr2 => ?_) (fun hr2 => ?_)
    · have hr2' : rest.length < 2 := by have : (rN : Int) < 2 := by simpa using hr2
                                        omega
      refine hbadG (fun ⟨L, hL⟩ => ?_) wv2 hbel
      obtain ⟨i, _, _, _, k, _, _, _, h2, _⟩ := hSt L hL
      omega
    · have hr2' : 2 ≤ rest.length := by have : ¬ (rN : Int) < 2 := by simpa using hr2
                                        omega
      have hR' : Ints wv2.drew b .u8 rA rN rC rest := hR.drew
      refine hR'.rd (by omega) (by omega) (hR'.rd (by omega) (by omega) ?_)
      rw [k_val _ _ (getD_bt hbr _) (getD_bt hbr _)]
      have g0 := getD_bt hbr 0
      have g1 := getD_bt hbr 1
      rintro k0 hk0
      have hk0' : k0 = head2 rest := hk0
      clear hk0
      rintro run hrun
      rintro k1 hk1
      refine ⟨⟨by omega, by omega⟩, ?_⟩
      rintro yA hyA yN hyN yC hyC
      have hY : Ints wv2 b .u8 yA yN yC (rest.drop 2) := hR.from_ (lo := 2) (m := rC) hyA hyN hyC (by omega) hR.cap
      have hYl := hY.len
      have hYc := hY.cap
      generalize hrest2 : rest.drop 2 = rest2 at hY hYl hSt
      have hbr2 : Bt rest2 := by rw [← hrest2]; exact hbr.drop 2
      have hr2l : rest2.length = rest.length - 2 := by rw [← hrest2, List.length_drop]
      have hhead : 0 ≤ head2 rest ∧ head2 rest < 65536 := by unfold head2; omega
      rw [Int.tmod_eq_emod_of_nonneg (by omega)] at hk1
      obtain ⟨K, hK⟩ := Int.eq_ofNat_of_zero_le (show 0 ≤ k1 by omega)
      have hkK : (run = true ∧ head2 rest = 32768 + K) ∨ (run = false ∧ head2 rest = K) := by
        by_cases hge : k0 ≥ 32768
        · left; exact ⟨by rw [hrun, decide_eq_true hge], by omega⟩
        · right; exact ⟨by rw [hrun, decide_eq_false hge], by omega⟩
      have hK2 : K ≤ 32767 := by omega
      clear hrun hk1
      subst hK
      rintro sz hsz
      rw [i64_id (by omega)] at hsz
      subst hsz
      refine ⟨fun s w' => w' = wv2.drew ∧ s = (if run then 4 else 4 * (K : Int)), ?_, ?_⟩
      · refine split_mk (fun hrt => ?_) (fun hrf => ?_)
        · rintro s1 rfl
          exact ⟨rfl, by simp [hrt]⟩
        · exact ⟨rfl, by simp [hrf]⟩
      rintro _ sz _ ⟨rfl, hsz⟩
      have hszv : (run = true ∧ sz = 4) ∨ (run = false ∧ sz = 4 * (K : Int)) := by cases run <;> simp_all
      clear hsz
      refine ⟨fun T w' => w' = wv2.drew ∧ T = decide ((K : Int) = 0 ∨ (K : Int) > num - words.length ∨ (rest2.length : Int) < sz), ?_, ?_⟩
      · refine split_mk (fun hc => ?_) (fun hc => ?_)
        · have hc' : (K : Int) = 0 := by simpa using hc
          exact ⟨rfl, (decide_eq_true (.inl hc')).symm⟩
        · have hc' : ¬ (K : Int) = 0 := by simpa using hc
          rw [i64_id (by omega)]
          refine split_mk (fun hd => ?_) (fun hd => ?_)
          · have hd' : (K : Int) > num - wN := of_decide_eq_true hd
            exact ⟨rfl, (decide_eq_true (.inr (.inl (by omega)))).symm⟩
          · have hd' : ¬ (K : Int) > num - wN := of_decide_eq_false hd
            refine ⟨rfl, ?_⟩
            rw [decide_eq_decide]
            omega
      rintro _ T _ ⟨rfl, hT⟩
      refine split_mk (fun hc => ?_) (fun hc => ?_)
      · subst hc
        have hbad' := of_decide_eq_true hT.symm
        refine hbadG (fun ⟨L, hL⟩ => ?_) _ hbel.drew
        obtain ⟨i, hi, hwi, hnL, k, h1, h2, h3, h4, h5⟩ := hSt L hL
        have hwl : words.length = i := by rw [hwi, List.length_take]; omega
        rcases h5 with ⟨hh, h6, _⟩ | ⟨hh, h6, _⟩ <;> rcases hkK with ⟨hrr, hkk⟩ | ⟨hrr, hkk⟩ <;> rcases hszv with ⟨hr3, hs3⟩ | ⟨hr3, hs3⟩ <;> first | (rw [hrr] at hr3; cases hr3; done) | omega
      · subst hc
        have hok := of_decide_eq_false hT.symm
        simp only [not_or] at hok
        obtain ⟨hK0, hKn, hsz2⟩ := hok
        refine ⟨fun m2 wA2 wN2 wC2 x w' => ∃ j : Nat, x = (j : Int) ∧ j ≤ K ∧ m2 = K - j ∧ OwnI w' w.heap.size 37 .u32 wA2 wN2 wC2 (words ++ ext run rest2 j) ∧ Below w.heap.size wv2 w',
          ⟨_, 0, rfl, by omega, rfl, by simpa [ext] using (show OwnI wv2.drew w.heap.size 37 .u32 wA wN wC words from hO), (Below.refl _ _).drew⟩, ?_⟩
        rintro m2 _ wA2 wN2 wC2 x wv5 ⟨j, rfl, hj, rfl, hO2, hb5⟩
        have hO2l := hO2.len
        rw [List.length_append, ext_length] at hO2l
        have hle5 : w.heap.size ≤ wv5.heap.size := Nat.le_trans hbel.size hb5.size
        refine split_mk (fun hjl => ?_) (fun hje => ?_)
        · have hjl' : j < K := by have : (j : Int) < (K : Int) := by simpa using hjl
                                  omega
          rintro at0 hat0
          rw [i64_id (by omega)] at hat0
          -- one word more
          have one : ∀ (q : Nat) (qA : Option Addr) (qN qC : Nat), q + 4 ≤ rest2.length → q = (if run then 0 else 4 * j) → qA = (if q + 4 = q then yA else yA.map (·.add (q * 1))) → qN = q + 4 - q → qC = q + 4 - q →
              Calls Try.prog 19 #[.slice qA qN qC] wv5 fun e wv6 => ∃ x80 : Int, e = .returned (.int .u32 x80) ∧
                ∃ x82A x82N x82C wv7, (Builtin.append_ #[23, 23] 23 #[.slice wA2 wN2 wC2, .slice (some ⟨wv6.heap.size, 0, none⟩) 1 1] : Sem Value).run Try.prog (wv6.alloc (.cells #[.int .u32 x80] 37)) = .ok (.slice x82A x82N x82C) wv7 ∧
                ∃ m3, m3 < K - j ∧ ∃ j' : Nat, IntKind.i64.wrap ((j : Int) + 1) = (j' : Int) ∧ j' ≤ K ∧ m3 = K - j' ∧ OwnI wv7 w.heap.size 37 .u32 x82A x82N x82C (words ++ ext run rest2 j') ∧ Below w.heap.size wv2 wv7 := by
            intro q qA qN qC hq hqe hqA hqN hqC
            have hQ : Ints wv5 b .u8 qA qN qC ((rest2.take (q + 4)).drop q) := (hY.below (hb5.mono hb)).cut (lo := q) (hi := q + 4) (m := q + 4) hqA hqN hqC (by omega) (by omega) (Nat.le_refl _)
            refine (get_c qA qN qC b _ wv5 hQ (by omega) ((hbr2.take _).drop _)).mono ?_
            rintro e _ ⟨_, rfl, rfl, rfl⟩
            refine ⟨_, rfl, ?_⟩
            obtain ⟨A7, n7, c7, w7, hr7, ho7, hn7, hb7, _⟩ := app_new st32 23 (w := wv5.drew) (show OwnI wv5.drew w.heap.size 37 .u32 wA2 wN2 wC2 _ from hO2) hle5 [num4 ((rest2.take (q + 4)).drop q)] 1 rfl (by omega) (by omega)
            refine ⟨A7, n7, c7, w7, hr7, K - (j + 1), by omega, j + 1, (i64_id (by omega)).trans (by omega), by omega, rfl, ?_, hb5.trans ⟨hb7.os, hb7.tape, hb7.output, hb7.size, hb7.block⟩⟩
            rw [num4_cut, hqe, List.append_assoc, ← ext_succ] at ho7
            exact ho7
          refine split_mk (fun hrt => ?_) (fun hrf => ?_)
          · rintro at1 rfl
            rw [i64_id (x := (0 : Int) + 4) (by omega)]
            refine ⟨⟨by omega, by omega⟩, ⟨by omega, by omega⟩, ⟨by omega, by omega⟩, ?_⟩
            rintro qA hqA qN hqN qC hqC
            exact one 0 qA qN qC (by rcases hszv with ⟨_, h⟩ | ⟨h, _⟩ <;> first | omega | (rw [hrt] at h; cases h)) (by simp [hrt]) hqA hqN hqC
          · subst hat0
            have hsz4 : sz = 4 * (K : Int) := by rcases hszv with ⟨h, _⟩ | ⟨_, h⟩ <;> first | exact h | (rw [hrf] at h; cases h)
            rw [i64_id (x := 4 * (j : Int) + 4) (by omega)]
            refine ⟨⟨by omega, by omega⟩, ⟨by omega, by omega⟩, ⟨by omega, by omega⟩, ?_⟩
            rintro qA hqA qN hqN qC hqC
            have e1 : (4 * (j : Int) + 4).toNat = 4 * j + 4 := by omega
            have e2 : (4 * (j : Int)).toNat = 4 * j := by omega
            rw [e1, e2] at hqA hqN
            rw [e1, e2] at hqC
            exact one (4 * j) qA qN qC (by omega) (by simp [hrf]) hqA hqN hqC
        · have hje' : ¬ j < K := by have : ¬ (j : Int) < (K : Int) := by simpa using hje
                                    omega
          obtain rfl : j = K := by omega
          refine ⟨⟨by omega, by omega⟩, ?_⟩
          rintro zA hzA zN hzN zC hzC
          have hZ : Ints wv5 b .u8 zA zN zC (rest2.drop sz.toNat) := (hY.below (hb5.mono hb)).from_ (lo := sz.toNat) (m := yC) hzA hzN hzC (by omega) hYc
          refine ⟨num - (words ++ ext run rest2 j).length, by rw [List.length_append, ext_length]; omega, rest2.drop sz.toNat, words ++ ext run rest2 j, hZ, by omega, hO2, hbel.trans hb5, ?_, by rw [List.length_append, ext_length]; omega, hbr2.drop _, rfl, ?_⟩
          · intro x hx
            rcases List.mem_append.1 hx with hx | hx
            · exact hwd x hx
            · obtain ⟨q, _, rfl⟩ := List.mem_map.1 hx
              exact num4_range (hbr2.drop _)
          · intro L hL
            obtain ⟨i, hi, hwi, hnL, k, h1, h2, h3, h4, h5⟩ := hSt L hL
            have hfin : ∀ (k : Nat), ext run rest2 k = (L.drop i).take k → i + k ≤ L.length → words ++ ext run rest2 k = L.take (i + k) := by
              intro k hk _
              rw [hk, hwi, List.take_add]
            rcases h5 with ⟨hh, h6, h7, h8⟩ | ⟨hh, h6, h7, h8⟩ <;> rcases hkK with ⟨hrr, hkk⟩ | ⟨hrr, hkk⟩ <;> rcases hszv with ⟨hr3, hs3⟩ | ⟨hr3, hs3⟩ <;>
              first
                | (rw [hrr] at hr3; cases hr3; done)
                | (exfalso; omega)
                | (obtain rfl : k = j := by omega
                   refine ⟨i + k, by omega, ?_, ?_⟩
                   · subst hrr; exact hfin k h7 (by omega)
                   · rw [hs3]
                     first
                       | exact h8
                       | (rw [show (4 * (k : Int)).toNat = 4 * k by omega]; exact h8))
  · have hge' : words.length = num := by have : ¬ (wN : Int) < (num : Int) := by simpa using hge
                                         omega
    have hW := hO.ints
    have hle2 : w.heap.size ≤ wv2.heap.size := hbel.size
    have hgood : ∀ L, GoodP L l → words = L ∧ rest = [] := by
      intro L hL
      obtain ⟨i, hi, hwi, hri⟩ := hG L hL
      have hnL : L.length = num := by have := hL.num; omega
      have hi' : i = L.length := by rw [hwi, List.length_take] at hge'; omega
      subst hi'
      refine ⟨by rw [hwi, List.take_length], by rw [hri, List.drop_length]; rfl⟩
    refine ⟨fun T w' => Below wv2.heap.size wv2 w' ∧ T = decide (rest ≠ [] ∨ pack words ≠ l), ?_, ?_⟩
    · refine split_mk (fun hc => ?_) (fun hc => ?_)
      · have hc' : (rN : Int) > 0 := by simpa using hc
        refine ⟨Below.refl _ _, (decide_eq_true (.inl ?_)).symm⟩
        rintro rfl
        simp at hRl
        omega
      · have hc' : ¬ (rN : Int) > 0 := by simpa using hc
        have hre : rest = [] := List.eq_nil_of_length_eq_zero (by omega)
        refine (pack_c wA wN wC wv2.heap.size words wv2 hW (Nat.le_refl _) (by omega) hwd).mono ?_
        rintro e wv3 ⟨_, rfl, A3, n3, c3, rfl, ho3, hb3⟩
        refine ⟨A3, n3, c3, rfl, ?_⟩
        refine (bequal_c A3 A n3 c3 n c wv3.heap.size b (pack words) l wv3 ho3.ints ((h.below (hbel.mono hb)).below (hb3.mono (by omega))) (pack_bt words) hbt).mono ?_
        rintro e _ ⟨_, rfl, rfl, rfl⟩
        refine ⟨_, rfl, hb3, ?_⟩
        rw [hre]
        by_cases hp : pack words = l <;> simp [hp]
    · rintro _ T wv3 ⟨hb3, hT⟩
      refine split_mk (fun hc => ?_) (fun hc => ?_)
      · subst hc
        have hbad' := of_decide_eq_true hT.symm
        refine ⟨none, 0, 0, 272, rfl, hbel.trans (hb3.mono hle2), .inr ⟨rfl, rfl, rfl, by rw [if_neg hs', if_neg hsm'], fun ⟨L, hL⟩ => ?_⟩⟩
        obtain ⟨hwL, hre⟩ := hgood L hL
        rcases hbad' with hb' | hb'
        · exact hb' hre
        · exact hb' (by rw [hwL]; exact hL.2.2)
      · subst hc
        have hok := of_decide_eq_false hT.symm
        simp only [not_or, ne_eq, Classical.not_not] at hok
        refine ⟨⟨by omega, by have := hW.cap; omega⟩, ⟨by omega, by omega⟩, ?_⟩
        rintro uA huA uN huN uC huC
        have e1 : ((wN : Nat) : Int).toNat = wN := by omega
        rw [e1] at huA huN huC
        have hU : Ints wv3 wv2.heap.size .u32 uA uN uC ((words.take wN).drop 0) := (hW.below hb3).cut (lo := 0) (hi := wN) (m := wN) huA huN huC (by omega) (by omega) (Nat.le_refl _)
        refine ⟨uA, uN, uC, 0, rfl, hbel.trans (hb3.mono hle2), .inl ⟨rfl, words, ⟨hwd, by omega, hok.2⟩, ?_⟩⟩
        rw [List.drop_zero, List.take_of_length_le (by omega)] at hU
        exact hU.mono hb3.size
end Go.Proofs.Ytlgffdmmlnoiaaa
