/-
  Slices of integers: what they read as, and how they grow. No program is named here.
-/
import Derived.Test.YtlgffdmmlnoiaaaVd
namespace Go.Proofs.Ytlgffdmmlnoiaaa.V
open Go Go.RowKit

/-- The slice (A, n, c) reads as the numbers l, and lies below block b. -/
structure Ints (w : World) (b : Nat) (k : IntKind) (A : Option Addr) (n c : Nat) (l : List Int) : Prop where
  len : l.length = n
  cap : n ≤ c
  cell : ∀ j x, l[j]? = some x → ∃ p, A = some p ∧ p.block < b ∧ w.cell? (p.add j) = some (.int k x)

section
variable {P : Program} {w w' : World} {b b' : Nat} {k : IntKind} {A : Option Addr} {n c : Nat} {l : List Int}

theorem add_add (p : Addr) (i j : Nat) : (p.add i).add j = p.add (i + j) := by
  unfold Addr.add
  by_cases hi : i = 0 <;> by_cases hj : j = 0 <;> simp [hi, hj, Nat.add_assoc]

theorem Ints.below (h : Ints w b k A n c l) (hb : Below b w w') : Ints w' b k A n c l :=
  ⟨h.len, h.cap, fun j x hx => by
    obtain ⟨p, hA, hp, hc⟩ := h.cell j x hx
    exact ⟨p, hA, hp, (hb.cell (by rw [block_add]; exact hp)).trans hc⟩⟩
theorem Ints.mono (h : Ints w b k A n c l) (hb : b ≤ b') : Ints w b' k A n c l :=
  ⟨h.len, h.cap, fun j x hx => by
    obtain ⟨p, hA, hp, hc⟩ := h.cell j x hx
    exact ⟨p, hA, by omega, hc⟩⟩
theorem Ints.drew (h : Ints w b k A n c l) : Ints w.drew b k A n c l := ⟨h.len, h.cap, h.cell⟩
theorem Ints.drewN (h : Ints w b k A n c l) (m : Nat) : Ints (w.drewN m) b k A n c l := ⟨h.len, h.cap, h.cell⟩
theorem Ints.nil : Ints w b k none 0 c [] := ⟨rfl, Nat.zero_le _, by simp⟩

theorem Ints.rd {i : Int} {K : Int → Prop} (h : Ints w b k A n c l) (h0 : 0 ≤ i) (h1 : i < (n : Int)) (hK : K (l.getD i.toNat 0)) :
    (0 ≤ i ∧ i < ((n : Nat) : Int)) ∧ onSome A fun p => ∃ x : Int, w.cell? (p.add (i.toNat * 1)) = some (.int k x) ∧ K x := by
  have hl := h.len
  have hj : i.toNat < l.length := by omega
  obtain ⟨p, hA, _, hc⟩ := h.cell i.toNat _ (List.getElem?_eq_getElem hj)
  refine ⟨⟨h0, h1⟩, onSome_mk p hA ⟨_, by rw [Nat.mul_one]; exact hc, ?_⟩⟩
  rwa [List.getD_eq_getElem?_getD, List.getElem?_eq_getElem hj] at hK

/-- The same in a region that is drawn and writes. -/
theorem Ints.rdB {i : Int} {K : Int → Prop} (h : Ints w b k A n c l) (h0 : 0 ≤ i) (h1 : i < (n : Int)) (hb : b ≤ b') (hK : K (l.getD i.toNat 0)) :
    (0 ≤ i ∧ i < ((n : Nat) : Int)) ∧ onSome A fun p => (p.add (i.toNat * 1)).block < b' ∧ ∃ x : Int, w.cell? (p.add (i.toNat * 1)) = some (.int k x) ∧ K x := by
  have hl := h.len
  have hj : i.toNat < l.length := by omega
  obtain ⟨p, hA, hp, hc⟩ := h.cell i.toNat _ (List.getElem?_eq_getElem hj)
  refine ⟨⟨h0, h1⟩, onSome_mk p hA ⟨by rw [block_add]; omega, _, by rw [Nat.mul_one]; exact hc, ?_⟩⟩
  rwa [List.getD_eq_getElem?_getD, List.getElem?_eq_getElem hj] at hK

/-- A part of a slice. -/
theorem Ints.cut {lo hi m : Nat} {A' : Option Addr} {n' c' : Nat} (h : Ints w b k A n c l) (hA : A' = (if m = lo then A else A.map (·.add (lo * 1)))) (hn : n' = hi - lo) (hc : c' = m - lo) (h1 : lo ≤ hi) (h2 : hi ≤ n) (h3 : hi ≤ m) :
    Ints w b k A' n' c' ((l.take hi).drop lo) := by
  have hl := h.len
  refine ⟨by simp; omega, by omega, fun j x hx => ?_⟩
  rw [List.getElem?_drop, List.getElem?_take] at hx
  split at hx
  · rename_i hlt
    obtain ⟨p, hp, hb, hcell⟩ := h.cell _ x hx
    rw [if_neg (by omega)] at hA
    subst hp
    refine ⟨p.add (lo * 1), by rw [hA]; rfl, by rw [block_add]; exact hb, ?_⟩
    rw [add_add, Nat.mul_one]
    exact hcell
  · cases hx

theorem Ints.from_ {lo m : Nat} {A' : Option Addr} {n' c' : Nat} (h : Ints w b k A n c l) (hA : A' = (if m = lo then A else A.map (·.add (lo * 1)))) (hn : n' = n - lo) (hc : c' = m - lo) (h1 : lo ≤ n) (h3 : n ≤ m) :
    Ints w b k A' n' c' (l.drop lo) := by
  have := h.cut (hi := n) hA hn hc h1 (Nat.le_refl _) h3
  rwa [List.take_of_length_le (by rw [h.len]; exact Nat.le_refl _)] at this

/-! Growing. -/
/-- The element's type of a slice type. -/
structure ST (P : Program) (t e : TypeId) (k : IntKind) (bytes : Nat) : Prop where
  und : P.underlying t = some (.slice e)
  el : P.underlying e = some (.int k)
  info : ∃ i, P.info? e = some i ∧ i.zero = some (.int k 0) ∧ i.size = 1 ∧ i.bytes = bytes

theorem ST.of {t e : TypeId} {bytes : Nat} (h : P.underlying t = some (.slice e)) (h1 : P.underlying e = some (.int k)) (h2 : (P.info? e).map (fun i => (i.zero, i.size, i.bytes)) = some (some (.int k 0), 1, bytes)) : ST P t e k bytes := by
  refine ⟨h, h1, ?_⟩
  cases hi : P.info? e with
  | none => rw [hi] at h2; cases h2
  | some i => rw [hi] at h2; simp at h2; exact ⟨i, rfl, h2.1, h2.2.1, h2.2.2⟩

/-- A slice of the call's own: it may be appended to in place. -/
def OwnI (w : World) (base : Nat) (e : TypeId) (k : IntKind) (A : Option Addr) (n c : Nat) (l : List Int) : Prop :=
  w.ownsRow base e 1 (.slice A n c) n (l.map (Value.int k))

theorem OwnI.nil {base : Nat} {e : TypeId} : OwnI w base e k none 0 0 [] := World.ownsRow_nil w base e 1

theorem OwnI.len {base : Nat} {e : TypeId} (h : OwnI w base e k A n c l) : l.length = n := by
  have := h.1
  simpa using this

theorem OwnI.ints {base : Nat} {e : TypeId} (h : OwnI w base e k A n c l) : Ints w w.heap.size k A n c l := by
  refine ⟨h.len, ?_, fun j x hx => ?_⟩
  · rcases h.2 with ⟨hv, hn⟩ | ⟨g, cap, cur, hv, _, _, hnc, _⟩
    · omega
    · injection hv with _ _ hc; omega
  · rcases h.2 with ⟨hv, hn⟩ | ⟨g, cap, cur, hv, hg, hgg, hnc, hcm, hcs, htake⟩
    · have := h.len
      have : l = [] := List.eq_nil_of_length_eq_zero (by omega)
      subst this
      simp at hx
    · injection hv with hA hn hc
      refine ⟨⟨g, 0, none⟩, hA, (Array.getElem?_eq_some_iff.1 hgg).1, ?_⟩
      exact h.cells (g := g) (by rw [hA]; rfl) j _ (by simp [hx])

theorem OwnI.keep {base : Nat} {e : TypeId} {w' : World} (h : OwnI w base e k A n c l) (hb : Below w.heap.size w w') : OwnI w' base e k A n c l := by
  refine ⟨h.1, ?_⟩
  rcases h.2 with hv | ⟨g, cap, cur, hv, hg, hgg, rest⟩
  · exact .inl hv
  · exact .inr ⟨g, cap, cur, hv, hg, by rw [hb.block g (Array.getElem?_eq_some_iff.1 hgg).1]; exact hgg, rest⟩

theorem OwnI.base_le {base base' : Nat} {e : TypeId} (h : OwnI w base e k A n c l) (hb : base' ≤ base) : OwnI w base' e k A n c l := by
  refine ⟨h.1, ?_⟩
  rcases h.2 with hv | ⟨g, cap, cur, hv, hg, rest⟩
  · exact .inl hv
  · exact .inr ⟨g, cap, cur, hv, by omega, rest⟩

theorem OwnI.lt {base : Nat} {e : TypeId} (h : OwnI w base e k A n c l) (a : Addr) (hA : A = some a) : base ≤ a.block ∧ a.block < w.heap.size :=
  World.ownsRow.lt h a.block (by rw [hA]; rfl)

/-- Appending what another slice reads as. -/
theorem app_ints {t e : TypeId} {bytes base : Nat} (hT : ST P t e k bytes) (ty : TypeId) (h : OwnI w base e k A n c l) (hbase : base ≤ w.heap.size) {B : Option Addr} {m d : Nat} {news : List Int} (hs : Ints w b' k B m d news)
    (h1 : n + m ≤ 9223372036854775807) (h2 : (n + m) * bytes ≤ 140737488355328) :
    ∃ A' n' c' w', (Builtin.append_ #[t, t] ty #[.slice A n c, .slice B m d]).run P w = .ok (.slice A' n' c') w' ∧ OwnI w' base e k A' n' c' (l ++ news) ∧ n' = n + m ∧ Below base w w' := by
  obtain ⟨i, hi, hz, hsz, hby⟩ := hT.info
  have fin : ∀ v' w', w'.ownsRow base e 1 v' (n + m) (l.map (Value.int k) ++ news.map (Value.int k)) → w.grownBy w' (Value.ownBlock (.slice A n c)) → (Builtin.append_ #[t, t] ty #[.slice A n c, .slice B m d]).run P w = .ok v' w' →
      ∃ A' n' c' w', (Builtin.append_ #[t, t] ty #[.slice A n c, .slice B m d]).run P w = .ok (.slice A' n' c') w' ∧ OwnI w' base e k A' n' c' (l ++ news) ∧ n' = n + m ∧ Below base w w' := by
    intro v' w' hown hg hr
    have hbel : Below base w w' := (Below.refl base w).grown hg hbase (fun g hg' => (World.ownsRow.lt h g hg').1)
    rcases hown.2 with ⟨hv, hn⟩ | ⟨g, cap, cur, hv, rest⟩
    · subst hv
      exact ⟨none, 0, 0, w', hr, by rw [hn] at hown; unfold OwnI; rw [List.map_append]; exact hown, hn.symm, hbel⟩
    · subst hv
      exact ⟨_, _, _, w', hr, by unfold OwnI; rw [List.map_append]; exact hown, rfl, hbel⟩
  cases B with
  | none =>
    have hn : news = [] := by
      cases news with
      | nil => rfl
      | cons x r => obtain ⟨p, hp, _⟩ := hs.cell 0 x rfl; cases hp
    subst hn
    have hm : m = 0 := by simpa using hs.len.symm
    subst hm
    refine fin (.slice A n c) w (by simp only [Nat.add_zero, List.map_nil, List.append_nil]; exact h) (World.grownBy.refl w _) ?_
    rcases h.2 with ⟨hv, _⟩ | ⟨g, cap, cur, hv, _, _, hnc, _⟩
    · rw [hv]
      simp [Builtin.append_, run_underlying hT.und, sizeOf, typeInfo, hi, Builtin.lenOf, Builtin.firstCells]
    · rw [hv]
      simp [Builtin.append_, run_underlying hT.und, sizeOf, typeInfo, hi, Builtin.lenOf, Builtin.firstCells, hnc, storeCells]
  | some ad =>
    obtain ⟨v', w', hr, hown, hg, _⟩ := run_append_own (P := P) w base t ty e i (.int k 0) 1 bytes hT.und hi hz hsz hby rfl (by omega) (.slice A n c) n (l.map (Value.int k)) h ad m d (news.map (Value.int k))
      (by simp [hs.len]) (by
        intro j u hu
        rw [List.getElem?_map] at hu
        cases hj : news[j]? with
        | none => rw [hj] at hu; cases hu
        | some x =>
          rw [hj] at hu
          injection hu with hu
          subst hu
          obtain ⟨p, hp, _, hc⟩ := hs.cell j x hj
          injection hp with hp
          subst hp
          exact hc) (by
        intro u hu
        obtain ⟨x, _, rfl⟩ := List.mem_map.1 hu
        rfl) (by simp only [maxLen]; omega) h2 hbase
    exact fin v' w' hown hg hr

/-- A slice that is written out. -/
theorem ints_new {e : TypeId} (w : World) (l : List Int) (m : Nat) (hm : l.length = m) : Ints (w.alloc (.cells ⟨l.map (Value.int k)⟩ e)) (w.heap.size + 1) k (some ⟨w.heap.size, 0, none⟩) m m l := by
  refine ⟨hm, Nat.le_refl _, fun j x hx => ⟨_, rfl, by simp, ?_⟩⟩
  rw [Addr.add_lit, Nat.zero_add]
  rw [cell_of_row _ w.heap.size j ⟨l.map (Value.int k)⟩ e (0, 0) (heap_alloc_new w _)]
  simp [hx]

/-- Appending numbers that are written out: they are laid in a block of their own first. -/
theorem app_new {t e : TypeId} {bytes base : Nat} (hT : ST P t e k bytes) (ty : TypeId) (h : OwnI w base e k A n c l) (hbase : base ≤ w.heap.size) (news : List Int) (m : Nat) (hm : news.length = m)
    (h1 : n + m ≤ 9223372036854775807) (h2 : (n + m) * bytes ≤ 140737488355328) :
    ∃ A' n' c' w', (Builtin.append_ #[t, t] ty #[.slice A n c, .slice (some ⟨w.heap.size, 0, none⟩) m m]).run P (w.alloc (.cells ⟨news.map (Value.int k)⟩ e)) = .ok (.slice A' n' c') w' ∧
      OwnI w' base e k A' n' c' (l ++ news) ∧ n' = n + m ∧ Below base w w' ∧ Below base (w.alloc (.cells ⟨news.map (Value.int k)⟩ e)) w' := by
  have hb1 : Below w.heap.size w (w.alloc (.cells ⟨news.map (Value.int k)⟩ e)) := (Below.refl _ w).alloc (Nat.le_refl _) _
  have hs : Ints (w.alloc (.cells ⟨news.map (Value.int k)⟩ e)) (w.heap.size + 1) k (some ⟨w.heap.size, 0, none⟩) m m news := by
    refine ⟨hm, Nat.le_refl _, fun j x hx => ⟨_, rfl, by simp, ?_⟩⟩
    rw [Addr.add_lit, Nat.zero_add]
    rw [cell_of_row _ w.heap.size j ⟨news.map (Value.int k)⟩ e (0, 0) (heap_alloc_new w _)]
    simp [hx]
  obtain ⟨A', n', c', w', hr, ho, hn, hb⟩ := app_ints hT ty (h.keep hb1) (by simp; omega) hs h1 h2
  exact ⟨A', n', c', w', hr, ho, hn, (hb1.mono hbase).trans hb, hb⟩

/-- Bytes as a string. -/
def strOf (l : List Int) : ByteArray := ⟨(l.map fun x => UInt8.ofNat x.toNat).toArray⟩

theorem conv_str {src dst e : TypeId} (hs : P.underlying src = some (.slice e)) (he : P.underlying e = some (.int .u8)) (hd : P.underlying dst = some .string) (h : Ints w b .u8 A n c l) :
    (convert src dst (.slice A n c)).run P w = .ok (.string (strOf l)) w := by
  rw [run_convert_bytes_string w src dst e A n c hs he hd]
  cases A with
  | none =>
    have : l = [] := by
      cases l with
      | nil => rfl
      | cons x r => obtain ⟨p, hp, _⟩ := h.cell 0 x rfl; cases hp
    subst this
    rfl
  | some p =>
    have hl := run_loadFrom (P := P) (w := w) (p := p) (l.map (Value.int .u8)) 0 #[] (by
      intro j u hu
      rw [List.getElem?_map] at hu
      cases hj : l[j]? with
      | none => rw [hj] at hu; cases hu
      | some x =>
        rw [hj] at hu
        injection hu with hu
        subst hu
        obtain ⟨q, hq, _, hc⟩ := h.cell j x hj
        injection hq with hq
        subst hq
        rw [Nat.zero_add]
        exact hc)
    rw [List.length_map, h.len] at hl
    rw [run_bytesToString w p n c l (by unfold loadCells; rw [hl]; simp)]
    rw [foldl_push_bytes]
    simp [strOf]
end
end Go.Proofs.Ytlgffdmmlnoiaaa.V
