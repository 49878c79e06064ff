/-
  The verification condition of regions, of code and of a function, and its soundness: 'calls_of_vc'. No program is named here.
-/
import Derived.Test.YtlgffdmmlnoiaaaVc
namespace Go.Proofs.Ytlgffdmmlnoiaaa.V
open Go Go.RowKit

/-! ### 5. Regions -/
/-- An operation under its guard: the guard's Bool is parted on, and written out in the frame. -/
def guardM (ops : Array Oper) (o : Oper) (fr : Fr) (yes no : Fr → Prop) : Prop :=
  match o.guard with
  | none => yes fr
  | some (j, want) => match (ops[j]?).bind (·.dst) with
    | some d => match lk fr.g d fr.e with
      | .bool b => split b
          (match want with
            | true => yes ⟨(d, .bool true) :: fr.e, fr.g⟩
            | false => no ⟨(d, .bool true) :: fr.e, fr.g⟩)
          (match want with
            | true => no ⟨(d, .bool false) :: fr.e, fr.g⟩
            | false => yes ⟨(d, .bool false) :: fr.e, fr.g⟩)
      | .tuple _ => no fr
      | _ => False
    | none => False

def vcL (P : Program) (C : List Nat) (n : Nat) (N : List Nat) (ops : Array Oper) (Qp : Option (List PanicEntry → World → Prop)) (K : Fr → World → Prop) : List Oper → Fr → World → Prop
  | [], fr, w => K fr w
  | o :: rest, fr, w => guardM ops o fr
      (fun fr => opM P C o (ev fr) w (fun v w' => putK n N fr o.dst v fun fr' => vcL P C n N ops Qp K rest fr' w') Qp)
      (fun fr => putK n N fr o.dst undef fun fr' => vcL P C n N ops Qp K rest fr' w)

section
variable {P : Program} {C : List Nat} {n : Nat} {N : List Nat} {ds : List Deferred} {ops : Array Oper} {fr : Fr} {a : Act} {w : World}

theorem rep_add {d : Nat} {v : Value} (hr : Rep n ds fr a) (h : lk fr.g d fr.e = v) : Rep n ds ⟨(d, v) :: fr.e, fr.g⟩ a := by
  refine ⟨hr.size, fun i => ?_, hr.defers⟩
  simp only [lk]
  split
  · rename_i hi
    obtain rfl : i = d := Nat.eq_of_beq_eq_true hi
    rw [hr.get, h]
  · exact hr.get i

theorem guardM_out {o : Oper} {yes no : Fr → Prop} (hr : Rep n ds fr a) (h : guardM ops o fr yes no) :
    ∃ fr', Rep n ds fr' a ∧ ((Region.wanted o (yielded ops a.tmps) = true ∧ yes fr') ∨ (Region.wanted o (yielded ops a.tmps) = false ∧ no fr')) := by
  unfold guardM at h
  unfold Region.wanted
  split at h
  · rename_i hg
    exact ⟨fr, hr, .inl ⟨by rw [hg], h⟩⟩
  · rename_i j want hg
    rw [hg]
    split at h
    · rename_i d hd
      split at h
      · rename_i b hb
        have hy : yielded ops a.tmps j = some b := by
          unfold yielded
          rw [hd]
          have hget : a.tmps.getD d undef = .bool b := by rw [hr.get, hb]
          have : a.tmps[d]? = some (.bool b) := by
            rw [Array.getD_eq_getD_getElem?] at hget
            cases he : a.tmps[d]? with
            | none => rw [he] at hget; simp [undef] at hget
            | some u => rw [he] at hget; simp at hget; rw [hget]
          simp [this]
        simp only [hy]
        rcases split_out h with ⟨rfl, h2⟩ | ⟨rfl, h2⟩
        · refine ⟨_, rep_add hr hb, ?_⟩
          cases want
          · exact .inr ⟨rfl, h2⟩
          · exact .inl ⟨rfl, h2⟩
        · refine ⟨_, rep_add hr hb, ?_⟩
          cases want
          · exact .inl ⟨rfl, h2⟩
          · exact .inr ⟨rfl, h2⟩
      · rename_i us hb
        have hy : yielded ops a.tmps j = none := by
          unfold yielded
          rw [hd]
          have hget : a.tmps.getD d undef = .tuple us := by rw [hr.get, hb]
          rw [Array.getD_eq_getD_getElem?] at hget
          cases he : a.tmps[d]? with
          | none => simp [he]
          | some u => rw [he] at hget; simp at hget; rw [hget] at he; simp [he]
        exact ⟨fr, hr, .inr ⟨by simp [hy], h⟩⟩
      · exact h.elim
    · exact h.elim

/-- The exits of a code, at the level of frames that are known by 'Rep'. -/
abbrev QF := Exit → Fr → World → Prop

/-- The real condition behind a code: no panic but to 'Qp', no end for lack of room. -/
def Real (n : Nat) (ds : List Deferred) (ws : List Nat) (a0 : Act) (Qp : Option (List PanicEntry → World → Prop)) (Q : QF) : Exit → Act → World → Prop
  | .panic ch, a, w => QpP Qp ch w ∧ a.defers = ds
  | .outgrown, _, _ => False
  | x, a, w => ∃ fr, Rep n ds fr a ∧ Q x fr w ∧ Agr ws a0 a

theorem Rep.ev_const (fr : Fr) (v : Value) : ev fr (.const v) = v := rfl

/-- An operation, from its condition. -/
theorem op_wp {o : Oper} {K : Fr → World → Prop} {next : Act → World → Prop} {Q : Exit → Act → World → Prop} {Qp : Option (List PanicEntry → World → Prop)} {ws : List Nat} {a0 : Act} (hC : callsOk P C = true) (hr : Rep n ds fr a) (ha : Agr ws a0 a)
    (hd : ∀ d, o.dst = some d → d ∈ ws)
    (h : opM P C o (ev fr) w (fun v w' => putK n N fr o.dst v fun fr' => K fr' w') Qp)
    (hn : ∀ fr' a' w', Rep n ds fr' a' → Agr ws a0 a' → K fr' w' → next a' w') (hp : ∀ ch w', QpP Qp ch w' → Q (.panic ch) a w') : o.wp P a w next Q := by
  have h1 := opM_out (P := P) hC (Rep.ev_const fr) h
  rw [← hr.eval] at h1
  unfold Oper.wp
  have key : ∀ v w', (putK n N fr o.dst v fun fr' => K fr' w') → next (a.put o.dst v) w' := by
    intro v w' hk
    obtain ⟨fr', hr', hK⟩ := putK_rep hr hk
    exact hn _ _ _ hr' (ha.trans (Agr.put a o.dst v hd)) hK
  generalize (execOp a.eval o).run P w = r at h1
  cases r with
  | ok nx w' =>
    cases nx <;> simp only [Out] at h1 <;> simp only [Oper.upon]
    case value v => exact key _ _ h1
    case skip => exact key _ _ h1
    case enter f args =>
      refine h1.mono fun e w'' he => ?_
      rcases he with ⟨v, rfl, hk⟩ | ⟨ch, rfl, hk⟩
      · exact key _ _ hk
      · exact hp _ _ hk
  | halt x w' =>
    cases x <;> simp only [Out] at h1 <;> simp only [Oper.upon]
    exact hp _ _ h1

theorem vcL_sound {Qp : Option (List PanicEntry → World → Prop)} {K : Fr → World → Prop} {ws : List Nat} {a0 : Act} (hC : callsOk P C = true) :
    ∀ (l : List Oper), (∀ o ∈ l, ∀ d, o.dst = some d → d ∈ ws) → ∀ (fr : Fr) (a : Act) (w : World), Rep n ds fr a → Agr ws a0 a → vcL P C n N ops Qp K l fr w →
      wpList P ops (Real n ds ws a0 Qp (fun x fr w => match x with | .normal => K fr w | _ => False)) l a w
  | [], _, fr, a, w, hr, ha, h => ⟨fr, hr, h, ha⟩
  | o :: rest, hd, fr, a, w, hr, ha, h => by
    obtain ⟨fr', hr', hh⟩ := guardM_out hr h
    simp only [wpList]
    rcases hh with ⟨hw, hh⟩ | ⟨hw, hh⟩
    · rw [if_pos hw]
      refine .inl (op_wp (K := fun fr' w' => vcL P C n N ops Qp K rest fr' w') hC hr' ha (hd o (List.mem_cons_self ..)) hh ?_ ?_)
      · intro fr2 a2 w2 h2 h3 h4
        exact vcL_sound hC rest (fun o' ho' => hd o' (List.mem_cons_of_mem _ ho')) fr2 a2 w2 h2 h3 h4
      · intro ch w' hq
        exact ⟨hq, hr.defers⟩
    · rw [if_neg (by rw [hw]; simp)]
      obtain ⟨fr2, h2, h3⟩ := putK_rep hr' hh
      exact vcL_sound hC rest (fun o' ho' => hd o' (List.mem_cons_of_mem _ ho')) fr2 _ w h2 (ha.trans (Agr.put a o.dst undef (hd o (List.mem_cons_self ..)))) h3
end

/-! ### 6. Regions that draw their order -/
/-- What may be taken ahead of the others: what only looks at what was there. -/
def ahead (P : Program) (o : Oper) : Bool :=
  match o.op with
  | .move _ | .assign _ | .pick .. | .load .. | .nilCheck _ | .fieldAddr .. | .indexAddr .. | .index .. | .binOp .. | .unOp .. | .slice .. | .build .. | .field .. | .extract .. | .makeInterface .. | .makeFunc .. => true
  | .convert src dst _ => match P.underlying src, P.underlying dst with
    | some (.int _), some (.int _) => true
    | some (.slice _), some .string => true
    | _, _ => false
  | .call c => match c.callee with
    | .builtin .len | .builtin .min | .builtin .max => true
    | _ => false
  | _ => false

/-- An operation that is taken ahead: as 'pureM'; bytes to a string besides. -/
def opS (P : Program) (B : Option Nat) (o : Oper) (ρ : Operand → Value) (w : World) (F : Value → Prop) : Prop :=
  pureM P B o ρ w F <|
  match o.op with
  | .convert src dst x => ∃ s : ByteArray, (∀ w', Below (B.getD w.heap.size) w w' → (convert src dst (ρ x)).run P w' = .ok (.string s) w') ∧ F (.string s)
  | _ => False

def firstAhead (P : Program) (ops : Array Oper) (listed : Array Bool) : List Nat → Option Nat
  | [] => none
  | i :: r => match (match ops[i]? with | some o => ahead P o && Region.free .any ops listed i | none => false) with
    | true => some i
    | false => firstAhead P ops listed r

def allL (F : Nat → Prop) : List Nat → Prop
  | [] => True
  | [i] => F i
  | i :: r => F i ∧ allL F r

theorem allL_out {F : Nat → Prop} : ∀ {l : List Nat}, allL F l → ∀ i ∈ l, F i
  | [], _, i, hi => by cases hi
  | [j], h, i, hi => by simp at hi; subst hi; exact h
  | j :: k :: r, h, i, hi => by
    rcases List.mem_cons.1 hi with rfl | hi
    · exact h.1
    · exact allL_out h.2 i hi

/-- Behind an operation that writes or makes memory: what has been kept; from here on more may be kept. -/
def moreB (B : Option Nat) (w w' : World) (F : Option Nat → Prop) : Prop :=
  match B with
  | none => False
  | some b => Below b w w' ∧ ∃ b', b ≤ b' ∧ F (some b')

def vcD (P : Program) (C : List Nat) (n : Nat) (N : List Nat) (ops : Array Oper) (Qp : Option (List PanicEntry → World → Prop)) (K : Fr → World → Prop) : Nat → Option Nat → Array Bool → Fr → World → Prop
  | 0, _, listed, fr, w => match Region.ready .any ops listed with
    | [] => K fr w
    | _ => False
  | fuel + 1, B, listed, fr, w => match Region.ready .any ops listed with
    | [] => K fr w
    | i0 :: r0 => match firstAhead P ops listed (i0 :: r0) with
      | some i => match ops[i]? with
        | some o => guardM ops o fr
            (fun fr => opS P B o (ev fr) w fun v => putK n N fr o.dst v fun fr' => vcD P C n N ops Qp K fuel B (listed.setIfInBounds i true) fr' w)
            (fun fr => putK n N fr o.dst undef fun fr' => vcD P C n N ops Qp K fuel B (listed.setIfInBounds i true) fr' w)
        | none => False
      | none => allL (fun i => match ops[i]? with
        | some o => guardM ops o fr
            (fun fr => opM P C o (ev fr) w (fun v w' => putK n N fr o.dst v fun fr' => moreB B w w' fun B' => vcD P C n N ops Qp K fuel B' (listed.setIfInBounds i true) fr' w') Qp)
            (fun fr => putK n N fr o.dst undef fun fr' => vcD P C n N ops Qp K fuel B (listed.setIfInBounds i true) fr' w)
        | none => False) (i0 :: r0)

section
variable {P : Program} {C : List Nat} {n : Nat} {N : List Nat} {ds : List Deferred} {ops : Array Oper}

theorem firstAhead_out {listed : Array Bool} {i : Nat} : ∀ {l : List Nat}, firstAhead P ops listed l = some i → i ∈ l ∧ Region.free .any ops listed i = true
  | [], h => by cases h
  | j :: r, h => by
    unfold firstAhead at h
    split at h
    · rename_i hj
      injection h with h
      subst h
      refine ⟨List.mem_cons_self .., ?_⟩
      split at hj
      · simp only [Bool.and_eq_true] at hj; exact hj.2
      · cases hj
    · have := firstAhead_out h
      exact ⟨List.mem_cons_of_mem _ this.1, this.2⟩

theorem opS_out {B : Option Nat} {o : Oper} {ρ : Operand → Value} {w : World} {F : Value → Prop} (hc : ∀ v, ρ (.const v) = v) (h : opS P B o ρ w F) :
    ∃ v, F v ∧ ∀ w', Below (B.getD w.heap.size) w w' → (execOp ρ o).run P w' = .ok (.value v) w' := by
  unfold opS at h
  have h0 := pureM_out hc h
  clear h
  rcases h0 with h | h
  · exact h
  · split at h
    · rename_i src dst x hop
      obtain ⟨s, hr, hF⟩ := h
      exact ⟨_, hF, fun w' hb => by unfold execOp; rw [hop]; simp [hr w' hb]⟩
    · exact h.elim

theorem wpAnyH_mono {md : Region.Mode} {Q : Exit → Act → World → Prop} {S S' : World → Prop} (hS : ∀ w, S' w → S w) : ∀ (fuel : Nat) (listed : Array Bool) (a : Act) (w : World),
    wpAnyH P md ops Q S' fuel listed a w → wpAnyH P md ops Q S fuel listed a w
  | 0, _, _, _, h => h
  | fuel + 1, _, _, _, h => ⟨h.1, fun i hi => wpOp_mono (fun a' w' h' => ⟨hS _ h'.1, wpAnyH_mono hS fuel _ a' w' h'.2⟩) (h.2 i hi)⟩

theorem vcD_sound {Qp : Option (List PanicEntry → World → Prop)} {K : Fr → World → Prop} {ws : List Nat} {a0 : Act} (hC : callsOk P C = true) (hs : Region.noSelect ops = true)
    (hd : ∀ (i : Nat) (o : Oper), ops[i]? = some o → ∀ d, o.dst = some d → d ∈ ws) :
    ∀ (fuel : Nat) (B : Option Nat) (listed : Array Bool) (fr : Fr) (a : Act) (w : World), Rep n ds fr a → Agr ws a0 a → vcD P C n N ops Qp K fuel B listed fr w →
      wpAnyH P .any ops (Real n ds ws a0 Qp (fun x fr w => match x with | .normal => K fr w | _ => False)) (fun w' => Below (B.getD w.heap.size) w w') fuel listed a w := by
  intro fuel
  induction fuel with
  | zero =>
    intro B listed fr a w hr ha h
    simp only [vcD] at h
    split at h
    · rename_i hrd
      exact ⟨hrd, fr, hr, h, ha⟩
    · exact h.elim
  | succ fuel ih =>
    intro B listed fr a w hr ha h
    have hQ : ∀ o : Oper, ∀ v, ∀ c a w, Real n ds ws a0 Qp (fun x fr w => match x with | .normal => K fr w | _ => False) (.panic c) (a.put o.dst v) w →
        Real n ds ws a0 Qp (fun x fr w => match x with | .normal => K fr w | _ => False) (.panic c) a w := by
      intro o v c a w h
      refine ⟨h.1, ?_⟩
      have := h.2
      cases hdst : o.dst <;> rw [hdst] at this <;> exact this
    simp only [vcD] at h
    split at h
    · rename_i hrd
      exact wpAnyH_done hrd ⟨fr, hr, h, ha⟩ _
    · rename_i i0 r0 hrd
      split at h
      · rename_i i hfa
        obtain ⟨hmem, hfree⟩ := firstAhead_out hfa
        split at h
        · rename_i o ho
          obtain ⟨fr', hr', hh⟩ := guardM_out hr h
          have hcont : (Region.ready .any ops listed).contains i = true := by rw [hrd]; simpa using hmem
          rcases hh with ⟨hw, hh⟩ | ⟨hw, hh⟩
          · obtain ⟨v, hk, hrun⟩ := opS_out (Rep.ev_const fr') hh
            obtain ⟨fr2, h2, h3⟩ := putK_rep hr' hk
            rw [← hr'.eval] at hrun
            exact wpAnyH_take ho hs hfree hcont (hQ o v) (.inl ⟨hw, fun w' hb => hrun w' hb⟩) (Below.refl _ _)
              (ih _ _ fr2 _ w h2 (ha.trans (Agr.put a o.dst v (hd i o ho))) h3)
          · obtain ⟨fr2, h2, h3⟩ := putK_rep hr' hh
            exact wpAnyH_take ho hs hfree hcont (hQ o undef) (.inr ⟨hw, rfl⟩) (Below.refl _ _)
              (ih _ _ fr2 _ w h2 (ha.trans (Agr.put a o.dst undef (hd i o ho))) h3)
        · exact h.elim
      · refine wpAnyH_all hrd (by simp) fun i hi => ?_
        have hi' := allL_out h i hi
        split at hi'
        · rename_i o ho
          obtain ⟨fr', hr', hh⟩ := guardM_out hr hi'
          unfold wpOp
          simp only [ho]
          rcases hh with ⟨hw, hh⟩ | ⟨hw, hh⟩
          · rw [if_pos hw]
            refine .inl (op_wp (Qp := Qp) (N := N) (K := fun fr' w' => moreB B w w' fun B' => vcD P C n N ops Qp K fuel B' (listed.setIfInBounds i true) fr' w') hC hr' ha (hd i o ho) ?_ ?_ ?_)
            · exact hh
            · intro fr2 a2 w2 h2 h3 h4
              cases B with
              | none => exact h4.elim
              | some b =>
                obtain ⟨hb4, b', hbb, h4⟩ := h4
                exact ⟨hb4, wpAnyH_mono (fun w' hb => hb4.trans (Below.mono hb hbb)) fuel _ a2 w2 (ih (some b') _ fr2 a2 w2 h2 h3 h4)⟩
            · intro ch w' hq
              exact ⟨hq, hr.defers⟩
          · rw [if_neg (by rw [hw]; simp)]
            obtain ⟨fr2, h2, h3⟩ := putK_rep hr' hh
            exact ⟨Below.refl _ _, ih _ _ fr2 _ w h2 (ha.trans (Agr.put a o.dst undef (hd i o ho))) h3⟩
        · exact hi'.elim
end

/-! ### 7. Code -/
def JT : List (Nat × Sh) → Type
  | [] => World → Prop
  | (_, .int _) :: r => Int → JT r
  | (_, .bool) :: r => Bool → JT r
  | (_, .str) :: r => ByteArray → JT r
  | (_, .ptr) :: r => Option Addr → JT r
  | (_, .slice) :: r => Option Addr → Nat → Nat → JT r
  | (_, .map) :: r => Option Nat → JT r
  | (_, .val) :: r => Value → JT r

def useJ : (l : List (Nat × Sh)) → JT l → Fr → World → Prop
  | [], J, _, w => J w
  | (s, .int k) :: r, J, fr, w => match lk fr.g s fr.e with
    | .int k' x => match kEq k k' with
      | true => useJ r (J x) fr w
      | false => False
    | _ => False
  | (s, .bool) :: r, J, fr, w => match lk fr.g s fr.e with
    | .bool b => useJ r (J b) fr w
    | _ => False
  | (s, .str) :: r, J, fr, w => match lk fr.g s fr.e with
    | .string b => useJ r (J b) fr w
    | _ => False
  | (s, .ptr) :: r, J, fr, w => match lk fr.g s fr.e with
    | .pointer b => useJ r (J b) fr w
    | _ => False
  | (s, .slice) :: r, J, fr, w => match lk fr.g s fr.e with
    | .slice a n c => useJ r (J a n c) fr w
    | _ => False
  | (s, .map) :: r, J, fr, w => match lk fr.g s fr.e with
    | .map b => useJ r (J b) fr w
    | _ => False
  | (s, .val) :: r, J, fr, w => useJ r (J (lk fr.g s fr.e)) fr w

def allJ : (l : List (Nat × Sh)) → JT l → (List (Nat × Value) → World → Prop) → Prop
  | [], J, F => ∀ w, J w → F [] w
  | (s, .int k) :: r, J, F => ∀ x : Int, allJ r (J x) fun vs w => F ((s, .int k x) :: vs) w
  | (s, .bool) :: r, J, F => ∀ x : Bool, allJ r (J x) fun vs w => F ((s, .bool x) :: vs) w
  | (s, .str) :: r, J, F => ∀ x : ByteArray, allJ r (J x) fun vs w => F ((s, .string x) :: vs) w
  | (s, .ptr) :: r, J, F => ∀ x : Option Addr, allJ r (J x) fun vs w => F ((s, .pointer x) :: vs) w
  | (s, .slice) :: r, J, F => ∀ (a : Option Addr) (n c : Nat), allJ r (J a n c) fun vs w => F ((s, .slice a n c) :: vs) w
  | (s, .map) :: r, J, F => ∀ x : Option Nat, allJ r (J x) fun vs w => F ((s, .map x) :: vs) w
  | (s, .val) :: r, J, F => ∀ x : Value, allJ r (J x) fun vs w => F ((s, x) :: vs) w

theorem useJ_out : ∀ (l : List (Nat × Sh)) (J : JT l) (fr : Fr) (w : World), useJ l J fr w →
    ∃ vs : List (Nat × Value), (∀ s v, (s, v) ∈ vs → lk fr.g s fr.e = v) ∧ ∀ F, allJ l J F → F vs w
  | [], J, fr, w, h => ⟨[], by simp, fun F hF => hF w h⟩
  | (s, sh) :: r, J, fr, w, h => by
    cases sh <;> simp only [useJ] at h
    case int k =>
      split at h
      · rename_i k' x hv
        split at h
        · rename_i hk
          obtain rfl := kEq_out hk
          obtain ⟨vs, h1, h2⟩ := useJ_out r (J x) fr w h
          refine ⟨(s, .int k x) :: vs, fun s' v' hm => ?_, fun F hF => h2 _ (hF x)⟩
          rcases List.mem_cons.1 hm with e | hm
          · cases e; exact hv
          · exact h1 _ _ hm
        · exact h.elim
      · exact h.elim
    case val =>
      obtain ⟨vs, h1, h2⟩ := useJ_out r (J _) fr w h
      refine ⟨(s, _) :: vs, fun s' v' hm => ?_, fun F hF => h2 _ (hF _)⟩
      rcases List.mem_cons.1 hm with e | hm
      · cases e; rfl
      · exact h1 _ _ hm
    case slice =>
      split at h
      · rename_i a n c hv
        obtain ⟨vs, h1, h2⟩ := useJ_out r (J a n c) fr w h
        refine ⟨(s, .slice a n c) :: vs, fun s' v' hm => ?_, fun F hF => h2 _ (hF a n c)⟩
        rcases List.mem_cons.1 hm with e | hm
        · cases e; exact hv
        · exact h1 _ _ hm
      · exact h.elim
    all_goals
      split at h
      · rename_i x hv
        obtain ⟨vs, h1, h2⟩ := useJ_out r (J x) fr w h
        refine ⟨(s, _) :: vs, fun s' v' hm => ?_, fun F hF => h2 _ (hF x)⟩
        rcases List.mem_cons.1 hm with e | hm
        · cases e; exact hv
        · exact h1 _ _ hm
      · exact h.elim

/-- The slots that a code writes. -/
def writes : Code → List Nat
  | .region _ ops _ => ops.toList.filterMap (·.dst)
  | .seq x y => writes x ++ writes y
  | .cond _ x y => writes x ++ writes y
  | .block _ c => writes c
  | .loop c => writes c
  | .scope c => writes c
  | _ => []

def allIn (ws : List Nat) : List Nat → Bool
  | [] => true
  | d :: r => match ws.elem d with
    | true => allIn ws r
    | false => false

theorem allIn_out {ws : List Nat} : ∀ {l : List Nat}, allIn ws l = true → ∀ d ∈ l, d ∈ ws
  | [], _, d, hd => by cases hd
  | e :: r, h, d, hd => by
    unfold allIn at h
    split at h
    · rename_i he
      rcases List.mem_cons.1 hd with rfl | hd
      · exact List.elem_iff.1 he
      · exact allIn_out h d hd
    · cases h

/-- Where a condition is cut, and what is kept there: slots with their shapes; the slots that may have been written. -/
structure Cut where
  live : List (Nat × Sh)
  wr : List Nat

inductive Ann where
  | leaf
  | node (cut : Option Cut) (l r : Ann)

def Ann.cut : Ann → Option Cut
  | .leaf => none
  | .node c _ _ => c
def Ann.l : Ann → Ann
  | .leaf => .leaf
  | .node _ l _ => l
def Ann.r : Ann → Ann
  | .leaf => .leaf
  | .node _ _ r => r

def forget (wr : List Nat) : List (Nat × Value) → List (Nat × Value)
  | [] => []
  | (d, v) :: r => match wr.elem d with
    | true => forget wr r
    | false => (d, v) :: forget wr r

def withCut (c : Code) (a : Ann) (Q : QF) (fr : Fr) (F : QF → Prop) : Prop :=
  match a.cut with
  | none => F Q
  | some ⟨live, wr⟩ => match allIn wr (writes c) with
    | true => ∃ J : JT live, F (fun x fr' w' => match x with | .normal => useJ live J fr' w' | x => Q x fr' w') ∧
        ∀ g : Nat → Value, allJ live J fun vs w' => Q .normal ⟨vs ++ forget wr fr.e, g⟩ w'
    | false => False

def allAhead (P : Program) : List Oper → Bool
  | [] => true
  | o :: r => match ahead P o with
    | true => allAhead P r
    | false => false

def vcC (P : Program) (C : List Nat) (n : Nat) (N : List Nat) (Qp : Option (List PanicEntry → World → Prop)) : Code → Ann → QF → Fr → World → Prop
  | .skip, _, Q, fr, w => Q .normal fr w
  | .region id ops false, a, Q, fr, w => withCut (.region id ops false) a Q fr fun Q => vcL P C n N ops Qp (Q .normal) ops.toList fr w
  | .region id ops true, a, Q, fr, w => withCut (.region id ops true) a Q fr fun Q => match Region.noSelect ops with
    | true => (match allAhead P ops.toList with
      | true => vcD P C n N ops Qp (Q .normal) ops.size none (Array.replicate ops.size false) fr w.drew
      | false => ∃ b, b ≤ w.heap.size ∧ vcD P C n N ops Qp (Q .normal) ops.size (some b) (Array.replicate ops.size false) fr w.drew)
    | false => False
  | .seq x y, a, Q, fr, w => withCut (.seq x y) a Q fr fun Q => vcC P C n N Qp x a.l (fun e fr' w' => match e with | .normal => vcC P C n N Qp y a.r Q fr' w' | e => Q e fr' w') fr w
  | .cond c x y, a, Q, fr, w => withCut (.cond c x y) a Q fr fun Q => match ev fr c with
    | .bool b => split b (vcC P C n N Qp x a.l Q fr w) (vcC P C n N Qp y a.r Q fr w)
    | _ => False
  | .block id c, a, Q, fr, w => withCut (.block id c) a Q fr fun Q => vcC P C n N Qp c a.l (fun e fr' w' => match e with
    | .exit id' => (match Nat.beq id' id with | true => Q .normal fr' w' | false => Q (.exit id') fr' w')
    | e => Q e fr' w') fr w
  | .loop c, a, Q, fr, w => match a.cut with
    | none => False
    | some ⟨live, wr⟩ => match allIn wr (writes c) with
      | true => ∃ I : Nat → JT live, (∃ m, useJ live (I m) fr w) ∧ ∀ (m : Nat) (g : Nat → Value), allJ live (I m) fun vs w' =>
          vcC P C n N Qp c a.l (fun e fr' w'' => match e with
            | .normal => ∃ m', m' < m ∧ useJ live (I m') fr' w''
            | e => Q e fr' w'') ⟨vs ++ forget wr fr.e, g⟩ w'
      | false => False
  | .exit id, _, Q, fr, w => Q (.exit id) fr w
  | .ret, _, Q, fr, w => Q .ret fr w
  | .scope c, a, Q, fr, w => withCut (.scope c) a Q fr fun Q => vcC P C n N Qp c a.l (fun e fr' w' => match e with
    | .goto _ => False
    | e => Q e fr' w') fr w
  | _, _, _, _, _ => False

section
variable {P : Program} {C : List Nat} {n : Nat} {N : List Nat} {ds : List Deferred} {Qp : Option (List PanicEntry → World → Prop)}

theorem lk_append (g : Nat → Value) (i : Nat) : ∀ (x y : List (Nat × Value)), (∃ v, (i, v) ∈ x ∧ lk g i (x ++ y) = v) ∨ ((∀ v, (i, v) ∉ x) ∧ lk g i (x ++ y) = lk g i y)
  | [], y => .inr ⟨by simp, rfl⟩
  | (d, v) :: r, y => by
    simp only [List.cons_append, lk]
    split
    · rename_i h
      obtain rfl := Nat.eq_of_beq_eq_true h
      exact .inl ⟨v, List.mem_cons_self .., rfl⟩
    · rename_i h
      have hne : i ≠ d := by rintro rfl; simp at h
      rcases lk_append g i r y with ⟨u, hu, he⟩ | ⟨hu, he⟩
      · exact .inl ⟨u, List.mem_cons_of_mem _ hu, he⟩
      · refine .inr ⟨fun u hm => ?_, he⟩
        rcases List.mem_cons.1 hm with e | hm
        · cases e; exact hne rfl
        · exact hu u hm

theorem lk_forget (wr : List Nat) (g g' : Nat → Value) (i : Nat) : ∀ (e : List (Nat × Value)), lk g' i (forget wr e) = g' i ∨ (i ∉ wr ∧ lk g' i (forget wr e) = lk g i e)
  | [] => .inl rfl
  | (d, v) :: r => by
    simp only [forget]
    split
    · rename_i h
      rcases lk_forget wr g g' i r with hh | ⟨hn, hh⟩
      · exact .inl hh
      · refine .inr ⟨hn, ?_⟩
        simp only [lk]
        split
        · rename_i hi
          obtain rfl := Nat.eq_of_beq_eq_true hi
          exact absurd (List.elem_iff.1 h) hn
        · exact hh
    · rename_i h
      simp only [lk]
      split
      · rename_i hi
        obtain rfl := Nat.eq_of_beq_eq_true hi
        refine .inr ⟨fun hm => ?_, rfl⟩
        rw [List.elem_iff.2 hm] at h
        cases h
      · exact lk_forget wr g g' i r

/-- Behind a cut: the frame as far as it is known. -/
theorem rep_cut {fr fr' : Fr} {a a' : Act} {wr : List Nat} {vs : List (Nat × Value)} (h0 : Rep n ds fr a) (h1 : Rep n ds fr' a') (hag : Agr wr a a') (hvs : ∀ s v, (s, v) ∈ vs → lk fr'.g s fr'.e = v) :
    Rep n ds ⟨vs ++ forget wr fr.e, fun i => a'.tmps.getD i undef⟩ a' := by
  refine ⟨h1.size, fun i => ?_, h1.defers⟩
  rcases lk_append (fun i => a'.tmps.getD i undef) i vs (forget wr fr.e) with ⟨v, hv, he⟩ | ⟨_, he⟩
  · show _ = lk _ i (vs ++ forget wr fr.e)
    rw [he, h1.get, hvs _ _ hv]
  · show _ = lk _ i (vs ++ forget wr fr.e)
    rw [he]
    rcases lk_forget wr fr.g (fun i => a'.tmps.getD i undef) i fr.e with hh | ⟨hn, hh⟩
    · rw [hh]
    · rw [hh, ← h0.get]
      exact hag i hn

theorem Real.mono {ws ws' : List Nat} {a0 a : Act} {Q Q' : QF} {x : Exit} {w : World} (h : Real n ds ws a0 Qp Q x a w) (hws : ∀ i, i ∈ ws → i ∈ ws') (hq : ∀ x fr w, Q x fr w → Q' x fr w) : Real n ds ws' a0 Qp Q' x a w := by
  cases x <;> first | exact h | (obtain ⟨fr, h1, h2, h3⟩ := h; exact ⟨fr, h1, hq _ _ _ h2, h3.mono hws⟩)

theorem real_normal {ws : List Nat} {a0 a : Act} {Q : QF} {x : Exit} {w : World} (h : Real n ds ws a0 Qp (fun x fr w => match x with | .normal => Q .normal fr w | _ => False) x a w) : Real n ds ws a0 Qp Q x a w := by
  cases x <;> first | exact h | (obtain ⟨_, _, h, _⟩ := h; exact h.elim)

/-- A loop, with a number that every round lowers. -/
theorem wp_loop_down {c : Code} {Q : Exit → Act → World → Prop} (I : Nat → Act → World → Prop) (m : Nat) {a : Act} {w : World} (h₀ : I m a w)
    (round : ∀ m a w, I m a w → c.wp P (Exit.then (fun a' w' => ∃ m', m' < m ∧ I m' a' w') Q) a w) : (Code.loop c).wp P Q a w := by
  intro b k cs
  have key : ∀ n a w, I n a w →
      ∃ e a' w', Q e a' w' ∧ Arrives P (lone (b.at a (.code c :: .inLoop c :: k)) cs w) b k cs e a' w' := by
    intro n
    induction n using Nat.strongRecOn with
    | _ n ih =>
      intro a w hI
      obtain ⟨e, a₁, w₁, hq, harr⟩ := round n a w hI b (.inLoop c :: k) cs
      cases e with
      | normal =>
        obtain ⟨m', hlt, hI₁⟩ := hq
        obtain ⟨e₂, a₂, w₂, hq₂, harr₂⟩ := ih m' hlt a₁ w₁ hI₁
        exact ⟨e₂, a₂, w₂, hq₂, .of_steps (Steps.trans harr (.one step_inLoop)) harr₂⟩
      | exit id => exact ⟨_, a₁, w₁, hq, .pass (x := .inLoop c) rfl (fun _ _ => .inl (by simp)) harr⟩
      | goto l => exact ⟨_, a₁, w₁, hq, .pass (x := .inLoop c) rfl (fun _ _ => .inl (by simp)) harr⟩
      | ret => exact ⟨_, a₁, w₁, hq, .pass (x := .inLoop c) rfl (fun _ _ => .inl (by simp)) harr⟩
      | panic ch => exact ⟨_, a₁, w₁, hq, .pass (x := .inLoop c) rfl (fun _ _ => .inl (by simp)) harr⟩
      | outgrown => exact ⟨_, a₁, w₁, hq, .pass (x := .inLoop c) rfl (fun _ _ => .inl (by simp)) harr⟩
  obtain ⟨e, a', w', hq, harr⟩ := key _ a w h₀
  exact ⟨e, a', w', hq, .of_steps (.one step_loop) harr⟩

/-- 'c' does what its condition says, from every frame that fits. -/
def Sound (P : Program) (n : Nat) (ds : List Deferred) (Qp : Option (List PanicEntry → World → Prop)) (c : Code) (V : QF → Fr → World → Prop) : Prop :=
  ∀ (Q : QF) (fr : Fr) (a : Act) (w : World), Rep n ds fr a → V Q fr w → c.wp P (Real n ds (writes c) a Qp Q) a w

theorem cut_sound {c : Code} {an : Ann} {V : QF → Fr → World → Prop} (h : Sound P n ds Qp c V) : Sound P n ds Qp c fun Q fr w => withCut c an Q fr fun Q => V Q fr w := by
  intro Q fr a w hr hv
  simp only [withCut] at hv
  split at hv
  · exact h Q fr a w hr hv
  · rename_i live wr hcut
    split at hv
    · rename_i hin
      obtain ⟨J, h1, h2⟩ := hv
      refine wp_mono (h _ fr a w hr h1) fun e a' w' he => ?_
      cases e
      case normal =>
        obtain ⟨fr', hr', hj, hag⟩ := he
        obtain ⟨vs, hvs, hall⟩ := useJ_out live J fr' w' hj
        exact ⟨_, rep_cut hr hr' (hag.mono (allIn_out hin)) hvs, hall _ (h2 _), hag⟩
      all_goals exact he
    · exact hv.elim

theorem mem_writes {ops : Array Oper} {id : Nat} {dr : Bool} {i : Nat} {o : Oper} (ho : ops[i]? = some o) {d : Nat} (hd : o.dst = some d) : d ∈ writes (.region id ops dr) := by
  refine List.mem_filterMap.2 ⟨o, ?_, hd⟩
  obtain ⟨h1, h2⟩ := Array.getElem?_eq_some_iff.1 ho
  rw [← h2]
  exact Array.mem_toList_iff.2 (Array.getElem_mem h1)

theorem vcC_sound (hC : callsOk P C = true) (hm : P.follows .mixedOrders = true) : ∀ (c : Code) (an : Ann), Sound P n ds Qp c (vcC P C n N Qp c an)
  | .skip, an => fun Q fr a w hr hv => wp_skip ⟨fr, hr, hv, Agr.refl _ _⟩
  | .region id ops false, an => cut_sound (c := .region id ops false) (V := fun Q fr w => vcL P C n N ops Qp (Q .normal) ops.toList fr w) fun Q fr a w hr hv => by
    exact wp_mono (wp_region_list (vcL_sound (ds := ds) (ws := writes (.region id ops false)) (a0 := a) hC ops.toList (fun o ho d hd => List.mem_filterMap.2 ⟨o, ho, hd⟩) fr a w hr (Agr.refl _ _) hv)) fun e a' w' he => real_normal he
  | .region id ops true, an => cut_sound (c := .region id ops true) (V := fun Q fr w => match Region.noSelect ops with
    | true => (match allAhead P ops.toList with
      | true => vcD P C n N ops Qp (Q .normal) ops.size none (Array.replicate ops.size false) fr w.drew
      | false => ∃ b, b ≤ w.heap.size ∧ vcD P C n N ops Qp (Q .normal) ops.size (some b) (Array.replicate ops.size false) fr w.drew)
    | false => False) fun Q fr a w hr hv => by
    dsimp only at hv
    split at hv
    · rename_i hs
      obtain ⟨B, hv⟩ : ∃ B, vcD P C n N ops Qp (Q .normal) ops.size B (Array.replicate ops.size false) fr w.drew := by
        split at hv
        · exact ⟨_, hv⟩
        · obtain ⟨b, _, hv⟩ := hv
          exact ⟨_, hv⟩
      exact wp_mono (wp_region_held hm (vcD_sound (ds := ds) (ws := writes (.region id ops true)) (a0 := a) hC hs (fun i o ho d hd => mem_writes ho hd) ops.size _ _ fr a w.drew hr (Agr.refl _ _) hv)) fun e a' w' he => real_normal he
    · exact hv.elim
  | .seq x y, an => cut_sound (c := .seq x y) (V := fun Q fr w => vcC P C n N Qp x an.l (fun e fr' w' => match e with | .normal => vcC P C n N Qp y an.r Q fr' w' | e => Q e fr' w') fr w) fun Q fr a w hr hv => by
    refine wp_seq (wp_mono (vcC_sound hC hm x an.l _ fr a w hr hv) fun e a' w' he => ?_)
    cases e
    case normal =>
      obtain ⟨fr', hr', hv', hag⟩ := he
      refine wp_mono (vcC_sound hC hm y an.r Q fr' a' w' hr' hv') fun e a2 w2 he => ?_
      cases e <;> first
        | exact he
        | (obtain ⟨fr2, h1, h2, h3⟩ := he
           exact ⟨fr2, h1, h2, (hag.mono fun i hi => List.mem_append_left _ hi).trans (h3.mono fun i hi => List.mem_append_right _ hi)⟩)
    all_goals first
      | exact he
      | (obtain ⟨fr2, h1, h2, h3⟩ := he
         exact ⟨fr2, h1, h2, h3.mono fun i hi => List.mem_append_left _ hi⟩)
  | .cond c x y, an => cut_sound (c := .cond c x y) (V := fun Q fr w => match ev fr c with
    | .bool b => split b (vcC P C n N Qp x an.l Q fr w) (vcC P C n N Qp y an.r Q fr w)
    | _ => False) fun Q fr a w hr hv => by
    dsimp only at hv
    split at hv
    · rename_i b hb
      rw [← hr.eval] at hb
      rcases split_out hv with ⟨rfl, hv2⟩ | ⟨rfl, hv2⟩
      · exact wp_cond_true hb (wp_mono (vcC_sound hC hm x an.l Q fr a w hr hv2) fun e a' w' he => he.mono (fun i hi => List.mem_append_left _ hi) (fun _ _ _ h => h))
      · exact wp_cond_false hb (wp_mono (vcC_sound hC hm y an.r Q fr a w hr hv2) fun e a' w' he => he.mono (fun i hi => List.mem_append_right _ hi) (fun _ _ _ h => h))
    · exact hv.elim
  | .block id c, an => cut_sound (c := .block id c) (V := fun Q fr w => vcC P C n N Qp c an.l (fun e fr' w' => match e with
    | .exit id' => (match Nat.beq id' id with | true => Q .normal fr' w' | false => Q (.exit id') fr' w')
    | e => Q e fr' w') fr w) fun Q fr a w hr hv => by
    refine wp_block (wp_mono (vcC_sound hC hm c an.l _ fr a w hr hv) fun e a' w' he => ?_)
    cases e
    case exit id' =>
      obtain ⟨fr', hr', hv', hag⟩ := he
      simp only at hv'
      simp only [Exit.inBlock]
      split at hv'
      · rename_i hi
        rw [if_pos (Nat.eq_of_beq_eq_true hi)]
        exact ⟨fr', hr', hv', hag⟩
      · rename_i hi
        rw [if_neg (by rintro rfl; simp at hi)]
        exact ⟨fr', hr', hv', hag⟩
    all_goals exact he
  | .loop c, an => fun Q fr a w hr hv => by
    simp only [vcC] at hv
    split at hv
    · exact hv.elim
    · rename_i live wr hcut
      split at hv
      · rename_i hin
        obtain ⟨I, ⟨m0, h0⟩, hround⟩ := hv
        refine wp_loop_down (fun m a' w' => ∃ fr', Rep n ds fr' a' ∧ useJ live (I m) fr' w' ∧ Agr (writes c) a a') m0 ⟨fr, hr, h0, Agr.refl _ _⟩ ?_
        rintro m a1 w1 ⟨fr1, hr1, hj, hag⟩
        obtain ⟨vs, hvs, hall⟩ := useJ_out live (I m) fr1 w1 hj
        have hr2 := rep_cut hr hr1 (hag.mono (allIn_out hin)) hvs
        refine wp_mono (vcC_sound hC hm c an.l _ _ a1 w1 hr2 (hall _ (hround m _))) fun e a' w' he => ?_
        cases e
        case normal =>
          obtain ⟨fr', hr', ⟨m', hlt, hj'⟩, hag'⟩ := he
          exact ⟨m', hlt, fr', hr', hj', hag.trans hag'⟩
        case panic => exact he
        case outgrown => exact he
        all_goals
          obtain ⟨fr', hr', hq, hag'⟩ := he
          exact ⟨fr', hr', hq, hag.trans hag'⟩
      · exact hv.elim
  | .exit id, an => fun Q fr a w hr hv => wp_exit ⟨fr, hr, hv, Agr.refl _ _⟩
  | .ret, an => fun Q fr a w hr hv => wp_ret ⟨fr, hr, hv, Agr.refl _ _⟩
  | .scope c, an => cut_sound (c := .scope c) (V := fun Q fr w => vcC P C n N Qp c an.l (fun e fr' w' => match e with
    | .goto _ => False
    | e => Q e fr' w') fr w) fun Q fr a w hr hv => by
    refine wp_scope_straight (wp_mono (vcC_sound hC hm c an.l _ fr a w hr hv) fun e a' w' he => ?_)
    cases e
    case goto l => obtain ⟨_, _, h, _⟩ := he; exact h.elim
    all_goals exact he
  | .rangeFunc _ _ _ _, _ => fun Q fr a w hr hv => hv.elim
  | .label _, _ => fun Q fr a w hr hv => hv.elim
  | .goto _, _ => fun Q fr a w hr hv => hv.elim
  | .refuse _, _ => fun Q fr a w hr hv => hv.elim
end

/-! ### 8. A function -/
def resVals (P : Program) (fr : Fr) (w : World) : List ResultVar → (List Value → Prop) → Prop
  | [], F => F []
  | .tmp t :: r, F => resVals P fr w r fun vs => F (lk fr.g t fr.e :: vs)
  | .cell a t :: r, F => match lk fr.g a fr.e with
    | .pointer p => match typeSh P t, aggIs P t (shAgg (typeSh P t)) && hasType P t && Nat.beq (shSize (typeSh P t)) (sizeM P t) with
      | s, true => onSome p fun p => s.ex fun v => loadsAt w p s v ∧ resVals P fr w r fun vs => F (v :: vs)
      | _, false => False
    | _ => False

def resK (P : Program) (rs : List ResultVar) (R : Post) (fr : Fr) (w : World) : Prop :=
  resVals P fr w rs fun vs => match vs with
    | [v] => R v w
    | vs => R (.tuple ⟨vs⟩) w

def num : Nat → List Value → List (Nat × Value)
  | _, [] => []
  | i, v :: r => (i, v) :: num (i + 1) r

def vcF (P : Program) (C : List Nat) (N : List Nat) (fn : Func) (an : Ann) (args : List Value) (R : Post) (Qp : Option (List PanicEntry → World → Prop)) (w : World) : Prop :=
  match fn.body, Nat.ble args.length fn.ntmps with
  | some c, true => vcC P C fn.ntmps N Qp c an (fun e fr w' => match e with
    | .normal => resK P fn.results.toList R fr w'
    | .ret => resK P fn.results.toList R fr w'
    | _ => False) ⟨num 0 args, fun _ => undef⟩ w
  | _, _ => False

section
variable {P : Program} {C : List Nat} {N : List Nat}

def rvOf (tmps : Array Value) : ResultVar → Sem Value
  | .tmp t => pure (tmps.getD t undef)
  | .cell a t => do loadVar t (← asAddr (tmps.getD a undef))

theorem resVals_out {fr : Fr} {w : World} {tmps : Array Value} (ht : ∀ i, tmps.getD i undef = lk fr.g i fr.e) : ∀ (rs : List ResultVar) {F : List Value → Prop}, resVals P fr w rs F →
    ∃ vs, F vs ∧ (rs.mapM (rvOf tmps)).run P w = .ok vs w
  | [], F, h => ⟨[], h, rfl⟩
  | .tmp t :: r, F, h => by
    obtain ⟨vs, hF, hr⟩ := resVals_out ht r h
    refine ⟨_, hF, ?_⟩
    have h1 : (rvOf tmps (.tmp t)).run P w = .ok (lk fr.g t fr.e) w := by rw [← ht]; rfl
    rw [List.mapM_cons, Sem.run_bind, h1]
    show (Sem.run P (do let bs ← r.mapM (rvOf tmps); pure (lk fr.g t fr.e :: bs)) w) = _
    rw [Sem.run_bind, hr]
    rfl
  | .cell a t :: r, F, h => by
    simp only [resVals] at h
    split at h
    · rename_i p hp
      split at h
      · rename_i s hs hck
        simp only [Bool.and_eq_true] at hck
        obtain ⟨q, rfl, h2⟩ := onSome_out h
        obtain ⟨v, hl, h3⟩ := Sh2.ex_out h2
        obtain ⟨vs, hF, hr⟩ := resVals_out ht r h3
        have := run_loadsAt (P := P) hck.1.1 hck.1.2 hck.2 hl
        refine ⟨_, hF, ?_⟩
        have h1 : (rvOf tmps (.cell a t)).run P w = .ok v w := by
          show (do loadVar t (← asAddr (tmps.getD a undef)) : Sem Value).run P w = _
          rw [ht, hp]
          exact this
        rw [List.mapM_cons, Sem.run_bind, h1]
        show (Sem.run P (do let bs ← r.mapM (rvOf tmps); pure (v :: bs)) w) = _
        rw [Sem.run_bind, hr]
        rfl
      · exact h.elim
    · exact h.elim

theorem resK_out {fn : Func} {fr : Fr} {w : World} {tmps : Array Value} {R : Post} (ht : ∀ i, tmps.getD i undef = lk fr.g i fr.e) (h : resK P fn.results.toList R fr w) :
    ∃ v, R v w ∧ (results fn tmps).run P w = .ok v w := by
  obtain ⟨vs, hR, hr⟩ := resVals_out ht _ h
  have hm : (fn.results.mapM (rvOf tmps)).run P w = .ok ⟨vs⟩ w := by
    rw [Array.mapM_eq_mapM_toList]
    simp [hr]
  have hres : results fn tmps = (do let vs ← fn.results.mapM (rvOf tmps); pure (if h : vs.size = 1 then vs[0] else .tuple vs)) := by
    unfold results rvOf
    congr 1
  rw [hres, Sem.run_bind, hm]
  cases vs with
  | nil => exact ⟨_, hR, rfl⟩
  | cons v r =>
    cases r with
    | nil => exact ⟨_, hR, rfl⟩
    | cons u r => exact ⟨_, hR, rfl⟩

theorem lk_num (g : Nat → Value) : ∀ (l : List Value) (k i : Nat), lk g i (num k l) = if h : k ≤ i ∧ i - k < l.length then l[i - k]'h.2 else g i
  | [], k, i => by simp [num, lk]
  | v :: r, k, i => by
    simp only [num, lk]
    split
    · rename_i h
      obtain rfl := Nat.eq_of_beq_eq_true h
      simp
    · rename_i h
      have hne : i ≠ k := by rintro rfl; simp at h
      rw [lk_num g r (k + 1) i]
      by_cases hc : k + 1 ≤ i ∧ i - (k + 1) < r.length
      · rw [dif_pos hc, dif_pos ⟨by omega, by simp; omega⟩]
        have : i - k = (i - (k + 1)) + 1 := by omega
        simp [this]
      · rw [dif_neg hc, dif_neg (by simp; omega)]

/-- **A function's calls, from its condition.** -/
theorem calls_of_vc {f : FuncId} {fn : Func} {args : List Value} {an : Ann} {R : Post} {Qp : Option (List PanicEntry → World → Prop)} {w : World} (hf : P.funcs[f]? = some fn) (hC : callsOk P C = true) (hm : P.follows .mixedOrders = true)
    (h : vcF P C N fn an args R Qp w) : Calls P f ⟨args⟩ w fun e w' => (∃ v, e = .returned v ∧ R v w') ∨ ∃ ch, e = .panicked ch ∧ QpP Qp ch w' := by
  unfold vcF at h
  split at h
  · rename_i c hb hn
    have hn' : args.length ≤ fn.ntmps := Nat.le_of_ble_eq_true hn
    refine calls_of_wp hf hb ?_
    have hrep : Rep fn.ntmps [] ⟨num 0 args, fun _ => undef⟩ { tmps := (⟨args⟩ : Array Value) ++ Array.replicate (fn.ntmps - (⟨args⟩ : Array Value).size) undef, defers := [] } := by
      refine ⟨by simp; omega, fun i => ?_, rfl⟩
      rw [lk_num]
      simp only [Nat.zero_le, Nat.sub_zero, true_and, Array.getD_eq_getD_getElem?]
      by_cases hi : i < args.length
      · rw [dif_pos hi, Array.getElem?_append_left (by simpa using hi)]
        simp [hi]
      · rw [dif_neg hi, Array.getElem?_append_right (by simpa using hi)]
        rw [Array.getElem?_replicate]
        split <;> rfl
    refine wp_mono (vcC_sound hC hm c an _ _ _ w hrep h) fun e a' w' he => ?_
    cases e
    case normal =>
      obtain ⟨fr, hr, hk, _⟩ := he
      obtain ⟨v, hR, hrun⟩ := resK_out hr.get hk
      exact ⟨hr.defers, v, hrun, .inl ⟨v, rfl, hR⟩⟩
    case ret =>
      obtain ⟨fr, hr, hk, _⟩ := he
      obtain ⟨v, hR, hrun⟩ := resK_out hr.get hk
      exact ⟨hr.defers, v, hrun, .inl ⟨v, rfl, hR⟩⟩
    case panic ch => exact ⟨he.2, .inr ⟨ch, rfl, he.1⟩⟩
    case outgrown => exact he.elim
    all_goals obtain ⟨_, _, h, _⟩ := he; exact h.elim
  · exact h.elim

/-- The same, of a function that does not panic. -/
theorem returns_of_vc {f : FuncId} {fn : Func} {args : List Value} {an : Ann} {R : Post} {w : World} (hf : P.funcs[f]? = some fn) (hC : callsOk P C = true) (hm : P.follows .mixedOrders = true)
    (h : vcF P C N fn an args R none w) : Calls P f ⟨args⟩ w fun e w' => ∃ v, e = .returned v ∧ R v w' :=
  (calls_of_vc hf hC hm h).mono fun e w' he => by
    rcases he with he | ⟨_, _, he⟩
    · exact he
    · exact he.elim
end
end Go.Proofs.Ytlgffdmmlnoiaaa.V
