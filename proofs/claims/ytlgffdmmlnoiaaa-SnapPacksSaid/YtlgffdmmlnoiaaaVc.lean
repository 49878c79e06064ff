/-
  A verification condition for the functions of a translated program, computed from the code, and its soundness: 'vcF .. → Calls ..'. No program is named here.
-/
import Derived.WalkKit
import Derived.OrdersHeld
import Derived.Deep.Draws
import Derived.Scope
namespace Go.Proofs.Ytlgffdmmlnoiaaa.V
open Go Go.RowKit

/-! ### 1. Shapes of values -/
inductive Sh where
  | int (k : IntKind) | bool | str | ptr | slice | map | val

def Sh.ex : Sh → (Value → Prop) → Prop
  | .int k, F => ∃ x : Int, F (.int k x)
  | .bool, F => ∃ b : Bool, F (.bool b)
  | .str, F => ∃ s : ByteArray, F (.string s)
  | .ptr, F => ∃ a : Option Addr, F (.pointer a)
  | .slice, F => ∃ (a : Option Addr) (n c : Nat), F (.slice a n c)
  | .map, F => ∃ r : Option Nat, F (.map r)
  | .val, F => ∃ v : Value, F v

theorem Sh.ex_out {s : Sh} {F : Value → Prop} (h : s.ex F) : ∃ v, F v := by
  cases s <;> simp only [Sh.ex] at h
  case int => obtain ⟨x, h⟩ := h; exact ⟨_, h⟩
  case bool => obtain ⟨x, h⟩ := h; exact ⟨_, h⟩
  case str => obtain ⟨x, h⟩ := h; exact ⟨_, h⟩
  case ptr => obtain ⟨x, h⟩ := h; exact ⟨_, h⟩
  case slice => obtain ⟨x, y, z, h⟩ := h; exact ⟨_, h⟩
  case map => obtain ⟨x, h⟩ := h; exact ⟨_, h⟩
  case val => exact h

def exs : List Sh → (List Value → Prop) → Prop
  | [], F => F []
  | s :: r, F => s.ex fun v => exs r fun vs => F (v :: vs)

theorem exs_out : ∀ {l : List Sh} {F : List Value → Prop}, exs l F → ∃ vs, F vs
  | [], _, h => ⟨[], h⟩
  | _ :: _, _, h => by
    obtain ⟨v, h⟩ := Sh.ex_out h
    obtain ⟨vs, h⟩ := exs_out h
    exact ⟨_, h⟩

inductive Sh2 where
  | one (s : Sh) | agg (l : List Sh) | row (n : Nat)

def Sh2.ex : Sh2 → (Value → Prop) → Prop
  | .one s, F => s.ex F
  | .agg l, F => exs l fun vs => F (.agg ⟨vs⟩)
  | .row _, F => ∃ cs : Array Value, F (.agg cs)

theorem Sh2.ex_out {s : Sh2} {F : Value → Prop} (h : s.ex F) : ∃ v, F v := by
  cases s with
  | one s => exact Sh.ex_out h
  | agg l => obtain ⟨vs, h⟩ := exs_out h; exact ⟨_, h⟩
  | row n => obtain ⟨cs, h⟩ := h; exact ⟨_, h⟩

def exs2 : List Sh2 → (List Value → Prop) → Prop
  | [], F => F []
  | s :: r, F => s.ex fun v => exs2 r fun vs => F (v :: vs)

theorem exs2_out : ∀ {l : List Sh2} {F : List Value → Prop}, exs2 l F → ∃ vs, F vs
  | [], _, h => ⟨[], h⟩
  | _ :: _, _, h => by
    obtain ⟨v, h⟩ := Sh2.ex_out h
    obtain ⟨vs, h⟩ := exs2_out h
    exact ⟨_, h⟩

def shOf : Value → Sh
  | .int k _ => .int k
  | .bool _ => .bool
  | .string _ => .str
  | .pointer _ => .ptr
  | .slice .. => .slice
  | .map _ => .map
  | _ => .val

def sh2Of : Value → Sh2
  | .agg cs => match Nat.ble cs.size 24 with
    | true => .agg (cs.toList.map shOf)
    | false => .row cs.size
  | v => .one (shOf v)

/-- 'There is a value of this type': its variables bound by '∃'. -/
def exT (P : Program) (t : TypeId) (F : Value → Prop) : Prop :=
  match (P.info? t).bind (·.zero) with
  | some (.tuple vs) => exs2 (vs.toList.map sh2Of) fun us => F (.tuple ⟨us⟩)
  | some z => (sh2Of z).ex F
  | none => ∃ v, F v

theorem exT_out {P : Program} {t : TypeId} {F : Value → Prop} (h : exT P t F) : ∃ v, F v := by
  unfold exT at h
  split at h
  · obtain ⟨vs, h⟩ := exs2_out h; exact ⟨_, h⟩
  · exact Sh2.ex_out h
  · exact h

/-! ### 2. Frames -/
structure Fr where
  e : List (Nat × Value)
  g : Nat → Value

def lk (g : Nat → Value) (i : Nat) : List (Nat × Value) → Value
  | [] => g i
  | (d, v) :: r => match Nat.beq i d with
    | true => v
    | false => lk g i r

def ev (fr : Fr) : Operand → Value
  | .tmp t => lk fr.g t fr.e
  | .const v => v
  | .global g => .pointer (some ⟨g, 0, none⟩)
  | .func f => .func (.func f) #[] #[]

structure Rep (n : Nat) (ds : List Deferred) (fr : Fr) (a : Act) : Prop where
  size : a.tmps.size = n
  get : ∀ i, a.tmps.getD i undef = lk fr.g i fr.e
  defers : a.defers = ds

theorem Rep.eval {n : Nat} {ds : List Deferred} {fr : Fr} {a : Act} (h : Rep n ds fr a) : a.eval = ev fr := by
  funext x
  cases x <;> simp [Act.eval, ev, h.get]

/-- A value under a new name. -/
def nameK (v : Value) (F : Value → Prop) : Prop :=
  match v with
  | .int k x => ∀ z : Int, z = x → F (.int k z)
  | .bool x => ∀ z : Bool, z = x → F (.bool z)
  | v => F v

theorem nameK_out {v : Value} {F : Value → Prop} (h : nameK v F) : F v := by
  cases v <;> first | exact h | exact h _ rfl

/-- What is asked of 'd', and the frame behind it. 'N': the slots whose values get new names. -/
def putK (n : Nat) (N : List Nat) (fr : Fr) (dst : Option Tmp) (v : Value) (F : Fr → Prop) : Prop :=
  match dst with
  | none => F fr
  | some d => match Nat.blt d n with
    | true => (match N.elem d with
      | true => nameK v fun v => F ⟨(d, v) :: fr.e, fr.g⟩
      | false => F ⟨(d, v) :: fr.e, fr.g⟩)
    | false => False

def Agr (ws : List Nat) (a b : Act) : Prop := ∀ i, i ∉ ws → b.tmps.getD i undef = a.tmps.getD i undef

theorem Agr.refl (ws : List Nat) (a : Act) : Agr ws a a := fun _ _ => rfl
theorem Agr.trans {ws : List Nat} {a b c : Act} (h : Agr ws a b) (k : Agr ws b c) : Agr ws a c := fun i hi => (k i hi).trans (h i hi)
theorem Agr.mono {ws ws' : List Nat} {a b : Act} (h : Agr ws a b) (hs : ∀ i, i ∈ ws → i ∈ ws') : Agr ws' a b := fun i hi => h i (fun h' => hi (hs i h'))

theorem getD_put_ne (a : Act) (d : Nat) (v : Value) (i : Nat) (h : i ≠ d) : (a.put (some d) v).tmps.getD i undef = a.tmps.getD i undef := by
  simp only [Act.put, Array.getD_eq_getD_getElem?, Array.getElem?_setIfInBounds]
  rw [if_neg (by omega)]

theorem getD_put_eq (a : Act) (d : Nat) (v : Value) (h : d < a.tmps.size) : (a.put (some d) v).tmps.getD d undef = v := by
  simp only [Act.put, Array.getD_eq_getD_getElem?, Array.getElem?_setIfInBounds]
  simp [h]

theorem putK_rep {n : Nat} {N : List Nat} {ds : List Deferred} {fr : Fr} {a : Act} {dst : Option Tmp} {v : Value} {F : Fr → Prop} (hr : Rep n ds fr a) (h : putK n N fr dst v F) :
    ∃ fr', Rep n ds fr' (a.put dst v) ∧ F fr' := by
  unfold putK at h
  cases dst with
  | none => exact ⟨fr, hr, h⟩
  | some d =>
    simp only at h
    split at h
    · rename_i hb
      have hd : d < n := by simpa [Nat.blt_eq] using hb
      have h : F ⟨(d, v) :: fr.e, fr.g⟩ := by
        split at h
        · exact nameK_out h
        · exact h
      refine ⟨_, ⟨by simp [Act.put, hr.size], fun i => ?_, by simp [Act.put, hr.defers]⟩, h⟩
      simp only [lk]
      split
      · rename_i hi
        obtain rfl : i = d := Nat.eq_of_beq_eq_true hi
        exact getD_put_eq a i v (by rw [hr.size]; exact hd)
      · rename_i hi
        have hne : i ≠ d := by rintro rfl; simp at hi
        rw [getD_put_ne a d v i hne, hr.get]
    · exact h.elim

theorem Agr.put {ws : List Nat} (a : Act) (dst : Option Tmp) (v : Value) (h : ∀ d, dst = some d → d ∈ ws) : Agr ws a (a.put dst v) := by
  intro i hi
  cases dst with
  | none => rfl
  | some d => exact getD_put_ne a d v i (fun e => hi (e ▸ h d rfl))

/-! ### 3. Two words of the conditions -/
def split (b : Bool) (x y : Prop) : Prop :=
  match b with
  | true => x
  | false => y

theorem split_mk {b : Bool} {x y : Prop} (h1 : b = true → x) (h0 : b = false → y) : split b x y := by
  cases b
  · exact h0 rfl
  · exact h1 rfl

theorem split_out {b : Bool} {x y : Prop} (h : split b x y) : (b = true ∧ x) ∨ (b = false ∧ y) := by
  cases b
  · exact .inr ⟨rfl, h⟩
  · exact .inl ⟨rfl, h⟩

def onSome {α : Type} (a : Option α) (F : α → Prop) : Prop :=
  match a with
  | some p => F p
  | none => False

theorem onSome_mk {α : Type} {a : Option α} {F : α → Prop} (p : α) (h : a = some p) (hp : F p) : onSome a F := by
  subst h
  exact hp

theorem onSome_out {α : Type} {a : Option α} {F : α → Prop} (h : onSome a F) : ∃ p, a = some p ∧ F p := by
  cases a with
  | none => exact h.elim
  | some p => exact ⟨p, rfl, h⟩

/-! ### 4. One operation -/
abbrev Post := Value → World → Prop

def cellsAt (w : World) (p : Addr) : Nat → List Value → Prop
  | _, [] => True
  | i, [v] => w.cell? (p.add i) = some v
  | i, v :: r => w.cell? (p.add i) = some v ∧ cellsAt w p (i + 1) r

theorem cellsAt_cons {w : World} {p : Addr} {i : Nat} {v : Value} {r : List Value} (h : cellsAt w p i (v :: r)) : w.cell? (p.add i) = some v ∧ cellsAt w p (i + 1) r := by
  cases r with
  | nil => exact ⟨h, trivial⟩
  | cons u r => exact h

/-- What a load of this value finds. -/
def loadsAt (w : World) (p : Addr) : Sh2 → Value → Prop
  | .one _, v => w.cell? p = some v
  | .agg l, .agg cs => match Nat.beq cs.toList.length l.length with
    | true => cellsAt w p 0 cs.toList
    | false => False
  | .row n, .agg cs => cs.size = n ∧ ∀ i u, cs[i]? = some u → w.cell? (p.add i) = some u
  | _, _ => False

def typeSh (P : Program) (t : TypeId) : Sh2 :=
  match (P.info? t).bind (·.zero) with
  | some z => sh2Of z
  | none => .one .val

def aggIs (P : Program) (t : TypeId) (b : Bool) : Bool :=
  match P.underlying t with
  | some (.struct _) => b
  | some (.array _ _) => b
  | some _ => !b
  | none => false

theorem aggIs_out {P : Program} {t : TypeId} {b : Bool} (h : aggIs P t b = true) (w : World) : (isAgg t).run P w = .ok b w := by
  unfold aggIs at h
  cases hu : P.underlying t with
  | none => simp [hu] at h
  | some d => cases d <;> simp_all [isAgg, run_underlying hu]

def shAgg : Sh2 → Bool
  | .one _ => false
  | _ => true

def shSize : Sh2 → Nat
  | .one _ => 1
  | .agg l => l.length
  | .row n => n

/-- The run of an operation, as an equation: for what has no form of its own. -/
def runs (P : Program) (t : TypeId) (s : Sem Value) (w : World) (K : Post) : Prop :=
  exT P t fun v => ∃ w', s.run P w = .ok v w' ∧ K v w'

def one? : Value → Prop → Prop
  | .agg _, _ => False
  | .tuple _, _ => False
  | _, p => p

/-- The stores of a value's cells, one behind the other. -/
def storesAt (p : Addr) : Nat → List Value → World → (World → Prop) → Prop
  | _, [], w, K => K w
  | i, v :: r, w, K => one? v ((∃ u, w.cell? (p.add i) = some u) ∧ w.frozen? (p.add i) = false ∧ storesAt p (i + 1) r (w.setCell (p.add i) v) K)

/-- 'y is not 0, and p'. -/
def nz (y : Int) (p : Prop) : Prop :=
  match y with
  | .ofNat 0 => False
  | .ofNat (_ + 1) => p
  | .negSucc _ => p

theorem nz_mk {y : Int} {p : Prop} (hy : y ≠ 0) (hp : p) : nz y p := by
  cases y with
  | ofNat n => cases n with
    | zero => exact absurd rfl hy
    | succ n => exact hp
  | negSucc n => exact hp

theorem nz_out {y : Int} {p : Prop} (h : nz y p) : y ≠ 0 ∧ p := by
  cases y with
  | ofNat n => cases n with
    | zero => exact h.elim
    | succ n => exact ⟨by simp; omega, h⟩
  | negSucc n => exact ⟨by simp, h⟩

/-- 'y is not negative, and F of it'. -/
def shiftBy (y : Int) (F : Nat → Prop) : Prop :=
  match y with
  | .ofNat n => F n
  | .negSucc _ => False

theorem shiftBy_mk {y : Int} {F : Nat → Prop} (hy : 0 ≤ y) (hF : F y.toNat) : shiftBy y F := by
  cases y with
  | ofNat n => exact hF
  | negSucc n => omega

theorem shiftBy_out {y : Int} {F : Nat → Prop} (h : shiftBy y F) : ¬ y < 0 ∧ F y.toNat := by
  cases y with
  | ofNat n => exact ⟨by simp, h⟩
  | negSucc n => exact h.elim

def intOp (op : BinOp) (k : IntKind) (x y : Int) (F : Value → Prop) : Prop :=
  match op with
  | .add => F (.int k (k.wrap (x + y)))
  | .sub => F (.int k (k.wrap (x - y)))
  | .mul => F (.int k (k.wrap (x * y)))
  | .quo => nz y (F (.int k (k.wrap (x.tdiv y))))
  | .rem => nz y (F (.int k (x.tmod y)))
  | .and => F (.int k (k.wrap (BitVec.ofInt k.bits x &&& BitVec.ofInt k.bits y).toNat))
  | .or => F (.int k (k.wrap (BitVec.ofInt k.bits x ||| BitVec.ofInt k.bits y).toNat))
  | .xor => F (.int k (k.wrap (BitVec.ofInt k.bits x ^^^ BitVec.ofInt k.bits y).toNat))
  | .andNot => F (.int k (k.wrap (BitVec.ofInt k.bits x &&& ~~~(BitVec.ofInt k.bits y)).toNat))
  | .eql => F (.bool (x == y))
  | .neq => F (.bool (x != y))
  | .lss => F (.bool (decide (x < y)))
  | .leq => F (.bool (decide (x ≤ y)))
  | .gtr => F (.bool (decide (x > y)))
  | .geq => F (.bool (decide (x ≥ y)))
  | _ => False

def kEq : IntKind → IntKind → Bool
  | .i8, .i8 | .i16, .i16 | .i32, .i32 | .i64, .i64 | .u8, .u8 | .u16, .u16 | .u32, .u32 | .u64, .u64 => true
  | _, _ => false

theorem kEq_out {a b : IntKind} (h : kEq a b = true) : a = b := by
  cases a <;> cases b <;> simp_all [kEq]

def shiftOp (op : BinOp) (k : IntKind) (x y : Int) (F : Value → Prop) : Prop :=
  match op with
  | .shl => shiftBy y fun n => F (.int k (k.wrap (x * 2 ^ (min n k.bits))))
  | .shr => shiftBy y fun n => F (.int k (x.fdiv (2 ^ (min n k.bits))))
  | _ => False

def isShift : BinOp → Bool
  | .shl | .shr => true
  | _ => false

def strOp (op : BinOp) (x y : ByteArray) (F : Value → Prop) : Prop :=
  match op with
  | .add => x.size + y.size ≤ 9223372036854775807 ∧ F (.string (x ++ y))
  | .eql => F (.bool (x.toList == y.toList))
  | .neq => F (.bool (!(x.toList == y.toList)))
  | .lss => F (.bool (Op.bytesLess x.toList y.toList))
  | .leq => F (.bool (Op.bytesLess x.toList y.toList || x.toList == y.toList))
  | .gtr => F (.bool (!(Op.bytesLess x.toList y.toList || x.toList == y.toList)))
  | .geq => F (.bool (!(Op.bytesLess x.toList y.toList)))
  | _ => False

def eqB (op : BinOp) (b : Bool) (F : Value → Prop) : Prop :=
  match op with
  | .eql => F (.bool b)
  | .neq => F (.bool (!b))
  | _ => False

def binM (P : Program) (op : BinOp) (t : TypeId) (Y : Operand) (x y : Value) (F : Value → Prop) (els : Prop) : Prop :=
  match x, y with
  | .int k a, .int k' b => match isShift op with
    | true => shiftOp op k a b F
    | false => match kEq k k' with
      | true => intOp op k a b F
      | false => False
  | .string a, .string b => strOp op a b F
  | .bool a, .bool b => match P.underlying t with
    | some .bool => eqB op (a == b) F
    | _ => els
  | .pointer a, _ => match P.underlying t, Y with
    | some (.pointer _), .const (.pointer none) => eqB op a.isNone F
    | _, _ => els
  | .slice a _ _, _ => match P.underlying t, Y with
    | some (.slice _), .const (.slice none _ _) => eqB op a.isNone F
    | _, _ => els
  | .map a, _ => match P.underlying t, Y with
    | some (.map _ _), .const (.map none) => eqB op a.isNone F
    | _, _ => els
  | _, _ => els

def unM (op : UnOp) (x : Value) (F : Value → Prop) : Prop :=
  match op, x with
  | .not, .bool b => F (.bool (!b))
  | .neg, .int k n => F (.int k (k.wrap (0 - n)))
  | .xor, .int k n => F (.int k (k.wrap (BitVec.ofInt k.bits (if k.signed then -1 else k.max) ^^^ BitVec.ofInt k.bits n).toNat))
  | _, _ => False

/-- A slice's or a string's bounds. -/
def bndHi (hi : Option Value) (len cap : Nat) (F : Nat → Prop) : Prop :=
  match hi with
  | none => F len
  | some (.int _ h) => (0 ≤ h ∧ h ≤ cap) ∧ F h.toNat
  | _ => False
def bndLo (lo : Option Value) (h : Nat) (F : Nat → Prop) : Prop :=
  match lo with
  | none => F 0
  | some (.int _ l) => (0 ≤ l ∧ l ≤ h) ∧ F l.toNat
  | _ => False
def bndMax (mx : Option Value) (cap : Nat) (F : Nat → Prop) : Prop :=
  match mx with
  | none => F cap
  | some (.int _ m) => (0 ≤ m ∧ m ≤ cap) ∧ F m.toNat
  | _ => False

def sizeM (P : Program) (t : TypeId) : Nat :=
  match P.info? t with
  | some i => i.size
  | none => 0
def hasType (P : Program) (t : TypeId) : Bool :=
  match P.info? t with
  | some _ => true
  | none => false

def sliceM (P : Program) (t : TypeId) (x : Value) (lo hi mx : Option Value) (F : Value → Prop) (els : Prop) : Prop :=
  match P.underlying t, x with
  | some (.slice e), .slice a len cap => match hasType P e && (mx.isNone || hi.isSome) with
    | true => bndMax mx cap fun m => bndHi hi len m fun h => bndLo lo h fun l =>
        ∀ a', a' = (if m = l then a else a.map (·.add (l * sizeM P e))) → ∀ n', n' = h - l → ∀ c', c' = m - l → F (.slice a' n' c')
    | false => False
  | some .string, .string s => match mx with
    | none => bndHi hi s.size s.size fun h => bndLo lo h fun l => F (.string (s.extract l h))
    | some _ => False
  | some (.array n e), .pointer a => match hasType P e && (mx.isNone || hi.isSome) with
    | true => onSome a fun p => bndMax mx n fun m => bndHi hi n m fun h => bndLo lo h fun l =>
        ∀ a', a' = some (if m = l then p else p.add (l * sizeM P e)) → ∀ n', n' = h - l → ∀ c', c' = m - l → F (.slice a' n' c')
    | false => False
  | _, _ => els

def idxM (P : Program) (t : TypeId) (x i : Value) (F : Value → Prop) : Prop :=
  match P.underlying t, x, i with
  | some (.slice e), .slice a n _, .int _ i => match hasType P e with
    | true => (0 ≤ i ∧ i < n) ∧ onSome a fun p => F (.pointer (some (p.add (i.toNat * sizeM P e))))
    | false => False
  | some (.array n e), .pointer a, .int _ i => match hasType P e with
    | true => (0 ≤ i ∧ i < n) ∧ onSome a fun p => F (.pointer (some (p.add (i.toNat * sizeM P e))))
    | false => False
  | _, _, _ => False

def fieldM (P : Program) (s : TypeId) (x : Value) (f : Nat) (F : Value → Prop) : Prop :=
  match P.underlying s with
  | some (.struct fields) => match fields[f]? with
    | some fd => match P.info? fd.type with
      | some i => match Nat.beq i.size 0 with
        | false => match x with
          | .pointer a => onSome a fun p => F (.pointer (some (p.add fd.offset)))
          | _ => False
        | true => False
      | none => False
    | none => False
  | _ => False

def convM (P : Program) (src dst : TypeId) (x : Value) (F : Value → Prop) (els : Prop) : Prop :=
  match P.underlying src, P.underlying dst, x with
  | some _, some (.int k), .int _ n => F (.int k (k.wrap n))
  | some _, some .string, .string s => F (.string s)
  | _, _, _ => els

/-- Where a panic may go. -/
def QpP : Option (List PanicEntry → World → Prop) → List PanicEntry → World → Prop
  | none, _, _ => False
  | some q, ch, w => q ch w

/-- A function of the program that a call enters. -/
def callable (P : Program) (f : FuncId) : Bool :=
  match P.funcs[f]? with
  | some fn => fn.body.isSome && !(fn.name == "runtime.NumGoroutine")
  | none => false

def callM (P : Program) (C : List Nat) (f : FuncId) (args : Array Value) (t : TypeId) (w : World) (K : Post) (Qp : Option (List PanicEntry → World → Prop)) : Prop :=
  match C.elem f with
  | true => (match Qp with
    | none => Calls P f args w fun e w' => exT P t fun v => e = .returned v ∧ K v w'
    | some q => Calls P f args w fun e w' => (exT P t fun v => e = .returned v ∧ K v w') ∨ ∃ ch, e = .panicked ch ∧ q ch w')
  | false => False

def lenM (v : Value) (F : Value → Prop) (els : Prop) : Prop :=
  match v with
  | .slice _ n _ => F (.int .i64 n)
  | .string s => F (.int .i64 s.size)
  | _ => els

/-- The value of what looks at no world. -/
def pureRun (P : Program) {α : Type} : Sem α → Option α
  | .pure a => some a
  | .program k => pureRun P (k P)
  | .mark _ k => pureRun P k
  | _ => none

theorem pureRun_run {P : Program} {α : Type} {s : Sem α} {v : α} (h : pureRun P s = some v) (w : World) : s.run P w = .ok v w := by
  induction s with
  | pure a => simp only [pureRun, Option.some.injEq] at h; subst h; rfl
  | program k ih => exact ih _ h
  | mark m k ih => exact ih h
  | _ => simp [pureRun] at h

def asVal (F : Value → Prop) (els : Prop) : Option Next → Prop
  | some (.value v) => F v
  | _ => els

def indexM (P : Program) (t : TypeId) (x i : Value) (F : Value → Prop) : Prop :=
  match P.underlying t, x, i with
  | some .string, .string s, .int _ i => onSome (if 0 ≤ i then s[i.toNat]? else none) fun b => F (.int .u8 b.toNat)
  | some (.array n e), .agg cs, .int _ i => match aggIs P e false, hasType P e with
    | true, true => (0 ≤ i ∧ i < n) ∧ (typeSh P e).ex fun v => cs[i.toNat * sizeM P e]? = some v ∧ F v
    | _, _ => False
  | _, _, _ => False

/-- In a region whose order is drawn and that writes: what is read lies below block b. -/
def prot (B : Option Nat) (p : Addr) (F : Prop) : Prop :=
  match B with
  | none => F
  | some b => p.block < b ∧ F

/-- The operations that leave the world as it is, and look at it at most by a load: what they yield. 'els': for whatever has no form here. -/
def pureM (P : Program) (B : Option Nat) (o : Oper) (ρ : Operand → Value) (w : World) (F : Value → Prop) (els : Prop) : Prop :=
  match o.op with
  | .move x => F (ρ x)
  | .assign x => F (ρ x)
  | .pick c a b => match ρ c with
    | .bool t => split t (F (ρ a)) (F (ρ b))
    | _ => False
  | .load t x => match ρ x with
    | .pointer a => match typeSh P t, aggIs P t (shAgg (typeSh P t)) && hasType P t && Nat.beq (shSize (typeSh P t)) (sizeM P t) with
      | s, true => onSome a fun p => prot B p (s.ex fun v => loadsAt w p s v ∧ F v)
      | _, false => False
    | _ => False
  | .nilCheck x => match ρ x with
    | .pointer a => onSome a fun p => F (.pointer (some p))
    | _ => els
  | .fieldAddr s x f => fieldM P s (ρ x) f F
  | .indexAddr t x i => idxM P t (ρ x) (ρ i) F
  | .index t x i => indexM P t (ρ x) (ρ i) F
  | .binOp op t x y _ => binM P op t y (ρ x) (ρ y) F els
  | .unOp op _ x => unM op (ρ x) F
  | .convert src dst x => convM P src dst (ρ x) F els
  | .slice t x lo hi mx => sliceM P t (ρ x) (lo.map ρ) (hi.map ρ) (mx.map ρ) F els
  | .build .. => asVal F els (pureRun P (execOp ρ o))
  | .field .. => asVal F els (pureRun P (execOp ρ o))
  | .extract .. => asVal F els (pureRun P (execOp ρ o))
  | .makeInterface .. => asVal F els (pureRun P (execOp ρ o))
  | .makeFunc .. => asVal F els (pureRun P (execOp ρ o))
  | .call c => match c.callee, c.args.toList, c.argTypes.toList with
    | .builtin .len, [x], [t] => match P.underlying t with
      | some (.slice _) => (match ρ x with
        | .slice _ n _ => F (.int .i64 n)
        | _ => els)
      | some .string => (match ρ x with
        | .string s => F (.int .i64 s.size)
        | _ => els)
      | _ => els
    | .builtin .min, [x, y], _ => match ρ x, ρ y with
      | .int k a, .int _ b => F (.int k (if b < a then b else a))
      | _, _ => els
    | .builtin .max, [x, y], _ => match ρ x, ρ y with
      | .int k a, .int _ b => F (.int k (if b > a then b else a))
      | _, _ => els
    | _, _, _ => els
  | _ => els

def runM (P : Program) (s : Sem Next) (w : World) (K : Post) : Prop :=
  match s.run P w with
  | .ok (.value v) w' => K v w'
  | _ => False

/-- The run of what has no form of its own. -/
def valS (o : Oper) (ρ : Operand → Value) : Option (Sem Value) :=
  match o.op with
  | .binOp op t x y _ => some (do eqGuard op t x y (ρ x) (ρ y); binOp op t (ρ x) (ρ y))
  | .convert src dst x => some (convert src dst (ρ x))
  | .sliceToArrayPointer arr x => some (Instr.arrayAt arr (ρ x))
  | .makeMap t r => some (Instr.makeMap t (r.map ρ))
  | .makeSlice t l c => some (Instr.makeSlice t (ρ l) (ρ c))
  | .lookup t x ix ok => some (Instr.lookup t (ρ x) (ρ ix) ok)
  | .typeAssert x a b ok => some (Instr.typeAssert (ρ x) a b ok)
  | .range t x => some (Instr.range t (ρ x))
  | .next it s => some (Instr.next (ρ it) s o.type)
  | .call c => match c.callee with
    | .builtin .append => some (Builtin.append_ c.argTypes o.type (c.args.map ρ))
    | .builtin .copy => some (Builtin.copy_ c.argTypes o.type (c.args.map ρ))
    | .builtin .cap => some (Builtin.cap_ c.argTypes o.type (c.args.map ρ))
    | .builtin .clear => some (Builtin.clear_ c.argTypes o.type (c.args.map ρ))
    | .builtin .delete => some (Builtin.delete_ c.argTypes o.type (c.args.map ρ))
    | .builtin .len => some (Builtin.len_ c.argTypes o.type (c.args.map ρ))
    | .builtin .min => some (Builtin.min_ c.argTypes o.type (c.args.map ρ))
    | .builtin .max => some (Builtin.max_ c.argTypes o.type (c.args.map ρ))
    | _ => none
  | _ => none

def restM (P : Program) (o : Oper) (ρ : Operand → Value) (w : World) (K : Post) : Prop :=
  match valS o ρ with
  | some s => exT P o.type fun v => ∃ w', s.run P w = .ok v w' ∧ K v w'
  | none => exT P o.type fun v => ∃ w', (execOp ρ o).run P w = .ok (.value v) w' ∧ K v w'

/-- Every operation. -/
def opM (P : Program) (C : List Nat) (o : Oper) (ρ : Operand → Value) (w : World) (K : Post) (Qp : Option (List PanicEntry → World → Prop)) : Prop :=
  pureM P none o ρ w (fun v => K v w) <|
  match o.op with
  | .store t x y => match ρ x with
    | .pointer a => match Nat.beq (ρ y).cells.toList.length (sizeM P t) && hasType P t with
      | true => onSome a fun p => storesAt p 0 (ρ y).cells.toList w fun w' => K undef w'
      | false => False
    | _ => False
  | .alloc _ => runM P (execOp ρ o) w K
  | .box .. => runM P (execOp ρ o) w K
  | .buildSlice .. => runM P (execOp ρ o) w K
  | .call c => match c.callee with
    | .builtin _ => restM P o ρ w K
    | .value f => match ρ f with
      | .func (.func f) first cap => callM P C f (first ++ c.args.map ρ ++ cap) o.type w K Qp
      | _ => False
    | _ => False
  | .mapUpdate .. => ∃ w', (execOp ρ o).run P w = .ok .skip w' ∧ K undef w'
  | .insert .. => ∃ w', (execOp ρ o).run P w = .ok .skip w' ∧ K undef w'
  | .go _ => False
  | .defer _ => False
  | _ => restM P o ρ w K

/-- What an operation's run may come to. -/
def Out (P : Program) (K : Post) (Qp : List PanicEntry → World → Prop) : Result Next → Prop
  | .ok (.value v) w' => K v w'
  | .ok .skip w' => K undef w'
  | .ok (.enter f args) w' => Calls P f args w' fun e w'' => (∃ v, e = .returned v ∧ K v w'') ∨ ∃ ch, e = .panicked ch ∧ Qp ch w''
  | .halt (.panic v) w' => Qp [{ v, recovered := false }] w'
  | _ => False

section
variable {P : Program} {o : Oper} {ρ : Operand → Value} {w : World} {F : Value → Prop} {els : Prop}

theorem hasType_out {t : TypeId} (h : hasType P t = true) : ∃ i, P.info? t = some i ∧ sizeM P t = i.size := by
  unfold hasType at h
  unfold sizeM
  cases hi : P.info? t with
  | none => simp [hi] at h
  | some i => exact ⟨i, rfl, rfl⟩

theorem intOp_out {op : BinOp} {k : IntKind} {x y : Int} (hs : isShift op = false) (h : intOp op k x y F) (t : TypeId) : ∃ v, F v ∧ ∀ w, (binOp op t (.int k x) (.int k y)).run P w = .ok v w := by
  cases op <;> simp only [intOp, isShift] at h hs
  case quo => obtain ⟨h0, h⟩ := nz_out h; exact ⟨_, h, fun w => by simp [binOp, Op.intDiv, h0]⟩
  case rem => obtain ⟨h0, h⟩ := nz_out h; exact ⟨_, h, fun w => by simp [binOp, Op.intDiv, h0]⟩
  all_goals exact ⟨_, h, fun w => by simp only [binOp, ne_eq, not_true_eq_false, if_false]; rfl⟩

theorem shiftOp_out {op : BinOp} {k k' : IntKind} {x y : Int} (h : shiftOp op k x y F) (t : TypeId) : ∃ v, F v ∧ ∀ w, (binOp op t (.int k x) (.int k' y)).run P w = .ok v w := by
  cases op <;> simp only [shiftOp] at h
  case shl => obtain ⟨h0, h⟩ := shiftBy_out h; exact ⟨_, h, fun w => by simp [binOp, Op.shift, h0]⟩
  case shr => obtain ⟨h0, h⟩ := shiftBy_out h; exact ⟨_, h, fun w => by simp [binOp, Op.shift, h0]⟩

theorem strOp_out {op : BinOp} {x y : ByteArray} (h : strOp op x y F) (t : TypeId) : ∃ v, F v ∧ ∀ w, (binOp op t (.string x) (.string y)).run P w = .ok v w := by
  cases op <;> simp only [strOp] at h
  case add =>
    obtain ⟨h0, h⟩ := h
    refine ⟨_, h, fun w => ?_⟩
    have : ¬ (((x.size + y.size : Nat) : Int) > IntKind.i64.max) := by simp [IntKind.max, IntKind.bits, IntKind.signed]; omega
    simp only [binOp, Op.stringOp, this, if_false]
    rfl
  all_goals exact ⟨_, h, fun w => rfl⟩

theorem eqGuard_run (op : BinOp) (t : TypeId) (x y : Operand) (a b : Value) (w : World) (h : a ≠ .nilIface) (h' : ∀ u, a ≠ .agg u) :
    (eqGuard op t x y a b).run P w = .ok () w := by
  have key : ∀ f g : Sem Unit, (match a, b with
      | .nilIface, .nilIface => f
      | .agg _, .agg _ => g
      | _, _ => pure ()) = pure () := by
    intro f g
    split
    · exact absurd rfl h
    · exact absurd rfl (h' _)
    · rfl
  cases op <;> first | rfl | (unfold eqGuard; exact congrArg (fun s : Sem Unit => s.run P w) (key _ _))

theorem eqB_out {op : BinOp} {b : Bool} (h : eqB op b F) : ∃ v, F v ∧ ((op = .eql ∧ v = .bool b) ∨ (op = .neq ∧ v = .bool (!b))) := by
  cases op <;> simp only [eqB] at h
  · exact ⟨_, h, .inl ⟨rfl, rfl⟩⟩
  · exact ⟨_, h, .inr ⟨rfl, rfl⟩⟩

theorem run_equalIn_bool' (d : Nat) (t : TypeId) (a b : Bool) (h : P.underlying t = some .bool) (w : World) : (Op.equalIn (d + 1) t (.bool a) (.bool b)).run P w = .ok (a == b) w := by
  simp [Op.equalIn, run_underlying h]
theorem run_equal_bool' (t : TypeId) (a b : Bool) (h : P.underlying t = some .bool) (w : World) : (Op.equal t (.bool a) (.bool b)).run P w = .ok (a == b) w := run_equalIn_bool' 9999 t a b h w
theorem run_equalIn_ptr' (d : Nat) (t e : TypeId) (a : Option Addr) (h : P.underlying t = some (.pointer e)) (w : World) : (Op.equalIn (d + 1) t (.pointer a) (.pointer none)).run P w = .ok a.isNone w := by
  cases a <;> simp [Op.equalIn, run_underlying h]
theorem run_equal_ptr' (t e : TypeId) (a : Option Addr) (h : P.underlying t = some (.pointer e)) (w : World) : (Op.equal t (.pointer a) (.pointer none)).run P w = .ok a.isNone w := run_equalIn_ptr' 9999 t e a h w
theorem run_equalIn_slice' (d : Nat) (t e : TypeId) (a : Option Addr) (n c n' c' : Nat) (h : P.underlying t = some (.slice e)) (w : World) : (Op.equalIn (d + 1) t (.slice a n c) (.slice none n' c')).run P w = .ok a.isNone w := by
  cases a <;> simp [Op.equalIn, run_underlying h]
theorem run_equal_slice' (t e : TypeId) (a : Option Addr) (n c n' c' : Nat) (h : P.underlying t = some (.slice e)) (w : World) : (Op.equal t (.slice a n c) (.slice none n' c')).run P w = .ok a.isNone w := run_equalIn_slice' 9999 t e a n c n' c' h w
theorem run_equalIn_map' (d : Nat) (t k e : TypeId) (a : Option Nat) (h : P.underlying t = some (.map k e)) (w : World) : (Op.equalIn (d + 1) t (.map a) (.map none)).run P w = .ok a.isNone w := by
  cases a <;> simp [Op.equalIn, run_underlying h]
theorem run_equal_map' (t k e : TypeId) (a : Option Nat) (h : P.underlying t = some (.map k e)) (w : World) : (Op.equal t (.map a) (.map none)).run P w = .ok a.isNone w := run_equalIn_map' 9999 t k e a h w

theorem binM_out {op : BinOp} {t : TypeId} {X Y : Operand} {ρ : Operand → Value} (hc : ∀ v, ρ (.const v) = v) (h : binM P op t Y (ρ X) (ρ Y) F els) :
    (∃ v, F v ∧ ∀ w, (do eqGuard op t X Y (ρ X) (ρ Y); binOp op t (ρ X) (ρ Y) : Sem Value).run P w = .ok v w) ∨ els := by
  unfold binM at h
  split at h
  · rename_i k a k' b hx hy
    rw [hx, hy]
    split at h
    · obtain ⟨v, hv, hr⟩ := shiftOp_out h t
      exact .inl ⟨v, hv, fun w => by rw [Sem.run_bind, eqGuard_run _ _ _ _ _ _ _ (by simp) (by simp)]; exact hr w⟩
    · rename_i hs
      split at h
      · rename_i hk
        obtain rfl := kEq_out hk
        obtain ⟨v, hv, hr⟩ := intOp_out hs h t
        exact .inl ⟨v, hv, fun w => by rw [Sem.run_bind, eqGuard_run _ _ _ _ _ _ _ (by simp) (by simp)]; exact hr w⟩
      · exact h.elim
  · rename_i a b hx hy
    rw [hx, hy]
    obtain ⟨v, hv, hr⟩ := strOp_out h t
    exact .inl ⟨v, hv, fun w => by rw [Sem.run_bind, eqGuard_run _ _ _ _ _ _ _ (by simp) (by simp)]; exact hr w⟩
  · rename_i a b hx hy
    rw [hx, hy]
    split at h
    · rename_i ht
      obtain ⟨v, hv, ho⟩ := eqB_out h
      refine .inl ⟨v, hv, fun w => ?_⟩
      rw [Sem.run_bind, eqGuard_run _ _ _ _ _ _ _ (by simp) (by simp)]
      rcases ho with ⟨rfl, rfl⟩ | ⟨rfl, rfl⟩ <;> simp [binOp, run_equal_bool' t a b ht]
    · exact .inr h
  · rename_i a hx
    split at h
    · rename_i ht
      obtain ⟨v, hv, ho⟩ := eqB_out h
      refine .inl ⟨v, hv, fun w => ?_⟩
      rw [hx, hc, Sem.run_bind, eqGuard_run _ _ _ _ _ _ _ (by simp) (by simp)]
      rcases ho with ⟨rfl, rfl⟩ | ⟨rfl, rfl⟩ <;> simp [binOp, run_equal_ptr' t _ a ht]
    · exact .inr h
  · rename_i a n c hx
    split at h
    · rename_i ht
      obtain ⟨v, hv, ho⟩ := eqB_out h
      refine .inl ⟨v, hv, fun w => ?_⟩
      rw [hx, hc, Sem.run_bind, eqGuard_run _ _ _ _ _ _ _ (by simp) (by simp)]
      rcases ho with ⟨rfl, rfl⟩ | ⟨rfl, rfl⟩ <;> simp [binOp, run_equal_slice' t _ a _ _ _ _ ht]
    · exact .inr h
  · rename_i a hx
    split at h
    · rename_i ht
      obtain ⟨v, hv, ho⟩ := eqB_out h
      refine .inl ⟨v, hv, fun w => ?_⟩
      rw [hx, hc, Sem.run_bind, eqGuard_run _ _ _ _ _ _ _ (by simp) (by simp)]
      rcases ho with ⟨rfl, rfl⟩ | ⟨rfl, rfl⟩ <;> simp [binOp, run_equal_map' t _ _ a ht]
    · exact .inr h
  · exact .inr h

theorem pureRun_out {s : Sem Next} (h : asVal F els (pureRun P s)) : (∃ v, F v ∧ ∀ w, s.run P w = .ok (.value v) w) ∨ els := by
  unfold asVal at h
  split at h
  · rename_i v hv
    exact .inl ⟨v, h, fun w => pureRun_run hv w⟩
  · exact .inr h

theorem unM_out {op : UnOp} {x : Value} (h : unM op x F) : ∃ v, F v ∧ ∀ w, (Op.unary op x).run P w = .ok v w := by
  unfold unM at h
  split at h
  · exact ⟨_, h, fun w => rfl⟩
  · exact ⟨_, h, fun w => rfl⟩
  · exact ⟨_, h, fun w => rfl⟩
  · exact h.elim

theorem idxM_out {t : TypeId} {x i : Value} (h : idxM P t x i F) : ∃ v, F v ∧ ∀ w, (Instr.indexAt t x i).run P w = .ok v w := by
  unfold idxM at h
  split at h
  · rename_i e a n c k j ht
    split at h
    · rename_i he
      obtain ⟨ti, hi, hs⟩ := hasType_out he
      obtain ⟨hb, h⟩ := h
      obtain ⟨p, rfl, h⟩ := onSome_out h
      refine ⟨_, h, fun w => ?_⟩
      simp [Instr.indexAt, asIntOf, run_underlying ht, hb, sizeOf, typeInfo, hi, hs]
    · exact h.elim
  · rename_i n e a k j ht
    split at h
    · rename_i he
      obtain ⟨ti, hi, hs⟩ := hasType_out he
      obtain ⟨hb, h⟩ := h
      obtain ⟨p, rfl, h⟩ := onSome_out h
      refine ⟨_, h, fun w => ?_⟩
      simp [Instr.indexAt, asIntOf, run_underlying ht, hb, sizeOf, typeInfo, hi, hs, Instr.sureAddr]
    · exact h.elim
  · exact h.elim

theorem fieldM_out {s : TypeId} {x : Value} {f : Nat} (h : fieldM P s x f F) : ∃ v, F v ∧ ∀ w, (Instr.fieldAt s x f).run P w = .ok v w := by
  unfold fieldM at h
  split at h
  · rename_i fields hs
    split at h
    · rename_i fd hf
      split at h
      · rename_i i hi
        split at h
        · rename_i hz
          split at h
          · obtain ⟨p, rfl, h⟩ := onSome_out h
            have hz' : ¬ i.size = 0 := by intro e; rw [e] at hz; simp at hz
            refine ⟨_, h, fun w => ?_⟩
            simp [Instr.fieldAt, run_underlying hs, hf, Instr.sureAddr, fieldPlace, sizeOf, typeInfo, hi, hz']
          · exact h.elim
        · exact h.elim
      · exact h.elim
    · exact h.elim
  · exact h.elim

theorem convM_out {src dst : TypeId} {x : Value} (h : convM P src dst x F els) : (∃ v, F v ∧ ∀ w, (convert src dst x).run P w = .ok v w) ∨ els := by
  unfold convM at h
  split at h
  · rename_i a k n hs hd
    exact .inl ⟨_, h, fun w => by unfold convert; simp [run_underlying hs, run_underlying hd, Conv.intToInt]⟩
  · rename_i a s hs hd
    exact .inl ⟨_, h, fun w => by unfold convert; simp [run_underlying hs, run_underlying hd]⟩
  · exact .inr h

theorem indexM_out {t : TypeId} {x i : Value} (h : indexM P t x i F) : ∃ v, F v ∧ ∀ w, (Instr.index t x i).run P w = .ok v w := by
  unfold indexM at h
  split at h
  · rename_i s k j ht
    obtain ⟨b, hb, h⟩ := onSome_out h
    exact ⟨_, h, fun w => by simp [Instr.index, asIntOf, run_underlying ht, hb]⟩
  · rename_i n e cs k j ht
    split at h
    · rename_i ha he
      obtain ⟨ti, hi, hs⟩ := hasType_out he
      obtain ⟨hb, h⟩ := h
      obtain ⟨v, hv, h⟩ := Sh2.ex_out h
      refine ⟨_, h, fun w => ?_⟩
      have hag := aggIs_out ha w
      simp [Instr.index, asIntOf, run_underlying ht, hb, part, hag, sizeOf, typeInfo, hi, ← hs, hv]
    · exact h.elim
  · exact h.elim

theorem run_sliceBound {k : IntKind} {i : Int} {y : Nat} {code : BoundsCode} (h : 0 ≤ i ∧ i ≤ y) (w : World) : (Instr.sliceBound (.int k i) y code).run P w = .ok i.toNat w := by
  unfold Instr.sliceBound
  show ((if 0 ≤ i ∧ i ≤ (y : Int) then pure i.toNat else boundsPanic k i y code : Sem Nat)).run P w = _
  rw [if_pos h]
  rfl

theorem bndLo_out {lo : Option Value} {H : Nat} {G : Nat → Prop} {code : BoundsCode} (h : bndLo lo H G) : ∃ l, G l ∧
    ∀ w, (match lo with | some v => Instr.sliceBound v H code | none => pure 0 : Sem Nat).run P w = .ok l w := by
  unfold bndLo at h
  split at h
  · exact ⟨_, h, fun w => rfl⟩
  · obtain ⟨hb, h⟩ := h
    exact ⟨_, h, fun w => run_sliceBound hb w⟩
  · exact h.elim

theorem bounds_out {isSlice : Bool} {len cap : Nat} {lo hi mx : Option Value} {G : Nat → Nat → Nat → Prop} (hok : mx = none ∨ hi ≠ none)
    (h : bndMax mx cap fun m => bndHi hi len m fun h => bndLo lo h fun l => G l h m) : ∃ l h m, G l h m ∧ ∀ w, (Instr.sliceBounds isSlice len cap lo hi mx).run P w = .ok (l, h, m) w := by
  unfold Instr.sliceBounds
  cases mx with
  | none =>
    simp only [bndMax] at h
    cases hi with
    | none =>
      simp only [bndHi] at h
      obtain ⟨l, hG, hl⟩ := bndLo_out (P := P) (code := .sliceB) h
      refine ⟨l, _, _, hG, fun w => ?_⟩
      have := hl w
      cases lo with
      | none => simp at this ⊢; exact this
      | some v => simp at this ⊢; simp [this]
    | some hv =>
      simp only [bndHi] at h
      split at h
      · cases ‹some hv = none›
      · rename_i k H heq
        obtain rfl : hv = .int k H := by injection heq
        obtain ⟨hb, h⟩ := h
        obtain ⟨l, hG, hl⟩ := bndLo_out (P := P) (code := .sliceB) h
        refine ⟨l, _, _, hG, fun w => ?_⟩
        have := hl w
        have e2 := fun c => run_sliceBound (P := P) (k := k) (code := c) hb w
        cases lo with
        | none => simp [e2]; simpa using this
        | some v => simp at this ⊢; simp [e2, this]
      · exact h.elim
  | some mv =>
    rcases hok with hok | hok
    · cases hok
    cases hi with
    | none => exact absurd rfl hok
    | some hv =>
    simp only [bndMax] at h
    split at h
    · cases ‹some mv = none›
    · rename_i k M heq
      obtain rfl : mv = .int k M := by injection heq
      obtain ⟨hm, h⟩ := h
      simp only [bndHi] at h
      split at h
      · cases ‹some hv = none›
      · rename_i k' H heq
        obtain rfl : hv = .int k' H := by injection heq
        obtain ⟨hb, h⟩ := h
        obtain ⟨l, hG, hl⟩ := bndLo_out (P := P) (code := .slice3C) h
        refine ⟨l, _, _, hG, fun w => ?_⟩
        have := hl w
        have e1 := fun c => run_sliceBound (P := P) (k := k) (code := c) hm w
        have e2 := fun c => run_sliceBound (P := P) (k := k') (code := c) hb w
        cases lo with
        | none => simp [e1, e2]; simpa using this
        | some v => simp [e1, e2]; simp at this; simp [this]
      · exact h.elim
    · exact h.elim

theorem hiOk {mx hi : Option Value} (h : (mx.isNone || hi.isSome) = true) : mx = none ∨ hi ≠ none := by
  cases mx <;> cases hi <;> simp_all

theorem sliceM_out {t : TypeId} {x : Value} {lo hi mx : Option Value} (h : sliceM P t x lo hi mx F els) : (∃ v, F v ∧ ∀ w, (Instr.sliceAt t x lo hi mx).run P w = .ok v w) ∨ els := by
  unfold sliceM at h
  split at h
  · rename_i e a len cap ht
    split at h
    · rename_i he
      simp only [Bool.and_eq_true] at he
      obtain ⟨ti, hi', hs⟩ := hasType_out he.1
      obtain ⟨l, hh, m, hF, hr⟩ := bounds_out (P := P) (isSlice := true) (hiOk he.2) h
      refine .inl ⟨_, hF _ rfl _ rfl _ rfl, fun w => ?_⟩
      simp [Instr.sliceAt, Instr.slice, run_underlying ht, hr, sizeOf, typeInfo, hi', hs]
    · exact h.elim
  · rename_i s ht
    split at h
    · obtain ⟨l, hh, m, hF, hr⟩ := bounds_out (P := P) (isSlice := false) (len := s.size) (cap := s.size) (mx := none) (G := fun l h _ => F (.string (s.extract l h))) (.inl rfl) (by simpa [bndMax] using h)
      refine .inl ⟨_, hF, fun w => ?_⟩
      simp [Instr.sliceAt, Instr.slice, run_underlying ht, hr]
    · exact h.elim
  · rename_i n e a ht
    split at h
    · rename_i he
      simp only [Bool.and_eq_true] at he
      obtain ⟨ti, hi', hs⟩ := hasType_out he.1
      obtain ⟨p, rfl, h2⟩ := onSome_out h
      obtain ⟨l, hh, m, hF, hr⟩ := bounds_out (P := P) (isSlice := false) (hiOk he.2) h2
      refine .inl ⟨_, hF _ rfl _ rfl _ rfl, fun w => ?_⟩
      simp [Instr.sliceAt, Instr.sureAddr, run_underlying ht, hr, sizeOf, typeInfo, hi', hs]
    · exact h.elim
  · exact .inr h

/-! Loads. -/
theorem run_loadFrom {p : Addr} : ∀ (vs : List Value) (i : Nat) (acc : Array Value), (∀ j u, vs[j]? = some u → w.cell? (p.add (i + j)) = some u) →
    (loadCellsFrom p i vs.length acc).run P w = .ok (acc ++ ⟨vs⟩) w
  | [], i, acc, _ => by simp [loadCellsFrom]
  | v :: r, i, acc, h => by
    have h0 := h 0 v rfl
    simp only [Nat.add_zero] at h0
    have ih := run_loadFrom r (i + 1) (acc.push v) (fun j u hu => by
      have := h (j + 1) u (by simpa using hu)
      rwa [Nat.add_right_comm, Nat.add_assoc])
    simp only [List.length_cons, loadCellsFrom, load]
    simp only [Sem.run_bind]
    rw [show (Sem.load .plain (p.add i) Sem.pure).run P w = .ok v w by simp [Sem.run, h0]]
    simp only [Result.andThen_ok, ih]
    simp

theorem cellsAt_get {p : Addr} : ∀ (vs : List Value) (i : Nat), cellsAt w p i vs → ∀ j u, vs[j]? = some u → w.cell? (p.add (i + j)) = some u
  | [], _, _, j, u, hu => by simp at hu
  | v :: r, i, h, j, u, hu => by
    obtain ⟨h0, h1⟩ := cellsAt_cons h
    cases j with
    | zero => simp at hu; subst hu; simpa using h0
    | succ j =>
      have := cellsAt_get r (i + 1) h1 j u (by simpa using hu)
      rwa [show i + (j + 1) = i + 1 + j by omega]

theorem cellsAt_keep {w' : World} {p : Addr} (keep : ∀ (i : Nat) (u : Value), w.cell? (p.add i) = some u → w'.cell? (p.add i) = some u) : ∀ (vs : List Value) (i : Nat), cellsAt w p i vs → cellsAt w' p i vs
  | [], _, _ => trivial
  | [_], _, h => keep _ _ h
  | _ :: u :: r, i, h => ⟨keep _ _ h.1, cellsAt_keep keep (u :: r) (i + 1) h.2⟩

theorem prot_out {B : Option Nat} {p : Addr} {F : Prop} (h : prot B p F) : (∀ b, B = some b → p.block < b) ∧ F := by
  cases B with
  | none => exact ⟨by simp, h⟩
  | some b => exact ⟨fun b' hb => by cases hb; exact h.1, h.2⟩

theorem block_add (p : Addr) (i : Nat) : (p.add i).block = p.block := by unfold Addr.add; split <;> rfl

/-- What a load found is found again where nothing that was there has changed. -/
theorem loadsAt_below {B : Option Nat} {w' : World} {p : Addr} {s : Sh2} {v : Value} (hB : ∀ b, B = some b → p.block < b) (hb : Below (B.getD w.heap.size) w w') (h : loadsAt w p s v) : loadsAt w' p s v := by
  have keep : ∀ (q : Addr) (u : Value), q.block = p.block → w.cell? q = some u → w'.cell? q = some u := fun q u hq hu => by
    refine (hb.cell (p := q) ?_).trans hu
    cases B with
    | none => exact World.block_lt_of_cell? w q hu
    | some b => rw [hq]; exact hB b rfl
  cases s with
  | one s => exact keep _ _ rfl h
  | agg l =>
    cases v <;> first | exact h.elim | skip
    rename_i cs
    simp only [loadsAt] at h ⊢
    split at h
    · exact cellsAt_keep (fun i u hu => keep _ u (block_add p i) hu) _ _ h
    · exact h.elim
  | row n =>
    cases v <;> first | exact h.elim | skip
    exact ⟨h.1, fun i u hu => keep _ _ (block_add p i) (h.2 i u hu)⟩

theorem run_loadsAt {p : Addr} {t : TypeId} {s : Sh2} {v : Value} (hag : aggIs P t (shAgg s) = true) (hi : hasType P t = true) (hsz : Nat.beq (shSize s) (sizeM P t) = true) (h : loadsAt w p s v) :
    (Instr.loadAt t (.pointer (some p))).run P w = .ok v w := by
  obtain ⟨ti, hti, hs⟩ := hasType_out hi
  have hsz' : ti.size = shSize s := by rw [← hs]; exact (Nat.eq_of_beq_eq_true hsz).symm
  have hagr := aggIs_out hag w
  have hsize : (sizeOf t).run P w = .ok (shSize s) w := by simp [sizeOf, typeInfo, hti, hsz']
  cases s with
  | one s => simp [Instr.loadAt, Instr.sureAddr, loadVar, hagr, shAgg, load, Sem.run, show w.cell? p = some v from h]
  | agg l =>
    cases v <;> first | exact h.elim | skip
    rename_i cs
    simp only [loadsAt] at h
    split at h
    · rename_i hn
      have hn' : cs.toList.length = l.length := Nat.eq_of_beq_eq_true hn
      have hr := run_loadFrom (P := P) (p := p) cs.toList 0 #[] (cellsAt_get _ _ h)
      rw [hn'] at hr
      simp [Instr.loadAt, Instr.sureAddr, loadVar, hagr, shAgg, hsize, shSize, loadCells, hr]
    · exact h.elim
  | row n =>
    cases v <;> first | exact h.elim | skip
    rename_i cs
    have hr := run_loadFrom (P := P) (p := p) cs.toList 0 #[] (fun j u hu => by simpa using h.2 j u (by simpa using hu))
    have hn : cs.toList.length = n := by simpa using h.1
    rw [hn] at hr
    simp [Instr.loadAt, Instr.sureAddr, loadVar, hagr, shAgg, hsize, shSize, loadCells, hr]

/-! Stores. -/
theorem one_out {v : Value} {p : Prop} (h : one? v p) : p ∧ (∀ u, v ≠ .agg u) ∧ (∀ u, v ≠ .tuple u) := by
  cases v <;> simp_all [one?]

theorem run_storeCells {p : Addr} {K : World → Prop} : ∀ (vs : List Value) (i : Nat) (w : World), storesAt p i vs w K → ∃ w', (storeCells p vs i).run P w = .ok () w' ∧ K w'
  | [], i, w, h => ⟨w, rfl, h⟩
  | v :: r, i, w, h => by
    obtain ⟨⟨⟨u, hu⟩, hf, h⟩, h1, h2⟩ := one_out h
    obtain ⟨w', hr, hK⟩ := run_storeCells r (i + 1) _ h
    refine ⟨w', ?_, hK⟩
    have hs : (store (p.add i) v).run P w = .ok () (w.setCell (p.add i) v) := by
      unfold store
      cases v <;> first | exact absurd rfl (h1 _) | exact absurd rfl (h2 _) | simp [Sem.run, hu, hf]
    simp [storeCells, hs, hr]

theorem pureM_out {B : Option Nat} (hc : ∀ v, ρ (.const v) = v) (h : pureM P B o ρ w F els) : (∃ v, F v ∧ ∀ w', Below (B.getD w.heap.size) w w' → (execOp ρ o).run P w' = .ok (.value v) w') ∨ els := by
  obtain ⟨dst, op, type, pos, after, guard⟩ := o
  cases op
  all_goals first | exact .inr h | (simp only [pureM] at h)
  case move => exact .inl ⟨_, h, fun _ _ => rfl⟩
  case assign => exact .inl ⟨_, h, fun _ _ => rfl⟩
  case pick x y z =>
    split at h
    · rename_i t ht
      rcases split_out h with ⟨rfl, h⟩ | ⟨rfl, h⟩
      · exact .inl ⟨_, h, fun _ _ => by simp [execOp, ht, asBool]⟩
      · exact .inl ⟨_, h, fun _ _ => by simp [execOp, ht, asBool]⟩
    · exact h.elim
  case load t x =>
    split at h
    · rename_i a ha
      split at h
      · rename_i s hs hck
        simp only [Bool.and_eq_true] at hck
        obtain ⟨p, rfl, h⟩ := onSome_out h
        obtain ⟨hpb, h⟩ := prot_out h
        obtain ⟨v, hl, hF⟩ := Sh2.ex_out h
        refine .inl ⟨v, hF, fun w' hb => ?_⟩
        have := run_loadsAt (P := P) hck.1.1 hck.1.2 hck.2 (loadsAt_below (fun b hB => hpb b hB) hb hl)
        simp [execOp, ha, this]
      · exact h.elim
    · exact h.elim
  case nilCheck x =>
    split at h
    · rename_i a ha
      obtain ⟨p, rfl, h⟩ := onSome_out h
      exact .inl ⟨_, h, fun _ _ => by simp [execOp, ha]⟩
    · exact .inr h
  case fieldAddr s x f =>
    obtain ⟨v, hF, hr⟩ := fieldM_out h
    exact .inl ⟨v, hF, fun w' _ => by simp [execOp, hr w']⟩
  case indexAddr t x i =>
    obtain ⟨v, hF, hr⟩ := idxM_out h
    exact .inl ⟨v, hF, fun w' _ => by simp [execOp, hr w']⟩
  case index t x i =>
    obtain ⟨v, hF, hr⟩ := indexM_out h
    exact .inl ⟨v, hF, fun w' _ => by simp [execOp, hr w']⟩
  case binOp op t x y yt =>
    rcases binM_out hc (X := x) h with ⟨v, hF, hr⟩ | h
    · exact .inl ⟨v, hF, fun w' _ => by simp only [execOp]; rw [Sem.run_bind, hr w']; rfl⟩
    · exact .inr h
  case unOp op t x =>
    obtain ⟨v, hF, hr⟩ := unM_out (P := P) h
    exact .inl ⟨v, hF, fun w' _ => by simp [execOp, hr w']⟩
  case convert s d x =>
    rcases convM_out h with ⟨v, hF, hr⟩ | h
    · exact .inl ⟨v, hF, fun w' _ => by simp [execOp, hr w']⟩
    · exact .inr h
  case slice t x lo hi mx =>
    rcases sliceM_out h with ⟨v, hF, hr⟩ | h
    · exact .inl ⟨v, hF, fun w' _ => by simp [execOp, hr w']⟩
    · exact .inr h
  case call c =>
    obtain ⟨cal, args, ats⟩ := c
    simp only at h
    split at h
    · rename_i x t ha ht
      obtain rfl : args = #[x] := by rw [← ha]
      obtain rfl : ats = #[t] := by rw [← ht]
      split at h
      · rename_i e hu
        split at h
        · rename_i a n k hx
          exact .inl ⟨_, h, fun w' _ => by simp [execOp, resolve, invoke, builtin, Builtin.len_, run_underlying hu, hx, goInt]⟩
        · exact .inr h
      · rename_i hu
        split at h
        · rename_i s hx
          exact .inl ⟨_, h, fun w' _ => by simp [execOp, resolve, invoke, builtin, Builtin.len_, run_underlying hu, hx, goInt]⟩
        · exact .inr h
      · exact .inr h
    · rename_i x y ha
      obtain rfl : args = #[x, y] := by rw [← ha]
      split at h
      · rename_i k a k' b hx hy
        exact .inl ⟨_, h, fun w' _ => by simp [execOp, resolve, invoke, builtin, Builtin.min_, Builtin.min2, hx, hy]⟩
      · exact .inr h
    · rename_i x y ha
      obtain rfl : args = #[x, y] := by rw [← ha]
      split at h
      · rename_i k a k' b hx hy
        exact .inl ⟨_, h, fun w' _ => by simp [execOp, resolve, invoke, builtin, Builtin.max_, Builtin.max2, hx, hy]⟩
      · exact .inr h
    · exact .inr h
  all_goals
    rcases pureRun_out h with ⟨v, hF, hr⟩ | h
    · exact .inl ⟨v, hF, fun w' _ => hr w'⟩
    · exact .inr h

theorem runM_out {s : Sem Next} {K : Post} (h : runM P s w K) : ∃ v w', s.run P w = .ok (.value v) w' ∧ K v w' := by
  unfold runM at h
  split at h
  · rename_i v w' hr; exact ⟨v, w', hr, h⟩
  · exact h.elim

/-- Every call of 'C' enters its function. -/
def callsOk (P : Program) (C : List Nat) : Bool := C.all (callable P)

theorem callM_out {C : List Nat} {f : FuncId} {args : Array Value} {t : TypeId} {K : Post} {Qp : Option (List PanicEntry → World → Prop)} (hC : callsOk P C = true) (h : callM P C f args t w K Qp) :
    (callFunc f args).run P w = .ok (.enter f args) w ∧ Calls P f args w fun e w'' => (∃ v, e = .returned v ∧ K v w'') ∨ ∃ ch, e = .panicked ch ∧ QpP Qp ch w'' := by
  unfold callM at h
  split at h
  · rename_i hm
    refine ⟨?_, ?_⟩
    · have hf : callable P f = true := by
        unfold callsOk at hC
        exact List.all_eq_true.1 hC f (List.elem_iff.1 hm)
      unfold callable at hf
      split at hf
      · rename_i fn hfn
        simp only [Bool.and_eq_true, Bool.not_eq_true'] at hf
        obtain ⟨hb, hn⟩ := hf
        have hb' : ¬ fn.body = none := by intro e; rw [e] at hb; cases hb
        have hn' : ¬ fn.name = "runtime.NumGoroutine" := by intro e; rw [e] at hn; simp at hn
        simp [callFunc, hfn, hn', hb', program, Sem.run]
      · cases hf
    · split at h
      · refine h.mono fun e w' hh => ?_
        obtain ⟨v, he, hK⟩ := exT_out hh
        exact .inl ⟨v, he, hK⟩
      · refine h.mono fun e w' hh => ?_
        rcases hh with hh | hh
        · obtain ⟨v, he, hK⟩ := exT_out hh
          exact .inl ⟨v, he, hK⟩
        · exact .inr hh
  · exact h.elim

theorem valS_run {s : Sem Value} (h : valS o ρ = some s) (w : World) {v : Value} {w' : World} (hr : s.run P w = .ok v w') : (execOp ρ o).run P w = .ok (.value v) w' := by
  obtain ⟨dst, op, type, pos, after, guard⟩ := o
  have key : execOp ρ ⟨dst, op, type, pos, after, guard⟩ = (do pure (.value (← s))) → (execOp ρ ⟨dst, op, type, pos, after, guard⟩).run P w = .ok (.value v) w' := by
    intro e
    rw [e, Sem.run_bind, hr]
    rfl
  cases op
  case call c =>
    obtain ⟨cal, args, ats⟩ := c
    cases cal with
    | builtin b => cases b <;> simp only [valS, Option.some.injEq, reduceCtorEq] at h <;> (subst h; exact key rfl)
    | _ => simp [valS] at h
  all_goals first | (simp only [valS, reduceCtorEq] at h; done) | (simp only [valS, Option.some.injEq] at h; subst h; exact key rfl)

theorem restM_out {K : Post} (h : restM P o ρ w K) : ∃ v w', (execOp ρ o).run P w = .ok (.value v) w' ∧ K v w' := by
  unfold restM at h
  split at h
  · rename_i s hs
    obtain ⟨v, w', hr, hK⟩ := exT_out h
    exact ⟨v, w', valS_run hs w hr, hK⟩
  · obtain ⟨v, w', hr, hK⟩ := exT_out h
    exact ⟨v, w', hr, hK⟩

theorem opM_out {C : List Nat} {K : Post} {Qp : Option (List PanicEntry → World → Prop)} (hC : callsOk P C = true) (hc : ∀ v, ρ (.const v) = v) (h : opM P C o ρ w K Qp) : Out P K (QpP Qp) ((execOp ρ o).run P w) := by
  unfold opM at h
  have h0 := pureM_out hc h
  clear h
  rcases h0 with ⟨v, hF, hr⟩ | h
  · rw [hr w (Below.refl _ _)]
    exact hF
  · clear hc
    have gen : restM P o ρ w K → Out P K (QpP Qp) ((execOp ρ o).run P w) := by
      intro h
      obtain ⟨v, w', hr, hK⟩ := restM_out h
      rw [hr]
      exact hK
    have gen' : runM P (execOp ρ o) w K → Out P K (QpP Qp) ((execOp ρ o).run P w) := by
      intro h
      obtain ⟨v, w', hr, hK⟩ := runM_out h
      rw [hr]
      exact hK
    have gen'' : (∃ w', (execOp ρ o).run P w = .ok .skip w' ∧ K undef w') → Out P K (QpP Qp) ((execOp ρ o).run P w) := by
      rintro ⟨w', hr, hK⟩
      rw [hr]
      exact hK
    obtain ⟨dst, op, type, pos, after, guard⟩ := o
    cases op
    all_goals first | exact gen h | exact gen' h | exact gen'' h | (simp only at h; done) | skip
    case store t x y =>
      simp only at h
      split at h
      · rename_i a ha
        split at h
        · rename_i hck
          simp only [Bool.and_eq_true] at hck
          obtain ⟨ti, hti, hs⟩ := hasType_out hck.2
          obtain ⟨p, rfl, h⟩ := onSome_out h
          obtain ⟨w', hr, hK⟩ := run_storeCells (P := P) _ _ _ h
          have hn : (ρ y).cells.size = ti.size := by rw [← hs, ← Nat.eq_of_beq_eq_true hck.1]; simp
          have : (execOp ρ { dst := dst, op := .store t x y, type := type, pos := pos, after := after, guard := guard }).run P w = .ok .skip w' := by
            simp [execOp, ha, Instr.storeAt, Instr.sureAddr, storeVar, sizeOf, typeInfo, hti, hn, hr]
          rw [this]
          exact hK
        · exact h.elim
      · exact h.elim
    case call c =>
      obtain ⟨cal, args, ats⟩ := c
      simp only at h
      split at h
      · exact gen h
      · rename_i f
        split at h
        · rename_i fn first cap hf
          obtain ⟨h1, h2⟩ := callM_out hC h
          have : (execOp ρ { dst := dst, op := .call { callee := .value f, args := args, argTypes := ats }, type := type, pos := pos, after := after, guard := guard }).run P w = .ok (.enter fn (first ++ args.map ρ ++ cap)) w := by
            simp only [execOp, resolve, hf, Deferred.ofValue]
            rw [Sem.run_bind]
            exact h1
          rw [this]
          exact h2
        · exact h.elim
      · exact h.elim
end
attribute [irreducible] split onSome nz shiftBy one?
end Go.Proofs.Ytlgffdmmlnoiaaa.V
