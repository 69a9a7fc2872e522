/- An abstract machine for a part of Go's model: tries, heaps, an own code, and its evaluator. -/
import Derived.Orders
import Derived.Tactics
set_option linter.unusedSimpArgs false
set_option linter.unusedVariables false
namespace Go.Proofs.YtiphbdhclldllaaGreatDoor.Mx
open Go

/-! ### tries -/
inductive Tr (α : Type) where
  | nil
  | node (v : Option α) (l r : Tr α)
  deriving Inhabited

def Tr.get {α : Type} : Tr α → Nat → Option α
  | .nil, _ => none
  | .node v l r, n => bif n == 0 then v else bif n % 2 == 1 then l.get (n / 2) else r.get (n / 2 - 1)

def Tr.setF {α : Type} : Nat → Tr α → Nat → α → Tr α
  | 0, t, _, _ => t
  | f + 1, .nil, n, x => bif n == 0 then .node (some x) .nil .nil else bif n % 2 == 1 then .node none (Tr.setF f .nil (n / 2) x) .nil else .node none .nil (Tr.setF f .nil (n / 2 - 1) x)
  | f + 1, .node v l r, n, x => bif n == 0 then .node (some x) l r else bif n % 2 == 1 then .node v (Tr.setF f l (n / 2) x) r else .node v l (Tr.setF f r (n / 2 - 1) x)

def Tr.set {α : Type} (t : Tr α) (n : Nat) (x : α) : Tr α := Tr.setF (n + 1) t n x

theorem Tr.get_zero {α : Type} (v : Option α) (l r : Tr α) : (Tr.node v l r).get 0 = v := by simp [Tr.get]
theorem Tr.get_odd {α : Type} (v : Option α) (l r : Tr α) (k : Nat) : (Tr.node v l r).get (2 * k + 1) = l.get k := by
  have h1 : ((2 * k + 1) == 0) = false := by simp
  have h2 : ((2 * k + 1) % 2 == 1) = true := by simp <;> omega
  have h3 : (2 * k + 1) / 2 = k := by omega
  simp only [Tr.get, h1, h2, h3, cond_false, cond_true]
theorem Tr.get_even {α : Type} (v : Option α) (l r : Tr α) (k : Nat) : (Tr.node v l r).get (2 * k + 2) = r.get k := by
  have h1 : ((2 * k + 2) == 0) = false := by simp
  have h2 : ((2 * k + 2) % 2 == 1) = false := by simp <;> omega
  have h3 : (2 * k + 2) / 2 - 1 = k := by omega
  simp only [Tr.get, h1, h2, h3, cond_false]
def Tr.split {α : Type} : Tr α → Option α × Tr α × Tr α
  | .nil => (none, .nil, .nil)
  | .node v l r => (v, l, r)
theorem Tr.setF_zero {α : Type} (f : Nat) (t : Tr α) (x : α) : Tr.setF (f + 1) t 0 x = .node (some x) t.split.2.1 t.split.2.2 := by
  cases t <;> simp [Tr.setF, Tr.split]
theorem Tr.setF_odd {α : Type} (f : Nat) (t : Tr α) (k : Nat) (x : α) : Tr.setF (f + 1) t (2 * k + 1) x = .node t.split.1 (Tr.setF f t.split.2.1 k x) t.split.2.2 := by
  have h1 : ((2 * k + 1) == 0) = false := by simp
  have h2 : ((2 * k + 1) % 2 == 1) = true := by simp <;> omega
  have h3 : (2 * k + 1) / 2 = k := by omega
  cases t <;> simp only [Tr.setF, Tr.split, h1, h2, h3, cond_false, cond_true]
theorem Tr.setF_even {α : Type} (f : Nat) (t : Tr α) (k : Nat) (x : α) : Tr.setF (f + 1) t (2 * k + 2) x = .node t.split.1 t.split.2.1 (Tr.setF f t.split.2.2 k x) := by
  have h1 : ((2 * k + 2) == 0) = false := by simp
  have h2 : ((2 * k + 2) % 2 == 1) = false := by simp <;> omega
  have h3 : (2 * k + 2) / 2 - 1 = k := by omega
  cases t <;> simp only [Tr.setF, Tr.split, h1, h2, h3, cond_false]
theorem Tr.get_split {α : Type} (t : Tr α) (m : Nat) : t.get m = (Tr.node t.split.1 t.split.2.1 t.split.2.2).get m := by
  cases t with
  | nil => simp [Tr.split, Tr.get]
  | node v l r => rfl
theorem nat_cases (n : Nat) : n = 0 ∨ (∃ k, n = 2 * k + 1) ∨ (∃ k, n = 2 * k + 2) := by
  by_cases h0 : n = 0
  · exact .inl h0
  · by_cases h1 : n % 2 = 1
    · exact .inr (.inl ⟨n / 2, by omega⟩)
    · exact .inr (.inr ⟨n / 2 - 1, by omega⟩)

theorem Tr.get_setF_same {α : Type} (x : α) : ∀ (f : Nat) (t : Tr α) (n : Nat), n < f → (Tr.setF f t n x).get n = some x := by
  intro f
  induction f with
  | zero => intro t n h; omega
  | succ f ih =>
    intro t n h
    rcases nat_cases n with rfl | ⟨k, rfl⟩ | ⟨k, rfl⟩
    · rw [Tr.setF_zero, Tr.get_zero]
    · rw [Tr.setF_odd, Tr.get_odd]; exact ih _ _ (by omega)
    · rw [Tr.setF_even, Tr.get_even]; exact ih _ _ (by omega)

theorem Tr.get_setF_ne {α : Type} (x : α) : ∀ (f : Nat) (t : Tr α) (n m : Nat), n ≠ m → (Tr.setF f t n x).get m = t.get m := by
  intro f
  induction f with
  | zero => intro t n m h; rfl
  | succ f ih =>
    intro t n m h
    rw [Tr.get_split t m]
    rcases nat_cases n with rfl | ⟨k, rfl⟩ | ⟨k, rfl⟩ <;> rcases nat_cases m with rfl | ⟨j, rfl⟩ | ⟨j, rfl⟩ <;>
      (try exact absurd rfl h) <;> simp only [Tr.setF_zero, Tr.setF_odd, Tr.setF_even, Tr.get_zero, Tr.get_odd, Tr.get_even] <;>
      exact ih _ _ _ (by omega)

theorem Tr.setF_comm {α : Type} (x y : α) : ∀ (f g : Nat) (t : Tr α) (n m : Nat), n ≠ m → n < f → m < g →
    Tr.setF f (Tr.setF g t m y) n x = Tr.setF g (Tr.setF f t n x) m y := by
  intro f
  induction f with
  | zero => intro g t n m _ h; omega
  | succ f ih =>
    intro g t n m hne hf hg
    cases g with
    | zero => omega
    | succ g =>
      rcases nat_cases n with rfl | ⟨k, rfl⟩ | ⟨k, rfl⟩ <;> rcases nat_cases m with rfl | ⟨j, rfl⟩ | ⟨j, rfl⟩ <;>
        (try exact absurd rfl hne) <;> simp only [Tr.setF_zero, Tr.setF_odd, Tr.setF_even, Tr.split] <;>
        rw [ih g _ k j (by omega) (by omega) (by omega)]

theorem Tr.get_set_same {α : Type} (t : Tr α) (n : Nat) (x : α) : (t.set n x).get n = some x := Tr.get_setF_same x _ t n (by omega)
theorem Tr.get_set_ne {α : Type} (t : Tr α) (n m : Nat) (x : α) (h : n ≠ m) : (t.set n x).get m = t.get m := Tr.get_setF_ne x _ t n m h
theorem Tr.set_comm {α : Type} (t : Tr α) (n m : Nat) (x y : α) (h : n ≠ m) : (t.set m y).set n x = (t.set n x).set m y :=
  Tr.setF_comm x y _ _ t n m h (by omega) (by omega)
theorem Tr.get_set {α : Type} (t : Tr α) (n m : Nat) (x : α) : (t.set n x).get m = if n = m then some x else t.get m := by
  by_cases h : n = m
  · subst h; simp [Tr.get_set_same]
  · simp [h, Tr.get_set_ne t n m x h]

def Tr.ofList {α : Type} : List α → Nat → Tr α → Tr α
  | [], _, t => t
  | x :: l, n, t => Tr.ofList l (n + 1) (t.set n x)

/-! ### the heap -/
inductive Ob where
  | pend
  | dead
  | cells (elem : TypeId) (ro : Bool) (cs : List Value)
  | map (es : List (Value × Value × Nat)) (clock : Nat)
  deriving Inhabited

structure Heap where
  size : Nat
  tr : Tr Ob
  deriving Inhabited

def Heap.get (H : Heap) (id : Nat) : Option Ob := H.tr.get id
def Heap.put (H : Heap) (id : Nat) (o : Ob) : Heap := { H with tr := H.tr.set id o }
def Heap.ext : Nat → Heap → Heap
  | 0, H => H
  | n + 1, H => Heap.ext n { size := H.size + 1, tr := H.tr.set H.size .pend }

theorem Heap.get_put (H : Heap) (id i : Nat) (o : Ob) : (H.put id o).get i = if id = i then some o else H.get i := Tr.get_set _ _ _ _
theorem Heap.size_put (H : Heap) (id : Nat) (o : Ob) : (H.put id o).size = H.size := rfl
theorem Heap.put_comm (H : Heap) (n m : Nat) (x y : Ob) (h : n ≠ m) : (H.put m y).put n x = (H.put n x).put m y := by
  simp only [Heap.put]; rw [Tr.set_comm _ _ _ _ _ h]
theorem Heap.size_ext : ∀ (n : Nat) (H : Heap), (Heap.ext n H).size = H.size + n
  | 0, H => rfl
  | n + 1, H => by simp only [Heap.ext, Heap.size_ext n]; omega
theorem Heap.get_ext : ∀ (n : Nat) (H : Heap) (i : Nat), (Heap.ext n H).get i = if H.size ≤ i ∧ i < H.size + n then some .pend else H.get i
  | 0, H, i => by
    have : ¬ (H.size ≤ i ∧ i < H.size + 0) := by omega
    rw [if_neg this]; rfl
  | n + 1, H, i => by
    simp only [Heap.ext]
    rw [Heap.get_ext n]
    simp only [Heap.get, Tr.get_set]
    by_cases h1 : H.size + 1 ≤ i ∧ i < H.size + 1 + n
    · have : H.size ≤ i ∧ i < H.size + (n + 1) := by omega
      simp [h1, this]
    · by_cases h2 : H.size = i
      · have : H.size ≤ i ∧ i < H.size + (n + 1) := by omega
        simp [h1, h2, this]
      · have : ¬ (H.size ≤ i ∧ i < H.size + (n + 1)) := by omega
        simp [h1, h2, this]

/-! ### the code -/
inductive Opd where
  | t (n : Nat)
  | c (v : Value)
  | f (g : Nat)
  | gl (n : Nat)
  deriving Inhabited

/-- The kinds of plain values. -/
inductive LK where
  | b
  | i
  | s
  deriving Inhabited, DecidableEq

/-- How two values are compared. -/
inductive EqM where
  | lf (k : LK)
  | ptr
  | slc
  | fnc
  | no
  | cells (l : List LK)
  | mp
  deriving Inhabited

inductive I where
  | mv (x : Opd)
  | pick (c a b : Opd)
  | alloc (k : Nat) (elem : TypeId) (zero : List Value)
  | box (k : Nat) (elem : TypeId) (x : Opd)
  | build (zero : List Value) (parts : List (Nat × Nat × Opd))
  | bslice (k : Nat) (elem : TypeId) (esz len : Nat) (zero : List Value) (parts : List (Nat × Nat × Opd))
  | load (agg : Bool) (n : Nat) (a : Opd)
  | store (n : Nat) (a x : Opd)
  | nilchk (x : Opd)
  | bin (op : BinOp) (m : EqM) (x y : Opd)
  | un (op : UnOp) (x : Opd)
  | conv (k : IntKind) (x : Opd)
  | mkfn (fn : Fn) (first captured : List Opd)
  | mkslice (k : Nat) (elem : TypeId) (esz bytes : Nat) (zero : List Value) (len cap : Opd)
  | slice (esz : Nat) (x : Opd) (lo hi mx : Option Opd)
  | strslice (x : Opd) (lo hi : Option Opd)
  | faddr (off : Nat) (x : Opd)
  | field (agg : Bool) (off n : Nat) (x : Opd)
  | iaddr (esz : Nat) (x i : Opd)
  | aaddr (len esz : Nat) (x i : Opd)
  | aindex (agg : Bool) (len esz : Nat) (x i : Opd)
  | strindex (x i : Opd)
  | ext (i : Nat) (x : Opd)
  | call (f : Opd) (args : List Opd)
  | len (x : Opd)
  | strlen (x : Opd)
  | const (v : Value)
  | append (k : Nat) (elem : TypeId) (esz bytes : Nat) (pure : Bool) (x y : Opd)
  | minmax (max : Bool) (x y : Opd)
  | copy (esz : Nat) (x y : Opd)
  | stuck
  | mkmap (k : Nat)
  | lookup (m : EqM) (zero : Value) (ok : Bool) (x i : Opd)
  | mapset (m : EqM) (x i v : Opd)
  | mapentry (m : EqM) (zero : Value) (x i : Opd)
  | entryset (x s v : Opd)
  | maplen (x : Opd)
  | mapdel (m : EqM) (x i : Opd)
  | clear (esz : Nat) (zero : List Value) (x : Opd)
  | mapclear (x : Opd)
  | cap (x : Opd)
  | aslice (n esz : Nat) (x : Opd) (lo hi : Option Opd)
  | b2s (x : Opd)
  | mkif (t : TypeId) (x : Opd)
  | tassert (t : TypeId) (zero : Option Value) (x : Opd)
  | isnil (neg : Bool) (x : Opd)
  deriving Inhabited

structure Ins where
  idx : Nat
  dst : Option Nat
  guard : Option (Nat × Bool)
  op : I
  chk : List Nat
  lg : Bool
  deriving Inhabited

inductive Cd where
  | skip
  | region (na : Nat) (ops : List Ins)
  | seq (a b : Cd)
  | cond (c : Opd) (a b : Cd)
  | block (id : Nat) (c : Cd)
  | loop (c : Cd)
  | exit (id : Nat)
  | ret
  | callp (dst : Option Nat) (f : Opd) (args : List Opd)
  | panic (x : Opd)
  deriving Inhabited

inductive Res where
  | tmp (t : Nat)
  | cell (t : Nat) (agg : Bool) (n : Nat)
  deriving Inhabited

/-- dfr: a deferred closure, and the code behind its being deferred. recv: the code is a deferred closure's, and this temporary holds what is recovered. -/
structure FnI where
  res : List Res
  body : Cd
  dfr : Option (Opd × Cd)
  recv : Option Nat
  deriving Inhabited

/-- The mark of a call that ends in a panic. -/
def pan (v : Value) : Value := .tuple #[.chan (some 1), v]
def isPan : Value → Option Value
  | .tuple a => match a.toList with
    | [.chan (some 1), v] => some v
    | _ => none
  | _ => none
theorem isPan_pan (v : Value) : isPan (pan v) = some v := rfl

/-- Calls that end in a panic are left out. -/
def noP (cl : Nat → List Value → Heap → Option (Value × Heap)) : Nat → List Value → Heap → Option (Value × Heap) := fun g as H =>
  match cl g as H with
  | some (v, H') => match isPan v with
    | none => some (v, H')
    | some _ => none
  | none => none

/-! ### evaluation -/
def rd (T : Tr Value) (t : Nat) : Value := (T.get t).getD undef
def Opd.ev (T : Tr Value) : Opd → Value
  | .t n => rd T n
  | .c v => v
  | .f g => .func (.func g) #[] #[]
  | .gl n => .pointer (some ⟨n, 0, none⟩)

def putT (T : Tr Value) : Option Nat → Value → Tr Value
  | some d, v => T.set d v
  | none, _ => T

/-- The value of which nothing is known. -/
def junk : Value := .chan (some 0)

/-- A cell of which nothing is known. -/
def opq : Value := .complex .f64 0 0

def okCell : Value → Bool
  | .agg _ | .tuple _ | .chan _ => false
  | _ => true

def okAll (v : Value) : Bool := v.cells.toList.all okCell

def Ins.wanted (i : Ins) (T : Tr Value) : Option Bool :=
  match i.guard with
  | none => some true
  | some (g, want) => match rd T g with
    | .bool b => some (b == want)
    | .tuple vs => if vs.size = 0 then some false else none
    | _ => none

def Heap.loadv (H : Heap) (agg : Bool) (n : Nat) : Value → Option Value
  | .pointer (some ⟨id, off, none⟩) =>
    match H.get id with
    | some (.cells _ _ cs) => if agg then (if off + n ≤ cs.length then some (.agg ((cs.drop off).take n).toArray) else none) else cs[off]?
    | _ => none
  | _ => none

def setRange (cs : List Value) (off : Nat) (vs : List Value) : List Value := cs.take off ++ vs ++ cs.drop (off + vs.length)

def Heap.storev (H : Heap) (n : Nat) (a x : Value) : Option Heap :=
  match a with
  | .pointer (some ⟨id, off, none⟩) =>
    match H.get id with
    | some (.cells e false cs) =>
      if x.cells.size = n ∧ okAll x = true ∧ off + n ≤ cs.length then some (H.put id (.cells e false (setRange cs off x.cells.toList))) else none
    | _ => none
  | _ => none

def Heap.new (H : Heap) (id : Nat) (o : Ob) : Option Heap :=
  match H.get id with
  | some .pend => some (H.put id o)
  | _ => none

def fillP (cells : Array Value) : List (Nat × Nat × Value) → Option (Array Value)
  | [] => some cells
  | (off, size, v) :: rest =>
    if v.cells.size ≠ size || off + v.cells.size > cells.size || !okAll v then none
    else fillP (v.cells.zipIdx.foldl (fun cs (c, j) => cs.setIfInBounds (off + j) c) cells) rest

def evParts (T : Tr Value) (ps : List (Nat × Nat × Opd)) : List (Nat × Nat × Value) := ps.map fun (a, b, x) => (a, b, x.ev T)

def leafEq : LK → Value → Value → Option Bool
  | .b, .bool a, .bool b => some (a == b)
  | .i, .int k a, .int k' b => if k = k' then some (a == b) else none
  | .s, .string a, .string b => some (a == b)
  | _, _, _ => none

/-- Cells of plain values, one after the other. -/
def cellsEq : List LK → List Value → List Value → Option Bool
  | [], _, _ => some true
  | k :: ks, x :: xs, y :: ys => match leafEq k x y with
    | some true => cellsEq ks xs ys
    | some false => some false
    | none => none
  | _, _, _ => none

def aggEq (l : List LK) : Value → Value → Option Bool
  | .agg xs, .agg ys => if xs.size = l.length ∧ ys.size = l.length then cellsEq l xs.toList ys.toList else none
  | _, _ => none

def ptrEq : Value → Value → Option Bool
  | .pointer none, .pointer b => some b.isNone
  | .pointer (some _), .pointer none => some false
  | _, _ => none

def slcEq : Value → Value → Option Bool
  | .slice none _ _, .slice b _ _ => some b.isNone
  | .slice (some _) _ _, .slice none _ _ => some false
  | _, _ => none

def fncEq : Value → Value → Option Bool
  | .nilFunc, .nilFunc => some true
  | .nilFunc, .func _ _ _ => some false
  | .func _ _ _, .nilFunc => some false
  | _, _ => none

def mapEq : Value → Value → Option Bool
  | .map none, .map b => some b.isNone
  | .map (some _), .map none => some false
  | _, _ => none

def eqBy (m : EqM) (x y : Value) : Option Bool :=
  match m with
  | .lf k => leafEq k x y
  | .ptr => ptrEq x y
  | .slc => slcEq x y
  | .fnc => fncEq x y
  | .no => none
  | .cells l => aggEq l x y
  | .mp => mapEq x y

/-! Comparing numbers, in the kernel's own way. -/
def ltI : Int → Int → Bool
  | .ofNat a, .ofNat b => Nat.ble (a + 1) b
  | .ofNat _, .negSucc _ => false
  | .negSucc _, .ofNat _ => true
  | .negSucc a, .negSucc b => Nat.ble (b + 1) a
def eqI : Int → Int → Bool
  | .ofNat a, .ofNat b => Nat.beq a b
  | .ofNat _, .negSucc _ => false
  | .negSucc _, .ofNat _ => false
  | .negSucc a, .negSucc b => Nat.beq a b
theorem ltI_eq (a b : Int) : ltI a b = decide (a < b) := by
  rw [Bool.eq_iff_iff, decide_eq_true_eq]
  cases a <;> cases b <;> simp only [ltI, Nat.ble_eq, Int.ofNat_eq_natCast, Bool.false_eq_true, false_iff, true_iff] <;> omega
theorem eqI_eq (a b : Int) : eqI a b = (a == b) := by
  rw [Bool.eq_iff_iff, beq_iff_eq]
  cases a <;> cases b <;> simp only [eqI, Nat.beq_eq, Int.ofNat_eq_natCast, Bool.false_eq_true, false_iff, true_iff] <;> omega

def intBin (op : BinOp) (k : IntKind) (a b : Int) : Option Value :=
  match op with
  | .add => some (.int k (k.wrap (a + b)))
  | .sub => some (.int k (k.wrap (a - b)))
  | .mul => some (.int k (k.wrap (a * b)))
  | .quo => if b = 0 then none else some (.int k (k.wrap (a.tdiv b)))
  | .rem => if b = 0 then none else some (.int k (a.tmod b))
  | .and => some (.int k (k.wrap (BitVec.ofInt k.bits a &&& BitVec.ofInt k.bits b).toNat))
  | .or => some (.int k (k.wrap (BitVec.ofInt k.bits a ||| BitVec.ofInt k.bits b).toNat))
  | .xor => some (.int k (k.wrap (BitVec.ofInt k.bits a ^^^ BitVec.ofInt k.bits b).toNat))
  | .andNot => some (.int k (k.wrap (BitVec.ofInt k.bits a &&& ~~~ BitVec.ofInt k.bits b).toNat))
  | .eql => some (.bool (eqI a b))
  | .neq => some (.bool !(eqI a b))
  | .lss => some (.bool (ltI a b))
  | .leq => some (.bool !(ltI b a))
  | .gtr => some (.bool (ltI b a))
  | .geq => some (.bool !(ltI a b))
  | _ => none

def strBin (op : BinOp) (a b : ByteArray) : Option Value :=
  match op with
  | .add => if ((a.size + b.size : Nat) : Int) ≤ 9223372036854775807 then some (.string (a ++ b)) else none
  | .eql => some (.bool (a.toList == b.toList))
  | .neq => some (.bool !(a.toList == b.toList))
  | .lss => some (.bool (Op.bytesLess a.toList b.toList))
  | .leq => some (.bool (Op.bytesLess a.toList b.toList || a.toList == b.toList))
  | .gtr => some (.bool !(Op.bytesLess a.toList b.toList || a.toList == b.toList))
  | .geq => some (.bool !(Op.bytesLess a.toList b.toList))
  | _ => none

def binV (op : BinOp) (m : EqM) (x y : Value) : Option Value :=
  match op, x, y with
  | .shl, .int k a, .int _ b => if b < 0 then none else some (.int k (k.wrap (a * 2 ^ min b.toNat k.bits)))
  | .shr, .int k a, .int _ b => if b < 0 then none else some (.int k (a.fdiv (2 ^ min b.toNat k.bits)))
  | op, .int k a, .int k' b => if k = k' then intBin op k a b else none
  | op, .string a, .string b => strBin op a b
  | .eql, x, y => (eqBy m x y).map .bool
  | .neq, x, y => (eqBy m x y).map fun b => .bool !b
  | _, _, _ => none

def unV (op : UnOp) (x : Value) : Option Value :=
  match op, x with
  | .neg, .int k n => some (.int k (k.wrap (0 - n)))
  | .xor, .int k n => some (.int k (k.wrap (BitVec.ofInt k.bits (if k.signed then -1 else k.max) ^^^ BitVec.ofInt k.bits n).toNat))
  | .not, .bool b => some (.bool !b)
  | _, _ => none

def optInt (d : Int) : Option Value → Option Int
  | none => some d
  | some (.int _ n) => some n
  | some _ => none

/-- Slicing of a slice: the abstract capacity is a lower bound; the mark of the address is twice the element's size, and one more if the capacity is exact. -/
def sliceV (esz : Nat) (x : Value) (lo hi mx : Option Value) : Option Value :=
  match x with
  | .slice (some ⟨id, off, some ek⟩) len cap =>
    match optInt cap mx, optInt len hi, optInt 0 lo with
    | some m, some h, some l =>
      if 0 ≤ l ∧ l ≤ h ∧ h ≤ m ∧ m ≤ cap ∧ (ek / 2 = esz ∨ ek = 1 ∨ (l = 0 ∧ (mx = none ∨ m = 0))) then
        some (.slice (some ⟨id, off + l.toNat * esz, some (if mx.isSome ∧ ek ≠ 1 then 2 * esz + 1 else ek)⟩) (h.toNat - l.toNat) (m.toNat - l.toNat)) else none
    | _, _, _ => none
  | .slice none len cap =>
    match optInt cap mx, optInt len hi, optInt 0 lo with
    | some m, some h, some l => if len = 0 ∧ cap = 0 ∧ l = 0 ∧ h = 0 ∧ m = 0 then some (.slice none 0 0) else none
    | _, _, _ => none
  | _ => none

def strsliceV (x : Value) (lo hi : Option Value) : Option Value :=
  match x with
  | .string s =>
    match optInt s.size hi, optInt 0 lo with
    | some h, some l => if 0 ≤ l ∧ l ≤ h ∧ h ≤ s.size then some (.string (s.extract l.toNat h.toNat)) else none
    | _, _ => none
  | _ => none

def iaddrV (esz : Nat) (x i : Value) : Option Value :=
  match x, i with
  | .slice (some ⟨id, off, _⟩) len _, .int _ i => if 0 ≤ i ∧ i < len then some (.pointer (some ⟨id, off + i.toNat * esz, none⟩)) else none
  | _, _ => none

def aaddrV (len esz : Nat) (x i : Value) : Option Value :=
  match x, i with
  | .pointer (some ⟨id, off, none⟩), .int _ i => if 0 ≤ i ∧ i < len then some (.pointer (some ⟨id, off + i.toNat * esz, none⟩)) else none
  | _, _ => none

def partV (agg : Bool) (cs : Array Value) (off n : Nat) : Option Value :=
  if agg then some (.agg (cs.extract off (off + n))) else cs[off]?

def aindexV (agg : Bool) (len esz : Nat) (x i : Value) : Option Value :=
  match x, i with
  | .agg cs, .int _ i => if 0 ≤ i ∧ i < len then partV agg cs (i.toNat * esz) esz else none
  | _, _ => none

def strindexV (x i : Value) : Option Value :=
  match x, i with
  | .string s, .int _ i => if 0 ≤ i then (s[i.toNat]?).map fun b => .int .u8 b.toNat else none
  | _, _ => none

/-- What a slice (or a string) holds, as cells. -/
def Heap.row (H : Heap) (esz : Nat) : Value → Option (Nat × List Value)
  | .slice none 0 _ => some (0, [])
  | .slice (some ⟨id, off, _⟩) len _ =>
    if len = 0 then some (0, []) else
    match H.get id with
    | some (.cells _ _ cs) => if off + len * esz ≤ cs.length then some (len, (cs.drop off).take (len * esz)) else none
    | _ => none
  | .string s => if esz = 1 then some (s.size, s.data.toList.map fun b => .int .u8 b.toNat) else none
  | _ => none

/-- append: a place of a slice's own (exact capacity): in the row if there is room, else a new object; an open one without room: a new object, and the elder one is dead. 'pure': only the new object with exact capacity is allowed. -/
def Heap.append (H : Heap) (id : Nat) (elem : TypeId) (esz bytes : Nat) (pure : Bool) (x y : Value) : Option (Value × Heap) :=
  match H.row esz y with
  | none => none
  | some (n, new) =>
    match x with
    | .slice none 0 0 =>
      if n = 0 then some (.slice none 0 0, H) else
      if n * bytes ≤ 2 ^ 46 ∧ n ≤ 2 ^ 46 then (H.new id (.cells elem false new)).map fun H => (.slice (some ⟨id, 0, some (2 * esz)⟩) n n, H) else none
    | .slice (some ⟨o, off, some ek⟩) len cap =>
      if n = 0 then some (x, H) else
      if ek / 2 ≠ esz ∧ ek ≠ 1 ∧ ¬(len = 0 ∧ cap = 0 ∧ ek % 2 = 1) then none else
      if len + n ≤ cap then
        if pure then none else
        match H.get o with
        | some (.cells e false cs) =>
          if off + (len + n) * esz ≤ cs.length ∧ new.all okCell = true then some (.slice (some ⟨o, off, some ek⟩) (len + n) cap, H.put o (.cells e false (setRange cs (off + len * esz) new))) else none
        | _ => none
      else
        match H.row esz x with
        | none => none
        | some (_, old) =>
          if (len + n) * bytes ≤ 2 ^ 46 ∧ len + n ≤ 2 ^ 46 then
            if ek % 2 = 1 then (H.new id (.cells elem false (old ++ new))).map fun H => (.slice (some ⟨id, 0, some (2 * esz)⟩) (len + n) (len + n), H)
            else if pure then none else
              match H.get o with
              | some (.cells _ false cs) =>
                if new.all okCell = true ∧ off + len * esz ≤ cs.length then
                  (H.new id (.cells elem false (old ++ new))).map fun H => (.slice (some ⟨id, 0, some (2 * esz)⟩) (len + n) (len + n), H.put o .dead) else none
              | _ => none
          else none
    | _ => none

def Heap.mkslice (H : Heap) (id : Nat) (elem : TypeId) (esz bytes : Nat) (zero : List Value) (len cap : Value) : Option (Value × Heap) :=
  match len, cap with
  | .int _ l, .int _ c =>
    if 0 ≤ l ∧ l ≤ c ∧ c ≤ 2 ^ 46 ∧ c * bytes ≤ 2 ^ 46 then
      (H.new id (.cells elem false (List.replicate c.toNat zero).flatten)).map fun H => (.slice (some ⟨id, 0, some (2 * esz + 1)⟩) l.toNat c.toNat, H)
    else none
  | _, _ => none

/-- Does a slice's value stand here, not a string's? -/
def isSlc : Value → Bool
  | .slice _ _ _ => true
  | _ => false

def Heap.copy (H : Heap) (esz : Nat) (x y : Value) : Option (Value × Heap) :=
  if isSlc y then
    match H.row esz y, x with
    | some (_, _), .slice none 0 0 => some (.int .i64 0, H)
    | some (n, new), .slice (some ⟨o, off, _⟩) len _ =>
      if min n len = 0 then some (.int .i64 0, H) else
      match H.get o with
      | some (.cells e false cs) =>
        if off + min n len * esz ≤ cs.length ∧ new.all okCell = true then some (.int .i64 (min n len : Nat), H.put o (.cells e false (setRange cs off (new.take (min n len * esz))))) else none
      | _ => none
    | _, _ => none
  else none

/-! ### maps -/
def plain : Value → Bool
  | .bool _ | .int _ _ | .string _ => true
  | _ => false

def kindOk : LK → Value → Bool
  | .b, .bool _ => true
  | .i, .int _ _ => true
  | .s, .string _ => true
  | _, _ => false

def kindsOk : List LK → List Value → Bool
  | [], [] => true
  | k :: ks, v :: vs => kindOk k v && kindsOk ks vs
  | _, _ => false

/-- Does a key fit? -/
def keyOk (m : EqM) (k : Value) : Bool :=
  match m, k with
  | .lf l, k => kindOk l k
  | .cells l, .agg cs => kindsOk l cs.toList
  | _, _ => false

abbrev Entries := List (Value × Value × Nat)

def findE (m : EqM) (k : Value) : Entries → Nat → Option (Option (Nat × Value × Nat))
  | [], _ => some none
  | (k', v, b) :: es, i => match eqBy m k k' with
    | some true => some (some (i, v, b))
    | some false => findE m k es (i + 1)
    | none => none

def Heap.entries (H : Heap) : Value → Option (Entries × Nat)
  | .map none => some ([], 0)
  | .map (some id) => match H.get id with
    | some (.map es c) => some (es, c)
    | _ => none
  | _ => none

def setVal : Entries → Nat → Value → Entries
  | [], _, _ => []
  | (k, _, b) :: es, 0, v => (k, v, b) :: es
  | e :: es, i + 1, v => e :: setVal es i v

def Heap.lookup (H : Heap) (m : EqM) (zero : Value) (ok : Bool) (x i : Value) : Option Value :=
  if keyOk m i then
    match H.entries x with
    | some (es, _) => match findE m i es 0 with
      | some (some (_, v, _)) => some (if ok then .tuple #[v, .bool true] else v)
      | some none => some (if ok then .tuple #[zero, .bool false] else zero)
      | none => none
    | none => none
  else none

def Heap.mapset (H : Heap) (m : EqM) (x i v : Value) : Option Heap :=
  match x with
  | .map (some id) => if keyOk m i then
      match H.get id with
      | some (.map es c) => match findE m i es 0 with
        | some (some (n, _, _)) => some (H.put id (.map (setVal es n v) c))
        | some none => some (H.put id (.map (es ++ [(i, v, c)]) (c + 1)))
        | none => none
      | _ => none
    else none
  | _ => none

def Heap.mapentry (H : Heap) (m : EqM) (zero : Value) (x i : Value) : Option (Value × Heap) :=
  match x with
  | .map (some id) => if keyOk m i then
      match H.get id with
      | some (.map es c) => match findE m i es 0 with
        | some (some (_, v, b)) => some (.tuple #[v, .int .i64 b], H)
        | some none => some (.tuple #[zero, .int .i64 c], H.put id (.map (es ++ [(i, zero, c)]) (c + 1)))
        | none => none
      | _ => none
    else none
  | _ => none

def setBorn : Entries → Int → Value → Option Entries
  | [], _, _ => none
  | (k, u, b) :: es, s, v => if (b : Int) = s then some ((k, v, b) :: es) else (setBorn es s v).map fun r => (k, u, b) :: r

def Heap.entryset (H : Heap) (x s v : Value) : Option Heap :=
  match x, s with
  | .map (some id), .int _ n => match H.get id with
    | some (.map es c) => (setBorn es n v).map fun es => H.put id (.map es c)
    | _ => none
  | _, _ => none

def delE : Entries → Nat → Entries
  | [], _ => []
  | _ :: es, 0 => es
  | e :: es, i + 1 => e :: delE es i

def Heap.mapdel (H : Heap) (m : EqM) (x i : Value) : Option Heap :=
  if keyOk m i then
    match x with
    | .map none => some H
    | .map (some id) => match H.get id with
      | some (.map es c) => match findE m i es 0 with
        | some (some (n, _, _)) => some (H.put id (.map (delE es n) c))
        | some none => some H
        | none => none
      | _ => none
    | _ => none
  else none

def Heap.mapclear (H : Heap) : Value → Option Heap
  | .map none => some H
  | .map (some id) => match H.get id with
    | some (.map _ c) => some (H.put id (.map [] c))
    | _ => none
  | _ => none

def Heap.clear (H : Heap) (esz : Nat) (zero : List Value) : Value → Option Heap
  | .slice none _ _ => some H
  | .slice (some ⟨o, off, _⟩) len _ =>
    if len = 0 then some H else
    match H.get o with
    | some (.cells e false cs) => if zero.length = esz ∧ off + len * esz ≤ cs.length then some (H.put o (.cells e false (setRange cs off (List.replicate len zero).flatten))) else none
    | _ => none
  | _ => none

def bytesOf : List Value → Option (List UInt8)
  | [] => some []
  | .int .u8 n :: l => (bytesOf l).map fun r => UInt8.ofNat n.toNat :: r
  | _ => none

def Heap.b2s (H : Heap) (x : Value) : Option Value :=
  match x with
  | .slice none _ _ => some (.string .empty)
  | .slice (some _) _ _ => match H.row 1 x with
    | some (_, cs) => (bytesOf cs).map fun l => .string ⟨l.toArray⟩
    | none => none
  | _ => none

def capV : Value → Option Value
  | .slice none 0 0 => some (.int .i64 0)
  | .slice (some ⟨_, _, some m⟩) _ cap => if m % 2 = 1 then some (.int .i64 cap) else none
  | _ => none

/-- A slice of an array in memory: exact, of unknown room behind it. -/
def asliceV (n esz : Nat) (x : Value) (lo hi : Option Value) : Option Value :=
  match x, optInt n hi, optInt 0 lo with
  | .pointer (some ⟨id, off, none⟩), some h, some l =>
    if 0 ≤ l ∧ l ≤ h ∧ h ≤ n then some (.slice (some ⟨id, off + l.toNat * esz, some 1⟩) (h.toNat - l.toNat) (n - l.toNat)) else none
  | _, _, _ => none

def minmaxV (max : Bool) : Value → Value → Option Value
  | .int k x, .int _ y => some (.int k (if max then (if y > x then y else x) else (if y < x then y else x)))
  | _, _ => none

def tassertV (t : TypeId) (z : Option Value) : Value → Option Value
  | .iface u v => if u = t then some (match z with | some _ => .tuple #[v, .bool true] | none => v) else z.map fun z => .tuple #[z, .bool false]
  | .nilIface => z.map fun z => .tuple #[z, .bool false]
  | _ => none

def isnilV (neg : Bool) : Value → Option Value
  | .nilIface => some (.bool !neg)
  | .iface _ _ => some (.bool neg)
  | _ => none

def evI (cl : Nat → List Value → Heap → Option (Value × Heap)) (b : Nat) (T : Tr Value) (H : Heap) : I → Option (Value × Heap)
  | .mv x => some (x.ev T, H)
  | .const v => some (v, H)
  | .pick c x y => match c.ev T with
    | .bool t => some (bif t then x.ev T else y.ev T, H)
    | _ => none
  | .alloc k elem zero => (H.new (b + k) (.cells elem false zero)).map fun H => (.pointer (some ⟨b + k, 0, none⟩), H)
  | .box k elem x => if okAll (x.ev T) then (H.new (b + k) (.cells elem false (x.ev T).cells.toList)).map fun H => (.pointer (some ⟨b + k, 0, none⟩), H) else none
  | .build zero parts => (fillP zero.toArray (evParts T parts)).map fun cs => (.agg cs, H)
  | .bslice k elem esz len zero parts =>
    match fillP zero.toArray (evParts T parts) with
    | some cs => (H.new (b + k) (.cells elem false cs.toList)).map fun H => (.slice (some ⟨b + k, 0, some (2 * esz + 1)⟩) len len, H)
    | none => none
  | .load agg n a => (H.loadv agg n (a.ev T)).map fun v => (v, H)
  | .store n a x => (H.storev n (a.ev T) (x.ev T)).map fun H => (undef, H)
  | .nilchk x => match x.ev T with
    | .pointer (some a) => some (.pointer (some a), H)
    | .func (.func g) f c => some (.func (.func g) f c, H)
    | _ => none
  | .bin op m x y => (binV op m (x.ev T) (y.ev T)).map fun v => (v, H)
  | .un op x => (unV op (x.ev T)).map fun v => (v, H)
  | .conv k x => match x.ev T with
    | .int _ n => some (.int k (k.wrap n), H)
    | _ => none
  | .mkfn fn first captured => some (.func fn (first.map (Opd.ev T)).toArray (captured.map (Opd.ev T)).toArray, H)
  | .mkslice k elem esz bytes zero len cap => H.mkslice (b + k) elem esz bytes zero (len.ev T) (cap.ev T)
  | .slice esz x lo hi mx => (sliceV esz (x.ev T) (lo.map (Opd.ev T)) (hi.map (Opd.ev T)) (mx.map (Opd.ev T))).map fun v => (v, H)
  | .strslice x lo hi => (strsliceV (x.ev T) (lo.map (Opd.ev T)) (hi.map (Opd.ev T))).map fun v => (v, H)
  | .faddr off x => match x.ev T with
    | .pointer (some ⟨id, o, none⟩) => some (.pointer (some ⟨id, o + off, none⟩), H)
    | _ => none
  | .field agg off n x => match x.ev T with
    | .agg cs => (partV agg cs off n).map fun v => (v, H)
    | _ => none
  | .iaddr esz x i => (iaddrV esz (x.ev T) (i.ev T)).map fun v => (v, H)
  | .aaddr len esz x i => (aaddrV len esz (x.ev T) (i.ev T)).map fun v => (v, H)
  | .aindex agg len esz x i => (aindexV agg len esz (x.ev T) (i.ev T)).map fun v => (v, H)
  | .strindex x i => (strindexV (x.ev T) (i.ev T)).map fun v => (v, H)
  | .ext i x => match x.ev T with
    | .tuple vs => (vs[i]?).map fun v => (v, H)
    | _ => none
  | .call f args => match f.ev T with
    | .func (.func g) first captured => cl g (first.toList ++ args.map (Opd.ev T) ++ captured.toList) H
    | _ => none
  | .len x => match x.ev T with
    | .slice _ n _ => some (.int .i64 n, H)
    | _ => none
  | .strlen x => match x.ev T with
    | .string s => some (.int .i64 s.size, H)
    | _ => none
  | .append k elem esz bytes pure x y => H.append (b + k) elem esz bytes pure (x.ev T) (y.ev T)
  | .minmax max x y => (minmaxV max (x.ev T) (y.ev T)).map fun v => (v, H)
  | .copy esz x y => H.copy esz (x.ev T) (y.ev T)
  | .stuck => none
  | .mkmap k => (H.new (b + k) (.map [] 0)).map fun H => (.map (some (b + k)), H)
  | .lookup m zero ok x i => (H.lookup m zero ok (x.ev T) (i.ev T)).map fun v => (v, H)
  | .mapset m x i v => (H.mapset m (x.ev T) (i.ev T) (v.ev T)).map fun H => (undef, H)
  | .mapentry m zero x i => H.mapentry m zero (x.ev T) (i.ev T)
  | .entryset x s v => (H.entryset (x.ev T) (s.ev T) (v.ev T)).map fun H => (undef, H)
  | .maplen x => (H.entries (x.ev T)).map fun e => (.int .i64 e.1.length, H)
  | .mapdel m x i => (H.mapdel m (x.ev T) (i.ev T)).map fun H => (undef, H)
  | .clear esz zero x => (H.clear esz zero (x.ev T)).map fun H => (undef, H)
  | .mapclear x => (H.mapclear (x.ev T)).map fun H => (undef, H)
  | .cap x => (capV (x.ev T)).map fun v => (v, H)
  | .aslice n esz x lo hi => (asliceV n esz (x.ev T) (lo.map (Opd.ev T)) (hi.map (Opd.ev T))).map fun v => (v, H)
  | .b2s x => (H.b2s (x.ev T)).map fun v => (v, H)
  | .mkif t x => some (.iface t (x.ev T), H)
  | .tassert t z x => (tassertV t z (x.ev T)).map fun v => (v, H)
  | .isnil neg x => (isnilV neg (x.ev T)).map fun v => (v, H)

/-- What was noted of an operation: the heap before a call, or what a load has read. -/
inductive Lg where
  | heap (H : Heap)
  | rng (id off n : Nat)
  deriving Inhabited

/-- A region's state: temporaries, the heap, and what was noted of some operations. -/
structure St where
  T : Tr Value
  H : Heap
  log : Tr Lg
  deriving Inhabited

def veq1 : Value → Value → Bool
  | .int k a, .int k' b => k == k' && a == b
  | .bool a, .bool b => a == b
  | .string a, .string b => a == b
  | .pointer a, .pointer b => a == b
  | .slice a l c, .slice a' l' c' => a == a' && l == l' && c == c'
  | .nilFunc, .nilFunc => true
  | .nilIface, .nilIface => true
  | .map a, .map b => a == b
  | _, _ => false

def veqs : List Value → List Value → Bool
  | [], [] => true
  | x :: l, y :: l' => veq1 x y && veqs l l'
  | _, _ => false

def veq : Value → Value → Bool
  | .agg a, .agg b => veqs a.toList b.toList
  | a, b => veq1 a b

def chk1 (T : Tr Value) (i : I) (v : Value) : Option Lg → Bool
  | some (.heap H) => match i with
    | .load agg n a => (match H.loadv agg n (a.ev T) with | some u => veq u v | none => false)
    | _ => false
  | some (.rng id off m) => match i with
    | .load _ _ a => (match a.ev T with | .pointer (some ⟨id', _, none⟩) => id != id' | _ => false)
    | .store n a _ => (match a.ev T with | .pointer (some ⟨id', off', none⟩) => id != id' || Nat.ble (off + m) off' || Nat.ble (off' + n) off | _ => false)
    | _ => false
  | none => match i with
    | .store _ _ _ => true
    | .load _ _ _ => true
    | _ => false

def chkOk (log : Tr Lg) (T : Tr Value) (i : I) (v : Value) : List Nat → Bool
  | [] => true
  | c :: cs => chk1 T i v (log.get c) && chkOk log T i v cs

def I.isCall : I → Bool
  | .call .. => true
  | _ => false

/-- What is noted. -/
def note (b : Nat) (T : Tr Value) (H : Heap) : I → Option Lg
  | .call _ _ => some (.heap H)
  | .alloc k _ _ | .box k _ _ | .bslice k _ _ _ _ _ | .mkslice k _ _ _ _ _ _ | .mkmap k => some (.rng (b + k) 0 0)
  | .load agg n a => match a.ev T with
    | .pointer (some ⟨id, off, none⟩) => some (.rng id off (if agg then n else 1))
    | _ => none
  | _ => none

def lg (b : Nat) (i : Ins) (s : St) : Tr Lg := bif i.lg then (match i.wanted s.T, note b s.T s.H i.op with | some true, some e => s.log.set i.idx e | _, _ => s.log) else s.log

def evW (cl : Nat → List Value → Heap → Option (Value × Heap)) (b : Nat) (i : Ins) (s : St) : Option (Value × Heap) :=
  match i.wanted s.T with
  | some true =>
    match evI cl b s.T s.H i.op with
    | some (v, H) => if chkOk s.log s.T i.op v i.chk then some (v, H) else none
    | none => none
  | some false => some (undef, s.H)
  | none => none

def evIns (cl : Nat → List Value → Heap → Option (Value × Heap)) (b : Nat) (i : Ins) (s : St) : Option St :=
  match evW cl b i s with
  | some (v, H) => some ⟨putT s.T i.dst v, H, lg b i s⟩
  | none => none

def evSeq (cl : Nat → List Value → Heap → Option (Value × Heap)) (b : Nat) : List Ins → St → Option St
  | [], s => some s
  | i :: l, s => match evIns cl b i s with
    | some s => evSeq cl b l s
    | none => none

inductive Ex where
  | normal
  | exit (id : Nat)
  | ret
  | pan (v : Value)
  deriving Inhabited

def iter (body : Tr Value → Heap → Option (Ex × Tr Value × Heap)) : Nat → Tr Value → Heap → Option (Ex × Tr Value × Heap)
  | 0, _, _ => none
  | n + 1, T, H => match body T H with
    | some (.normal, T, H) => iter body n T H
    | r => r

def evC (cl : Nat → List Value → Heap → Option (Value × Heap)) (n : Nat) : Cd → Tr Value → Heap → Option (Ex × Tr Value × Heap)
  | .skip, T, H => some (.normal, T, H)
  | .region na ops, T, H => match evSeq (noP cl) H.size ops ⟨T, Heap.ext na H, .nil⟩ with
    | some s => some (.normal, s.T, s.H)
    | none => none
  | .seq a b, T, H => match evC cl n a T H with
    | some (.normal, T, H) => evC cl n b T H
    | r => r
  | .cond c a b, T, H => match c.ev T with
    | .bool t => bif t then evC cl n a T H else evC cl n b T H
    | _ => none
  | .block id c, T, H => match evC cl n c T H with
    | some (.exit id', T, H) => bif id' == id then some (.normal, T, H) else some (.exit id', T, H)
    | r => r
  | .loop c, T, H => iter (fun T H => evC cl n c T H) n T H
  | .exit id, T, H => some (.exit id, T, H)
  | .ret, T, H => some (.ret, T, H)
  | .callp d f as, T, H => match f.ev T with
    | .func (.func g) first captured => match cl g (first.toList ++ as.map (Opd.ev T) ++ captured.toList) H with
      | some (v, H') => match isPan v with
        | none => some (.normal, putT T d v, H')
        | some u => some (.pan u, T, H')
      | none => none
    | _ => none
  | .panic x, T, H => match x.ev T with
    | .iface t v => some (.pan (.iface t v), T, H)
    | _ => none

def evRes (T : Tr Value) (H : Heap) : List Res → Option (List Value)
  | [] => some []
  | .tmp t :: rs => (evRes T H rs).map fun vs => rd T t :: vs
  | .cell t agg n :: rs => match H.loadv agg n (rd T t), evRes T H rs with
    | some v, some vs => some (v :: vs)
    | _, _ => none

def packRes : List Value → Value
  | [v] => v
  | vs => .tuple vs.toArray

/-- What calls of some functions are known to answer; the heap is as before, but for numbers that are used up. -/
abbrev Known := Nat → List Value → Heap → Option (Value × Nat)

def Heap.upto (H : Heap) (n : Nat) : Heap := ⟨n, H.tr⟩

/-- The deferred closure's call, behind a panic or a return; none where it panics itself. -/
def evD (Γ : Nat → Option FnI) (cl : Nat → List Value → Heap → Option (Value × Heap)) (k : Nat) (c pv : Value) (H : Heap) : Option Heap :=
  match c with
  | .func (.func g) first captured => match Γ g with
    | some gn => match gn.dfr, gn.recv, gn.res with
      | none, some d, [] => match evC cl k gn.body ((Tr.ofList (first.toList ++ captured.toList) 0 .nil).set d pv) H with
        | some (.normal, _, H') => some H'
        | some (.ret, _, H') => some H'
        | _ => none
      | _, _, _ => none
    | none => none
  | _ => none

def evR (res : List Res) (T : Tr Value) (H : Heap) : Option (Value × Heap) := (evRes T H res).map fun vs => (packRes vs, H)

def evB (Γ : Nat → Option FnI) (cl : Nat → List Value → Heap → Option (Value × Heap)) (k f : Nat) (args : List Value) (H : Heap) : Option (Value × Heap) :=
  match Γ f with
  | none => none
  | some fn => match fn.recv with
    | some _ => none
    | none => match fn.dfr with
      | none => match evC cl k fn.body (Tr.ofList args 0 .nil) H with
        | some (.normal, T, H) => evR fn.res T H
        | some (.ret, T, H) => evR fn.res T H
        | some (.pan v, _, H) => some (pan v, H)
        | _ => none
      | some (c, rest) => match evC cl k fn.body (Tr.ofList args 0 .nil) H with
        | some (.normal, T, H) => match evC cl k rest T H with
          | some (.normal, T', H) => match evD Γ cl k (c.ev T) .nilIface H with
            | some H => evR fn.res T' H
            | none => none
          | some (.ret, T', H) => match evD Γ cl k (c.ev T) .nilIface H with
            | some H => evR fn.res T' H
            | none => none
          | some (.pan v, T', H) => match evD Γ cl k (c.ev T) v H with
            | some H => evR fn.res T' H
            | none => none
          | _ => none
        | _ => none

def evF (Γ : Nat → Option FnI) (ov : Known) : Nat → Nat → List Value → Heap → Option (Value × Heap)
  | 0, _, _, _ => none
  | k + 1, f, args, H => match ov f args H with
    | some (v, n) => some (v, H.upto n)
    | none => evB Γ (evF Γ ov k) k f args H

end Go.Proofs.YtiphbdhclldllaaGreatDoor.Mx
