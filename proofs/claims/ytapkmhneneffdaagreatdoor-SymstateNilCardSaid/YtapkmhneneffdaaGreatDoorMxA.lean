/- A part of the proof that the law answers true at every input: the texts ZadA, ZadB, ZadC, ZadD, ZadE; no conditions. -/
import Derived.Orders
import Derived.Tactics
import Derived.WalkKit
set_option linter.unusedSimpArgs false
set_option linter.unusedVariables false
set_option linter.constructorNameAsVariable false

/-! The text ZadA. -/
namespace Go.Proofs.YtapkmhneneffdaaGreatDoor.Mx
open Go

/-! ### tries -/
inductive Tr (α : Type) where
  | nil
  | node (v : Option α) (l r : Tr α)
  deriving Inhabited

def Tr.get {α : Type} : Tr α → Nat → Option α
  | .nil, _ => none
  | .node v l r, n => bif n == 0 then v else bif n % 2 == 1 then l.get (n / 2) else r.get (n / 2 - 1)

def Tr.setF {α : Type} : Nat → Tr α → Nat → α → Tr α
  | 0, t, _, _ => t
  | f + 1, .nil, n, x => bif n == 0 then .node (some x) .nil .nil else bif n % 2 == 1 then .node none (Tr.setF f .nil (n / 2) x) .nil else .node none .nil (Tr.setF f .nil (n / 2 - 1) x)
  | f + 1, .node v l r, n, x => bif n == 0 then .node (some x) l r else bif n % 2 == 1 then .node v (Tr.setF f l (n / 2) x) r else .node v l (Tr.setF f r (n / 2 - 1) x)

def Tr.set {α : Type} (t : Tr α) (n : Nat) (x : α) : Tr α := Tr.setF (n + 1) t n x

theorem Tr.get_zero {α : Type} (v : Option α) (l r : Tr α) : (Tr.node v l r).get 0 = v := by simp [Tr.get]
theorem Tr.get_odd {α : Type} (v : Option α) (l r : Tr α) (k : Nat) : (Tr.node v l r).get (2 * k + 1) = l.get k := by
  have h1 : ((2 * k + 1) == 0) = false := by simp
  have h2 : ((2 * k + 1) % 2 == 1) = true := by simp <;> omega
  have h3 : (2 * k + 1) / 2 = k := by omega
  simp only [Tr.get, h1, h2, h3, cond_false, cond_true]
theorem Tr.get_even {α : Type} (v : Option α) (l r : Tr α) (k : Nat) : (Tr.node v l r).get (2 * k + 2) = r.get k := by
  have h1 : ((2 * k + 2) == 0) = false := by simp
  have h2 : ((2 * k + 2) % 2 == 1) = false := by simp <;> omega
  have h3 : (2 * k + 2) / 2 - 1 = k := by omega
  simp only [Tr.get, h1, h2, h3, cond_false]
def Tr.split {α : Type} : Tr α → Option α × Tr α × Tr α
  | .nil => (none, .nil, .nil)
  | .node v l r => (v, l, r)
theorem Tr.setF_zero {α : Type} (f : Nat) (t : Tr α) (x : α) : Tr.setF (f + 1) t 0 x = .node (some x) t.split.2.1 t.split.2.2 := by
  cases t <;> simp [Tr.setF, Tr.split]
theorem Tr.setF_odd {α : Type} (f : Nat) (t : Tr α) (k : Nat) (x : α) : Tr.setF (f + 1) t (2 * k + 1) x = .node t.split.1 (Tr.setF f t.split.2.1 k x) t.split.2.2 := by
  have h1 : ((2 * k + 1) == 0) = false := by simp
  have h2 : ((2 * k + 1) % 2 == 1) = true := by simp <;> omega
  have h3 : (2 * k + 1) / 2 = k := by omega
  cases t <;> simp only [Tr.setF, Tr.split, h1, h2, h3, cond_false, cond_true]
theorem Tr.setF_even {α : Type} (f : Nat) (t : Tr α) (k : Nat) (x : α) : Tr.setF (f + 1) t (2 * k + 2) x = .node t.split.1 t.split.2.1 (Tr.setF f t.split.2.2 k x) := by
  have h1 : ((2 * k + 2) == 0) = false := by simp
  have h2 : ((2 * k + 2) % 2 == 1) = false := by simp <;> omega
  have h3 : (2 * k + 2) / 2 - 1 = k := by omega
  cases t <;> simp only [Tr.setF, Tr.split, h1, h2, h3, cond_false]
theorem Tr.get_split {α : Type} (t : Tr α) (m : Nat) : t.get m = (Tr.node t.split.1 t.split.2.1 t.split.2.2).get m := by
  cases t with
  | nil => simp [Tr.split, Tr.get]
  | node v l r => rfl
theorem nat_cases (n : Nat) : n = 0 ∨ (∃ k, n = 2 * k + 1) ∨ (∃ k, n = 2 * k + 2) := by
  by_cases h0 : n = 0
  · exact .inl h0
  · by_cases h1 : n % 2 = 1
    · exact .inr (.inl ⟨n / 2, by omega⟩)
    · exact .inr (.inr ⟨n / 2 - 1, by omega⟩)

theorem Tr.get_setF_same {α : Type} (x : α) : ∀ (f : Nat) (t : Tr α) (n : Nat), n < f → (Tr.setF f t n x).get n = some x := by
  intro f
  induction f with
  | zero => intro t n h; omega
  | succ f ih =>
    intro t n h
    rcases nat_cases n with rfl | ⟨k, rfl⟩ | ⟨k, rfl⟩
    · rw [Tr.setF_zero, Tr.get_zero]
    · rw [Tr.setF_odd, Tr.get_odd]; exact ih _ _ (by omega)
    · rw [Tr.setF_even, Tr.get_even]; exact ih _ _ (by omega)

theorem Tr.get_setF_ne {α : Type} (x : α) : ∀ (f : Nat) (t : Tr α) (n m : Nat), n ≠ m → (Tr.setF f t n x).get m = t.get m := by
  intro f
  induction f with
  | zero => intro t n m h; rfl
  | succ f ih =>
    intro t n m h
    rw [Tr.get_split t m]
    rcases nat_cases n with rfl | ⟨k, rfl⟩ | ⟨k, rfl⟩ <;> rcases nat_cases m with rfl | ⟨j, rfl⟩ | ⟨j, rfl⟩ <;>
      (try exact absurd rfl h) <;> simp only [Tr.setF_zero, Tr.setF_odd, Tr.setF_even, Tr.get_zero, Tr.get_odd, Tr.get_even] <;>
      exact ih _ _ _ (by omega)

theorem Tr.setF_comm {α : Type} (x y : α) : ∀ (f g : Nat) (t : Tr α) (n m : Nat), n ≠ m → n < f → m < g →
    Tr.setF f (Tr.setF g t m y) n x = Tr.setF g (Tr.setF f t n x) m y := by
  intro f
  induction f with
  | zero => intro g t n m _ h; omega
  | succ f ih =>
    intro g t n m hne hf hg
    cases g with
    | zero => omega
    | succ g =>
      rcases nat_cases n with rfl | ⟨k, rfl⟩ | ⟨k, rfl⟩ <;> rcases nat_cases m with rfl | ⟨j, rfl⟩ | ⟨j, rfl⟩ <;>
        (try exact absurd rfl hne) <;> simp only [Tr.setF_zero, Tr.setF_odd, Tr.setF_even, Tr.split] <;>
        rw [ih g _ k j (by omega) (by omega) (by omega)]

theorem Tr.get_set_same {α : Type} (t : Tr α) (n : Nat) (x : α) : (t.set n x).get n = some x := Tr.get_setF_same x _ t n (by omega)
theorem Tr.get_set_ne {α : Type} (t : Tr α) (n m : Nat) (x : α) (h : n ≠ m) : (t.set n x).get m = t.get m := Tr.get_setF_ne x _ t n m h
theorem Tr.set_comm {α : Type} (t : Tr α) (n m : Nat) (x y : α) (h : n ≠ m) : (t.set m y).set n x = (t.set n x).set m y :=
  Tr.setF_comm x y _ _ t n m h (by omega) (by omega)
theorem Tr.get_set {α : Type} (t : Tr α) (n m : Nat) (x : α) : (t.set n x).get m = if n = m then some x else t.get m := by
  by_cases h : n = m
  · subst h; simp [Tr.get_set_same]
  · simp [h, Tr.get_set_ne t n m x h]

def Tr.ofList {α : Type} : List α → Nat → Tr α → Tr α
  | [], _, t => t
  | x :: l, n, t => Tr.ofList l (n + 1) (t.set n x)

/-! ### the heap -/
inductive Ob where
  | pend
  | dead
  | cells (elem : TypeId) (ro : Bool) (cs : List Value)
  | map (es : List (Value × Value × Nat)) (clock : Nat)
  deriving Inhabited

structure Heap where
  size : Nat
  tr : Tr Ob
  deriving Inhabited

def Heap.get (H : Heap) (id : Nat) : Option Ob := H.tr.get id
def Heap.put (H : Heap) (id : Nat) (o : Ob) : Heap := { H with tr := H.tr.set id o }
def Heap.ext : Nat → Heap → Heap
  | 0, H => H
  | n + 1, H => Heap.ext n { size := H.size + 1, tr := H.tr.set H.size .pend }

theorem Heap.get_put (H : Heap) (id i : Nat) (o : Ob) : (H.put id o).get i = if id = i then some o else H.get i := Tr.get_set _ _ _ _
theorem Heap.size_put (H : Heap) (id : Nat) (o : Ob) : (H.put id o).size = H.size := rfl
theorem Heap.put_comm (H : Heap) (n m : Nat) (x y : Ob) (h : n ≠ m) : (H.put m y).put n x = (H.put n x).put m y := by
  simp only [Heap.put]; rw [Tr.set_comm _ _ _ _ _ h]
theorem Heap.size_ext : ∀ (n : Nat) (H : Heap), (Heap.ext n H).size = H.size + n
  | 0, H => rfl
  | n + 1, H => by simp only [Heap.ext, Heap.size_ext n]; omega
theorem Heap.get_ext : ∀ (n : Nat) (H : Heap) (i : Nat), (Heap.ext n H).get i = if H.size ≤ i ∧ i < H.size + n then some .pend else H.get i
  | 0, H, i => by
    have : ¬ (H.size ≤ i ∧ i < H.size + 0) := by omega
    rw [if_neg this]; rfl
  | n + 1, H, i => by
    simp only [Heap.ext]
    rw [Heap.get_ext n]
    simp only [Heap.get, Tr.get_set]
    by_cases h1 : H.size + 1 ≤ i ∧ i < H.size + 1 + n
    · have : H.size ≤ i ∧ i < H.size + (n + 1) := by omega
      simp [h1, this]
    · by_cases h2 : H.size = i
      · have : H.size ≤ i ∧ i < H.size + (n + 1) := by omega
        simp [h1, h2, this]
      · have : ¬ (H.size ≤ i ∧ i < H.size + (n + 1)) := by omega
        simp [h1, h2, this]

/-! ### the code -/
inductive Opd where
  | t (n : Nat)
  | c (v : Value)
  | f (g : Nat)
  | gl (n : Nat)
  deriving Inhabited

/-- The kinds of plain values. -/
inductive LK where
  | b
  | i
  | s
  deriving Inhabited, DecidableEq

/-- How two values are compared. -/
inductive EqM where
  | lf (k : LK)
  | ptr
  | slc
  | fnc
  | no
  | cells (l : List LK)
  | mp
  deriving Inhabited

inductive I where
  | mv (x : Opd)
  | pick (c a b : Opd)
  | alloc (k : Nat) (elem : TypeId) (zero : List Value)
  | box (k : Nat) (elem : TypeId) (x : Opd)
  | build (zero : List Value) (parts : List (Nat × Nat × Opd))
  | bslice (k : Nat) (elem : TypeId) (esz len : Nat) (zero : List Value) (parts : List (Nat × Nat × Opd))
  | load (agg : Bool) (n : Nat) (a : Opd)
  | store (n : Nat) (a x : Opd)
  | nilchk (x : Opd)
  | bin (op : BinOp) (m : EqM) (x y : Opd)
  | un (op : UnOp) (x : Opd)
  | conv (k : IntKind) (x : Opd)
  | mkfn (fn : Fn) (first captured : List Opd)
  | mkslice (k : Nat) (elem : TypeId) (esz bytes : Nat) (zero : List Value) (len cap : Opd)
  | slice (esz : Nat) (x : Opd) (lo hi mx : Option Opd)
  | strslice (x : Opd) (lo hi : Option Opd)
  | faddr (off : Nat) (x : Opd)
  | field (agg : Bool) (off n : Nat) (x : Opd)
  | iaddr (esz : Nat) (x i : Opd)
  | aaddr (len esz : Nat) (x i : Opd)
  | aindex (agg : Bool) (len esz : Nat) (x i : Opd)
  | strindex (x i : Opd)
  | ext (i : Nat) (x : Opd)
  | call (f : Opd) (args : List Opd)
  | len (x : Opd)
  | strlen (x : Opd)
  | const (v : Value)
  | append (k : Nat) (elem : TypeId) (esz bytes : Nat) (pure : Bool) (x y : Opd)
  | minmax (max : Bool) (x y : Opd)
  | copy (esz : Nat) (x y : Opd)
  | stuck
  | mkmap (k : Nat)
  | lookup (m : EqM) (zero : Value) (ok : Bool) (x i : Opd)
  | mapset (m : EqM) (x i v : Opd)
  | mapentry (m : EqM) (zero : Value) (x i : Opd)
  | entryset (x s v : Opd)
  | maplen (x : Opd)
  | mapdel (m : EqM) (x i : Opd)
  | clear (esz : Nat) (zero : List Value) (x : Opd)
  | mapclear (x : Opd)
  | cap (x : Opd)
  | aslice (n esz : Nat) (x : Opd) (lo hi : Option Opd)
  | b2s (x : Opd)
  | mkif (t : TypeId) (x : Opd)
  | tassert (t : TypeId) (zero : Option Value) (x : Opd)
  | isnil (neg : Bool) (x : Opd)
  deriving Inhabited

structure Ins where
  idx : Nat
  dst : Option Nat
  guard : Option (Nat × Bool)
  op : I
  chk : List Nat
  lg : Bool
  deriving Inhabited

inductive Cd where
  | skip
  | region (na : Nat) (ops : List Ins)
  | seq (a b : Cd)
  | cond (c : Opd) (a b : Cd)
  | block (id : Nat) (c : Cd)
  | loop (c : Cd)
  | exit (id : Nat)
  | ret
  | callp (dst : Option Nat) (f : Opd) (args : List Opd)
  | panic (x : Opd)
  deriving Inhabited

inductive Res where
  | tmp (t : Nat)
  | cell (t : Nat) (agg : Bool) (n : Nat)
  deriving Inhabited

/-- dfr: a deferred closure, and the code behind its being deferred. recv: the code is a deferred closure's, and this temporary holds what is recovered. -/
structure FnI where
  res : List Res
  body : Cd
  dfr : Option (Opd × Cd)
  recv : Option Nat
  deriving Inhabited

/-- The mark of a call that ends in a panic. -/
def pan (v : Value) : Value := .tuple #[.chan (some 1), v]
def isPan : Value → Option Value
  | .tuple a => match a.toList with
    | [.chan (some 1), v] => some v
    | _ => none
  | _ => none
theorem isPan_pan (v : Value) : isPan (pan v) = some v := rfl

/-- Calls that end in a panic are left out. -/
def noP (cl : Nat → List Value → Heap → Option (Value × Heap)) : Nat → List Value → Heap → Option (Value × Heap) := fun g as H =>
  match cl g as H with
  | some (v, H') => match isPan v with
    | none => some (v, H')
    | some _ => none
  | none => none

/-! ### evaluation -/
def rd (T : Tr Value) (t : Nat) : Value := (T.get t).getD undef
def Opd.ev (T : Tr Value) : Opd → Value
  | .t n => rd T n
  | .c v => v
  | .f g => .func (.func g) #[] #[]
  | .gl n => .pointer (some ⟨n, 0, none⟩)

def putT (T : Tr Value) : Option Nat → Value → Tr Value
  | some d, v => T.set d v
  | none, _ => T

/-- The value of which nothing is known. -/
def junk : Value := .chan (some 0)

/-- A cell of which nothing is known. -/
def opq : Value := .complex .f64 0 0

def okCell : Value → Bool
  | .agg _ | .tuple _ | .chan _ => false
  | _ => true

def okAll (v : Value) : Bool := v.cells.toList.all okCell

def Ins.wanted (i : Ins) (T : Tr Value) : Option Bool :=
  match i.guard with
  | none => some true
  | some (g, want) => match rd T g with
    | .bool b => some (b == want)
    | .tuple vs => if vs.size = 0 then some false else none
    | _ => none

def Heap.loadv (H : Heap) (agg : Bool) (n : Nat) : Value → Option Value
  | .pointer (some ⟨id, off, none⟩) =>
    match H.get id with
    | some (.cells _ _ cs) => if agg then (if off + n ≤ cs.length then some (.agg ((cs.drop off).take n).toArray) else none) else cs[off]?
    | _ => none
  | _ => none

def setRange (cs : List Value) (off : Nat) (vs : List Value) : List Value := cs.take off ++ vs ++ cs.drop (off + vs.length)

def Heap.storev (H : Heap) (n : Nat) (a x : Value) : Option Heap :=
  match a with
  | .pointer (some ⟨id, off, none⟩) =>
    match H.get id with
    | some (.cells e false cs) =>
      if x.cells.size = n ∧ okAll x = true ∧ off + n ≤ cs.length then some (H.put id (.cells e false (setRange cs off x.cells.toList))) else none
    | _ => none
  | _ => none

def Heap.new (H : Heap) (id : Nat) (o : Ob) : Option Heap :=
  match H.get id with
  | some .pend => some (H.put id o)
  | _ => none

def fillP (cells : Array Value) : List (Nat × Nat × Value) → Option (Array Value)
  | [] => some cells
  | (off, size, v) :: rest =>
    if v.cells.size ≠ size || off + v.cells.size > cells.size || !okAll v then none
    else fillP (v.cells.zipIdx.foldl (fun cs (c, j) => cs.setIfInBounds (off + j) c) cells) rest

def evParts (T : Tr Value) (ps : List (Nat × Nat × Opd)) : List (Nat × Nat × Value) := ps.map fun (a, b, x) => (a, b, x.ev T)

def leafEq : LK → Value → Value → Option Bool
  | .b, .bool a, .bool b => some (a == b)
  | .i, .int k a, .int k' b => if k = k' then some (a == b) else none
  | .s, .string a, .string b => some (a == b)
  | _, _, _ => none

/-- Cells of plain values, one after the other. -/
def cellsEq : List LK → List Value → List Value → Option Bool
  | [], _, _ => some true
  | k :: ks, x :: xs, y :: ys => match leafEq k x y with
    | some true => cellsEq ks xs ys
    | some false => some false
    | none => none
  | _, _, _ => none

def aggEq (l : List LK) : Value → Value → Option Bool
  | .agg xs, .agg ys => if xs.size = l.length ∧ ys.size = l.length then cellsEq l xs.toList ys.toList else none
  | _, _ => none

def ptrEq : Value → Value → Option Bool
  | .pointer none, .pointer b => some b.isNone
  | .pointer (some _), .pointer none => some false
  | .pointer (some ⟨i, o, none⟩), .pointer (some ⟨j, p, none⟩) => if i = j ∧ o = p then some true else none
  | _, _ => none

def slcEq : Value → Value → Option Bool
  | .slice none _ _, .slice b _ _ => some b.isNone
  | .slice (some _) _ _, .slice none _ _ => some false
  | _, _ => none

def fncEq : Value → Value → Option Bool
  | .nilFunc, .nilFunc => some true
  | .nilFunc, .func _ _ _ => some false
  | .func _ _ _, .nilFunc => some false
  | _, _ => none

def mapEq : Value → Value → Option Bool
  | .map none, .map b => some b.isNone
  | .map (some _), .map none => some false
  | _, _ => none

def eqBy (m : EqM) (x y : Value) : Option Bool :=
  match m with
  | .lf k => leafEq k x y
  | .ptr => ptrEq x y
  | .slc => slcEq x y
  | .fnc => fncEq x y
  | .no => none
  | .cells l => aggEq l x y
  | .mp => mapEq x y

/-! Comparing numbers, in the kernel's own way. -/
def ltI : Int → Int → Bool
  | .ofNat a, .ofNat b => Nat.ble (a + 1) b
  | .ofNat _, .negSucc _ => false
  | .negSucc _, .ofNat _ => true
  | .negSucc a, .negSucc b => Nat.ble (b + 1) a
def eqI : Int → Int → Bool
  | .ofNat a, .ofNat b => Nat.beq a b
  | .ofNat _, .negSucc _ => false
  | .negSucc _, .ofNat _ => false
  | .negSucc a, .negSucc b => Nat.beq a b
theorem ltI_eq (a b : Int) : ltI a b = decide (a < b) := by
  rw [Bool.eq_iff_iff, decide_eq_true_eq]
  cases a <;> cases b <;> simp only [ltI, Nat.ble_eq, Int.ofNat_eq_natCast, Bool.false_eq_true, false_iff, true_iff] <;> omega
theorem eqI_eq (a b : Int) : eqI a b = (a == b) := by
  rw [Bool.eq_iff_iff, beq_iff_eq]
  cases a <;> cases b <;> simp only [eqI, Nat.beq_eq, Int.ofNat_eq_natCast, Bool.false_eq_true, false_iff, true_iff] <;> omega

def intBin (op : BinOp) (k : IntKind) (a b : Int) : Option Value :=
  match op with
  | .add => some (.int k (k.wrap (a + b)))
  | .sub => some (.int k (k.wrap (a - b)))
  | .mul => some (.int k (k.wrap (a * b)))
  | .quo => if b = 0 then none else some (.int k (k.wrap (a.tdiv b)))
  | .rem => if b = 0 then none else some (.int k (a.tmod b))
  | .and => some (.int k (k.wrap (BitVec.ofInt k.bits a &&& BitVec.ofInt k.bits b).toNat))
  | .or => some (.int k (k.wrap (BitVec.ofInt k.bits a ||| BitVec.ofInt k.bits b).toNat))
  | .xor => some (.int k (k.wrap (BitVec.ofInt k.bits a ^^^ BitVec.ofInt k.bits b).toNat))
  | .andNot => some (.int k (k.wrap (BitVec.ofInt k.bits a &&& ~~~ BitVec.ofInt k.bits b).toNat))
  | .eql => some (.bool (eqI a b))
  | .neq => some (.bool !(eqI a b))
  | .lss => some (.bool (ltI a b))
  | .leq => some (.bool !(ltI b a))
  | .gtr => some (.bool (ltI b a))
  | .geq => some (.bool !(ltI a b))
  | _ => none

def strBin (op : BinOp) (a b : ByteArray) : Option Value :=
  match op with
  | .add => if ((a.size + b.size : Nat) : Int) ≤ 9223372036854775807 then some (.string (a ++ b)) else none
  | .eql => some (.bool (a.toList == b.toList))
  | .neq => some (.bool !(a.toList == b.toList))
  | .lss => some (.bool (Op.bytesLess a.toList b.toList))
  | .leq => some (.bool (Op.bytesLess a.toList b.toList || a.toList == b.toList))
  | .gtr => some (.bool !(Op.bytesLess a.toList b.toList || a.toList == b.toList))
  | .geq => some (.bool !(Op.bytesLess a.toList b.toList))
  | _ => none

def binV (op : BinOp) (m : EqM) (x y : Value) : Option Value :=
  match op, x, y with
  | .shl, .int k a, .int _ b => if b < 0 then none else some (.int k (k.wrap (a * 2 ^ min b.toNat k.bits)))
  | .shr, .int k a, .int _ b => if b < 0 then none else some (.int k (a.fdiv (2 ^ min b.toNat k.bits)))
  | op, .int k a, .int k' b => if k = k' then intBin op k a b else none
  | op, .string a, .string b => strBin op a b
  | .eql, x, y => (eqBy m x y).map .bool
  | .neq, x, y => (eqBy m x y).map fun b => .bool !b
  | _, _, _ => none

def unV (op : UnOp) (x : Value) : Option Value :=
  match op, x with
  | .neg, .int k n => some (.int k (k.wrap (0 - n)))
  | .xor, .int k n => some (.int k (k.wrap (BitVec.ofInt k.bits (if k.signed then -1 else k.max) ^^^ BitVec.ofInt k.bits n).toNat))
  | .not, .bool b => some (.bool !b)
  | _, _ => none

def optInt (d : Int) : Option Value → Option Int
  | none => some d
  | some (.int _ n) => some n
  | some _ => none

/-- Slicing of a slice: the abstract capacity is a lower bound; the mark of the address is twice the element's size, and one more if the capacity is exact. -/
def sliceV (esz : Nat) (x : Value) (lo hi mx : Option Value) : Option Value :=
  match x with
  | .slice (some ⟨id, off, some ek⟩) len cap =>
    match optInt cap mx, optInt len hi, optInt 0 lo with
    | some m, some h, some l =>
      if 0 ≤ l ∧ l ≤ h ∧ h ≤ m ∧ m ≤ cap ∧ (ek / 2 = esz ∨ ek = 1 ∨ (l = 0 ∧ (mx = none ∨ m = 0))) then
        some (.slice (some ⟨id, off + l.toNat * esz, some (if mx.isSome ∧ ek ≠ 1 then 2 * esz + 1 else ek)⟩) (h.toNat - l.toNat) (m.toNat - l.toNat)) else none
    | _, _, _ => none
  | .slice none len cap =>
    match optInt cap mx, optInt len hi, optInt 0 lo with
    | some m, some h, some l => if len = 0 ∧ cap = 0 ∧ l = 0 ∧ h = 0 ∧ m = 0 then some (.slice none 0 0) else none
    | _, _, _ => none
  | _ => none

def strsliceV (x : Value) (lo hi : Option Value) : Option Value :=
  match x with
  | .string s =>
    match optInt s.size hi, optInt 0 lo with
    | some h, some l => if 0 ≤ l ∧ l ≤ h ∧ h ≤ s.size then some (.string (s.extract l.toNat h.toNat)) else none
    | _, _ => none
  | _ => none

def iaddrV (esz : Nat) (x i : Value) : Option Value :=
  match x, i with
  | .slice (some ⟨id, off, _⟩) len _, .int _ i => if 0 ≤ i ∧ i < len then some (.pointer (some ⟨id, off + i.toNat * esz, none⟩)) else none
  | _, _ => none

def aaddrV (len esz : Nat) (x i : Value) : Option Value :=
  match x, i with
  | .pointer (some ⟨id, off, none⟩), .int _ i => if 0 ≤ i ∧ i < len then some (.pointer (some ⟨id, off + i.toNat * esz, none⟩)) else none
  | _, _ => none

def partV (agg : Bool) (cs : Array Value) (off n : Nat) : Option Value :=
  if agg then some (.agg (cs.extract off (off + n))) else cs[off]?

def aindexV (agg : Bool) (len esz : Nat) (x i : Value) : Option Value :=
  match x, i with
  | .agg cs, .int _ i => if 0 ≤ i ∧ i < len then partV agg cs (i.toNat * esz) esz else none
  | _, _ => none

def strindexV (x i : Value) : Option Value :=
  match x, i with
  | .string s, .int _ i => if 0 ≤ i then (s[i.toNat]?).map fun b => .int .u8 b.toNat else none
  | _, _ => none

/-- What a slice (or a string) holds, as cells. -/
def Heap.row (H : Heap) (esz : Nat) : Value → Option (Nat × List Value)
  | .slice none 0 _ => some (0, [])
  | .slice (some ⟨id, off, _⟩) len _ =>
    if len = 0 then some (0, []) else
    match H.get id with
    | some (.cells _ _ cs) => if off + len * esz ≤ cs.length then some (len, (cs.drop off).take (len * esz)) else none
    | _ => none
  | .string s => if esz = 1 then some (s.size, s.data.toList.map fun b => .int .u8 b.toNat) else none
  | _ => none

/-- append: a place of a slice's own (exact capacity): in the row if there is room, else a new object; an open one without room: a new object, and the elder one is dead. 'pure': only the new object with exact capacity is allowed. -/
def Heap.append (H : Heap) (id : Nat) (elem : TypeId) (esz bytes : Nat) (pure : Bool) (x y : Value) : Option (Value × Heap) :=
  match H.row esz y with
  | none => none
  | some (n, new) =>
    match x with
    | .slice none 0 0 =>
      if n = 0 then some (.slice none 0 0, H) else
      if n * bytes ≤ 2 ^ 47 ∧ n ≤ 2 ^ 46 then (H.new id (.cells elem false new)).map fun H => (.slice (some ⟨id, 0, some (2 * esz)⟩) n n, H) else none
    | .slice (some ⟨o, off, some ek⟩) len cap =>
      if n = 0 then some (x, H) else
      if ek / 2 ≠ esz ∧ ek ≠ 1 ∧ ¬(len = 0 ∧ cap = 0 ∧ ek % 2 = 1) then none else
      if len + n ≤ cap then
        if pure then none else
        match H.get o with
        | some (.cells e false cs) =>
          if off + (len + n) * esz ≤ cs.length ∧ new.all okCell = true then some (.slice (some ⟨o, off, some ek⟩) (len + n) cap, H.put o (.cells e false (setRange cs (off + len * esz) new))) else none
        | _ => none
      else
        match H.row esz x with
        | none => none
        | some (_, old) =>
          if (len + n) * bytes ≤ 2 ^ 47 ∧ len + n ≤ 2 ^ 46 then
            if ek % 2 = 1 then (H.new id (.cells elem false (old ++ new))).map fun H => (.slice (some ⟨id, 0, some (2 * esz)⟩) (len + n) (len + n), H)
            else if pure then none else
              match H.get o with
              | some (.cells _ false cs) =>
                if new.all okCell = true ∧ off + len * esz ≤ cs.length then
                  (H.new id (.cells elem false (old ++ new))).map fun H => (.slice (some ⟨id, 0, some (2 * esz)⟩) (len + n) (len + n), H.put o .dead) else none
              | _ => none
          else none
    | _ => none

def Heap.mkslice (H : Heap) (id : Nat) (elem : TypeId) (esz bytes : Nat) (zero : List Value) (len cap : Value) : Option (Value × Heap) :=
  match len, cap with
  | .int _ l, .int _ c =>
    if 0 ≤ l ∧ l ≤ c ∧ c ≤ 2 ^ 46 ∧ c * bytes ≤ 2 ^ 46 then
      (H.new id (.cells elem false (List.replicate c.toNat zero).flatten)).map fun H => (.slice (some ⟨id, 0, some (2 * esz + 1)⟩) l.toNat c.toNat, H)
    else none
  | _, _ => none

/-- Does a slice's value stand here, not a string's? -/
def isSlc : Value → Bool
  | .slice _ _ _ => true
  | _ => false

def Heap.copy (H : Heap) (esz : Nat) (x y : Value) : Option (Value × Heap) :=
  if isSlc y then
    match H.row esz y, x with
    | some (_, _), .slice none 0 0 => some (.int .i64 0, H)
    | some (n, new), .slice (some ⟨o, off, _⟩) len _ =>
      if min n len = 0 then some (.int .i64 0, H) else
      match H.get o with
      | some (.cells e false cs) =>
        if off + min n len * esz ≤ cs.length ∧ new.all okCell = true then some (.int .i64 (min n len : Nat), H.put o (.cells e false (setRange cs off (new.take (min n len * esz))))) else none
      | _ => none
    | _, _ => none
  else none

/-! ### maps -/
def plain : Value → Bool
  | .bool _ | .int _ _ | .string _ => true
  | _ => false

def kindOk : LK → Value → Bool
  | .b, .bool _ => true
  | .i, .int _ _ => true
  | .s, .string _ => true
  | _, _ => false

def kindsOk : List LK → List Value → Bool
  | [], [] => true
  | k :: ks, v :: vs => kindOk k v && kindsOk ks vs
  | _, _ => false

/-- Does a key fit? -/
def keyOk (m : EqM) (k : Value) : Bool :=
  match m, k with
  | .lf l, k => kindOk l k
  | .cells l, .agg cs => kindsOk l cs.toList
  | _, _ => false

abbrev Entries := List (Value × Value × Nat)

def findE (m : EqM) (k : Value) : Entries → Nat → Option (Option (Nat × Value × Nat))
  | [], _ => some none
  | (k', v, b) :: es, i => match eqBy m k k' with
    | some true => some (some (i, v, b))
    | some false => findE m k es (i + 1)
    | none => none

def Heap.entries (H : Heap) : Value → Option (Entries × Nat)
  | .map none => some ([], 0)
  | .map (some id) => match H.get id with
    | some (.map es c) => some (es, c)
    | _ => none
  | _ => none

def setVal : Entries → Nat → Value → Entries
  | [], _, _ => []
  | (k, _, b) :: es, 0, v => (k, v, b) :: es
  | e :: es, i + 1, v => e :: setVal es i v

def Heap.lookup (H : Heap) (m : EqM) (zero : Value) (ok : Bool) (x i : Value) : Option Value :=
  if keyOk m i then
    match H.entries x with
    | some (es, _) => match findE m i es 0 with
      | some (some (_, v, _)) => some (if ok then .tuple #[v, .bool true] else v)
      | some none => some (if ok then .tuple #[zero, .bool false] else zero)
      | none => none
    | none => none
  else none

def Heap.mapset (H : Heap) (m : EqM) (x i v : Value) : Option Heap :=
  match x with
  | .map (some id) => if keyOk m i then
      match H.get id with
      | some (.map es c) => match findE m i es 0 with
        | some (some (n, _, _)) => some (H.put id (.map (setVal es n v) c))
        | some none => some (H.put id (.map (es ++ [(i, v, c)]) (c + 1)))
        | none => none
      | _ => none
    else none
  | _ => none

def Heap.mapentry (H : Heap) (m : EqM) (zero : Value) (x i : Value) : Option (Value × Heap) :=
  match x with
  | .map (some id) => if keyOk m i then
      match H.get id with
      | some (.map es c) => match findE m i es 0 with
        | some (some (_, v, b)) => some (.tuple #[v, .int .i64 b], H)
        | some none => some (.tuple #[zero, .int .i64 c], H.put id (.map (es ++ [(i, zero, c)]) (c + 1)))
        | none => none
      | _ => none
    else none
  | _ => none

def setBorn : Entries → Int → Value → Option Entries
  | [], _, _ => none
  | (k, u, b) :: es, s, v => if (b : Int) = s then some ((k, v, b) :: es) else (setBorn es s v).map fun r => (k, u, b) :: r

def Heap.entryset (H : Heap) (x s v : Value) : Option Heap :=
  match x, s with
  | .map (some id), .int _ n => match H.get id with
    | some (.map es c) => (setBorn es n v).map fun es => H.put id (.map es c)
    | _ => none
  | _, _ => none

def delE : Entries → Nat → Entries
  | [], _ => []
  | _ :: es, 0 => es
  | e :: es, i + 1 => e :: delE es i

def Heap.mapdel (H : Heap) (m : EqM) (x i : Value) : Option Heap :=
  if keyOk m i then
    match x with
    | .map none => some H
    | .map (some id) => match H.get id with
      | some (.map es c) => match findE m i es 0 with
        | some (some (n, _, _)) => some (H.put id (.map (delE es n) c))
        | some none => some H
        | none => none
      | _ => none
    | _ => none
  else none

def Heap.mapclear (H : Heap) : Value → Option Heap
  | .map none => some H
  | .map (some id) => match H.get id with
    | some (.map _ c) => some (H.put id (.map [] c))
    | _ => none
  | _ => none

def Heap.clear (H : Heap) (esz : Nat) (zero : List Value) : Value → Option Heap
  | .slice none _ _ => some H
  | .slice (some ⟨o, off, _⟩) len _ =>
    if len = 0 then some H else
    match H.get o with
    | some (.cells e false cs) => if zero.length = esz ∧ off + len * esz ≤ cs.length then some (H.put o (.cells e false (setRange cs off (List.replicate len zero).flatten))) else none
    | _ => none
  | _ => none

def bytesOf : List Value → Option (List UInt8)
  | [] => some []
  | .int .u8 n :: l => (bytesOf l).map fun r => UInt8.ofNat n.toNat :: r
  | _ => none

def Heap.b2s (H : Heap) (x : Value) : Option Value :=
  match x with
  | .slice none _ _ => some (.string .empty)
  | .slice (some _) _ _ => match H.row 1 x with
    | some (_, cs) => (bytesOf cs).map fun l => .string ⟨l.toArray⟩
    | none => none
  | _ => none

def capV : Value → Option Value
  | .slice none 0 0 => some (.int .i64 0)
  | .slice (some ⟨_, _, some m⟩) _ cap => if m % 2 = 1 then some (.int .i64 cap) else none
  | _ => none

/-- A slice of an array in memory: exact, of unknown room behind it. -/
def asliceV (n esz : Nat) (x : Value) (lo hi : Option Value) : Option Value :=
  match x, optInt n hi, optInt 0 lo with
  | .pointer (some ⟨id, off, none⟩), some h, some l =>
    if 0 ≤ l ∧ l ≤ h ∧ h ≤ n then some (.slice (some ⟨id, off + l.toNat * esz, some 1⟩) (h.toNat - l.toNat) (n - l.toNat)) else none
  | _, _, _ => none

def minmaxV (max : Bool) : Value → Value → Option Value
  | .int k x, .int _ y => some (.int k (if max then (if y > x then y else x) else (if y < x then y else x)))
  | _, _ => none

def tassertV (t : TypeId) (z : Option Value) : Value → Option Value
  | .iface u v => if u = t then some (match z with | some _ => .tuple #[v, .bool true] | none => v) else z.map fun z => .tuple #[z, .bool false]
  | .nilIface => z.map fun z => .tuple #[z, .bool false]
  | _ => none

def isnilV (neg : Bool) : Value → Option Value
  | .nilIface => some (.bool !neg)
  | .iface _ _ => some (.bool neg)
  | _ => none

def evI (cl : Nat → List Value → Heap → Option (Value × Heap)) (b : Nat) (T : Tr Value) (H : Heap) : I → Option (Value × Heap)
  | .mv x => some (x.ev T, H)
  | .const v => some (v, H)
  | .pick c x y => match c.ev T with
    | .bool t => some (bif t then x.ev T else y.ev T, H)
    | _ => none
  | .alloc k elem zero => (H.new (b + k) (.cells elem false zero)).map fun H => (.pointer (some ⟨b + k, 0, none⟩), H)
  | .box k elem x => if okAll (x.ev T) then (H.new (b + k) (.cells elem false (x.ev T).cells.toList)).map fun H => (.pointer (some ⟨b + k, 0, none⟩), H) else none
  | .build zero parts => (fillP zero.toArray (evParts T parts)).map fun cs => (.agg cs, H)
  | .bslice k elem esz len zero parts =>
    match fillP zero.toArray (evParts T parts) with
    | some cs => (H.new (b + k) (.cells elem false cs.toList)).map fun H => (.slice (some ⟨b + k, 0, some (2 * esz + 1)⟩) len len, H)
    | none => none
  | .load agg n a => (H.loadv agg n (a.ev T)).map fun v => (v, H)
  | .store n a x => (H.storev n (a.ev T) (x.ev T)).map fun H => (undef, H)
  | .nilchk x => match x.ev T with
    | .pointer (some a) => some (.pointer (some a), H)
    | .func (.func g) f c => some (.func (.func g) f c, H)
    | _ => none
  | .bin op m x y => (binV op m (x.ev T) (y.ev T)).map fun v => (v, H)
  | .un op x => (unV op (x.ev T)).map fun v => (v, H)
  | .conv k x => match x.ev T with
    | .int _ n => some (.int k (k.wrap n), H)
    | _ => none
  | .mkfn fn first captured => some (.func fn (first.map (Opd.ev T)).toArray (captured.map (Opd.ev T)).toArray, H)
  | .mkslice k elem esz bytes zero len cap => H.mkslice (b + k) elem esz bytes zero (len.ev T) (cap.ev T)
  | .slice esz x lo hi mx => (sliceV esz (x.ev T) (lo.map (Opd.ev T)) (hi.map (Opd.ev T)) (mx.map (Opd.ev T))).map fun v => (v, H)
  | .strslice x lo hi => (strsliceV (x.ev T) (lo.map (Opd.ev T)) (hi.map (Opd.ev T))).map fun v => (v, H)
  | .faddr off x => match x.ev T with
    | .pointer (some ⟨id, o, none⟩) => some (.pointer (some ⟨id, o + off, none⟩), H)
    | _ => none
  | .field agg off n x => match x.ev T with
    | .agg cs => (partV agg cs off n).map fun v => (v, H)
    | _ => none
  | .iaddr esz x i => (iaddrV esz (x.ev T) (i.ev T)).map fun v => (v, H)
  | .aaddr len esz x i => (aaddrV len esz (x.ev T) (i.ev T)).map fun v => (v, H)
  | .aindex agg len esz x i => (aindexV agg len esz (x.ev T) (i.ev T)).map fun v => (v, H)
  | .strindex x i => (strindexV (x.ev T) (i.ev T)).map fun v => (v, H)
  | .ext i x => match x.ev T with
    | .tuple vs => (vs[i]?).map fun v => (v, H)
    | _ => none
  | .call f args => match f.ev T with
    | .func (.func g) first captured => cl g (first.toList ++ args.map (Opd.ev T) ++ captured.toList) H
    | _ => none
  | .len x => match x.ev T with
    | .slice _ n _ => some (.int .i64 n, H)
    | _ => none
  | .strlen x => match x.ev T with
    | .string s => some (.int .i64 s.size, H)
    | _ => none
  | .append k elem esz bytes pure x y => H.append (b + k) elem esz bytes pure (x.ev T) (y.ev T)
  | .minmax max x y => (minmaxV max (x.ev T) (y.ev T)).map fun v => (v, H)
  | .copy esz x y => H.copy esz (x.ev T) (y.ev T)
  | .stuck => none
  | .mkmap k => (H.new (b + k) (.map [] 0)).map fun H => (.map (some (b + k)), H)
  | .lookup m zero ok x i => (H.lookup m zero ok (x.ev T) (i.ev T)).map fun v => (v, H)
  | .mapset m x i v => (H.mapset m (x.ev T) (i.ev T) (v.ev T)).map fun H => (undef, H)
  | .mapentry m zero x i => H.mapentry m zero (x.ev T) (i.ev T)
  | .entryset x s v => (H.entryset (x.ev T) (s.ev T) (v.ev T)).map fun H => (undef, H)
  | .maplen x => (H.entries (x.ev T)).map fun e => (.int .i64 e.1.length, H)
  | .mapdel m x i => (H.mapdel m (x.ev T) (i.ev T)).map fun H => (undef, H)
  | .clear esz zero x => (H.clear esz zero (x.ev T)).map fun H => (undef, H)
  | .mapclear x => (H.mapclear (x.ev T)).map fun H => (undef, H)
  | .cap x => (capV (x.ev T)).map fun v => (v, H)
  | .aslice n esz x lo hi => (asliceV n esz (x.ev T) (lo.map (Opd.ev T)) (hi.map (Opd.ev T))).map fun v => (v, H)
  | .b2s x => (H.b2s (x.ev T)).map fun v => (v, H)
  | .mkif t x => some (.iface t (x.ev T), H)
  | .tassert t z x => (tassertV t z (x.ev T)).map fun v => (v, H)
  | .isnil neg x => (isnilV neg (x.ev T)).map fun v => (v, H)

/-- What was noted of an operation: the heap before a call, or what a load has read. -/
inductive Lg where
  | heap (H : Heap)
  | rng (id off n : Nat)
  deriving Inhabited

/-- A region's state: temporaries, the heap, and what was noted of some operations. -/
structure St where
  T : Tr Value
  H : Heap
  log : Tr Lg
  deriving Inhabited

def veq1 : Value → Value → Bool
  | .int k a, .int k' b => k == k' && a == b
  | .bool a, .bool b => a == b
  | .string a, .string b => a == b
  | .pointer a, .pointer b => a == b
  | .slice a l c, .slice a' l' c' => a == a' && l == l' && c == c'
  | .nilFunc, .nilFunc => true
  | .nilIface, .nilIface => true
  | .map a, .map b => a == b
  | _, _ => false

def veqs : List Value → List Value → Bool
  | [], [] => true
  | x :: l, y :: l' => veq1 x y && veqs l l'
  | _, _ => false

def veq : Value → Value → Bool
  | .agg a, .agg b => veqs a.toList b.toList
  | a, b => veq1 a b

def chk1 (T : Tr Value) (i : I) (v : Value) : Option Lg → Bool
  | some (.heap H) => match i with
    | .load agg n a => (match H.loadv agg n (a.ev T) with | some u => veq u v | none => false)
    | _ => false
  | some (.rng id off m) => match i with
    | .load _ _ a => (match a.ev T with | .pointer (some ⟨id', _, none⟩) => id != id' | _ => false)
    | .store n a _ => (match a.ev T with | .pointer (some ⟨id', off', none⟩) => id != id' || Nat.ble (off + m) off' || Nat.ble (off' + n) off | _ => false)
    | .append _ _ _ _ _ x _ => (match x.ev T with | .slice (some ⟨o, _, _⟩) _ _ => id != o | .slice none _ _ => true | _ => false)
    | _ => false
  | none => match i with
    | .store _ _ _ => true
    | .load _ _ _ => true
    | .append _ _ _ _ _ _ _ => true
    | _ => false

def chkOk (log : Tr Lg) (T : Tr Value) (i : I) (v : Value) : List Nat → Bool
  | [] => true
  | c :: cs => chk1 T i v (log.get c) && chkOk log T i v cs

def I.isCall : I → Bool
  | .call .. => true
  | _ => false

/-- What is noted. -/
def note (b : Nat) (T : Tr Value) (H : Heap) : I → Option Lg
  | .call _ _ => some (.heap H)
  | .alloc k _ _ | .box k _ _ | .bslice k _ _ _ _ _ | .mkslice k _ _ _ _ _ _ | .mkmap k => some (.rng (b + k) 0 0)
  | .load agg n a => match a.ev T with
    | .pointer (some ⟨id, off, none⟩) => some (.rng id off (if agg then n else 1))
    | _ => none
  | _ => none

def lg (b : Nat) (i : Ins) (s : St) : Tr Lg := bif i.lg then (match i.wanted s.T, note b s.T s.H i.op with | some true, some e => s.log.set i.idx e | _, _ => s.log) else s.log

def evW (cl : Nat → List Value → Heap → Option (Value × Heap)) (b : Nat) (i : Ins) (s : St) : Option (Value × Heap) :=
  match i.wanted s.T with
  | some true =>
    match evI cl b s.T s.H i.op with
    | some (v, H) => if chkOk s.log s.T i.op v i.chk then some (v, H) else none
    | none => none
  | some false => some (undef, s.H)
  | none => none

def evIns (cl : Nat → List Value → Heap → Option (Value × Heap)) (b : Nat) (i : Ins) (s : St) : Option St :=
  match evW cl b i s with
  | some (v, H) => some ⟨putT s.T i.dst v, H, lg b i s⟩
  | none => none

def evSeq (cl : Nat → List Value → Heap → Option (Value × Heap)) (b : Nat) : List Ins → St → Option St
  | [], s => some s
  | i :: l, s => match evIns cl b i s with
    | some s => evSeq cl b l s
    | none => none

inductive Ex where
  | normal
  | exit (id : Nat)
  | ret
  | pan (v : Value)
  deriving Inhabited

def iter (body : Tr Value → Heap → Option (Ex × Tr Value × Heap)) : Nat → Tr Value → Heap → Option (Ex × Tr Value × Heap)
  | 0, _, _ => none
  | n + 1, T, H => match body T H with
    | some (.normal, T, H) => iter body n T H
    | r => r

def evC (cl : Nat → List Value → Heap → Option (Value × Heap)) (n : Nat) : Cd → Tr Value → Heap → Option (Ex × Tr Value × Heap)
  | .skip, T, H => some (.normal, T, H)
  | .region na ops, T, H => match evSeq (noP cl) H.size ops ⟨T, Heap.ext na H, .nil⟩ with
    | some s => some (.normal, s.T, s.H)
    | none => none
  | .seq a b, T, H => match evC cl n a T H with
    | some (.normal, T, H) => evC cl n b T H
    | r => r
  | .cond c a b, T, H => match c.ev T with
    | .bool t => bif t then evC cl n a T H else evC cl n b T H
    | _ => none
  | .block id c, T, H => match evC cl n c T H with
    | some (.exit id', T, H) => bif id' == id then some (.normal, T, H) else some (.exit id', T, H)
    | r => r
  | .loop c, T, H => iter (fun T H => evC cl n c T H) n T H
  | .exit id, T, H => some (.exit id, T, H)
  | .ret, T, H => some (.ret, T, H)
  | .callp d f as, T, H => match f.ev T with
    | .func (.func g) first captured => match cl g (first.toList ++ as.map (Opd.ev T) ++ captured.toList) H with
      | some (v, H') => match isPan v with
        | none => some (.normal, putT T d v, H')
        | some u => some (.pan u, T, H')
      | none => none
    | _ => none
  | .panic x, T, H => match x.ev T with
    | .iface t v => some (.pan (.iface t v), T, H)
    | _ => none

def evRes (T : Tr Value) (H : Heap) : List Res → Option (List Value)
  | [] => some []
  | .tmp t :: rs => (evRes T H rs).map fun vs => rd T t :: vs
  | .cell t agg n :: rs => match H.loadv agg n (rd T t), evRes T H rs with
    | some v, some vs => some (v :: vs)
    | _, _ => none

def packRes : List Value → Value
  | [v] => v
  | vs => .tuple vs.toArray

/-- What calls of some functions are known to answer; the heap is as before, but for numbers that are used up. -/
abbrev Known := Nat → List Value → Heap → Option (Value × Nat)

def Heap.upto (H : Heap) (n : Nat) : Heap := ⟨n, H.tr⟩

/-- The deferred closure's call, behind a panic or a return; none where it panics itself. -/
def evD (Γ : Nat → Option FnI) (cl : Nat → List Value → Heap → Option (Value × Heap)) (k : Nat) (c pv : Value) (H : Heap) : Option Heap :=
  match c with
  | .func (.func g) first captured => match Γ g with
    | some gn => match gn.dfr, gn.recv, gn.res with
      | none, some d, [] => match evC cl k gn.body ((Tr.ofList (first.toList ++ captured.toList) 0 .nil).set d pv) H with
        | some (.normal, _, H') => some H'
        | some (.ret, _, H') => some H'
        | _ => none
      | _, _, _ => none
    | none => none
  | _ => none

def evR (res : List Res) (T : Tr Value) (H : Heap) : Option (Value × Heap) := (evRes T H res).map fun vs => (packRes vs, H)

def evB (Γ : Nat → Option FnI) (cl : Nat → List Value → Heap → Option (Value × Heap)) (k f : Nat) (args : List Value) (H : Heap) : Option (Value × Heap) :=
  match Γ f with
  | none => none
  | some fn => match fn.recv with
    | some _ => none
    | none => match fn.dfr with
      | none => match evC cl k fn.body (Tr.ofList args 0 .nil) H with
        | some (.normal, T, H) => evR fn.res T H
        | some (.ret, T, H) => evR fn.res T H
        | some (.pan v, _, H) => some (pan v, H)
        | _ => none
      | some (c, rest) => match evC cl k fn.body (Tr.ofList args 0 .nil) H with
        | some (.normal, T, H) => match evC cl k rest T H with
          | some (.normal, T', H) => match evD Γ cl k (c.ev T) .nilIface H with
            | some H => evR fn.res T' H
            | none => none
          | some (.ret, T', H) => match evD Γ cl k (c.ev T) .nilIface H with
            | some H => evR fn.res T' H
            | none => none
          | some (.pan v, T', H) => match evD Γ cl k (c.ev T) v H with
            | some H => evR fn.res T' H
            | none => none
          | _ => none
        | _ => none

def evF (Γ : Nat → Option FnI) (ov : Known) : Nat → Nat → List Value → Heap → Option (Value × Heap)
  | 0, _, _, _ => none
  | k + 1, f, args, H => match ov f args H with
    | some (v, n) => some (v, H.upto n)
    | none => evB Γ (evF Γ ov k) k f args H

end Go.Proofs.YtapkmhneneffdaaGreatDoor.Mx

/-! The text ZadB. -/
namespace Go.Proofs.YtapkmhneneffdaaGreatDoor.Mx
open Go

abbrev o (i d : Nat) (x : I) : Ins := ⟨i, some d, none, x, [], false⟩
abbrev og (i d g : Nat) (w : Bool) (x : I) : Ins := ⟨i, some d, some (g, w), x, [], false⟩
abbrev ox (i : Nat) (x : I) : Ins := ⟨i, none, none, x, [], false⟩
abbrev oxg (i g : Nat) (w : Bool) (x : I) : Ins := ⟨i, none, some (g, w), x, [], false⟩

def leafClosed : Value → Bool
  | .bool _ | .int _ _ | .string _ | .pointer none | .slice none 0 0 | .nilFunc | .nilIface | .map none => true
  | _ => false
def closedV : Value → Bool
  | .agg cs => cs.all leafClosed
  | .tuple cs => cs.all leafClosed
  | v => leafClosed v

def cOpd (P : Program) : Operand → Option Opd
  | .tmp t => some (.t t)
  | .const v => if closedV v then some (.c v) else none
  | .func f => some (.f f)
  | .global g => if g < P.globals.size then some (.gl g) else none

def cOpds (P : Program) : List Operand → Option (List Opd)
  | [] => some []
  | x :: l => match cOpd P x, cOpds P l with
    | some y, some r => some (y :: r)
    | _, _ => none

def cOpt (P : Program) : Option Operand → Option (Option Opd)
  | none => some none
  | some x => (cOpd P x).map some

def aggD : TypeDesc → Bool
  | .struct _ | .array _ _ => true
  | _ => false

def isIntD : TypeDesc → Bool
  | .int _ => true
  | _ => false

/-- A type's zero value's cells, as many as the type has, all of them closed. -/
def zeroOf (P : Program) (t : TypeId) : Option (List Value) :=
  match P.info? t with
  | some i => match i.zero with
    | some z => if z.cells.size = i.size ∧ z.cells.all leafClosed = true then some z.cells.toList else none
    | none => none
  | none => none

def sizeOfT (P : Program) (t : TypeId) : Option Nat := (P.info? t).map (·.size)

def cParts (P : Program) (place : Nat → Option (Nat × Nat)) : List (Nat × Operand) → Option (List (Nat × Nat × Opd))
  | [] => some []
  | (i, x) :: l => match place i, cOpd P x, cParts P place l with
    | some (o, s), some y, some r => some ((o, s, y) :: r)
    | _, _, _ => none

def plainF (P : Program) (L : TypeId → Option (List LK)) : List Field → Nat → Option (List LK)
  | [], _ => some []
  | f :: fs, o => match L f.type with
    | some l => if f.offset = o ∧ f.name ≠ "_" ∧ sizeOfT P f.type = some l.length then
        match plainF P L fs (o + l.length) with
        | some r => some (l ++ r)
        | none => none
      else none
    | none => none

/-- Is a type one of plain values (numbers, bools, strings), or of structs and arrays of these without gaps? The kinds of its cells. -/
def plainL (P : Program) : Nat → TypeId → Option (List LK)
  | 0, _ => none
  | d + 1, t => match P.underlying t with
    | some .bool => some [.b]
    | some (.int _) => some [.i]
    | some .string => some [.s]
    | some (.struct fields) => if P.stoodInHeld t then none else plainF P (plainL P d) fields.toList 0
    | some (.array len e) => match plainL P d e with
      | some k => if sizeOfT P e = some k.length then some (List.replicate len k).flatten else none
      | none => none
    | _ => none

/-- Two pointers: what they point to has a size. -/
def ptrM (P : Program) (e : TypeId) : EqM := bif (P.info? e).isSome then .ptr else .no
theorem ptrM_or (P : Program) (e : TypeId) : (ptrM P e = .ptr ∧ ∃ i, P.info? e = some i) ∨ ptrM P e = .no := by
  unfold ptrM
  cases h : P.info? e with
  | none => exact .inr rfl
  | some i => exact .inl ⟨rfl, i, rfl⟩

def eqMode (P : Program) (t : TypeId) : EqM :=
  match P.underlying t with
  | some .bool => .lf .b
  | some .string => .lf .s
  | some (.int _) => .lf .i
  | some (.pointer e) => ptrM P e
  | some (.slice _) => .slc
  | some (.func _ _ _) => .fnc
  | some (.map _ _) => .mp
  | some (.struct _) | some (.array _ _) => if P.eqGuardType P.depth t then .no else match plainL P 40 t with
    | some l => .cells l
    | none => .no
  | _ => .no

def keyMode (P : Program) (t : TypeId) : Option EqM :=
  match eqMode P t with
  | .lf k => some (.lf k)
  | .cells l => some (.cells l)
  | _ => none

/-- A type's zero value as one value. -/
def zeroVal (P : Program) (t : TypeId) : Option Value :=
  match P.info? t with
  | some i => match i.zero with
    | some z => if closedV z then some z else none
    | none => none
  | none => none

def places (P : Program) (fields : List Field) : Option (List (Nat × Nat)) :=
  match fields with
  | [] => some []
  | f :: l => match sizeOfT P f.type, places P l with
    | some s, some r => some ((f.offset, s) :: r)
    | _, _ => none

def isIfD : TypeDesc → Bool
  | .interface _ => true
  | _ => false

def isNeq : BinOp → Bool
  | .neq => true
  | _ => false

/-- Is an interface's value held against nil? -/
def isIfNil (P : Program) (op : BinOp) (t : TypeId) (y : Operand) : Bool :=
  match op, y with
  | .eql, .const .nilIface | .neq, .const .nilIface => match P.underlying t with
    | some d => isIfD d
    | none => false
  | _, _ => false

/-- k: the number of the next new object. -/
def cI (P : Program) (k : Nat) (op : Op) : Option I :=
  match op with
  | .move x | .assign x => (cOpd P x).map .mv
  | .pick c a b => match cOpd P c, cOpd P a, cOpd P b with
    | some c, some a, some b => some (.pick c a b)
    | _, _, _ => none
  | .alloc e => (zeroOf P e).map fun z => .alloc k e z
  | .box e x => (cOpd P x).map fun x => .box k e x
  | .build t parts => match zeroOf P t, P.underlying t with
    | some z, some (.struct fields) => match places P fields.toList with
      | some pl => (cParts P (fun i => pl[i]?) parts.toList).map fun ps => .build z ps
      | none => none
    | some z, some (.array _ e) => match sizeOfT P e with
      | some s => (cParts P (fun i => some (i * s, s)) parts.toList).map fun ps => .build z ps
      | none => none
    | _, _ => none
  | .buildSlice t len parts => match P.underlying t with
    | some (.slice e) => match sizeOfT P e, zeroOf P e with
      | some s, some z => if len * s ≤ 2 ^ 24 ∧ 0 < s then (cParts P (fun i => some (i * s, s)) parts.toList).map fun ps => .bslice k e s len (List.replicate len z).flatten ps else none
      | _, _ => none
    | _ => none
  | .load t a => match P.underlying t, sizeOfT P t, cOpd P a with
    | some d, some n, some a => some (.load (aggD d) n a)
    | _, _, _ => none
  | .store t a x => match sizeOfT P t, cOpd P a, cOpd P x with
    | some n, some a, some x => some (.store n a x)
    | _, _, _ => none
  | .nilCheck x => (cOpd P x).map .nilchk
  | .binOp op t x y _ => if isIfNil P op t y then (cOpd P x).map fun x => .isnil (isNeq op) x else match cOpd P x, cOpd P y with
    | some x, some y => some (.bin op (eqMode P t) x y)
    | _, _ => none
  | .makeInterface t x => match P.underlying t, cOpd P x with
    | some d, some x => if isIfD d then some .stuck else some (.mkif t x)
    | _, _ => some .stuck
  | .typeAssert x _ t ok => match P.underlying t, cOpd P x with
    | some d, some x => if isIfD d then some .stuck else if ok then (match zeroVal P t with
        | some z => some (.tassert t (some z) x)
        | none => some .stuck) else some (.tassert t none x)
    | _, _ => some .stuck
  | .unOp op _ x => (cOpd P x).map fun x => .un op x
  | .convert s t x => match P.underlying s, P.underlying t, cOpd P x with
    | some _, some (.int k), some x => some (.conv k x)
    | some (.slice e), some .string, some x => match P.underlying e with
      | some (.int .u8) => some (.b2s x)
      | _ => some .stuck
    | _, _, _ => some .stuck
  | .makeMap _ none => some (.mkmap k)
  | .lookup t x i ok => match P.underlying t, cOpd P x, cOpd P i with
    | some (.map kt e), some x, some i => match keyMode P kt, zeroVal P e with
      | some m, some z => some (.lookup m z ok x i)
      | _, _ => some .stuck
    | _, _, _ => some .stuck
  | .mapUpdate t x i v | .insert t x i v => match P.underlying t, cOpd P x, cOpd P i, cOpd P v with
    | some (.map kt _), some x, some i, some v => match keyMode P kt with
      | some m => some (.mapset m x i v)
      | none => some .stuck
    | _, _, _, _ => some .stuck
  | .mapEntry t x i => match P.underlying t, cOpd P x, cOpd P i with
    | some (.map kt e), some x, some i => match keyMode P kt, zeroVal P e with
      | some m, some z => some (.mapentry m z x i)
      | _, _ => some .stuck
    | _, _, _ => some .stuck
  | .entryStore _ x st v => match cOpd P x, cOpd P st, cOpd P v with
    | some x, some st, some v => some (.entryset x st v)
    | _, _, _ => some .stuck
  | .makeFunc fn first captured => match cOpds P first.toList, cOpds P captured.toList with
    | some f, some c => some (.mkfn fn f c)
    | _, _ => none
  | .makeSlice t len cap => match P.underlying t with
    | some (.slice e) => match P.info? e, zeroOf P e, cOpd P len, cOpd P cap with
      | some i, some z, some l, some c => if 0 < i.size then some (.mkslice k e i.size i.bytes z l c) else none
      | _, _, _, _ => none
    | _ => none
  | .slice t x lo hi mx => match P.underlying t with
    | some (.slice e) => match sizeOfT P e, cOpd P x, cOpt P lo, cOpt P hi, cOpt P mx with
      | some s, some x, some lo, some hi, some mx => if 0 < s ∧ (mx.isSome → hi.isSome) then some (.slice s x lo hi mx) else none
      | _, _, _, _, _ => none
    | some .string => match cOpd P x, cOpt P lo, cOpt P hi, mx with
      | some x, some lo, some hi, none => some (.strslice x lo hi)
      | _, _, _, _ => none
    | some (.array n e) => match sizeOfT P e, cOpd P x, cOpt P lo, cOpt P hi, mx with
      | some s, some x, some lo, some hi, none => if 0 < s then some (.aslice n s x lo hi) else none
      | _, _, _, _, _ => some .stuck
    | _ => some .stuck
  | .fieldAddr t x f => match P.underlying t, cOpd P x with
    | some (.struct fields), some x => match fields[f]? with
      | some f => match sizeOfT P f.type with
        | some s => if 0 < s then some (.faddr f.offset x) else none
        | none => none
      | none => none
    | _, _ => none
  | .field t x f => match P.underlying t, cOpd P x with
    | some (.struct fields), some x => match fields[f]? with
      | some f => match sizeOfT P f.type, P.underlying f.type with
        | some s, some d => some (.field (aggD d) f.offset s x)
        | _, _ => none
      | none => none
    | _, _ => none
  | .indexAddr t x i => match P.underlying t, cOpd P x, cOpd P i with
    | some (.slice e), some x, some i => match sizeOfT P e with
      | some s => some (.iaddr s x i)
      | none => none
    | some (.array len e), some x, some i => match sizeOfT P e with
      | some s => some (.aaddr len s x i)
      | none => none
    | _, _, _ => none
  | .index t x i => match P.underlying t, cOpd P x, cOpd P i with
    | some (.array len e), some x, some i => match sizeOfT P e, P.underlying e with
      | some s, some d => some (.aindex (aggD d) len s x i)
      | _, _ => none
    | some .string, some x, some i => some (.strindex x i)
    | _, _, _ => none
  | .extract x i => (cOpd P x).map fun x => .ext i x
  | .call c => match c.callee with
    | .value f => match cOpd P f, cOpds P c.args.toList with
      | some f, some args => some (.call f args)
      | _, _ => none
    | .builtin .len => match c.argTypes[0]?, cOpds P c.args.toList with
      | some t, some [x] => match P.underlying t with
        | some (.slice _) => some (.len x)
        | some .string => some (.strlen x)
        | some (.array n _) => some (.const (.int .i64 n))
        | some (.map _ _) => some (.maplen x)
        | _ => some .stuck
      | _, _ => none
    | .builtin .cap => match c.argTypes[0]?, cOpds P c.args.toList with
      | some t, some [x] => match P.underlying t with
        | some (.slice _) => some (.cap x)
        | _ => some .stuck
      | _, _ => some .stuck
    | .builtin .copy => match c.argTypes[0]?, cOpds P c.args.toList with
      | some t, some [x, y] => match P.underlying t with
        | some (.slice e) => match sizeOfT P e with
          | some n => if 0 < n then some (.copy n x y) else some .stuck
          | none => some .stuck
        | _ => some .stuck
      | _, _ => some .stuck
    | .builtin .clear => match c.argTypes[0]?, cOpds P c.args.toList with
      | some t, some [x] => match P.underlying t with
        | some (.slice e) => match sizeOfT P e, zeroOf P e with
          | some n, some z => if 0 < n then some (.clear n z x) else some .stuck
          | _, _ => some .stuck
        | some (.map _ _) => some (.mapclear x)
        | _ => some .stuck
      | _, _ => some .stuck
    | .builtin .delete => match c.argTypes[0]?, cOpds P c.args.toList with
      | some t, some [x, y] => match P.underlying t with
        | some (.map kt _) => match keyMode P kt with
          | some m => some (.mapdel m x y)
          | none => some .stuck
        | _ => some .stuck
      | _, _ => some .stuck
    | .builtin .append => match c.argTypes[0]?, c.argTypes[1]?, cOpds P c.args.toList with
      | some t, some u, some [x, y] => match P.underlying t, P.underlying u with
        | some (.slice e), some d => match P.info? e, zeroOf P e with
          | some i, some _ => if isIntD d = false ∧ 0 < i.size ∧ 0 < i.bytes then some (.append k e i.size i.bytes false x y) else none
          | _, _ => none
        | _, _ => none
      | _, _, _ => none
    | .builtin .max => match cOpds P c.args.toList with
      | some [x, y] => some (.minmax true x y)
      | _ => none
    | .builtin .min => match cOpds P c.args.toList with
      | some [x, y] => some (.minmax false x y)
      | _ => none
    | _ => some .stuck
  | _ => some .stuck

def I.allocs : I → Bool
  | .alloc .. | .box .. | .bslice .. | .mkslice .. | .append .. | .mkmap .. => true
  | _ => false

def dstOk (nt : Nat) : Option Nat → Bool
  | some d => decide (d < nt)
  | none => true

def cIns (P : Program) (nt : Nat) (ops : List Oper) (idx k : Nat) (o : Oper) : Option Ins :=
  if dstOk nt o.dst = false then none else
  match (cI P k o.op).getD .stuck with
  | i => match o.guard with
    | none => some ⟨idx, o.dst, none, i, [], false⟩
    | some (j, want) => match ops[j]? with
      | some g => match g.dst with
        | some s => some ⟨idx, o.dst, some (s, want), i, [], false⟩
        | none => none
      | none => none

/-- The operations from number idx on; the number of new objects. -/
def cList (P : Program) (nt : Nat) (ops : List Oper) : Nat → Nat → List Oper → Option (List Ins × Nat)
  | _, k, [] => some ([], k)
  | idx, k, o :: l => match cIns P nt ops idx k o with
    | none => none
    | some i => match cList P nt ops (idx + 1) (if i.op.allocs then k + 1 else k) l with
      | some (r, n) => some (i :: r, n)
      | none => none

/-! ### regions of an open order -/
inductive Cls where
  | P | L | M | C | Ea | E | W | V
  deriving DecidableEq

/-- P: the heap is of no matter; L: a row's cells are read; M: something else is read; C: a call; E, Ea: a new object; W: rows are written; V: maps are written. -/
def I.cls : I → Cls
  | .load .. => .L
  | .lookup .. | .maplen .. | .b2s .. => .M
  | .store .. | .copy .. | .clear .. => .W
  | .mapset .. | .mapentry .. | .entryset .. | .mapdel .. | .mapclear .. => .V
  | .call .. => .C
  | .alloc .. | .box .. | .bslice .. | .mkslice .. | .mkmap .. => .E
  | .append _ _ _ _ pure _ _ => if pure then .Ea else .W
  | _ => .P

def I.isLoad : I → Bool
  | .load .. => true
  | _ => false
/-- A store, or an append that may write. -/
def I.isStore : I → Bool
  | .store .. => true
  | .append _ _ _ _ pure _ _ => !pure
  | _ => false

def Opd.reads : Opd → List Nat
  | .t n => [n]
  | _ => []
def optReads : Option Opd → List Nat
  | some x => x.reads
  | none => []
def I.reads : I → List Nat
  | .mkif _ x | .tassert _ _ x | .isnil _ x => x.reads
  | .mv x | .box _ _ x | .load _ _ x | .nilchk x | .un _ x | .conv _ x | .faddr _ x | .field _ _ _ x | .ext _ x | .len x | .strlen x => x.reads
  | .const _ | .alloc .. | .stuck | .mkmap _ => []
  | .maplen x | .clear _ _ x | .mapclear x | .cap x | .b2s x => x.reads
  | .lookup _ _ _ x i | .mapentry _ _ x i | .mapdel _ x i => x.reads ++ i.reads
  | .mapset _ x i v | .entryset x i v => x.reads ++ (i.reads ++ v.reads)
  | .aslice _ _ x lo hi => x.reads ++ (optReads lo ++ optReads hi)
  | .pick c a b => c.reads ++ (a.reads ++ b.reads)
  | .build _ ps | .bslice _ _ _ _ _ ps => ps.flatMap fun p => p.2.2.reads
  | .store _ a x | .bin _ _ a x | .mkslice _ _ _ _ _ a x | .iaddr _ a x | .aaddr _ _ a x | .aindex _ _ _ a x | .strindex a x | .append _ _ _ _ _ a x | .minmax _ a x | .copy _ a x => a.reads ++ x.reads
  | .mkfn _ f c => f.flatMap Opd.reads ++ c.flatMap Opd.reads
  | .slice _ x lo hi mx => x.reads ++ (optReads lo ++ (optReads hi ++ optReads mx))
  | .strslice x lo hi => x.reads ++ (optReads lo ++ optReads hi)
  | .call f args => f.reads ++ args.flatMap Opd.reads

def Ins.reads (i : Ins) : List Nat := i.op.reads ++ (match i.guard with | some (g, _) => [g] | none => [])

def I.tgt : I → Option Nat
  | .alloc k _ _ | .box k _ _ | .bslice k _ _ _ _ _ | .mkslice k _ _ _ _ _ _ | .append k _ _ _ _ _ _ | .mkmap k => some k
  | _ => none

/-- May y, then x be turned to x, then y? -/
def comm (y x : Ins) : Bool :=
  (y.idx != x.idx && !y.chk.contains x.idx) &&
  (match y.dst with | some d => !x.reads.contains d && x.dst != some d | none => true) &&
  (match x.dst with | some d => !y.reads.contains d | none => true) &&
  (match y.op.cls, x.op.cls with
    | .P, _ | _, .P => true
    | .L, .L | .L, .M | .M, .L | .M, .M => true
    | .L, .E | .L, .Ea | .M, .E | .M, .Ea | .E, .E | .Ea, .E => y.op.tgt.isNone || y.op.tgt != x.op.tgt
    | .C, .E => true
    | .C, .L | .E, .L => y.lg && x.chk.contains y.idx
    | .L, .W => y.lg && x.op.isStore && x.chk.contains y.idx
    | .L, .V => true
    | _, _ => false)

/-- What must come before each operation. -/
def before : List (List Nat) → List Oper → List (List Nat)
  | acc, [] => acc
  | acc, o :: l =>
    let direct := o.after.toList.filterMap fun e => if Region.binds .any e then some e.on else none
    before (acc ++ [(direct ++ direct.flatMap fun d => acc.getD d []).eraseDups]) l

def pickNext (bef : List (List Nat)) (cls : List Cls) (want : List Nat) (done : List Nat) : Option Nat :=
  let ready := want.filter fun i => !done.contains i && (bef.getD i []).all fun j => done.contains j
  match ready.find? (fun i => !(cls.getD i .W == .E || cls.getD i .W == .Ea)) with
  | some i => some i
  | none => match ready.find? (fun i => cls.getD i .W == .Ea) with
    | some i => some i
    | none => ready.head?

def takeAll (bef : List (List Nat)) (cls : List Cls) (want : List Nat) : Nat → List Nat → List Nat
  | 0, done => done
  | n + 1, done => match pickNext bef cls want done with
    | some i => takeAll bef cls want n (done ++ [i])
    | none => done

def planOrder (bef : List (List Nat)) (cls : List Cls) : List Nat :=
  let n := cls.length
  let at_ := fun i => cls.getD i .P
  let anchors := (List.range n).filter fun i => match at_ i with | .C | .W | .V => true | _ => false
  let d := anchors.foldl (fun done a =>
    let done := match at_ a with
      | .C => done
      | _ =>
        let early := (List.range n).filter fun j => (at_ j == .L || at_ j == .M) && !(bef.getD j []).contains a && (bef.getD j []).all fun b => (match at_ b with | .C | .W | .V => done.contains b | _ => true)
        takeAll bef cls ((List.range n).filter fun i => early.any fun j => i == j || (bef.getD j []).contains i) n done
    takeAll bef cls ((List.range n).filter fun i => i == a || (bef.getD a []).contains i) n done) []
  takeAll bef cls (List.range n) n d

def setPure (bef : List (List Nat)) (all : List Ins) (i : Ins) : Ins :=
  match i.op with
  | .append k e s b _ x y =>
    let lone := all.all fun j => j.idx == i.idx || j.op.cls == .P || j.op.cls == .L || (bef.getD i.idx []).contains j.idx || (bef.getD j.idx []).contains i.idx
    { i with op := .append k e s b (!lone) x y }
  | _ => i

def setChk (bef : List (List Nat)) : List Ins → List Ins → List Ins
  | _, [] => []
  | seen, i :: l =>
    let free := fun (j : Ins) => !(bef.getD i.idx []).contains j.idx
    let i := match i.op.cls with
      | .L => { i with chk := (seen.filter fun j => (j.op.cls == .C || j.op.cls == .E) && free j).map (·.idx) }
      | .W => if i.op.isStore then { i with chk := (seen.filter fun j => j.op.cls == .L && free j).map (·.idx) } else i
      | _ => i
    i :: setChk bef (seen ++ [i]) l

/-- What is looked at later is noted. -/
def setLg (l : List Ins) : List Ins :=
  let all := l.flatMap (·.chk)
  l.map fun i => { i with lg := all.contains i.idx }

/-- Each operation is either behind each elder one of the list by an edge, or the two may be exchanged. -/
def orderOk (bef : List (List Nat)) : List Ins → Bool
  | [] => true
  | y :: l => !(bef.getD y.idx []).contains y.idx && (l.all fun x => !(bef.getD y.idx []).contains x.idx && y.idx != x.idx && ((bef.getD x.idx []).contains y.idx || comm y x)) && orderOk bef l

def planned (m : Nat) (ops : List Oper) (l : List Ins) : Option (List Ins) :=
  let bef := before [] ops
  let l := l.map (setPure bef l)
  let ord := planOrder bef (l.map fun i => i.op.cls)
  let l' := setLg (setChk bef [] (ord.filterMap fun i => l[i]?))
  if ((List.range m).all fun j => (l'.map (·.idx)).contains j) = true ∧ (l'.all fun i => decide (i.idx < m)) = true ∧ (bef.all fun b => b.all fun j => decide (j < ops.length)) = true ∧ orderOk bef l' = true then some l' else none

/-- A region's last operation, where it is a call or a panic. -/
def lastCd (P : Program) (nt : Nat) (o : Oper) : Option Cd :=
  if dstOk nt o.dst = false then none else
  match o.guard, o.op with
  | none, .call c => match c.callee with
    | .value f => match cOpd P f, cOpds P c.args.toList with
      | some f, some as => some (.callp o.dst f as)
      | _, _ => none
    | _ => none
  | none, .panic x => (cOpd P x).map .panic
  | _, _ => none

/-- Does the last operation stand behind all others, and none behind it? -/
def lastOk (ops : List Oper) : Bool :=
  let bef := before [] ops
  ((List.range (ops.length - 1)).all fun j => (bef.getD (ops.length - 1) []).contains j) && ((List.range ops.length).all fun j => !(bef.getD j []).contains (ops.length - 1))

/-- The region's operations but the last one, and the last one, behind which none stands and which is behind all of them. -/
def splitR (P : Program) (nt : Nat) (ops : List Oper) (draw : Bool) : Option Cd :=
  match ops.getLast? with
  | some o => match lastCd P nt o with
    | some c => if draw && !lastOk ops then none else some c
    | none => none
  | none => none

def stuckR : Cd := .region 0 [⟨0, none, none, .stuck, [], false⟩]

def cRegion (P : Program) (nt : Nat) (ops : List Oper) (draw : Bool) : Option Cd :=
  match splitR P nt ops draw with
  | some c => match cList P nt ops 0 0 ops.dropLast with
    | none => none
    | some (l, n) => some (.seq (if draw then (match planned (ops.length - 1) ops l with
        | some l => .region n l
        | none => stuckR) else .region n l) c)
  | none => match cList P nt ops 0 0 ops with
    | none => none
    | some (l, n) => if draw then some (match planned ops.length ops l with
        | some l => .region n l
        | none => stuckR) else some (.region n l)

/-- No goto stands in it. -/
def noGo : Code → Bool
  | .seq a b | .cond _ a b => noGo a && noGo b
  | .block _ c | .loop c | .scope c => noGo c
  | .goto _ => false
  | .rangeFunc .. | .refuse _ => false
  | _ => true

def cCode (P : Program) (nt : Nat) : Code → Option Cd
  | .skip => some .skip
  | .region _ ops draw => cRegion P nt ops.toList draw
  | .seq a b => match cCode P nt a, cCode P nt b with
    | some a, some b => some (.seq a b)
    | _, _ => none
  | .cond c a b => match cOpd P c, cCode P nt a, cCode P nt b with
    | some c, some a, some b => some (.cond c a b)
    | _, _, _ => none
  | .block id c => (cCode P nt c).map fun c => .block id c
  | .loop c => (cCode P nt c).map .loop
  | .exit id => some (.exit id)
  | .ret => some .ret
  | .scope c => if noGo c then cCode P nt c else some stuckR
  | .label _ => some .skip
  | _ => some stuckR

def cRes (P : Program) : List ResultVar → Option (List Res)
  | [] => some []
  | .tmp t :: l => (cRes P l).map fun r => .tmp t :: r
  | .cell a t :: l => match P.underlying t, sizeOfT P t, cRes P l with
    | some d, some n, some r => some (.cell a (aggD d) n :: r)
    | _, _, _ => none

/-- A function that defers one closure: the code before, the closure, the code behind. -/
def dfrOf (P : Program) (nt : Nat) (fn : Func) : Option FnI :=
  match fn.body with
  | some (.seq a (.seq (.region _ ops false) rest)) => match ops.toList.getLast? with
    | some o => match o.guard, o.dst, o.op with
      | none, none, .defer c => match c.callee, c.args.toList with
        | .value f, [] => match cOpd P f, cCode P nt a, cList P nt ops.toList 0 0 ops.toList.dropLast, cCode P nt rest, cRes P fn.results.toList with
          | some f, some a, some (l, n), some rest, some r => some ⟨r, .seq a (.region n l), some (f, rest), none⟩
          | _, _, _, _, _ => none
        | _, _ => none
      | _, _, _ => none
    | none => none
  | _ => none

/-- A closure that is deferred, and recovers first of all. -/
def rcvOf (P : Program) (nt : Nat) (fn : Func) : Option FnI :=
  match fn.body with
  | some (.seq (.region _ ops false) rest) => match ops.toList with
    | o :: l => match o.guard, o.dst, o.op with
      | none, some d, .call c => match c.callee with
        | .builtin .recover => if d < nt then match cList P nt ops.toList 1 0 l, cCode P nt rest, cRes P fn.results.toList with
            | some (l, n), some rest, some r => some ⟨r, .seq (.region n l) rest, none, some d⟩
            | _, _, _ => none
          else none
        | _ => none
      | _, _, _ => none
    | [] => none
  | _ => none

def cFn (P : Program) (f : Func) : Option FnI :=
  if f.name == "runtime.NumGoroutine" then none else
  match dfrOf P f.ntmps f with
  | some i => some i
  | none => match rcvOf P f.ntmps f with
    | some i => some i
    | none => match f.body with
      | none => none
      | some c => match cCode P f.ntmps c, cRes P f.results.toList with
        | some c, some r => some ⟨r, c, none, none⟩
        | _, _ => none

end Go.Proofs.YtapkmhneneffdaaGreatDoor.Mx

/-! The text ZadC. -/
namespace Go.Proofs.YtapkmhneneffdaaGreatDoor.Mx
open Go

structure Loc where
  b : Nat
  o : Nat
  n : Nat

/-- The memory at the call: so many globals, so many objects. -/
structure Bs where
  g : Nat
  b : Nat

abbrev Emb := Nat → Option Loc

inductive VR (β : Emb) : Value → Value → Prop
  | bool (b : Bool) : VR β (.bool b) (.bool b)
  | int (k : IntKind) (n : Int) : VR β (.int k n) (.int k n)
  | str (s : ByteArray) : VR β (.string s) (.string s)
  | nilp : VR β (.pointer none) (.pointer none)
  | ptr (id off : Nat) (l : Loc) (h : β id = some l) : VR β (.pointer (some ⟨id, off, none⟩)) (.pointer (some ⟨l.b, l.o + off, none⟩))
  | nils : VR β (.slice none 0 0) (.slice none 0 0)
  | slice (id off m len cap cap' : Nat) (l : Loc) (h : β id = some l) (h1 : len ≤ cap) (h2 : cap ≤ cap') (h3 : m % 2 = 1 → cap' = cap) (h4 : m / 2 ≠ 0 → off + cap' * (m / 2) ≤ l.n) :
      VR β (.slice (some ⟨id, off, some m⟩) len cap) (.slice (some ⟨l.b, l.o + off, none⟩) len cap')
  | slice0 (id off m : Nat) (A : Addr) : VR β (.slice (some ⟨id, off, some m⟩) 0 0) (.slice (some A) 0 0)
  | nilm : VR β (.map none) (.map none)
  | mapr (id : Nat) (l : Loc) (h : β id = some l) : VR β (.map (some id)) (.map (some l.b))
  | any (v : Value) : VR β junk v
  | opq (v : Value) (h : v.oneCell' = true) : VR β opq v
  | nilf : VR β .nilFunc .nilFunc
  | nili : VR β .nilIface .nilIface
  | iface (t : TypeId) (v v' : Value) (h : VR β v v') : VR β (.iface t v) (.iface t v')
  | func (fn : Fn) (f c f' c' : Array Value) (hf : f.size = f'.size) (hc : c.size = c'.size) (gf : ∀ i (h : i < f.size) (h' : i < f'.size), VR β f[i] f'[i])
      (gc : ∀ i (h : i < c.size) (h' : i < c'.size), VR β c[i] c'[i]) : VR β (.func fn f c) (.func fn f' c')
  | agg (c c' : Array Value) (hc : c.size = c'.size) (gc : ∀ i (h : i < c.size) (h' : i < c'.size), VR β c[i] c'[i]) : VR β (.agg c) (.agg c')
  | tuple (c c' : Array Value) (hc : c.size = c'.size) (gc : ∀ i (h : i < c.size) (h' : i < c'.size), VR β c[i] c'[i]) : VR β (.tuple c) (.tuple c')

def VRs (β : Emb) (l l' : List Value) : Prop := l.length = l'.length ∧ ∀ (i : Nat) (v : Value), l[i]? = some v → ∃ v', l'[i]? = some v' ∧ VR β v v'

def Emb.le (β β' : Emb) : Prop := ∀ id l, β id = some l → β' id = some l

theorem Emb.le_refl (β : Emb) : β.le β := fun _ _ h => h
theorem Emb.le_trans {a b c : Emb} (h : a.le b) (h' : b.le c) : a.le c := fun _ _ g => h' _ _ (h _ _ g)

theorem VR.mono {β β' : Emb} (hb : β.le β') {v v' : Value} (h : VR β v v') : VR β' v v' := by
  induction h with
  | bool b => exact .bool b
  | int k n => exact .int k n
  | str s => exact .str s
  | nilp => exact .nilp
  | ptr id off l h => exact .ptr id off l (hb _ _ h)
  | nils => exact .nils
  | slice id off m len cap cap' l h h1 h2 h3 h4 => exact .slice id off m len cap cap' l (hb _ _ h) h1 h2 h3 h4
  | slice0 id off m A => exact .slice0 id off m A
  | nilm => exact .nilm
  | mapr id l h => exact .mapr id l (hb _ _ h)
  | any v => exact .any v
  | opq v h => exact .opq v h
  | nilf => exact .nilf
  | nili => exact .nili
  | iface t v v' _ ih => exact .iface t v v' ih
  | func fn f c f' c' hf hc _ _ i1 i2 => exact .func fn f c f' c' hf hc i1 i2
  | agg c c' hc _ ih => exact .agg c c' hc ih
  | tuple c c' hc _ ih => exact .tuple c c' hc ih

theorem VRs.mono {β β' : Emb} (hb : β.le β') {l l' : List Value} (h : VRs β l l') : VRs β' l l' :=
  ⟨h.1, fun i v hv => let ⟨v', h1, h2⟩ := h.2 i v hv; ⟨v', h1, h2.mono hb⟩⟩

theorem VRs.nil (β : Emb) : VRs β [] [] := ⟨rfl, fun i v h => by simp at h⟩
theorem VRs.cons {β : Emb} {v v' : Value} {l l' : List Value} (h : VR β v v') (hl : VRs β l l') : VRs β (v :: l) (v' :: l') := by
  refine ⟨by simp [hl.1], fun i u hu => ?_⟩
  cases i with
  | zero => simp at hu; subst hu; exact ⟨v', by simp, h⟩
  | succ i => simp at hu; obtain ⟨u', h1, h2⟩ := hl.2 i u hu; exact ⟨u', by simpa using h1, h2⟩
theorem VRs.append {β : Emb} {a a' b b' : List Value} (h : VRs β a a') (h' : VRs β b b') : VRs β (a ++ b) (a' ++ b') := by
  refine ⟨by simp [h.1, h'.1], fun i u hu => ?_⟩
  by_cases hi : i < a.length
  · rw [List.getElem?_append_left hi] at hu
    obtain ⟨u', h1, h2⟩ := h.2 i u hu
    exact ⟨u', by rw [List.getElem?_append_left (h.1 ▸ hi)]; exact h1, h2⟩
  · rw [List.getElem?_append_right (by omega)] at hu
    obtain ⟨u', h1, h2⟩ := h'.2 _ u hu
    exact ⟨u', by rw [List.getElem?_append_right (by have := h.1; omega), ← h.1]; exact h1, h2⟩
theorem VRs.take {β : Emb} {a a' : List Value} (h : VRs β a a') (n : Nat) : VRs β (a.take n) (a'.take n) := by
  refine ⟨by simp [h.1], fun i u hu => ?_⟩
  rw [List.getElem?_take] at hu
  split at hu
  · rename_i hi
    obtain ⟨u', h1, h2⟩ := h.2 i u hu
    exact ⟨u', by rw [List.getElem?_take, if_pos hi]; exact h1, h2⟩
  · simp at hu
theorem VRs.drop {β : Emb} {a a' : List Value} (h : VRs β a a') (n : Nat) : VRs β (a.drop n) (a'.drop n) := by
  refine ⟨by simp [h.1], fun i u hu => ?_⟩
  rw [List.getElem?_drop] at hu
  obtain ⟨u', h1, h2⟩ := h.2 _ u hu
  exact ⟨u', by rw [List.getElem?_drop]; exact h1, h2⟩

theorem vrs_of_arr {β : Emb} {c c' : Array Value} (hc : c.size = c'.size) (gc : ∀ i (h : i < c.size) (h' : i < c'.size), VR β c[i] c'[i]) : VRs β c.toList c'.toList := by
  refine ⟨by simpa using hc, fun i v hv => ?_⟩
  rw [Array.getElem?_toList] at hv
  obtain ⟨hi, rfl⟩ := Array.getElem?_eq_some_iff.1 hv
  exact ⟨c'[i]'(hc ▸ hi), by rw [Array.getElem?_toList]; exact Array.getElem?_eq_some_iff.2 ⟨hc ▸ hi, rfl⟩, gc i hi (hc ▸ hi)⟩
theorem arr_of_vrs {β : Emb} {c c' : Array Value} (h : VRs β c.toList c'.toList) : c.size = c'.size ∧ ∀ i (h : i < c.size) (h' : i < c'.size), VR β c[i] c'[i] := by
  refine ⟨by simpa using h.1, fun i hi hi' => ?_⟩
  obtain ⟨v', h1, h2⟩ := h.2 i c[i] (by rw [Array.getElem?_toList]; exact Array.getElem?_eq_some_iff.2 ⟨hi, rfl⟩)
  rw [Array.getElem?_toList] at h1
  obtain ⟨_, rfl⟩ := Array.getElem?_eq_some_iff.1 h1
  exact h2
theorem VR.agg' {β : Emb} {c c' : Array Value} (h : VRs β c.toList c'.toList) : VR β (.agg c) (.agg c') := .agg _ _ (arr_of_vrs h).1 (arr_of_vrs h).2
theorem VR.tuple' {β : Emb} {c c' : Array Value} (h : VRs β c.toList c'.toList) : VR β (.tuple c) (.tuple c') := .tuple _ _ (arr_of_vrs h).1 (arr_of_vrs h).2
theorem VR.undef (β : Emb) : VR β undef undef := .tuple _ _ rfl (fun i h => absurd h (by simp))

theorem VR.cells {β : Emb} {v v' : Value} (h : VR β v v') (ho : okAll v = true) : VRs β v.cells.toList v'.cells.toList := by
  cases h with
  | agg c c' hc gc => exact vrs_of_arr hc gc
  | tuple c c' hc gc => simp [okAll, Value.cells, okCell] at ho
  | any v => simp [okAll, junk, Value.cells, okCell] at ho
  | opq v hv =>
    have : v'.cells = #[v'] := by cases v' <;> first | rfl | simp [Value.oneCell'] at hv
    rw [this]
    exact .cons (.opq v' hv) (.nil β)
  | func fn f c f' c' hf hc gf gc => exact .cons (.func fn f c f' c' hf hc gf gc) (.nil β)
  | bool b => exact .cons (.bool b) (.nil β)
  | int k n => exact .cons (.int k n) (.nil β)
  | str s => exact .cons (.str s) (.nil β)
  | nilp => exact .cons .nilp (.nil β)
  | ptr id off l h => exact .cons (.ptr id off l h) (.nil β)
  | nils => exact .cons .nils (.nil β)
  | slice id off m len cap cap' l h h1 h2 h3 h4 => exact .cons (.slice id off m len cap cap' l h h1 h2 h3 h4) (.nil β)
  | slice0 id off m A => exact .cons (.slice0 id off m A) (.nil β)
  | nilm => exact .cons .nilm (.nil β)
  | mapr id l h => exact .cons (.mapr id l h) (.nil β)
  | nilf => exact .cons .nilf (.nil β)
  | nili => exact .cons .nili (.nil β)
  | iface t v v' h => exact .cons (.iface t v v' h) (.nil β)

theorem VR.one {β : Emb} {v v' : Value} (h : VR β v v') (ho : okCell v = true) : v'.oneCell' = true := by
  cases h <;> first | rfl | assumption | simp [okCell, junk] at ho

theorem VRs.allOne {β : Emb} {l l' : List Value} (h : VRs β l l') (ho : l.all okCell = true) : ∀ v ∈ l', v.oneCell' = true := by
  intro v hv
  obtain ⟨i, hi, rfl⟩ := List.mem_iff_getElem.1 hv
  obtain ⟨v', h1, h2⟩ := h.2 i (l[i]'(h.1 ▸ hi)) (List.getElem?_eq_getElem _)
  rw [List.getElem?_eq_getElem hi] at h1
  have h1 : l'[i] = v' := by simpa using h1
  rw [h1]
  exact h2.one (List.all_eq_true.1 ho _ (List.getElem_mem _))

theorem VR.ofLeaf (β : Emb) {v : Value} (h : leafClosed v = true) : VR β v v := by
  cases v <;> simp [leafClosed] at h <;> first | exact .bool _ | exact .int _ _ | exact .str _ | exact .nilf | exact .nili | skip
  case pointer a => cases a <;> simp at h; exact .nilp
  case slice a l c =>
    cases a with
    | some a => simp at h
    | none => cases l <;> cases c <;> simp at h; exact .nils
  case map a => cases a <;> simp at h; exact .nilm

theorem VRs.ofLeaf (β : Emb) {l : List Value} (h : l.all leafClosed = true) : VRs β l l :=
  ⟨rfl, fun i v hv => ⟨v, hv, .ofLeaf β (List.all_eq_true.1 h v (List.mem_of_getElem? hv))⟩⟩

theorem VR.ofClosed (β : Emb) {v : Value} (h : closedV v = true) : VR β v v := by
  cases v <;> simp only [closedV] at h <;> first
    | exact .ofLeaf β h
    | exact .agg' (.ofLeaf β (by simpa using h))
    | exact .tuple' (.ofLeaf β (by simpa using h))

/-! ### heaps -/
def ObR (β : Emb) (hp : Array Obj) (l : Loc) (ro : Bool) (cs : List Value) : Prop :=
  ∃ c e fz, hp[l.b]? = some (.cells c e fz) ∧ (ro = false → fz = (0, 0)) ∧ cs.length ≤ l.n ∧ l.o + l.n ≤ c.size ∧
    ∀ (i : Nat) (v : Value), cs[i]? = some v → ∃ v', c[l.o + i]? = some v' ∧ VR β v v'

theorem ObR.mono {β β' : Emb} (hb : β.le β') {hp : Array Obj} {l : Loc} {ro : Bool} {cs : List Value} (h : ObR β hp l ro cs) : ObR β' hp l ro cs := by
  obtain ⟨c, e, fz, h1, h2, h3, h4, h5⟩ := h
  exact ⟨c, e, fz, h1, h2, h3, h4, fun i v hv => let ⟨v', g1, g2⟩ := h5 i v hv; ⟨v', g1, g2.mono hb⟩⟩

theorem ObR.heap {β : Emb} {hp hp' : Array Obj} {l : Loc} {ro : Bool} {cs : List Value} (h : ObR β hp l ro cs) (he : ∀ o, hp[l.b]? = some o → hp'[l.b]? = some o) : ObR β hp' l ro cs := by
  obtain ⟨c, e, fz, h1, h2, h3, h4, h5⟩ := h
  exact ⟨c, e, fz, he _ h1, h2, h3, h4, h5⟩

/-- A key: plain, or of plain cells. -/
def keyAny : Value → Bool
  | .agg cs => cs.toList.all plain
  | k => plain k

def EntR (β : Emb) (e : Value × Value × Nat) (e' : MapEntry) : Prop := keyAny e.1 = true ∧ e'.key = e.1 ∧ VR β e.2.1 e'.val ∧ e'.born = e.2.2

def MapR (β : Emb) (hp : Array Obj) (l : Loc) (es : Entries) (c : Nat) : Prop :=
  ∃ es', hp[l.b]? = some (.map es' c) ∧ es'.size = es.length ∧ ∀ (i : Nat) e, es[i]? = some e → ∃ e', es'[i]? = some e' ∧ EntR β e e'

theorem MapR.mono {β β' : Emb} (hb : β.le β') {hp : Array Obj} {l : Loc} {es : Entries} {c : Nat} (h : MapR β hp l es c) : MapR β' hp l es c := by
  obtain ⟨es', h1, h2, h3⟩ := h
  exact ⟨es', h1, h2, fun i e he => let ⟨e', g1, g2, g3, g4, g5⟩ := h3 i e he; ⟨e', g1, g2, g3, g4.mono hb, g5⟩⟩

theorem MapR.heap {β : Emb} {hp hp' : Array Obj} {l : Loc} {es : Entries} {c : Nat} (h : MapR β hp l es c) (he : ∀ o, hp[l.b]? = some o → hp'[l.b]? = some o) : MapR β hp' l es c := by
  obtain ⟨es', h1, h2, h3⟩ := h
  exact ⟨es', he _ h1, h2, h3⟩

structure Rel (B0 : Bs) (hp0 : Array Obj) (β : Emb) (H : Heap) (hp : Array Obj) : Prop where
  dom : ∀ id l, β id = some l → id < H.size
  pn : ∀ id, H.get id = some .pend → β id = none
  ob : ∀ id l e ro cs, β id = some l → H.get id = some (.cells e ro cs) → ObR β hp l ro cs
  wr : ∀ id l e cs, β id = some l → H.get id = some (.cells e false cs) → B0.b ≤ l.b
  inj : ∀ id l e cs id' l' e' ro' cs', β id = some l → H.get id = some (.cells e false cs) → β id' = some l' → H.get id' = some (.cells e' ro' cs') → id ≠ id' → l'.b ≠ l.b
  mp : ∀ id l es c, β id = some l → H.get id = some (.map es c) → MapR β hp l es c
  wm : ∀ id l es c, β id = some l → H.get id = some (.map es c) → B0.b ≤ l.b
  injm : ∀ id l es c id' l' es' c', β id = some l → H.get id = some (.map es c) → β id' = some l' → H.get id' = some (.map es' c') → id ≠ id' → l'.b ≠ l.b
  gl : ∀ g, g < B0.g → ∃ n, β g = some ⟨g, 0, n⟩
  keep : ∀ b, b < B0.b → hp[b]? = hp0[b]?
  siz : B0.b ≤ hp.size

section
variable {B0 : Bs} {hp0 : Array Obj} {β : Emb} {H : Heap} {hp : Array Obj}

theorem Rel.ext (R : Rel B0 hp0 β H hp) (n : Nat) : Rel B0 hp0 β (Heap.ext n H) hp := by
  have g : ∀ id l, β id = some l → (Heap.ext n H).get id = H.get id := fun id l h => by
    have := R.dom id l h
    rw [Heap.get_ext, if_neg (by omega)]
  refine ⟨fun id l h => by rw [Heap.size_ext]; have := R.dom id l h; omega, fun id h => ?_, fun id l e ro cs h h' => R.ob id l e ro cs h (by rw [← g id l h]; exact h'), fun id l e cs h h' => R.wr id l e cs h (by rw [← g id l h]; exact h'),
    fun id l e cs id' l' e' ro' cs' h1 h2 h3 h4 => R.inj id l e cs id' l' e' ro' cs' h1 (by rw [← g id l h1]; exact h2) h3 (by rw [← g id' l' h3]; exact h4),
    fun id l es c h h' => R.mp id l es c h (by rw [← g id l h]; exact h'), fun id l es c h h' => R.wm id l es c h (by rw [← g id l h]; exact h'),
    fun id l es c id' l' es' c' h1 h2 h3 h4 => R.injm id l es c id' l' es' c' h1 (by rw [← g id l h1]; exact h2) h3 (by rw [← g id' l' h3]; exact h4), R.gl, R.keep, R.siz⟩
  cases hb : β id with
  | none => rfl
  | some l => rw [g id l hb] at h; rw [R.pn id h] at hb; cases hb

def Emb.upd (β : Emb) (id : Nat) (l : Loc) : Emb := fun i => if i = id then some l else β i

theorem Emb.le_upd {β : Emb} {id : Nat} (l : Loc) (h : β id = none) : β.le (β.upd id l) := by
  intro i l' hi
  unfold Emb.upd
  split
  · rename_i e; subst e; rw [h] at hi; cases hi
  · exact hi

/-- A new object at a pending number. -/
theorem Rel.new (R : Rel B0 hp0 β H hp) {id : Nat} {H' : Heap} {e : TypeId} {cs : List Value} (hn : H.new id (.cells e false cs) = some H') (hid : id < H.size)
    (c : Array Value) (t : TypeId) (hc : ∀ (i : Nat) (v : Value), cs[i]? = some v → ∃ v', c[i]? = some v' ∧ VR β v v') (hl : cs.length ≤ c.size) :
    β.le (β.upd id ⟨hp.size, 0, c.size⟩) ∧ Rel B0 hp0 (β.upd id ⟨hp.size, 0, c.size⟩) H' (hp.push (.cells c t (0, 0))) := by
  have hp' : H.get id = some .pend ∧ H' = H.put id (.cells e false cs) := by
    unfold Heap.new at hn
    split at hn <;> simp_all
  obtain ⟨hpe, rfl⟩ := hp'
  have hb : β id = none := R.pn id hpe
  have le := Emb.le_upd (β := β) ⟨hp.size, 0, c.size⟩ hb
  have old : ∀ i l, β i = some l → i ≠ id := fun i l h e => by subst e; rw [hb] at h; cases h
  have blk : ∀ i l e' ro' cs', β i = some l → H.get i = some (.cells e' ro' cs') → l.b < hp.size := fun i l e' ro' cs' h h' => by
    obtain ⟨c', _, _, h1, _⟩ := R.ob i l e' ro' cs' h h'
    exact (Array.getElem?_eq_some_iff.1 h1).1
  have psh : ∀ (b : Nat) o, hp[b]? = some o → (hp.push (.cells c t (0, 0)))[b]? = some o := fun b o ho => by
    have hlt := (Array.getElem?_eq_some_iff.1 ho).1
    rw [Array.getElem?_push_lt hlt]
    simpa [Array.getElem?_eq_getElem hlt] using ho
  have mt : ∀ i es k, (H.put id (.cells e false cs)).get i = some (.map es k) → i ≠ id ∧ H.get i = some (.map es k) := fun i es k h => by
    rw [Heap.get_put] at h
    split at h
    · cases h
    · rename_i hne; exact ⟨fun e => hne e.symm, h⟩
  have bt : ∀ i l, i ≠ id → β.upd id ⟨hp.size, 0, c.size⟩ i = some l → β i = some l := fun i l hne h => by
    unfold Emb.upd at h
    rw [if_neg hne] at h; exact h
  refine ⟨le, ⟨fun i l h => ?_, fun i h => ?_, fun i l e' ro cs' h h' => ?_, fun i l e' cs' h h' => ?_, fun i l e' cs' j l' e'' ro'' cs'' h1 h2 h3 h4 hne => ?_,
    fun i l es k h h' => ((R.mp i l es k (bt i l (mt _ _ _ h').1 h) (mt _ _ _ h').2).mono le).heap (psh _),
    fun i l es k h h' => R.wm i l es k (bt i l (mt _ _ _ h').1 h) (mt _ _ _ h').2,
    fun i l es k j l' es' k' h1 h2 h3 h4 hne => R.injm i l es k j l' es' k' (bt i l (mt _ _ _ h2).1 h1) (mt _ _ _ h2).2 (bt j l' (mt _ _ _ h4).1 h3) (mt _ _ _ h4).2 hne,
    fun g hg => let ⟨n, hn⟩ := R.gl g hg; ⟨n, le _ _ hn⟩,
    fun b hb' => ?_, by have := R.siz; simp; omega⟩⟩
  · rw [Heap.size_put]
    unfold Emb.upd at h
    split at h
    · rename_i e; subst e; exact hid
    · exact R.dom i l h
  · rw [Heap.get_put] at h
    split at h
    · cases h
    · rename_i hne; unfold Emb.upd; rw [if_neg (fun e => hne e.symm)]; exact R.pn i h
  · rw [Heap.get_put] at h'
    unfold Emb.upd at h
    split at h
    · rename_i e; subst e; rw [if_pos rfl] at h'; cases h'; cases h
      exact ⟨c, t, (0, 0), by simp, fun _ => rfl, hl, by simp, fun j v hv => let ⟨v', g1, g2⟩ := hc j v hv; ⟨v', by simpa using g1, g2.mono le⟩⟩
    · rename_i hne; rw [if_neg (fun e => hne e.symm)] at h'
      exact ((R.ob i l e' ro cs' h h').mono le).heap (fun o ho => by
        have hlt := (Array.getElem?_eq_some_iff.1 ho).1
        rw [Array.getElem?_push_lt hlt]
        exact (Array.getElem?_eq_getElem hlt).symm.trans ho |> fun h => by simpa [Array.getElem?_eq_getElem hlt] using h)
  · rw [Heap.get_put] at h'
    unfold Emb.upd at h
    split at h
    · cases h; exact R.siz
    · rename_i hne; rw [if_neg (fun e => hne e.symm)] at h'; exact R.wr i l e' cs' h h'
  · rw [Heap.get_put] at h2 h4
    unfold Emb.upd at h1 h3
    split at h1
    · rename_i ei; cases h1
      have hj : j ≠ id := fun e => hne (ei.trans e.symm)
      rw [if_neg hj] at h3
      rw [if_neg (fun e => hj e.symm)] at h4
      have := blk j l' _ _ _ h3 h4
      show l'.b ≠ hp.size
      omega
    · rename_i hi
      rw [if_neg (fun e => hi e.symm)] at h2
      split at h3
      · cases h3
        have := blk i l _ _ _ h1 h2
        show hp.size ≠ l.b
        omega
      · rename_i hj
        rw [if_neg (fun e => hj e.symm)] at h4
        exact R.inj i l e' cs' j l' e'' ro'' cs'' h1 h2 h3 h4 hne
  · have := R.siz
    rw [← R.keep b hb', Array.getElem?_push_lt (by omega)]
    exact (Array.getElem?_eq_getElem (by omega)).symm

/-- An object is given up. -/
theorem Rel.kill (R : Rel B0 hp0 β H hp) (id : Nat) : Rel B0 hp0 β (H.put id .dead) hp := by
  have g : ∀ i e ro cs, (H.put id .dead).get i = some (.cells e ro cs) → H.get i = some (.cells e ro cs) := fun i e ro cs h => by
    rw [Heap.get_put] at h
    split at h
    · cases h
    · exact h
  have gm : ∀ i es k, (H.put id .dead).get i = some (.map es k) → H.get i = some (.map es k) := fun i es k h => by
    rw [Heap.get_put] at h
    split at h
    · cases h
    · exact h
  refine ⟨R.dom, fun i h => ?_, fun i l e ro cs h h' => R.ob i l e ro cs h (g _ _ _ _ h'), fun i l e cs h h' => R.wr i l e cs h (g _ _ _ _ h'),
    fun i l e cs j l' e' ro' cs' h1 h2 h3 h4 => R.inj i l e cs j l' e' ro' cs' h1 (g _ _ _ _ h2) h3 (g _ _ _ _ h4),
    fun i l es k h h' => R.mp i l es k h (gm _ _ _ h'), fun i l es k h h' => R.wm i l es k h (gm _ _ _ h'),
    fun i l es k j l' es' k' h1 h2 h3 h4 => R.injm i l es k j l' es' k' h1 (gm _ _ _ h2) h3 (gm _ _ _ h4), R.gl, R.keep, R.siz⟩
  rw [Heap.get_put] at h
  split at h
  · cases h
  · exact R.pn i h

/-- An object's cells are written anew: the block's cells in the range of the object are related to the new ones. -/
theorem Rel.write (R : Rel B0 hp0 β H hp) {id : Nat} {l : Loc} {e : TypeId} {cs cs2 : List Value} (hb : β id = some l) (hg : H.get id = some (.cells e false cs))
    (c2 : Array Value) (t : TypeId) (hsz : ∀ c e' fz, hp[l.b]? = some (.cells c e' fz) → c2.size = c.size) (hl : cs2.length ≤ l.n)
    (hc : ∀ (i : Nat) (v : Value), cs2[i]? = some v → ∃ v', c2[l.o + i]? = some v' ∧ VR β v v') :
    Rel B0 hp0 β (H.put id (.cells e false cs2)) (hp.setIfInBounds l.b (.cells c2 t (0, 0))) := by
  obtain ⟨c, e0, fz, g1, g2, g3, g4, g5⟩ := R.ob id l e false cs hb hg
  have hlt : l.b < hp.size := (Array.getElem?_eq_some_iff.1 g1).1
  have mt : ∀ i es k, (H.put id (.cells e false cs2)).get i = some (.map es k) → H.get i = some (.map es k) := fun i es k h => by
    rw [Heap.get_put] at h
    split at h
    · cases h
    · exact h
  refine ⟨fun i l' h => by rw [Heap.size_put]; exact R.dom i l' h, fun i h => ?_, fun i l' e' ro' cs' h h' => ?_, fun i l' e' cs' h h' => ?_, fun i l1 e1 cs1 j l2 e2 ro2 cs3 h1 h2 h3 h4 hne => ?_,
    fun i l' es k h h' => ?mp, fun i l' es k h h' => R.wm i l' es k h (mt _ _ _ h'),
    fun i l es k j l' es' k' h1 h2 h3 h4 => R.injm i l es k j l' es' k' h1 (mt _ _ _ h2) h3 (mt _ _ _ h4), R.gl, fun b hb' => ?_, by simpa using R.siz⟩
  case mp =>
    obtain ⟨es', m1, m2, m3⟩ := R.mp i l' es k h (mt _ _ _ h')
    have hne : l.b ≠ l'.b := fun e => by rw [e, m1] at g1; cases g1
    exact ⟨es', by rw [Array.getElem?_setIfInBounds, if_neg hne]; exact m1, m2, m3⟩
  · rw [Heap.get_put] at h
    split at h
    · cases h
    · exact R.pn i h
  · rw [Heap.get_put] at h'
    split at h'
    · rename_i ei; subst ei; cases h'
      rw [hb] at h; cases h
      exact ⟨c2, t, (0, 0), by rw [Array.getElem?_setIfInBounds, if_pos rfl, if_pos hlt], fun _ => rfl, hl, by rw [hsz c e0 fz g1]; exact g4, hc⟩
    · rename_i hne
      refine (R.ob i l' e' ro' cs' h h').heap fun o ho => ?_
      have := R.inj id l e cs i l' e' ro' cs' hb hg h h' hne
      rw [Array.getElem?_setIfInBounds, if_neg (fun e => this e.symm)]; exact ho
  · rw [Heap.get_put] at h'
    split at h'
    · rename_i ei; subst ei; exact R.wr id l' e cs h hg
    · exact R.wr i l' e' cs' h h'
  · rw [Heap.get_put] at h2 h4
    have q : ∀ (x : Nat) (ex : TypeId) (rx : Bool) (cx : List Value), (if id = x then some (Ob.cells e false cs2) else H.get x) = some (.cells ex rx cx) → ∃ ey cy, H.get x = some (.cells ey rx cy) := by
      intro x ex rx cx hx
      split at hx
      · rename_i ei; subst ei; cases hx; exact ⟨e, cs, hg⟩
      · exact ⟨_, _, hx⟩
    obtain ⟨ey, cy, k2⟩ := q _ _ _ _ h2
    obtain ⟨ez, cz, k4⟩ := q _ _ _ _ h4
    exact R.inj i l1 ey cy j l2 ez ro2 cz h1 k2 h3 k4 hne
  · have := R.wr id l e cs hb hg
    rw [Array.getElem?_setIfInBounds, if_neg (by omega)]; exact R.keep b hb'

/-- A new object in the place of an elder one, further on in its block; the elder one is given up. -/
theorem Rel.moved (R : Rel B0 hp0 β H hp) {id o off : Nat} {l : Loc} {e e2 : TypeId} {cs cs2 : List Value} {H' : Heap} (hb : β o = some l) (hg : H.get o = some (.cells e false cs))
    (hn : H.new id (.cells e2 false cs2) = some H') (hid : id < H.size) (hoff : off + cs2.length ≤ l.n)
    (c2 : Array Value) (t : TypeId) (hsz : ∀ c e' fz, hp[l.b]? = some (.cells c e' fz) → c2.size = c.size)
    (hc : ∀ (i : Nat) (v : Value), cs2[i]? = some v → ∃ v', c2[l.o + off + i]? = some v' ∧ VR β v v') :
    β.le (β.upd id ⟨l.b, l.o + off, l.n - off⟩) ∧ Rel B0 hp0 (β.upd id ⟨l.b, l.o + off, l.n - off⟩) (H'.put o .dead) (hp.setIfInBounds l.b (.cells c2 t (0, 0))) := by
  obtain ⟨c, e0, fz, g1, g2, g3, g4, g5⟩ := R.ob o l e false cs hb hg
  have hlt : l.b < hp.size := (Array.getElem?_eq_some_iff.1 g1).1
  have hp' : H.get id = some .pend ∧ H' = H.put id (.cells e2 false cs2) := by
    unfold Heap.new at hn
    split at hn <;> simp_all
  obtain ⟨hpe, rfl⟩ := hp'
  have hbn : β id = none := R.pn id hpe
  have le := Emb.le_upd (β := β) ⟨l.b, l.o + off, l.n - off⟩ hbn
  have hoid : o ≠ id := fun e => by subst e; rw [hbn] at hb; cases hb
  have gt : ∀ i e' ro' cs', ((H.put id (.cells e2 false cs2)).put o .dead).get i = some (.cells e' ro' cs') → i ≠ o ∧ (i = id ∧ ro' = false ∧ cs' = cs2 ∨ i ≠ id ∧ H.get i = some (.cells e' ro' cs')) := by
    intro i e' ro' cs' h
    rw [Heap.get_put] at h
    split at h
    · cases h
    · rename_i h1
      rw [Heap.get_put] at h
      split at h
      · rename_i h2; cases h; exact ⟨fun e => h1 e.symm, .inl ⟨h2.symm, rfl, rfl⟩⟩
      · rename_i h2; exact ⟨fun e => h1 e.symm, .inr ⟨fun e => h2 e.symm, h⟩⟩
  have bt : ∀ i l', β.upd id ⟨l.b, l.o + off, l.n - off⟩ i = some l' → i = id ∧ l' = ⟨l.b, l.o + off, l.n - off⟩ ∨ i ≠ id ∧ β i = some l' := by
    intro i l' h
    unfold Emb.upd at h
    split at h
    · rename_i e; cases h; exact .inl ⟨e, rfl⟩
    · rename_i e; exact .inr ⟨e, h⟩
  have mt : ∀ i es k, ((H.put id (.cells e2 false cs2)).put o .dead).get i = some (.map es k) → i ≠ id ∧ H.get i = some (.map es k) := fun i es k h => by
    rw [Heap.get_put] at h
    split at h
    · cases h
    · rw [Heap.get_put] at h
      split at h
      · cases h
      · rename_i hne; exact ⟨fun e => hne e.symm, h⟩
  have bm : ∀ i l', i ≠ id → β.upd id ⟨l.b, l.o + off, l.n - off⟩ i = some l' → β i = some l' := fun i l' hne h => by
    unfold Emb.upd at h
    rw [if_neg hne] at h; exact h
  refine ⟨le, ⟨fun i l' h => ?_, fun i h => ?_, fun i l' e' ro' cs' h h' => ?_, fun i l' e' cs' h h' => ?_, fun i l1 e1 cs1 j l2 e3 ro3 cs3 h1 h2 h3 h4 hne => ?_,
    fun i l' es k h h' => ?mp, fun i l' es k h h' => R.wm i l' es k (bm i l' (mt _ _ _ h').1 h) (mt _ _ _ h').2,
    fun i l es k j l' es' k' h1 h2 h3 h4 hne => R.injm i l es k j l' es' k' (bm i l (mt _ _ _ h2).1 h1) (mt _ _ _ h2).2 (bm j l' (mt _ _ _ h4).1 h3) (mt _ _ _ h4).2 hne,
    fun g hg => let ⟨n, hn⟩ := R.gl g hg; ⟨n, le _ _ hn⟩, fun b hb' => ?_, by simpa using R.siz⟩⟩
  case mp =>
    obtain ⟨es', m1, m2, m3⟩ := (R.mp i l' es k (bm i l' (mt _ _ _ h').1 h) (mt _ _ _ h').2).mono le
    have hne : l.b ≠ l'.b := fun e => by rw [e, m1] at g1; cases g1
    exact ⟨es', by rw [Array.getElem?_setIfInBounds, if_neg hne]; exact m1, m2, m3⟩
  · rw [Heap.size_put, Heap.size_put]
    rcases bt i l' h with ⟨rfl, _⟩ | ⟨_, h⟩
    · exact hid
    · exact R.dom i l' h
  · rw [Heap.get_put] at h
    split at h
    · cases h
    · rw [Heap.get_put] at h
      split at h
      · cases h
      · rename_i h1 h2; unfold Emb.upd; rw [if_neg (fun e => h2 e.symm)]; exact R.pn i h
  · obtain ⟨hio, hh⟩ := gt i e' ro' cs' h'
    rcases hh with ⟨rfl, rfl, rfl⟩ | ⟨hne, hh⟩
    · rcases bt _ l' h with ⟨_, rfl⟩ | ⟨hx, _⟩
      · exact ⟨c2, t, (0, 0), by rw [Array.getElem?_setIfInBounds, if_pos rfl, if_pos hlt], fun _ => rfl, by show cs'.length ≤ l.n - off; omega, by have := hsz c e0 fz g1; show l.o + off + (l.n - off) ≤ c2.size; omega,
          fun j v hv => let ⟨v', k1, k2⟩ := hc j v hv; ⟨v', k1, k2.mono le⟩⟩
      · exact absurd rfl hx
    · rcases bt i l' h with ⟨rfl, _⟩ | ⟨_, h⟩
      · exact absurd rfl hne
      · refine ((R.ob i l' e' ro' cs' h hh).mono le).heap fun ob ho => ?_
        have := R.inj o l e cs i l' e' ro' cs' hb hg h hh (fun e => hio e.symm)
        rw [Array.getElem?_setIfInBounds, if_neg (fun e => this e.symm)]; exact ho
  · obtain ⟨hio, hh⟩ := gt i e' false cs' h'
    have w := R.wr o l e cs hb hg
    rcases bt i l' h with ⟨rfl, rfl⟩ | ⟨hx, h⟩
    · exact w
    · rcases hh with ⟨rfl, _⟩ | ⟨_, hh⟩
      · exact absurd rfl hx
      · exact R.wr i l' e' cs' h hh
  · obtain ⟨hio, hi⟩ := gt i e1 false cs1 h2
    obtain ⟨hjo, hj⟩ := gt j e3 ro3 cs3 h4
    rcases bt i l1 h1 with ⟨ei, rfl⟩ | ⟨hx, k1⟩
    · rcases bt j l2 h3 with ⟨ej, rfl⟩ | ⟨hy, k3⟩
      · exact absurd (ei.trans ej.symm) hne
      · rcases hj with ⟨ej, _⟩ | ⟨_, hj⟩
        · exact absurd ej hy
        · exact R.inj o l e cs j l2 e3 ro3 cs3 hb hg k3 hj (fun e => hjo e.symm)
    · rcases hi with ⟨ei, _⟩ | ⟨_, hi⟩
      · exact absurd ei hx
      · rcases bt j l2 h3 with ⟨ej, rfl⟩ | ⟨hy, k3⟩
        · exact fun e => R.inj i l1 e1 cs1 o l _ false cs k1 hi hb hg hio e
        · rcases hj with ⟨ej, _⟩ | ⟨_, hj⟩
          · exact absurd ej hy
          · exact R.inj i l1 e1 cs1 j l2 e3 ro3 cs3 k1 hi k3 hj hne
  · have := R.wr o l e cs hb hg
    rw [Array.getElem?_setIfInBounds, if_neg (by omega)]; exact R.keep b hb'

/-- A new map at a pending number. -/
theorem Rel.newMap (R : Rel B0 hp0 β H hp) {id : Nat} {H' : Heap} (hn : H.new id (.map [] 0) = some H') (hid : id < H.size) :
    β.le (β.upd id ⟨hp.size, 0, 0⟩) ∧ Rel B0 hp0 (β.upd id ⟨hp.size, 0, 0⟩) H' (hp.push (.map #[] 0)) := by
  have hp' : H.get id = some .pend ∧ H' = H.put id (.map [] 0) := by
    unfold Heap.new at hn
    split at hn <;> simp_all
  obtain ⟨hpe, rfl⟩ := hp'
  have hb : β id = none := R.pn id hpe
  have le := Emb.le_upd (β := β) ⟨hp.size, 0, 0⟩ hb
  have psh : ∀ (b : Nat) o, hp[b]? = some o → (hp.push (.map #[] 0))[b]? = some o := fun b o ho => by
    have hlt := (Array.getElem?_eq_some_iff.1 ho).1
    rw [Array.getElem?_push_lt hlt]
    simpa [Array.getElem?_eq_getElem hlt] using ho
  have bt : ∀ i l, i ≠ id → β.upd id ⟨hp.size, 0, 0⟩ i = some l → β i = some l := fun i l hne h => by
    unfold Emb.upd at h
    rw [if_neg hne] at h; exact h
  have ct : ∀ i e ro cs, (H.put id (.map [] 0)).get i = some (.cells e ro cs) → i ≠ id ∧ H.get i = some (.cells e ro cs) := fun i e ro cs h => by
    rw [Heap.get_put] at h
    split at h
    · cases h
    · rename_i hne; exact ⟨fun e => hne e.symm, h⟩
  have mt : ∀ i es k, (H.put id (.map [] 0)).get i = some (.map es k) → (i = id ∧ es = [] ∧ k = 0) ∨ (i ≠ id ∧ H.get i = some (.map es k)) := fun i es k h => by
    rw [Heap.get_put] at h
    split at h
    · rename_i e; cases h; exact .inl ⟨e.symm, rfl, rfl⟩
    · rename_i hne; exact .inr ⟨fun e => hne e.symm, h⟩
  have us : β.upd id ⟨hp.size, 0, 0⟩ id = some ⟨hp.size, 0, 0⟩ := by simp [Emb.upd]
  have blk : ∀ i l es k, β i = some l → H.get i = some (.map es k) → l.b < hp.size := fun i l es k h h' => by
    obtain ⟨_, h1, _⟩ := R.mp i l es k h h'
    exact (Array.getElem?_eq_some_iff.1 h1).1
  refine ⟨le, ⟨fun i l h => ?_, fun i h => ?_, fun i l e ro cs h h' => ((R.ob i l e ro cs (bt i l (ct _ _ _ _ h').1 h) (ct _ _ _ _ h').2).mono le).heap (psh _),
    fun i l e cs h h' => R.wr i l e cs (bt i l (ct _ _ _ _ h').1 h) (ct _ _ _ _ h').2,
    fun i l e cs j l' e' ro' cs' h1 h2 h3 h4 hne => R.inj i l e cs j l' e' ro' cs' (bt i l (ct _ _ _ _ h2).1 h1) (ct _ _ _ _ h2).2 (bt j l' (ct _ _ _ _ h4).1 h3) (ct _ _ _ _ h4).2 hne,
    fun i l es k h h' => ?_, fun i l es k h h' => ?_, fun i l es k j l' es' k' h1 h2 h3 h4 hne => ?_, fun g hg => let ⟨n, hn⟩ := R.gl g hg; ⟨n, le _ _ hn⟩, fun b hb' => ?_, by have := R.siz; simp; omega⟩⟩
  · rw [Heap.size_put]
    by_cases e : i = id
    · subst e; exact hid
    · exact R.dom i l (bt i l e h)
  · rw [Heap.get_put] at h
    split at h
    · cases h
    · rename_i hne; unfold Emb.upd; rw [if_neg (fun e => hne e.symm)]; exact R.pn i h
  · rcases mt _ _ _ h' with ⟨rfl, rfl, rfl⟩ | ⟨hne, h''⟩
    · rw [us] at h; cases h
      exact ⟨#[], by simp, rfl, fun i e he => by simp at he⟩
    · exact ((R.mp i l es k (bt i l hne h) h'').mono le).heap (psh _)
  · rcases mt _ _ _ h' with ⟨rfl, rfl, rfl⟩ | ⟨hne, h''⟩
    · rw [us] at h; cases h; exact R.siz
    · exact R.wm i l es k (bt i l hne h) h''
  · rcases mt _ _ _ h2 with ⟨e1, _, _⟩ | ⟨hi, g2⟩
    · rw [e1, us] at h1; cases h1
      rcases mt _ _ _ h4 with ⟨e2, _, _⟩ | ⟨hj, g4⟩
      · exact absurd (e1.trans e2.symm) hne
      · have := blk _ _ _ _ (bt j l' hj h3) g4
        show l'.b ≠ hp.size
        omega
    · rcases mt _ _ _ h4 with ⟨e2, _, _⟩ | ⟨hj, g4⟩
      · rw [e2, us] at h3; cases h3
        have := blk _ _ _ _ (bt i l hi h1) g2
        show hp.size ≠ l.b
        omega
      · exact R.injm i l es k j l' es' k' (bt i l hi h1) g2 (bt j l' hj h3) g4 hne
  · have := R.siz
    rw [← R.keep b hb', Array.getElem?_push_lt (by omega)]
    exact (Array.getElem?_eq_getElem (by omega)).symm

/-- A map's entries are written anew. -/
theorem Rel.setMap (R : Rel B0 hp0 β H hp) {id : Nat} {l : Loc} {es es2 : Entries} {c c2 : Nat} (hb : β id = some l) (hg : H.get id = some (.map es c)) {es' : Array MapEntry}
    (hsz : es'.size = es2.length) (hes : ∀ (i : Nat) e, es2[i]? = some e → ∃ e', es'[i]? = some e' ∧ EntR β e e') :
    Rel B0 hp0 β (H.put id (.map es2 c2)) (hp.setIfInBounds l.b (.map es' c2)) := by
  obtain ⟨es0, g1, _, _⟩ := R.mp id l es c hb hg
  have hlt : l.b < hp.size := (Array.getElem?_eq_some_iff.1 g1).1
  have ct : ∀ i e ro cs, (H.put id (.map es2 c2)).get i = some (.cells e ro cs) → H.get i = some (.cells e ro cs) := fun i e ro cs h => by
    rw [Heap.get_put] at h
    split at h
    · cases h
    · exact h
  have mt : ∀ i es3 k, (H.put id (.map es2 c2)).get i = some (.map es3 k) → (i = id ∧ es3 = es2 ∧ k = c2) ∨ (i ≠ id ∧ H.get i = some (.map es3 k)) := fun i es3 k h => by
    rw [Heap.get_put] at h
    split at h
    · rename_i e; cases h; exact .inl ⟨e.symm, rfl, rfl⟩
    · rename_i hne; exact .inr ⟨fun e => hne e.symm, h⟩
  have old : ∀ i es3 k, (H.put id (.map es2 c2)).get i = some (.map es3 k) → ∃ es4 k4, H.get i = some (.map es4 k4) := fun i es3 k h => by
    rcases mt _ _ _ h with ⟨rfl, _, _⟩ | ⟨_, h⟩
    · exact ⟨_, _, hg⟩
    · exact ⟨_, _, h⟩
  refine ⟨fun i l' h => by rw [Heap.size_put]; exact R.dom i l' h, fun i h => ?_, fun i l' e ro cs h h' => ?_, fun i l' e cs h h' => R.wr i l' e cs h (ct _ _ _ _ h'),
    fun i l1 e cs j l2 e' ro' cs' h1 h2 h3 h4 => R.inj i l1 e cs j l2 e' ro' cs' h1 (ct _ _ _ _ h2) h3 (ct _ _ _ _ h4), fun i l' es3 k h h' => ?_,
    fun i l' es3 k h h' => let ⟨_, _, g⟩ := old _ _ _ h'; R.wm i l' _ _ h g,
    fun i l1 es3 k j l2 es4 k' h1 h2 h3 h4 hne => let ⟨_, _, g⟩ := old _ _ _ h2; let ⟨_, _, g'⟩ := old _ _ _ h4; R.injm i l1 _ _ j l2 _ _ h1 g h3 g' hne, R.gl, fun b hb' => ?_, by simpa using R.siz⟩
  · rw [Heap.get_put] at h
    split at h
    · cases h
    · exact R.pn i h
  · obtain ⟨cc, e', fz, q1, q2, q3, q4, q5⟩ := R.ob i l' e ro cs h (ct _ _ _ _ h')
    have hne : l.b ≠ l'.b := fun e => by rw [e, q1] at g1; cases g1
    exact ⟨cc, e', fz, by rw [Array.getElem?_setIfInBounds, if_neg hne]; exact q1, q2, q3, q4, q5⟩
  · rcases mt _ _ _ h' with ⟨rfl, rfl, rfl⟩ | ⟨hne, h''⟩
    · rw [hb] at h; cases h
      exact ⟨es', by rw [Array.getElem?_setIfInBounds, if_pos rfl, if_pos hlt], hsz, hes⟩
    · obtain ⟨es0, q1, q2, q3⟩ := R.mp i l' es3 k h h''
      have := R.injm id l es c i l' es3 k hb hg h h'' (fun e => hne e.symm)
      exact ⟨es0, by rw [Array.getElem?_setIfInBounds, if_neg (fun e => this e.symm)]; exact q1, q2, q3⟩
  · have := R.wm id l es c hb hg
    rw [Array.getElem?_setIfInBounds, if_neg (by omega)]; exact R.keep b hb'
end

/-- The relation, and the streams as they were. -/
structure WRel (B0 : Bs) (w0 : World) (β : Emb) (H : Heap) (w : World) : Prop extends Rel B0 w0.heap β H w.heap where
  os : w.os = w0.os
  tape : w.tape = w0.tape
  output : w.output = w0.output

end Go.Proofs.YtapkmhneneffdaaGreatDoor.Mx

/-! The text ZadD. -/
namespace Go.Proofs.YtapkmhneneffdaaGreatDoor.Mx
open Go

theorem run_sizeOfT {P : Program} {t n : Nat} (h : sizeOfT P t = some n) (w : World) : (sizeOf t).run P w = .ok n w := by
  unfold sizeOfT at h
  cases hi : P.info? t with
  | none => simp [hi] at h
  | some i => simp [hi] at h; subst h; simp [sizeOf, typeInfo, hi]

theorem run_und {P : Program} {t : Nat} {d : TypeDesc} (h : P.underlying t = some d) (w : World) : (underlying t).run P w = .ok d w := by
  simp [underlying, h]

theorem run_isAggD {P : Program} {t : Nat} {d : TypeDesc} (h : P.underlying t = some d) (w : World) : (isAgg t).run P w = .ok (aggD d) w := by
  simp only [isAgg, Sem.run_bind, run_und h, Result.andThen_ok]
  cases d <;> rfl

theorem cell_of {w : World} {b o : Nat} {c : Array Value} {e : TypeId} {fz : Nat × Nat} (h : w.heap[b]? = some (.cells c e fz)) : w.cell? ⟨b, o, none⟩ = c[o]? := by
  simp [World.cell?, h]

theorem add_none (b o k : Nat) : (⟨b, o, none⟩ : Addr).add k = ⟨b, o + k, none⟩ := by
  unfold Addr.add
  split
  · rename_i h; simp [h]
  · rfl

def Good (B0 : Bs) (w0 : World) (β : Emb) (H' : Heap) (v : Value) (r : Result Value) : Prop :=
  ∃ β' v' w', r = .ok v' w' ∧ β.le β' ∧ WRel B0 w0 β' H' w' ∧ VR β' v v'

section
variable {P : Program} {B0 : Bs} {w0 : World} {β : Emb} {H : Heap} {w : World}

theorem Good.same {β : Emb} {v v' : Value} {r : Result Value} (R : WRel B0 w0 β H w) (hr : r = .ok v' w) (hv : VR β v v') : Good B0 w0 β H v r :=
  ⟨β, v', w, hr, Emb.le_refl β, R, hv⟩

theorem vrs_range {β : Emb} {l : Loc} {c : Array Value} {cs : List Value} (h : ∀ (i : Nat) (v : Value), cs[i]? = some v → ∃ v', c[l.o + i]? = some v' ∧ VR β v v')
    (off n : Nat) (hn : off + n ≤ cs.length) (hc : l.o + cs.length ≤ c.size) : VRs β ((cs.drop off).take n) ((c.toList.drop (l.o + off)).take n) := by
  refine ⟨by simp; omega, fun i v hv => ?_⟩
  rw [List.getElem?_take] at hv ⊢
  split at hv
  · rename_i hi
    rw [if_pos hi]
    rw [List.getElem?_drop] at hv ⊢
    obtain ⟨v', h1, h2⟩ := h _ v hv
    exact ⟨v', by rw [Array.getElem?_toList, Nat.add_assoc]; exact h1, h2⟩
  · simp at hv

theorem load_sim' (R : WRel B0 w0 β H w) {t n : Nat} {d : TypeDesc} (hu : P.underlying t = some d) (hs : sizeOfT P t = some n) {a a' v : Value}
    (hv : H.loadv (aggD d) n a = some v) (ha : VR β a a') : ∃ v', (Instr.loadAt t a').run P w = .ok v' w ∧ VR β v v' := by
  unfold Heap.loadv at hv
  split at hv
  case h_2 => cases hv
  rename_i id off
  cases ha with
  | ptr _ _ l hl =>
  split at hv
  case h_2 => cases hv
  rename_i e ro cs hg
  obtain ⟨c, e', fz, h1, h2, h3, h4, h5⟩ := R.ob id l e ro cs hl hg
  cases hd : aggD d with
  | true =>
    rw [hd] at hv
    simp only [if_true] at hv
    split at hv
    case isFalse => cases hv
    rename_i hle
    cases hv
    have hlen : ((c.toList.drop (l.o + off)).take n).length = n := by simp; omega
    have hld := run_loadCells_list (P := P) w ⟨l.b, l.o + off, none⟩ ((c.toList.drop (l.o + off)).take n) (fun j v hj => by
      rw [add_none, cell_of h1]
      rw [List.getElem?_take] at hj
      split at hj
      · rw [List.getElem?_drop, Array.getElem?_toList] at hj; exact hj
      · cases hj)
    rw [hlen] at hld
    refine ⟨.agg ((c.toList.drop (l.o + off)).take n).toArray, ?_, .agg' (by simpa using vrs_range h5 off n hle (by omega))⟩
    simp [Instr.loadAt, Instr.sureAddr, loadVar, run_isAggD hu, hd, run_sizeOfT hs, hld]
  | false =>
    rw [hd] at hv
    simp only [Bool.false_eq_true, if_false] at hv
    obtain ⟨v', g1, g2⟩ := h5 off v hv
    refine ⟨v', ?_, g2⟩
    simp [Instr.loadAt, Instr.sureAddr, loadVar, run_isAggD hu, hd, cell_of h1, g1]

theorem load_sim (R : WRel B0 w0 β H w) {t n : Nat} {d : TypeDesc} (hu : P.underlying t = some d) (hs : sizeOfT P t = some n) {a a' v : Value}
    (hv : H.loadv (aggD d) n a = some v) (ha : VR β a a') : Good B0 w0 β H v ((Instr.loadAt t a').run P w) := by
  obtain ⟨v', h1, h2⟩ := load_sim' (P := P) R hu hs hv ha
  exact Good.same R h1 h2

theorem getElem?_setRange (cs : List Value) (off : Nat) (vs : List Value) (h : off + vs.length ≤ cs.length) (i : Nat) :
    (setRange cs off vs)[i]? = if off ≤ i ∧ i < off + vs.length then vs[i - off]? else cs[i]? := by
  unfold setRange
  by_cases h1 : i < off
  · have : ¬ (off ≤ i ∧ i < off + vs.length) := by omega
    rw [if_neg this, List.append_assoc, List.getElem?_append_left (by simp; omega), List.getElem?_take, if_pos h1]
  · by_cases h2 : i < off + vs.length
    · rw [if_pos ⟨by omega, h2⟩, List.append_assoc, List.getElem?_append_right (by simp; omega), List.getElem?_append_left (by simp; omega)]
      congr 1
      simp; omega
    · have : ¬ (off ≤ i ∧ i < off + vs.length) := by omega
      rw [if_neg this, List.getElem?_append_right (by simp; omega), List.getElem?_drop]
      congr 1
      simp; omega

theorem length_setRange (cs : List Value) (off : Nat) (vs : List Value) (h : off + vs.length ≤ cs.length) : (setRange cs off vs).length = cs.length := by
  unfold setRange; simp; omega

/-- The cells of a block with a range written. -/
def blockPut (c : Array Value) (o : Nat) (vs : List Value) : Array Value := (c.toList.take o ++ vs ++ c.toList.drop (o + vs.length)).toArray

theorem blockPut_eq (c : Array Value) (o : Nat) (vs : List Value) : blockPut c o vs = (setRange c.toList o vs).toArray := rfl

theorem setRow_heap' (w : World) (g : Nat) (c : Array Value) (e : TypeId) (h : ∃ c0, w.heap[g]? = some (.cells c0 e (0, 0))) : (w.setRow g c).heap = w.heap.setIfInBounds g (.cells c e (0, 0)) := by
  obtain ⟨c0, h⟩ := h
  have hlt : g < w.heap.size := (Array.getElem?_eq_some_iff.1 h).1
  have hget : w.heap[g] = .cells c0 e (0, 0) := (Array.getElem?_eq_some_iff.1 h).2
  apply Array.ext_getElem?
  intro i
  simp only [World.setRow, Array.getElem?_modify, Array.getElem?_setIfInBounds]
  by_cases hi : g = i
  · subst hi; simp [hlt, hget]
  · simp [hi]

theorem write_sim (R : WRel B0 w0 β H w) {id : Nat} {l : Loc} {e : TypeId} {cs : List Value} (hb : β id = some l) (hg : H.get id = some (.cells e false cs))
    {off : Nat} {vs vs' : List Value} (hvs : VRs β vs vs') (hone : vs.all okCell = true) (hle : off + vs.length ≤ cs.length) :
    ∃ w', (storeCells ⟨l.b, l.o + off, none⟩ vs' 0).run P w = .ok () w' ∧ WRel B0 w0 β (H.put id (.cells e false (setRange cs off vs))) w' := by
  obtain ⟨c, e', fz, h1, h2, h3, h4, h5⟩ := R.ob id l e false cs hb hg
  have hfz := h2 rfl
  subst hfz
  have hl := hvs.1
  refine ⟨_, run_storeCells_at P l.b (l.o + off) e' vs' 0 c w h1 (by omega) (hvs.allOne hone), ⟨?_, R.os, R.tape, R.output⟩⟩
  rw [setRow_heap' w l.b _ e' ⟨c, h1⟩]
  simp only [Nat.add_zero]
  change Rel B0 w0.heap β _ (w.heap.setIfInBounds l.b (.cells (setRange c.toList (l.o + off) vs').toArray e' (0, 0)))
  have hr : l.o + off + vs'.length ≤ c.toList.length := by simp; omega
  refine R.toRel.write hb hg _ e' (fun c0 e0 fz0 hh => ?_) (by rw [length_setRange _ _ _ hle]; exact h3) (fun i v hv => ?_)
  · rw [h1] at hh; cases hh
    simp [length_setRange _ _ _ hr]
  · rw [getElem?_setRange _ _ _ hle] at hv
    rw [List.getElem?_toArray, getElem?_setRange _ _ _ hr]
    split at hv
    · rename_i hi
      obtain ⟨v', g1, g2⟩ := hvs.2 _ v hv
      refine ⟨v', ?_, g2⟩
      rw [if_pos (by omega), show l.o + i - (l.o + off) = i - off by omega]; exact g1
    · rename_i hi
      obtain ⟨v', g1, g2⟩ := h5 i v hv
      refine ⟨v', ?_, g2⟩
      rw [if_neg (by omega), Array.getElem?_toList]; exact g1

theorem store_sim (R : WRel B0 w0 β H w) {t n : Nat} (hs : sizeOfT P t = some n) {a a' x x' : Value} {H' : Heap}
    (hv : H.storev n a x = some H') (ha : VR β a a') (hx : VR β x x') : ∃ w', (Instr.storeAt t a' x').run P w = .ok () w' ∧ WRel B0 w0 β H' w' := by
  unfold Heap.storev at hv
  split at hv
  case h_2 => cases hv
  rename_i id off
  cases ha with
  | ptr _ _ l hl =>
  split at hv
  case h_2 => cases hv
  rename_i e cs hg
  split at hv
  case isFalse => cases hv
  rename_i hc
  obtain ⟨hsz, hone, hle⟩ := hc
  cases hv
  have hxc := hx.cells hone
  have hszl : x.cells.toList.length = n := by simpa using hsz
  obtain ⟨w', h1, h2⟩ := write_sim (P := P) R hl hg hxc hone (off := off) (by omega)
  refine ⟨w', ?_, h2⟩
  have hs' : x'.cells.size = n := by have := hxc.1; simp at this; omega
  simp [Instr.storeAt, Instr.sureAddr, storeVar, run_sizeOfT hs, hs', h1]

theorem zeroOf_spec {t : Nat} {z : List Value} (h : zeroOf P t = some z) : ∃ i zv, P.info? t = some i ∧ i.zero = some zv ∧ zv.cells.toList = z ∧ z.length = i.size ∧ z.all leafClosed = true := by
  unfold zeroOf at h
  split at h
  case h_2 => cases h
  rename_i i hi
  split at h
  case h_2 => cases h
  rename_i zv hz
  split at h
  case isFalse => cases h
  rename_i hc
  cases h
  exact ⟨i, zv, hi, hz, rfl, by simpa using hc.1, by simpa using hc.2⟩

theorem run_zero {t : Nat} {i : TypeInfo} {zv : Value} (hi : P.info? t = some i) (hz : i.zero = some zv) (w : World) : (zeroValue t).run P w = .ok zv w := by
  simp [zeroValue, typeInfo, hi, hz]

/-- A new row: its pointer. -/
theorem new_sim (R : WRel B0 w0 β H w) {id : Nat} {H' : Heap} {e t : TypeId} {cs cs' : List Value} (hn : H.new id (.cells e false cs) = some H') (hid : id < H.size)
    {c : Array Value} (hc : c.toList = cs') (hcs : VRs β cs (cs'.take cs.length)) (hlen : cs.length ≤ cs'.length) :
    β.le (β.upd id ⟨w.heap.size, 0, c.size⟩) ∧ Rel B0 w0.heap (β.upd id ⟨w.heap.size, 0, c.size⟩) H' (w.heap.push (.cells c t (0, 0))) := by
  refine R.toRel.new hn hid c t (fun i v hv => ?_) (by have : c.size = cs'.length := (by rw [← hc]; simp); omega)
  obtain ⟨v', h1, h2⟩ := hcs.2 i v hv
  refine ⟨v', ?_, h2⟩
  rw [List.getElem?_take] at h1
  split at h1
  · rw [← Array.getElem?_toList, hc]; exact h1
  · cases h1

theorem upd_self (β : Emb) (id : Nat) (l : Loc) : β.upd id l id = some l := by simp [Emb.upd]

theorem alloc_sim (R : WRel B0 w0 β H w) {id : Nat} {H' : Heap} {e : TypeId} {z : List Value} (hz : zeroOf P e = some z) (hn : H.new id (.cells e false z) = some H') (hid : id < H.size) :
    Good B0 w0 β H' (.pointer (some ⟨id, 0, none⟩)) ((Instr.alloc e true (.tuple #[])).run P w) := by
  obtain ⟨i, zv, hi, hz1, hz2, hz3, hz4⟩ := zeroOf_spec hz
  obtain ⟨le, R'⟩ := new_sim R (t := e) hn hid (c := zv.cells) hz2 (by rw [List.take_length]; exact .ofLeaf β hz4) (Nat.le_refl _)
  refine ⟨_, .pointer (some ⟨w.heap.size, 0, none⟩), { w with heap := w.heap.push (.cells zv.cells e) }, ?_, le, ⟨R', R.os, R.tape, R.output⟩, ?_⟩
  · simp [Instr.alloc, run_zero hi hz1, newVar, newRow]
  · exact .ptr id 0 ⟨w.heap.size, 0, zv.cells.size⟩ (upd_self _ _ _)

theorem box_sim (R : WRel B0 w0 β H w) {id : Nat} {H' : Heap} {e : TypeId} {x x' : Value} (hx : VR β x x') (hok : okAll x = true) (hn : H.new id (.cells e false x.cells.toList) = some H') (hid : id < H.size) :
    Good B0 w0 β H' (.pointer (some ⟨id, 0, none⟩)) ((Instr.box e x').run P w) := by
  have hc := hx.cells hok
  obtain ⟨le, R'⟩ := new_sim R (t := e) hn hid (c := x'.cells) rfl (by rw [hc.1, List.take_length]; exact hc) (by rw [hc.1]; exact Nat.le_refl _)
  refine ⟨_, .pointer (some ⟨w.heap.size, 0, none⟩), { w with heap := w.heap.push (.cells x'.cells e) }, ?_, le, ⟨R', R.os, R.tape, R.output⟩, ?_⟩
  · simp [Instr.box, newVar, newRow]
  · exact .ptr id 0 ⟨w.heap.size, 0, x'.cells.size⟩ (upd_self _ _ _)

end
end Go.Proofs.YtapkmhneneffdaaGreatDoor.Mx

/-! The text ZadE. -/
namespace Go.Proofs.YtapkmhneneffdaaGreatDoor.Mx
open Go

section
variable {P : Program} {B0 : Bs} {w0 : World} {β : Emb} {H : Heap} {w : World}

theorem VRs.set {β : Emb} {a a' : List Value} (h : VRs β a a') {v v' : Value} (hv : VR β v v') (i : Nat) : VRs β (a.set i v) (a'.set i v') := by
  refine ⟨by simp [h.1], fun j u hu => ?_⟩
  rw [List.getElem?_set] at hu ⊢
  split at hu
  · rename_i e
    subst e
    split at hu
    · rename_i hlt
      cases hu
      exact ⟨v', by rw [if_pos rfl, if_pos (h.1 ▸ hlt)], hv⟩
    · cases hu
  · rename_i e
    rw [if_neg e]
    exact h.2 j u hu

theorem foldPut_sim {β : Emb} (off : Nat) : ∀ (vs vs' : List Value) (k : Nat) (c c' : Array Value), VRs β vs vs' → VRs β c.toList c'.toList →
    VRs β ((vs.zipIdx k).foldl (fun cs (p : Value × Nat) => cs.setIfInBounds (off + p.2) p.1) c).toList ((vs'.zipIdx k).foldl (fun cs (p : Value × Nat) => cs.setIfInBounds (off + p.2) p.1) c').toList ∧
    ((vs.zipIdx k).foldl (fun cs (p : Value × Nat) => cs.setIfInBounds (off + p.2) p.1) c).size = c.size := by
  intro vs
  induction vs with
  | nil =>
    intro vs' k c c' h hc
    have : vs' = [] := by have := h.1; cases vs' <;> simp_all
    subst this
    exact ⟨hc, rfl⟩
  | cons v vs ih =>
    intro vs' k c c' h hc
    cases vs' with
    | nil => have := h.1; simp at this
    | cons v' vs' =>
      have h0 : VR β v v' := by obtain ⟨u, h1, h2⟩ := h.2 0 v rfl; simp at h1; subst h1; exact h2
      have ht : VRs β vs vs' := ⟨by have := h.1; simpa using this, fun i u hu => by obtain ⟨u', h1, h2⟩ := h.2 (i + 1) u (by simpa using hu); exact ⟨u', by simpa using h1, h2⟩⟩
      simp only [List.zipIdx_cons, List.foldl_cons]
      have hset : VRs β (c.setIfInBounds (off + k) v).toList (c'.setIfInBounds (off + k) v').toList := by simp only [Array.toList_setIfInBounds]; exact hc.set h0 _
      obtain ⟨g1, g2⟩ := ih vs' (k + 1) _ _ ht hset
      exact ⟨g1, by rw [g2]; simp⟩

theorem fill_sim {P : Program} {β : Emb} {T : Tr Value} {ρ : Operand → Value} (hρ : ∀ x y, cOpd P x = some y → VR β (y.ev T) (ρ x)) (place : Nat → Option (Nat × Nat)) :
    ∀ (parts : List (Nat × Operand)) (ps : List (Nat × Nat × Opd)) (c c' r : Array Value), cParts P place parts = some ps → VRs β c.toList c'.toList → fillP c (evParts T ps) = some r →
    ∃ r', Instr.fill place c' (parts.map fun p => (p.1, ρ p.2)) = some r' ∧ VRs β r.toList r'.toList ∧ r.size = c.size := by
  intro parts
  induction parts with
  | nil => intro ps c c' r h hc hf; simp [cParts] at h; subst h; simp [evParts, fillP] at hf; subst hf; exact ⟨c', rfl, hc, rfl⟩
  | cons p parts ih =>
    intro ps c c' r h hc hf
    obtain ⟨i, x⟩ := p
    simp only [cParts] at h
    split at h
    case h_2 => cases h
    rename_i o s y r0 h1 h2 h3
    cases h
    simp only [evParts, List.map_cons, fillP] at hf
    split at hf
    · cases hf
    rename_i hcond
    have hx := hρ x y h2
    simp only [ne_eq, Bool.or_eq_true, decide_eq_true_eq, not_or, Decidable.not_not, gt_iff_lt, Nat.not_lt, Bool.not_eq_true', Bool.not_eq_false] at hcond
    have hxc := hx.cells hcond.2
    have hsz : (ρ x).cells.size = (y.ev T).cells.size := by have := hxc.1; simp at this; omega
    have hcs : c'.size = c.size := by have := hc.1; simp at this; omega
    have hfold : ∀ (v : Value) (c : Array Value), v.cells.zipIdx.foldl (fun cs (p : Value × Nat) => cs.setIfInBounds (o + p.2) p.1) c = (v.cells.toList.zipIdx 0).foldl (fun cs (p : Value × Nat) => cs.setIfInBounds (o + p.2) p.1) c := by
      intro v c
      rw [← Array.foldl_toList, Array.toList_zipIdx]
    have g := foldPut_sim o (y.ev T).cells.toList (ρ x).cells.toList 0 c c' hxc hc
    have hf' : fillP (((y.ev T).cells.toList.zipIdx 0).foldl (fun cs (p : Value × Nat) => cs.setIfInBounds (o + p.2) p.1) c) (evParts T r0) = some r := by rw [← hfold]; exact hf
    obtain ⟨r', k1, k2, k3⟩ := ih r0 _ _ r h3 g.1 hf'
    refine ⟨r', ?_, k2, by rw [k3, g.2]⟩
    simp only [List.map_cons, Instr.fill, h1]
    rw [if_neg (by simp only [ne_eq, Bool.or_eq_true, decide_eq_true_eq, not_or, Decidable.not_not, gt_iff_lt, Nat.not_lt]; omega)]
    rw [← k1]
    congr 1
    exact hfold (ρ x) c'

theorem VRs.ofZero (β : Emb) {z : List Value} (h : z.all leafClosed = true) : VRs β z.toArray.toList z.toArray.toList := by simpa using VRs.ofLeaf β h

theorem places_spec {P : Program} {w : World} : ∀ (fs : List Field) (pl : List (Nat × Nat)), places P fs = some pl →
    (fs.mapM (fun f => (do pure (f.offset, ← sizeOf f.type) : Sem (Nat × Nat)))).run P w = .ok pl w := by
  intro fs
  induction fs with
  | nil => intro pl h; simp [places] at h; subst h; rfl
  | cons f fs ih =>
    intro pl h
    simp only [places] at h
    split at h
    case h_2 => cases h
    rename_i s r h1 h2
    cases h
    simp only [List.mapM_cons, Sem.run_bind, run_sizeOfT h1, Result.andThen_ok, Sem.run_pure, ih r h2]

theorem build_struct_sim (R : WRel B0 w0 β H w) {T : Tr Value} {ρ : Operand → Value} (hρ : ∀ x y, cOpd P x = some y → VR β (y.ev T) (ρ x))
    {t : Nat} {z : List Value} {fields : Array Field} {pl : List (Nat × Nat)} {parts : Array (Nat × Operand)} {ps : List (Nat × Nat × Opd)} {cs : Array Value}
    (hz : zeroOf P t = some z) (hu : P.underlying t = some (.struct fields)) (hp : places P fields.toList = some pl) (hc : cParts P (fun i => pl[i]?) parts.toList = some ps)
    (hf : fillP z.toArray (evParts T ps) = some cs) : Good B0 w0 β H (.agg cs) ((Instr.build t (parts.map fun (i, x) => (i, ρ x))).run P w) := by
  obtain ⟨i, zv, hi, hz1, hz2, hz3, hz4⟩ := zeroOf_spec hz
  obtain ⟨r', k1, k2, _⟩ := fill_sim hρ _ _ _ z.toArray z.toArray cs hc (.ofZero β hz4) hf
  refine Good.same R (v' := .agg r') ?_ (.agg' k2)
  have hzc : zv.cells = z.toArray := by rw [← hz2]
  have hpl : (fields.mapM (fun f => (do pure (f.offset, ← sizeOf f.type) : Sem (Nat × Nat)))).run P w = .ok pl.toArray w := by
    rw [Array.mapM_eq_mapM_toList]
    simp only [Sem.run_map, places_spec _ _ hp, Result.andThen_ok]
  have hl : (parts.map fun (x : Nat × Operand) => (x.1, ρ x.2)).toList = parts.toList.map fun p => (p.1, ρ p.2) := by simp
  simp only [Instr.build, Sem.run_bind, run_zero hi hz1, Result.andThen_ok, run_und hu, hpl, hzc]
  have k1' : Instr.fill (fun x => pl.toArray[x]?) z.toArray ((parts.map fun (x : Nat × Operand) => (x.1, ρ x.2)).toList) = some r' := by
    rw [hl, ← k1]; congr 1; funext x; simp
  rw [k1']
  rfl

theorem build_arr_sim (R : WRel B0 w0 β H w) {T : Tr Value} {ρ : Operand → Value} (hρ : ∀ x y, cOpd P x = some y → VR β (y.ev T) (ρ x))
    {t e n s : Nat} {z : List Value} {parts : Array (Nat × Operand)} {ps : List (Nat × Nat × Opd)} {cs : Array Value}
    (hz : zeroOf P t = some z) (hu : P.underlying t = some (.array n e)) (hs : sizeOfT P e = some s) (hc : cParts P (fun i => some (i * s, s)) parts.toList = some ps)
    (hf : fillP z.toArray (evParts T ps) = some cs) : Good B0 w0 β H (.agg cs) ((Instr.build t (parts.map fun (i, x) => (i, ρ x))).run P w) := by
  obtain ⟨i, zv, hi, hz1, hz2, hz3, hz4⟩ := zeroOf_spec hz
  obtain ⟨r', k1, k2, _⟩ := fill_sim hρ _ _ _ z.toArray z.toArray cs hc (.ofZero β hz4) hf
  refine Good.same R (v' := .agg r') ?_ (.agg' k2)
  have hzc : zv.cells = z.toArray := by rw [← hz2]
  have hl : (parts.map fun (x : Nat × Operand) => (x.1, ρ x.2)).toList = parts.toList.map fun p => (p.1, ρ p.2) := by simp
  simp only [Instr.build, Sem.run_bind, run_zero hi hz1, Result.andThen_ok, run_und hu, hzc, run_sizeOfT hs]
  rw [hl, k1]
  rfl

theorem flat_get (z : List Value) (d : Value) : ∀ (n i : Nat), i < n * z.length → ((List.replicate n z).flatten)[i]? = some (z.toArray.getD (i % z.length) d) := by
  intro n
  induction n with
  | zero => intro i h; omega
  | succ n ih =>
    intro i h
    rw [List.replicate_succ, List.flatten_cons]
    have hz : 0 < z.length := by
      rcases Nat.eq_zero_or_pos z.length with h0 | h0
      · rw [h0] at h; omega
      · exact h0
    by_cases hi : i < z.length
    · rw [List.getElem?_append_left hi, Nat.mod_eq_of_lt hi, List.getElem?_eq_getElem hi]
      simp [hi]
    · rw [List.getElem?_append_right (by omega), ih (i - z.length) (by rw [Nat.succ_mul] at h; omega)]
      have : i % z.length = (i - z.length) % z.length := by rw [Nat.mod_eq_sub_mod (by omega)]
      rw [this]

theorem range_map_eq (z : List Value) (hz : 0 < z.length) (n : Nat) : ((Array.range (n * z.length)).map (fun x => z.toArray[x % z.toArray.size]!)) = ((List.replicate n z).flatten).toArray := by
  apply Array.ext_getElem?
  intro i
  have hr : ((List.replicate n z).flatten).toArray[i]? = (List.replicate n z).flatten[i]? := by simp
  rw [Array.getElem?_map, hr]
  by_cases hi : i < n * z.length
  · have h1 : (Array.range (n * z.length))[i]? = some i := by simp [hi]
    rw [flat_get z default n i hi, h1]
    have hm : i % z.length < z.length := Nat.mod_lt _ hz
    simp [hm]
  · have h1 : (Array.range (n * z.length))[i]? = none := by simp; omega
    rw [h1, List.getElem?_eq_none (by simp; omega)]
    rfl

theorem bslice_sim (R : WRel B0 w0 β H w) {T : Tr Value} {ρ : Operand → Value} (hρ : ∀ x y, cOpd P x = some y → VR β (y.ev T) (ρ x))
    {t e len s id : Nat} {z : List Value} {parts : Array (Nat × Operand)} {ps : List (Nat × Nat × Opd)} {cs : Array Value} {H' : Heap}
    (hu : P.underlying t = some (.slice e)) (hs : sizeOfT P e = some s) (hz : zeroOf P e = some z) (hle : len * s ≤ 2 ^ 24) (hpos : 0 < s) (hc : cParts P (fun i => some (i * s, s)) parts.toList = some ps)
    (hf : fillP (List.replicate len z).flatten.toArray (evParts T ps) = some cs) (hn : H.new id (.cells e false cs.toList) = some H') (hid : id < H.size) :
    Good B0 w0 β H' (.slice (some ⟨id, 0, some (2 * s + 1)⟩) len len) ((Instr.buildSlice t len (parts.map fun (i, x) => (i, ρ x))).run P w) := by
  obtain ⟨i, zv, hi, hz1, hz2, hz3, hz4⟩ := zeroOf_spec hz
  have his : i.size = s := by unfold sizeOfT at hs; rw [hi] at hs; simpa using hs
  have hzc : zv.cells = z.toArray := by rw [← hz2]
  have hzl : z.length = s := by omega
  have hall : ((List.replicate len z).flatten).all leafClosed = true := by
    simp only [List.all_eq_true, List.mem_flatten, List.mem_replicate]
    rintro v ⟨l, ⟨_, rfl⟩, hv⟩
    exact List.all_eq_true.1 hz4 v hv
  obtain ⟨r', k1, k2, k3⟩ := fill_sim hρ _ _ _ (List.replicate len z).flatten.toArray (List.replicate len z).flatten.toArray cs hc (.ofZero β hall) hf
  have hl : (parts.map fun (x : Nat × Operand) => (x.1, ρ x.2)).toList = parts.toList.map fun p => (p.1, ρ p.2) := by simp
  obtain ⟨le, R'⟩ := new_sim R (t := e) hn hid (c := r') rfl (by rw [k2.1, List.take_length]; exact k2) (by rw [k2.1]; exact Nat.le_refl _)
  have hsz : r'.size = len * s := by
    have := k2.1
    simp only [Array.length_toList] at this
    rw [← this, k3]
    simp [hzl]
  refine ⟨_, .slice (some ⟨w.heap.size, 0, none⟩) len len, { w with heap := w.heap.push (.cells r' e) }, ?_, le, ⟨R', R.os, R.tape, R.output⟩, ?_⟩
  · simp only [Instr.buildSlice, Sem.run_bind, run_und hu, Result.andThen_ok, run_sizeOfT hs]
    rw [if_neg (by omega)]
    have hrow : ((Array.range (len * s)).map (fun x => (if len * s = 0 then #[] else z.toArray)[x % (if len * s = 0 then #[] else z.toArray).size]!)) = ((List.replicate len z).flatten).toArray := by
      by_cases h0 : len * s = 0
      · have : len = 0 := by rcases Nat.mul_eq_zero.1 h0 with h | h <;> omega
        subst this
        simp
      · rw [← range_map_eq z (by omega) len, hzl]
        simp only [h0, if_false]
    by_cases h0 : len * s = 0
    · simp only [h0, if_true, Nat.mul_zero, Sem.run_bind, Sem.run_pure, Result.andThen_ok, hl] at hrow ⊢
      rw [hrow, k1]
      simp [newRow]
    · simp only [h0, if_false, Sem.run_bind, Sem.run_pure, Result.andThen_ok, hl, run_zero hi hz1, hzc] at hrow ⊢
      rw [hrow, k1]
      simp [newRow]
  · have := VR.slice (β := β.upd id ⟨w.heap.size, 0, r'.size⟩) id 0 (2 * s + 1) len len len ⟨w.heap.size, 0, r'.size⟩ (upd_self _ _ _) (Nat.le_refl _) (Nat.le_refl _) (fun _ => rfl) (fun _ => by rw [show (2 * s + 1) / 2 = s by omega]; show 0 + len * s ≤ r'.size; omega)
    exact this

theorem conv_sim (R : WRel B0 w0 β H w) {s t : Nat} {d : TypeDesc} {k k0 : IntKind} {n : Int} (hs : P.underlying s = some d) (ht : P.underlying t = some (.int k)) :
    Good B0 w0 β H (.int k (k.wrap n)) ((convert s t (.int k0 n)).run P w) := by
  refine Good.same R (v' := .int k (k.wrap n)) ?_ (.int _ _)
  simp [convert, run_und hs, run_und ht, Conv.intToInt]

theorem unary_sim (R : WRel B0 w0 β H w) {op : UnOp} {x x' v : Value} (h : unV op x = some v) (hx : VR β x x') : Good B0 w0 β H v ((Op.unary op x').run P w) := by
  unfold unV at h
  split at h
  · cases hx; cases h; exact Good.same R (by simp [Op.unary, Op.intArith]) (.int _ _)
  · cases hx; cases h; exact Good.same R (by simp [Op.unary, Op.intBits]) (.int _ _)
  · cases hx; cases h; exact Good.same R (by simp [Op.unary]) (.bool _)
  · cases h

end
end Go.Proofs.YtapkmhneneffdaaGreatDoor.Mx
