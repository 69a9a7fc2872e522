/- The fast machine: values, memory and an evaluator that is made for the kernel (continuations, boxes of closures, no instances). -/
import Derived.Test.YtiphbdhclldllaaGreatDoorZadA
set_option linter.unusedSimpArgs false
set_option linter.unusedVariables false
namespace Go.Proofs.YtiphbdhclldllaaGreatDoor.M4
open Go Go.Proofs.YtiphbdhclldllaaGreatDoor.Mx

/-- Values. r: 0 tuple, 1 nil pointer, 2 nil slice, 3 nil map, 4 map, 5 string, 6 function, 7 nil function, 8 nil interface, 9 interface, 10 of which nothing is known, 12 token, 13 string that ends in a token's digits, 14 a panic. -/
inductive X where
  | p (k n : Nat)
  | m (k n : Nat)
  | b (t : Bool)
  | pt (id off : Nat)
  | sl (id off mk len cap : Nat)
  | ag (l : X)
  | e
  | c (x l : X)
  | r (g : Nat) (x : X)
  deriving Inhabited

inductive E where
  | nil
  | nd (x : X) (a b c d : E)
inductive D where
  | d0 | d1 | d2 | d3
  deriving DecidableEq
inductive Bx (α : Type) where
  | mk (f : α)

def kOf (k : Nat) : IntKind := Nat.rec .i64 (fun k _ => Nat.rec .i8 (fun k _ => Nat.rec .i16 (fun k _ => Nat.rec .i32 (fun k _ => Nat.rec .u8 (fun k _ => Nat.rec .u16 (fun k _ => Nat.rec .u32 (fun _ _ => .u64) k) k) k) k) k) k) k
def kN : IntKind → Nat
  | .i64 => 0 | .i8 => 1 | .i16 => 2 | .i32 => 3 | .u8 => 4 | .u16 => 5 | .u32 => 6 | .u64 => 7

noncomputable def and4 (a b : Bool) : Bool := Bool.rec false b a
/-- Both kinds known and equal. -/
noncomputable def kEq (k k' : Nat) : Bool := Nat.beq k k'

noncomputable def force (x : X) (k : X → Bool) : Bool :=
  X.rec (motive := fun _ => Bool) (fun a n => k (.p a n)) (fun a n => k (.m a n)) (fun t => k (.b t)) (fun i o => k (.pt i o)) (fun i o m l c => k (.sl i o m l c)) (fun l _ => k (.ag l)) (k .e) (fun x l _ _ => k (.c x l)) (fun g x _ => k (.r g x)) x

/-- Numbers are made plain before they go on. -/
noncomputable def nat (n : Nat) (k : Nat → Bool) : Bool := Nat.rec (motive := fun _ => Bool) (k 0) (fun m _ => k (Nat.succ m)) n

/-! ### temporaries -/
noncomputable def getp (p : List D) : Bx (E → X) :=
  List.rec (motive := fun _ => Bx (E → X)) ⟨fun e => E.rec (motive := fun _ => X) .e (fun x _ _ _ _ _ _ _ _ => x) e⟩
    (fun q _ ih => D.rec (motive := fun _ => Bx (E → X))
      ⟨fun e => E.rec (motive := fun _ => X) .e (fun _ a _ _ _ _ _ _ _ => Bx.rec (motive := fun _ => _) (fun f => f) (ih) a) e⟩
      ⟨fun e => E.rec (motive := fun _ => X) .e (fun _ _ b _ _ _ _ _ _ => Bx.rec (motive := fun _ => _) (fun f => f) (ih) b) e⟩
      ⟨fun e => E.rec (motive := fun _ => X) .e (fun _ _ _ c _ _ _ _ _ => Bx.rec (motive := fun _ => _) (fun f => f) (ih) c) e⟩
      ⟨fun e => E.rec (motive := fun _ => X) .e (fun _ _ _ _ d _ _ _ _ => Bx.rec (motive := fun _ => _) (fun f => f) (ih) d) e⟩ q) p
noncomputable def setp (p : List D) : Bx (E → X → (E → Bool) → Bool) :=
  List.rec (motive := fun _ => Bx (E → X → (E → Bool) → Bool)) ⟨fun e x k => E.rec (motive := fun _ => Bool) (k (.nd x .nil .nil .nil .nil)) (fun _ a b c d _ _ _ _ => k (.nd x a b c d)) e⟩
    (fun q _ ih => D.rec (motive := fun _ => Bx (E → X → (E → Bool) → Bool))
      ⟨fun e x k => E.rec (motive := fun _ => Bool) (Bx.rec (motive := fun _ => _) (fun f => f) (ih) .nil x fun e' => k (.nd .e e' .nil .nil .nil)) (fun y a b c d _ _ _ _ => Bx.rec (motive := fun _ => _) (fun f => f) (ih) a x fun e' => k (.nd y e' b c d)) e⟩
      ⟨fun e x k => E.rec (motive := fun _ => Bool) (Bx.rec (motive := fun _ => _) (fun f => f) (ih) .nil x fun e' => k (.nd .e .nil e' .nil .nil)) (fun y a b c d _ _ _ _ => Bx.rec (motive := fun _ => _) (fun f => f) (ih) b x fun e' => k (.nd y a e' c d)) e⟩
      ⟨fun e x k => E.rec (motive := fun _ => Bool) (Bx.rec (motive := fun _ => _) (fun f => f) (ih) .nil x fun e' => k (.nd .e .nil .nil e' .nil)) (fun y a b c d _ _ _ _ => Bx.rec (motive := fun _ => _) (fun f => f) (ih) c x fun e' => k (.nd y a b e' d)) e⟩
      ⟨fun e x k => E.rec (motive := fun _ => Bool) (Bx.rec (motive := fun _ => _) (fun f => f) (ih) .nil x fun e' => k (.nd .e .nil .nil .nil e')) (fun y a b c d _ _ _ _ => Bx.rec (motive := fun _ => _) (fun f => f) (ih) d x fun e' => k (.nd y a b c e')) e⟩ q) p

def digit (n : Nat) : D := Nat.rec .d0 (fun n _ => Nat.rec .d1 (fun n _ => Nat.rec .d2 (fun _ _ => .d3) n) n) n
def pathF : Nat → Nat → List D
  | 0, _ => []
  | _ + 1, 0 => []
  | f + 1, n + 1 => digit (n % 4) :: pathF f (n / 4)
def path (n : Nat) : List D := pathF (n + 1) n

noncomputable def getT (n : Nat) : Bx (E → X) := getp (path n)
noncomputable def setT (n : Nat) : Bx (E → X → (E → Bool) → Bool) := setp (path n)

/-! ### memory -/
inductive O where
  | no | nope | dead
  | cells (el : Nat) (ro : Bool) (cs : X)
  | map (es : X) (clock : Nat)
inductive F where
  | nil
  | nd (o : O) (a b c d : F)
inductive H where
  | mk (n : Nat) (f : F)

noncomputable def F.get (f : F) : Nat → O :=
  F.rec (motive := fun _ => Nat → O) (fun _ => .no)
    (fun o _ _ _ _ ia ib ic id n => Nat.rec (motive := fun _ => O) o (fun n _ => Nat.rec (motive := fun _ => O) (ia (Nat.div n 4)) (fun d _ => Nat.rec (motive := fun _ => O) (ib (Nat.div n 4)) (fun d _ => Nat.rec (motive := fun _ => O) (ic (Nat.div n 4)) (fun _ _ => id (Nat.div n 4)) d) d) (Nat.mod n 4)) n) f

noncomputable def F.set (fuel : Nat) : F → Nat → O → (F → Bool) → Bool :=
  Nat.rec (motive := fun _ => F → Nat → O → (F → Bool) → Bool) (fun _ _ _ _ => false)
    (fun _ ih f n o k => Nat.rec (motive := fun _ => Bool)
      (F.rec (motive := fun _ => Bool) (k (.nd o .nil .nil .nil .nil)) (fun _ a b c d _ _ _ _ => k (.nd o a b c d)) f)
      (fun n _ => F.rec (motive := fun _ => Bool)
        (Nat.rec (motive := fun _ => Bool) (ih .nil (Nat.div n 4) o fun f' => k (.nd .no f' .nil .nil .nil)) (fun d _ => Nat.rec (motive := fun _ => Bool) (ih .nil (Nat.div n 4) o fun f' => k (.nd .no .nil f' .nil .nil)) (fun d _ => Nat.rec (motive := fun _ => Bool) (ih .nil (Nat.div n 4) o fun f' => k (.nd .no .nil .nil f' .nil)) (fun _ _ => ih .nil (Nat.div n 4) o fun f' => k (.nd .no .nil .nil .nil f')) d) d) (Nat.mod n 4))
        (fun y a b c d _ _ _ _ => Nat.rec (motive := fun _ => Bool) (ih a (Nat.div n 4) o fun f' => k (.nd y f' b c d)) (fun g _ => Nat.rec (motive := fun _ => Bool) (ih b (Nat.div n 4) o fun f' => k (.nd y a f' c d)) (fun g _ => Nat.rec (motive := fun _ => Bool) (ih c (Nat.div n 4) o fun f' => k (.nd y a b f' d)) (fun _ _ => ih d (Nat.div n 4) o fun f' => k (.nd y a b c f')) g) g) (Nat.mod n 4)) f) n) fuel

abbrev K := X → H → Bool
noncomputable def H.get (h : H) (id : Nat) : O := H.rec (motive := fun _ => O) (fun _ f => f.get id) h
noncomputable def H.put (h : H) (id : Nat) (o : O) (k : H → Bool) : Bool := H.rec (motive := fun _ => Bool) (fun n f => F.set 60 f id o fun f' => k (.mk n f')) h
/-- What an object's cells are. -/
noncomputable def H.row (h : H) (id : Nat) (k : Nat → Bool → X → Bool) : Bool := O.rec (motive := fun _ => Bool) false false false (fun el ro cs => k el ro cs) (fun _ _ => false) (h.get id)
/-- A new object. -/
noncomputable def H.new (h : H) (id : Nat) (o : O) (k : H → Bool) : Bool := H.rec (motive := fun _ => Bool) (fun n f => O.rec (motive := fun _ => Bool) (Bool.rec (motive := fun _ => Bool) false (F.set 60 f id o fun f' => k (.mk n f')) (Nat.ble (Nat.succ id) n)) false false (fun _ _ _ => false) (fun _ _ => false) (f.get id)) h

/-! ### lists of cells -/
/-- The list from a place on. -/
noncomputable def dropX (n : Nat) (l : X) : X :=
  Nat.rec (motive := fun _ => X → X) (fun l => l) (fun _ ih l => X.rec (motive := fun _ => X) (fun _ _ => .b false) (fun _ _ => .b false) (fun _ => .b false) (fun _ _ => .b false) (fun _ _ _ _ _ => .b false) (fun _ _ => .b false) (.b false) (fun _ l _ _ => ih l) (fun _ _ _ => .b false) l) n l
noncomputable def headX (l : X) (k : X → Bool) : Bool :=
  X.rec (motive := fun _ => Bool) (fun _ _ => false) (fun _ _ => false) (fun _ => false) (fun _ _ => false) (fun _ _ _ _ _ => false) (fun _ _ => false) false (fun x _ _ _ => k x) (fun _ _ _ => false) l
noncomputable def consX (l : X) (k : X → X → Bool) : Bool :=
  X.rec (motive := fun _ => Bool) (fun _ _ => false) (fun _ _ => false) (fun _ => false) (fun _ _ => false) (fun _ _ _ _ _ => false) (fun _ _ => false) false (fun x l _ _ => k x l) (fun _ _ _ => false) l
/-- The first n, and the rest. -/
noncomputable def takeX (n : Nat) (l : X) (k : X → X → Bool) : Bool :=
  Nat.rec (motive := fun _ => X → (X → X → Bool) → Bool) (fun l k => k .e l) (fun _ ih l k => consX l fun x l => ih l fun a b => k (.c x a) b) n l k
/-- A list, cell by cell, ends as a list. -/
noncomputable def appX (a b : X) (k : X → Bool) : Bool :=
  X.rec (motive := fun _ => (X → Bool) → Bool) (fun _ _ _ => false) (fun _ _ _ => false) (fun _ _ => false) (fun _ _ _ => false) (fun _ _ _ _ _ _ => false) (fun _ _ _ => false) (fun k => k b) (fun x _ _ il k => il fun l => k (.c x l)) (fun _ _ _ _ => false) a k
/-- May stand in a cell. -/
noncomputable def okX (x : X) : Bool :=
  X.rec (motive := fun _ => Bool) (fun _ _ => true) (fun _ _ => true) (fun _ => true) (fun _ _ => true) (fun _ _ _ _ _ => true) (fun _ _ => false) false (fun _ _ _ _ => false) (fun g _ _ => Bool.rec (motive := fun _ => Bool) false (Bool.rec (motive := fun _ => Bool) false (Bool.rec (motive := fun _ => Bool) true false (Nat.beq g 10)) (Nat.ble g 13)) (Nat.ble 1 g)) x
/-- A list's every element may stand in a cell; its length. -/
noncomputable def okL (l : X) (n : Nat) (k : Nat → Bool) : Bool :=
  X.rec (motive := fun _ => Nat → (Nat → Bool) → Bool) (fun _ _ _ _ => false) (fun _ _ _ _ => false) (fun _ _ _ => false) (fun _ _ _ _ => false) (fun _ _ _ _ _ _ _ => false) (fun _ _ _ _ => false) (fun n k => k n) (fun x _ _ il n k => and4 (okX x) (il (Nat.succ n) k)) (fun _ _ _ _ _ => false) l n k
/-- An argument's cells, all of which may stand in a cell. -/
noncomputable def cellsX (x : X) (k : X → Bool) : Bool :=
  X.rec (motive := fun _ => Bool) (fun a n => k (.c (.p a n) .e)) (fun a n => k (.c (.m a n) .e)) (fun t => k (.c (.b t) .e)) (fun i o => k (.c (.pt i o) .e)) (fun i o m l c => k (.c (.sl i o m l c) .e))
    (fun l _ => k l) false (fun _ _ _ _ => false) (fun g y _ => k (.c (.r g y) .e)) x
/-- Cells over a list's beginning. -/
noncomputable def overX (vs l : X) (k : X → Bool) : Bool :=
  X.rec (motive := fun _ => X → (X → Bool) → Bool) (fun _ _ _ _ => false) (fun _ _ _ _ => false) (fun _ _ _ => false) (fun _ _ _ _ => false) (fun _ _ _ _ _ _ _ => false) (fun _ _ _ _ => false) (fun l k => k l)
    (fun x _ _ iv l k => consX l fun _ l => iv l fun l => k (.c x l)) (fun _ _ _ _ _ => false) vs l k
noncomputable def putX (off : Nat) (vs l : X) (k : X → Bool) : Bool :=
  Nat.rec (motive := fun _ => X → (X → Bool) → Bool) (fun l k => overX vs l k) (fun _ ih l k => consX l fun x l => ih l fun l => k (.c x l)) off l k

/-! ### single values -/
def byt : Nat → Nat → List UInt8
  | 0, _ => []
  | l + 1, n => byt l (n / 256) ++ [UInt8.ofNat (n % 256)]
def ofBytes (l : List UInt8) : Nat := l.foldl (fun n b => n * 256 + b.toNat) 0

def encL0 : Value → Option X
  | .bool t => some (.b t)
  | .int k (.ofNat n) => some (.p (kN k) n)
  | .int k (.negSucc n) => some (.m (kN k) n)
  | .string s => some (.r 5 (.p s.data.toList.length (ofBytes s.data.toList)))
  | .pointer none => some (.r 1 .e)
  | .pointer (some ⟨id, off, none⟩) => some (.pt id off)
  | .slice none 0 0 => some (.r 2 .e)
  | .slice (some ⟨id, off, some mk⟩) len cap => some (.sl id off mk len cap)
  | .map none => some (.r 3 .e)
  | .map (some id) => some (.r 4 (.p 0 id))
  | .nilFunc => some (.r 7 .e)
  | .nilIface => some (.r 8 .e)
  | _ => none
def encLs : List Value → Option X
  | [] => some .e
  | v :: l => match encL0 v, encLs l with
    | some x, some r => some (.c x r)
    | _, _ => none
def enc (v : Value) : Option X :=
  match v with
  | .agg cs => (encLs cs.toList).map .ag
  | .tuple cs => (encLs cs.toList).map (.r 0)
  | v => encL0 v

/-- Back, where no token stands. -/
def d0L : X → Option Value
  | .p k n => some (.int (kOf k) (.ofNat n))
  | .m k n => some (.int (kOf k) (.negSucc n))
  | .b t => some (.bool t)
  | .pt id off => some (.pointer (some ⟨id, off, none⟩))
  | .sl id off mk len cap => some (.slice (some ⟨id, off, some mk⟩) len cap)
  | .r 1 _ => some (.pointer none)
  | .r 2 _ => some (.slice none 0 0)
  | .r 3 _ => some (.map none)
  | .r 4 (.p _ id) => some (.map (some id))
  | .r 5 (.p l n) => some (.string ⟨(byt l n).toArray⟩)
  | .r 7 _ => some .nilFunc
  | .r 8 _ => some .nilIface
  | _ => none
def d0Ls : X → Option (List Value)
  | .e => some []
  | .c x l => match d0L x, d0Ls l with
    | some v, some vs => some (v :: vs)
    | _, _ => none
  | _ => none
def d0 : X → Option Value
  | .ag l => (d0Ls l).map fun vs => .agg vs.toArray
  | x => d0L x
def lift1 (f : Value → Option Value) (x : X) (k : X → Bool) : Bool :=
  match d0 x with
  | some a => match f a with
    | some v => match enc v with
      | some z => k z
      | none => false
    | none => false
  | none => false
def lift2 (f : Value → Value → Option Value) (x y : X) (k : X → Bool) : Bool :=
  match d0 x with
  | some a => lift1 (f a) y k
  | none => false
end Go.Proofs.YtiphbdhclldllaaGreatDoor.M4
