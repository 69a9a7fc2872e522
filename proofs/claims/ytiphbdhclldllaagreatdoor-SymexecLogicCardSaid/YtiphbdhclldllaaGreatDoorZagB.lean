/- The fast machine's operations. -/
import Derived.Test.YtiphbdhclldllaaGreatDoorZagA
set_option linter.unusedSimpArgs false
set_option linter.unusedVariables false
namespace Go.Proofs.YtiphbdhclldllaaGreatDoor.M4
open Go Go.Proofs.YtiphbdhclldllaaGreatDoor.Mx

/-! ### views -/
noncomputable def viewP (x : X) (k : Nat → Nat → Bool) (no : Bool) : Bool :=
  X.rec (motive := fun _ => Bool) (fun a n => k a n) (fun _ _ => no) (fun _ => no) (fun _ _ => no) (fun _ _ _ _ _ => no) (fun _ _ => no) no (fun _ _ _ _ => no) (fun _ _ _ => no) x
noncomputable def viewB (x : X) (t f : Bool) : Bool :=
  X.rec (motive := fun _ => Bool) (fun _ _ => false) (fun _ _ => false) (fun b => Bool.rec f t b) (fun _ _ => false) (fun _ _ _ _ _ => false) (fun _ _ => false) false (fun _ _ _ _ => false) (fun _ _ _ => false) x
noncomputable def viewPt (x : X) (k : Nat → Nat → Bool) : Bool :=
  X.rec (motive := fun _ => Bool) (fun _ _ => false) (fun _ _ => false) (fun _ => false) (fun a n => k a n) (fun _ _ _ _ _ => false) (fun _ _ => false) false (fun _ _ _ _ => false) (fun _ _ _ => false) x
noncomputable def viewSl (x : X) (k : Nat → Nat → Nat → Nat → Nat → Bool) (nl : Bool) : Bool :=
  X.rec (motive := fun _ => Bool) (fun _ _ => false) (fun _ _ => false) (fun _ => false) (fun _ _ => false) (fun i o m l c => k i o m l c) (fun _ _ => false) false (fun _ _ _ _ => false) (fun g _ _ => Bool.rec (motive := fun _ => Bool) false nl (Nat.beq g 2)) x
noncomputable def viewAg (x : X) (k : X → Bool) : Bool :=
  X.rec (motive := fun _ => Bool) (fun _ _ => false) (fun _ _ => false) (fun _ => false) (fun _ _ => false) (fun _ _ _ _ _ => false) (fun l _ => k l) false (fun _ _ _ _ => false) (fun _ _ _ => false) x
noncomputable def viewR (x : X) (g : Nat) (k : X → Bool) (no : Bool) : Bool :=
  X.rec (motive := fun _ => Bool) (fun _ _ => no) (fun _ _ => no) (fun _ => no) (fun _ _ => no) (fun _ _ _ _ _ => no) (fun _ _ => no) no (fun _ _ _ _ => no) (fun g' y _ => Bool.rec (motive := fun _ => Bool) no (k y) (Nat.beq g' g)) x
/-- A function: number, what is ahead of the arguments, what is captured. -/
noncomputable def viewF (x : X) (k : Nat → X → X → Bool) : Bool :=
  viewR x 6 (fun y => consX y fun a y => viewP a (fun _ g => consX y fun u y => viewAg u fun u => headX y fun v => viewAg v fun v => k g u v) false) false

/-! ### numbers -/
noncomputable def both0 (a b : Nat) : Bool := Nat.beq (Nat.add a b) 0
noncomputable def addX (x y : X) (k : X → Bool) : Bool :=
  viewP x (fun a n => viewP y (fun b m => Bool.rec (motive := fun _ => Bool) (lift2 (binV .add .no) x y k) (nat (Nat.add n m) fun r => k (.p 0 r)) (and4 (both0 a b) (Nat.ble (Nat.add n m) 9223372036854775807))) (lift2 (binV .add .no) x y k)) (lift2 (binV .add .no) x y k)
noncomputable def subX (x y : X) (k : X → Bool) : Bool :=
  viewP x (fun a n => viewP y (fun b m => Bool.rec (motive := fun _ => Bool) (lift2 (binV .sub .no) x y k) (nat (Nat.sub n m) fun r => k (.p 0 r)) (and4 (both0 a b) (and4 (Nat.ble m n) (Nat.ble n 9223372036854775807)))) (lift2 (binV .sub .no) x y k)) (lift2 (binV .sub .no) x y k)
noncomputable def ltX (op : BinOp) (x y : X) (t f : X) (k : X → Bool) : Bool :=
  viewP x (fun a n => viewP y (fun b m => Bool.rec (motive := fun _ => Bool) false (Bool.rec (motive := fun _ => Bool) (k f) (k t) (Nat.ble (Nat.succ n) m)) (Nat.beq a b)) (lift2 (binV op .no) x y k)) (lift2 (binV op .no) x y k)
/-- Tokens: what is known of them. -/
structure Tk where
  tt : Nat → Nat → Option Bool
  tl : Nat → Int → Option Bool
def is64 (k : Nat) : Bool := Nat.beq k 0 || Nat.beq k 7
def opt2 (o : Option Bool) (t f : Bool) : Bool := match o with | some true => t | some false => f | none => false

noncomputable def strEq (l n l' n' : Nat) : Bool := and4 (Nat.beq l l') (Nat.beq (Nat.mod n (Nat.pow 256 l)) (Nat.mod n' (Nat.pow 256 l')))
noncomputable def isDig (b : Nat) : Bool := and4 (Nat.ble 48 b) (Nat.ble b 57)
/-- Is there a byte that is no digit among the last l? -/
noncomputable def nonDig (l n : Nat) : Bool := Nat.rec (motive := fun _ => Nat → Bool) (fun _ => false) (fun _ ih n => Bool.rec (motive := fun _ => Bool) true (ih (Nat.div n 256)) (isDig (Nat.mod n 256))) l n
/-- Is a string surely no 'l n and then digits'? -/
noncomputable def noTail (l n l' n' : Nat) : Bool :=
  Bool.rec (motive := fun _ => Bool) true (Bool.rec (motive := fun _ => Bool) true (nonDig (Nat.sub l' l) n') (Nat.beq (Nat.mod n (Nat.pow 256 l)) (Nat.mod (Nat.div n' (Nat.pow 256 (Nat.sub l' l))) (Nat.pow 256 l)))) (Nat.ble (Nat.succ l) l')

/-- Plain cells. -/
noncomputable def leafX (Q : Tk) (k : LK) (x y : X) (t f : Bool) : Bool :=
  LK.rec (motive := fun _ => Bool)
    (viewB x (viewB y t f) (viewB y f t))
    (viewP x (fun a n => viewP y (fun b m => Bool.rec (motive := fun _ => Bool) false (Bool.rec (motive := fun _ => Bool) f t (Nat.beq n m)) (Nat.beq a b)) (opt2 (leafSlow Q x y) t f)) (opt2 (leafSlow Q x y) t f))
    (viewR x 5 (fun u => viewP u (fun l n => viewR y 5 (fun v => viewP v (fun l' n' => Bool.rec (motive := fun _ => Bool) f t (strEq l n l' n')) false) (tail y l n f)) false) (viewR y 5 (fun u => viewP u (fun l n => tail x l n f) false) false))
    k
 where
  leafSlow (Q : Tk) : X → X → Option Bool
    | .m a n, .m b m => bif Nat.beq a b then some (Nat.beq n m) else none
    | .p a _, .m b _ => bif Nat.beq a b then some false else none
    | .m a _, .p b _ => bif Nat.beq a b then some false else none
    | .r g (.p a i), .r g' (.p b j) => bif Nat.beq g 12 && Nat.beq g' 12 && Nat.beq a b && is64 a then Q.tt i j else none
    | .r g (.p a i), .p b m => bif Nat.beq g 12 && Nat.beq a b && is64 a && Nat.ble m 9223372036854775807 then Q.tl i (.ofNat m) else none
    | .p b m, .r g (.p a i) => bif Nat.beq g 12 && Nat.beq a b && is64 a && Nat.ble m 9223372036854775807 then Q.tl i (.ofNat m) else none
    | _, _ => none
  tail (y : X) (l' n' : Nat) (f : Bool) : Bool := viewR y 13 (fun v => consX v fun u z => viewP z (fun _ _ => viewP u (fun l n => Bool.rec (motive := fun _ => Bool) false f (noTail l n l' n')) false) false) false

noncomputable def cellsEqX (Q : Tk) (ks : List LK) (x y : X) (t f : Bool) : Bool :=
  List.rec (motive := fun _ => X → X → Bool) (fun _ _ => t) (fun k _ ih x y => consX x fun a x => consX y fun b y => leafX Q k a b (ih x y) f) ks x y
noncomputable def lenX (l : X) (n : Nat) : Bool :=
  Nat.rec (motive := fun _ => X → Bool) (fun l => X.rec (motive := fun _ => Bool) (fun _ _ => false) (fun _ _ => false) (fun _ => false) (fun _ _ => false) (fun _ _ _ _ _ => false) (fun _ _ => false) true (fun _ _ _ _ => false) (fun _ _ _ => false) l) (fun _ ih l => consX l fun _ l => ih l) n l
noncomputable def llen (l : List LK) : Nat := List.rec 0 (fun _ _ n => Nat.succ n) l

/-- Is one nil? none: neither surely. -/
def nilEq (g : Nat) (ok : X → Bool) : X → X → Option Bool
  | .r a _, .r b _ => bif Nat.beq a g && Nat.beq b g then some true else none
  | .r a _, y => bif Nat.beq a g && ok y then some false else none
  | x, .r b _ => bif Nat.beq b g && ok x then some false else none
  | _, _ => none
def isPt : X → Bool | .pt _ _ => true | _ => false
def isSl : X → Bool | .sl _ _ _ _ _ => true | _ => false
def fnEq : X → X → Option Bool
  | .r a x, .r b y => bif Nat.beq a 7 && Nat.beq b 7 then some true else bif Nat.beq a 7 && Nat.beq b 6 && fnOk y then some false else bif Nat.beq a 6 && fnOk x && Nat.beq b 7 then some false else none
  | _, _ => none
 where fnOk : X → Bool
  | .c (.p _ _) (.c (.ag _) (.c (.ag _) .e)) => true
  | _ => false
def mpEq : X → X → Option Bool
  | .r a x, .r b y => bif Nat.beq a 3 && Nat.beq b 3 then some true else bif Nat.beq a 3 && Nat.beq b 4 && mpOk y then some false else bif Nat.beq a 4 && mpOk x && Nat.beq b 3 then some false else none
  | _, _ => none
 where mpOk : X → Bool
  | .p _ _ => true
  | _ => false

/-- Comparing, as eqBy. -/
noncomputable def eqX (Q : Tk) (m : EqM) (x y : X) (t f : Bool) : Bool :=
  EqM.rec (motive := fun _ => Bool) (fun k => leafX Q k x y t f) (opt2 (nilEq 1 isPt x y) t f) (opt2 (nilEq 2 isSl x y) t f) (opt2 (fnEq x y) t f) false
    (fun l => viewAg x fun a => viewAg y fun b => and4 (lenX a (llen l)) (and4 (lenX b (llen l)) (cellsEqX Q l a b t f))) (opt2 (mpEq x y) t f) m

noncomputable def catX (x y : X) (k : X → Bool) : Bool :=
  viewR x 5 (fun u => viewP u (fun l n => viewR y 5 (fun v => viewP v (fun l' n' => Bool.rec (motive := fun _ => Bool) false (nat (Nat.add l l') fun a => nat (Nat.add (Nat.mul n (Nat.pow 256 l')) n') fun b => and4 (Nat.ble (Nat.succ n') (Nat.pow 256 l')) (k (.r 5 (.p a b)))) (Nat.ble (Nat.add l l') 4611686018427387904)) false)
    (viewR y 13 (fun v => consX v fun w z => viewP w (fun l' n' => Bool.rec (motive := fun _ => Bool) false (nat (Nat.add l l') fun a => nat (Nat.add (Nat.mul n (Nat.pow 256 l')) n') fun b => and4 (Nat.ble (Nat.succ n') (Nat.pow 256 l')) (viewP z (fun _ i => k (.r 13 (.c (.p a b) (.p 0 i)))) false)) (Nat.ble (Nat.add l l') 4611686018427387904)) false) false)) false) false

noncomputable def binX (Q : Tk) (op : BinOp) (m : EqM) : Bx (X → X → (X → Bool) → Bool) :=
  match op with
  | .add => ⟨fun x y k => viewR x 5 (fun _ => catX x y k) (addX x y k)⟩
  | .sub => ⟨subX⟩
  | .eql => match m with
    | .lf .i => ⟨fun x y k => leafX Q .i x y (k (.b true)) (k (.b false))⟩
    | .lf .s => ⟨fun x y k => leafX Q .s x y (k (.b true)) (k (.b false))⟩
    | m => ⟨fun x y k => notNum x (eqX Q m x y (k (.b true)) (k (.b false)))⟩
  | .neq => match m with
    | .lf .i => ⟨fun x y k => leafX Q .i x y (k (.b false)) (k (.b true))⟩
    | .lf .s => ⟨fun x y k => leafX Q .s x y (k (.b false)) (k (.b true))⟩
    | m => ⟨fun x y k => notNum x (eqX Q m x y (k (.b false)) (k (.b true)))⟩
  | .lss => ⟨fun x y k => ltX .lss x y (.b true) (.b false) k⟩
  | .geq => ⟨fun x y k => ltX .geq x y (.b false) (.b true) k⟩
  | .gtr => ⟨fun x y k => ltG .gtr x y (.b true) (.b false) k⟩
  | .leq => ⟨fun x y k => ltG .leq x y (.b false) (.b true) k⟩
  | op => ⟨fun x y k => shX op x y k⟩
 where
  ltG (op : BinOp) (x y : X) (t f : X) (k : X → Bool) : Bool :=
    viewP x (fun a n => viewP y (fun b m => Bool.rec (motive := fun _ => Bool) false (Bool.rec (motive := fun _ => Bool) (k f) (k t) (Nat.ble (Nat.succ m) n)) (Nat.beq a b)) (lift2 (binV op .no) x y k)) (lift2 (binV op .no) x y k)
  /-- not a number and not a string -/
  notNum (x : X) (r : Bool) : Bool := X.rec (motive := fun _ => Bool) (fun _ _ => false) (fun _ _ => false) (fun _ => r) (fun _ _ => r) (fun _ _ _ _ _ => r) (fun _ _ => r) false (fun _ _ _ _ => false) (fun g _ _ => Bool.rec (motive := fun _ => Bool) r false (Nat.beq g 5 || Nat.beq g 12 || Nat.beq g 13)) x
  /-- the rest; a token shifted by nothing stays -/
  shX (op : BinOp) (x y : X) (k : X → Bool) : Bool :=
    viewR x 12 (fun u => viewP u (fun a i => viewP y (fun _ n => and4 (and4 (is64 a) (and4 (Nat.beq n 0) (isSh op))) (k x)) false) false) (lift2 (binV op .no) x y k)
  isSh : BinOp → Bool
    | .shl => true
    | .shr => true
    | _ => false
end Go.Proofs.YtiphbdhclldllaaGreatDoor.M4
