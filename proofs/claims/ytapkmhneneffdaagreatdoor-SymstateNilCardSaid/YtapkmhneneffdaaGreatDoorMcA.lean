/- A part of the proof that the law answers true at every input: the texts ZaeA, ZaeB, ZaeC, ZaeD; no conditions. -/
import Derived.Test.YtapkmhneneffdaaGreatDoorMxE
set_option linter.unusedSimpArgs false
set_option linter.unusedVariables false
set_option linter.constructorNameAsVariable false

/-! The text ZaeA. -/
namespace Go.Proofs.YtapkmhneneffdaaGreatDoor.M3
open Go Go.Proofs.YtapkmhneneffdaaGreatDoor.Mx

/-! ### values -/
/-- sl: a slice by what it holds (ex: of no spare room); pe: a pointer into a value that never changes; mc: a map by what it holds; pr, sr, mr: by their places in the heap. -/
inductive V where
  | b (x : Bool)
  | i (k : IntKind) (n : Int)
  | s (x : ByteArray)
  | np | nf | ni | nm
  | agg (l : List V)
  | tup (l : List V)
  | fn (g : Nat) (first cap : List V)
  | ifc (t : TypeId) (v : V)
  | sl (ex : Bool) (l : List V)
  | pe (v : V) (off : Nat)
  | mc (es : List (V × V × Nat)) (clock : Nat)
  | pr (slot st idx off : Nat)
  | sr (slot st off len : Nat) (ex : Bool)
  | mr (slot st : Nat)
  | pan (v : V)
  | junk
  deriving Inhabited

abbrev und : V := .tup []

def V.cells : V → List V
  | .agg l => l
  | v => [v]

def okC : V → Bool
  | .agg _ | .tup _ | .pan _ | .junk => false
  | _ => true

/-- An element of one cell stands for itself. -/
def nrm : V → V
  | .agg [c] => c
  | v => v
def mkE : List V → V
  | [c] => c
  | l => .agg l

def sub (agg : Bool) (off n : Nat) (v : V) : Option V :=
  if agg = true then
    match v with
    | .agg l => if off = 0 ∧ n = l.length then some (.agg l) else if off + n ≤ l.length then some (.agg ((l.drop off).take n)) else none
    | c => if off = 0 ∧ n = 1 then some (.agg [c]) else none
  else v.cells[off]?

def setR (l : List V) (off : Nat) (xs : List V) : List V := l.take off ++ xs ++ l.drop (off + xs.length)

/-- An element of which some cells are written. -/
def upd (v : V) (off : Nat) (xs : List V) : Option V :=
  match v with
  | .agg l => if off = 0 ∧ xs.length = l.length then some (.agg xs) else if off + xs.length ≤ l.length then some (.agg (setR l off xs)) else none
  | _ => match off, xs with
    | 0, [c] => some c
    | _, _ => none

def allE (esz : Nat) (l : List V) : Bool := l.all fun v => v.cells.length == esz

/-- Has a value no place in the heap? -/
def noRef0 : V → Bool
  | .pr _ _ _ _ | .sr _ _ _ _ _ | .mr _ _ | .agg _ | .tup _ | .ifc _ _ | .pan _ | .junk => false
  | .fn _ [] [] => true
  | .fn _ _ _ => false
  | _ => true
def noRef1 : V → Bool
  | .agg l => l.all noRef0
  | .ifc _ v => noRef0 v
  | .fn _ a c => a.all noRef0 && c.all noRef0
  | v => noRef0 v
def noRef : V → Bool
  | .tup l => l.all noRef1
  | .ifc _ v => noRef1 v
  | v => noRef1 v

/-! ### the heap -/
inductive Ob where
  | arr (esz : Nat) (es : List V)
  | map (es : List (V × V × Nat)) (clock : Nat)
  deriving Inhabited

abbrev Obs := List (Option (Nat × Ob))

/-- pl: for each slot: its object holds no place. -/
structure Hp where
  clock : Nat
  ep : Nat
  pl : List Bool
  obs : Obs
  deriving Inhabited

def Hp.emp : Hp := ⟨0, 0, [], []⟩

def getP : List Bool → Nat → Bool
  | [], _ => true
  | b :: _, 0 => b
  | _ :: l, n + 1 => getP l n
def setP : List Bool → Nat → Bool → List Bool
  | [], 0, b => [b]
  | [], n + 1, b => true :: setP [] n b
  | _ :: l, 0, b => b :: l
  | x :: l, n + 1, b => x :: setP l n b
theorem getP_set : ∀ (l : List Bool) (n : Nat) (b : Bool) (m : Nat), getP (setP l n b) m = if m = n then b else getP l m
  | [], 0, b, 0 => rfl
  | [], 0, b, m + 1 => rfl
  | [], n + 1, b, 0 => rfl
  | [], n + 1, b, m + 1 => by simp only [setP, getP, getP_set [] n b m, Nat.add_right_cancel_iff]
  | x :: l, 0, b, 0 => rfl
  | x :: l, 0, b, m + 1 => rfl
  | x :: l, n + 1, b, 0 => rfl
  | x :: l, n + 1, b, m + 1 => by simp only [setP, getP, getP_set l n b m, Nat.add_right_cancel_iff]

def Hp.at (H : Hp) (slot st : Nat) : Option Ob :=
  match H.obs[slot]? with
  | some (some (s, o)) => if s = st then some o else none
  | _ => none

/-- The same object, written. -/
def Hp.put (H : Hp) (slot st : Nat) (o : Ob) (p : Bool) : Hp := ⟨H.clock + 1, H.ep, setP H.pl slot (getP H.pl slot && p), H.obs.set slot (some (st, o))⟩

def allocL : Obs → Nat × Ob → Nat × Obs
  | [], e => (0, [some e])
  | none :: l, e => (0, some e :: l)
  | some x :: l, e => ((allocL l e).1 + 1, some x :: (allocL l e).2)

/-- A new object: its slot, the heap; its stamp is the clock. -/
def Hp.new (H : Hp) (o : Ob) (p : Bool) : Nat × Hp := ((allocL H.obs (H.clock, o)).1, ⟨H.clock + 1, H.ep, setP H.pl (allocL H.obs (H.clock, o)).1 p, (allocL H.obs (H.clock, o)).2⟩)

/-- An object takes a new stamp. -/
def Hp.move (H : Hp) (slot : Nat) (o : Ob) (p : Bool) : Hp := ⟨H.clock + 1, H.ep, setP H.pl slot (getP H.pl slot && p), H.obs.set slot (some (H.clock, o))⟩

/-- Does what a slice reads hold no place? -/
def Hp.flV (H : Hp) : V → Bool
  | .sr slot _ _ _ _ => getP H.pl slot
  | _ => true

def trimL : Obs → Obs
  | [] => []
  | x :: l => match x, trimL l with
    | none, [] => []
    | x, l => x :: l

def Hp.free (H : Hp) (slot st : Nat) : Hp :=
  match H.at slot st with
  | some _ => ⟨H.clock, H.ep, H.pl, trimL (H.obs.set slot none)⟩
  | none => H

/-! ### plain values -/
def toS : V → Option Value
  | .b x => some (.bool x)
  | .i k n => some (.int k n)
  | .s x => some (.string x)
  | _ => none

def ofS : Value → Option V
  | .bool x => some (.b x)
  | .int k n => some (.i k n)
  | .string x => some (.s x)
  | _ => none

/-- A closed cell of the code. -/
def ofLeaf : Value → Option V
  | .bool x => some (.b x)
  | .int k n => some (.i k n)
  | .string x => some (.s x)
  | .pointer none => some .np
  | .slice none 0 0 => some (.sl true [])
  | .nilFunc => some .nf
  | .nilIface => some .ni
  | .map none => some .nm
  | _ => none

def ofLeafs : List Value → Option (List V)
  | [] => some []
  | v :: l => match ofLeaf v, ofLeafs l with
    | some x, some r => some (x :: r)
    | _, _ => none

def ofClosed : Value → Option V
  | .agg cs => (ofLeafs cs.toList).map .agg
  | .tuple cs => (ofLeafs cs.toList).map .tup
  | v => ofLeaf v

def leafEq3 (k : LK) (x y : V) : Option Bool :=
  match toS x, toS y with
  | some a, some b => leafEq k a b
  | _, _ => none

def cellsEq3 : List LK → List V → List V → Option Bool
  | [], _, _ => some true
  | k :: ks, x :: xs, y :: ys => match leafEq3 k x y with
    | some true => cellsEq3 ks xs ys
    | some false => some false
    | none => none
  | _, _, _ => none

def eq3 (m : EqM) (x y : V) : Option Bool :=
  match m with
  | .lf k => leafEq3 k x y
  | .ptr => match x, y with
    | .np, .np => some true
    | .np, .pr _ _ _ _ | .pr _ _ _ _, .np | .np, .pe _ _ | .pe _ _, .np => some false
    | .pr _ s i o, .pr _ s' i' o' => bif Nat.beq s s' && (Nat.beq i i' && Nat.beq o o') then some true else none
    | _, _ => none
  | .fnc => match x, y with
    | .nf, .nf => some true
    | .nf, .fn _ _ _ | .fn _ _ _, .nf => some false
    | _, _ => none
  | .cells l => match x, y with
    | .agg xs, .agg ys => if xs.length = l.length ∧ ys.length = l.length then cellsEq3 l xs ys else none
    | _, _ => none
  | .mp => match x, y with
    | .nm, .nm => some true
    | .nm, .mr _ _ | .mr _ _, .nm => some false
    | _, _ => none
  | _ => none

def bin3 (op : BinOp) (m : EqM) (x y : V) : Option V :=
  match x, y with
  | .i k a, .i k' b => (binV op m (.int k a) (.int k' b)).bind ofS
  | .s a, .s b => (binV op m (.string a) (.string b)).bind ofS
  | x, y => match op with
    | .eql => (eq3 m x y).map .b
    | .neq => (eq3 m x y).map fun r => .b !r
    | _ => none

def un3 (op : UnOp) (x : V) : Option V :=
  match x with
  | .i k n => (unV op (.int k n)).bind ofS
  | .b t => (unV op (.bool t)).bind ofS
  | _ => none

def conv3 (k : IntKind) : V → Option V
  | .i _ n => some (.i k (k.wrap n))
  | _ => none

def pick3 (c x y : V) : Option V :=
  match c with
  | .b t => some (bif t then x else y)
  | _ => none

def minmax3 (max : Bool) : V → V → Option V
  | .i k x, .i _ y => some (.i k (if max then (if y > x then y else x) else (if y < x then y else x)))
  | _, _ => none

def strslice3 (x : V) (lo hi : Option V) : Option V :=
  match x with
  | .s x => (match lo, hi with
    | none, none => strsliceV (.string x) none none
    | some (.i k l), none => strsliceV (.string x) (some (.int k l)) none
    | none, some (.i k h) => strsliceV (.string x) none (some (.int k h))
    | some (.i k l), some (.i k' h) => strsliceV (.string x) (some (.int k l)) (some (.int k' h))
    | _, _ => none).bind ofS
  | _ => none

def strindex3 : V → V → Option V
  | .s x, .i k n => (strindexV (.string x) (.int k n)).bind ofS
  | _, _ => none

def strlen3 : V → Option V
  | .s x => some (.i .i64 x.size)
  | _ => none

def ext3 (i : Nat) : V → Option V
  | .tup l => l[i]?
  | _ => none

def nilchk3 : V → Option V
  | .pr a b c d => some (.pr a b c d)
  | .pe v o => some (.pe v o)
  | .fn g f c => some (.fn g f c)
  | _ => none

def faddr3 (off : Nat) : V → Option V
  | .pr a b c d => some (.pr a b c (d + off))
  | .pe v o => some (.pe v (o + off))
  | _ => none

def field3 (agg : Bool) (off n : Nat) : V → Option V
  | .agg l => if agg = true then (if off = 0 ∧ n = l.length then some (.agg l) else if off + n ≤ l.length then some (.agg ((l.drop off).take n)) else none) else l[off]?
  | _ => none

def aindex3 (agg : Bool) (len esz : Nat) : V → V → Option V
  | .agg l, .i _ i => if 0 ≤ i ∧ i < len then field3 agg (i.toNat * esz) esz (.agg l) else none
  | _, _ => none

def aaddr3 (len esz : Nat) : V → V → Option V
  | .pr a b c d, .i _ i => if 0 ≤ i ∧ i < len then some (.pr a b c (d + i.toNat * esz)) else none
  | .pe v o, .i _ i => if 0 ≤ i ∧ i < len then some (.pe v (o + i.toNat * esz)) else none
  | _, _ => none

def tassert3 (t : TypeId) (z : Option V) : V → Option V
  | .ifc u v => if u = t then some (match z with | some _ => .tup [v, .b true] | none => v) else z.map fun z => .tup [z, .b false]
  | .ni => z.map fun z => .tup [z, .b false]
  | _ => none

def isnil3 (neg : Bool) : V → Option V
  | .ni => some (.b !neg)
  | .ifc _ _ => some (.b neg)
  | _ => none

def len3 : V → Option V
  | .sl _ l => some (.i .i64 l.length)
  | .sr _ _ _ n _ => some (.i .i64 n)
  | _ => none

def cap3 : V → Option V
  | .sl true l => some (.i .i64 l.length)
  | .sr _ _ _ n true => some (.i .i64 n)
  | _ => none

/-! ### what the heap reads -/
def Hp.load (H : Hp) (agg : Bool) (n : Nat) : V → Option V
  | .pe v off => sub agg off n v
  | .pr slot st idx off => match H.at slot st with
    | some (.arr _ es) => match es[idx]? with
      | some v => sub agg off n v
      | none => none
    | _ => none
  | _ => none

def Hp.store (H : Hp) (n : Nat) (a x : V) : Option Hp :=
  match a with
  | .pr slot st idx off => match H.at slot st with
    | some (.arr esz es) => if x.cells.length = n ∧ x.cells.all okC = true then match es[idx]? with
        | some v => (upd v off x.cells).map fun v => H.put slot st (.arr esz (es.set idx v)) (x.cells.all noRef0)
        | none => none
      else none
    | _ => none
  | _ => none

def iaddr3 (H : Hp) (esz : Nat) : V → V → Option V
  | .sl _ l, .i _ n => if 0 ≤ n then match l[n.toNat]? with
      | some v => if v.cells.length = esz then some (.pe v 0) else none
      | none => none
    else none
  | .sr slot st off len _, .i _ n => if 0 ≤ n ∧ n < len then match H.at slot st with
      | some (.arr e _) => if e = esz then some (.pr slot st (off + n.toNat) 0) else none
      | _ => none
    else none
  | _, _ => none

def optI (d : Int) : Option V → Option Int
  | none => some d
  | some (.i _ n) => some n
  | some _ => none

def slice3 (H : Hp) (esz : Nat) (x : V) (lo hi mx : Option V) : Option V :=
  match x with
  | .sl ex l => if allE esz l = true then match optI l.length mx, optI l.length hi, optI 0 lo with
      | some m, some h, some o => if 0 ≤ o ∧ o ≤ h ∧ h ≤ m ∧ m ≤ l.length then
          some (.sl (match mx with | none => ex && h == l.length | some _ => h == m) ((l.drop o.toNat).take (h.toNat - o.toNat))) else none
      | _, _, _ => none
    else none
  | .sr slot st off len ex => match H.at slot st with
    | some (.arr e _) => if e = esz then match optI len mx, optI len hi, optI 0 lo with
        | some m, some h, some o => if 0 ≤ o ∧ o ≤ h ∧ h ≤ m ∧ m ≤ len then
            some (.sr slot st (off + o.toNat) (h.toNat - o.toNat) (match mx with | none => ex && h == len | some _ => h == m)) else none
        | _, _, _ => none
      else none
    | _ => none
  | _ => none

/-- What a slice or a string holds. -/
def Hp.row (H : Hp) (esz : Nat) : V → Option (List V)
  | .sl _ l => if allE esz l = true then some l else none
  | .sr slot st off len _ => match H.at slot st with
    | some (.arr e es) => if e = esz ∧ off + len ≤ es.length then some ((es.drop off).take len) else none
    | _ => none
  | .s x => if esz = 1 then some (x.data.toList.map fun b => .i .u8 b.toNat) else none
  | _ => none

/-- The bound that lengths must keep. -/
abbrev maxL : Nat := 1073741824

def Hp.append (H : Hp) (esz bytes : Nat) (pure : Bool) (x y : V) : Option (V × Hp) :=
  match H.row esz y with
  | none => none
  | some new =>
    match x with
    | .sl ex l => if new.isEmpty = true then some (x, H) else
      if ex = true ∧ allE esz l = true ∧ (l.length + new.length) * bytes ≤ 2 ^ 47 ∧ l.length + new.length ≤ 2 ^ 46 then
        some (.sr (H.new (.arr esz (l ++ new)) (H.flV y)).1 H.clock 0 (l.length + new.length) false, (H.new (.arr esz (l ++ new)) (H.flV y)).2) else none
    | .sr slot st off len ex => match H.at slot st with
      | some (.arr e es) => if new.isEmpty = true then some (x, H) else
        if e = esz ∧ off + len ≤ es.length ∧ (pure = true → ex = true) ∧ (len + new.length) * bytes ≤ 2 ^ 47 ∧ len + new.length ≤ 2 ^ 46 then
          some (.sr slot H.clock 0 (len + new.length) false, H.move slot (.arr esz ((es.drop off).take len ++ new)) (H.flV y)) else none
      | _ => none
    | _ => none

def Hp.mkslice (H : Hp) (esz bytes : Nat) (zero : List Value) (len cap : V) : Option (V × Hp) :=
  match len, cap, ofLeafs zero with
  | .i _ l, .i _ c, some z => if 0 ≤ l ∧ l ≤ c ∧ c ≤ maxL ∧ bytes ≤ 65536 ∧ z.length = esz then
      some (.sr (H.new (.arr esz (List.replicate l.toNat (mkE z))) true).1 H.clock 0 l.toNat (l == c), (H.new (.arr esz (List.replicate l.toNat (mkE z))) true).2) else none
  | _, _, _ => none

def Hp.copy (H : Hp) (esz : Nat) (x y : V) : Option (V × Hp) :=
  match y with
  | .s _ => none
  | _ => match H.row esz y with
    | none => none
    | some new => match x with
      | .sl _ l => if new.isEmpty || l.isEmpty then some (.i .i64 0, H) else none
      | .sr slot st off len _ => match H.at slot st with
        | some (.arr e es) => if e = esz ∧ off + len ≤ es.length then
            (if (Nat.min new.length len) = 0 then some (.i .i64 0, H) else
              some (.i .i64 (Nat.min new.length len : Nat), H.put slot st (.arr esz (es.take off ++ new.take (Nat.min new.length len) ++ es.drop (off + Nat.min new.length len))) (H.flV y))) else none
        | _ => none
      | _ => none

/-- Elements are made zero. -/
def Hp.clear (H : Hp) (esz : Nat) (z : List V) (x : V) : Option Hp :=
  match x with
  | .sl _ [] => some H
  | .sr slot st off len _ => match H.at slot st with
    | some (.arr e es) => if e = esz ∧ z.length = esz ∧ off + len ≤ es.length then
        bif Nat.beq len 0 then some H else some (H.put slot st (.arr esz (es.take off ++ List.replicate len (mkE z) ++ es.drop (off + len))) true) else none
    | _ => none
  | _ => none

/-! ### maps -/
def kindOk3 : LK → V → Bool
  | .b, .b _ => true
  | .i, .i _ _ => true
  | .s, .s _ => true
  | _, _ => false

def kindsOk3 : List LK → List V → Bool
  | [], [] => true
  | k :: ks, v :: vs => kindOk3 k v && kindsOk3 ks vs
  | _, _ => false

def keyOk3 (m : EqM) (k : V) : Bool :=
  match m, k with
  | .lf l, k => kindOk3 l k
  | .cells l, .agg cs => kindsOk3 l cs
  | _, _ => false

abbrev Ents := List (V × V × Nat)

def find3 (m : EqM) (k : V) : Ents → Nat → Option (Option (Nat × V × Nat))
  | [], _ => some none
  | (k', v, b) :: es, i => match eq3 m k k' with
    | some true => some (some (i, v, b))
    | some false => find3 m k es (i + 1)
    | none => none

def Hp.ents (H : Hp) : V → Option (Ents × Nat)
  | .nm => some ([], 0)
  | .mc es c => some (es, c)
  | .mr slot st => match H.at slot st with
    | some (.map es c) => some (es, c)
    | _ => none
  | _ => none

def setVal3 : Ents → Nat → V → Ents
  | [], _, _ => []
  | (k, _, b) :: es, 0, v => (k, v, b) :: es
  | e :: es, i + 1, v => e :: setVal3 es i v

def Hp.lookup (H : Hp) (m : EqM) (zero : V) (ok : Bool) (x i : V) : Option V :=
  if keyOk3 m i = true then
    match H.ents x with
    | some (es, _) => match find3 m i es 0 with
      | some (some (_, v, _)) => some (if ok then .tup [v, .b true] else v)
      | some none => some (if ok then .tup [zero, .b false] else zero)
      | none => none
    | none => none
  else none

def Hp.mapset (H : Hp) (m : EqM) (x i v : V) : Option Hp :=
  match x with
  | .mr slot st => if keyOk3 m i = true then
      match H.at slot st with
      | some (.map es c) => match find3 m i es 0 with
        | some (some (n, _, _)) => some (H.put slot st (.map (setVal3 es n v) c) (noRef1 v))
        | some none => some (H.put slot st (.map (es ++ [(i, v, c)]) (c + 1)) (noRef1 v))
        | none => none
      | _ => none
    else none
  | _ => none

def Hp.mapentry (H : Hp) (m : EqM) (zero : V) (x i : V) : Option (V × Hp) :=
  match x with
  | .mr slot st => if keyOk3 m i = true then
      match H.at slot st with
      | some (.map es c) => match find3 m i es 0 with
        | some (some (_, v, b)) => some (.tup [v, .i .i64 b], H)
        | some none => some (.tup [zero, .i .i64 c], H.put slot st (.map (es ++ [(i, zero, c)]) (c + 1)) true)
        | none => none
      | _ => none
    else none
  | _ => none

def setBorn3 : Ents → Int → V → Option Ents
  | [], _, _ => none
  | (k, u, b) :: es, s, v => if (b : Int) = s then some ((k, v, b) :: es) else (setBorn3 es s v).map fun r => (k, u, b) :: r

def Hp.entryset (H : Hp) (x s v : V) : Option Hp :=
  match x, s with
  | .mr slot st, .i _ n => match H.at slot st with
    | some (.map es c) => (setBorn3 es n v).map fun es => H.put slot st (.map es c) (noRef1 v)
    | _ => none
  | _, _ => none

/-! ### one operation -/
abbrev Fr := Tr V
def rd3 (T : Fr) (t : Nat) : V := (T.get t).getD .junk

/-- What the globals hold. -/
abbrev Gl := Nat → Option V

def ev3 (G : Gl) (T : Fr) : Opd → V
  | .t n => rd3 T n
  | .c v => (ofClosed v).getD .junk
  | .f g => .fn g [] []
  | .gl n => match G n with
    | some v => .pe v 0
    | none => .junk

/-- Is a slice nil? Of an empty one that is not known. -/
def isNilC : Opd → Bool
  | .c (.slice none 0 0) => true
  | _ => false
def nil3 : BinOp → V → Option V
  | .eql, .sl _ (_ :: _) => some (.b false)
  | .eql, .sr _ _ _ _ _ => some (.b false)
  | .neq, .sl _ (_ :: _) => some (.b true)
  | .neq, .sr _ _ _ _ _ => some (.b true)
  | _, _ => none
def binK (op : BinOp) (m : EqM) (x : V) (y : Opd) (yv : V) : Option V :=
  match m with
  | .slc => bif isNilC y then nil3 op x else none
  | m => bin3 op m x yv

/-- A struct or an array of parts. -/
def fill3 (cells : List V) : List (Nat × Nat × V) → Option (List V)
  | [] => some cells
  | (off, size, v) :: rest =>
    if v.cells.length = size ∧ off + size ≤ cells.length ∧ v.cells.all okC = true then fill3 (setR cells off v.cells) rest else none

/-- Cells, as elements. -/
def chunks (esz : Nat) : Nat → List V → List V
  | 0, _ => []
  | n + 1, l => mkE (l.take esz) :: chunks esz n (l.drop esz)

/-- A slice's elements of parts. -/
def fillE (esz : Nat) (es : List V) : List (Nat × Nat × V) → Option (List V)
  | [] => some es
  | (off, size, v) :: rest =>
    if v.cells.length = size ∧ size = esz ∧ off % esz = 0 ∧ off / esz < es.length ∧ v.cells.all okC = true then fillE esz (es.set (off / esz) (nrm v)) rest else none

def parts3 (G : Gl) (T : Fr) (ps : List (Nat × Nat × Opd)) : List (Nat × Nat × V) := ps.map fun (a, b, x) => (a, b, ev3 G T x)

abbrev Cl3 := Nat → List V → Hp → Option (V × Hp)

def bnd {α γ : Type} (x : Option α) (k : α → Option γ) : Option γ :=
  match x with
  | some a => k a
  | none => none

/-- One operation, and what comes behind it. -/
def evK (G : Gl) (cl : Cl3) (T : Fr) (H : Hp) {R : Type} (i : I) (κ : V → Hp → Option R) : Option R :=
  match i with
  | .mv x => κ (ev3 G T x) H
  | .const v => bnd (ofClosed v) fun v => κ v H
  | .pick c x y => bnd (pick3 (ev3 G T c) (ev3 G T x) (ev3 G T y)) fun v => κ v H
  | .alloc _ _ zero => bnd (ofLeafs zero) fun z => κ (.pr (H.new (.arr z.length [mkE z]) true).1 H.clock 0 0) (H.new (.arr z.length [mkE z]) true).2
  | .box _ _ x => if (ev3 G T x).cells.all okC = true then κ (.pr (H.new (.arr (ev3 G T x).cells.length [nrm (ev3 G T x)]) ((ev3 G T x).cells.all noRef0)).1 H.clock 0 0) (H.new (.arr (ev3 G T x).cells.length [nrm (ev3 G T x)]) ((ev3 G T x).cells.all noRef0)).2 else none
  | .build zero ps => bnd (ofLeafs zero) fun z => bnd (fill3 z (parts3 G T ps)) fun cs => κ (.agg cs) H
  | .bslice _ _ esz len zero ps => bnd (ofLeafs zero) fun z => if z.length = len * esz ∧ 0 < esz then
      bnd (fillE esz (chunks esz len z) (parts3 G T ps)) fun es => κ (.sr (H.new (.arr esz es) (es.all fun v => v.cells.all noRef0)).1 H.clock 0 len true) (H.new (.arr esz es) (es.all fun v => v.cells.all noRef0)).2 else none
  | .load agg n a => bnd (H.load agg n (ev3 G T a)) fun v => κ v H
  | .store n a x => bnd (H.store n (ev3 G T a) (ev3 G T x)) fun H => κ und H
  | .nilchk x => bnd (nilchk3 (ev3 G T x)) fun v => κ v H
  | .bin op m x y => bnd (binK op m (ev3 G T x) y (ev3 G T y)) fun v => κ v H
  | .un op x => bnd (un3 op (ev3 G T x)) fun v => κ v H
  | .conv k x => bnd (conv3 k (ev3 G T x)) fun v => κ v H
  | .mkfn (.func g) first cap => κ (.fn g (first.map (ev3 G T)) (cap.map (ev3 G T))) H
  | .mkslice _ _ esz bytes zero len cap => bnd (H.mkslice esz bytes zero (ev3 G T len) (ev3 G T cap)) fun r => κ r.1 r.2
  | .slice esz x lo hi mx => bnd (slice3 H esz (ev3 G T x) (lo.map (ev3 G T)) (hi.map (ev3 G T)) (mx.map (ev3 G T))) fun v => κ v H
  | .strslice x lo hi => bnd (strslice3 (ev3 G T x) (lo.map (ev3 G T)) (hi.map (ev3 G T))) fun v => κ v H
  | .faddr off x => bnd (faddr3 off (ev3 G T x)) fun v => κ v H
  | .field agg off n x => bnd (field3 agg off n (ev3 G T x)) fun v => κ v H
  | .iaddr esz x y => bnd (iaddr3 H esz (ev3 G T x) (ev3 G T y)) fun v => κ v H
  | .aaddr len esz x y => bnd (aaddr3 len esz (ev3 G T x) (ev3 G T y)) fun v => κ v H
  | .aindex agg len esz x y => bnd (aindex3 agg len esz (ev3 G T x) (ev3 G T y)) fun v => κ v H
  | .strindex x y => bnd (strindex3 (ev3 G T x) (ev3 G T y)) fun v => κ v H
  | .ext n x => bnd (ext3 n (ev3 G T x)) fun v => κ v H
  | .call f as => match ev3 G T f with
    | .fn g first cap => bnd (cl g (first ++ as.map (ev3 G T) ++ cap) H) fun r => match r.1 with
      | .pan _ => none
      | v => κ v r.2
    | _ => none
  | .len x => bnd (len3 (ev3 G T x)) fun v => κ v H
  | .strlen x => bnd (strlen3 (ev3 G T x)) fun v => κ v H
  | .append _ _ esz bytes pure x y => bnd (H.append esz bytes pure (ev3 G T x) (ev3 G T y)) fun r => κ r.1 r.2
  | .minmax max x y => bnd (minmax3 max (ev3 G T x) (ev3 G T y)) fun v => κ v H
  | .copy esz x y => bnd (H.copy esz (ev3 G T x) (ev3 G T y)) fun r => κ r.1 r.2
  | .clear esz zero x => bnd (ofLeafs zero) fun z => bnd (H.clear esz z (ev3 G T x)) fun H => κ und H
  | .mkmap _ => κ (.mr (H.new (.map [] 0) true).1 H.clock) (H.new (.map [] 0) true).2
  | .lookup m zero ok x y => bnd (ofClosed zero) fun z => bnd (H.lookup m z ok (ev3 G T x) (ev3 G T y)) fun v => κ v H
  | .mapset m x y z => bnd (H.mapset m (ev3 G T x) (ev3 G T y) (ev3 G T z)) fun H => κ und H
  | .mapentry m zero x y => bnd (ofClosed zero) fun z => bnd (H.mapentry m z (ev3 G T x) (ev3 G T y)) fun r => κ r.1 r.2
  | .entryset x y z => bnd (H.entryset (ev3 G T x) (ev3 G T y) (ev3 G T z)) fun H => κ und H
  | .maplen x => bnd (H.ents (ev3 G T x)) fun e => κ (.i .i64 e.1.length) H
  | .cap x => bnd (cap3 (ev3 G T x)) fun v => κ v H
  | .mkif t x => κ (.ifc t (ev3 G T x)) H
  | .tassert t z x => match z with
    | none => bnd (tassert3 t none (ev3 G T x)) fun v => κ v H
    | some z => bnd (ofClosed z) fun z => bnd (tassert3 t (some z) (ev3 G T x)) fun v => κ v H
  | .isnil neg x => bnd (isnil3 neg (ev3 G T x)) fun v => κ v H
  | _ => none

end Go.Proofs.YtapkmhneneffdaaGreatDoor.M3

/-! The text ZaeB. -/
namespace Go.Proofs.YtapkmhneneffdaaGreatDoor.M3
open Go Go.Proofs.YtapkmhneneffdaaGreatDoor.Mx

/-! ### what a place reads, by content -/
def snL (g : V → Option (V × List Nat)) : List V → Option (List V × List Nat)
  | [] => some ([], [])
  | v :: l => match g v, snL g l with
    | some (v, s), some (l, s') => some (v :: l, s ++ s')
    | _, _ => none

def snE (g : V → Option (V × List Nat)) : Ents → Option (Ents × List Nat)
  | [] => some ([], [])
  | (k, v, b) :: l => match g v, snE g l with
    | some (v, s), some (l, s') => some ((k, v, b) :: l, s ++ s')
    | _, _ => none

/-- A value without places in the heap: what it reads; the slots that were read. -/
def snap (H : Hp) : Nat → V → Option (V × List Nat)
  | 0, _ => none
  | f + 1, v => match v with
    | .sr slot st off len ex => match H.at slot st with
      | some (.arr _ es) => if off + len ≤ es.length then (snL (snap H f) ((es.drop off).take len)).map fun r => (.sl ex r.1, slot :: r.2) else none
      | _ => none
    | .pr slot st idx off => match H.at slot st with
      | some (.arr _ es) => match es[idx]? with
        | some v => (snap H f v).map fun r => (.pe r.1 off, slot :: r.2)
        | none => none
      | _ => none
    | .mr slot st => match H.at slot st with
      | some (.map es c) => (snE (snap H f) es).map fun r => (.mc r.1 c, slot :: r.2)
      | _ => none
    | .agg l => (snL (snap H f) l).map fun r => (.agg r.1, r.2)
    | .tup l => (snL (snap H f) l).map fun r => (.tup r.1, r.2)
    | .fn g a c => match snL (snap H f) a, snL (snap H f) c with
      | some (a, s), some (c, s') => some (.fn g a c, s ++ s')
      | _, _ => none
    | .ifc t v => (snap H f v).map fun r => (.ifc t r.1, r.2)
    | .pan _ | .junk => none
    | v => some (v, [])

abbrev deep : Nat := 12

def snapP (H : Hp) (f : Nat) (v : V) : Option (V × List Nat) :=
  match v with
  | .pan v => (snap H f v).map fun r => (.pan r.1, r.2)
  | v => snap H f v

def Hp.dropAll (H : Hp) : List Nat → Hp
  | [] => H
  | s :: l => Hp.dropAll ⟨H.clock, H.ep, H.pl, trimL (H.obs.set s none)⟩ l

/-- Objects that never change from now on. -/
def Hp.frz (H : Hp) (s : List Nat) : Hp := ⟨H.clock, H.ep + 1, H.pl, (H.dropAll s).obs⟩

/-- A value of which no memory is a part. -/
def flat0 : V → Bool
  | .b _ | .i _ _ | .s _ | .np | .nf | .ni | .nm => true
  | .fn _ [] [] => true
  | _ => false
def flat1 : V → Bool
  | .agg l => l.all flat0
  | v => flat0 v
def flat : V → Bool
  | .tup l => l.all flat1
  | .ifc _ v => flat1 v
  | .pan (.ifc _ v) => flat1 v
  | v => flat1 v

/-! ### code -/
inductive Ps where
  | frz (ts : List Nat)
  | free (ts : List Nat)
  | keep (ts : List Nat)
  | fin (t : Nat)
  deriving Inhabited

inductive C3 where
  | skip
  | region (na : Nat) (ops : List Ins)
  | seq (a b : C3)
  | cond (c : Opd) (a b : C3)
  | block (id : Nat) (c : C3)
  | loop (live : List Nat) (c : C3)
  | exit (id : Nat)
  | ret
  | callp (dst : Option Nat) (f : Opd) (args : List Opd)
  | panic (x : Opd)
  | pre (p : Ps) (c : C3)
  | post (c : C3) (p : Ps)
  deriving Inhabited

/-- The second machine's code. -/
def C3.er : C3 → Cd
  | .skip => .skip
  | .region na ops => .region na ops
  | .seq a b => .seq a.er b.er
  | .cond c a b => .cond c a.er b.er
  | .block id c => .block id c.er
  | .loop _ c => .loop c.er
  | .exit id => .exit id
  | .ret => .ret
  | .callp d f as => .callp d f as
  | .panic x => .panic x
  | .pre _ c => c.er
  | .post c _ => c.er

/-- The new objects' numbers of a region. -/
def regKs (ops : List Ins) : List Nat := ops.filterMap fun i => i.op.tgt

def noDup : List Nat → Bool
  | [] => true
  | x :: l => !l.contains x && noDup l

/-- Each new object of a region has its number. -/
def C3.ok : C3 → Bool
  | .region na ops => noDup (regKs ops) && (regKs ops).all fun k => Nat.blt k na
  | .seq a b | .cond _ a b => a.ok && b.ok
  | .block _ c | .loop _ c | .pre _ c | .post c _ => c.ok
  | _ => true

structure Fn3 where
  res : List Res
  body : C3
  dfr : Option (Opd × C3)
  recv : Option Nat
  deriving Inhabited

def Fn3.ok (f : Fn3) : Bool := f.body.ok && (match f.dfr with | some (_, c) => c.ok | none => true)

def Fn3.er (f : Fn3) : FnI := ⟨f.res, f.body.er, f.dfr.map fun (c, r) => (c, r.er), f.recv⟩

def ofP : List Nat → List V → Fr
  | t :: ts, v :: vs => (ofP ts vs).set t v
  | _, _ => .nil

def putF (T : Fr) : Option Nat → V → Fr
  | some d, v => T.set d v
  | none, _ => T

def frzs (f : Nat) : List Nat → Fr → Hp → Option (Fr × Hp)
  | [], T, H => some (T, H)
  | t :: ts, T, H => match snap H f (rd3 T t) with
    | some (v, s) => frzs f ts (T.set t v) (H.frz s)
    | none => none

def frees : List Nat → Fr → Hp → Hp
  | [], _, H => H
  | t :: ts, T, H => frees ts T (match rd3 T t with
    | .pr slot st _ _ => H.free slot st
    | .sr slot st _ _ _ => H.free slot st
    | .mr slot st => H.free slot st
    | _ => H)

/-- What an element's cells hold by place is made content, in place. -/
def Hp.fin (H : Hp) (slot st idx : Nat) : Option Hp :=
  match H.at slot st with
  | some (.arr esz es) => match es[idx]? with
    | some v => match snap H deep v with
      | some (v', s) => bif s.contains slot then none else some ⟨(H.frz s).clock, (H.frz s).ep, setP (H.frz s).pl slot ((es.set idx v').all fun v => v.cells.all noRef0), (H.frz s).obs.set slot (some (st, .arr esz (es.set idx v')))⟩
      | none => none
    | none => none
  | _ => none

def Ps.run (p : Ps) (T : Fr) (H : Hp) : Option (Fr × Hp) :=
  match p with
  | .frz ts => frzs deep ts T H
  | .free ts => some (T, frees ts T H)
  | .keep ts => some (ofP ts (ts.map (rd3 T)), H)
  | .fin t => match rd3 T t with
    | .pr slot st idx _ => bnd (H.fin slot st idx) fun H => some (T, H)
    | _ => none

inductive Ex3 where
  | normal
  | exit (id : Nat)
  | ret
  | pan (v : V)
  deriving Inhabited

/-- What is noted of an operation. -/
inductive Lg3 where
  | call (clk ep : Nat)
  | new (slot st : Nat)
  | ld (p : V) (n : Nat)
  deriving Inhabited

def vok1 : V → Bool
  | .b _ | .i _ _ | .s _ | .np | .nf | .ni | .nm | .sl _ _ | .pe _ _ | .mc _ _ | .pr _ _ _ _ | .sr _ _ _ _ _ | .mr _ _ => true
  | _ => false
def vok : V → Bool
  | .agg l => l.all vok1
  | v => vok1 v

/-- Was a temporary not set since? -/
def unt (l : List Nat) : Opd → Bool
  | .t n => !l.contains n
  | _ => true
def isPe : V → Bool
  | .pe _ _ => true
  | _ => false
def isSl : V → Bool
  | .sl _ _ => true
  | _ => false
def cleanOp (G : Gl) (T : Fr) (l : List Nat) (i : I) : Bool :=
  match i with
  | .mv x => unt l x
  | .nilchk x => unt l x
  | .faddr _ x => unt l x
  | .load _ _ x => unt l x && isPe (ev3 G T x)
  | .iaddr _ x _ => unt l x && isSl (ev3 G T x)
  | _ => false

/-- The temporaries that may hold what is newer than the first call that was noted. -/
def tnx (G : Gl) (T : Fr) (i : Ins) (v : V) (tn : Option (List Nat)) : Option (List Nat) :=
  match tn with
  | none => bif i.lg && i.op.isCall then some (match i.dst with | some d => [d] | none => []) else none
  | some l => match i.dst with
    | none => some l
    | some d => bif flat v || cleanOp G T l i.op then some l else some (d :: l)

def untO (tn : Option (List Nat)) (x : Opd) : Bool :=
  match tn with
  | some l => unt l x
  | none => false

def chk31 (H : Hp) (tn : Option (List Nat)) (G : Gl) (T : Fr) (i : I) (v : V) : Option Lg3 → Bool
  | none => match i with
    | .store _ _ _ => true
    | .load _ _ _ => true
    | _ => false
  | some (.call clk _) => match i with
    | .load _ _ a => (match ev3 G T a with
      | .pe _ _ => untO tn a
      | .pr _ _ _ _ => Nat.beq H.clock clk
      | _ => false) && vok v
    | _ => false
  | some (.new slot st) => match i with
    | .load _ _ a => (H.at slot st).isSome && (match ev3 G T a with
      | .pe _ _ => true
      | .pr slot' _ _ _ => !(Nat.beq slot slot')
      | _ => false)
    | _ => false
  | some (.ld p n) => match i with
    | .store m a _ => (match p, ev3 G T a with
      | .pe _ _, .pr _ _ _ _ => true
      | .pr slot st idx off, .pr slot' _ idx' off' => (H.at slot st).isSome && (!(Nat.beq slot slot') || (!(Nat.beq idx idx') || (Nat.ble (off + n) off' || Nat.ble (off' + m) off)))
      | _, _ => false)
    | _ => false

def chk3 (H : Hp) (tn : Option (List Nat)) (log : Tr Lg3) (G : Gl) (T : Fr) (i : I) (v : V) : List Nat → Bool
  | [] => true
  | c :: cs => chk31 H tn G T i v (log.get c) && chk3 H tn log G T i v cs

def note3 (H : Hp) (G : Gl) (T : Fr) (i : I) : Option Lg3 :=
  match i with
  | .call _ _ => some (.call H.clock H.ep)
  | .alloc _ _ _ | .box _ _ _ | .bslice _ _ _ _ _ _ | .mkslice _ _ _ _ _ _ _ | .mkmap _ => some (.new (allocL H.obs (H.clock, .map [] 0)).1 H.clock)
  | .load agg n a => some (.ld (ev3 G T a) (if agg then n else 1))
  | _ => none

def lg3 (H : Hp) (G : Gl) (T : Fr) (i : Ins) (log : Tr Lg3) : Tr Lg3 :=
  bif i.lg then (match note3 H G T i.op with | some e => log.set i.idx e | none => log) else log

section
variable (G : Gl) (cl : Cl3)

def evI3 (T : Fr) (H : Hp) (i : I) : Option (V × Hp) := evK G cl T H i fun v H => some (v, H)

/-- A Bool that comes out is told apart at once. -/
def fork {R : Type} (v : V) (k : V → Option R) : Option R :=
  match v with
  | .b t => bif t then k (.b true) else k (.b false)
  | v => k v
theorem fork_eq {R : Type} (v : V) (k : V → Option R) : fork v k = k v := by
  cases v <;> first | rfl | (rename_i t; cases t <;> rfl)

/-- Under a guard. -/
def gvH (t w : Bool) (x : Option (V × Hp)) (H : Hp) : Option (V × Hp) := bif t == w then x else some (und, H)

def ands (a : Bool) {α : Type} (x : Option α) : Option α := bif a then x else none

def evOps {R : Type} : List Ins → Fr → Hp → Tr Lg3 → Option (List Nat) → (Fr → Hp → Option R) → Option R
  | [], T, H, _, _, κ => κ T H
  | i :: l, T, H, log, tn, κ => match i.guard with
    | none => evK G cl T H i.op fun v H' => ands (chk3 H tn log G T i.op v i.chk) (fork v fun v => evOps l (putF T i.dst v) H' (lg3 H G T i log) (tnx G T i v tn) κ)
    | some (g, w) => match rd3 T g with
      | .b t => bif t == w then evK G cl T H i.op fun v H' => ands (chk3 H tn log G T i.op v i.chk) (fork v fun v => evOps l (putF T i.dst v) H' (lg3 H G T i log) (tnx G T i v tn) κ)
          else evOps l (putF T i.dst und) H log tn κ
      | .tup [] => evOps l (putF T i.dst und) H log tn κ
      | _ => none

abbrev Lp3 := (List V → Hp → Option (Ex3 × List V × Hp)) → List V → Hp → Option (Ex3 × List V × Hp)

def evCK (lp : Lp3) : {R : Type} → C3 → Fr → Hp → (Ex3 → Fr → Hp → Option R) → Option R
  | _, .skip, T, H, κ => κ .normal T H
  | _, .region _ ops, T, H, κ => evOps G cl ops T H .nil none fun T H => κ .normal T H
  | _, .seq a b, T, H, κ => evCK lp a T H fun e T H => match e with
    | .normal => evCK lp b T H κ
    | e => κ e T H
  | _, .cond c a b, T, H, κ => match ev3 G T c with
    | .b t => bif t then evCK lp a T H κ else evCK lp b T H κ
    | _ => none
  | _, .block id c, T, H, κ => evCK lp c T H fun e T H => match e with
    | .exit i => bif i == id then κ .normal T H else κ (.exit i) T H
    | e => κ e T H
  | _, .loop live c, T, H, κ => bnd (lp (fun vs H => evCK lp c (ofP live vs) H fun e T H => some (e, live.map (rd3 T), H)) (live.map (rd3 T)) H) fun r => κ r.1 (ofP live r.2.1) r.2.2
  | _, .exit id, T, H, κ => κ (.exit id) T H
  | _, .ret, T, H, κ => κ .ret T H
  | _, .callp d f as, T, H, κ => match ev3 G T f with
    | .fn g first cap => bnd (cl g (first ++ as.map (ev3 G T) ++ cap) H) fun r => match r.1 with
      | .pan v => κ (.pan v) T r.2
      | v => fork v fun v => κ .normal (putF T d v) r.2
    | _ => none
  | _, .panic x, T, H, κ => match ev3 G T x with
    | .ifc t v => κ (.pan (.ifc t v)) T H
    | _ => none
  | _, .pre p c, T, H, κ => match p with
    | .keep ts => bnd (lp (fun vs H => some (.ret, vs, H)) (ts.map (rd3 T)) H) fun r => evCK lp c (ofP ts r.2.1) r.2.2 κ
    | p => bnd (p.run T H) fun r => evCK lp c r.1 r.2 κ
  | _, .post c p, T, H, κ => evCK lp c T H fun e T H => match e with
    | .normal => bnd (p.run T H) fun r => κ .normal r.1 r.2
    | .exit i => bnd (p.run T H) fun r => κ (.exit i) r.1 r.2
    | e => κ e T H

def res3 (T : Fr) (H : Hp) : List Res → Option (List V)
  | [] => some []
  | .tmp t :: rs => bnd (res3 T H rs) fun vs => some (rd3 T t :: vs)
  | .cell t agg n :: rs => bnd (H.load agg n (rd3 T t)) fun v => bnd (res3 T H rs) fun vs => some (v :: vs)

/-- Something is known of it. -/
def nj : V → Bool
  | .junk | .tup _ | .pan _ => false
  | _ => true

def pack3 : List V → V
  | [v] => v
  | vs => .tup vs

def evD3 (lp : Lp3) (Γ : Nat → Option Fn3) {R : Type} (c pv : V) (H : Hp) (κ : Hp → Option R) : Option R :=
  match c with
  | .fn g first cap => match Γ g with
    | some gn => match gn.dfr, gn.recv, gn.res with
      | none, some d, [] => evCK G cl lp gn.body ((ofL (first ++ cap) 0).set d pv) H fun e _ H => match e with
        | .normal => κ H
        | .ret => κ H
        | _ => none
      | _, _, _ => none
    | none => none
  | _ => none
 where
  ofL : List V → Nat → Fr
  | l, n => Tr.ofList l n .nil

/-- A function's body, for its answer. -/
def evB3 (lp lpD : Lp3) (Γ : Nat → Option Fn3) (f : Nat) (args : List V) (H : Hp) : Option (V × Hp) :=
  match Γ f with
  | none => none
  | some fn => match fn.recv with
    | some _ => none
    | none => match fn.dfr with
      | none => evCK G cl lp fn.body (Tr.ofList args 0 .nil) H fun e T H => match e with
        | .normal => bnd (res3 T H fn.res) fun vs => ands (vs.all nj) (some (pack3 vs, H))
        | .ret => bnd (res3 T H fn.res) fun vs => ands (vs.all nj) (some (pack3 vs, H))
        | .pan v => some (.pan v, H)
        | .exit _ => none
      | some (c, rest) => evCK G cl lp fn.body (Tr.ofList args 0 .nil) H fun e T H => match e with
        | .normal => evCK G cl lpD rest T H fun e T' H => match e with
          | .normal => evD3 G cl lpD Γ (ev3 G T c) .ni H fun H => bnd (res3 T' H fn.res) fun vs => ands (vs.all nj) (some (pack3 vs, H))
          | .ret => evD3 G cl lpD Γ (ev3 G T c) .ni H fun H => bnd (res3 T' H fn.res) fun vs => ands (vs.all nj) (some (pack3 vs, H))
          | .pan v => evD3 G cl lpD Γ (ev3 G T c) v H fun H => bnd (res3 T' H fn.res) fun vs => ands (vs.all nj) (some (pack3 vs, H))
          | .exit _ => none
        | _ => none
end

/-! ### places renamed -/
/-- ρ: a place's new slot and stamp. -/
abbrev Rn := Nat → Nat → Option (Nat × Nat)
def ren0 (ρ : Rn) : V → V
  | .pr slot st i o => match ρ slot st with | some (s, t) => .pr s t i o | none => .junk
  | .sr slot st off len ex => match ρ slot st with | some (s, t) => .sr s t off len ex | none => .junk
  | .mr slot st => match ρ slot st with | some (s, t) => .mr s t | none => .junk
  | v => bif noRef0 v then v else .junk
def renC (ρ : Rn) : V → V
  | .ifc t v => .ifc t (ren0 ρ v)
  | .fn g a c => .fn g (a.map (ren0 ρ)) (c.map (ren0 ρ))
  | v => ren0 ρ v
def ren1 (ρ : Rn) : V → V
  | .agg l => .agg (l.map (renC ρ))
  | v => renC ρ v
def ren2 (ρ : Rn) : V → V
  | .tup l => .tup (l.map (ren1 ρ))
  | .ifc t v => .ifc t (ren1 ρ v)
  | .pan v => .pan (match v with | .ifc t v => .ifc t (ren1 ρ v) | v => ren1 ρ v)
  | v => ren1 ρ v
def ren (ρ : Rn) (v : V) : V := bif noRef v then v else ren2 ρ v

def renM (ρ : Rn) : Ents → Ents
  | [] => []
  | (k, v, b) :: l => (k, bif noRef1 v then v else ren1 ρ v, b) :: renM ρ l
/-- An object with its places renamed; none: it holds one that is not there. -/
def renOb (ρ : Rn) (plain : Bool) (ob : Ob) : Option Ob :=
  bif plain then some ob else match ob with
  | .arr esz es => bif (es.map (ren1 ρ)).all (fun v => v.cells.all okC) then some (.arr esz (es.map (ren1 ρ))) else none
  | .map es c => some (.map (renM ρ es) c)

/-- A heap, slot by slot. -/
def mkHp (clock ep len : Nat) (ent : Nat → Option (Nat × Ob)) (fl : Nat → Bool) : Hp := ⟨clock, ep, (List.range len).map fl, (List.range len).map ent⟩

def Hp.ent (X : Hp) (s : Nat) : Option (Nat × Ob) :=
  match X.obs[s]? with
  | some (some x) => some x
  | _ => none

/-- Stamps that are the slots; n: the first n stamps are the arguments' objects. -/
def canS (n s st : Nat) : Nat := bif Nat.beq st s && Nat.blt s n then s else n + s
def canρ (n : Nat) (X : Hp) : Rn := fun slot st => bif (X.at slot st).isSome then some (slot, canS n slot st) else none
def Hp.can (X : Hp) (n : Nat) : Hp := mkHp (n + X.obs.length) 0 X.obs.length (fun s => match X.ent s with
  | some (st, ob) => (renOb (canρ n X) (getP X.pl s) ob).map fun ob => (canS n s st, ob)
  | none => none) (getP X.pl)

/-- A loop begins anew. -/
def anew (rs : Option Nat) (vs : List V) (H : Hp) : List V × Hp :=
  match rs with
  | some n => (vs.map (ren (canρ n H)), H.can n)
  | none => (vs, H)

def iter3 (rs : Option Nat) : Nat → Lp3
  | 0, _, _, _ => none
  | n + 1, body, vs, H => match body (anew rs vs H).1 (anew rs vs H).2 with
    | some (.normal, vs, H) => iter3 rs n body vs H
    | r => r

/-! ### the objects that arguments reach -/
def slots0 : V → List Nat
  | .pr slot _ _ _ => [slot]
  | .sr slot _ _ _ _ => [slot]
  | .mr slot _ => [slot]
  | _ => []
def slots1 : V → List Nat
  | .ifc _ v => slots0 v
  | .fn _ a c => a.flatMap slots0 ++ c.flatMap slots0
  | v => slots0 v
def slots2 : V → List Nat
  | .agg l => l.flatMap slots1
  | v => slots1 v
def slots3 : V → List Nat
  | .tup l => l.flatMap slots2
  | .ifc _ v => slots2 v
  | .pan (.ifc _ v) => slots2 v
  | v => slots2 v
def slotsOb (plain : Bool) (ob : Ob) : List Nat :=
  bif plain then [] else match ob with
  | .arr _ es => es.flatMap slots2
  | .map es _ => es.flatMap fun e => slots2 e.2.1
def inL (n : Nat) : List Nat → Bool
  | [] => false
  | x :: l => Nat.beq x n || inL n l
def reach (X : Hp) : Nat → List Nat → List Nat → List Nat
  | 0, _, acc => acc
  | _, [], acc => acc
  | k + 1, s :: todo, acc => bif inL s acc then reach X k todo acc else match X.ent s with
    | some (_, ob) => reach X k (slotsOb (getP X.pl s) ob ++ todo) (acc ++ [s])
    | none => reach X k todo acc
def idxL (n : Nat) : List Nat → Option Nat
  | [] => none
  | x :: l => bif Nat.beq x n then some 0 else (idxL n l).map (· + 1)

/-- Into the callee's heap. -/
def subρ (X : Hp) (S : List Nat) : Rn := fun slot st => bif (X.at slot st).isSome then (idxL slot S).map fun i => (i, i) else none
def Hp.sub (X : Hp) (S : List Nat) : Hp := mkHp S.length 0 S.length (fun i => match S[i]? with
  | some s => match X.ent s with
    | some (_, ob) => (renOb (subρ X S) (getP X.pl s) ob).map fun ob => (i, ob)
    | none => none
  | none => none) (fun i => match S[i]? with | some s => getP X.pl s | none => true)

/-- And back. X: the caller's heap; an object that was not moved keeps its stamp. -/
def bckS (X : Hp) (S : List Nat) (j st : Nat) : Nat :=
  match S[j]? with
  | some s => bif Nat.beq st j then (match X.ent s with | some (st0, _) => st0 | none => X.clock + 1 + j) else X.clock + 1 + j
  | none => X.clock + 1 + j
def bckN (X : Hp) (S : List Nat) (j : Nat) : Nat :=
  match S[j]? with
  | some s => s
  | none => X.obs.length + (j - S.length)
def bckρ (X : Hp) (S : List Nat) (X1 : Hp) : Rn := fun j st => bif (X1.at j st).isSome then some (bckN X S j, bckS X S j st) else none
/-- Where a slot of the caller's heap comes from. -/
def bckI (X : Hp) (S : List Nat) (s : Nat) : Option Nat :=
  match idxL s S with
  | some j => some j
  | none => bif Nat.blt s X.obs.length then none else some (S.length + (s - X.obs.length))
def Hp.merge (X : Hp) (S : List Nat) (X1 : Hp) : Hp := mkHp (X.clock + 1 + X1.obs.length) (X.ep + 1) (X.obs.length + (X1.obs.length - S.length)) (fun s => match bckI X S s with
  | some j => match X1.ent j with
    | some (st, ob) => (renOb (bckρ X S X1) (getP X1.pl j) ob).map fun ob => (bckS X S j st, ob)
    | none => none
  | none => X.ent s) (fun s => match bckI X S s with | some j => getP X1.pl j | none => getP X.pl s)

def noDupN : List Nat → Bool
  | [] => true
  | x :: l => !inL x l && noDupN l

/-- An answer with stamps that are the slots. -/
def canR (n : Nat) (r : V × Hp) : V × Hp := (ren (canρ n r.2) r.1, r.2.can n)
/-- A call of a function that writes what its arguments reach, or gives back new memory. -/
def callL (w : Cl3) (f : Nat) (as : List V) (X : Hp) : Option (V × Hp) :=
  let S := reach X 100 (as.flatMap slots3) []
  bif noDupN S && S.all (fun s => (X.ent s).isSome) then
    bnd (w f (as.map (ren (subρ X S))) (X.sub S)) fun r => some (ren (bckρ X S (canR S.length r).2) (canR S.length r).1, X.merge S (canR S.length r).2)
  else none

/-- Calls: of functions that leave memory as it is, on what their arguments read; of others, on the objects that their arguments reach. -/
def call3 (pu : Nat → Bool) (w : Cl3) : Cl3 := fun f as H =>
  bif pu f then
    bnd (snL (snap H deep) as) fun r => bnd (w f r.1 .emp) fun x => some (x.1, bif flat x.1 then H else H.frz r.2)
  else callL w f as H

/-- A function's call: of those that leave memory as it is, the answer by content. -/
def fun3 (pu : Bool) (r : Option (V × Hp)) : Option (V × Hp) :=
  bif pu then bnd r fun x => bnd (snapP x.2 deep x.1) fun y => some (y.1, .emp) else r

/-- slices.Clone, whatever its elements are. -/
def cloneFn (e esz bytes : Nat) : Fn3 := ⟨[.tmp 2],
  .seq (.region 0 [⟨0, some 2, none, .mv (.c (.slice none 0 0)), [], false⟩])
  (.seq (.seq (.region 0 [⟨0, some 3, none, .mv (.t 0), [], false⟩,
    ⟨1, some 4, none, .bin .eql .slc (.t 3) (.c (.slice none 0 0)), [], false⟩])
  (.cond (.t 4)
   (.seq (.region 0 [⟨0, some 2, none, .mv (.c (.slice none 0 0)), [], false⟩])
   .ret)
   .skip))
  (.seq (.region 2 [⟨0, some 5, none, .bslice 0 e esz 0 [] [], [], false⟩,
    ⟨1, some 6, none, .mv (.t 0), [], false⟩,
    ⟨2, some 7, none, .append 1 e esz bytes false (.t 5) (.t 6), [], false⟩,
    ⟨3, some 2, none, .mv (.t 7), [], false⟩])
  .ret)), none, none⟩

/-- Of an empty slice the copy is empty, be it nil or not. -/
def cl0 (c : Bool) : List V → Bool
  | [.sl _ []] => c
  | _ => false

def evF3 (G : Gl) (pu ovd cln : Nat → Bool) (ov : Nat → List V → Option V) (Γ : Nat → Option Fn3) : Nat → Cl3
  | 0, _, _, _ => none
  | k + 1, f, args, H => bif ovd f then bnd (ov f args) fun v => some (v, H)
    else bif cl0 (cln f) args then some (.sl true [], H)
    else fun3 (pu f) (evB3 G (call3 pu (evF3 G pu ovd cln ov Γ k)) (iter3 (some H.obs.length) k) (iter3 none k) Γ f args H)

end Go.Proofs.YtapkmhneneffdaaGreatDoor.M3

/-! The text ZaeC. -/
namespace Go.Proofs.YtapkmhneneffdaaGreatDoor.M3
open Go Go.Proofs.YtapkmhneneffdaaGreatDoor.Mx

/-- Where an object of the third machine lies in the second one's heap. -/
structure L3 where
  o : Nat
  base : Nat
  esz : Nat
  tot : Nat

abbrev Al := Nat → Option L3
abbrev Fz := Nat → Option Mx.Ob

def toK : V → Value → Prop
  | .agg l, .agg c => l.map toS = c.toList.map some
  | v, u => toS v = some u

/-- Values by content, and what they are in a heap of which Φ never changes. -/
inductive RC (Φ : Fz) : V → Value → Prop
  | b (x : Bool) : RC Φ (.b x) (.bool x)
  | i (k : IntKind) (n : Int) : RC Φ (.i k n) (.int k n)
  | s (x : ByteArray) : RC Φ (.s x) (.string x)
  | np : RC Φ .np (.pointer none)
  | nf : RC Φ .nf .nilFunc
  | ni : RC Φ .ni .nilIface
  | nm : RC Φ .nm (.map none)
  | agg (l : List V) (c : Array Value) (h : l.length = c.size) (g : ∀ i (h : i < l.length) (h' : i < c.size), RC Φ l[i] c[i]) : RC Φ (.agg l) (.agg c)
  | tup (l : List V) (c : Array Value) (h : l.length = c.size) (g : ∀ i (h : i < l.length) (h' : i < c.size), RC Φ l[i] c[i]) : RC Φ (.tup l) (.tuple c)
  | fn (n : Nat) (f c : List V) (f' c' : Array Value) (hf : f.length = f'.size) (hc : c.length = c'.size) (gf : ∀ i (h : i < f.length) (h' : i < f'.size), RC Φ f[i] f'[i])
      (gc : ∀ i (h : i < c.length) (h' : i < c'.size), RC Φ c[i] c'[i]) : RC Φ (.fn n f c) (.func (.func n) f' c')
  | ifc (t : TypeId) (v : V) (u : Value) (h : RC Φ v u) : RC Φ (.ifc t v) (.iface t u)
  | nil (ex : Bool) : RC Φ (.sl ex []) (.slice none 0 0)
  | emp (ex : Bool) (o off m cap : Nat) (h : ex = true → m % 2 = 1 ∧ cap = 0) : RC Φ (.sl ex []) (.slice (some ⟨o, off, some m⟩) 0 cap)
  | sl (ex : Bool) (l : List V) (o off m cap esz : Nat) (e : TypeId) (ro : Bool) (cs : List Value) (hΦ : Φ o = some (.cells e ro cs)) (hex : ex = true → m % 2 = 1 ∧ cap = l.length) (hcap : l.length ≤ cap) (hm : m = 1 ∨ m / 2 = esz)
      (hlen : off + l.length * esz ≤ cs.length) (hE : ∀ (i : Nat) (v : V), l[i]? = some v → v.cells.length = esz ∧ v.cells.all okC = true)
      (hR : ∀ (i j : Nat) (v c : V) (u : Value), l[i]? = some v → v.cells[j]? = some c → cs[off + i * esz + j]? = some u → RC Φ c u) : RC Φ (.sl ex l) (.slice (some ⟨o, off, some m⟩) l.length cap)
  | pe (v : V) (off o a : Nat) (e : TypeId) (ro : Bool) (cs : List Value) (hΦ : Φ o = some (.cells e ro cs)) (hlen : a + v.cells.length ≤ cs.length) (hok : v.cells.all okC = true)
      (hR : ∀ (j : Nat) (c : V) (u : Value), v.cells[j]? = some c → cs[a + j]? = some u → RC Φ c u) : RC Φ (.pe v off) (.pointer (some ⟨o, a + off, none⟩))
  | mc (es : Ents) (c id : Nat) (es' : Entries) (hΦ : Φ id = some (.map es' c)) (hl : es.length = es'.length) (hk : ∀ (i : Nat) (k v : V) (b : Nat) (k' v' : Value) (b' : Nat), es[i]? = some (k, v, b) → es'[i]? = some (k', v', b') → toK k k' ∧ b = b')
      (hR : ∀ (i : Nat) (k v : V) (b : Nat) (k' v' : Value) (b' : Nat), es[i]? = some (k, v, b) → es'[i]? = some (k', v', b') → RC Φ v v') : RC Φ (.mc es c) (.map (some id))

/-- Values, with places in the heap. -/
inductive R (α : Al) (Φ : Fz) : V → Value → Prop
  | con {v : V} {u : Value} (h : RC Φ v u) : R α Φ v u
  | junk (u : Value) : R α Φ .junk u
  | agg (l : List V) (c : Array Value) (h : l.length = c.size) (g : ∀ i (h : i < l.length) (h' : i < c.size), R α Φ l[i] c[i]) : R α Φ (.agg l) (.agg c)
  | tup (l : List V) (c : Array Value) (h : l.length = c.size) (g : ∀ i (h : i < l.length) (h' : i < c.size), R α Φ l[i] c[i]) : R α Φ (.tup l) (.tuple c)
  | fn (n : Nat) (f c : List V) (f' c' : Array Value) (hf : f.length = f'.size) (hc : c.length = c'.size) (gf : ∀ i (h : i < f.length) (h' : i < f'.size), R α Φ f[i] f'[i])
      (gc : ∀ i (h : i < c.length) (h' : i < c'.size), R α Φ c[i] c'[i]) : R α Φ (.fn n f c) (.func (.func n) f' c')
  | ifc (t : TypeId) (v : V) (u : Value) (h : R α Φ v u) : R α Φ (.ifc t v) (.iface t u)
  | pan (v : V) (u : Value) (h : R α Φ v u) : R α Φ (.pan v) (Mx.pan u)
  | pr (slot st idx off : Nat) (L : L3) (h : α st = some L) : R α Φ (.pr slot st idx off) (.pointer (some ⟨L.o, L.base + idx * L.esz + off, none⟩))
  | sr (slot st off len : Nat) (ex : Bool) (L : L3) (m cap : Nat) (h : α st = some L) (hex : ex = true → m % 2 = 1 ∧ cap = len) (hcap : len ≤ cap) (hm : m = 1 ∨ m / 2 = L.esz) (hb : L.base + (off + cap) * L.esz ≤ L.tot) :
      R α Φ (.sr slot st off len ex) (.slice (some ⟨L.o, L.base + off * L.esz, some m⟩) len cap)
  | mr (slot st : Nat) (L : L3) (h : α st = some L) : R α Φ (.mr slot st) (.map (some L.o))

def Al.le (α α' : Al) : Prop := ∀ s l, α s = some l → α' s = some l
def Fz.le (Φ Φ' : Fz) : Prop := ∀ o x, Φ o = some x → Φ' o = some x
theorem Al.le_refl (α : Al) : α.le α := fun _ _ h => h
theorem Fz.le_refl (Φ : Fz) : Φ.le Φ := fun _ _ h => h
theorem Al.le_trans {a b c : Al} (h : a.le b) (h' : b.le c) : a.le c := fun _ _ g => h' _ _ (h _ _ g)
theorem Fz.le_trans {a b c : Fz} (h : a.le b) (h' : b.le c) : a.le c := fun _ _ g => h' _ _ (h _ _ g)

theorem RC.mono {Φ Φ' : Fz} (hb : Φ.le Φ') {v : V} {u : Value} (h : RC Φ v u) : RC Φ' v u := by
  induction h with
  | b x => exact .b x
  | i k n => exact .i k n
  | s x => exact .s x
  | np => exact .np
  | nf => exact .nf
  | ni => exact .ni
  | nm => exact .nm
  | agg l c h _ ih => exact .agg l c h ih
  | tup l c h _ ih => exact .tup l c h ih
  | fn n f c f' c' hf hc _ _ i1 i2 => exact .fn n f c f' c' hf hc i1 i2
  | ifc t v u _ ih => exact .ifc t v u ih
  | nil ex => exact .nil ex
  | emp ex o off m cap h => exact .emp ex o off m cap h
  | sl ex l o off m cap esz e ro cs hΦ hex hcap hm hlen hE _ ih => exact .sl ex l o off m cap esz e ro cs (hb _ _ hΦ) hex hcap hm hlen hE ih
  | pe v off o a e ro cs hΦ hlen hok _ ih => exact .pe v off o a e ro cs (hb _ _ hΦ) hlen hok ih
  | mc es c id es' hΦ hl hk _ ih => exact .mc es c id es' (hb _ _ hΦ) hl hk ih

theorem R.mono {α α' : Al} {Φ Φ' : Fz} (ha : α.le α') (hb : Φ.le Φ') {v : V} {u : Value} (h : R α Φ v u) : R α' Φ' v u := by
  induction h with
  | con h => exact .con (h.mono hb)
  | junk u => exact .junk u
  | agg l c h _ ih => exact .agg l c h ih
  | tup l c h _ ih => exact .tup l c h ih
  | fn n f c f' c' hf hc _ _ i1 i2 => exact .fn n f c f' c' hf hc i1 i2
  | ifc t v u _ ih => exact .ifc t v u ih
  | pan v u _ ih => exact .pan v u ih
  | pr slot st idx off L h => exact .pr slot st idx off L (ha _ _ h)
  | sr slot st off len ex L m cap h hex hcap hm hb' => exact .sr slot st off len ex L m cap (ha _ _ h) hex hcap hm hb'
  | mr slot st L h => exact .mr slot st L (ha _ _ h)

/-! ### lists -/
def Rs (α : Al) (Φ : Fz) (l : List V) (l' : List Value) : Prop := l.length = l'.length ∧ ∀ (i : Nat) (v : V), l[i]? = some v → ∃ u, l'[i]? = some u ∧ R α Φ v u
def RCs (Φ : Fz) (l : List V) (l' : List Value) : Prop := l.length = l'.length ∧ ∀ (i : Nat) (v : V), l[i]? = some v → ∃ u, l'[i]? = some u ∧ RC Φ v u

theorem Rs.mono {α α' : Al} {Φ Φ' : Fz} (ha : α.le α') (hb : Φ.le Φ') {l : List V} {l' : List Value} (h : Rs α Φ l l') : Rs α' Φ' l l' :=
  ⟨h.1, fun i v hv => let ⟨u, h1, h2⟩ := h.2 i v hv; ⟨u, h1, h2.mono ha hb⟩⟩
theorem RCs.con {Φ : Fz} {l : List V} {l' : List Value} (h : RCs Φ l l') (α : Al) : Rs α Φ l l' := ⟨h.1, fun i v hv => let ⟨u, h1, h2⟩ := h.2 i v hv; ⟨u, h1, .con h2⟩⟩
theorem Rs.nil (α : Al) (Φ : Fz) : Rs α Φ [] [] := ⟨rfl, fun i v h => by simp at h⟩
theorem Rs.cons {α : Al} {Φ : Fz} {v : V} {u : Value} {l : List V} {l' : List Value} (h : R α Φ v u) (hl : Rs α Φ l l') : Rs α Φ (v :: l) (u :: l') := by
  refine ⟨by simp [hl.1], fun i w hw => ?_⟩
  cases i with
  | zero => simp at hw; subst hw; exact ⟨u, by simp, h⟩
  | succ i => simp at hw; obtain ⟨x, h1, h2⟩ := hl.2 i w hw; exact ⟨x, by simpa using h1, h2⟩
theorem Rs.uncons {α : Al} {Φ : Fz} {v : V} {u : Value} {l : List V} {l' : List Value} (h : Rs α Φ (v :: l) (u :: l')) : R α Φ v u ∧ Rs α Φ l l' := by
  refine ⟨?_, by have := h.1; simpa using this, fun i w hw => ?_⟩
  · obtain ⟨x, h1, h2⟩ := h.2 0 v rfl
    simp at h1; subst h1; exact h2
  · obtain ⟨x, h1, h2⟩ := h.2 (i + 1) w (by simpa using hw)
    exact ⟨x, by simpa using h1, h2⟩
theorem Rs.append {α : Al} {Φ : Fz} {a b : List V} {a' b' : List Value} (h : Rs α Φ a a') (h' : Rs α Φ b b') : Rs α Φ (a ++ b) (a' ++ b') := by
  refine ⟨by simp [h.1, h'.1], fun i u hu => ?_⟩
  by_cases hi : i < a.length
  · rw [List.getElem?_append_left hi] at hu
    obtain ⟨u', h1, h2⟩ := h.2 i u hu
    exact ⟨u', by rw [List.getElem?_append_left (h.1 ▸ hi)]; exact h1, h2⟩
  · rw [List.getElem?_append_right (by omega)] at hu
    obtain ⟨u', h1, h2⟩ := h'.2 _ u hu
    exact ⟨u', by rw [List.getElem?_append_right (by have := h.1; omega), ← h.1]; exact h1, h2⟩
theorem Rs.take {α : Al} {Φ : Fz} {a : List V} {a' : List Value} (h : Rs α Φ a a') (n : Nat) : Rs α Φ (a.take n) (a'.take n) := by
  refine ⟨by simp [h.1], fun i u hu => ?_⟩
  rw [List.getElem?_take] at hu
  split at hu
  · rename_i hi
    obtain ⟨u', h1, h2⟩ := h.2 i u hu
    exact ⟨u', by rw [List.getElem?_take, if_pos hi]; exact h1, h2⟩
  · simp at hu
theorem Rs.drop {α : Al} {Φ : Fz} {a : List V} {a' : List Value} (h : Rs α Φ a a') (n : Nat) : Rs α Φ (a.drop n) (a'.drop n) := by
  refine ⟨by simp [h.1], fun i u hu => ?_⟩
  rw [List.getElem?_drop] at hu
  obtain ⟨u', h1, h2⟩ := h.2 _ u hu
  exact ⟨u', by rw [List.getElem?_drop]; exact h1, h2⟩
theorem Rs.get {α : Al} {Φ : Fz} {a : List V} {a' : List Value} (h : Rs α Φ a a') {i : Nat} {v : V} {u : Value} (hv : a[i]? = some v) (hu : a'[i]? = some u) : R α Φ v u := by
  obtain ⟨x, h1, h2⟩ := h.2 i v hv
  rw [hu] at h1; cases h1; exact h2
theorem Rs.of {α : Al} {Φ : Fz} {a : List V} {a' : List Value} (hl : a.length = a'.length) (h : ∀ (i : Nat) v u, a[i]? = some v → a'[i]? = some u → R α Φ v u) : Rs α Φ a a' := by
  refine ⟨hl, fun i v hv => ?_⟩
  have hi : i < a'.length := by rw [← hl]; exact (List.getElem?_eq_some_iff.1 hv).1
  exact ⟨a'[i], List.getElem?_eq_getElem hi, h i v _ hv (List.getElem?_eq_getElem hi)⟩

theorem rs_of_arr {α : Al} {Φ : Fz} {l : List V} {c : Array Value} (hc : l.length = c.size) (gc : ∀ i (h : i < l.length) (h' : i < c.size), R α Φ l[i] c[i]) : Rs α Φ l c.toList := by
  refine ⟨by simpa using hc, fun i v hv => ?_⟩
  obtain ⟨hi, rfl⟩ := List.getElem?_eq_some_iff.1 hv
  exact ⟨c[i]'(hc ▸ hi), by rw [Array.getElem?_toList]; exact Array.getElem?_eq_some_iff.2 ⟨hc ▸ hi, rfl⟩, gc i hi (hc ▸ hi)⟩
theorem arr_of_rs {α : Al} {Φ : Fz} {l : List V} {c : Array Value} (h : Rs α Φ l c.toList) : l.length = c.size ∧ ∀ i (h : i < l.length) (h' : i < c.size), R α Φ l[i] c[i] := by
  refine ⟨by simpa using h.1, fun i hi hi' => ?_⟩
  exact h.get (List.getElem?_eq_getElem hi) (by rw [Array.getElem?_toList]; exact Array.getElem?_eq_some_iff.2 ⟨hi', rfl⟩)
theorem R.agg' {α : Al} {Φ : Fz} {l : List V} {c : Array Value} (h : Rs α Φ l c.toList) : R α Φ (.agg l) (.agg c) := .agg _ _ (arr_of_rs h).1 (arr_of_rs h).2
theorem R.tup' {α : Al} {Φ : Fz} {l : List V} {c : Array Value} (h : Rs α Φ l c.toList) : R α Φ (.tup l) (.tuple c) := .tup _ _ (arr_of_rs h).1 (arr_of_rs h).2
theorem R.und (α : Al) (Φ : Fz) : R α Φ und undef := .tup' (Rs.nil α Φ)

/-! ### what a value's head tells -/
section
variable {α : Al} {Φ : Fz} {u : Value}
theorem R.inv_b {x : Bool} (h : R α Φ (.b x) u) : u = .bool x := by cases h with | con h => cases h; rfl
theorem R.inv_i {k : IntKind} {n : Int} (h : R α Φ (.i k n) u) : u = .int k n := by cases h with | con h => cases h; rfl
theorem R.inv_s {x : ByteArray} (h : R α Φ (.s x) u) : u = .string x := by cases h with | con h => cases h; rfl
theorem R.inv_np (h : R α Φ .np u) : u = .pointer none := by cases h with | con h => cases h; rfl
theorem R.inv_nf (h : R α Φ .nf u) : u = .nilFunc := by cases h with | con h => cases h; rfl
theorem R.inv_ni (h : R α Φ .ni u) : u = .nilIface := by cases h with | con h => cases h; rfl
theorem R.inv_nm (h : R α Φ .nm u) : u = .map none := by cases h with | con h => cases h; rfl
theorem R.inv_agg {l : List V} (h : R α Φ (.agg l) u) : ∃ c, u = .agg c ∧ Rs α Φ l c.toList := by
  cases h with
  | con h => cases h with | agg _ c hl g => exact ⟨c, rfl, rs_of_arr hl fun i h h' => .con (g i h h')⟩
  | agg _ c hl g => exact ⟨c, rfl, rs_of_arr hl g⟩
theorem R.inv_tup {l : List V} (h : R α Φ (.tup l) u) : ∃ c, u = .tuple c ∧ Rs α Φ l c.toList := by
  cases h with
  | con h => cases h with | tup _ c hl g => exact ⟨c, rfl, rs_of_arr hl fun i h h' => .con (g i h h')⟩
  | tup _ c hl g => exact ⟨c, rfl, rs_of_arr hl g⟩
theorem R.inv_fn {n : Nat} {f c : List V} (h : R α Φ (.fn n f c) u) : ∃ f' c', u = .func (.func n) f' c' ∧ Rs α Φ f f'.toList ∧ Rs α Φ c c'.toList := by
  cases h with
  | con h => cases h with | fn _ _ _ f' c' hf hc gf gc => exact ⟨f', c', rfl, rs_of_arr hf fun i h h' => .con (gf i h h'), rs_of_arr hc fun i h h' => .con (gc i h h')⟩
  | fn _ _ _ f' c' hf hc gf gc => exact ⟨f', c', rfl, rs_of_arr hf gf, rs_of_arr hc gc⟩
theorem R.inv_ifc {t : TypeId} {v : V} (h : R α Φ (.ifc t v) u) : ∃ x, u = .iface t x ∧ R α Φ v x := by
  cases h with
  | con h => cases h with | ifc _ _ x h => exact ⟨x, rfl, .con h⟩
  | ifc _ _ x h => exact ⟨x, rfl, h⟩
theorem R.inv_sl {ex : Bool} {l : List V} (h : R α Φ (.sl ex l) u) : RC Φ (.sl ex l) u := by cases h with | con h => exact h
theorem R.inv_pe {v : V} {off : Nat} (h : R α Φ (.pe v off) u) : RC Φ (.pe v off) u := by cases h with | con h => exact h
theorem R.inv_mc {es : Ents} {c : Nat} (h : R α Φ (.mc es c) u) : RC Φ (.mc es c) u := by cases h with | con h => exact h
theorem R.inv_pr {slot st idx off : Nat} (h : R α Φ (.pr slot st idx off) u) : ∃ L, α st = some L ∧ u = .pointer (some ⟨L.o, L.base + idx * L.esz + off, none⟩) := by
  cases h with
  | con h => cases h
  | pr _ _ _ _ L h => exact ⟨L, h, rfl⟩
theorem R.inv_mr {slot st : Nat} (h : R α Φ (.mr slot st) u) : ∃ L, α st = some L ∧ u = .map (some L.o) := by
  cases h with
  | con h => cases h
  | mr _ _ L h => exact ⟨L, h, rfl⟩
theorem R.inv_sr {slot st off len : Nat} {ex : Bool} (h : R α Φ (.sr slot st off len ex) u) : ∃ L m cap, α st = some L ∧ (ex = true → m % 2 = 1 ∧ cap = len) ∧ len ≤ cap ∧ (m = 1 ∨ m / 2 = L.esz) ∧ L.base + (off + cap) * L.esz ≤ L.tot ∧
    u = .slice (some ⟨L.o, L.base + off * L.esz, some m⟩) len cap := by
  cases h with
  | con h => cases h
  | sr _ _ _ _ _ L m cap h h1 h2 h3 h4 => exact ⟨L, m, cap, h, h1, h2, h3, h4, rfl⟩
theorem R.inv_pan {v : V} (h : R α Φ (.pan v) u) : ∃ x, u = Mx.pan x ∧ R α Φ v x := by
  cases h with
  | con h => cases h
  | pan _ x h => exact ⟨x, rfl, h⟩

/-- Cells. -/
theorem R.cells {v : V} (h : R α Φ v u) (ho : v.cells.all okC = true) : Rs α Φ v.cells u.cells.toList := by
  cases v <;> simp only [V.cells, List.all_cons, List.all_nil, Bool.and_true, okC, Bool.false_eq_true] at ho ⊢ <;> (try (cases ho; done))
  case b => obtain rfl := h.inv_b; exact .cons h (.nil α Φ)
  case i => obtain rfl := h.inv_i; exact .cons h (.nil α Φ)
  case s => obtain rfl := h.inv_s; exact .cons h (.nil α Φ)
  case np => obtain rfl := h.inv_np; exact .cons h (.nil α Φ)
  case nf => obtain rfl := h.inv_nf; exact .cons h (.nil α Φ)
  case ni => obtain rfl := h.inv_ni; exact .cons h (.nil α Φ)
  case nm => obtain rfl := h.inv_nm; exact .cons h (.nil α Φ)
  case agg l => obtain ⟨c, rfl, hc⟩ := h.inv_agg; exact hc
  case fn => obtain ⟨_, _, rfl, _⟩ := h.inv_fn; exact .cons h (.nil α Φ)
  case ifc => obtain ⟨_, rfl, _⟩ := h.inv_ifc; exact .cons h (.nil α Φ)
  case sl => have := h.inv_sl; cases this <;> exact .cons h (.nil α Φ)
  case pe => have := h.inv_pe; cases this; exact .cons h (.nil α Φ)
  case mc => have := h.inv_mc; cases this; exact .cons h (.nil α Φ)
  case pr => obtain ⟨_, _, rfl⟩ := h.inv_pr; exact .cons h (.nil α Φ)
  case sr => obtain ⟨_, _, _, _, _, _, _, _, rfl⟩ := h.inv_sr; exact .cons h (.nil α Φ)
  case mr => obtain ⟨_, _, rfl⟩ := h.inv_mr; exact .cons h (.nil α Φ)

theorem R.okCell {v : V} (h : R α Φ v u) (ho : okC v = true) : Mx.okCell u = true := by
  cases v <;> simp only [okC, Bool.false_eq_true] at ho <;> (try (cases ho; done))
  case b => obtain rfl := h.inv_b; rfl
  case i => obtain rfl := h.inv_i; rfl
  case s => obtain rfl := h.inv_s; rfl
  case np => obtain rfl := h.inv_np; rfl
  case nf => obtain rfl := h.inv_nf; rfl
  case ni => obtain rfl := h.inv_ni; rfl
  case nm => obtain rfl := h.inv_nm; rfl
  case fn => obtain ⟨_, _, rfl, _⟩ := h.inv_fn; rfl
  case ifc => obtain ⟨_, rfl, _⟩ := h.inv_ifc; rfl
  case sl => have := h.inv_sl; cases this <;> rfl
  case pe => have := h.inv_pe; cases this; rfl
  case mc => have := h.inv_mc; cases this; rfl
  case pr => obtain ⟨_, _, rfl⟩ := h.inv_pr; rfl
  case sr => obtain ⟨_, _, _, _, _, _, _, _, rfl⟩ := h.inv_sr; rfl
  case mr => obtain ⟨_, _, rfl⟩ := h.inv_mr; rfl

theorem Rs.okAll {l : List V} {l' : List Value} (h : Rs α Φ l l') (ho : l.all okC = true) : l'.all Mx.okCell = true := by
  rw [List.all_eq_true] at ho ⊢
  intro x hx
  obtain ⟨i, hi, rfl⟩ := List.mem_iff_getElem.1 hx
  have hi' : i < l.length := by rw [h.1]; exact hi
  exact (h.get (List.getElem?_eq_getElem hi') (List.getElem?_eq_getElem hi)).okCell (ho _ (List.getElem_mem _))

theorem R.okAll {v : V} (h : R α Φ v u) (ho : v.cells.all okC = true) : Mx.okAll u = true := (h.cells ho).okAll ho

/-- A call that does not end in a panic. -/
theorem R.noPan {v : V} (h : R α Φ v u) (hj : v ≠ .junk) (ht : ∀ l, v = .tup l → l.all nj = true) (hp : ∀ x, v ≠ .pan x) : isPan u = none := by
  cases hq : isPan u with
  | none => rfl
  | some y =>
    exfalso
    unfold isPan at hq
    split at hq
    · rename_i a
      split at hq
      · rename_i z hz
        cases h with
        | con h =>
          cases h with
          | tup l c hl g =>
            have h0 := (rs_of_arr (α := fun _ => none) hl fun i h h' => .con (g i h h'))
            rw [hz] at h0
            obtain ⟨x, l', rfl⟩ : ∃ x l', l = x :: l' := by
              cases l with
              | nil => have := h0.1; simp at this
              | cons x l' => exact ⟨x, l', rfl⟩
            have := (h0.uncons).1
            have hx := ht _ rfl
            simp only [List.all_cons, Bool.and_eq_true] at hx
            cases this with
            | con h => cases h
            | junk => simp [nj] at hx
        | junk => exact absurd rfl hj
        | tup l c hl g =>
          have h0 := rs_of_arr hl g
          rw [hz] at h0
          obtain ⟨x, l', rfl⟩ : ∃ x l', l = x :: l' := by
            cases l with
            | nil => have := h0.1; simp at this
            | cons x l' => exact ⟨x, l', rfl⟩
          have := (h0.uncons).1
          have hx := ht _ rfl
          simp only [List.all_cons, Bool.and_eq_true] at hx
          cases this with
          | con h => cases h
          | junk => simp [nj] at hx
        | pan x => exact hp _ rfl
      · cases hq
    · cases hq
end

/-! ### values without places -/
section
variable {α : Al} {Φ Φ' : Fz}
theorem rcs_arr {l : List V} {c : Array Value} (h : RCs Φ l c.toList) : l.length = c.size ∧ ∀ i (h : i < l.length) (h' : i < c.size), RC Φ l[i] c[i] := by
  refine ⟨by simpa using h.1, fun i hi hi' => ?_⟩
  obtain ⟨u, h1, h2⟩ := h.2 i l[i] (List.getElem?_eq_getElem hi)
  rw [Array.getElem?_toList, Array.getElem?_eq_getElem hi'] at h1
  cases h1; exact h2

theorem all_RCs {p : V → Bool} (hp : ∀ v u, p v = true → R α Φ v u → RC Φ' v u) {l : List V} {l' : List Value} (h : l.all p = true) (hr : Rs α Φ l l') : RCs Φ' l l' := by
  refine ⟨hr.1, fun i v hv => ?_⟩
  obtain ⟨u, h1, h2⟩ := hr.2 i v hv
  rw [List.all_eq_true] at h
  exact ⟨u, h1, hp v u (h v (List.mem_of_getElem? hv)) h2⟩

theorem noRef0_RC {v : V} {u : Value} (hf : noRef0 v = true) (h : R α Φ v u) : RC Φ v u := by
  cases v <;> simp only [noRef0, Bool.false_eq_true] at hf <;> (try (cases hf; done))
  case fn g a c =>
    cases a <;> cases c <;> simp only [noRef0, Bool.false_eq_true] at hf <;> (try (cases hf; done))
    obtain ⟨f', c', rfl, h1, h2⟩ := h.inv_fn
    have e1 : f' = #[] := by have := h1.1; simpa using this.symm
    have e2 : c' = #[] := by have := h2.1; simpa using this.symm
    subst e1; subst e2
    exact .fn _ _ _ _ _ rfl rfl (fun i h => absurd h (by simp)) (fun i h => absurd h (by simp))
  all_goals (cases h with | con h => exact h)

theorem noRef1_RC {v : V} {u : Value} (hf : noRef1 v = true) (h : R α Φ v u) : RC Φ v u := by
  unfold noRef1 at hf
  split at hf
  · obtain ⟨c, rfl, hc⟩ := h.inv_agg
    have := rcs_arr (all_RCs (fun v u => noRef0_RC) hf hc)
    exact .agg _ _ this.1 this.2
  · obtain ⟨x, rfl, hx⟩ := h.inv_ifc
    exact .ifc _ _ _ (noRef0_RC hf hx)
  · obtain ⟨f', c', rfl, h1, h2⟩ := h.inv_fn
    simp only [Bool.and_eq_true] at hf
    have t1 := rcs_arr (all_RCs (fun v u => noRef0_RC) hf.1 h1)
    have t2 := rcs_arr (all_RCs (fun v u => noRef0_RC) hf.2 h2)
    exact .fn _ _ _ _ _ t1.1 t2.1 t1.2 t2.2
  · exact noRef0_RC hf h

theorem noRef_RC {v : V} {u : Value} (hf : noRef v = true) (h : R α Φ v u) : RC Φ v u := by
  unfold noRef at hf
  split at hf
  · obtain ⟨c, rfl, hc⟩ := h.inv_tup
    have := rcs_arr (all_RCs (fun v u => noRef1_RC) hf hc)
    exact .tup _ _ this.1 this.2
  · obtain ⟨x, rfl, hx⟩ := h.inv_ifc
    exact .ifc _ _ _ (noRef1_RC hf hx)
  · exact noRef1_RC hf h


abbrev noα : Al := fun _ => none

/-- What places mean within objects. -/
def alB (b : Bool) (α : Al) : Al := bif b then noα else α
theorem alB_le {b : Bool} {α : Al} : (alB b α).le α := by
  cases b with
  | true => intro s l h; cases h
  | false => exact Al.le_refl _
theorem alB_mono {b b' : Bool} {α α' : Al} (h : b' = true → b = true) (ha : α.le α') : (alB b α).le (alB b' α') := by
  cases b' with
  | true => rw [h rfl]; exact Al.le_refl _
  | false => exact Al.le_trans alB_le ha

theorem plain_Rs {b : Bool} {l : List V} {l' : List Value} (h : Rs α Φ l l') : Rs (alB (b && l.all noRef0) α) Φ l l' := by
  cases hp : l.all noRef0 with
  | true => exact (all_RCs (fun v u => noRef0_RC) hp h).con _
  | false => rw [Bool.and_false]; exact h
theorem plain_R {b : Bool} {v : V} {u : Value} (h : R α Φ v u) : R (alB (b && noRef1 v) α) Φ v u := by
  cases hp : noRef1 v with
  | true => exact .con (noRef1_RC hp h)
  | false => rw [Bool.and_false]; exact h
theorem alB_l {a b : Bool} {α : Al} : (alB a α).le (alB (a && b) α) := by
  cases a with
  | true => intro s l h; cases h
  | false => exact Al.le_refl _
theorem alB_r {a b : Bool} {α : Al} : (alB b α).le (alB (a && b) α) := by
  cases b with
  | true => intro s l h; cases h
  | false => rw [Bool.and_false]; exact Al.le_refl _
theorem and_l {a b : Bool} (h : (a && b) = true) : a = true := by
  cases a with
  | true => rfl
  | false => cases h
end

/-! ### heaps -/
/-- Entries of a map. -/
def EntsR (α : Al) (Φ : Fz) (es : Ents) (es' : Entries) : Prop :=
  es.length = es'.length ∧ ∀ (i : Nat) (k v : V) (b : Nat) (k' v' : Value) (b' : Nat), es[i]? = some (k, v, b) → es'[i]? = some (k', v', b') → toK k k' ∧ b = b' ∧ R α Φ v v'

def ObR (α : Al) (Φ : Fz) (L : L3) (H : Heap) : Ob → Prop
  | .arr esz es => L.esz = esz ∧ ∃ e cs, H.get L.o = some (.cells e false cs) ∧ cs.length = L.tot ∧ L.base + es.length * esz ≤ L.tot ∧ (∀ (i : Nat) (v : V), es[i]? = some v → v.cells.length = esz ∧ v.cells.all okC = true) ∧
      ∀ (i j : Nat) (v c : V) (u : Value), es[i]? = some v → v.cells[j]? = some c → cs[L.base + i * esz + j]? = some u → R α Φ c u
  | .map es c => ∃ es', H.get L.o = some (.map es' c) ∧ EntsR α Φ es es'

def Live (α : Al) (X : Hp) (o : Nat) : Prop := ∃ (slot st : Nat) (ob : Ob) (L : L3), X.obs[slot]? = some (some (st, ob)) ∧ α st = some L ∧ L.o = o

structure HInv (α : Al) (Φ : Fz) (X : Hp) (H : Heap) : Prop where
  fr : ∀ o x, Φ o = some x → H.get o = some x
  fz : ∀ o x, Φ o = some x → o < H.size ∧ x ≠ .pend
  al : ∀ st L, α st = some L → L.o < H.size ∧ st < X.clock
  ob : ∀ (slot st : Nat) (ob : Ob), X.obs[slot]? = some (some (st, ob)) → ∃ L, α st = some L ∧ Φ L.o = none ∧ ObR (alB (getP X.pl slot) α) Φ L H ob
  ap : ∀ (s s' st st' : Nat) (ob ob' : Ob) (L L' : L3), X.obs[s]? = some (some (st, ob)) → X.obs[s']? = some (some (st', ob')) → α st = some L → α st' = some L' → s ≠ s' → L.o ≠ L'.o

theorem ObR.mono {α α' : Al} {Φ Φ' : Fz} (ha : α.le α') (hb : Φ.le Φ') {L : L3} {H H' : Heap} {ob : Ob} (he : H'.get L.o = H.get L.o) (h : ObR α Φ L H ob) : ObR α' Φ' L H' ob := by
  cases ob with
  | arr esz es =>
    obtain ⟨h1, e, cs, h2, h3, h4, h5, h6⟩ := h
    exact ⟨h1, e, cs, by rw [he]; exact h2, h3, h4, h5, fun i j v c u g1 g2 g3 => (h6 i j v c u g1 g2 g3).mono ha hb⟩
  | map es c =>
    obtain ⟨es', h1, h2, h3⟩ := h
    exact ⟨es', by rw [he]; exact h1, h2, fun i k v b k' v' b' g1 g2 => let ⟨q1, q2, q3⟩ := h3 i k v b k' v' b' g1 g2; ⟨q1, q2, q3.mono ha hb⟩⟩

/-- What becomes of both heaps: t: the number at which the second machine may put a new object. -/
structure Nx (t : Option Nat) (α : Al) (Φ : Fz) (X : Hp) (H : Heap) (α' : Al) (Φ' : Fz) (X' : Hp) (H' : Heap) : Prop where
  la : α.le α'
  lf : Φ.le Φ'
  inv : HInv α' Φ' X' H'
  sz : H.size ≤ H'.size
  ck : X.clock ≤ X'.clock
  keep : ∀ o, o < H.size → t ≠ some o → ¬ Live α X o → H'.get o = H.get o
  lv : ∀ o, Live α' X' o → Live α X o ∨ t = some o ∨ H.size ≤ o
  nf : ∀ o x, Φ' o = some x → Φ o = some x ∨ Live α X o ∨ t = some o ∨ H.size ≤ o
  same : X'.clock = X.clock → ∀ o, o < H.size → t ≠ some o → H'.get o = H.get o
  lvs : X'.clock = X.clock → ∀ o, Live α' X' o → Live α X o
  epm : X.ep ≤ X'.ep
  fzs : X'.ep = X.ep → Φ' = Φ

theorem Nx.refl {t : Option Nat} {α : Al} {Φ : Fz} {X : Hp} {H : Heap} (h : HInv α Φ X H) : Nx t α Φ X H α Φ X H :=
  ⟨Al.le_refl _, Fz.le_refl _, h, Nat.le_refl _, Nat.le_refl _, fun _ _ _ _ => rfl, fun _ h => .inl h, fun _ _ h => .inl h, fun _ _ _ _ => rfl, fun _ _ h => h, Nat.le_refl _, fun _ => rfl⟩

end Go.Proofs.YtapkmhneneffdaaGreatDoor.M3

/-! The text ZaeD. -/
namespace Go.Proofs.YtapkmhneneffdaaGreatDoor.M3
open Go Go.Proofs.YtapkmhneneffdaaGreatDoor.Mx

/-! ### slots -/
theorem allocL_spec : ∀ (l : Obs) (e : Nat × Ob), (allocL l e).2[(allocL l e).1]? = some (some e) ∧ (∀ s, s ≠ (allocL l e).1 → ∀ x, (allocL l e).2[s]? = some (some x) → l[s]? = some (some x)) ∧ (∀ (s : Nat) x, l[s]? = some (some x) → s ≠ (allocL l e).1 ∧ (allocL l e).2[s]? = some (some x))
  | [], e => ⟨rfl, fun s hs x h => by
      cases s with
      | zero => exact absurd rfl hs
      | succ s => simp [allocL] at h, fun s x h => by simp at h⟩
  | none :: l, e => ⟨rfl, fun s hs x h => by
      cases s with
      | zero => exact absurd rfl hs
      | succ s => simpa [allocL] using h, fun s x h => by
      cases s with
      | zero => simp at h
      | succ s => exact ⟨by simp [allocL], by simpa [allocL] using h⟩⟩
  | some y :: l, e => by
    obtain ⟨h1, h2, h3⟩ := allocL_spec l e
    refine ⟨by simpa [allocL] using h1, fun s hs x h => ?_, fun s x h => ?_⟩
    · cases s with
      | zero => simpa [allocL] using h
      | succ s =>
        simp only [allocL, ne_eq, Nat.add_right_cancel_iff] at hs
        exact h2 s hs x (by simpa [allocL] using h)
    · cases s with
      | zero => exact ⟨by simp [allocL], by simpa [allocL] using h⟩
      | succ s =>
        obtain ⟨g1, g2⟩ := h3 s x (by simpa using h)
        exact ⟨by simpa [allocL] using g1, by simpa [allocL] using g2⟩

theorem set_spec {l : Obs} {n s : Nat} {e : Option (Nat × Ob)} {x : Nat × Ob} (h : (l.set n e)[s]? = some (some x)) : (s = n ∧ e = some x) ∨ (s ≠ n ∧ l[s]? = some (some x)) := by
  rw [List.getElem?_set] at h
  split at h
  · rename_i hs
    split at h
    · exact .inl ⟨hs.symm, by simpa using h⟩
    · cases h
  · rename_i hs; exact .inr ⟨fun e => hs e.symm, h⟩

theorem trimL_spec : ∀ (l : Obs) (s : Nat) (x : Nat × Ob), (trimL l)[s]? = some (some x) → l[s]? = some (some x)
  | [], s, x, h => by simp [trimL] at h
  | y :: l, s, x, h => by
    have ih := trimL_spec l
    simp only [trimL] at h
    split at h
    · simp at h
    · cases s with
      | zero => simpa using h
      | succ s => exact ih s x (by simpa using h)

theorem at_some {X : Hp} {slot st : Nat} {ob : Ob} : X.at slot st = some ob ↔ X.obs[slot]? = some (some (st, ob)) := by
  unfold Hp.at
  constructor
  · intro h
    split at h
    · rename_i s o hs
      split at h
      · rename_i e; cases h; rw [hs, e]
      · cases h
    · cases h
  · intro h
    rw [h]; simp

/-! ### the second machine's heap -/
theorem new_put {H : Heap} {id : Nat} (h : H.get id = some .pend) (o : Mx.Ob) : H.new id o = some (H.put id o) := by
  unfold Heap.new; rw [h]

def Al.upd (α : Al) (st : Nat) (L : L3) : Al := fun s => if s = st then some L else α s
theorem Al.le_upd {α : Al} {st : Nat} (L : L3) (h : α st = none) : α.le (α.upd st L) := by
  intro s l hs
  unfold Al.upd
  split
  · rename_i e; subst e; rw [h] at hs; cases hs
  · exact hs
theorem Al.upd_self (α : Al) (st : Nat) (L : L3) : α.upd st L st = some L := by simp [Al.upd]
theorem Al.upd_ne (α : Al) {st s : Nat} (L : L3) (h : s ≠ st) : α.upd st L s = α s := by simp [Al.upd, h]

section
variable {α : Al} {Φ : Fz} {X : Hp} {H : Heap}

theorem HInv.fresh (I : HInv α Φ X H) : α X.clock = none := by
  cases h : α X.clock with
  | none => rfl
  | some L => have := (I.al _ _ h).2; omega

/-- The second machine's object at a pending number is nothing that the third one knows. -/
theorem HInv.pend (I : HInv α Φ X H) {id : Nat} (h : H.get id = some .pend) : Φ id = none ∧ ∀ (slot st : Nat) (ob : Ob) (L : L3), X.obs[slot]? = some (some (st, ob)) → α st = some L → L.o ≠ id := by
  refine ⟨?_, fun slot st ob L h1 h2 e => ?_⟩
  · cases hq : Φ id with
    | none => rfl
    | some x =>
      have := I.fr _ _ hq
      rw [h] at this; cases this
      exact absurd rfl (I.fz _ _ hq).2
  · obtain ⟨L', g1, _, g3⟩ := I.ob slot st ob h1
    rw [h2] at g1; cases g1
    cases ob with
    | arr esz es => obtain ⟨_, _, _, g4, _⟩ := g3; rw [e, h] at g4; cases g4
    | map es c => obtain ⟨_, g4, _⟩ := g3; rw [e, h] at g4; cases g4

theorem Nx.sub {t : Option Nat} (I : HInv α Φ X H) {X' : Hp} (hX : ∀ (s : Nat) x, X'.obs[s]? = some (some x) → X.obs[s]? = some (some x)) (hck : X'.clock = X.clock) (hep : X'.ep = X.ep) (hpl : X'.pl = X.pl) : Nx t α Φ X H α Φ X' H := by
  refine ⟨Al.le_refl _, Fz.le_refl _, ⟨I.fr, I.fz, fun st L h => by rw [hck]; exact I.al st L h, fun slot st ob h => (by rw [hpl]; exact I.ob slot st ob (hX _ _ h)), fun s s' st st' ob ob' L L' h h' => I.ap s s' st st' ob ob' L L' (hX _ _ h) (hX _ _ h')⟩,
    Nat.le_refl _, by rw [hck]; exact Nat.le_refl _, fun _ _ _ _ => rfl, fun o h => ?_, fun _ _ h => .inl h, fun _ _ _ _ => rfl, fun _ o h => ?_, by rw [hep]; exact Nat.le_refl _, fun _ => rfl⟩
  · obtain ⟨slot, st, ob, L, h1, h2, h3⟩ := h
    exact .inl ⟨slot, st, ob, L, hX _ _ h1, h2, h3⟩
  · obtain ⟨slot, st, ob, L, h1, h2, h3⟩ := h
    exact ⟨slot, st, ob, L, hX _ _ h1, h2, h3⟩

/-- One slot is written. -/
theorem Nx.chg {t : Option Nat} (I : HInv α Φ X H) {n st' : Nat} {ob' : Ob} {L' : L3} {α' : Al} {X' : Hp} {H' : Heap} (ht : ∀ id, t = some id → H.get id = some .pend)
    (hX : ∀ (s : Nat) x, X'.obs[s]? = some (some x) → (s = n ∧ x = (st', ob')) ∨ (s ≠ n ∧ X.obs[s]? = some (some x))) (hck : X.clock < X'.clock) (hep : X'.ep = X.ep) (hpl : ∀ s, s ≠ n → getP X'.pl s = getP X.pl s) (hα : (st' = X.clock ∧ α' = α.upd X.clock L') ∨ (α st' = some L' ∧ α' = α))
    (hsz : H'.size = H.size) (hc : ∀ o, t ≠ some o → (∀ (st0 : Nat) (ob0 : Ob) (L0 : L3), X.obs[n]? = some (some (st0, ob0)) → α st0 = some L0 → L0.o ≠ o) → H'.get o = H.get o)
    (ho : (t = some L'.o ∧ L'.o < H.size) ∨ (∃ (st0 : Nat) (ob0 : Ob) (L0 : L3), X.obs[n]? = some (some (st0, ob0)) ∧ α st0 = some L0 ∧ L0.o = L'.o)) (hob : ObR (alB (getP X'.pl n) α') Φ L' H' ob') : Nx t α Φ X H α' Φ X' H' := by
  have la : α.le α' := by
    rcases hα with ⟨_, rfl⟩ | ⟨_, rfl⟩
    · exact Al.le_upd L' I.fresh
    · exact Al.le_refl _
  have hL' : α' st' = some L' := by
    rcases hα with ⟨rfl, rfl⟩ | ⟨h, rfl⟩
    · exact Al.upd_self _ _ _
    · exact h
  have old : ∀ (s st : Nat) (ob : Ob) (L : L3), X.obs[s]? = some (some (st, ob)) → α' st = some L → α st = some L := by
    intro s st ob L h1 h2
    rcases hα with ⟨_, rfl⟩ | ⟨_, rfl⟩
    · obtain ⟨L1, g1, _⟩ := I.ob s st ob h1
      rw [la _ _ g1] at h2
      rw [g1]; exact h2
    · exact h2
  -- the objects of other slots, and what never changes, are as before
  have tne : ∀ o x, H.get o = some x → x ≠ .pend → t ≠ some o := fun o x h hx e => by
    have := ht o e
    rw [h] at this; cases this; exact hx rfl
  have keepΦ : ∀ o x, Φ o = some x → H'.get o = H.get o := fun o x h => hc o (tne o x (I.fr _ _ h) (I.fz _ _ h).2) (fun st0 ob0 L0 h1 h2 e => by
    obtain ⟨L1, g1, g2, _⟩ := I.ob n st0 ob0 h1
    rw [g1] at h2; cases h2
    rw [e, h] at g2; cases g2)
  have obget : ∀ (s st : Nat) (ob : Ob) (L : L3), X.obs[s]? = some (some (st, ob)) → α st = some L → ∃ x, H.get L.o = some x ∧ x ≠ .pend := by
    intro s st ob L h1 h2
    obtain ⟨L1, g1, _, g3⟩ := I.ob s st ob h1
    rw [g1] at h2; cases h2
    cases ob with
    | arr esz es => obtain ⟨_, _, _, g4, _⟩ := g3; exact ⟨_, g4, by simp⟩
    | map es c => obtain ⟨_, g4, _⟩ := g3; exact ⟨_, g4, by simp⟩
  have keepO : ∀ (s st : Nat) (ob : Ob) (L : L3), s ≠ n → X.obs[s]? = some (some (st, ob)) → α st = some L → H'.get L.o = H.get L.o := by
    intro s st ob L hs h1 h2
    obtain ⟨x, hx, hx2⟩ := obget s st ob L h1 h2
    exact hc L.o (tne _ _ hx hx2) (fun st0 ob0 L0 g1 g2 e => I.ap n s st0 st ob0 ob L0 L g1 h1 g2 h2 (fun e => hs e.symm) e)
  have hΦ' : Φ L'.o = none := by
    rcases ho with ⟨h, _⟩ | ⟨st0, ob0, L0, h1, h2, h3⟩
    · exact (I.pend (ht _ h)).1
    · obtain ⟨L1, g1, g2, _⟩ := I.ob n st0 ob0 h1
      rw [g1] at h2; cases h2
      rw [← h3]; exact g2
  have hsz' : L'.o < H.size := by
    rcases ho with ⟨_, h⟩ | ⟨st0, ob0, L0, h1, h2, h3⟩
    · exact h
    · rw [← h3]; exact (I.al _ _ h2).1
  refine ⟨la, Fz.le_refl _, ⟨fun o x h => by rw [keepΦ o x h]; exact I.fr o x h, fun o x h => by rw [hsz]; exact I.fz o x h, fun st L h => ?_, fun slot st ob h => ?_, fun s s' st st1 ob ob1 L L1 h h1 g g1 hne => ?_⟩,
    by rw [hsz]; exact Nat.le_refl _, Nat.le_of_lt hck, fun o h1 h2 h3 => hc o h2 (fun st0 ob0 L0 g1 g2 e => h3 ⟨n, st0, ob0, L0, g1, g2, e⟩), fun o h => ?_, fun o x h => .inl h, fun h => by omega, fun h => by omega, by rw [hep]; exact Nat.le_refl _, fun _ => rfl⟩
  · rw [hsz]
    rcases hα with ⟨rfl, rfl⟩ | ⟨_, rfl⟩
    · by_cases e : st = X.clock
      · subst e; rw [Al.upd_self] at h; cases h; exact ⟨hsz', hck⟩
      · rw [Al.upd_ne _ _ e] at h; have := I.al st L h; exact ⟨this.1, by omega⟩
    · have := I.al st L h; exact ⟨this.1, by omega⟩
  · rcases hX slot _ h with ⟨rfl, e⟩ | ⟨hs, h⟩
    · cases e; exact ⟨L', hL', hΦ', hob⟩
    · obtain ⟨L, g1, g2, g3⟩ := I.ob slot st ob h
      exact ⟨L, la _ _ g1, g2, g3.mono (alB_mono (fun e => by rw [hpl slot hs] at e; exact e) la) (Fz.le_refl _) (keepO slot st ob L hs h g1)⟩
  · -- different objects
    have key : ∀ (s2 st2 : Nat) (ob2 : Ob) (L2 : L3), s2 ≠ n → X.obs[s2]? = some (some (st2, ob2)) → α st2 = some L2 → L'.o ≠ L2.o := by
      intro s2 st2 ob2 L2 hs2 k1 k2 e
      rcases ho with ⟨h, _⟩ | ⟨st0, ob0, L0, q1, q2, q3⟩
      · exact (I.pend (ht _ h)).2 s2 st2 ob2 L2 k1 k2 e.symm
      · exact I.ap n s2 st0 st2 ob0 ob2 L0 L2 q1 k1 q2 k2 (fun e => hs2 e.symm) (q3.trans e)
    rcases hX s _ h with ⟨e1, e2⟩ | ⟨hs, k⟩
    · cases e2
      rw [hL'] at g; cases g
      rcases hX s' _ h1 with ⟨e3, e4⟩ | ⟨hs', k'⟩
      · exact absurd (e1.trans e3.symm) hne
      · exact key s' st1 ob1 L1 hs' k' (old _ _ _ _ k' g1)
    · rcases hX s' _ h1 with ⟨e3, e4⟩ | ⟨hs', k'⟩
      · cases e4
        rw [hL'] at g1; cases g1
        exact fun e => key s st ob L hs k (old _ _ _ _ k g) e.symm
      · exact I.ap s s' st st1 ob ob1 L L1 k k' (old _ _ _ _ k g) (old _ _ _ _ k' g1) hne
  · obtain ⟨slot, st, ob, L, h1, h2, h3⟩ := h
    rcases hX slot _ h1 with ⟨rfl, e⟩ | ⟨hs, h⟩
    · cases e
      rw [hL'] at h2; cases h2
      rcases ho with ⟨h, _⟩ | ⟨st0, ob0, L0, q1, q2, q3⟩
      · exact .inr (.inl (by rw [h, h3]))
      · exact .inl ⟨slot, st0, ob0, L0, q1, q2, q3.trans h3⟩
    · exact .inl ⟨slot, st, ob, L, h, old _ _ _ _ h h2, h3⟩

/-- A new object. -/
theorem Nx.new (I : HInv α Φ X H) {id : Nat} (hp : H.get id = some .pend) (hid : id < H.size) {ob : Ob} {p : Bool} {L : L3} {x : Mx.Ob} (hL : L.o = id) (hob : ObR (alB p (α.upd X.clock L)) Φ L (H.put id x) ob) :
    Nx (some id) α Φ X H (α.upd X.clock L) Φ (X.new ob p).2 (H.put id x) := by
  obtain ⟨h1, h2, h3⟩ := allocL_spec X.obs (X.clock, ob)
  refine Nx.chg I (n := (allocL X.obs (X.clock, ob)).1) (st' := X.clock) (ob' := ob) (L' := L) (fun i h => by cases h; exact hp) (fun s y h => ?_) (by show X.clock < X.clock + 1; omega) rfl (fun s hs => by show getP (setP _ _ _) _ = _; rw [getP_set, if_neg hs]) (.inl ⟨rfl, rfl⟩) rfl (fun o ho _ => by rw [Heap.get_put, if_neg (fun e => ho (by rw [e]))]) (.inl ⟨by rw [hL], by rw [hL]; exact hid⟩) (by have e : getP (X.new ob p).2.pl (allocL X.obs (X.clock, ob)).1 = p := (by show getP (setP _ _ _) _ = _; rw [getP_set, if_pos rfl]); rw [e]; exact hob)
  by_cases hs : s = (allocL X.obs (X.clock, ob)).1
  · refine .inl ⟨hs, ?_⟩
    have h' : (allocL X.obs (X.clock, ob)).2[s]? = some (some y) := h
    rw [hs, h1] at h'
    simpa using h'.symm
  · exact .inr ⟨hs, h2 s hs y h⟩

/-- An object written at its place. -/
theorem Nx.write {t : Option Nat} (I : HInv α Φ X H) {p : Bool} {slot st : Nat} {ob ob' : Ob} {L : L3} {x : Mx.Ob} (ht : ∀ id, t = some id → H.get id = some .pend) (hs : X.at slot st = some ob) (hL : α st = some L) (hob : ObR (alB (getP X.pl slot && p) α) Φ L (H.put L.o x) ob') :
    Nx t α Φ X H α Φ (X.put slot st ob' p) (H.put L.o x) := by
  have hs' := at_some.1 hs
  refine Nx.chg I (n := slot) (st' := st) (ob' := ob') (L' := L) ht (fun s y h => ?_) (by show X.clock < X.clock + 1; omega) rfl (fun s hs => by show getP (setP _ _ _) _ = _; rw [getP_set, if_neg hs]) (.inr ⟨hL, rfl⟩) rfl (fun o _ ho => by rw [Heap.get_put, if_neg (fun e => ho st ob L hs' hL e)]) (.inr ⟨st, ob, L, hs', hL, rfl⟩) (by have e : getP (X.put slot st ob' p).pl slot = (getP X.pl slot && p) := (by show getP (setP _ _ _) _ = _; rw [getP_set, if_pos rfl]); rw [e]; exact hob)
  rcases set_spec h with ⟨h1, h2⟩ | ⟨h1, h2⟩
  · exact .inl ⟨h1, by simpa using h2.symm⟩
  · exact .inr ⟨h1, h2⟩

/-- An object that takes a new stamp. -/
theorem Nx.move {t : Option Nat} (I : HInv α Φ X H) {p : Bool} {slot st : Nat} {ob ob' : Ob} {L L' : L3} {H' : Heap} (ht : ∀ id, t = some id → H.get id = some .pend) (hs : X.at slot st = some ob) (hL : α st = some L) (hsz : H'.size = H.size)
    (hc : ∀ o, t ≠ some o → L.o ≠ o → H'.get o = H.get o) (ho : (t = some L'.o ∧ L'.o < H.size) ∨ L.o = L'.o) (hob : ObR (alB (getP X.pl slot && p) (α.upd X.clock L')) Φ L' H' ob') :
    Nx t α Φ X H (α.upd X.clock L') Φ (X.move slot ob' p) H' := by
  have hs' := at_some.1 hs
  refine Nx.chg I (n := slot) (st' := X.clock) (ob' := ob') (L' := L') ht (fun s y h => ?_) (by show X.clock < X.clock + 1; omega) rfl (fun s hs => by show getP (setP _ _ _) _ = _; rw [getP_set, if_neg hs]) (.inl ⟨rfl, rfl⟩) hsz (fun o h1 h2 => hc o h1 (h2 st ob L hs' hL)) ?_ (by have e : getP (X.move slot ob' p).pl slot = (getP X.pl slot && p) := (by show getP (setP _ _ _) _ = _; rw [getP_set, if_pos rfl]); rw [e]; exact hob)
  · rcases set_spec h with ⟨h1, h2⟩ | ⟨h1, h2⟩
    · exact .inl ⟨h1, by simpa using h2.symm⟩
    · exact .inr ⟨h1, h2⟩
  · rcases ho with h | h
    · exact .inl h
    · exact .inr ⟨st, ob, L, hs', hL, h⟩

theorem Nx.free {t : Option Nat} (I : HInv α Φ X H) (slot st : Nat) : Nx t α Φ X H α Φ (X.free slot st) H := by
  unfold Hp.free
  split
  · refine Nx.sub I (fun s x h => ?_) rfl rfl rfl
    have := trimL_spec _ _ _ h
    rcases set_spec this with ⟨_, h2⟩ | ⟨_, h2⟩
    · cases h2
    · exact h2
  · exact Nx.refl I

end
end Go.Proofs.YtapkmhneneffdaaGreatDoor.M3
