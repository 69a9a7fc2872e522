/- The fast machine's memory operations, code and functions. -/
import Derived.Test.YtiphbdhclldllaaGreatDoorZagB
set_option linter.unusedSimpArgs false
set_option linter.unusedVariables false
namespace Go.Proofs.YtiphbdhclldllaaGreatDoor.M4
open Go Go.Proofs.YtiphbdhclldllaaGreatDoor.Mx

/-! ### operands -/
noncomputable def ro : Opd → Bx (E → (X → Bool) → Bool)
  | .t n => ⟨fun T k => k (Bx.rec (motive := fun _ => _) (fun f => f) (getT n) T)⟩
  | .c v => match enc v with
    | some x => ⟨fun _ k => k x⟩
    | none => ⟨fun _ _ => false⟩
  | .f g => ⟨fun _ k => k (.r 6 (.c (.p 0 g) (.c (.ag .e) (.c (.ag .e) .e))))⟩
  | .gl n => ⟨fun _ k => k (.pt n 0)⟩
noncomputable def rol : List Opd → Bx (E → (X → Bool) → Bool)
  | [] => ⟨fun _ k => k .e⟩
  | o :: l => ⟨fun T k => Bx.rec (motive := fun _ => _) (fun f => f) (ro o) T fun x => force x fun x => Bx.rec (motive := fun _ => _) (fun f => f) (rol l) T fun l => k (.c x l)⟩
noncomputable def rop : Option Opd → Bx (E → (Option X → Bool) → Bool)
  | none => ⟨fun _ k => k none⟩
  | some o => ⟨fun T k => Bx.rec (motive := fun _ => _) (fun f => f) (ro o) T fun x => k (some x)⟩

/-! ### operations on memory -/
noncomputable def pos (n : Nat) (r : Bool) : Bool := Nat.rec (motive := fun _ => Bool) false (fun _ _ => r) n
noncomputable def loadX (agg : Bool) (n : Nat) (a : X) (h : H) (k : X → Bool) : Bool :=
  viewPt a fun id off => H.row h id fun _ _ cs => Bool.rec (motive := fun _ => Bool) (headX (dropX off cs) fun x => force x k) (pos n (takeX n (dropX off cs) fun l _ => k (.ag l))) agg
noncomputable def storeX (n : Nat) (a x : X) (h : H) (k : H → Bool) : Bool :=
  viewPt a fun id off => H.row h id fun el ro cs => Bool.rec (motive := fun _ => Bool) (cellsX x fun vs => okL vs 0 fun m => and4 (Nat.beq m n) (putX off vs cs fun cs' => H.put h id (.cells el false cs') k)) false ro
/-- What a slice holds. -/
noncomputable def rowX (h : H) (esz : Nat) (x : X) (k : Nat → X → Bool) : Bool :=
  viewSl x (fun id off _ len _ => Nat.rec (motive := fun _ => Bool) (k 0 .e) (fun l _ => H.row h id fun _ _ cs => takeX (Nat.mul (Nat.succ l) esz) (dropX off cs) fun c _ => k (Nat.succ l) c) len) (k 0 .e)
/-- Which parts may be stepped over: esz > 0. -/
noncomputable def geX (n : Nat) (l : X) : Bool := Nat.rec (motive := fun _ => X → Bool) (fun _ => true) (fun _ ih l => consX l fun _ l => ih l) n l
noncomputable def appendX (b i el esz bytes : Nat) (pure : Bool) (x y : X) (h : H) (k : X → H → Bool) : Bool :=
  pos esz (rowX h esz y fun n new =>
    viewSl x
      (fun o off ek len cap => Nat.rec (motive := fun _ => Bool) (k x h) (fun _ _ =>
        Bool.rec (motive := fun _ => Bool) false
        (Bool.rec (motive := fun _ => Bool)
          -- no room
          (rowX h esz x fun _ old => Bool.rec (motive := fun _ => Bool) false (appX old new fun cs =>
            nat (Nat.add len n) fun ln => Bool.rec (motive := fun _ => Bool)
              (Bool.rec (motive := fun _ => Bool)
                (okL new 0 fun _ => H.row h o fun el' ro cs' => Bool.rec (motive := fun _ => Bool)
                  (and4 (geX (Nat.add off (Nat.mul len esz)) cs') <| H.new h (Nat.add b i) (.cells el false cs) fun h => H.put h o .dead fun h => k (.sl (Nat.add b i) 0 (Nat.mul 2 esz) ln ln) h) false ro) false pure)
              (H.new h (Nat.add b i) (.cells el false cs) fun h => k (.sl (Nat.add b i) 0 (Nat.mul 2 esz) ln ln) h)
              (Nat.beq (Nat.mod ek 2) 1)) (and4 (Nat.ble (Nat.mul (Nat.add len n) bytes) 70368744177664) (Nat.ble (Nat.add len n) 70368744177664)))
          -- room
          (Bool.rec (motive := fun _ => Bool)
            (okL new 0 fun _ => H.row h o fun el' ro cs => Bool.rec (motive := fun _ => Bool)
              (putX (Nat.add off (Nat.mul len esz)) new cs fun cs' => nat (Nat.add len n) fun ln => H.put h o (.cells el' false cs') fun h => k (.sl o off ek ln cap) h) false ro) false pure)
          (Nat.ble (Nat.add len n) cap))
        (Bool.rec (motive := fun _ => Bool) (Nat.beq ek 1) true (Nat.beq (Nat.div ek 2) esz))) n)
      (Nat.rec (motive := fun _ => Bool) (k x h) (fun _ _ => and4 (and4 (Nat.ble (Nat.mul n bytes) 70368744177664) (Nat.ble n 70368744177664)) (H.new h (Nat.add b i) (.cells el false new) fun h => k (.sl (Nat.add b i) 0 (Nat.mul 2 esz) n n) h)) n))
noncomputable def iaddrX (esz : Nat) (x i : X) (k : X → Bool) : Bool :=
  viewSl x (fun id off _ len _ => viewP i (fun _ n => Bool.rec (motive := fun _ => Bool) false (nat (Nat.add off (Nat.mul n esz)) fun o => k (.pt id o)) (Nat.ble (Nat.succ n) len)) false) false
noncomputable def aaddrX (len esz : Nat) (x i : X) (k : X → Bool) : Bool :=
  viewPt x fun id off => viewP i (fun _ n => Bool.rec (motive := fun _ => Bool) false (nat (Nat.add off (Nat.mul n esz)) fun o => k (.pt id o)) (Nat.ble (Nat.succ n) len)) false
noncomputable def partX (agg : Bool) (l : X) (off n : Nat) (k : X → Bool) : Bool :=
  Bool.rec (motive := fun _ => Bool) (headX (dropX off l) fun x => force x k) (pos n (takeX n (dropX off l) fun c _ => k (.ag c))) agg
noncomputable def aindexX (agg : Bool) (len esz : Nat) (x i : X) (k : X → Bool) : Bool :=
  viewAg x fun l => viewP i (fun _ n => Bool.rec (motive := fun _ => Bool) false (partX agg l (Nat.mul n esz) esz k) (Nat.ble (Nat.succ n) len)) false
noncomputable def fillX (T : E) (ps : List (Nat × Nat × Opd)) : Bx (E → X → (X → Bool) → Bool) :=
  match ps with
  | [] => ⟨fun _ z k => k z⟩
  | (off, size, o) :: ps => ⟨fun T z k => Bx.rec (motive := fun _ => _) (fun f => f) (ro o) T fun z1 => cellsX z1 fun vs => okL vs 0 fun m => and4 (Nat.beq m size) (putX off vs z fun z => Bx.rec (motive := fun _ => _) (fun f => f) (fillX .nil ps) T z k)⟩
noncomputable def repX (n : Nat) (z : X) (k : X → Bool) : Bool :=
  Nat.rec (motive := fun _ => (X → Bool) → Bool) (fun k => k .e) (fun _ ih k => ih fun l => appX z l k) n k
noncomputable def mksliceX (b i el esz bytes : Nat) (z : X) (len cap : X) (h : H) (k : X → H → Bool) : Bool :=
  viewP len (fun _ l => viewP cap (fun _ c => and4 (and4 (Nat.ble l c) (and4 (Nat.ble c 70368744177664) (Nat.ble (Nat.mul c bytes) 70368744177664))) (repX c z fun cs => H.new h (Nat.add b i) (.cells el false cs) fun h => k (.sl (Nat.add b i) 0 (Nat.succ (Nat.mul 2 esz)) l c) h)) false) false

noncomputable def clearX (esz : Nat) (z x : X) (h : H) (k : H → Bool) : Bool :=
  viewSl x (fun o off _ len _ => Nat.rec (motive := fun _ => Bool) (k h) (fun l _ => H.row h o fun el ro cs => Bool.rec (motive := fun _ => Bool) (and4 (lenX z esz) (repX (Nat.succ l) z fun vs => putX off vs cs fun cs' => H.put h o (.cells el false cs') k)) false ro) len) (k h)

/-! ### maps: entries are key, value, born -/
noncomputable def plainX (k : LK) (x : X) : Bool :=
  LK.rec (motive := fun _ => Bool) (viewB x true true) (viewP x (fun _ _ => true) (viewR x 12 (fun _ => tokOk x) (isM x))) (viewR x 5 (fun y => viewP y (fun _ _ => true) false) (viewR x 13 (fun y => consX y fun u v => viewP u (fun _ _ => viewP v (fun _ _ => true) false) false) false)) k
 where
  isM : X → Bool | .m _ _ => true | _ => false
  tokOk : X → Bool | .r _ (.p _ _) => true | _ => false
noncomputable def plainsX (ks : List LK) (l : X) : Bool :=
  List.rec (motive := fun _ => X → Bool) (fun l => lenX l 0) (fun k _ ih l => consX l fun x l => and4 (plainX k x) (ih l)) ks l
noncomputable def keyX (m : EqM) (x : X) : Bool :=
  EqM.rec (motive := fun _ => Bool) (fun k => plainX k x) false false false false (fun l => viewAg x fun a => plainsX l a) false m
/-- Looking for a key: found (value, born), not found. -/
noncomputable def findX (Q : Tk) (m : EqM) (key es : X) (yes : Nat → X → X → Bool) (no : Bool) : Bool :=
  X.rec (motive := fun _ => Nat → Bool) (fun _ _ _ => false) (fun _ _ _ => false) (fun _ _ => false) (fun _ _ _ => false) (fun _ _ _ _ _ _ => false) (fun _ _ _ => false) (fun _ => no)
    (fun a _ _ ih i => viewAg a fun a => consX a fun k' a => consX a fun v a => headX a fun b => viewP b (fun _ _ => eqX Q m key k' (yes i v b) (ih (Nat.succ i))) false) (fun _ _ _ _ => false) es 0
noncomputable def mapRow (h : H) (id : Nat) (k : X → Nat → Bool) : Bool := O.rec (motive := fun _ => Bool) false false false (fun _ _ _ => false) (fun es c => k es c) (h.get id)
noncomputable def entriesX (h : H) (x : X) (k : X → Nat → Bool) : Bool :=
  viewR x 3 (fun _ => k .e 0) (viewR x 4 (fun y => viewP y (fun _ id => mapRow h id k) false) false)
noncomputable def lookupX (Q : Tk) (m : EqM) (zero : X) (ok : Bool) (x i : X) (h : H) (k : X → Bool) : Bool :=
  and4 (keyX m i) (entriesX h x fun es _ => findX Q m i es
    (fun _ v _ => Bool.rec (motive := fun _ => Bool) (k v) (k (.r 0 (.c v (.c (.b true) .e)))) ok)
    (Bool.rec (motive := fun _ => Bool) (k zero) (k (.r 0 (.c zero (.c (.b false) .e)))) ok))
noncomputable def mapsetX (Q : Tk) (m : EqM) (x i v : X) (h : H) (k : H → Bool) : Bool :=
  and4 (keyX m i) (viewR x 4 (fun y => viewP y (fun _ id => mapRow h id fun es c => findX Q m i es
    (fun n _ _ => setV n es v fun es => H.put h id (.map es c) k)
    (force i fun i => force v fun v => appX es (.c (.ag (.c i (.c v (.c (.p 0 c) .e)))) .e) fun es => H.put h id (.map es (Nat.succ c)) k)) false) false)
 where
  setV (n : Nat) (es v : X) (k : X → Bool) : Bool :=
    Nat.rec (motive := fun _ => X → (X → Bool) → Bool) (fun es k => consX es fun a es => viewAg a fun a => consX a fun k' a => consX a fun _ a => headX a fun b => viewP b (fun _ _ => force v fun v => k (.c (.ag (.c k' (.c v (.c b .e)))) es)) false) (fun _ ih es k => consX es fun a es => ih es fun es => k (.c a es)) n es k
noncomputable def lengthX (l : X) (k : Nat → Bool) : Bool :=
  X.rec (motive := fun _ => (Nat → Bool) → Bool) (fun _ _ _ => false) (fun _ _ _ => false) (fun _ _ => false) (fun _ _ _ => false) (fun _ _ _ _ _ _ => false) (fun _ _ _ => false) (fun k => k 0) (fun _ _ _ il k => il fun n => k (Nat.succ n)) (fun _ _ _ _ => false) l k

/-! ### one operation -/
noncomputable def encLB (l : List Value) (f : X → Bx (Nat → E → H → K → Bool)) : Bx (Nat → E → H → K → Bool) :=
  match encLs l with
  | some z => f z
  | none => ⟨fun _ _ _ _ => false⟩
def convX (k' : IntKind) (x : X) (k : X → Bool) : Bool :=
  match x with
  | .r 12 (.p a i) => bif is64 a && is64 (kN k') then k (.r 12 (.p (kN k') i)) else false
  | x => lift1 (fun v => match v with | .int _ n => some (.int k' (k'.wrap n)) | _ => none) x k
noncomputable def unX (op : UnOp) (x : X) (k : X → Bool) : Bool :=
  match op with
  | .not => viewB x (k (.b false)) (k (.b true))
  | op => lift1 (unV op) x k
def optD : Option X → Option (Option Value)
  | none => some none
  | some x => (d0 x).map some
def lift3 (f : Option Value) (k : X → Bool) : Bool :=
  match f with
  | some v => match enc v with
    | some z => k z
    | none => false
  | none => false
def sliceX (esz : Nat) (x : X) (lo hi mx : Option X) (k : X → Bool) : Bool :=
  match d0 x, optD lo, optD hi, optD mx with
  | some v, some a, some b, some c => lift3 (sliceV esz v a b c) k
  | _, _, _, _ => false
def strsliceX (x : X) (lo hi : Option X) (k : X → Bool) : Bool :=
  match d0 x, optD lo, optD hi with
  | some v, some a, some b => lift3 (strsliceV v a b) k
  | _, _, _ => false
def asliceX (n esz : Nat) (x : X) (lo hi : Option X) (k : X → Bool) : Bool :=
  match d0 x, optD lo, optD hi with
  | some v, some a, some b => lift3 (asliceV n esz v a b) k
  | _, _, _ => false
/-- A list's bytes, packed. -/
noncomputable def packX (l : X) (n v : Nat) (k : Nat → Nat → Bool) : Bool :=
  X.rec (motive := fun _ => Nat → Nat → (Nat → Nat → Bool) → Bool) (fun _ _ _ _ _ => false) (fun _ _ _ _ _ => false) (fun _ _ _ _ => false) (fun _ _ _ _ _ => false) (fun _ _ _ _ _ _ _ _ => false) (fun _ _ _ _ _ => false) (fun n v k => k n v)
    (fun x _ _ il n v k => viewP x (fun a d => and4 (Nat.beq a 4) (and4 (Nat.ble (Nat.succ d) 256) (nat (Nat.add (Nat.mul v 256) d) fun v => il (Nat.succ n) v k))) false) (fun _ _ _ _ _ _ => false) l n v k
noncomputable def b2sX (x : X) (h : H) (k : X → Bool) : Bool := rowX h 1 x fun _ cs => packX cs 0 0 fun n v => k (.r 5 (.p n v))

noncomputable def evX (Q : Tk) (i : I) : Bx (Nat → E → H → K → Bool) :=
  match i with
  | .mv x => ⟨fun _ T h k => Bx.rec (motive := fun _ => _) (fun f => f) (ro x) T fun z1 => force z1 fun v => k v h⟩
  | .const v => ⟨fun _ T h k => Bx.rec (motive := fun _ => _) (fun f => f) (ro (.c v)) T fun z1 => k z1 h⟩
  | .pick c x y => ⟨fun _ T h k => Bx.rec (motive := fun _ => _) (fun f => f) (ro c) T fun z1 => Bx.rec (motive := fun _ => _) (fun f => f) (ro x) T fun z2 => Bx.rec (motive := fun _ => _) (fun f => f) (ro y) T fun z3 => viewB z1 (force z2 fun v => k v h) (force z3 fun v => k v h)⟩
  | .alloc i el zero => encLB zero fun z => ⟨fun b _ h k => H.new h (Nat.add b i) (.cells el false z) fun h => k (.pt (Nat.add b i) 0) h⟩
  | .box i el x => ⟨fun b T h k => Bx.rec (motive := fun _ => _) (fun f => f) (ro x) T fun z1 => cellsX z1 fun vs => okL vs 0 fun _ => H.new h (Nat.add b i) (.cells el false vs) fun h => k (.pt (Nat.add b i) 0) h⟩
  | .build zero ps => encLB zero fun z => ⟨fun _ T h k => Bx.rec (motive := fun _ => _) (fun f => f) (fillX .nil ps) T z fun l => k (.ag l) h⟩
  | .bslice i el esz len zero ps => encLB zero fun z => ⟨fun b T h k => Bx.rec (motive := fun _ => _) (fun f => f) (fillX .nil ps) T z fun l => H.new h (Nat.add b i) (.cells el false l) fun h => k (.sl (Nat.add b i) 0 (Nat.succ (Nat.mul 2 esz)) len len) h⟩
  | .load agg n a => ⟨fun _ T h k => Bx.rec (motive := fun _ => _) (fun f => f) (ro a) T fun z1 => loadX agg n z1 h fun v => k v h⟩
  | .store n a x => ⟨fun _ T h k => Bx.rec (motive := fun _ => _) (fun f => f) (ro a) T fun z1 => Bx.rec (motive := fun _ => _) (fun f => f) (ro x) T fun z2 => storeX n z1 z2 h fun h => k (.r 0 .e) h⟩
  | .nilchk x => ⟨fun _ T h k => Bx.rec (motive := fun _ => _) (fun f => f) (ro x) T fun z1 => nilX z1 fun v => k v h⟩
  | .bin op m x y => ⟨fun _ T h k => Bx.rec (motive := fun _ => _) (fun f => f) (ro x) T fun z1 => Bx.rec (motive := fun _ => _) (fun f => f) (ro y) T fun z2 => Bx.rec (motive := fun _ => _) (fun f => f) (binX Q op m) z1 z2 fun v => k v h⟩
  | .un op x => ⟨fun _ T h k => Bx.rec (motive := fun _ => _) (fun f => f) (ro x) T fun z1 => unX op z1 fun v => k v h⟩
  | .conv k' x => ⟨fun _ T h k => Bx.rec (motive := fun _ => _) (fun f => f) (ro x) T fun z1 => convX k' z1 fun v => k v h⟩
  | .mkfn (.func g) first captured => ⟨fun _ T h k => Bx.rec (motive := fun _ => _) (fun f => f) (rol first) T fun z1 => Bx.rec (motive := fun _ => _) (fun f => f) (rol captured) T fun z2 => k (.r 6 (.c (.p 0 g) (.c (.ag z1) (.c (.ag z2) .e)))) h⟩
  | .mkslice i el esz bytes zero len cap => encLB zero fun z => ⟨fun b T h k => Bx.rec (motive := fun _ => _) (fun f => f) (ro len) T fun z1 => Bx.rec (motive := fun _ => _) (fun f => f) (ro cap) T fun z2 => mksliceX b i el esz bytes z z1 z2 h k⟩
  | .slice esz x lo hi mx => ⟨fun _ T h k => Bx.rec (motive := fun _ => _) (fun f => f) (ro x) T fun z1 => Bx.rec (motive := fun _ => _) (fun f => f) (rop lo) T fun z2 => Bx.rec (motive := fun _ => _) (fun f => f) (rop hi) T fun z3 => Bx.rec (motive := fun _ => _) (fun f => f) (rop mx) T fun z4 => sliceX esz z1 z2 z3 z4 fun v => k v h⟩
  | .strslice x lo hi => ⟨fun _ T h k => Bx.rec (motive := fun _ => _) (fun f => f) (ro x) T fun z1 => Bx.rec (motive := fun _ => _) (fun f => f) (rop lo) T fun z2 => Bx.rec (motive := fun _ => _) (fun f => f) (rop hi) T fun z3 => strsliceX z1 z2 z3 fun v => k v h⟩
  | .faddr off x => ⟨fun _ T h k => Bx.rec (motive := fun _ => _) (fun f => f) (ro x) T fun z1 => viewPt z1 fun id o => nat (Nat.add o off) fun o => k (.pt id o) h⟩
  | .field agg off n x => ⟨fun _ T h k => Bx.rec (motive := fun _ => _) (fun f => f) (ro x) T fun z1 => viewAg z1 fun l => partX agg l off n fun v => k v h⟩
  | .iaddr esz x i => ⟨fun _ T h k => Bx.rec (motive := fun _ => _) (fun f => f) (ro x) T fun z1 => Bx.rec (motive := fun _ => _) (fun f => f) (ro i) T fun z2 => iaddrX esz z1 z2 fun v => k v h⟩
  | .aaddr len esz x i => ⟨fun _ T h k => Bx.rec (motive := fun _ => _) (fun f => f) (ro x) T fun z1 => Bx.rec (motive := fun _ => _) (fun f => f) (ro i) T fun z2 => aaddrX len esz z1 z2 fun v => k v h⟩
  | .aindex agg len esz x i => ⟨fun _ T h k => Bx.rec (motive := fun _ => _) (fun f => f) (ro x) T fun z1 => Bx.rec (motive := fun _ => _) (fun f => f) (ro i) T fun z2 => aindexX agg len esz z1 z2 fun v => k v h⟩
  | .strindex x i => ⟨fun _ T h k => Bx.rec (motive := fun _ => _) (fun f => f) (ro x) T fun z1 => Bx.rec (motive := fun _ => _) (fun f => f) (ro i) T fun z2 => lift2 strindexV z1 z2 fun v => k v h⟩
  | .ext i x => ⟨fun _ T h k => Bx.rec (motive := fun _ => _) (fun f => f) (ro x) T fun z1 => viewR z1 0 (fun l => headX (dropX i l) fun x => force x fun x => k x h) false⟩
  | .len x => ⟨fun _ T h k => Bx.rec (motive := fun _ => _) (fun f => f) (ro x) T fun z1 => viewSl z1 (fun _ _ _ n _ => k (.p 0 n) h) (k (.p 0 0) h)⟩
  | .strlen x => ⟨fun _ T h k => Bx.rec (motive := fun _ => _) (fun f => f) (ro x) T fun z1 => viewR z1 5 (fun y => viewP y (fun l _ => k (.p 0 l) h) false) false⟩
  | .append i el esz bytes pure x y => ⟨fun b T h k => Bx.rec (motive := fun _ => _) (fun f => f) (ro x) T fun z1 => Bx.rec (motive := fun _ => _) (fun f => f) (ro y) T fun z2 => appendX b i el esz bytes pure z1 z2 h k⟩
  | .minmax max x y => ⟨fun _ T h k => Bx.rec (motive := fun _ => _) (fun f => f) (ro x) T fun z1 => Bx.rec (motive := fun _ => _) (fun f => f) (ro y) T fun z2 => lift2 (minmaxV max) z1 z2 fun v => k v h⟩
  | .mkmap i => ⟨fun b _ h k => H.new h (Nat.add b i) (.map .e 0) fun h => k (.r 4 (.p 0 (Nat.add b i))) h⟩
  | .lookup m zero ok x i => match enc zero with
    | some z => ⟨fun _ T h k => Bx.rec (motive := fun _ => _) (fun f => f) (ro x) T fun z1 => Bx.rec (motive := fun _ => _) (fun f => f) (ro i) T fun z2 => lookupX Q m z ok z1 z2 h fun v => k v h⟩
    | none => ⟨fun _ _ _ _ => false⟩
  | .mapset m x i v => ⟨fun _ T h k => Bx.rec (motive := fun _ => _) (fun f => f) (ro x) T fun z1 => Bx.rec (motive := fun _ => _) (fun f => f) (ro i) T fun z2 => Bx.rec (motive := fun _ => _) (fun f => f) (ro v) T fun z3 => mapsetX Q m z1 z2 z3 h fun h => k (.r 0 .e) h⟩
  | .maplen x => ⟨fun _ T h k => Bx.rec (motive := fun _ => _) (fun f => f) (ro x) T fun z1 => entriesX h z1 fun es _ => lengthX es fun n => k (.p 0 n) h⟩
  | .cap x => ⟨fun _ T h k => Bx.rec (motive := fun _ => _) (fun f => f) (ro x) T fun z1 => lift1 capV z1 fun v => k v h⟩
  | .aslice n esz x lo hi => ⟨fun _ T h k => Bx.rec (motive := fun _ => _) (fun f => f) (ro x) T fun z1 => Bx.rec (motive := fun _ => _) (fun f => f) (rop lo) T fun z2 => Bx.rec (motive := fun _ => _) (fun f => f) (rop hi) T fun z3 => asliceX n esz z1 z2 z3 fun v => k v h⟩
  | .b2s x => ⟨fun _ T h k => Bx.rec (motive := fun _ => _) (fun f => f) (ro x) T fun z1 => b2sX z1 h fun v => k v h⟩
  | .mkif t x => ⟨fun _ T h k => Bx.rec (motive := fun _ => _) (fun f => f) (ro x) T fun z1 => k (.r 9 (.c (.p 0 t) (.c z1 .e))) h⟩
  | .tassert t z x => match z with
    | none => ⟨fun _ T h k => Bx.rec (motive := fun _ => _) (fun f => f) (ro x) T fun z1 => viewR z1 9 (fun y => consX y fun u y => viewP u (fun _ t' => headX y fun v => and4 (Nat.beq t' t) (k v h)) false) false⟩
    | some z => match enc z with
      | some z => ⟨fun _ T h k => Bx.rec (motive := fun _ => _) (fun f => f) (ro x) T fun z1 => viewR z1 9 (fun y => consX y fun u y => viewP u (fun _ t' => headX y fun v => Bool.rec (motive := fun _ => Bool) (k (.r 0 (.c z (.c (.b false) .e))) h) (k (.r 0 (.c v (.c (.b true) .e))) h) (Nat.beq t' t)) false)
          (viewR z1 8 (fun _ => k (.r 0 (.c z (.c (.b false) .e))) h) false)⟩
      | none => ⟨fun _ _ _ _ => false⟩
  | .clear esz zero x => encLB zero fun z => ⟨fun _ T h k => Bx.rec (motive := fun _ => _) (fun f => f) (ro x) T fun z1 => clearX esz z z1 h fun h => k (.r 0 .e) h⟩
  | .isnil neg x => ⟨fun _ T h k => Bx.rec (motive := fun _ => _) (fun f => f) (ro x) T fun z1 => viewR z1 8 (fun _ => k (.b (Bool.rec true false neg)) h) (viewR z1 9 (fun y => consX y fun u y => viewP u (fun _ _ => headX y fun _ => k (.b neg) h) false) false)⟩
  | _ => ⟨fun _ _ _ _ => false⟩
 where
  nilX (x : X) (k : X → Bool) : Bool :=
    X.rec (motive := fun _ => Bool) (fun _ _ => false) (fun _ _ => false) (fun _ => false) (fun a n => k (.pt a n)) (fun _ _ _ _ _ => false) (fun _ _ => false) false (fun _ _ _ _ => false) (fun g y _ => viewF (.r g y) fun _ _ _ => k (.r g y)) x

/-! ### regions -/
inductive L where
  | nil
  | hp (i : Nat) (h : H) (l : L)
  | rg (i id off n : Nat) (l : L)
abbrev Cl := Nat → X → H → K → Bool
def xeq : X → X → Bool
  | .p a n, .p b m => Nat.beq a b && Nat.beq n m
  | .m a n, .m b m => Nat.beq a b && Nat.beq n m
  | .b s, .b t => bif s then t else !t
  | .pt i o, .pt i' o' => Nat.beq i i' && Nat.beq o o'
  | .sl i o m l c, .sl i' o' m' l' c' => Nat.beq i i' && Nat.beq o o' && Nat.beq m m' && Nat.beq l l' && Nat.beq c c'
  | .ag l, .ag l' => xeq l l'
  | .e, .e => true
  | .c x l, .c x' l' => xeq x x' && xeq l l'
  | .r g x, .r g' x' => Nat.beq g g' && xeq x x'
  | _, _ => false
/-- Values that are held against each other. -/
def vk : X → Bool
  | .p _ _ | .m _ _ | .b _ | .pt _ _ | .sl _ _ _ _ _ => true
  | .r 1 _ | .r 2 _ | .r 3 _ | .r 7 _ | .r 8 _ | .r 4 (.p _ _) | .r 5 (.p _ _) | .r 12 (.p _ _) | .r 13 (.c (.p _ _) (.p _ _)) => true
  | _ => false
def vkL : X → Bool
  | .e => true
  | .c x l => vk x && vkL l
  | _ => false
def veqX (u v : X) : Bool := xeq u v && (match u with | .ag l => vkL l | u => vk u)
def lfind (i : Nat) : L → Option (H ⊕ (Nat × Nat × Nat))
  | .nil => none
  | .hp j h l => bif Nat.beq j i then some (.inl h) else lfind i l
  | .rg j id off n l => bif Nat.beq j i then some (.inr (id, off, n)) else lfind i l
noncomputable def chk1X (T : E) (i : I) (v : X) (o : Option (H ⊕ (Nat × Nat × Nat))) : Bool :=
  match o with
  | some (.inl h) => match i with
    | .load agg n a => Bx.rec (motive := fun _ => _) (fun f => f) (ro a) T fun z1 => loadX agg n z1 h fun u => veqX u v
    | _ => false
  | some (.inr (id, off, m)) => match i with
    | .load _ _ a => Bx.rec (motive := fun _ => _) (fun f => f) (ro a) T fun z1 => viewPt z1 fun id' _ => !(Nat.beq id id')
    | .store n a _ => Bx.rec (motive := fun _ => _) (fun f => f) (ro a) T fun z1 => viewPt z1 fun id' off' => !(Nat.beq id id') || Nat.ble (off + m) off' || Nat.ble (off' + n) off
    | _ => false
  | none => match i with
    | .store _ _ _ => true
    | .load _ _ _ => true
    | _ => false
noncomputable def chkX (T : E) (l : L) (i : I) (v : X) : List Nat → Bool
  | [] => true
  | c :: cs => and4 (chk1X T i v (lfind c l)) (chkX T l i v cs)
noncomputable def noteX (b idx : Nat) (i : I) : Bx (E → H → L → (L → Bool) → Bool) :=
  match i with
  | .call _ _ => ⟨fun _ h l k => k (.hp idx h l)⟩
  | .alloc n _ _ | .box n _ _ | .bslice n _ _ _ _ _ | .mkslice n _ _ _ _ _ _ | .mkmap n => ⟨fun _ _ l k => k (.rg idx (Nat.add b n) 0 0 l)⟩
  | .load agg n a => ⟨fun T _ l k => Bx.rec (motive := fun _ => _) (fun f => f) (ro a) T fun x => viewPt x fun id off => k (.rg idx id off (Bool.rec 1 n agg) l)⟩
  | _ => ⟨fun _ _ l k => k l⟩

noncomputable def callX (f : Opd) (as : List Opd) : Bx (Cl → E → H → K → Bool) :=
  match f with
  | .f g => ⟨fun cl T h k => Bx.rec (motive := fun _ => _) (fun f => f) (rol as) T fun z1 => cl g z1 h k⟩
  | f => ⟨fun cl T h k => Bx.rec (motive := fun _ => _) (fun f => f) (ro f) T fun z1 => Bx.rec (motive := fun _ => _) (fun f => f) (rol as) T fun z2 => viewF z1 fun g u v => appX z2 v fun l => appX u l fun l => cl g l h k⟩
noncomputable def notPan (x : X) (r : Bool) : Bool := viewR x 14 (fun _ => false) r
noncomputable def opX (Q : Tk) (i : I) : Bx (Cl → Nat → E → H → K → Bool) :=
  match i with
  | .call f as => ⟨fun cl _ T h k => Bx.rec (motive := fun _ => _) (fun f => f) (callX f as) cl T h fun x h => notPan x (k x h)⟩
  | i => ⟨fun _ b T h k => Bx.rec (motive := fun _ => _) (fun f => f) (evX Q i) b T h k⟩
noncomputable def putE : Option Nat → Bx (E → X → (E → Bool) → Bool)
  | some d => ⟨fun T x k => Bx.rec (motive := fun _ => _) (fun f => f) (setT d) T x k⟩
  | none => ⟨fun T _ k => k T⟩

abbrev KS := E → H → L → Bool
noncomputable def insX (Q : Tk) (i : Ins) : Bx (Cl → Nat → E → H → L → KS → Bool) :=
  match i.guard, i.chk, i.lg with
  | none, [], false => ⟨fun cl b T h l k => Bx.rec (motive := fun _ => _) (fun f => f) (opX Q i.op) cl b T h fun x h => Bx.rec (motive := fun _ => _) (fun f => f) (putE i.dst) T x fun T => k T h l⟩
  | none, ch, lg => ⟨fun cl b T h l k => Bx.rec (motive := fun _ => _) (fun f => f) (opX Q i.op) cl b T h fun x h' => and4 (chkX T l i.op x ch) (Bx.rec (motive := fun _ => _) (fun f => f) (putE i.dst) T x fun T' => Bool.rec (motive := fun _ => Bool) (k T' h' l) (Bx.rec (motive := fun _ => _) (fun f => f) (noteX b i.idx i.op) T h l fun l => k T' h' l) lg)⟩
  | some (g, w), ch, lg => ⟨fun cl b T h l k => guardX (Bx.rec (motive := fun _ => _) (fun f => f) (getT g) T) w (Bx.rec (motive := fun _ => _) (fun f => f) (opX Q i.op) cl b T h fun x h' => and4 (chkX T l i.op x ch) (Bx.rec (motive := fun _ => _) (fun f => f) (putE i.dst) T x fun T' => Bool.rec (motive := fun _ => Bool) (k T' h' l) (Bx.rec (motive := fun _ => _) (fun f => f) (noteX b i.idx i.op) T h l fun l => k T' h' l) lg))
      (Bx.rec (motive := fun _ => _) (fun f => f) (putE i.dst) T (.r 0 .e) fun T' => k T' h l)⟩
 where
  guardX (x : X) (w : Bool) (yes no : Bool) : Bool :=
    X.rec (motive := fun _ => Bool) (fun _ _ => false) (fun _ _ => false) (fun t => Bool.rec (Bool.rec yes no w) (Bool.rec no yes w) t) (fun _ _ => false) (fun _ _ _ _ _ => false) (fun _ _ => false) no (fun _ _ _ _ => false) (fun g y _ => Bool.rec (motive := fun _ => Bool) false (lenX y 0 |> and4 <| no) (Nat.beq g 0)) x
noncomputable def seqX (Q : Tk) (l : List Ins) : Bx (Cl → Nat → E → H → L → KS → Bool) :=
  List.rec (motive := fun _ => Bx (Cl → Nat → E → H → L → KS → Bool)) ⟨fun _ _ T h l k => k T h l⟩
    (fun i _ ih => ⟨fun cl b T h l k => Bx.rec (motive := fun _ => _) (fun f => f) (insX Q i) cl b T h l fun T h l => Bx.rec (motive := fun _ => _) (fun f => f) (ih) cl b T h l k⟩) l

/-! ### code -/
inductive Y where
  | exit (id : Nat)
  | ret
  | pan (v : X)
abbrev KN := E → H → Bool
abbrev KY := Y → E → H → Bool
noncomputable def regX (h : H) (na : Nat) (k : Nat → H → Bool) : Bool := H.rec (motive := fun _ => Bool) (fun n f => nat (Nat.add n na) fun m => k n (.mk m f)) h
noncomputable def iterX (body : E → H → KN → KY → Bool) (n : Nat) (T : E) (h : H) (x : KY) : Bool :=
  Nat.rec (motive := fun _ => E → H → Bool) (fun _ _ => false) (fun _ ih T h => body T h ih x) n T h
noncomputable def codeX (Q : Tk) : Cd → Bx (Cl → Nat → E → H → KN → KY → Bool)
  | .skip => ⟨fun _ _ T h k _ => k T h⟩
  | .region na ops => ⟨fun cl _ T h k _ => regX h na fun b h => Bx.rec (motive := fun _ => _) (fun f => f) (seqX Q ops) cl b T h .nil fun T h _ => k T h⟩
  | .seq a b => ⟨fun cl n T h k x => Bx.rec (motive := fun _ => _) (fun f => f) (codeX Q a) cl n T h (fun T h => Bx.rec (motive := fun _ => _) (fun f => f) (codeX Q b) cl n T h k x) x⟩
  | .cond c a b => ⟨fun cl n T h k x => Bx.rec (motive := fun _ => _) (fun f => f) (ro c) T fun z1 => viewB z1 (Bx.rec (motive := fun _ => _) (fun f => f) (codeX Q a) cl n T h k x) (Bx.rec (motive := fun _ => _) (fun f => f) (codeX Q b) cl n T h k x)⟩
  | .block id c => ⟨fun cl n T h k x => Bx.rec (motive := fun _ => _) (fun f => f) (codeX Q c) cl n T h k (fun y T h => Y.rec (motive := fun _ => Bool) (fun id' => Bool.rec (motive := fun _ => Bool) (x (.exit id') T h) (k T h) (Nat.beq id' id)) (x .ret T h) (fun v => x (.pan v) T h) y)⟩
  | .loop c => ⟨fun cl n T h _ x => iterX (fun T h k x => Bx.rec (motive := fun _ => _) (fun f => f) (codeX Q c) cl n T h k x) n T h x⟩
  | .exit id => ⟨fun _ _ T h _ x => x (.exit id) T h⟩
  | .ret => ⟨fun _ _ T h _ x => x .ret T h⟩
  | .callp d f as => ⟨fun cl _ T h k x => Bx.rec (motive := fun _ => _) (fun f => f) (callX f as) cl T h fun v h => viewR v 14 (fun u => x (.pan u) T h) (Bx.rec (motive := fun _ => _) (fun f => f) (putE d) T v fun T => k T h)⟩
  | .panic v => ⟨fun _ _ T h _ x => Bx.rec (motive := fun _ => _) (fun f => f) (ro v) T fun z1 => viewR z1 9 (fun y => consX y fun u z => viewP u (fun _ _ => consX z fun _ z => and4 (lenX z 0) (x (.pan (.r 9 y)) T h)) false) false⟩

/-! ### functions -/
noncomputable def resX (rs : List Res) : Bx (E → H → (X → Bool) → Bool) :=
  match rs with
  | [] => ⟨fun _ _ k => k .e⟩
  | .tmp t :: rs => ⟨fun T h k => Bx.rec (motive := fun _ => _) (fun f => f) (resX rs) T h fun l => force (Bx.rec (motive := fun _ => _) (fun f => f) (getT t) T) fun x => k (.c x l)⟩
  | .cell t agg n :: rs => ⟨fun T h k => Bx.rec (motive := fun _ => _) (fun f => f) (resX rs) T h fun l => loadX agg n (Bx.rec (motive := fun _ => _) (fun f => f) (getT t) T) h fun x => k (.c x l)⟩
noncomputable def packR (rs : List Res) : Bx (E → H → (X → Bool) → Bool) :=
  match rs with
  | [_] => ⟨fun T h k => Bx.rec (motive := fun _ => _) (fun f => f) (resX rs) T h fun l => headX l k⟩
  | rs => ⟨fun T h k => Bx.rec (motive := fun _ => _) (fun f => f) (resX rs) T h fun l => k (.r 0 l)⟩
noncomputable def ofX (l : X) (n : Nat) (T : E) (k : E → Bool) : Bool :=
  X.rec (motive := fun _ => Nat → E → Bool) (fun _ _ _ _ => false) (fun _ _ _ _ => false) (fun _ _ _ => false) (fun _ _ _ _ => false) (fun _ _ _ _ _ _ _ => false) (fun _ _ _ _ => false) (fun _ T => k T)
    (fun x _ _ il n T => force x fun x => Bx.rec (motive := fun _ => _) (fun f => f) (setT n) T x fun T => il (Nat.succ n) T) (fun _ _ _ _ _ => false) l n T
/-- The deferred closure's call. -/
noncomputable def defX (Q : Tk) (Γ : Nat → Option FnI) (cl : Cl) (n : Nat) (c pv : X) (h : H) (k : H → Bool) : Bool :=
  viewF c fun g u v => match Γ g with
    | some gn => match gn.dfr, gn.recv, gn.res with
      | none, some d, [] => appX u v fun l => ofX l 0 .nil fun T => Bx.rec (motive := fun _ => _) (fun f => f) (setT d) T pv fun T => Bx.rec (motive := fun _ => _) (fun f => f) (codeX Q gn.body) cl n T h (fun _ h => k h) (fun y _ h => Y.rec (motive := fun _ => Bool) (fun _ => false) (k h) (fun _ => false) y)
      | _, _, _ => false
    | none => false
noncomputable def fnX (Q : Tk) (Γ : Nat → Option FnI) (f : Nat) : Bx (Cl → Nat → X → H → K → Bool) :=
  match Γ f with
  | none => ⟨fun _ _ _ _ _ => false⟩
  | some fn => match fn.recv with
    | some _ => ⟨fun _ _ _ _ _ => false⟩
    | none => match fn.dfr with
      | none => ⟨fun cl n as h k => ofX as 0 .nil fun T => Bx.rec (motive := fun _ => _) (fun f => f) (codeX Q fn.body) cl n T h (fun T h => Bx.rec (motive := fun _ => _) (fun f => f) (packR fn.res) T h fun x => k x h)
          (fun y T h => Y.rec (motive := fun _ => Bool) (fun _ => false) (Bx.rec (motive := fun _ => _) (fun f => f) (packR fn.res) T h fun x => k x h) (fun v => k (.r 14 v) h) y)⟩
      | some (c, rest) => ⟨fun cl n as h k => ofX as 0 .nil fun T => Bx.rec (motive := fun _ => _) (fun f => f) (codeX Q fn.body) cl n T h (fun T h => Bx.rec (motive := fun _ => _) (fun f => f) (ro c) T fun cv =>
          Bx.rec (motive := fun _ => _) (fun f => f) (codeX Q rest) cl n T h (fun T' h => defX Q Γ cl n cv (.r 8 .e) h fun h => Bx.rec (motive := fun _ => _) (fun f => f) (packR fn.res) T' h fun x => k x h)
            (fun y T' h => Y.rec (motive := fun _ => Bool) (fun _ => false) (defX Q Γ cl n cv (.r 8 .e) h fun h => Bx.rec (motive := fun _ => _) (fun f => f) (packR fn.res) T' h fun x => k x h)
              (fun v => defX Q Γ cl n cv v h fun h => Bx.rec (motive := fun _ => _) (fun f => f) (packR fn.res) T' h fun x => k x h) y)) (fun _ _ _ => false)⟩
/-- ov: what is known of a call: yes with an answer, else no. -/
noncomputable def callF (Q : Tk) (Γ : Nat → Option FnI) (ov : Nat → X → H → K → Bool → Bool) (k : Nat) : Cl :=
  Nat.rec (motive := fun _ => Cl) (fun _ _ _ _ => false) (fun n ih f as h k => ov f as h k (Bx.rec (motive := fun _ => _) (fun f => f) (fnX Q Γ f) ih n as h k)) k
end Go.Proofs.YtiphbdhclldllaaGreatDoor.M4
