/- A part of the proof that the law answers true at every input: the texts ZadF, ZadG, ZadH; no conditions. -/
import Derived.Test.YtapkmhneneffdaaGreatDoorMxA
set_option linter.unusedSimpArgs false
set_option linter.unusedVariables false
set_option linter.constructorNameAsVariable false

/-! The text ZadF. -/
namespace Go.Proofs.YtapkmhneneffdaaGreatDoor.Mx
open Go

section
variable {P : Program} {B0 : Bs} {w0 : World} {β : Emb} {H : Heap} {w : World}

theorem leI_eq (a b : Int) : (!ltI b a) = decide (a ≤ b) := by
  rw [ltI_eq]
  by_cases h : a ≤ b
  · have : ¬ b < a := by omega
    simp [h, this]
  · have : b < a := by omega
    simp [h, this]

theorem intBin_sim {op : BinOp} {k : IntKind} {a b : Int} {v : Value} (h : intBin op k a b = some v) (hns : op ≠ .shl ∧ op ≠ .shr) (t : Nat) :
    (binOp op t (.int k a) (.int k b)).run P w = .ok v w ∧ VR β v v := by
  cases op <;> simp only [intBin] at h
  case shl => exact absurd rfl hns.1
  case shr => exact absurd rfl hns.2
  case quo => split at h <;> cases h; rename_i hb; exact ⟨by simp [binOp, Op.intDiv, hb], .int _ _⟩
  case rem => split at h <;> cases h; rename_i hb; exact ⟨by simp [binOp, Op.intDiv, hb], .int _ _⟩
  case eql => cases h; exact ⟨by rw [eqI_eq]; simp [binOp, Op.intCmp], .bool _⟩
  case neq => cases h; exact ⟨by rw [eqI_eq]; simp [binOp, Op.intCmp, bne], .bool _⟩
  case lss => cases h; exact ⟨by rw [ltI_eq]; simp [binOp, Op.intCmp], .bool _⟩
  case leq => cases h; exact ⟨by rw [leI_eq]; simp [binOp, Op.intCmp], .bool _⟩
  case gtr => cases h; exact ⟨by rw [ltI_eq]; simp [binOp, Op.intCmp], .bool _⟩
  case geq => cases h; exact ⟨by rw [leI_eq]; simp [binOp, Op.intCmp], .bool _⟩
  all_goals (cases h; refine ⟨by simp [binOp, Op.intArith, Op.intBits, Op.intCmp], ?_⟩; exact .int _ _)

theorem strBin_sim {op : BinOp} {a b : ByteArray} {v : Value} (h : strBin op a b = some v) (t : Nat) :
    (binOp op t (.string a) (.string b)).run P w = .ok v w ∧ VR β v v := by
  have hm : IntKind.i64.max = 9223372036854775807 := by decide
  cases op <;> simp only [strBin] at h
  case add =>
    split at h <;> cases h
    rename_i hle
    refine ⟨?_, .str _⟩
    have hn : ¬ (((a.size + b.size : Nat) : Int) > IntKind.i64.max) := by rw [hm]; omega
    simp only [binOp, Op.stringOp]
    rw [if_neg hn]; rfl
  all_goals first
    | (cases h; refine ⟨by simp [binOp, Op.stringOp], ?_⟩; exact .bool _)
    | cases h

theorem guard_ok {op : BinOp} {t : Nat} {ox oy : Operand} {a b : Value} (h1 : a ≠ .nilIface) (h2 : ∀ c, a ≠ .agg c) : (eqGuard op t ox oy a b).run P w = .ok () w := by
  unfold eqGuard
  cases a
  case nilIface => exact absurd rfl h1
  case agg c => exact absurd rfl (h2 c)
  all_goals (cases op <;> rfl)

theorem eqIn_bool {t : Nat} (hu : P.underlying t = some .bool) (d : Nat) (a b : Bool) : (Op.equalIn (d + 1) t (.bool a) (.bool b)).run P w = .ok (a == b) w := by
  simp [Op.equalIn, run_und hu]
theorem eqIn_int {t : Nat} {ik : IntKind} (hu : P.underlying t = some (.int ik)) (d : Nat) (k : IntKind) (a b : Int) : (Op.equalIn (d + 1) t (.int k a) (.int k b)).run P w = .ok (a == b) w := by
  simp [Op.equalIn, run_und hu]
theorem eqIn_str {t : Nat} (hu : P.underlying t = some .string) (d : Nat) (a b : ByteArray) : (Op.equalIn (d + 1) t (.string a) (.string b)).run P w = .ok (a == b) w := by
  simp [Op.equalIn, run_und hu]
theorem eqIn_ptr {t e : Nat} (hu : P.underlying t = some (.pointer e)) (d : Nat) (b : Option Addr) : (Op.equalIn (d + 1) t (.pointer none) (.pointer b)).run P w = .ok b.isNone w := by
  cases b <;> simp [Op.equalIn, run_und hu]
theorem eqIn_ptr2 {t e : Nat} (hu : P.underlying t = some (.pointer e)) (d : Nat) (a : Addr) : (Op.equalIn (d + 1) t (.pointer (some a)) (.pointer none)).run P w = .ok false w := by
  simp [Op.equalIn, run_und hu]
theorem eqIn_ptr3 {t e : Nat} {i : TypeInfo} (hu : P.underlying t = some (.pointer e)) (hi : P.info? e = some i) (d : Nat) (a : Addr) (hr : (a == a) = true) : (Op.equalIn (d + 1) t (.pointer (some a)) (.pointer (some a))).run P w = .ok true w := by
  by_cases h0 : i.size = 0 <;> simp [Op.equalIn, run_und hu, sizeOf, typeInfo, hi, h0, sameAddr]
theorem eqIn_slc {t e : Nat} (hu : P.underlying t = some (.slice e)) (d l c l' c' : Nat) (b : Option Addr) : (Op.equalIn (d + 1) t (.slice none l c) (.slice b l' c')).run P w = .ok b.isNone w := by
  cases b <;> simp [Op.equalIn, run_und hu]
theorem eqIn_slc2 {t e : Nat} (hu : P.underlying t = some (.slice e)) (d l c l' c' : Nat) (a : Addr) : (Op.equalIn (d + 1) t (.slice (some a) l c) (.slice none l' c')).run P w = .ok false w := by
  simp [Op.equalIn, run_und hu]
theorem eqIn_map {t k e : Nat} (hu : P.underlying t = some (.map k e)) (d : Nat) (b : Option Nat) : (Op.equalIn (d + 1) t (.map none) (.map b)).run P w = .ok b.isNone w := by
  cases b <;> simp [Op.equalIn, run_und hu]
theorem eqIn_map2 {t k e : Nat} (hu : P.underlying t = some (.map k e)) (d : Nat) (a : Nat) : (Op.equalIn (d + 1) t (.map (some a)) (.map none)).run P w = .ok false w := by
  simp [Op.equalIn, run_und hu]
theorem eqIn_fnc {t : Nat} {p r : Array TypeId} {v : Bool} (hu : P.underlying t = some (.func p r v)) (d : Nat) : (Op.equalIn (d + 1) t .nilFunc .nilFunc).run P w = .ok true w := by
  simp [Op.equalIn, run_und hu]
theorem eqIn_fnc2 {t : Nat} {p r : Array TypeId} {v : Bool} (hu : P.underlying t = some (.func p r v)) (d : Nat) (f : Fn) (x y : Array Value) : (Op.equalIn (d + 1) t .nilFunc (.func f x y)).run P w = .ok false w := by
  simp [Op.equalIn, run_und hu]
theorem eqIn_fnc3 {t : Nat} {p r : Array TypeId} {v : Bool} (hu : P.underlying t = some (.func p r v)) (d : Nat) (f : Fn) (x y : Array Value) : (Op.equalIn (d + 1) t (.func f x y) .nilFunc).run P w = .ok false w := by
  simp [Op.equalIn, run_und hu]

/-! ### structs and arrays of plain values -/
theorem cellsEq_append : ∀ (l r : List LK) (X Y : List Value) (b : Bool), cellsEq (l ++ r) X Y = some b →
    ∃ b1, cellsEq l X Y = some b1 ∧ (b1 = false → b = false) ∧ (b1 = true → cellsEq r (X.drop l.length) (Y.drop l.length) = some b)
  | [], r, X, Y, b, h => ⟨true, by simp [cellsEq], by simp, fun _ => by simpa using h⟩
  | k :: l, r, [], Y, b, h => by simp [cellsEq] at h
  | k :: l, r, x :: X, [], b, h => by simp [cellsEq] at h
  | k :: l, r, x :: X, y :: Y, b, h => by
    simp only [List.cons_append, cellsEq] at h ⊢
    split at h
    · rename_i e
      obtain ⟨b1, h1, h2, h3⟩ := cellsEq_append l r X Y b h
      exact ⟨b1, h1, h2, fun hb => by simpa using h3 hb⟩
    · rename_i e
      cases h
      exact ⟨false, rfl, fun _ => rfl, fun h => by cases h⟩
    · cases h

theorem cellsEq_take : ∀ (l : List LK) (X Y : List Value) (b : Bool), cellsEq l X Y = some b → cellsEq l (X.take l.length) (Y.take l.length) = some b
  | [], X, Y, b, h => by simpa [cellsEq] using h
  | k :: l, [], Y, b, h => by simp [cellsEq] at h
  | k :: l, x :: X, [], b, h => by simp [cellsEq] at h
  | k :: l, x :: X, y :: Y, b, h => by
    simp only [List.length_cons, List.take_succ_cons, cellsEq] at h ⊢
    split at h
    · exact cellsEq_take l X Y b h
    · exact h
    · cases h

/-- What is told of a type's parts. -/
def PartOk (P : Program) (w : World) (d : Nat) (t : TypeId) (l : List LK) : Prop :=
  sizeOfT P t = some l.length → ∀ (n : Nat) (xs ys : Array Value) (o : Nat) (b : Bool), d ≤ n → cellsEq l (xs.toList.drop o) (ys.toList.drop o) = some b →
    ∃ x y, (part t xs o).run P w = .ok x w ∧ (part t ys o).run P w = .ok y w ∧ (Op.equalIn n t x y).run P w = .ok b w

theorem leaf_part {t : Nat} {d : TypeDesc} {k : LK} (hu : P.underlying t = some d) (hd : aggD d = false)
    (he : ∀ (n : Nat) x y b, leafEq k x y = some b → (Op.equalIn (n + 1) t x y).run P w = .ok b w)  (d0 : Nat) : PartOk P w (d0 + 1) t [k] := by
  intro _ n xs ys o b hn h
  cases hx : xs.toList.drop o with
  | nil => rw [hx] at h; simp [cellsEq] at h
  | cons x X =>
    cases hy : ys.toList.drop o with
    | nil => rw [hx, hy] at h; simp [cellsEq] at h
    | cons y Y =>
      rw [hx, hy] at h
      have gx : xs[o]? = some x := by rw [← Array.getElem?_toList]; have := congrArg (·[0]?) hx; simpa using this
      have gy : ys[o]? = some y := by rw [← Array.getElem?_toList]; have := congrArg (·[0]?) hy; simpa using this
      refine ⟨x, y, by simp [part, run_isAggD hu, hd, gx], by simp [part, run_isAggD hu, hd, gy], ?_⟩
      obtain ⟨m, rfl⟩ : ∃ m, n = m + 1 := ⟨n - 1, by omega⟩
      refine he m x y b ?_
      simp only [cellsEq] at h
      cases hq : leafEq k x y with
      | none => rw [hq] at h; cases h
      | some q => rw [hq] at h; cases q <;> simpa using h

theorem fields_eq {d : Nat} (hp : ∀ t l, plainL P d t = some l → PartOk P w d t l) {n : Nat} (hn : d ≤ n) {xs ys : Array Value} :
    ∀ (fs : List Field) (o : Nat) (r : List LK) (b : Bool), plainF P (plainL P d) fs o = some r → cellsEq r (xs.toList.drop o) (ys.toList.drop o) = some b →
    (forIn (m := Sem) fs ((none, ()) : Option Bool × Unit) (fun f _ =>
      if f.name ≠ "_" then do
        let x ← part f.type xs f.offset
        let y ← part f.type ys f.offset
        let e ← Op.equalIn n f.type x y
        if (!e) = true then pure (ForInStep.done (some false, ())) else pure (ForInStep.yield (none, ()))
      else pure (ForInStep.yield (none, ())))).run P w = .ok (if b then (none, ()) else (some false, ())) w := by
  intro fs
  induction fs with
  | nil => intro o r b h hc; simp only [plainF, Option.some.injEq] at h; subst h; simp only [cellsEq, Option.some.injEq] at hc; subst hc; simp
  | cons f fs ih =>
    intro o r b h hc
    simp only [plainF] at h
    split at h
    case h_2 => cases h
    rename_i l hl
    split at h
    case isFalse => cases h
    rename_i hcond
    obtain ⟨ho, hname, hs⟩ := hcond
    split at h
    case h_2 => cases h
    rename_i r' hr
    cases h
    obtain ⟨b1, h1, h2, h3⟩ := cellsEq_append l r' _ _ b hc
    rw [← ho] at h1
    obtain ⟨x, y, k1, k2, k3⟩ := hp _ _ hl hs n xs ys _ b1 hn h1
    simp only [List.forIn_cons, hname, ne_eq, not_false_eq_true, if_true, Sem.run_bind, k1, Result.andThen_ok, k2, k3]
    cases b1 with
    | false => rw [h2 rfl]; simp
    | true =>
      have h4 := h3 rfl
      simp only [List.drop_drop] at h4
      have := ih (o + l.length) r' b hr h4
      simpa using this

theorem elems_eq {d : Nat} {e : TypeId} {l : List LK} (hp : PartOk P w d e l) (hs : sizeOfT P e = some l.length) {n : Nat} (hn : d ≤ n) {xs ys : Array Value} :
    ∀ (len k : Nat) (b : Bool), cellsEq (List.replicate len l).flatten (xs.toList.drop (k * l.length)) (ys.toList.drop (k * l.length)) = some b →
    (forIn (m := Sem) (List.range' k len) ((none, ()) : Option Bool × Unit) (fun i _ => do
        let x ← part e xs (i * l.length)
        let y ← part e ys (i * l.length)
        let r ← Op.equalIn n e x y
        if (!r) = true then pure (ForInStep.done (some false, ())) else pure (ForInStep.yield (none, ())))).run P w = .ok (if b then (none, ()) else (some false, ())) w := by
  intro len
  induction len with
  | zero => intro k b h; simp only [List.replicate_zero, List.flatten_nil, cellsEq, Option.some.injEq] at h; subst h; simp
  | succ len ih =>
    intro k b h
    rw [List.replicate_succ, List.flatten_cons] at h
    obtain ⟨b1, h1, h2, h3⟩ := cellsEq_append l _ _ _ b h
    obtain ⟨x, y, k1, k2, k3⟩ := hp hs n xs ys _ b1 hn h1
    simp only [List.range'_succ, List.forIn_cons, Sem.run_bind, k1, Result.andThen_ok, k2, k3]
    cases b1 with
    | false => rw [h2 rfl]; simp
    | true =>
      have h4 := h3 rfl
      simp only [List.drop_drop] at h4
      have := ih (k + 1) b (by rw [Nat.add_mul, Nat.one_mul]; exact h4)
      simpa using this

theorem agg_part {d : Nat} {t : TypeId} {l : List LK} {ds : TypeDesc} (hu : P.underlying t = some ds) (hd : aggD ds = true)
    (he : ∀ (n : Nat) (xs ys : Array Value) (b : Bool), d ≤ n → cellsEq l xs.toList ys.toList = some b → (Op.equalIn (n + 1) t (.agg xs) (.agg ys)).run P w = .ok b w) : PartOk P w (d + 1) t l := by
  intro hs n xs ys o b hn h
  refine ⟨.agg (xs.extract o (o + l.length)), .agg (ys.extract o (o + l.length)), by simp [part, run_isAggD hu, hd, run_sizeOfT hs], by simp [part, run_isAggD hu, hd, run_sizeOfT hs], ?_⟩
  obtain ⟨m, rfl⟩ : ∃ m, n = m + 1 := ⟨n - 1, by omega⟩
  refine he m _ _ b (by omega) ?_
  simp only [Array.toList_extract, List.extract_eq_take_drop, Nat.add_sub_cancel_left]
  exact cellsEq_take l _ _ b h

theorem equal_plain : ∀ (d : Nat) (t : TypeId) (l : List LK), plainL P d t = some l → PartOk P w d t l ∧
    ∀ ds, P.underlying t = some ds → aggD ds = true → ∀ (n : Nat) (xs ys : Array Value) (b : Bool), d ≤ n + 1 → cellsEq l xs.toList ys.toList = some b → (Op.equalIn (n + 1) t (.agg xs) (.agg ys)).run P w = .ok b w := by
  intro d
  induction d with
  | zero => intro t l h; simp [plainL] at h
  | succ d ih =>
    intro t l h
    simp only [plainL] at h
    split at h
    · rename_i hu
      cases h
      refine ⟨leaf_part hu rfl (fun n x y b h => ?_) d, fun ds h1 h2 => by rw [hu] at h1; cases h1; cases h2⟩
      cases x <;> cases y <;> simp [leafEq] at h
      subst h; simp [Op.equalIn, run_und hu]
    · rename_i ik hu
      cases h
      refine ⟨leaf_part hu rfl (fun n x y b h => ?_) d, fun ds h1 h2 => by rw [hu] at h1; cases h1; cases h2⟩
      cases x <;> cases y <;> simp [leafEq] at h
      obtain ⟨h1, h2⟩ := h
      subst h1 h2; simp [Op.equalIn, run_und hu]
    · rename_i hu
      cases h
      refine ⟨leaf_part hu rfl (fun n x y b h => ?_) d, fun ds h1 h2 => by rw [hu] at h1; cases h1; cases h2⟩
      cases x <;> cases y <;> simp [leafEq] at h
      subst h; simp [Op.equalIn, run_und hu]
    · rename_i fields hu
      split at h
      · cases h
      rename_i hst
      have main : ∀ (n : Nat) (xs ys : Array Value) (b : Bool), d ≤ n → cellsEq l xs.toList ys.toList = some b → (Op.equalIn (n + 1) t (.agg xs) (.agg ys)).run P w = .ok b w := by
        intro n xs ys b hn hc
        have hst' : P.stoodInHeld t = false := by simpa using hst
        have := fields_eq (fun t l h => (ih t l h).1) hn fields.toList 0 l b h (by simpa using hc) (xs := xs) (ys := ys)
        simp only [Op.equalIn, Sem.run_bind, run_und hu, Result.andThen_ok]
        rw [show (Sem.run P program w) = .ok P w from rfl, Result.andThen_ok, if_neg (by simp [hst']), ← Array.forIn_toList, Sem.run_bind, this]
        cases b <;> rfl
      exact ⟨agg_part hu rfl main, fun ds _ _ n xs ys b hn hc => main n xs ys b (by omega) hc⟩
    · rename_i len e hu
      split at h
      case h_2 => cases h
      rename_i k hk
      split at h
      case isFalse => cases h
      rename_i hs
      cases h
      have main : ∀ (n : Nat) (xs ys : Array Value) (b : Bool), d ≤ n → cellsEq (List.replicate len k).flatten xs.toList ys.toList = some b → (Op.equalIn (n + 1) t (.agg xs) (.agg ys)).run P w = .ok b w := by
        intro n xs ys b hn hc
        have := elems_eq (ih e k hk).1 hs hn len 0 b (by simpa using hc) (xs := xs) (ys := ys)
        simp only [Op.equalIn, Sem.run_bind, run_und hu, Result.andThen_ok, run_sizeOfT hs]
        rw [Std.Legacy.Range.forIn_eq_forIn_range']
        simp only [Std.Legacy.Range.size, Nat.sub_zero, Nat.add_sub_cancel, Nat.div_one]
        rw [this]
        cases b <;> rfl
      exact ⟨agg_part hu rfl main, fun ds _ _ n xs ys b hn hc => main n xs ys b (by omega) hc⟩
    · cases h

theorem guard_agg {op : BinOp} {t : Nat} {ox oy : Operand} {a b : Array Value} (h : P.eqGuardType P.depth t = false) : (eqGuard op t ox oy (.agg a) (.agg b)).run P w = .ok () w := by
  unfold eqGuard
  generalize Op.maxDepth = D
  have key : ∀ s : Sem Unit, Sem.run P (do let p ← program; let q ← program; if (!p.eqGuardType q.depth t) = true then pure () else s) w = .ok () w := by
    intro s
    rw [Sem.run_bind, show (Sem.run P program w) = .ok P w from rfl, Result.andThen_ok, Sem.run_bind, show (Sem.run P program w) = .ok P w from rfl, Result.andThen_ok, if_pos (by rw [h]; rfl)]
    rfl
  cases op
  case eql => exact key _
  case neq => exact key _
  all_goals rfl

theorem vr_agg {β : Emb} {x x' : Value} (h : VR β x x') {cs : Array Value} (hx : x = .agg cs) : ∃ cs', x' = .agg cs' ∧ VRs β cs.toList cs'.toList := by
  subst hx
  cases h with
  | agg _ c' hc gc => exact ⟨c', rfl, vrs_of_arr hc gc⟩

theorem leafEq_vr {β : Emb} {k : LK} {x x' y y' : Value} {b : Bool} (h : leafEq k x y = some b) (hx : VR β x x') (hy : VR β y y') : x' = x ∧ y' = y := by
  cases k <;> cases x <;> cases y <;> simp [leafEq] at h <;> cases hx <;> cases hy <;> exact ⟨rfl, rfl⟩

theorem cellsEq_vr {β : Emb} : ∀ {l : List LK} {X X' Y Y' : List Value} {b : Bool}, cellsEq l X Y = some b → VRs β X X' → VRs β Y Y' → cellsEq l X' Y' = some b
  | [], X, X', Y, Y', b, h, _, _ => by simpa [cellsEq] using h
  | k :: l, [], X', Y, Y', b, h, _, _ => by simp [cellsEq] at h
  | k :: l, x :: X, X', [], Y', b, h, _, _ => by simp [cellsEq] at h
  | k :: l, x :: X, [], y :: Y, Y', b, h, hx, _ => by have := hx.1; simp at this
  | k :: l, x :: X, x' :: X', y :: Y, [], b, h, _, hy => by have := hy.1; simp at this
  | k :: l, x :: X, x' :: X', y :: Y, y' :: Y', b, h, hx, hy => by
    have hx0 : VR β x x' := by obtain ⟨u, h1, h2⟩ := hx.2 0 x rfl; simp at h1; subst h1; exact h2
    have hy0 : VR β y y' := by obtain ⟨u, h1, h2⟩ := hy.2 0 y rfl; simp at h1; subst h1; exact h2
    have hxt : VRs β X X' := ⟨by have := hx.1; simpa using this, fun i u hu => by obtain ⟨u', h1, h2⟩ := hx.2 (i + 1) u (by simpa using hu); exact ⟨u', by simpa using h1, h2⟩⟩
    have hyt : VRs β Y Y' := ⟨by have := hy.1; simpa using this, fun i u hu => by obtain ⟨u', h1, h2⟩ := hy.2 (i + 1) u (by simpa using hu); exact ⟨u', by simpa using h1, h2⟩⟩
    simp only [cellsEq] at h ⊢
    cases hq : leafEq k x y with
    | none => rw [hq] at h; cases h
    | some q =>
      obtain ⟨rfl, rfl⟩ := leafEq_vr hq hx0 hy0
      rw [hq] at h ⊢
      cases q
      · exact h
      · exact cellsEq_vr h hxt hyt

theorem equal_leaf {t : Nat} {k : LK} {x y : Value} {b : Bool} (h : leafEq k x y = some b) (hk : (k = .b → P.underlying t = some .bool) ∧ (k = .i → ∃ ik, P.underlying t = some (.int ik)) ∧ (k = .s → P.underlying t = some .string)) :
    (Op.equal t x y).run P w = .ok b w := by
  cases k <;> cases x <;> cases y <;> simp [leafEq] at h
  · subst h; exact eqIn_bool (hk.1 rfl) 9999 _ _
  · obtain ⟨ik, hu⟩ := hk.2.1 rfl
    obtain ⟨h1, h2⟩ := h
    subst h1 h2; exact eqIn_int hu 9999 _ _ _
  · subst h; exact eqIn_str (hk.2.2 rfl) 9999 _ _

theorem guard_leaf {op : BinOp} {t : Nat} {ox oy : Operand} {k : LK} {x y : Value} {b : Bool} (h : leafEq k x y = some b) : (eqGuard op t ox oy x y).run P w = .ok () w := by
  refine guard_ok ?_ ?_ <;> cases k <;> cases x <;> cases y <;> simp [leafEq] at h <;> simp

/-- What the mode says of the type. -/
theorem eqMode_leaf {t : Nat} {k : LK} (h : eqMode P t = .lf k) : (k = .b → P.underlying t = some .bool) ∧ (k = .i → ∃ ik, P.underlying t = some (.int ik)) ∧ (k = .s → P.underlying t = some .string) := by
  unfold eqMode at h
  split at h
  case h_4 => rename_i e _; rcases ptrM_or P e with ⟨q, _⟩ | q <;> rw [q] at h <;> cases h
  case h_8 | h_9 => split at h <;> (try (cases h; done)); split at h <;> cases h
  all_goals first
    | (cases h; done)
    | (rename_i hu; cases h; exact ⟨nofun, nofun, fun _ => hu⟩)
    | (rename_i hu; cases h; exact ⟨fun _ => hu, nofun, nofun⟩)
    | (rename_i hu; cases h; exact ⟨nofun, fun _ => ⟨_, hu⟩, nofun⟩)

theorem eqMode_cells {t : Nat} {l : List LK} (h : eqMode P t = .cells l) : P.eqGuardType P.depth t = false ∧ plainL P 40 t = some l ∧ ∃ d, P.underlying t = some d ∧ aggD d = true := by
  unfold eqMode at h
  split at h
  case h_4 => rename_i e _; rcases ptrM_or P e with ⟨q, _⟩ | q <;> rw [q] at h <;> cases h
  case h_8 | h_9 =>
    rename_i hu
    split at h
    · cases h
    rename_i hg
    split at h
    · rename_i l' hl; cases h; exact ⟨by simpa using hg, hl, _, hu, rfl⟩
    · cases h
  all_goals cases h

theorem eqBy_sim {t : Nat} {x x' y y' : Value} {b : Bool} (h : eqBy (eqMode P t) x y = some b) (hx : VR β x x') (hy : VR β y y') :
    (Op.equal t x' y').run P w = .ok b w ∧ (∀ op ox oy, (eqGuard op t ox oy x' y').run P w = .ok () w) ∧
      ((∀ k a k' b, x = .int k a → y = .int k' b → False) → (∀ a b, x = .string a → y = .string b → False) → (∀ k n, x' ≠ .int k n) ∧ (∀ s, x' ≠ .string s) ∧ (∀ k n, x' ≠ .float k n) ∧ (∀ k n m, x' ≠ .complex k n m)) := by
  cases hm : eqMode P t with
  | no => rw [hm] at h; cases h
  | lf k =>
    rw [hm] at h
    simp only [eqBy] at h
    obtain ⟨rfl, rfl⟩ := leafEq_vr h hx hy
    refine ⟨equal_leaf h (eqMode_leaf hm), fun _ _ _ => guard_leaf h, fun h1 h2 => ?_⟩
    cases k <;> cases x' <;> cases y' <;> simp [leafEq] at h
    · exact ⟨nofun, nofun, nofun, nofun⟩
    · exact (h1 _ _ _ _ rfl rfl).elim
    · exact (h2 _ _ rfl rfl).elim
  | cells l =>
    rw [hm] at h
    obtain ⟨g1, g2, d, g3, g4⟩ := eqMode_cells hm
    simp only [eqBy, aggEq] at h
    split at h
    case h_2 => cases h
    rename_i xs ys
    split at h
    case isFalse => cases h
    obtain ⟨xs', rfl, k1⟩ := vr_agg hx rfl
    obtain ⟨ys', rfl, k2⟩ := vr_agg hy rfl
    exact ⟨(equal_plain 40 t l g2).2 d g3 g4 9999 xs' ys' b (by omega) (cellsEq_vr h k1 k2), fun _ _ _ => guard_agg g1, fun _ _ => ⟨nofun, nofun, nofun, nofun⟩⟩
  | ptr =>
    rw [hm] at h
    obtain ⟨e, hu, i, hi⟩ : ∃ e, P.underlying t = some (.pointer e) ∧ ∃ i, P.info? e = some i := by
      unfold eqMode at hm
      split at hm
      case h_4 =>
        rename_i e hu
        rcases ptrM_or P e with ⟨_, q⟩ | q
        · exact ⟨e, hu, q⟩
        · rw [q] at hm; cases hm
      case h_8 | h_9 => split at hm <;> (try (cases hm; done)); split at hm <;> cases hm
      all_goals cases hm
    simp only [eqBy, ptrEq] at h
    split at h
    · cases h; cases hx; cases hy <;>
        exact ⟨eqIn_ptr hu 9999 _, fun _ _ _ => guard_ok nofun nofun, fun _ _ => ⟨nofun, nofun, nofun, nofun⟩⟩
    · cases h; cases hx; cases hy
      exact ⟨eqIn_ptr2 hu 9999 _, fun _ _ _ => guard_ok nofun nofun, fun _ _ => ⟨nofun, nofun, nofun, nofun⟩⟩
    · split at h
      case isFalse => cases h
      rename_i hc
      obtain ⟨rfl, rfl⟩ := hc
      cases h
      cases hx with
      | ptr id off l hl =>
        cases hy with
        | ptr id off l' hl' =>
          obtain rfl := Option.some.inj (hl.symm.trans hl')
          exact ⟨eqIn_ptr3 hu hi 9999 _ (by simp), fun _ _ _ => guard_ok nofun nofun, fun _ _ => ⟨nofun, nofun, nofun, nofun⟩⟩
    · cases h
  | slc =>
    rw [hm] at h
    obtain ⟨e, hu⟩ : ∃ e, P.underlying t = some (.slice e) := by
      unfold eqMode at hm
      split at hm
      case h_4 => rename_i e _; rcases ptrM_or P e with ⟨q, _⟩ | q <;> rw [q] at hm <;> cases hm
      case h_8 | h_9 => split at hm <;> (try (cases hm; done)); split at hm <;> cases hm
      all_goals first
        | (cases hm; done)
        | (rename_i hu; exact ⟨_, hu⟩)
    simp only [eqBy, slcEq] at h
    split at h
    · cases h; cases hx; cases hy <;>
        exact ⟨eqIn_slc hu 9999 _ _ _ _ _, fun _ _ _ => guard_ok nofun nofun, fun _ _ => ⟨nofun, nofun, nofun, nofun⟩⟩
    · cases h; cases hx <;> cases hy <;>
        exact ⟨eqIn_slc2 hu 9999 _ _ _ _ _, fun _ _ _ => guard_ok nofun nofun, fun _ _ => ⟨nofun, nofun, nofun, nofun⟩⟩
    · cases h
  | mp =>
    rw [hm] at h
    obtain ⟨k, e, hu⟩ : ∃ k e, P.underlying t = some (.map k e) := by
      unfold eqMode at hm
      split at hm
      case h_4 => rename_i e _; rcases ptrM_or P e with ⟨q, _⟩ | q <;> rw [q] at hm <;> cases hm
      case h_8 | h_9 => split at hm <;> (try (cases hm; done)); split at hm <;> cases hm
      all_goals first
        | (cases hm; done)
        | (rename_i hu; exact ⟨_, _, hu⟩)
    simp only [eqBy, mapEq] at h
    split at h
    · cases h; cases hx; cases hy <;>
        exact ⟨eqIn_map hu 9999 _, fun _ _ _ => guard_ok nofun nofun, fun _ _ => ⟨nofun, nofun, nofun, nofun⟩⟩
    · cases h; cases hx; cases hy
      exact ⟨eqIn_map2 hu 9999 _, fun _ _ _ => guard_ok nofun nofun, fun _ _ => ⟨nofun, nofun, nofun, nofun⟩⟩
    · cases h
  | fnc =>
    rw [hm] at h
    obtain ⟨p, r, v, hu⟩ : ∃ p r v, P.underlying t = some (.func p r v) := by
      unfold eqMode at hm
      split at hm
      case h_4 => rename_i e _; rcases ptrM_or P e with ⟨q, _⟩ | q <;> rw [q] at hm <;> cases hm
      case h_8 | h_9 => split at hm <;> (try (cases hm; done)); split at hm <;> cases hm
      all_goals first
        | (cases hm; done)
        | (rename_i hu; exact ⟨_, _, _, hu⟩)
    simp only [eqBy, fncEq] at h
    split at h
    · cases h; cases hx; cases hy
      exact ⟨eqIn_fnc hu 9999, fun _ _ _ => guard_ok nofun nofun, fun _ _ => ⟨nofun, nofun, nofun, nofun⟩⟩
    · cases h; cases hx; cases hy
      exact ⟨eqIn_fnc2 hu 9999 _ _ _, fun _ _ _ => guard_ok nofun nofun, fun _ _ => ⟨nofun, nofun, nofun, nofun⟩⟩
    · cases h; cases hx; cases hy
      exact ⟨eqIn_fnc3 hu 9999 _ _ _, fun _ _ _ => guard_ok nofun nofun, fun _ _ => ⟨nofun, nofun, nofun, nofun⟩⟩
    · cases h

theorem binOp_eql {t : Nat} {x y : Value} (h1 : ∀ k n, x ≠ .int k n) (h2 : ∀ s, x ≠ .string s) (h3 : ∀ k n, x ≠ .float k n) (h4 : ∀ k n m, x ≠ .complex k n m) :
    binOp .eql t x y = (do pure (.bool (← Op.equal t x y))) ∧ binOp .neq t x y = (do pure (.bool (!(← Op.equal t x y)))) := by
  cases x <;> first
    | exact absurd rfl (h1 _ _)
    | exact absurd rfl (h2 _)
    | exact absurd rfl (h3 _ _)
    | exact absurd rfl (h4 _ _ _)
    | (exact ⟨rfl, rfl⟩)

theorem bin_sim (R : WRel B0 w0 β H w) {op : BinOp} {t : Nat} {ox oy : Operand} {x x' y y' v : Value} (h : binV op (eqMode P t) x y = some v) (hx : VR β x x') (hy : VR β y y') :
    Good B0 w0 β H v ((do eqGuard op t ox oy x' y'; binOp op t x' y' : Sem Value).run P w) := by
  have fin : ∀ v', (binOp op t x' y').run P w = .ok v' w ∧ VR β v v' → (eqGuard op t ox oy x' y').run P w = .ok () w → Good B0 w0 β H v ((do eqGuard op t ox oy x' y'; binOp op t x' y' : Sem Value).run P w) := by
    intro v' hr h1
    refine Good.same R (v' := v') ?_ hr.2
    rw [Sem.run_bind, h1, Result.andThen_ok, hr.1]
  unfold binV at h
  split at h
  · split at h
    · cases h
    rename_i hb
    cases h; cases hx; cases hy
    exact fin _ ⟨by simp [binOp, Op.shift, hb], .int _ _⟩ (guard_ok (by simp) (by simp))
  · split at h
    · cases h
    rename_i hb
    cases h; cases hx; cases hy
    exact fin _ ⟨by simp [binOp, Op.shift, hb], .int _ _⟩ (guard_ok (by simp) (by simp))
  · rename_i k a k' b n1 n2
    split at h
    case isFalse => cases h
    rename_i hk
    subst hk
    cases hx; cases hy
    have hns : op ≠ .shl ∧ op ≠ .shr := ⟨fun e => n1 e, fun e => n2 e⟩
    exact fin _ (intBin_sim h hns t) (guard_ok (by simp) (by simp))
  · cases hx; cases hy
    exact fin _ (strBin_sim h t) (guard_ok (by simp) (by simp))
  · rename_i n1 n2
    cases hb : eqBy (eqMode P t) x y with
    | none => rw [hb] at h; cases h
    | some b =>
      rw [hb] at h; cases h
      obtain ⟨g1, g2, g3⟩ := eqBy_sim (w := w) hb hx hy
      obtain ⟨g4, g5, g6, g7⟩ := g3 (fun k a k' b e1 e2 => n1 k a k' b e1 e2) (fun a b e1 e2 => n2 a b e1 e2)
      exact fin (.bool b) ⟨by rw [(binOp_eql g4 g5 g6 g7).1]; simp [g1], .bool _⟩ (g2 _ _ _)
  · rename_i n1 n2
    cases hb : eqBy (eqMode P t) x y with
    | none => rw [hb] at h; cases h
    | some b =>
      rw [hb] at h; cases h
      obtain ⟨g1, g2, g3⟩ := eqBy_sim (w := w) hb hx hy
      obtain ⟨g4, g5, g6, g7⟩ := g3 (fun k a k' b e1 e2 => n1 k a k' b e1 e2) (fun a b e1 e2 => n2 a b e1 e2)
      exact fin (.bool !b) ⟨by rw [(binOp_eql g4 g5 g6 g7).2]; simp [g1], .bool _⟩ (g2 _ _ _)
  · cases h

/-! ### addresses, parts -/
theorem faddr_sim (R : WRel B0 w0 β H w) {t : Nat} {fields : Array Field} {f : Nat} {fl : Field} {s id off : Nat} {x' : Value} (hu : P.underlying t = some (.struct fields)) (hf : fields[f]? = some fl)
    (hs : sizeOfT P fl.type = some s) (hpos : 0 < s) (hx : VR β (.pointer (some ⟨id, off, none⟩)) x') : Good B0 w0 β H (.pointer (some ⟨id, off + fl.offset, none⟩)) ((Instr.fieldAt t x' f).run P w) := by
  cases hx with
  | ptr _ _ l hl =>
  have hne : ¬ s = 0 := by omega
  refine Good.same R (v' := .pointer (some ⟨l.b, l.o + (off + fl.offset), none⟩)) ?_ (.ptr _ _ l hl)
  simp [Instr.fieldAt, run_und hu, hf, Instr.sureAddr, fieldPlace, run_sizeOfT hs, hne, add_none, Nat.add_assoc]

theorem part_sim {β : Emb} {t n : Nat} {d : TypeDesc} {cs cs' : Array Value} {off : Nat} {v : Value} (hu : P.underlying t = some d) (hs : sizeOfT P t = some n) (hc : VRs β cs.toList cs'.toList)
    (hv : partV (aggD d) cs off n = some v) : ∃ v', (part t cs' off).run P w = .ok v' w ∧ VR β v v' := by
  unfold partV at hv
  cases hd : aggD d with
  | true =>
    rw [hd] at hv; simp only [if_true] at hv; cases hv
    refine ⟨.agg (cs'.extract off (off + n)), by simp [part, run_isAggD hu, hd, run_sizeOfT hs], .agg' ?_⟩
    simp only [Array.toList_extract, List.extract_eq_take_drop]
    exact (hc.drop _).take _
  | false =>
    rw [hd] at hv; simp only [Bool.false_eq_true, if_false] at hv
    obtain ⟨v', g1, g2⟩ := hc.2 off v (by rw [Array.getElem?_toList]; exact hv)
    rw [Array.getElem?_toList] at g1
    exact ⟨v', by simp [part, run_isAggD hu, hd, g1], g2⟩

theorem field_sim (R : WRel B0 w0 β H w) {t : Nat} {fields : Array Field} {f : Nat} {fl : Field} {s : Nat} {d : TypeDesc} {cs : Array Value} {x' v : Value} (hu : P.underlying t = some (.struct fields)) (hf : fields[f]? = some fl)
    (hs : sizeOfT P fl.type = some s) (hd : P.underlying fl.type = some d) (hx : VR β (.agg cs) x') (hv : partV (aggD d) cs fl.offset s = some v) : Good B0 w0 β H v ((Instr.field t x' f).run P w) := by
  cases hx with
  | agg _ c' hc gc =>
  obtain ⟨v', g1, g2⟩ := part_sim (w := w) hd hs (vrs_of_arr hc gc) hv
  refine Good.same R (v' := v') ?_ g2
  simp [Instr.field, run_und hu, hf, asAgg, g1]

theorem iaddr_sim (R : WRel B0 w0 β H w) {t e s : Nat} {x x' i i' v : Value} (hu : P.underlying t = some (.slice e)) (hs : sizeOfT P e = some s) (hx : VR β x x') (hi : VR β i i')
    (hv : iaddrV s x i = some v) : Good B0 w0 β H v ((Instr.indexAt t x' i').run P w) := by
  unfold iaddrV at hv
  split at hv
  case h_2 => cases hv
  rename_i id off mk ln cp kk n
  split at hv
  case isFalse => cases hv
  rename_i hb
  cases hv; cases hi
  cases hx with
  | slice _ _ m _ _ cap' l hl h1 h2 h3 h4 =>
    refine Good.same R (v' := .pointer (some ⟨l.b, l.o + (off + n.toNat * s), none⟩)) ?_ (.ptr _ _ l hl)
    simp [Instr.indexAt, run_und hu, asIntOf, run_sizeOfT hs, hb.1, hb.2, add_none, Nat.add_assoc]
  | slice0 id off m A => omega

theorem aaddr_sim (R : WRel B0 w0 β H w) {t e s n : Nat} {x x' i i' v : Value} (hu : P.underlying t = some (.array n e)) (hs : sizeOfT P e = some s) (hx : VR β x x') (hi : VR β i i')
    (hv : aaddrV n s x i = some v) : Good B0 w0 β H v ((Instr.indexAt t x' i').run P w) := by
  unfold aaddrV at hv
  split at hv
  case h_2 => cases hv
  rename_i id off kk n
  split at hv
  case isFalse => cases hv
  rename_i hb
  cases hv; cases hi
  cases hx with
  | ptr _ _ l hl =>
    refine Good.same R (v' := .pointer (some ⟨l.b, l.o + (off + n.toNat * s), none⟩)) ?_ (.ptr _ _ l hl)
    simp [Instr.indexAt, run_und hu, asIntOf, run_sizeOfT hs, hb.1, hb.2, add_none, Nat.add_assoc, Instr.sureAddr]

theorem aindex_sim (R : WRel B0 w0 β H w) {t e s n : Nat} {d : TypeDesc} {x x' i i' v : Value} (hu : P.underlying t = some (.array n e)) (hs : sizeOfT P e = some s) (hd : P.underlying e = some d) (hx : VR β x x') (hi : VR β i i')
    (hv : aindexV (aggD d) n s x i = some v) : Good B0 w0 β H v ((Instr.index t x' i').run P w) := by
  unfold aindexV at hv
  split at hv
  case h_2 => cases hv
  split at hv
  case isFalse => cases hv
  rename_i hb
  cases hi
  cases hx with
  | agg _ c' hc gc =>
  obtain ⟨v', g1, g2⟩ := part_sim (w := w) hd hs (vrs_of_arr hc gc) hv
  refine Good.same R (v' := v') ?_ g2
  simp [Instr.index, run_und hu, asIntOf, run_sizeOfT hs, hb.1, hb.2, g1]

theorem strindex_sim (R : WRel B0 w0 β H w) {t : Nat} {x x' i i' v : Value} (hu : P.underlying t = some .string) (hx : VR β x x') (hi : VR β i i')
    (hv : strindexV x i = some v) : Good B0 w0 β H v ((Instr.index t x' i').run P w) := by
  unfold strindexV at hv
  split at hv
  case h_2 => cases hv
  split at hv
  case isFalse => cases hv
  rename_i hb
  cases hi; cases hx
  cases hg : (_ : ByteArray)[(_ : Int).toNat]? with
  | none => rw [hg] at hv; cases hv
  | some u =>
    rw [hg] at hv; cases hv
    refine Good.same R (v' := .int .u8 u.toNat) ?_ (.int _ _)
    simp [Instr.index, run_und hu, asIntOf, hb, hg]

theorem ext_sim (R : WRel B0 w0 β H w) {i : Nat} {vs : Array Value} {x' v : Value} (hx : VR β (.tuple vs) x') (hv : vs[i]? = some v) : Good B0 w0 β H v ((Instr.extract x' i).run P w) := by
  cases hx with
  | tuple _ c' hc gc =>
  obtain ⟨v', g1, g2⟩ := (vrs_of_arr hc gc).2 i v (by rw [Array.getElem?_toList]; exact hv)
  rw [Array.getElem?_toList] at g1
  refine Good.same R (v' := v') ?_ g2
  simp [Instr.extract, g1]

theorem len_sim (R : WRel B0 w0 β H w) {t e ty n cap : Nat} {ts : Array TypeId} {a : Option Addr} {x' : Value} (ht : ts[0]? = some t) (hu : P.underlying t = some (.slice e)) (hx : VR β (.slice a n cap) x') :
    Good B0 w0 β H (.int .i64 n) ((Builtin.len_ ts ty #[x']).run P w) := by
  refine Good.same R (v' := .int .i64 n) ?_ (.int _ _)
  cases hx <;> simp [Builtin.len_, ht, run_und hu, goInt]

theorem strlen_sim (R : WRel B0 w0 β H w) {t ty : Nat} {ts : Array TypeId} {s : ByteArray} {x' : Value} (ht : ts[0]? = some t) (hu : P.underlying t = some .string) (hx : VR β (.string s) x') :
    Good B0 w0 β H (.int .i64 s.size) ((Builtin.len_ ts ty #[x']).run P w) := by
  refine Good.same R (v' := .int .i64 s.size) ?_ (.int _ _)
  cases hx
  simp [Builtin.len_, ht, run_und hu, goInt]

theorem minmax_sim (R : WRel B0 w0 β H w) {mx : Bool} {ts : Array TypeId} {ty : Nat} {x x' y y' v : Value} (hx : VR β x x') (hy : VR β y y') (hv : minmaxV mx x y = some v) :
    Good B0 w0 β H v ((if mx then Builtin.max_ ts ty #[x', y'] else Builtin.min_ ts ty #[x', y']).run P w) := by
  unfold minmaxV at hv
  split at hv
  case h_2 => cases hv
  cases hv; cases hx; cases hy
  cases mx
  · exact Good.same R (by simp [Builtin.min_, Builtin.min2]) (.int _ _)
  · exact Good.same R (by simp [Builtin.max_, Builtin.max2]) (.int _ _)

end
end Go.Proofs.YtapkmhneneffdaaGreatDoor.Mx

/-! The text ZadG. -/
namespace Go.Proofs.YtapkmhneneffdaaGreatDoor.Mx
open Go

section
variable {P : Program} {B0 : Bs} {w0 : World} {β : Emb} {H : Heap} {w : World}

def VRo (β : Emb) (a a' : Option Value) : Prop := (a = none ∧ a' = none) ∨ ∃ v v', a = some v ∧ a' = some v' ∧ VR β v v'

theorem optInt_spec {β : Emb} {d n : Int} {a a' : Option Value} (h : optInt d a = some n) (hr : VRo β a a') : (a = none ∧ a' = none ∧ n = d) ∨ ∃ k, a = some (.int k n) ∧ a' = some (.int k n) := by
  rcases hr with ⟨rfl, rfl⟩ | ⟨v, v', rfl, rfl, hv⟩
  · simp [optInt] at h; exact .inl ⟨rfl, rfl, h.symm⟩
  · cases hv <;> simp [optInt, junk, opq] at h
    subst h
    exact .inr ⟨_, rfl, rfl⟩

theorem sliceBound_run {k : IntKind} {n : Int} {y : Nat} {code : BoundsCode} (h0 : 0 ≤ n) (h1 : n ≤ y) (w : World) : (Instr.sliceBound (.int k n) y code).run P w = .ok n.toNat w := by
  simp [Instr.sliceBound, asIntOf, h0, h1]

theorem sliceBounds_run {isS : Bool} {len cap : Nat} {lo hi mx : Option Value} {l h m : Int} (hm : (mx = none ∧ m = cap) ∨ ∃ k, mx = some (.int k m))
    (hh : (hi = none ∧ mx = none ∧ h = len) ∨ ∃ k, hi = some (.int k h)) (hl : (lo = none ∧ l = 0) ∨ ∃ k, lo = some (.int k l)) (h0 : 0 ≤ l) (h1 : l ≤ h) (h2 : h ≤ m) (h3 : m ≤ cap) (w : World) :
    (Instr.sliceBounds isS len cap lo hi mx).run P w = .ok (l.toNat, h.toNat, m.toNat) w := by
  rcases hm with ⟨rfl, rfl⟩ | ⟨km, rfl⟩
  · rcases hh with ⟨rfl, _, rfl⟩ | ⟨kh, rfl⟩
    · rcases hl with ⟨rfl, rfl⟩ | ⟨kl, rfl⟩
      · simp [Instr.sliceBounds]
      · simp [Instr.sliceBounds, sliceBound_run h0 h1]
    · have e1 : h ≤ (cap : Int) := h2
      rcases hl with ⟨rfl, rfl⟩ | ⟨kl, rfl⟩
      · simp [Instr.sliceBounds, sliceBound_run h1 e1]
      · have e2 : l ≤ (h.toNat : Int) := by omega
        simp [Instr.sliceBounds, sliceBound_run (show (0 : Int) ≤ h by omega) e1, sliceBound_run h0 e2]
  · have e0 : (0 : Int) ≤ m := by omega
    rcases hh with ⟨rfl, hx, rfl⟩ | ⟨kh, rfl⟩
    · cases hx
    · have e1 : h ≤ (m.toNat : Int) := by omega
      rcases hl with ⟨rfl, rfl⟩ | ⟨kl, rfl⟩
      · simp [Instr.sliceBounds, sliceBound_run e0 h3, sliceBound_run h1 e1]
      · have e2 : l ≤ (h.toNat : Int) := by omega
        simp [Instr.sliceBounds, sliceBound_run e0 h3, sliceBound_run (show (0 : Int) ≤ h by omega) e1, sliceBound_run h0 e2]

theorem slice_sim (R : WRel B0 w0 β H w) {t e s : Nat} {x x' v : Value} {lo lo' hi hi' mx mx' : Option Value} (hu : P.underlying t = some (.slice e)) (hs : sizeOfT P e = some s) (hpos : 0 < s)
    (hmh : mx.isSome → hi.isSome) (hx : VR β x x') (hlo : VRo β lo lo') (hhi : VRo β hi hi') (hmx : VRo β mx mx') (hv : sliceV s x lo hi mx = some v) :
    Good B0 w0 β H v ((Instr.sliceAt t x' lo' hi' mx').run P w) := by
  have hred : (Instr.sliceAt t x' lo' hi' mx').run P w = (Instr.slice t x' lo' hi' mx').run P w := by simp [Instr.sliceAt, run_und hu]
  unfold sliceV at hv
  split at hv
  · rename_i id off ek len cap
    split at hv
    case h_2 => cases hv
    rename_i m h l e1 e2 e3
    split at hv
    case isFalse => cases hv
    rename_i hb
    obtain ⟨b1, b2, b3, b4, b5⟩ := hb
    cases hv
    have f1 := optInt_spec e1 hmx
    have f2 := optInt_spec e2 hhi
    have f3 := optInt_spec e3 hlo
    have fh : (hi' = none ∧ mx' = none ∧ h = (len : Int)) ∨ ∃ k, hi' = some (.int k h) := by
      rcases f2 with ⟨hn, hn', e⟩ | ⟨k, _, e⟩
      · refine .inl ⟨hn', ?_, e⟩
        rcases f1 with ⟨_, hm', _⟩ | ⟨k, hm, _⟩
        · exact hm'
        · rw [hm, hn] at hmh; simp at hmh
      · exact .inr ⟨k, e⟩
    have fl : (lo' = none ∧ l = 0) ∨ ∃ k, lo' = some (.int k l) := by
      rcases f3 with ⟨_, hn', e⟩ | ⟨k, _, e⟩
      · exact .inl ⟨hn', e⟩
      · exact .inr ⟨k, e⟩
    cases hx with
    | slice _ _ _ _ _ cap' lc hl h1 h2 h3 h4 =>
      have fm : ∃ m' : Int, ((mx' = none ∧ m' = (cap' : Int)) ∨ ∃ k, mx' = some (.int k m')) ∧ m ≤ m' ∧ m' ≤ cap' ∧ (mx.isSome = true → m' = m) ∧ (mx.isSome = false → m' = cap' ∧ m = cap) := by
        rcases f1 with ⟨hn, hn', e⟩ | ⟨k, hn, e⟩
        · exact ⟨cap', .inl ⟨hn', rfl⟩, by omega, by omega, by simp [hn], fun _ => ⟨rfl, e⟩⟩
        · exact ⟨m, .inr ⟨k, e⟩, by omega, by omega, fun _ => rfl, by simp [hn]⟩
      obtain ⟨m', fm1, fm2, fm3, fm4, fm5⟩ := fm
      have hrun := sliceBounds_run (P := P) (isS := true) fm1 fh fl b1 b2 (show h ≤ m' by omega) fm3 w
      by_cases hml : m' = l
      · refine Good.same R (v' := .slice (some ⟨lc.b, lc.o + off, none⟩) (h.toNat - l.toNat) (m'.toNat - l.toNat)) ?_ ?_
        · rw [hred]; simp [Instr.slice, run_und hu, hrun, run_sizeOfT hs, hml]
        · rw [show h.toNat - l.toNat = 0 by omega, show m.toNat - l.toNat = 0 by omega, show m'.toNat - l.toNat = 0 by omega]
          exact .slice0 _ _ _ _
      · have hml' : ¬ m'.toNat = l.toNat := by omega
        refine Good.same R (v' := .slice (some ⟨lc.b, lc.o + (off + l.toNat * s), none⟩) (h.toNat - l.toNat) (m'.toNat - l.toNat)) ?_ ?_
        · rw [hred]; simp [Instr.slice, run_und hu, hrun, run_sizeOfT hs, hml', add_none, Nat.add_assoc]
        · refine .slice id (off + l.toNat * s) _ _ _ _ lc hl (by omega) (by omega) (fun hodd => ?_) (fun hne => ?_)
          · cases hm : mx.isSome with
            | true => rw [fm4 hm]
            | false =>
              simp only [hm, Bool.false_eq_true, false_and, if_false] at hodd
              obtain ⟨q1, q2⟩ := fm5 hm
              have := h3 hodd
              omega
          · have hms : m'.toNat * s ≤ cap' * s := Nat.mul_le_mul_right s (by omega)
            have hsub : (m'.toNat - l.toNat) * s = m'.toNat * s - l.toNat * s := Nat.sub_mul _ _ _
            have hlm : l.toNat * s ≤ m'.toNat * s := Nat.mul_le_mul_right s (by omega)
            have hek : ek ≠ 1 := by
              intro e
              subst e
              simp at hne
            by_cases hlz : l = 0 ∧ (mx = none ∨ m = 0)
            · obtain ⟨hl0, hmz⟩ := hlz
              subst hl0
              rcases hmz with hmz | hmz
              · obtain ⟨q1, q2⟩ := fm5 (by simp [hmz])
                simp only [hmz, Option.isSome_none, Bool.false_eq_true, false_and, if_false] at hne ⊢
                have := h4 hne
                simp only [Int.toNat_zero, Nat.zero_mul, Nat.add_zero, Nat.sub_zero]
                rw [show m'.toNat = cap' by omega]
                exact this
              · cases hm : mx.isSome with
                | true => exact absurd (by rw [fm4 hm]; exact hmz) hml
                | false =>
                  obtain ⟨q1, q2⟩ := fm5 hm
                  simp only [hm, Bool.false_eq_true, false_and, if_false] at hne ⊢
                  have := h4 hne
                  simp only [Int.toNat_zero, Nat.zero_mul, Nat.add_zero, Nat.sub_zero]
                  rw [show m'.toNat = cap' by omega]
                  exact this
            have hk : ek / 2 = s := by
              rcases b5 with h | h | h
              · exact h
              · exact absurd h hek
              · exact absurd h hlz
            have hk2 : (if mx.isSome = true ∧ ek ≠ 1 then 2 * s + 1 else ek) / 2 = s := by split <;> omega
            rw [hk2]
            rw [hk] at h4
            have := h4 (by omega)
            omega
    | slice0 _ _ _ A =>
      have hm0 : m = 0 := by omega
      have hh0 : h = 0 := by omega
      have hl0 : l = 0 := by omega
      subst hm0; subst hh0; subst hl0
      have fm : (mx' = none ∧ (0 : Int) = ((0 : Nat) : Int)) ∨ ∃ k, mx' = some (.int k 0) := by
        rcases f1 with ⟨hn, hn', e⟩ | ⟨k, hn, e⟩
        · exact .inl ⟨hn', rfl⟩
        · exact .inr ⟨k, e⟩
      have hrun := sliceBounds_run (P := P) (isS := true) (cap := 0) fm fh fl (by omega) (by omega) (by omega) (by simp) w
      refine Good.same R (v' := .slice (some A) 0 0) ?_ (.slice0 _ _ _ _)
      rw [hred]; simp [Instr.slice, run_und hu, hrun, run_sizeOfT hs]
  · rename_i len cap
    split at hv
    case h_2 => cases hv
    rename_i m h l e1 e2 e3
    split at hv
    case isFalse => cases hv
    rename_i hb
    obtain ⟨rfl, rfl, rfl, rfl, rfl⟩ := hb
    cases hv; cases hx
    have fm : (mx' = none ∧ (0 : Int) = ((0 : Nat) : Int)) ∨ ∃ k, mx' = some (.int k 0) := by
      rcases optInt_spec e1 hmx with ⟨_, hn', _⟩ | ⟨k, _, e⟩
      · exact .inl ⟨hn', rfl⟩
      · exact .inr ⟨k, e⟩
    have fh : (hi' = none ∧ mx' = none ∧ (0 : Int) = ((0 : Nat) : Int)) ∨ ∃ k, hi' = some (.int k 0) := by
      rcases optInt_spec e2 hhi with ⟨hn, hn', _⟩ | ⟨k, _, e⟩
      · refine .inl ⟨hn', ?_, rfl⟩
        rcases optInt_spec e1 hmx with ⟨_, hm', _⟩ | ⟨k, hm, _⟩
        · exact hm'
        · rw [hm, hn] at hmh; simp at hmh
      · exact .inr ⟨k, e⟩
    have fl : (lo' = none ∧ (0 : Int) = 0) ∨ ∃ k, lo' = some (.int k 0) := by
      rcases optInt_spec e3 hlo with ⟨_, hn', _⟩ | ⟨k, _, e⟩
      · exact .inl ⟨hn', rfl⟩
      · exact .inr ⟨k, e⟩
    have hrun := sliceBounds_run (P := P) (isS := true) (cap := 0) fm fh fl (by omega) (by omega) (by omega) (by simp) w
    refine Good.same R (v' := .slice none 0 0) ?_ .nils
    rw [hred]; simp [Instr.slice, run_und hu, hrun, run_sizeOfT hs]
  · cases hv

theorem strslice_sim (R : WRel B0 w0 β H w) {t : Nat} {x x' v : Value} {lo lo' hi hi' : Option Value} (hu : P.underlying t = some .string)
    (hx : VR β x x') (hlo : VRo β lo lo') (hhi : VRo β hi hi') (hv : strsliceV x lo hi = some v) : Good B0 w0 β H v ((Instr.sliceAt t x' lo' hi' none).run P w) := by
  have hred : (Instr.sliceAt t x' lo' hi' none).run P w = (Instr.slice t x' lo' hi' none).run P w := by simp [Instr.sliceAt, run_und hu]
  unfold strsliceV at hv
  split at hv
  case h_2 => cases hv
  rename_i s
  split at hv
  case h_2 => cases hv
  rename_i h l e2 e3
  split at hv
  case isFalse => cases hv
  rename_i hb
  cases hv; cases hx
  have fh : (hi' = none ∧ (none : Option Value) = none ∧ h = (s.size : Int)) ∨ ∃ k, hi' = some (.int k h) := by
    rcases optInt_spec e2 hhi with ⟨_, hn', e⟩ | ⟨k, _, e⟩
    · exact .inl ⟨hn', rfl, e⟩
    · exact .inr ⟨k, e⟩
  have fl : (lo' = none ∧ l = 0) ∨ ∃ k, lo' = some (.int k l) := by
    rcases optInt_spec e3 hlo with ⟨_, hn', e⟩ | ⟨k, _, e⟩
    · exact .inl ⟨hn', e⟩
    · exact .inr ⟨k, e⟩
  have hrun := sliceBounds_run (P := P) (isS := false) (len := s.size) (cap := s.size) (m := s.size) (.inl ⟨rfl, rfl⟩) fh fl hb.1 hb.2.1 hb.2.2 (by omega) w
  refine Good.same R (v' := .string (s.extract l.toNat h.toNat)) ?_ (.str _)
  rw [hred]; simp [Instr.slice, run_und hu, hrun]

/-! ### rows -/
theorem row_sim (R : WRel B0 w0 β H w) {s n : Nat} {cs : List Value} {y y' : Value} (h : H.row s y = some (n, cs)) (hy : VR β y y') :
    cs.length = n * s ∧ ∃ c', VRs β cs c'.toList ∧ ∀ w' : World, w'.heap = w.heap → (Builtin.lenOf y').run P w' = .ok n w' ∧ (Builtin.firstCells s n y').run P w' = .ok c' w' := by
  unfold Heap.row at h
  split at h
  · cases h; cases hy
    exact ⟨by simp, #[], .nil β, fun w' _ => ⟨by simp [Builtin.lenOf], by simp [Builtin.firstCells]⟩⟩
  · rename_i id off x len cap
    split at h
    · rename_i h0
      subst h0
      cases h
      have key : ∀ a c, ([] : List Value).length = 0 * s ∧ ∃ c' : Array Value, VRs β [] c'.toList ∧ ∀ w' : World, w'.heap = w.heap → (Builtin.lenOf (.slice (some a) 0 c)).run P w' = .ok 0 w' ∧ (Builtin.firstCells s 0 (.slice (some a) 0 c)).run P w' = .ok c' w' :=
        fun a c => ⟨by simp, #[], .nil β, fun w' _ => ⟨by simp [Builtin.lenOf], by simp [Builtin.firstCells, loadCells, loadCellsFrom]⟩⟩
      cases hy <;> exact key _ _
    · rename_i h0
      split at h
      case h_2 => cases h
      rename_i e ro cs0 hg
      split at h
      case isFalse => cases h
      rename_i hle
      cases h
      cases hy with
      | slice _ _ m _ _ cap' l hl h1 h2 h3 h4 =>
        obtain ⟨c, e', fz, g1, g2, g3, g4, g5⟩ := R.ob id l e ro cs0 hl hg
        have hlen : ((c.toList.drop (l.o + off)).take (n * s)).length = n * s := by simp; omega
        refine ⟨by simp; omega, ((c.toList.drop (l.o + off)).take (n * s)).toArray, by simpa using vrs_range g5 off (n * s) hle (by omega), fun w' hw => ⟨by simp [Builtin.lenOf], ?_⟩⟩
        have hld := run_loadCells_list (P := P) w' ⟨l.b, l.o + off, none⟩ ((c.toList.drop (l.o + off)).take (n * s)) (fun j v hj => by
          rw [add_none, cell_of (by rw [hw]; exact g1)]
          rw [List.getElem?_take] at hj
          split at hj
          · rw [List.getElem?_drop, Array.getElem?_toList] at hj; exact hj
          · cases hj)
        rw [hlen] at hld
        simp only [Builtin.firstCells]
        exact hld
      | slice0 _ _ _ A => exact absurd rfl h0
  · rename_i st
    split at h
    case isFalse => cases h
    rename_i hs
    subst hs
    cases h; cases hy
    refine ⟨by simp, st.data.map fun b => .int .u8 b.toNat, ?_, fun w' _ => ⟨by simp [Builtin.lenOf], ?_⟩⟩
    · rw [Array.toList_map]
      refine ⟨rfl, fun i v hv => ⟨v, hv, ?_⟩⟩
      rw [List.getElem?_map] at hv
      cases hb : st.data.toList[i]? with
      | none => rw [hb] at hv; cases hv
      | some b => rw [hb] at hv; cases hv; exact .int _ _
    · have : st.extract 0 st.size = st := by simp
      simp [Builtin.firstCells, this]
  · cases h

end
end Go.Proofs.YtapkmhneneffdaaGreatDoor.Mx

/-! The text ZadH. -/
namespace Go.Proofs.YtapkmhneneffdaaGreatDoor.Mx
open Go

section
variable {P : Program} {B0 : Bs} {w0 : World} {β : Emb} {H : Heap} {w : World}

theorem wrap_small {n : Int} (h0 : 0 ≤ n) (h1 : n ≤ 2 ^ 46) : IntKind.i64.wrap n = n := by
  simp [IntKind.wrap, IntKind.bits, IntKind.signed]; omega

theorem mkslice_sim (R : WRel B0 w0 β H w) {t e id : Nat} {i : TypeInfo} {z : List Value} {a a' b b' v : Value} {H' : Heap} (hu : P.underlying t = some (.slice e)) (hi : P.info? e = some i) (hz : zeroOf P e = some z) (hpos : 0 < i.size)
    (ha : VR β a a') (hb : VR β b b') (hv : H.mkslice id e i.size i.bytes z a b = some (v, H')) (hid : id < H.size) : Good B0 w0 β H' v ((Instr.makeSlice t a' b').run P w) := by
  unfold Heap.mkslice at hv
  split at hv
  case h_2 => cases hv
  rename_i k1 l k2 c
  split at hv
  case isFalse => cases hv
  rename_i hc
  obtain ⟨c1, c2, c3, c4⟩ := hc
  cases ha; cases hb
  cases hn : H.new id (.cells e false (List.replicate c.toNat z).flatten) with
  | none => rw [hn] at hv; cases hv
  | some H1 =>
    rw [hn] at hv
    cases hv
    obtain ⟨i2, zv, hi2, hz1, hz2, hz3, hz4⟩ := zeroOf_spec hz
    rw [hi] at hi2; cases hi2
    have hzc : zv.cells = z.toArray := by rw [← hz2]
    have hall : ((List.replicate c.toNat z).flatten).all leafClosed = true := by
      simp only [List.all_eq_true, List.mem_flatten, List.mem_replicate]
      rintro v ⟨l, ⟨_, rfl⟩, hv⟩
      exact List.all_eq_true.1 hz4 v hv
    obtain ⟨le, R'⟩ := new_sim R (t := e) hn hid (c := ((List.replicate c.toNat z).flatten).toArray) (by simp) (by rw [List.take_length]; exact .ofLeaf β hall) (Nat.le_refl _)
    have wl : IntKind.i64.wrap l = l := wrap_small c1 (by omega)
    have wc : IntKind.i64.wrap c = c := wrap_small (by omega) c3
    have hbytes : ¬ ((i.bytes : Int) * c > 2 ^ 48) := by
      have : (i.bytes : Int) * c = c * i.bytes := Int.mul_comm _ _
      omega
    have hcn : ¬ c < 0 := by omega
    have hln : ¬ l < 0 := by omega
    have hlc : ¬ l > c := by omega
    refine ⟨_, .slice (some ⟨w.heap.size, 0, none⟩) l.toNat c.toNat, { w with heap := w.heap.push (.cells ((List.replicate c.toNat z).flatten).toArray e) }, ?_, le, ⟨R', R.os, R.tape, R.output⟩, ?_⟩
    · have hinfo : ∀ w, (typeInfo e).run P w = .ok i w := fun w => by simp [typeInfo, hi]
      have hszr : ∀ w, (sizeOf e).run P w = .ok i.size w := fun w => by simp [sizeOf, hinfo]
      have hrow : (Array.range (c.toNat * i.size)).map (fun x => z.toArray[x % z.toArray.size]!) = ((List.replicate c.toNat z).flatten).toArray := by
        rw [← range_map_eq z (by omega) c.toNat, hz3]
      simp only [Instr.makeSlice, Sem.run_bind, run_und hu, Result.andThen_ok, asInt, asIntOf, Sem.run_pure, hinfo, wl, wc]
      rw [if_neg (by simp [hcn, hln, hlc]; omega)]
      simp only [Sem.run_bind, run_askRoom, Result.andThen_ok, hszr]
      by_cases h0 : c.toNat * i.size = 0
      · have hc0 : c.toNat = 0 := by rcases Nat.mul_eq_zero.1 h0 with h | h <;> omega
        have hr0 : ∀ f : Nat → Value, (Array.range 0).map f = #[] := fun f => Array.eq_empty_of_size_eq_zero (by simp)
        simp [h0, hc0, newRow, hr0]
      · simp only [h0, if_false, Sem.run_bind, run_zero hi hz1, Result.andThen_ok, Sem.run_pure, hzc, hrow]
        simp [newRow]
    · have hs2 : ((List.replicate c.toNat z).flatten).toArray.size = c.toNat * i.size := by simp [hz3]
      have := VR.slice (β := β.upd id ⟨w.heap.size, 0, ((List.replicate c.toNat z).flatten).toArray.size⟩) id 0 (2 * i.size + 1) l.toNat c.toNat c.toNat ⟨w.heap.size, 0, ((List.replicate c.toNat z).flatten).toArray.size⟩
        (upd_self _ _ _) (by omega) (Nat.le_refl _) (fun _ => rfl) (fun _ => by show 0 + c.toNat * ((2 * i.size + 1) / 2) ≤ ((List.replicate c.toNat z).flatten).toArray.size; rw [hs2, show (2 * i.size + 1) / 2 = i.size by omega]; omega)
      exact this

/-! ### append -/
theorem app_in {ts : Array TypeId} {t u e ty s : Nat} {d : TypeDesc} {a : Addr} {len cap n : Nat} {y' : Value} {c' : Array Value} {w' : World} (ht : ts[0]? = some t) (hu' : ts[1]? = some u) (hu : P.underlying t = some (.slice e)) (hd : P.underlying u = some d) (hint : isIntD d = false)
    (hs : sizeOfT P e = some s) (hl : (Builtin.lenOf y').run P w = .ok n w) (hc : (Builtin.firstCells s n y').run P w = .ok c' w) (hfit : len + n ≤ cap)
    (hst : (storeCells (a.add (len * s)) c'.toList 0).run P w = .ok () w') : (Builtin.append_ ts ty #[.slice (some a) len cap, y']).run P w = .ok (.slice (some a) (len + n) cap) w' := by
  cases d <;> (first | (simp [isIntD] at hint; done) | skip) <;>
  simp only [Builtin.append_, ht, hu', List.getElem?_toArray, List.getElem?_cons_zero, List.getElem?_cons_succ, Sem.run_bind, run_und hu, Result.andThen_ok, run_sizeOfT hs, run_und hd, Sem.run_pure,
    Bool.false_eq_true, if_false, hl, hfit, if_true, Bool.not_false, hc, hst]

theorem app_nil {ts : Array TypeId} {t u e ty s : Nat} {d : TypeDesc} {y' : Value} {c' : Array Value} (ht : ts[0]? = some t) (hu' : ts[1]? = some u) (hu : P.underlying t = some (.slice e)) (hd : P.underlying u = some d) (hint : isIntD d = false)
    (hs : sizeOfT P e = some s) (hl : (Builtin.lenOf y').run P w = .ok 0 w) (hc : (Builtin.firstCells s 0 y').run P w = .ok c' w) :
    (Builtin.append_ ts ty #[.slice none 0 0, y']).run P w = .ok (.slice none 0 0) w := by
  cases d <;> (first | (simp [isIntD] at hint; done) | skip) <;>
  simp only [Builtin.append_, ht, hu', List.getElem?_toArray, List.getElem?_cons_zero, List.getElem?_cons_succ, Sem.run_bind, run_und hu, Result.andThen_ok, run_sizeOfT hs, run_und hd, Sem.run_pure,
    Bool.false_eq_true, if_false, hl, Nat.add_zero, Nat.le_refl, if_true, Bool.not_false, hc]

theorem app_grow {ts : Array TypeId} {t u e ty s : Nat} {i : TypeInfo} {z : List Value} {d : TypeDesc} {base : Option Addr} {len cap n : Nat} {y' : Value} {c' o' : Array Value} (ht : ts[0]? = some t) (hu' : ts[1]? = some u) (hu : P.underlying t = some (.slice e)) (hd : P.underlying u = some d) (hint : isIntD d = false)
    (hi : P.info? e = some i) (hz : zeroOf P e = some z) (hs : i.size = s) (hpos : 0 < i.bytes) (hl : (Builtin.lenOf y').run P w = .ok n w) (hc : ∀ w' : World, w'.heap = w.heap → (Builtin.firstCells s n y').run P w' = .ok c' w')
    (ho : ∀ w' : World, w'.heap = w.heap → (Builtin.firstCells s len (.slice base len cap)).run P w' = .ok o' w') (hfit : cap < len + n) (hb : (len + n) * i.bytes ≤ 2 ^ 47) (hn : len + n ≤ 2 ^ 46) :
    ∃ newCap rest w', len + n ≤ newCap ∧ (Builtin.append_ ts ty #[.slice base len cap, y']).run P w = .ok (.slice (some ⟨w.heap.size, 0, none⟩) (len + n) newCap) w' ∧ rest.size = (newCap - (len + n)) * s ∧
      w'.heap = w.heap.push (.cells (o' ++ c' ++ rest) e (0, 0)) ∧ w'.os = w.os ∧ w'.tape = w.tape ∧ w'.output = w.output := by
  obtain ⟨i2, zv, hi2, hz1, hz2, hz3, hz4⟩ := zeroOf_spec hz
  rw [hi] at hi2; cases hi2
  have hzc : zv.cells = z.toArray := by rw [← hz2]
  have hinfo : ∀ w, (typeInfo e).run P w = .ok i w := fun w => by simp [typeInfo, hi]
  have hszr : ∀ w, (sizeOf e).run P w = .ok s w := fun w => by simp [sizeOf, hinfo, hs]
  have hnot : ¬ (len + n ≤ cap) := by omega
  have hmax : IntKind.i64.max = 9223372036854775807 := by decide
  have hg := growslice_fits (need := len + n) (old := cap) (bytes := i.bytes) (by omega) (by omega)
  have hg' : ¬ (Builtin.nextslicecap (len + n) cap * i.bytes > 2 ^ 48) := by omega
  have hbz : ¬ (i.bytes = 0) := by omega
  refine ⟨len + n + w.tape w.drawn (.appendCap (len + n) cap e) % (2 ^ 63 - (len + n)), Builtin.zeroCells z.toArray (len + n + w.tape w.drawn (.appendCap (len + n) cap e) % (2 ^ 63 - (len + n)) - (len + n)),
    { w with heap := w.heap.push (.cells (o' ++ c' ++ Builtin.zeroCells z.toArray (len + n + w.tape w.drawn (.appendCap (len + n) cap e) % (2 ^ 63 - (len + n)) - (len + n))) e (0, 0)), drawn := w.drawn + 1 }, by omega, ?_, ?_, rfl, rfl, rfl, rfl⟩
  · cases d <;> (first | (simp [isIntD] at hint; done) | skip) <;>
    (simp only [Builtin.append_, ht, hu', List.getElem?_toArray, List.getElem?_cons_zero, List.getElem?_cons_succ, Sem.run_bind, run_und hu, Result.andThen_ok, hszr, run_und hd, Sem.run_pure,
      Bool.false_eq_true, if_false, hl, hnot, Bool.not_false, if_true, hinfo, hmax, hbz, false_or, and_false, hg', run_choose, Question.forced, Question.cut, run_askRoom]
     simp only [ho { w with drawn := w.drawn + 1 } rfl, hc { w with drawn := w.drawn + 1 } rfl, Result.andThen_ok, run_zero hi hz1, hzc, newRow, Sem.run_bind, run_newObj, Sem.run_pure])
  · simp [Builtin.zeroCells, hz3, hs]

theorem new_spec {H H' : Heap} {id : Nat} {o : Ob} (h : H.new id o = some H') : H.get id = some .pend ∧ H' = H.put id o := by
  unfold Heap.new at h
  split at h <;> simp_all

theorem append_sim (R : WRel B0 w0 β H w) {ts : Array TypeId} {t u e ty id : Nat} {i : TypeInfo} {z : List Value} {d : TypeDesc} {pure : Bool} {x x' y y' v : Value} {H' : Heap} (ht : ts[0]? = some t) (hu' : ts[1]? = some u) (hu : P.underlying t = some (.slice e)) (hd : P.underlying u = some d) (hint : isIntD d = false)
    (hi : P.info? e = some i) (hz : zeroOf P e = some z) (hpos : 0 < i.size) (hbpos : 0 < i.bytes) (hx : VR β x x') (hy : VR β y y') (hv : H.append id e i.size i.bytes pure x y = some (v, H')) (hid : id < H.size) :
    Good B0 w0 β H' v ((Builtin.append_ ts ty #[x', y']).run P w) := by
  have hs : sizeOfT P e = some i.size := by simp [sizeOfT, hi]
  unfold Heap.append at hv
  split at hv
  · cases hv
  rename_i n new hrow
  obtain ⟨hnl, c', hcv, hcr⟩ := row_sim (P := P) R hrow hy
  obtain ⟨hl, hc⟩ := hcr w rfl
  split at hv
  · -- nil
    cases hx
    split at hv
    · rename_i hn0
      subst hn0
      cases hv
      exact Good.same R (app_nil ht hu' hu hd hint hs hl hc) .nils
    · rename_i hn0
      split at hv
      case isFalse => cases hv
      rename_i hb
      cases hn : H.new id (.cells e false new) with
      | none => rw [hn] at hv; cases hv
      | some H1 =>
        rw [hn] at hv; cases hv
        obtain ⟨nc, rest, w', h1, h2, h3, h4, h5, h6, h7⟩ := app_grow (P := P) (w := w) (base := none) (len := 0) (cap := 0) (n := n) (y' := y') (c' := c') (o' := #[]) (ty := ty) ht hu' hu hd hint hi hz rfl hbpos hl (fun w' hw' => (hcr w' hw').2) (fun w' _ => by simp [Builtin.firstCells]) (by omega) (by simpa using hb.1) (by simpa using hb.2)
        have hlen := hcv.1
        obtain ⟨le, R'⟩ := new_sim R (t := e) hn hid (c := #[] ++ c' ++ rest) (cs' := c'.toList ++ rest.toList) (by simp) (by rw [hlen, List.take_left]; exact hcv) (by rw [List.length_append, hlen]; omega)
        refine ⟨_, _, w', h2, le, ⟨by rw [h4]; exact R', h5.trans R.os, h6.trans R.tape, h7.trans R.output⟩, ?_⟩
        rw [Nat.zero_add]
        refine .slice id 0 (2 * i.size) n n nc ⟨w.heap.size, 0, _⟩ (upd_self _ _ _) (Nat.le_refl _) (by omega) (by omega) (fun _ => ?_)
        have hsz : (#[] ++ c' ++ rest).size = n * i.size + (nc - n) * i.size := by simp [h3]; simp at hlen; omega
        show 0 + nc * (2 * i.size / 2) ≤ (#[] ++ c' ++ rest).size
        rw [hsz, ← Nat.add_mul, show 2 * i.size / 2 = i.size by omega, show n + (nc - n) = nc by omega]
        omega
  · rename_i o off ek len cap
    split at hv
    · rename_i hn0
      subst hn0
      cases hv
      have hc0 : c'.toList = [] := by have := hcv.1; rw [hnl] at this; simpa using this.symm
      cases hx with
      | slice _ _ _ _ _ cap' l hl' h1 h2 h3 h4 =>
        exact Good.same R (app_in (n := 0) (a := ⟨l.b, l.o + off, none⟩) ht hu' hu hd hint hs hl hc (by omega) (by rw [hc0]; rfl)) (.slice _ _ _ _ _ cap' l hl' h1 h2 h3 h4)
      | slice0 _ _ _ A => exact Good.same R (app_in (n := 0) (a := A) ht hu' hu hd hint hs hl hc (by omega) (by rw [hc0]; rfl)) (.slice0 _ _ _ A)
    rename_i hn0
    split at hv
    · cases hv
    rename_i hek
    split at hv
    · rename_i hfit
      split at hv
      · cases hv
      split at hv
      case h_2 => cases hv
      rename_i e1 cs hg
      split at hv
      case isFalse => cases hv
      rename_i hb
      obtain ⟨hb1, hb2⟩ := hb
      cases hv
      cases hx with
      | slice _ _ _ _ _ cap' l hl' h1 h2 h3 h4 =>
        have hmul : (len + n) * i.size = len * i.size + n * i.size := Nat.add_mul _ _ _
        obtain ⟨w', g1, g2⟩ := write_sim (P := P) R hl' hg hcv hb2 (off := off + len * i.size) (by omega)
        refine ⟨β, _, w', app_in (n := n) (a := ⟨l.b, l.o + off, none⟩) ht hu' hu hd hint hs hl hc (show len + n ≤ cap' by omega) (by rw [add_none, Nat.add_assoc]; exact g1), Emb.le_refl β, g2, ?_⟩
        exact .slice _ _ _ _ _ cap' l hl' (by omega) h2 h3 h4
      | slice0 _ _ _ A => omega
    · rename_i hfit
      split at hv
      · cases hv
      rename_i n2 old hrow2
      obtain ⟨hol, o', hov, hor⟩ := row_sim (P := P) R hrow2 hx
      have hn2 : n2 = len := by
        have g := (hor w rfl).1
        cases hx <;> (simp [Builtin.lenOf] at g; omega)
      subst hn2
      split at hv
      case isFalse => cases hv
      rename_i hb
      -- what the model does where it must grow
      have grow : ∀ (a : Addr) (cp : Nat), x' = .slice (some a) n2 cp → cp < n2 + n → ∀ H1, H.new id (.cells e false (old ++ new)) = some H1 →
          ∃ β' w' nc, (Builtin.append_ ts ty #[x', y']).run P w = .ok (.slice (some ⟨w.heap.size, 0, none⟩) (n2 + n) nc) w' ∧ β.le β' ∧ WRel B0 w0 β' H1 w' ∧ VR β' (.slice (some ⟨id, 0, some (2 * i.size)⟩) (n2 + n) (n2 + n)) (.slice (some ⟨w.heap.size, 0, none⟩) (n2 + n) nc) := by
        intro a cp hxe hcp H1 hn
        subst hxe
        obtain ⟨nc, rest, w', h1, h2, h3, h4, h5, h6, h7⟩ := app_grow (P := P) (w := w) (base := some a) (len := n2) (cap := cp) (n := n) (y' := y') (c' := c') (o' := o') (ty := ty) ht hu' hu hd hint hi hz rfl hbpos hl (fun w' hw' => (hcr w' hw').2) (fun w' hw' => (hor w' hw').2) hcp hb.1 hb.2
        have hlen := hcv.1
        have hlen2 := hov.1
        have hall := hov.append hcv
        obtain ⟨le, R'⟩ := new_sim R (t := e) hn hid (c := o' ++ c' ++ rest) (cs' := (o'.toList ++ c'.toList) ++ rest.toList) (by simp) (by rw [hall.1, List.take_left]; exact hall) (by rw [List.length_append (as := o'.toList ++ c'.toList), ← hall.1]; omega)
        refine ⟨_, w', nc, h2, le, ⟨by rw [h4]; exact R', h5.trans R.os, h6.trans R.tape, h7.trans R.output⟩, ?_⟩
        refine .slice id 0 (2 * i.size) (n2 + n) (n2 + n) nc ⟨w.heap.size, 0, _⟩ (upd_self _ _ _) (Nat.le_refl _) h1 (by omega) (fun _ => ?_)
        have hsz : (o' ++ c' ++ rest).size = n2 * i.size + n * i.size + (nc - (n2 + n)) * i.size := by simp [h3]; simp at hlen hlen2; omega
        show 0 + nc * (2 * i.size / 2) ≤ (o' ++ c' ++ rest).size
        rw [hsz, ← Nat.add_mul, ← Nat.add_mul, show 2 * i.size / 2 = i.size by omega, show n2 + n + (nc - (n2 + n)) = nc by omega]
        omega
      split at hv
      · rename_i hex
        cases hn : H.new id (.cells e false (old ++ new)) with
        | none => rw [hn] at hv; cases hv
        | some H1 =>
          rw [hn] at hv; cases hv
          cases hx with
          | slice _ _ _ _ _ cap' l hl' h1 h2 h3 h4 =>
            obtain ⟨β', w', nc, g1, g2, g3, g4⟩ := grow _ _ rfl (by have := h3 hex; omega) _ hn
            exact ⟨β', _, w', g1, g2, g3, g4⟩
          | slice0 _ _ _ A =>
            obtain ⟨β', w', nc, g1, g2, g3, g4⟩ := grow _ _ rfl (by omega) _ hn
            exact ⟨β', _, w', g1, g2, g3, g4⟩
      · rename_i hex
        split at hv
        · cases hv
        split at hv
        case h_2 => cases hv
        rename_i e1 cs hg
        split at hv
        case isFalse => cases hv
        rename_i hone
        have hek : ek / 2 = i.size := by
          rcases Nat.lt_or_ge 1 ek with h | h
          · by_cases he : ek / 2 = i.size
            · exact he
            · exact absurd ⟨he, by omega, fun h => hex h.2.2⟩ hek
          · by_cases he : ek / 2 = i.size
            · exact he
            · have : ek ≠ 1 := fun e => hex (by rw [e])
              exact absurd ⟨he, this, fun h => hex h.2.2⟩ hek
        cases hn : H.new id (.cells e false (old ++ new)) with
        | none => rw [hn] at hv; cases hv
        | some H1 =>
          rw [hn] at hv; cases hv
          cases hx with
          | slice0 _ _ _ A =>
            obtain ⟨β', w', nc, g1, g2, g3, g4⟩ := grow _ _ rfl (by omega) H1 hn
            exact ⟨β', _, w', g1, g2, ⟨g3.toRel.kill o, g3.os, g3.tape, g3.output⟩, g4⟩
          | slice _ _ _ _ _ cap' l hl' h1 h2 h3 h4 =>
            by_cases hroom : cap' < n2 + n
            · obtain ⟨β', w', nc, g1, g2, g3, g4⟩ := grow _ _ rfl hroom H1 hn
              exact ⟨β', _, w', g1, g2, ⟨g3.toRel.kill o, g3.os, g3.tape, g3.output⟩, g4⟩
            · -- in the elder row, for all that the abstract machine knows
              obtain ⟨c, e0, fz, q1, q2, q3, q4, q5⟩ := R.ob o l e1 false cs hl' hg
              have hfz := q2 rfl
              subst hfz
              have hcl := hcv.1
              have hmul : (n2 + n) * i.size = n2 * i.size + n * i.size := Nat.add_mul _ _ _
              have hcm : (n2 + n) * i.size ≤ cap' * i.size := Nat.mul_le_mul_right _ (by omega)
              rw [hek] at h4
              have h4 := h4 (by omega)
              have hst := run_storeCells_at P l.b (l.o + (off + n2 * i.size)) e0 c'.toList 0 c w q1 (by omega) (hcv.allOne hone.1)
              have hold : old = (cs.drop off).take (n2 * i.size) := by
                simp only [Heap.row] at hrow2
                split at hrow2
                · rename_i h0; cases hrow2; simp
                · rw [hg] at hrow2
                  simp only at hrow2
                  split at hrow2 <;> cases hrow2
                  rfl
              have hr : l.o + (off + n2 * i.size) + c'.toList.length ≤ c.toList.length := by simp only [Array.length_toList] at hcl ⊢; omega
              obtain ⟨le, R'⟩ := R.toRel.moved (id := id) (off := off) (cs2 := old ++ new) hl' hg hn hid (by simp; omega)
                (setRange c.toList (l.o + (off + n2 * i.size)) c'.toList).toArray e0 (fun c2 e2 fz2 hh => by rw [q1] at hh; cases hh; simp [length_setRange _ _ _ hr])
                (fun j v hj => by
                  rw [List.getElem?_toArray, getElem?_setRange _ _ _ hr]
                  by_cases hjo : j < old.length
                  · rw [List.getElem?_append_left hjo] at hj
                    rw [if_neg (by omega)]
                    rw [hold, List.getElem?_take, if_pos (by omega), List.getElem?_drop] at hj
                    obtain ⟨v', k1, k2⟩ := q5 _ v hj
                    exact ⟨v', by rw [Array.getElem?_toList, Nat.add_assoc]; exact k1, k2⟩
                  · rw [List.getElem?_append_right (by omega)] at hj
                    obtain ⟨v', k1, k2⟩ := hcv.2 _ v hj
                    have hjl := (List.getElem?_eq_some_iff.1 k1).1
                    refine ⟨v', ?_, k2⟩
                    rw [if_pos (by omega), ← k1]
                    congr 1
                    omega)
              refine ⟨_, .slice (some ⟨l.b, l.o + off, none⟩) (n2 + n) cap', _, app_in (n := n) (a := ⟨l.b, l.o + off, none⟩) ht hu' hu hd hint hs hl hc (show n2 + n ≤ cap' by omega) (by rw [add_none, Nat.add_assoc]; exact hst), le, ⟨?_, by exact R.os, by exact R.tape, by exact R.output⟩, ?_⟩
              · rw [setRow_heap' w l.b _ e0 ⟨c, q1⟩]
                simp only [Nat.add_zero]
                exact R'
              · refine .slice id 0 (2 * i.size) (n2 + n) (n2 + n) cap' ⟨l.b, l.o + off, l.n - off⟩ (upd_self _ _ _) (Nat.le_refl _) (by omega) (by omega) (fun _ => ?_)
                show 0 + cap' * (2 * i.size / 2) ≤ l.n - off
                rw [show 2 * i.size / 2 = i.size by omega]
                omega
  · cases hv

end
end Go.Proofs.YtapkmhneneffdaaGreatDoor.Mx
