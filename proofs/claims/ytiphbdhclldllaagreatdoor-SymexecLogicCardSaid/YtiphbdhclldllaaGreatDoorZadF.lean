/- Single operations, third part. -/
import Derived.Test.YtiphbdhclldllaaGreatDoorZadE
set_option linter.unusedSimpArgs false
set_option linter.unusedVariables false
namespace Go.Proofs.YtiphbdhclldllaaGreatDoor.Mx
open Go

section
variable {P : Program} {B0 : Bs} {w0 : World} {β : Emb} {H : Heap} {w : World}

theorem leI_eq (a b : Int) : (!ltI b a) = decide (a ≤ b) := by
  rw [ltI_eq]
  by_cases h : a ≤ b
  · have : ¬ b < a := by omega
    simp [h, this]
  · have : b < a := by omega
    simp [h, this]

theorem intBin_sim {op : BinOp} {k : IntKind} {a b : Int} {v : Value} (h : intBin op k a b = some v) (hns : op ≠ .shl ∧ op ≠ .shr) (t : Nat) :
    (binOp op t (.int k a) (.int k b)).run P w = .ok v w ∧ VR β v v := by
  cases op <;> simp only [intBin] at h
  case shl => exact absurd rfl hns.1
  case shr => exact absurd rfl hns.2
  case quo => split at h <;> cases h; rename_i hb; exact ⟨by simp [binOp, Op.intDiv, hb], .int _ _⟩
  case rem => split at h <;> cases h; rename_i hb; exact ⟨by simp [binOp, Op.intDiv, hb], .int _ _⟩
  case eql => cases h; exact ⟨by rw [eqI_eq]; simp [binOp, Op.intCmp], .bool _⟩
  case neq => cases h; exact ⟨by rw [eqI_eq]; simp [binOp, Op.intCmp, bne], .bool _⟩
  case lss => cases h; exact ⟨by rw [ltI_eq]; simp [binOp, Op.intCmp], .bool _⟩
  case leq => cases h; exact ⟨by rw [leI_eq]; simp [binOp, Op.intCmp], .bool _⟩
  case gtr => cases h; exact ⟨by rw [ltI_eq]; simp [binOp, Op.intCmp], .bool _⟩
  case geq => cases h; exact ⟨by rw [leI_eq]; simp [binOp, Op.intCmp], .bool _⟩
  all_goals (cases h; refine ⟨by simp [binOp, Op.intArith, Op.intBits, Op.intCmp], ?_⟩; exact .int _ _)

theorem strBin_sim {op : BinOp} {a b : ByteArray} {v : Value} (h : strBin op a b = some v) (t : Nat) :
    (binOp op t (.string a) (.string b)).run P w = .ok v w ∧ VR β v v := by
  have hm : IntKind.i64.max = 9223372036854775807 := by decide
  cases op <;> simp only [strBin] at h
  case add =>
    split at h <;> cases h
    rename_i hle
    refine ⟨?_, .str _⟩
    have hn : ¬ (((a.size + b.size : Nat) : Int) > IntKind.i64.max) := by rw [hm]; omega
    simp only [binOp, Op.stringOp]
    rw [if_neg hn]; rfl
  all_goals first
    | (cases h; refine ⟨by simp [binOp, Op.stringOp], ?_⟩; exact .bool _)
    | cases h

theorem guard_ok {op : BinOp} {t : Nat} {ox oy : Operand} {a b : Value} (h1 : a ≠ .nilIface) (h2 : ∀ c, a ≠ .agg c) : (eqGuard op t ox oy a b).run P w = .ok () w := by
  unfold eqGuard
  cases a
  case nilIface => exact absurd rfl h1
  case agg c => exact absurd rfl (h2 c)
  all_goals (cases op <;> rfl)

theorem eqIn_bool {t : Nat} (hu : P.underlying t = some .bool) (d : Nat) (a b : Bool) : (Op.equalIn (d + 1) t (.bool a) (.bool b)).run P w = .ok (a == b) w := by
  simp [Op.equalIn, run_und hu]
theorem eqIn_int {t : Nat} {ik : IntKind} (hu : P.underlying t = some (.int ik)) (d : Nat) (k : IntKind) (a b : Int) : (Op.equalIn (d + 1) t (.int k a) (.int k b)).run P w = .ok (a == b) w := by
  simp [Op.equalIn, run_und hu]
theorem eqIn_str {t : Nat} (hu : P.underlying t = some .string) (d : Nat) (a b : ByteArray) : (Op.equalIn (d + 1) t (.string a) (.string b)).run P w = .ok (a == b) w := by
  simp [Op.equalIn, run_und hu]
theorem eqIn_ptr {t e : Nat} (hu : P.underlying t = some (.pointer e)) (d : Nat) (b : Option Addr) : (Op.equalIn (d + 1) t (.pointer none) (.pointer b)).run P w = .ok b.isNone w := by
  cases b <;> simp [Op.equalIn, run_und hu]
theorem eqIn_ptr2 {t e : Nat} (hu : P.underlying t = some (.pointer e)) (d : Nat) (a : Addr) : (Op.equalIn (d + 1) t (.pointer (some a)) (.pointer none)).run P w = .ok false w := by
  simp [Op.equalIn, run_und hu]
theorem eqIn_slc {t e : Nat} (hu : P.underlying t = some (.slice e)) (d l c l' c' : Nat) (b : Option Addr) : (Op.equalIn (d + 1) t (.slice none l c) (.slice b l' c')).run P w = .ok b.isNone w := by
  cases b <;> simp [Op.equalIn, run_und hu]
theorem eqIn_slc2 {t e : Nat} (hu : P.underlying t = some (.slice e)) (d l c l' c' : Nat) (a : Addr) : (Op.equalIn (d + 1) t (.slice (some a) l c) (.slice none l' c')).run P w = .ok false w := by
  simp [Op.equalIn, run_und hu]
theorem eqIn_map {t k e : Nat} (hu : P.underlying t = some (.map k e)) (d : Nat) (b : Option Nat) : (Op.equalIn (d + 1) t (.map none) (.map b)).run P w = .ok b.isNone w := by
  cases b <;> simp [Op.equalIn, run_und hu]
theorem eqIn_map2 {t k e : Nat} (hu : P.underlying t = some (.map k e)) (d : Nat) (a : Nat) : (Op.equalIn (d + 1) t (.map (some a)) (.map none)).run P w = .ok false w := by
  simp [Op.equalIn, run_und hu]
theorem eqIn_fnc {t : Nat} {p r : Array TypeId} {v : Bool} (hu : P.underlying t = some (.func p r v)) (d : Nat) : (Op.equalIn (d + 1) t .nilFunc .nilFunc).run P w = .ok true w := by
  simp [Op.equalIn, run_und hu]
theorem eqIn_fnc2 {t : Nat} {p r : Array TypeId} {v : Bool} (hu : P.underlying t = some (.func p r v)) (d : Nat) (f : Fn) (x y : Array Value) : (Op.equalIn (d + 1) t .nilFunc (.func f x y)).run P w = .ok false w := by
  simp [Op.equalIn, run_und hu]
theorem eqIn_fnc3 {t : Nat} {p r : Array TypeId} {v : Bool} (hu : P.underlying t = some (.func p r v)) (d : Nat) (f : Fn) (x y : Array Value) : (Op.equalIn (d + 1) t (.func f x y) .nilFunc).run P w = .ok false w := by
  simp [Op.equalIn, run_und hu]

/-! ### structs and arrays of plain values -/
theorem cellsEq_append : ∀ (l r : List LK) (X Y : List Value) (b : Bool), cellsEq (l ++ r) X Y = some b →
    ∃ b1, cellsEq l X Y = some b1 ∧ (b1 = false → b = false) ∧ (b1 = true → cellsEq r (X.drop l.length) (Y.drop l.length) = some b)
  | [], r, X, Y, b, h => ⟨true, by simp [cellsEq], by simp, fun _ => by simpa using h⟩
  | k :: l, r, [], Y, b, h => by simp [cellsEq] at h
  | k :: l, r, x :: X, [], b, h => by simp [cellsEq] at h
  | k :: l, r, x :: X, y :: Y, b, h => by
    simp only [List.cons_append, cellsEq] at h ⊢
    split at h
    · rename_i e
      obtain ⟨b1, h1, h2, h3⟩ := cellsEq_append l r X Y b h
      exact ⟨b1, h1, h2, fun hb => by simpa using h3 hb⟩
    · rename_i e
      cases h
      exact ⟨false, rfl, fun _ => rfl, fun h => by cases h⟩
    · cases h

theorem cellsEq_take : ∀ (l : List LK) (X Y : List Value) (b : Bool), cellsEq l X Y = some b → cellsEq l (X.take l.length) (Y.take l.length) = some b
  | [], X, Y, b, h => by simpa [cellsEq] using h
  | k :: l, [], Y, b, h => by simp [cellsEq] at h
  | k :: l, x :: X, [], b, h => by simp [cellsEq] at h
  | k :: l, x :: X, y :: Y, b, h => by
    simp only [List.length_cons, List.take_succ_cons, cellsEq] at h ⊢
    split at h
    · exact cellsEq_take l X Y b h
    · exact h
    · cases h

/-- What is told of a type's parts. -/
def PartOk (P : Program) (w : World) (d : Nat) (t : TypeId) (l : List LK) : Prop :=
  sizeOfT P t = some l.length → ∀ (n : Nat) (xs ys : Array Value) (o : Nat) (b : Bool), d ≤ n → cellsEq l (xs.toList.drop o) (ys.toList.drop o) = some b →
    ∃ x y, (part t xs o).run P w = .ok x w ∧ (part t ys o).run P w = .ok y w ∧ (Op.equalIn n t x y).run P w = .ok b w

theorem leaf_part {t : Nat} {d : TypeDesc} {k : LK} (hu : P.underlying t = some d) (hd : aggD d = false)
    (he : ∀ (n : Nat) x y b, leafEq k x y = some b → (Op.equalIn (n + 1) t x y).run P w = .ok b w)  (d0 : Nat) : PartOk P w (d0 + 1) t [k] := by
  intro _ n xs ys o b hn h
  cases hx : xs.toList.drop o with
  | nil => rw [hx] at h; simp [cellsEq] at h
  | cons x X =>
    cases hy : ys.toList.drop o with
    | nil => rw [hx, hy] at h; simp [cellsEq] at h
    | cons y Y =>
      rw [hx, hy] at h
      have gx : xs[o]? = some x := by rw [← Array.getElem?_toList]; have := congrArg (·[0]?) hx; simpa using this
      have gy : ys[o]? = some y := by rw [← Array.getElem?_toList]; have := congrArg (·[0]?) hy; simpa using this
      refine ⟨x, y, by simp [part, run_isAggD hu, hd, gx], by simp [part, run_isAggD hu, hd, gy], ?_⟩
      obtain ⟨m, rfl⟩ : ∃ m, n = m + 1 := ⟨n - 1, by omega⟩
      refine he m x y b ?_
      simp only [cellsEq] at h
      cases hq : leafEq k x y with
      | none => rw [hq] at h; cases h
      | some q => rw [hq] at h; cases q <;> simpa using h

theorem fields_eq {d : Nat} (hp : ∀ t l, plainL P d t = some l → PartOk P w d t l) {n : Nat} (hn : d ≤ n) {xs ys : Array Value} :
    ∀ (fs : List Field) (o : Nat) (r : List LK) (b : Bool), plainF P (plainL P d) fs o = some r → cellsEq r (xs.toList.drop o) (ys.toList.drop o) = some b →
    (forIn (m := Sem) fs ((none, ()) : Option Bool × Unit) (fun f _ =>
      if f.name ≠ "_" then do
        let x ← part f.type xs f.offset
        let y ← part f.type ys f.offset
        let e ← Op.equalIn n f.type x y
        if (!e) = true then pure (ForInStep.done (some false, ())) else pure (ForInStep.yield (none, ()))
      else pure (ForInStep.yield (none, ())))).run P w = .ok (if b then (none, ()) else (some false, ())) w := by
  intro fs
  induction fs with
  | nil => intro o r b h hc; simp only [plainF, Option.some.injEq] at h; subst h; simp only [cellsEq, Option.some.injEq] at hc; subst hc; simp
  | cons f fs ih =>
    intro o r b h hc
    simp only [plainF] at h
    split at h
    case h_2 => cases h
    rename_i l hl
    split at h
    case isFalse => cases h
    rename_i hcond
    obtain ⟨ho, hname, hs⟩ := hcond
    split at h
    case h_2 => cases h
    rename_i r' hr
    cases h
    obtain ⟨b1, h1, h2, h3⟩ := cellsEq_append l r' _ _ b hc
    rw [← ho] at h1
    obtain ⟨x, y, k1, k2, k3⟩ := hp _ _ hl hs n xs ys _ b1 hn h1
    simp only [List.forIn_cons, hname, ne_eq, not_false_eq_true, if_true, Sem.run_bind, k1, Result.andThen_ok, k2, k3]
    cases b1 with
    | false => rw [h2 rfl]; simp
    | true =>
      have h4 := h3 rfl
      simp only [List.drop_drop] at h4
      have := ih (o + l.length) r' b hr h4
      simpa using this

theorem elems_eq {d : Nat} {e : TypeId} {l : List LK} (hp : PartOk P w d e l) (hs : sizeOfT P e = some l.length) {n : Nat} (hn : d ≤ n) {xs ys : Array Value} :
    ∀ (len k : Nat) (b : Bool), cellsEq (List.replicate len l).flatten (xs.toList.drop (k * l.length)) (ys.toList.drop (k * l.length)) = some b →
    (forIn (m := Sem) (List.range' k len) ((none, ()) : Option Bool × Unit) (fun i _ => do
        let x ← part e xs (i * l.length)
        let y ← part e ys (i * l.length)
        let r ← Op.equalIn n e x y
        if (!r) = true then pure (ForInStep.done (some false, ())) else pure (ForInStep.yield (none, ())))).run P w = .ok (if b then (none, ()) else (some false, ())) w := by
  intro len
  induction len with
  | zero => intro k b h; simp only [List.replicate_zero, List.flatten_nil, cellsEq, Option.some.injEq] at h; subst h; simp
  | succ len ih =>
    intro k b h
    rw [List.replicate_succ, List.flatten_cons] at h
    obtain ⟨b1, h1, h2, h3⟩ := cellsEq_append l _ _ _ b h
    obtain ⟨x, y, k1, k2, k3⟩ := hp hs n xs ys _ b1 hn h1
    simp only [List.range'_succ, List.forIn_cons, Sem.run_bind, k1, Result.andThen_ok, k2, k3]
    cases b1 with
    | false => rw [h2 rfl]; simp
    | true =>
      have h4 := h3 rfl
      simp only [List.drop_drop] at h4
      have := ih (k + 1) b (by rw [Nat.add_mul, Nat.one_mul]; exact h4)
      simpa using this

theorem agg_part {d : Nat} {t : TypeId} {l : List LK} {ds : TypeDesc} (hu : P.underlying t = some ds) (hd : aggD ds = true)
    (he : ∀ (n : Nat) (xs ys : Array Value) (b : Bool), d ≤ n → cellsEq l xs.toList ys.toList = some b → (Op.equalIn (n + 1) t (.agg xs) (.agg ys)).run P w = .ok b w) : PartOk P w (d + 1) t l := by
  intro hs n xs ys o b hn h
  refine ⟨.agg (xs.extract o (o + l.length)), .agg (ys.extract o (o + l.length)), by simp [part, run_isAggD hu, hd, run_sizeOfT hs], by simp [part, run_isAggD hu, hd, run_sizeOfT hs], ?_⟩
  obtain ⟨m, rfl⟩ : ∃ m, n = m + 1 := ⟨n - 1, by omega⟩
  refine he m _ _ b (by omega) ?_
  simp only [Array.toList_extract, List.extract_eq_take_drop, Nat.add_sub_cancel_left]
  exact cellsEq_take l _ _ b h

theorem equal_plain : ∀ (d : Nat) (t : TypeId) (l : List LK), plainL P d t = some l → PartOk P w d t l ∧
    ∀ ds, P.underlying t = some ds → aggD ds = true → ∀ (n : Nat) (xs ys : Array Value) (b : Bool), d ≤ n + 1 → cellsEq l xs.toList ys.toList = some b → (Op.equalIn (n + 1) t (.agg xs) (.agg ys)).run P w = .ok b w := by
  intro d
  induction d with
  | zero => intro t l h; simp [plainL] at h
  | succ d ih =>
    intro t l h
    simp only [plainL] at h
    split at h
    · rename_i hu
      cases h
      refine ⟨leaf_part hu rfl (fun n x y b h => ?_) d, fun ds h1 h2 => by rw [hu] at h1; cases h1; cases h2⟩
      cases x <;> cases y <;> simp [leafEq] at h
      subst h; simp [Op.equalIn, run_und hu]
    · rename_i ik hu
      cases h
      refine ⟨leaf_part hu rfl (fun n x y b h => ?_) d, fun ds h1 h2 => by rw [hu] at h1; cases h1; cases h2⟩
      cases x <;> cases y <;> simp [leafEq] at h
      obtain ⟨h1, h2⟩ := h
      subst h1 h2; simp [Op.equalIn, run_und hu]
    · rename_i hu
      cases h
      refine ⟨leaf_part hu rfl (fun n x y b h => ?_) d, fun ds h1 h2 => by rw [hu] at h1; cases h1; cases h2⟩
      cases x <;> cases y <;> simp [leafEq] at h
      subst h; simp [Op.equalIn, run_und hu]
    · rename_i fields hu
      split at h
      · cases h
      rename_i hst
      have main : ∀ (n : Nat) (xs ys : Array Value) (b : Bool), d ≤ n → cellsEq l xs.toList ys.toList = some b → (Op.equalIn (n + 1) t (.agg xs) (.agg ys)).run P w = .ok b w := by
        intro n xs ys b hn hc
        have hst' : P.stoodInHeld t = false := by simpa using hst
        have := fields_eq (fun t l h => (ih t l h).1) hn fields.toList 0 l b h (by simpa using hc) (xs := xs) (ys := ys)
        simp only [Op.equalIn, Sem.run_bind, run_und hu, Result.andThen_ok]
        rw [show (Sem.run P program w) = .ok P w from rfl, Result.andThen_ok, if_neg (by simp [hst']), ← Array.forIn_toList, Sem.run_bind, this]
        cases b <;> rfl
      exact ⟨agg_part hu rfl main, fun ds _ _ n xs ys b hn hc => main n xs ys b (by omega) hc⟩
    · rename_i len e hu
      split at h
      case h_2 => cases h
      rename_i k hk
      split at h
      case isFalse => cases h
      rename_i hs
      cases h
      have main : ∀ (n : Nat) (xs ys : Array Value) (b : Bool), d ≤ n → cellsEq (List.replicate len k).flatten xs.toList ys.toList = some b → (Op.equalIn (n + 1) t (.agg xs) (.agg ys)).run P w = .ok b w := by
        intro n xs ys b hn hc
        have := elems_eq (ih e k hk).1 hs hn len 0 b (by simpa using hc) (xs := xs) (ys := ys)
        simp only [Op.equalIn, Sem.run_bind, run_und hu, Result.andThen_ok, run_sizeOfT hs]
        rw [Std.Legacy.Range.forIn_eq_forIn_range']
        simp only [Std.Legacy.Range.size, Nat.sub_zero, Nat.add_sub_cancel, Nat.div_one]
        rw [this]
        cases b <;> rfl
      exact ⟨agg_part hu rfl main, fun ds _ _ n xs ys b hn hc => main n xs ys b (by omega) hc⟩
    · cases h

theorem guard_agg {op : BinOp} {t : Nat} {ox oy : Operand} {a b : Array Value} (h : P.eqGuardType P.depth t = false) : (eqGuard op t ox oy (.agg a) (.agg b)).run P w = .ok () w := by
  unfold eqGuard
  generalize Op.maxDepth = D
  have key : ∀ s : Sem Unit, Sem.run P (do let p ← program; let q ← program; if (!p.eqGuardType q.depth t) = true then pure () else s) w = .ok () w := by
    intro s
    rw [Sem.run_bind, show (Sem.run P program w) = .ok P w from rfl, Result.andThen_ok, Sem.run_bind, show (Sem.run P program w) = .ok P w from rfl, Result.andThen_ok, if_pos (by rw [h]; rfl)]
    rfl
  cases op
  case eql => exact key _
  case neq => exact key _
  all_goals rfl

theorem vr_agg {β : Emb} {x x' : Value} (h : VR β x x') {cs : Array Value} (hx : x = .agg cs) : ∃ cs', x' = .agg cs' ∧ VRs β cs.toList cs'.toList := by
  subst hx
  cases h with
  | agg _ c' hc gc => exact ⟨c', rfl, vrs_of_arr hc gc⟩

theorem leafEq_vr {β : Emb} {k : LK} {x x' y y' : Value} {b : Bool} (h : leafEq k x y = some b) (hx : VR β x x') (hy : VR β y y') : x' = x ∧ y' = y := by
  cases k <;> cases x <;> cases y <;> simp [leafEq] at h <;> cases hx <;> cases hy <;> exact ⟨rfl, rfl⟩

theorem cellsEq_vr {β : Emb} : ∀ {l : List LK} {X X' Y Y' : List Value} {b : Bool}, cellsEq l X Y = some b → VRs β X X' → VRs β Y Y' → cellsEq l X' Y' = some b
  | [], X, X', Y, Y', b, h, _, _ => by simpa [cellsEq] using h
  | k :: l, [], X', Y, Y', b, h, _, _ => by simp [cellsEq] at h
  | k :: l, x :: X, X', [], Y', b, h, _, _ => by simp [cellsEq] at h
  | k :: l, x :: X, [], y :: Y, Y', b, h, hx, _ => by have := hx.1; simp at this
  | k :: l, x :: X, x' :: X', y :: Y, [], b, h, _, hy => by have := hy.1; simp at this
  | k :: l, x :: X, x' :: X', y :: Y, y' :: Y', b, h, hx, hy => by
    have hx0 : VR β x x' := by obtain ⟨u, h1, h2⟩ := hx.2 0 x rfl; simp at h1; subst h1; exact h2
    have hy0 : VR β y y' := by obtain ⟨u, h1, h2⟩ := hy.2 0 y rfl; simp at h1; subst h1; exact h2
    have hxt : VRs β X X' := ⟨by have := hx.1; simpa using this, fun i u hu => by obtain ⟨u', h1, h2⟩ := hx.2 (i + 1) u (by simpa using hu); exact ⟨u', by simpa using h1, h2⟩⟩
    have hyt : VRs β Y Y' := ⟨by have := hy.1; simpa using this, fun i u hu => by obtain ⟨u', h1, h2⟩ := hy.2 (i + 1) u (by simpa using hu); exact ⟨u', by simpa using h1, h2⟩⟩
    simp only [cellsEq] at h ⊢
    cases hq : leafEq k x y with
    | none => rw [hq] at h; cases h
    | some q =>
      obtain ⟨rfl, rfl⟩ := leafEq_vr hq hx0 hy0
      rw [hq] at h ⊢
      cases q
      · exact h
      · exact cellsEq_vr h hxt hyt

theorem equal_leaf {t : Nat} {k : LK} {x y : Value} {b : Bool} (h : leafEq k x y = some b) (hk : (k = .b → P.underlying t = some .bool) ∧ (k = .i → ∃ ik, P.underlying t = some (.int ik)) ∧ (k = .s → P.underlying t = some .string)) :
    (Op.equal t x y).run P w = .ok b w := by
  cases k <;> cases x <;> cases y <;> simp [leafEq] at h
  · subst h; exact eqIn_bool (hk.1 rfl) 9999 _ _
  · obtain ⟨ik, hu⟩ := hk.2.1 rfl
    obtain ⟨h1, h2⟩ := h
    subst h1 h2; exact eqIn_int hu 9999 _ _ _
  · subst h; exact eqIn_str (hk.2.2 rfl) 9999 _ _

theorem guard_leaf {op : BinOp} {t : Nat} {ox oy : Operand} {k : LK} {x y : Value} {b : Bool} (h : leafEq k x y = some b) : (eqGuard op t ox oy x y).run P w = .ok () w := by
  refine guard_ok ?_ ?_ <;> cases k <;> cases x <;> cases y <;> simp [leafEq] at h <;> simp

/-- What the mode says of the type. -/
theorem eqMode_leaf {t : Nat} {k : LK} (h : eqMode P t = .lf k) : (k = .b → P.underlying t = some .bool) ∧ (k = .i → ∃ ik, P.underlying t = some (.int ik)) ∧ (k = .s → P.underlying t = some .string) := by
  unfold eqMode at h
  split at h
  case h_8 | h_9 => split at h <;> (try (cases h; done)); split at h <;> cases h
  all_goals first
    | (cases h; done)
    | (rename_i hu; cases h; exact ⟨nofun, nofun, fun _ => hu⟩)
    | (rename_i hu; cases h; exact ⟨fun _ => hu, nofun, nofun⟩)
    | (rename_i hu; cases h; exact ⟨nofun, fun _ => ⟨_, hu⟩, nofun⟩)

theorem eqMode_cells {t : Nat} {l : List LK} (h : eqMode P t = .cells l) : P.eqGuardType P.depth t = false ∧ plainL P 40 t = some l ∧ ∃ d, P.underlying t = some d ∧ aggD d = true := by
  unfold eqMode at h
  split at h
  case h_8 | h_9 =>
    rename_i hu
    split at h
    · cases h
    rename_i hg
    split at h
    · rename_i l' hl; cases h; exact ⟨by simpa using hg, hl, _, hu, rfl⟩
    · cases h
  all_goals cases h

theorem eqBy_sim {t : Nat} {x x' y y' : Value} {b : Bool} (h : eqBy (eqMode P t) x y = some b) (hx : VR β x x') (hy : VR β y y') :
    (Op.equal t x' y').run P w = .ok b w ∧ (∀ op ox oy, (eqGuard op t ox oy x' y').run P w = .ok () w) ∧
      ((∀ k a k' b, x = .int k a → y = .int k' b → False) → (∀ a b, x = .string a → y = .string b → False) → (∀ k n, x' ≠ .int k n) ∧ (∀ s, x' ≠ .string s) ∧ (∀ k n, x' ≠ .float k n) ∧ (∀ k n m, x' ≠ .complex k n m)) := by
  cases hm : eqMode P t with
  | no => rw [hm] at h; cases h
  | lf k =>
    rw [hm] at h
    simp only [eqBy] at h
    obtain ⟨rfl, rfl⟩ := leafEq_vr h hx hy
    refine ⟨equal_leaf h (eqMode_leaf hm), fun _ _ _ => guard_leaf h, fun h1 h2 => ?_⟩
    cases k <;> cases x' <;> cases y' <;> simp [leafEq] at h
    · exact ⟨nofun, nofun, nofun, nofun⟩
    · exact (h1 _ _ _ _ rfl rfl).elim
    · exact (h2 _ _ rfl rfl).elim
  | cells l =>
    rw [hm] at h
    obtain ⟨g1, g2, d, g3, g4⟩ := eqMode_cells hm
    simp only [eqBy, aggEq] at h
    split at h
    case h_2 => cases h
    rename_i xs ys
    split at h
    case isFalse => cases h
    obtain ⟨xs', rfl, k1⟩ := vr_agg hx rfl
    obtain ⟨ys', rfl, k2⟩ := vr_agg hy rfl
    exact ⟨(equal_plain 40 t l g2).2 d g3 g4 9999 xs' ys' b (by omega) (cellsEq_vr h k1 k2), fun _ _ _ => guard_agg g1, fun _ _ => ⟨nofun, nofun, nofun, nofun⟩⟩
  | ptr =>
    rw [hm] at h
    obtain ⟨e, hu⟩ : ∃ e, P.underlying t = some (.pointer e) := by
      unfold eqMode at hm
      split at hm
      case h_8 | h_9 => split at hm <;> (try (cases hm; done)); split at hm <;> cases hm
      all_goals first
        | (cases hm; done)
        | (rename_i hu; exact ⟨_, hu⟩)
    simp only [eqBy, ptrEq] at h
    split at h
    · cases h; cases hx; cases hy <;>
        exact ⟨eqIn_ptr hu 9999 _, fun _ _ _ => guard_ok nofun nofun, fun _ _ => ⟨nofun, nofun, nofun, nofun⟩⟩
    · cases h; cases hx; cases hy
      exact ⟨eqIn_ptr2 hu 9999 _, fun _ _ _ => guard_ok nofun nofun, fun _ _ => ⟨nofun, nofun, nofun, nofun⟩⟩
    · cases h
  | slc =>
    rw [hm] at h
    obtain ⟨e, hu⟩ : ∃ e, P.underlying t = some (.slice e) := by
      unfold eqMode at hm
      split at hm
      case h_8 | h_9 => split at hm <;> (try (cases hm; done)); split at hm <;> cases hm
      all_goals first
        | (cases hm; done)
        | (rename_i hu; exact ⟨_, hu⟩)
    simp only [eqBy, slcEq] at h
    split at h
    · cases h; cases hx; cases hy <;>
        exact ⟨eqIn_slc hu 9999 _ _ _ _ _, fun _ _ _ => guard_ok nofun nofun, fun _ _ => ⟨nofun, nofun, nofun, nofun⟩⟩
    · cases h; cases hx <;> cases hy <;>
        exact ⟨eqIn_slc2 hu 9999 _ _ _ _ _, fun _ _ _ => guard_ok nofun nofun, fun _ _ => ⟨nofun, nofun, nofun, nofun⟩⟩
    · cases h
  | mp =>
    rw [hm] at h
    obtain ⟨k, e, hu⟩ : ∃ k e, P.underlying t = some (.map k e) := by
      unfold eqMode at hm
      split at hm
      case h_8 | h_9 => split at hm <;> (try (cases hm; done)); split at hm <;> cases hm
      all_goals first
        | (cases hm; done)
        | (rename_i hu; exact ⟨_, _, hu⟩)
    simp only [eqBy, mapEq] at h
    split at h
    · cases h; cases hx; cases hy <;>
        exact ⟨eqIn_map hu 9999 _, fun _ _ _ => guard_ok nofun nofun, fun _ _ => ⟨nofun, nofun, nofun, nofun⟩⟩
    · cases h; cases hx; cases hy
      exact ⟨eqIn_map2 hu 9999 _, fun _ _ _ => guard_ok nofun nofun, fun _ _ => ⟨nofun, nofun, nofun, nofun⟩⟩
    · cases h
  | fnc =>
    rw [hm] at h
    obtain ⟨p, r, v, hu⟩ : ∃ p r v, P.underlying t = some (.func p r v) := by
      unfold eqMode at hm
      split at hm
      case h_8 | h_9 => split at hm <;> (try (cases hm; done)); split at hm <;> cases hm
      all_goals first
        | (cases hm; done)
        | (rename_i hu; exact ⟨_, _, _, hu⟩)
    simp only [eqBy, fncEq] at h
    split at h
    · cases h; cases hx; cases hy
      exact ⟨eqIn_fnc hu 9999, fun _ _ _ => guard_ok nofun nofun, fun _ _ => ⟨nofun, nofun, nofun, nofun⟩⟩
    · cases h; cases hx; cases hy
      exact ⟨eqIn_fnc2 hu 9999 _ _ _, fun _ _ _ => guard_ok nofun nofun, fun _ _ => ⟨nofun, nofun, nofun, nofun⟩⟩
    · cases h; cases hx; cases hy
      exact ⟨eqIn_fnc3 hu 9999 _ _ _, fun _ _ _ => guard_ok nofun nofun, fun _ _ => ⟨nofun, nofun, nofun, nofun⟩⟩
    · cases h

theorem binOp_eql {t : Nat} {x y : Value} (h1 : ∀ k n, x ≠ .int k n) (h2 : ∀ s, x ≠ .string s) (h3 : ∀ k n, x ≠ .float k n) (h4 : ∀ k n m, x ≠ .complex k n m) :
    binOp .eql t x y = (do pure (.bool (← Op.equal t x y))) ∧ binOp .neq t x y = (do pure (.bool (!(← Op.equal t x y)))) := by
  cases x <;> first
    | exact absurd rfl (h1 _ _)
    | exact absurd rfl (h2 _)
    | exact absurd rfl (h3 _ _)
    | exact absurd rfl (h4 _ _ _)
    | (exact ⟨rfl, rfl⟩)

theorem bin_sim (R : WRel B0 w0 β H w) {op : BinOp} {t : Nat} {ox oy : Operand} {x x' y y' v : Value} (h : binV op (eqMode P t) x y = some v) (hx : VR β x x') (hy : VR β y y') :
    Good B0 w0 β H v ((do eqGuard op t ox oy x' y'; binOp op t x' y' : Sem Value).run P w) := by
  have fin : ∀ v', (binOp op t x' y').run P w = .ok v' w ∧ VR β v v' → (eqGuard op t ox oy x' y').run P w = .ok () w → Good B0 w0 β H v ((do eqGuard op t ox oy x' y'; binOp op t x' y' : Sem Value).run P w) := by
    intro v' hr h1
    refine Good.same R (v' := v') ?_ hr.2
    rw [Sem.run_bind, h1, Result.andThen_ok, hr.1]
  unfold binV at h
  split at h
  · split at h
    · cases h
    rename_i hb
    cases h; cases hx; cases hy
    exact fin _ ⟨by simp [binOp, Op.shift, hb], .int _ _⟩ (guard_ok (by simp) (by simp))
  · split at h
    · cases h
    rename_i hb
    cases h; cases hx; cases hy
    exact fin _ ⟨by simp [binOp, Op.shift, hb], .int _ _⟩ (guard_ok (by simp) (by simp))
  · rename_i k a k' b n1 n2
    split at h
    case isFalse => cases h
    rename_i hk
    subst hk
    cases hx; cases hy
    have hns : op ≠ .shl ∧ op ≠ .shr := ⟨fun e => n1 e, fun e => n2 e⟩
    exact fin _ (intBin_sim h hns t) (guard_ok (by simp) (by simp))
  · cases hx; cases hy
    exact fin _ (strBin_sim h t) (guard_ok (by simp) (by simp))
  · rename_i n1 n2
    cases hb : eqBy (eqMode P t) x y with
    | none => rw [hb] at h; cases h
    | some b =>
      rw [hb] at h; cases h
      obtain ⟨g1, g2, g3⟩ := eqBy_sim (w := w) hb hx hy
      obtain ⟨g4, g5, g6, g7⟩ := g3 (fun k a k' b e1 e2 => n1 k a k' b e1 e2) (fun a b e1 e2 => n2 a b e1 e2)
      exact fin (.bool b) ⟨by rw [(binOp_eql g4 g5 g6 g7).1]; simp [g1], .bool _⟩ (g2 _ _ _)
  · rename_i n1 n2
    cases hb : eqBy (eqMode P t) x y with
    | none => rw [hb] at h; cases h
    | some b =>
      rw [hb] at h; cases h
      obtain ⟨g1, g2, g3⟩ := eqBy_sim (w := w) hb hx hy
      obtain ⟨g4, g5, g6, g7⟩ := g3 (fun k a k' b e1 e2 => n1 k a k' b e1 e2) (fun a b e1 e2 => n2 a b e1 e2)
      exact fin (.bool !b) ⟨by rw [(binOp_eql g4 g5 g6 g7).2]; simp [g1], .bool _⟩ (g2 _ _ _)
  · cases h

/-! ### addresses, parts -/
theorem faddr_sim (R : WRel B0 w0 β H w) {t : Nat} {fields : Array Field} {f : Nat} {fl : Field} {s id off : Nat} {x' : Value} (hu : P.underlying t = some (.struct fields)) (hf : fields[f]? = some fl)
    (hs : sizeOfT P fl.type = some s) (hpos : 0 < s) (hx : VR β (.pointer (some ⟨id, off, none⟩)) x') : Good B0 w0 β H (.pointer (some ⟨id, off + fl.offset, none⟩)) ((Instr.fieldAt t x' f).run P w) := by
  cases hx with
  | ptr _ _ l hl =>
  have hne : ¬ s = 0 := by omega
  refine Good.same R (v' := .pointer (some ⟨l.b, l.o + (off + fl.offset), none⟩)) ?_ (.ptr _ _ l hl)
  simp [Instr.fieldAt, run_und hu, hf, Instr.sureAddr, fieldPlace, run_sizeOfT hs, hne, add_none, Nat.add_assoc]

theorem part_sim {β : Emb} {t n : Nat} {d : TypeDesc} {cs cs' : Array Value} {off : Nat} {v : Value} (hu : P.underlying t = some d) (hs : sizeOfT P t = some n) (hc : VRs β cs.toList cs'.toList)
    (hv : partV (aggD d) cs off n = some v) : ∃ v', (part t cs' off).run P w = .ok v' w ∧ VR β v v' := by
  unfold partV at hv
  cases hd : aggD d with
  | true =>
    rw [hd] at hv; simp only [if_true] at hv; cases hv
    refine ⟨.agg (cs'.extract off (off + n)), by simp [part, run_isAggD hu, hd, run_sizeOfT hs], .agg' ?_⟩
    simp only [Array.toList_extract, List.extract_eq_take_drop]
    exact (hc.drop _).take _
  | false =>
    rw [hd] at hv; simp only [Bool.false_eq_true, if_false] at hv
    obtain ⟨v', g1, g2⟩ := hc.2 off v (by rw [Array.getElem?_toList]; exact hv)
    rw [Array.getElem?_toList] at g1
    exact ⟨v', by simp [part, run_isAggD hu, hd, g1], g2⟩

theorem field_sim (R : WRel B0 w0 β H w) {t : Nat} {fields : Array Field} {f : Nat} {fl : Field} {s : Nat} {d : TypeDesc} {cs : Array Value} {x' v : Value} (hu : P.underlying t = some (.struct fields)) (hf : fields[f]? = some fl)
    (hs : sizeOfT P fl.type = some s) (hd : P.underlying fl.type = some d) (hx : VR β (.agg cs) x') (hv : partV (aggD d) cs fl.offset s = some v) : Good B0 w0 β H v ((Instr.field t x' f).run P w) := by
  cases hx with
  | agg _ c' hc gc =>
  obtain ⟨v', g1, g2⟩ := part_sim (w := w) hd hs (vrs_of_arr hc gc) hv
  refine Good.same R (v' := v') ?_ g2
  simp [Instr.field, run_und hu, hf, asAgg, g1]

theorem iaddr_sim (R : WRel B0 w0 β H w) {t e s : Nat} {x x' i i' v : Value} (hu : P.underlying t = some (.slice e)) (hs : sizeOfT P e = some s) (hx : VR β x x') (hi : VR β i i')
    (hv : iaddrV s x i = some v) : Good B0 w0 β H v ((Instr.indexAt t x' i').run P w) := by
  unfold iaddrV at hv
  split at hv
  case h_2 => cases hv
  rename_i id off mk ln cp kk n
  split at hv
  case isFalse => cases hv
  rename_i hb
  cases hv; cases hi
  cases hx with
  | slice _ _ m _ _ cap' l hl h1 h2 h3 h4 =>
    refine Good.same R (v' := .pointer (some ⟨l.b, l.o + (off + n.toNat * s), none⟩)) ?_ (.ptr _ _ l hl)
    simp [Instr.indexAt, run_und hu, asIntOf, run_sizeOfT hs, hb.1, hb.2, add_none, Nat.add_assoc]
  | slice0 id off m A => omega

theorem aaddr_sim (R : WRel B0 w0 β H w) {t e s n : Nat} {x x' i i' v : Value} (hu : P.underlying t = some (.array n e)) (hs : sizeOfT P e = some s) (hx : VR β x x') (hi : VR β i i')
    (hv : aaddrV n s x i = some v) : Good B0 w0 β H v ((Instr.indexAt t x' i').run P w) := by
  unfold aaddrV at hv
  split at hv
  case h_2 => cases hv
  rename_i id off kk n
  split at hv
  case isFalse => cases hv
  rename_i hb
  cases hv; cases hi
  cases hx with
  | ptr _ _ l hl =>
    refine Good.same R (v' := .pointer (some ⟨l.b, l.o + (off + n.toNat * s), none⟩)) ?_ (.ptr _ _ l hl)
    simp [Instr.indexAt, run_und hu, asIntOf, run_sizeOfT hs, hb.1, hb.2, add_none, Nat.add_assoc, Instr.sureAddr]

theorem aindex_sim (R : WRel B0 w0 β H w) {t e s n : Nat} {d : TypeDesc} {x x' i i' v : Value} (hu : P.underlying t = some (.array n e)) (hs : sizeOfT P e = some s) (hd : P.underlying e = some d) (hx : VR β x x') (hi : VR β i i')
    (hv : aindexV (aggD d) n s x i = some v) : Good B0 w0 β H v ((Instr.index t x' i').run P w) := by
  unfold aindexV at hv
  split at hv
  case h_2 => cases hv
  split at hv
  case isFalse => cases hv
  rename_i hb
  cases hi
  cases hx with
  | agg _ c' hc gc =>
  obtain ⟨v', g1, g2⟩ := part_sim (w := w) hd hs (vrs_of_arr hc gc) hv
  refine Good.same R (v' := v') ?_ g2
  simp [Instr.index, run_und hu, asIntOf, run_sizeOfT hs, hb.1, hb.2, g1]

theorem strindex_sim (R : WRel B0 w0 β H w) {t : Nat} {x x' i i' v : Value} (hu : P.underlying t = some .string) (hx : VR β x x') (hi : VR β i i')
    (hv : strindexV x i = some v) : Good B0 w0 β H v ((Instr.index t x' i').run P w) := by
  unfold strindexV at hv
  split at hv
  case h_2 => cases hv
  split at hv
  case isFalse => cases hv
  rename_i hb
  cases hi; cases hx
  cases hg : (_ : ByteArray)[(_ : Int).toNat]? with
  | none => rw [hg] at hv; cases hv
  | some u =>
    rw [hg] at hv; cases hv
    refine Good.same R (v' := .int .u8 u.toNat) ?_ (.int _ _)
    simp [Instr.index, run_und hu, asIntOf, hb, hg]

theorem ext_sim (R : WRel B0 w0 β H w) {i : Nat} {vs : Array Value} {x' v : Value} (hx : VR β (.tuple vs) x') (hv : vs[i]? = some v) : Good B0 w0 β H v ((Instr.extract x' i).run P w) := by
  cases hx with
  | tuple _ c' hc gc =>
  obtain ⟨v', g1, g2⟩ := (vrs_of_arr hc gc).2 i v (by rw [Array.getElem?_toList]; exact hv)
  rw [Array.getElem?_toList] at g1
  refine Good.same R (v' := v') ?_ g2
  simp [Instr.extract, g1]

theorem len_sim (R : WRel B0 w0 β H w) {t e ty n cap : Nat} {ts : Array TypeId} {a : Option Addr} {x' : Value} (ht : ts[0]? = some t) (hu : P.underlying t = some (.slice e)) (hx : VR β (.slice a n cap) x') :
    Good B0 w0 β H (.int .i64 n) ((Builtin.len_ ts ty #[x']).run P w) := by
  refine Good.same R (v' := .int .i64 n) ?_ (.int _ _)
  cases hx <;> simp [Builtin.len_, ht, run_und hu, goInt]

theorem strlen_sim (R : WRel B0 w0 β H w) {t ty : Nat} {ts : Array TypeId} {s : ByteArray} {x' : Value} (ht : ts[0]? = some t) (hu : P.underlying t = some .string) (hx : VR β (.string s) x') :
    Good B0 w0 β H (.int .i64 s.size) ((Builtin.len_ ts ty #[x']).run P w) := by
  refine Good.same R (v' := .int .i64 s.size) ?_ (.int _ _)
  cases hx
  simp [Builtin.len_, ht, run_und hu, goInt]

theorem minmax_sim (R : WRel B0 w0 β H w) {mx : Bool} {ts : Array TypeId} {ty : Nat} {x x' y y' v : Value} (hx : VR β x x') (hy : VR β y y') (hv : minmaxV mx x y = some v) :
    Good B0 w0 β H v ((if mx then Builtin.max_ ts ty #[x', y'] else Builtin.min_ ts ty #[x', y']).run P w) := by
  unfold minmaxV at hv
  split at hv
  case h_2 => cases hv
  cases hv; cases hx; cases hy
  cases mx
  · exact Good.same R (by simp [Builtin.min_, Builtin.min2]) (.int _ _)
  · exact Good.same R (by simp [Builtin.max_, Builtin.max2]) (.int _ _)

end
end Go.Proofs.YtiphbdhclldllaaGreatDoor.Mx
