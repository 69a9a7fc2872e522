/- Single operations, third part. -/
import Derived.Test.YtmgkdnncjapejaaZabE
set_option linter.unusedSimpArgs false
set_option linter.unusedVariables false
namespace Go.Proofs.Ytmgkdnncjapejaa.Abs
open Go

section
variable {P : Program} {B0 : Nat} {w0 : World} {β : Emb} {H : Heap} {w : World}

theorem intBin_sim {op : BinOp} {k : IntKind} {a b : Int} {v : Value} (h : intBin op k a b = some v) (hns : op ≠ .shl ∧ op ≠ .shr) (t : Nat) :
    (binOp op t (.int k a) (.int k b)).run P w = .ok v w ∧ VR β v v := by
  cases op <;> simp only [intBin] at h
  case shl => exact absurd rfl hns.1
  case shr => exact absurd rfl hns.2
  case quo => split at h <;> cases h; rename_i hb; exact ⟨by simp [binOp, Op.intDiv, hb], .int _ _⟩
  case rem => split at h <;> cases h; rename_i hb; exact ⟨by simp [binOp, Op.intDiv, hb], .int _ _⟩
  all_goals (cases h; refine ⟨by simp [binOp, Op.intArith, Op.intBits, Op.intCmp], ?_⟩; first | exact .int _ _ | exact .bool _)

theorem strBin_sim {op : BinOp} {a b : ByteArray} {v : Value} (h : strBin op a b = some v) (t : Nat) :
    (binOp op t (.string a) (.string b)).run P w = .ok v w ∧ VR β v v := by
  have hm : IntKind.i64.max = 9223372036854775807 := by decide
  cases op <;> simp only [strBin] at h
  case add =>
    split at h <;> cases h
    rename_i hle
    refine ⟨?_, .str _⟩
    have hn : ¬ (((a.size + b.size : Nat) : Int) > IntKind.i64.max) := by rw [hm]; omega
    simp only [binOp, Op.stringOp]
    rw [if_neg hn]; rfl
  all_goals first
    | (cases h; refine ⟨by simp [binOp, Op.stringOp], ?_⟩; exact .bool _)
    | cases h

theorem guard_ok {op : BinOp} {t : Nat} {ox oy : Operand} {a b : Value} (h1 : a ≠ .nilIface) (h2 : ∀ c, a ≠ .agg c) : (eqGuard op t ox oy a b).run P w = .ok () w := by
  unfold eqGuard
  cases a
  case nilIface => exact absurd rfl h1
  case agg c => exact absurd rfl (h2 c)
  all_goals (cases op <;> rfl)

theorem eqIn_bool {t : Nat} (hu : P.underlying t = some .bool) (d : Nat) (a b : Bool) : (Op.equalIn (d + 1) t (.bool a) (.bool b)).run P w = .ok (a == b) w := by
  simp [Op.equalIn, run_und hu]
theorem eqIn_ptr {t e : Nat} (hu : P.underlying t = some (.pointer e)) (d : Nat) (b : Option Addr) : (Op.equalIn (d + 1) t (.pointer none) (.pointer b)).run P w = .ok b.isNone w := by
  cases b <;> simp [Op.equalIn, run_und hu]
theorem eqIn_ptr2 {t e : Nat} (hu : P.underlying t = some (.pointer e)) (d : Nat) (a : Addr) : (Op.equalIn (d + 1) t (.pointer (some a)) (.pointer none)).run P w = .ok false w := by
  simp [Op.equalIn, run_und hu]
theorem eqIn_slc {t e : Nat} (hu : P.underlying t = some (.slice e)) (d l c l' c' : Nat) (b : Option Addr) : (Op.equalIn (d + 1) t (.slice none l c) (.slice b l' c')).run P w = .ok b.isNone w := by
  cases b <;> simp [Op.equalIn, run_und hu]
theorem eqIn_slc2 {t e : Nat} (hu : P.underlying t = some (.slice e)) (d l c l' c' : Nat) (a : Addr) : (Op.equalIn (d + 1) t (.slice (some a) l c) (.slice none l' c')).run P w = .ok false w := by
  simp [Op.equalIn, run_und hu]
theorem eqIn_fnc {t : Nat} {p r : Array TypeId} {v : Bool} (hu : P.underlying t = some (.func p r v)) (d : Nat) : (Op.equalIn (d + 1) t .nilFunc .nilFunc).run P w = .ok true w := by
  simp [Op.equalIn, run_und hu]
theorem eqIn_fnc2 {t : Nat} {p r : Array TypeId} {v : Bool} (hu : P.underlying t = some (.func p r v)) (d : Nat) (f : Fn) (x y : Array Value) : (Op.equalIn (d + 1) t .nilFunc (.func f x y)).run P w = .ok false w := by
  simp [Op.equalIn, run_und hu]
theorem eqIn_fnc3 {t : Nat} {p r : Array TypeId} {v : Bool} (hu : P.underlying t = some (.func p r v)) (d : Nat) (f : Fn) (x y : Array Value) : (Op.equalIn (d + 1) t (.func f x y) .nilFunc).run P w = .ok false w := by
  simp [Op.equalIn, run_und hu]

theorem eqBy_sim {t : Nat} {x x' y y' : Value} {b : Bool} (h : eqBy (eqMode P t) x y = some b) (hx : VR β x x') (hy : VR β y y') :
    (Op.equal t x' y').run P w = .ok b w ∧ x' ≠ .nilIface ∧ (∀ c, x' ≠ .agg c) ∧ (∀ k n, x' ≠ .int k n) ∧ (∀ s, x' ≠ .string s) ∧ (∀ k n, x' ≠ .float k n) ∧ (∀ k n m, x' ≠ .complex k n m) := by
  unfold eqMode at h
  split at h
  · rename_i hu
    simp only [eqBy, leafEq] at h
    split at h
    · cases h; cases hx; cases hy
      exact ⟨eqIn_bool hu 9999 _ _, nofun, nofun, nofun, nofun, nofun, nofun⟩
    · cases h
  · rename_i e hu
    simp only [eqBy, ptrEq] at h
    split at h
    · cases h; cases hx; cases hy <;>
        exact ⟨eqIn_ptr hu 9999 _, nofun, nofun, nofun, nofun, nofun, nofun⟩
    · cases h; cases hx; cases hy
      exact ⟨eqIn_ptr2 hu 9999 _, nofun, nofun, nofun, nofun, nofun, nofun⟩
    · cases h
  · rename_i e hu
    simp only [eqBy, slcEq] at h
    split at h
    · cases h; cases hx; cases hy <;>
        exact ⟨eqIn_slc hu 9999 _ _ _ _ _, nofun, nofun, nofun, nofun, nofun, nofun⟩
    · cases h; cases hx <;> cases hy <;>
        exact ⟨eqIn_slc2 hu 9999 _ _ _ _ _, nofun, nofun, nofun, nofun, nofun, nofun⟩
    · cases h
  · rename_i a b c hu
    simp only [eqBy, fncEq] at h
    split at h
    · cases h; cases hx; cases hy
      exact ⟨eqIn_fnc hu 9999, nofun, nofun, nofun, nofun, nofun, nofun⟩
    · cases h; cases hx; cases hy
      exact ⟨eqIn_fnc2 hu 9999 _ _ _, nofun, nofun, nofun, nofun, nofun, nofun⟩
    · cases h; cases hx; cases hy
      exact ⟨eqIn_fnc3 hu 9999 _ _ _, nofun, nofun, nofun, nofun, nofun, nofun⟩
    · cases h
  · cases h

theorem binOp_eql {t : Nat} {x y : Value} (h1 : ∀ k n, x ≠ .int k n) (h2 : ∀ s, x ≠ .string s) (h3 : ∀ k n, x ≠ .float k n) (h4 : ∀ k n m, x ≠ .complex k n m) :
    binOp .eql t x y = (do pure (.bool (← Op.equal t x y))) ∧ binOp .neq t x y = (do pure (.bool (!(← Op.equal t x y)))) := by
  cases x <;> first
    | exact absurd rfl (h1 _ _)
    | exact absurd rfl (h2 _)
    | exact absurd rfl (h3 _ _)
    | exact absurd rfl (h4 _ _ _)
    | (exact ⟨rfl, rfl⟩)

theorem bin_sim (R : WRel B0 w0 β H w) {op : BinOp} {t : Nat} {ox oy : Operand} {x x' y y' v : Value} (h : binV op (eqMode P t) x y = some v) (hx : VR β x x') (hy : VR β y y') :
    Good B0 w0 β H v ((do eqGuard op t ox oy x' y'; binOp op t x' y' : Sem Value).run P w) := by
  have fin : ∀ v', (binOp op t x' y').run P w = .ok v' w ∧ VR β v v' → x' ≠ .nilIface → (∀ c, x' ≠ .agg c) → Good B0 w0 β H v ((do eqGuard op t ox oy x' y'; binOp op t x' y' : Sem Value).run P w) := by
    intro v' hr h1 h2
    refine Good.same R (v' := v') ?_ hr.2
    rw [Sem.run_bind, guard_ok h1 h2, Result.andThen_ok, hr.1]
  unfold binV at h
  split at h
  · split at h
    · cases h
    rename_i hb
    cases h; cases hx; cases hy
    exact fin _ ⟨by simp [binOp, Op.shift, hb], .int _ _⟩ (by simp) (by simp)
  · split at h
    · cases h
    rename_i hb
    cases h; cases hx; cases hy
    exact fin _ ⟨by simp [binOp, Op.shift, hb], .int _ _⟩ (by simp) (by simp)
  · rename_i k a k' b n1 n2
    split at h
    case isFalse => cases h
    rename_i hk
    subst hk
    cases hx; cases hy
    have hns : op ≠ .shl ∧ op ≠ .shr := ⟨fun e => n1 e, fun e => n2 e⟩
    exact fin _ (intBin_sim h hns t) (by simp) (by simp)
  · cases hx; cases hy
    exact fin _ (strBin_sim h t) (by simp) (by simp)
  · cases hb : eqBy (eqMode P t) x y with
    | none => rw [hb] at h; cases h
    | some b =>
      rw [hb] at h; cases h
      obtain ⟨g1, g2, g3, g4, g5, g6, g7⟩ := eqBy_sim (w := w) hb hx hy
      exact fin (.bool b) ⟨by rw [(binOp_eql g4 g5 g6 g7).1]; simp [g1], .bool _⟩ g2 g3
  · cases hb : eqBy (eqMode P t) x y with
    | none => rw [hb] at h; cases h
    | some b =>
      rw [hb] at h; cases h
      obtain ⟨g1, g2, g3, g4, g5, g6, g7⟩ := eqBy_sim (w := w) hb hx hy
      exact fin (.bool !b) ⟨by rw [(binOp_eql g4 g5 g6 g7).2]; simp [g1], .bool _⟩ g2 g3
  · cases h

/-! ### addresses, parts -/
theorem faddr_sim (R : WRel B0 w0 β H w) {t : Nat} {fields : Array Field} {f : Nat} {fl : Field} {s id off : Nat} {x' : Value} (hu : P.underlying t = some (.struct fields)) (hf : fields[f]? = some fl)
    (hs : sizeOfT P fl.type = some s) (hpos : 0 < s) (hx : VR β (.pointer (some ⟨id, off, none⟩)) x') : Good B0 w0 β H (.pointer (some ⟨id, off + fl.offset, none⟩)) ((Instr.fieldAt t x' f).run P w) := by
  cases hx with
  | ptr _ _ l hl =>
  have hne : ¬ s = 0 := by omega
  refine Good.same R (v' := .pointer (some ⟨l.b, l.o + (off + fl.offset), none⟩)) ?_ (.ptr _ _ l hl)
  simp [Instr.fieldAt, run_und hu, hf, Instr.sureAddr, fieldPlace, run_sizeOfT hs, hne, add_none, Nat.add_assoc]

theorem part_sim {β : Emb} {t n : Nat} {d : TypeDesc} {cs cs' : Array Value} {off : Nat} {v : Value} (hu : P.underlying t = some d) (hs : sizeOfT P t = some n) (hc : VRs β cs.toList cs'.toList)
    (hv : partV (aggD d) cs off n = some v) : ∃ v', (part t cs' off).run P w = .ok v' w ∧ VR β v v' := by
  unfold partV at hv
  cases hd : aggD d with
  | true =>
    rw [hd] at hv; simp only [if_true] at hv; cases hv
    refine ⟨.agg (cs'.extract off (off + n)), by simp [part, run_isAggD hu, hd, run_sizeOfT hs], .agg' ?_⟩
    simp only [Array.toList_extract, List.extract_eq_take_drop]
    exact (hc.drop _).take _
  | false =>
    rw [hd] at hv; simp only [Bool.false_eq_true, if_false] at hv
    obtain ⟨v', g1, g2⟩ := hc.2 off v (by rw [Array.getElem?_toList]; exact hv)
    rw [Array.getElem?_toList] at g1
    exact ⟨v', by simp [part, run_isAggD hu, hd, g1], g2⟩

theorem field_sim (R : WRel B0 w0 β H w) {t : Nat} {fields : Array Field} {f : Nat} {fl : Field} {s : Nat} {d : TypeDesc} {cs : Array Value} {x' v : Value} (hu : P.underlying t = some (.struct fields)) (hf : fields[f]? = some fl)
    (hs : sizeOfT P fl.type = some s) (hd : P.underlying fl.type = some d) (hx : VR β (.agg cs) x') (hv : partV (aggD d) cs fl.offset s = some v) : Good B0 w0 β H v ((Instr.field t x' f).run P w) := by
  cases hx with
  | agg _ c' hc gc =>
  obtain ⟨v', g1, g2⟩ := part_sim (w := w) hd hs (vrs_of_arr hc gc) hv
  refine Good.same R (v' := v') ?_ g2
  simp [Instr.field, run_und hu, hf, asAgg, g1]

theorem iaddr_sim (R : WRel B0 w0 β H w) {t e s : Nat} {x x' i i' v : Value} (hu : P.underlying t = some (.slice e)) (hs : sizeOfT P e = some s) (hx : VR β x x') (hi : VR β i i')
    (hv : iaddrV s x i = some v) : Good B0 w0 β H v ((Instr.indexAt t x' i').run P w) := by
  unfold iaddrV at hv
  split at hv
  case h_2 => cases hv
  rename_i id off mk ln cp kk n
  split at hv
  case isFalse => cases hv
  rename_i hb
  cases hv; cases hi
  cases hx with
  | slice _ _ m _ _ cap' l hl h1 h2 h3 h4 =>
    refine Good.same R (v' := .pointer (some ⟨l.b, l.o + (off + n.toNat * s), none⟩)) ?_ (.ptr _ _ l hl)
    simp [Instr.indexAt, run_und hu, asIntOf, run_sizeOfT hs, hb.1, hb.2, add_none, Nat.add_assoc]
  | slice0 id off m A => omega

theorem aaddr_sim (R : WRel B0 w0 β H w) {t e s n : Nat} {x x' i i' v : Value} (hu : P.underlying t = some (.array n e)) (hs : sizeOfT P e = some s) (hx : VR β x x') (hi : VR β i i')
    (hv : aaddrV n s x i = some v) : Good B0 w0 β H v ((Instr.indexAt t x' i').run P w) := by
  unfold aaddrV at hv
  split at hv
  case h_2 => cases hv
  rename_i id off kk n
  split at hv
  case isFalse => cases hv
  rename_i hb
  cases hv; cases hi
  cases hx with
  | ptr _ _ l hl =>
    refine Good.same R (v' := .pointer (some ⟨l.b, l.o + (off + n.toNat * s), none⟩)) ?_ (.ptr _ _ l hl)
    simp [Instr.indexAt, run_und hu, asIntOf, run_sizeOfT hs, hb.1, hb.2, add_none, Nat.add_assoc, Instr.sureAddr]

theorem aindex_sim (R : WRel B0 w0 β H w) {t e s n : Nat} {d : TypeDesc} {x x' i i' v : Value} (hu : P.underlying t = some (.array n e)) (hs : sizeOfT P e = some s) (hd : P.underlying e = some d) (hx : VR β x x') (hi : VR β i i')
    (hv : aindexV (aggD d) n s x i = some v) : Good B0 w0 β H v ((Instr.index t x' i').run P w) := by
  unfold aindexV at hv
  split at hv
  case h_2 => cases hv
  split at hv
  case isFalse => cases hv
  rename_i hb
  cases hi
  cases hx with
  | agg _ c' hc gc =>
  obtain ⟨v', g1, g2⟩ := part_sim (w := w) hd hs (vrs_of_arr hc gc) hv
  refine Good.same R (v' := v') ?_ g2
  simp [Instr.index, run_und hu, asIntOf, run_sizeOfT hs, hb.1, hb.2, g1]

theorem strindex_sim (R : WRel B0 w0 β H w) {t : Nat} {x x' i i' v : Value} (hu : P.underlying t = some .string) (hx : VR β x x') (hi : VR β i i')
    (hv : strindexV x i = some v) : Good B0 w0 β H v ((Instr.index t x' i').run P w) := by
  unfold strindexV at hv
  split at hv
  case h_2 => cases hv
  split at hv
  case isFalse => cases hv
  rename_i hb
  cases hi; cases hx
  cases hg : (_ : ByteArray)[(_ : Int).toNat]? with
  | none => rw [hg] at hv; cases hv
  | some u =>
    rw [hg] at hv; cases hv
    refine Good.same R (v' := .int .u8 u.toNat) ?_ (.int _ _)
    simp [Instr.index, run_und hu, asIntOf, hb, hg]

theorem ext_sim (R : WRel B0 w0 β H w) {i : Nat} {vs : Array Value} {x' v : Value} (hx : VR β (.tuple vs) x') (hv : vs[i]? = some v) : Good B0 w0 β H v ((Instr.extract x' i).run P w) := by
  cases hx with
  | tuple _ c' hc gc =>
  obtain ⟨v', g1, g2⟩ := (vrs_of_arr hc gc).2 i v (by rw [Array.getElem?_toList]; exact hv)
  rw [Array.getElem?_toList] at g1
  refine Good.same R (v' := v') ?_ g2
  simp [Instr.extract, g1]

theorem len_sim (R : WRel B0 w0 β H w) {t e ty n cap : Nat} {ts : Array TypeId} {a : Option Addr} {x' : Value} (ht : ts[0]? = some t) (hu : P.underlying t = some (.slice e)) (hx : VR β (.slice a n cap) x') :
    Good B0 w0 β H (.int .i64 n) ((Builtin.len_ ts ty #[x']).run P w) := by
  refine Good.same R (v' := .int .i64 n) ?_ (.int _ _)
  cases hx <;> simp [Builtin.len_, ht, run_und hu, goInt]

theorem strlen_sim (R : WRel B0 w0 β H w) {t ty : Nat} {ts : Array TypeId} {s : ByteArray} {x' : Value} (ht : ts[0]? = some t) (hu : P.underlying t = some .string) (hx : VR β (.string s) x') :
    Good B0 w0 β H (.int .i64 s.size) ((Builtin.len_ ts ty #[x']).run P w) := by
  refine Good.same R (v' := .int .i64 s.size) ?_ (.int _ _)
  cases hx
  simp [Builtin.len_, ht, run_und hu, goInt]

theorem minmax_sim (R : WRel B0 w0 β H w) {mx : Bool} {ts : Array TypeId} {ty : Nat} {x x' y y' v : Value} (hx : VR β x x') (hy : VR β y y') (hv : minmaxV mx x y = some v) :
    Good B0 w0 β H v ((if mx then Builtin.max_ ts ty #[x', y'] else Builtin.min_ ts ty #[x', y']).run P w) := by
  unfold minmaxV at hv
  split at hv
  case h_2 => cases hv
  cases hv; cases hx; cases hy
  cases mx
  · exact Good.same R (by simp [Builtin.min_, Builtin.min2]) (.int _ _)
  · exact Good.same R (by simp [Builtin.max_, Builtin.max2]) (.int _ _)

end
end Go.Proofs.Ytmgkdnncjapejaa.Abs
