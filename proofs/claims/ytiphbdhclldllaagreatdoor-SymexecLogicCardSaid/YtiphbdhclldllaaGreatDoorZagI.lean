/- Regions, code, functions: what the fast machine answers, the second machine answers. -/
import Derived.Test.YtiphbdhclldllaaGreatDoorZagH
set_option linter.unusedSimpArgs false
set_option linter.unusedVariables false
namespace Go.Proofs.YtiphbdhclldllaaGreatDoor.M4
open Go Go.Proofs.YtiphbdhclldllaaGreatDoor.Mx

section
variable {W : Vl} {Q : Tk} {T4 : E} {T : Tr Value} {h : H} {Hp : Heap}

/-- What was noted. -/
def LR (W : Vl) (l : L) (log : Tr Lg) : Prop := ∀ i, match lfind i l with
  | none => log.get i = none
  | some (.inl h) => ∃ Hp, log.get i = some (.heap Hp) ∧ HR W h Hp
  | some (.inr (id, off, n)) => log.get i = some (.rng id off n)
theorem LR.nil : LR W .nil .nil := fun i => rfl
theorem LR.hp {l : L} {log : Tr Lg} (hl : LR W l log) (hr : HR W h Hp) (j : Nat) : LR W (.hp j h l) (log.set j (.heap Hp)) := by
  intro i
  simp only [lfind]
  cases hj : Nat.beq j i
  · have hne : j ≠ i := by intro e; rw [e, Nat.beq_refl] at hj; cases hj
    have := hl i
    simp only [cond_false]
    rw [Tr.get_set_ne _ _ _ _ hne]
    exact this
  · have e := Nat.eq_of_beq_eq_true hj
    subst e
    exact ⟨Hp, Tr.get_set_same _ _ _, hr⟩
theorem LR.rg {l : L} {log : Tr Lg} (hl : LR W l log) (j id off n : Nat) : LR W (.rg j id off n l) (log.set j (.rng id off n)) := by
  intro i
  simp only [lfind]
  cases hj : Nat.beq j i
  · have hne : j ≠ i := by intro e; rw [e, Nat.beq_refl] at hj; cases hj
    have := hl i
    simp only [cond_false]
    rw [Tr.get_set_ne _ _ _ _ hne]
    exact this
  · have e := Nat.eq_of_beq_eq_true hj
    subst e
    exact Tr.get_set_same _ _ _

theorem xeq_ok : ∀ {u v : X}, xeq u v = true → u = v := by
  intro u
  induction u with
  | p a n => intro v h; cases v <;> first | (cases h; done) | skip; simp only [xeq, Bool.and_eq_true] at h; rw [kEq_ok h.1, kEq_ok h.2]
  | m a n => intro v h; cases v <;> first | (cases h; done) | skip; simp only [xeq, Bool.and_eq_true] at h; rw [kEq_ok h.1, kEq_ok h.2]
  | b s => intro v h; cases v <;> first | (cases h; done) | skip; rename_i t; cases s <;> cases t <;> first | rfl | cases h
  | pt i o => intro v h; cases v <;> first | (cases h; done) | skip; simp only [xeq, Bool.and_eq_true] at h; rw [kEq_ok h.1, kEq_ok h.2]
  | sl i o m l c => intro v h; cases v <;> first | (cases h; done) | skip; simp only [xeq, Bool.and_eq_true] at h; rw [kEq_ok h.1.1.1.1, kEq_ok h.1.1.1.2, kEq_ok h.1.1.2, kEq_ok h.1.2, kEq_ok h.2]
  | ag l ih => intro v h; cases v <;> first | (cases h; done) | skip; rw [ih h]
  | e => intro v h; cases v <;> first | (cases h; done) | rfl
  | c x l ih1 ih2 => intro v h; cases v <;> first | (cases h; done) | skip; simp only [xeq, Bool.and_eq_true] at h; rw [ih1 h.1, ih2 h.2]
  | r g x ih => intro v h; cases v <;> first | (cases h; done) | skip; simp only [xeq, Bool.and_eq_true] at h; rw [kEq_ok h.1, ih h.2]
theorem vk_ok {u : X} (h : vk u = true) : veq1 (dec W u) (dec W u) = true := by
  unfold vk at h
  split at h
  · show (_ && _) = true; simp
  · show (_ && _) = true; simp
  · show (_ == _) = true; simp
  · show (_ == _) = true; simp
  · show (_ && _ && _) = true; simp
  · show ((none : Option Addr) == none) = true; rfl
  · rfl
  · rfl
  · rfl
  · rfl
  · show (some _ == some _) = true; simp
  · show ByteArray.beq _ _ = true
    unfold ByteArray.beq
    simp
  · show (_ && _) = true; simp
  · show ByteArray.beq _ _ = true
    unfold ByteArray.beq
    simp
  · cases h
theorem vkL_ok : ∀ {u : X}, vkL u = true → veqs (decs W u) (decs W u) = true := by
  intro u
  induction u with
  | e => intro _; rfl
  | c x l _ ih =>
    intro h
    simp only [vkL, Bool.and_eq_true] at h
    rw [decs_c]
    simp only [veqs, vk_ok h.1, ih h.2, Bool.and_self]
  | _ => intro h; cases h
theorem veq_of1 {a : Value} (h : veq1 a a = true) : veq a a = true := by
  cases a <;> first | exact h | (cases h; done)
theorem veqX_ok {u v : X} (h : veqX u v = true) : veq (dec W u) (dec W v) = true := by
  unfold veqX at h
  rw [Bool.and_eq_true] at h
  have e := xeq_ok h.1
  subst e
  have h2 := h.2
  split at h2
  · exact vkL_ok h2
  · exact veq_of1 (vk_ok h2)

theorem bne_nat (a b : Nat) : (!(Nat.beq a b)) = (a != b) := by
  have e : Nat.beq a b = (a == b) := by
    rw [Bool.eq_iff_iff, Nat.beq_eq, beq_iff_eq]
  rw [e]; rfl
theorem chk1_ok (ht : TR W T4 T) {l : L} {log : Tr Lg} (hl : LR W l log) {i : I} {x : X} {c : Nat} (hk : chk1X T4 i x (lfind c l) = true) : chk1 T i (dec W x) (log.get c) = true := by
  have hc := hl c
  cases hf : lfind c l with
  | none =>
    rw [hf] at hc hk
    simp only at hc
    rw [hc]
    unfold chk1X at hk
    cases i <;> first | rfl | (cases hk; done)
  | some s =>
    rw [hf] at hc hk
    cases s with
    | inl h' =>
      simp only at hc
      obtain ⟨Hp', h1, h2⟩ := hc
      rw [h1]
      unfold chk1X at hk
      cases i <;> first | (cases hk; done) | skip
      rename_i agg n a
      obtain ⟨z, h3, g⟩ := ro_ok ht hk
      obtain ⟨u, h4, g2⟩ := load_ok h2 g
      show (match Hp'.loadv agg n (a.ev T) with | some u => veq u (dec W x) | none => false) = true
      rw [h3, h4]
      exact veqX_ok g2
    | inr p =>
      obtain ⟨id, off, n⟩ := p
      simp only at hc
      rw [hc]
      unfold chk1X at hk
      cases i <;> first | (cases hk; done) | skip
      · rename_i agg m a
        obtain ⟨z, h3, g⟩ := ro_ok ht hk
        obtain ⟨id', off', rfl, g2⟩ := viewPt_ok g
        show (match a.ev T with | .pointer (some ⟨id', _, none⟩) => id != id' | _ => false) = true
        rw [h3, dec_pt]
        show (id != id') = true
        rw [← bne_nat]
        exact g2
      · rename_i m a y
        obtain ⟨z, h3, g⟩ := ro_ok ht hk
        obtain ⟨id', off', rfl, g2⟩ := viewPt_ok g
        show (match a.ev T with | .pointer (some ⟨id', off', none⟩) => id != id' || Nat.ble (off + n) off' || Nat.ble (off' + m) off | _ => false) = true
        rw [h3, dec_pt]
        show (id != id' || Nat.ble (off + n) off' || Nat.ble (off' + m) off) = true
        rw [← bne_nat]
        exact g2
theorem chk_ok (ht : TR W T4 T) {l : L} {log : Tr Lg} (hl : LR W l log) {i : I} {x : X} : ∀ {cs : List Nat}, chkX T4 l i x cs = true → chkOk log T i (dec W x) cs = true
  | [], _ => rfl
  | c :: cs, hk => by
    obtain ⟨h1, h2⟩ := and4_ok hk
    simp only [chkOk, chk1_ok ht hl h1, chk_ok ht hl h2, Bool.and_self]
theorem note_ok (ht : TR W T4 T) (hr : HR W h Hp) {l : L} {log : Tr Lg} (hl : LR W l log) {b idx : Nat} {i : I} {k : L → Bool} (hk : Bx.rec (motive := fun _ => _) (fun f => f) (noteX b idx i) T4 h l k = true) :
    ∃ l', LR W l' (match note b T Hp i with | some e => log.set idx e | none => log) ∧ k l' = true := by
  cases i
  case call f as => exact ⟨_, hl.hp hr idx, hk⟩
  case load agg n a =>
    obtain ⟨z, h3, g⟩ := ro_ok ht hk
    obtain ⟨id, off, rfl, g2⟩ := viewPt_ok g
    refine ⟨_, ?_, g2⟩
    have e : note b T Hp (.load agg n a) = some (.rng id off (if agg then n else 1)) := by
      show (match a.ev T with | .pointer (some ⟨id, off, none⟩) => some (Lg.rng id off (if agg then n else 1)) | _ => none) = _
      rw [h3, dec_pt]
    rw [e]
    have := hl.rg idx id off (Bool.rec 1 n agg)
    cases agg <;> exact this
  all_goals first
    | exact ⟨_, hl.rg idx _ 0 0, hk⟩
    | exact ⟨_, hl, hk⟩

/-- A call's handling, on both machines. -/
def ClR (W : Vl) (cl4 : Cl) (cl : Nat → List Value → Heap → Option (Value × Heap)) : Prop :=
  ∀ (g : Nat) (as : X) (h : H) (Hp : Heap) (k : K), HR W h Hp → cl4 g as h k = true → ∃ x h' Hp', cl g (decs W as) Hp = some (dec W x, Hp') ∧ HR W h' Hp' ∧ k x h' = true

theorem noChan1 (x : X) : dec W x ≠ .chan (some 1) := by
  cases x
  case r g y =>
    rw [dec_r]
    intro e
    rcases g with _ | _ | _ | _ | _ | _ | _ | _ | _ | _ | _ | _ | _ | _ | _ | g
    all_goals (simp only [dr] at e; first | (cases e; done) | (split at e <;> first | (cases e; done) | (split at e <;> cases e)))
  all_goals (intro e; cases e)
theorem decs_noChan (l : X) : Value.chan (some 1) ∉ decs W l := by
  induction l with
  | c x l _ ih =>
    rw [decs_c]
    intro h
    rcases List.mem_cons.1 h with h | h
    · exact noChan1 x h.symm
    · exact ih h
  | _ => intro h; cases h
theorem isPan_tuple (l : X) : isPan (.tuple (decs W l).toArray) = none := by
  have hn := decs_noChan (W := W) l
  show (match (decs W l) with | [.chan (some 1), v] => some v | _ => none) = none
  split
  · rename_i v e
    rw [e] at hn
    exact absurd (List.mem_cons_self) hn
  · rfl
theorem isPan_dec {x : X} (hx : ∀ y, x ≠ .r 14 y) : isPan (dec W x) = none := by
  cases x
  case r g y =>
    rw [dec_r]
    rcases g with _ | _ | _ | _ | _ | _ | _ | _ | _ | _ | _ | _ | _ | _ | _ | g
    case zero => exact isPan_tuple y
    all_goals first
      | exact absurd rfl (hx _)
      | (simp only [dr]; first | rfl | (split <;> first | rfl | (split <;> rfl)))
  all_goals rfl
theorem notPan_ok {x : X} {r : Bool} (hk : notPan x r = true) : isPan (dec W x) = none ∧ r = true := by
  rcases viewR_ok hk with ⟨y, _, g⟩ | ⟨h1, g⟩
  · cases g
  · exact ⟨isPan_dec h1, g⟩

variable {cl4 : Cl} {cl : Nat → List Value → Heap → Option (Value × Heap)}
theorem callX_ok (hcl : ClR W cl4 cl) (ht : TR W T4 T) (hr : HR W h Hp) {f : Opd} {as : List Opd} {k : K} (hk : Bx.rec (motive := fun _ => _) (fun f => f) (callX f as) cl4 T4 h k = true) :
    ∃ g first captured x h' Hp', f.ev T = .func (.func g) first captured ∧ cl g (first.toList ++ as.map (Opd.ev T) ++ captured.toList) Hp = some (dec W x, Hp') ∧ HR W h' Hp' ∧ k x h' = true := by
  have gen : Bx.rec (motive := fun _ => _) (fun f => f) (ro f) T4 (fun z => Bx.rec (motive := fun _ => _) (fun f => f) (rol as) T4 fun z2 => viewF z fun g u v => appX z2 v fun l => appX u l fun l => cl4 g l h k) = true → ∃ g first captured x h' Hp', f.ev T = .func (.func g) first captured ∧ cl g (first.toList ++ as.map (Opd.ev T) ++ captured.toList) Hp = some (dec W x, Hp') ∧ HR W h' Hp' ∧ k x h' = true := by
    intro hk
    obtain ⟨z, h1, g1⟩ := ro_ok ht hk
    obtain ⟨z2, h3, g2⟩ := rol_ok ht g1
    obtain ⟨y, g, u, v, _, h2, g3⟩ := viewF_ok (W := W) g2
    obtain ⟨l1, g4, h4⟩ := app_ok (W := W) g3
    obtain ⟨l2, g5, h5⟩ := app_ok (W := W) g4
    obtain ⟨x, h', Hp', h6, h7, g6⟩ := hcl _ _ _ _ _ hr g5
    refine ⟨g, _, _, x, h', Hp', by rw [h1, h2], ?_, h7, g6⟩
    rw [h3]
    show cl g (decs W u ++ decs W z2 ++ decs W v) Hp = _
    rw [List.append_assoc, ← h4, ← h5]
    exact h6
  cases f with
  | f g =>
    obtain ⟨z2, h3, g3⟩ := rol_ok ht hk
    obtain ⟨x, h', Hp', h6, h7, g6⟩ := hcl _ _ _ _ _ hr g3
    refine ⟨g, _, _, x, h', Hp', rfl, ?_, h7, g6⟩
    rw [h3]
    show cl g ([] ++ decs W z2 ++ []) Hp = _
    rw [List.nil_append, List.append_nil]
    exact h6
  | _ =>
    apply gen
    first
      | exact hk
theorem opX_ok (hQ : TkOk Q W) (hd : ∀ i, (W.d i).length ≤ 100) (hcl : ClR W cl4 cl) (ht : TR W T4 T) (hr : HR W h Hp) {b : Nat} {i : I} {k : K} (hk : Bx.rec (motive := fun _ => _) (fun f => f) (opX Q i) cl4 b T4 h k = true) :
    ∃ x h' Hp', evI (noP cl) b T Hp i = some (dec W x, Hp') ∧ HR W h' Hp' ∧ k x h' = true := by
  cases i
  case call f as =>
    obtain ⟨g, first, captured, x, h', Hp', h1, h2, h3, g1⟩ := callX_ok hcl ht hr hk
    obtain ⟨h4, g2⟩ := notPan_ok (W := W) g1
    refine ⟨x, h', Hp', ?_, h3, g2⟩
    simp only [evI, h1, noP, h2, h4]
  all_goals exact evX_ok hQ hd ht hr hk
theorem putE_ok (ht : TR W T4 T) {d : Option Nat} {x : X} {k : E → Bool} (hk : Bx.rec (motive := fun _ => _) (fun f => f) (putE d) T4 x k = true) : ∃ T4', TR W T4' (putT T d (dec W x)) ∧ k T4' = true := by
  cases d with
  | none => exact ⟨T4, ht, hk⟩
  | some d =>
    obtain ⟨T4', h1, h2⟩ := setT_ok ht (n := d) (x := x) (k := k) hk
    exact ⟨T4', h2, h1⟩
theorem insX_ok (hQ : TkOk Q W) (hd : ∀ i, (W.d i).length ≤ 100) (hcl : ClR W cl4 cl) (ht : TR W T4 T) (hr : HR W h Hp) {l : L} {log : Tr Lg} (hl : LR W l log) {b : Nat} {i : Ins} {k : KS} (hk : Bx.rec (motive := fun _ => _) (fun f => f) (insX Q i) cl4 b T4 h l k = true) :
    ∃ T4' h' l' s', evIns (noP cl) b i ⟨T, Hp, log⟩ = some s' ∧ TR W T4' s'.T ∧ HR W h' s'.H ∧ LR W l' s'.log ∧ k T4' h' l' = true := by
  obtain ⟨idx, dst, guard, op, chk, lgf⟩ := i
  -- with the operation done
  have run : ∀ (want : guard = none ∨ ∃ g w, guard = some (g, w) ∧ rd T g = .bool w), Bx.rec (motive := fun _ => _) (fun f => f) (opX Q op) cl4 b T4 h (fun x h' => and4 (chkX T4 l op x chk) (Bx.rec (motive := fun _ => _) (fun f => f) (putE dst) T4 x fun T' => Bool.rec (motive := fun _ => Bool) (k T' h' l) (Bx.rec (motive := fun _ => _) (fun f => f) (noteX b idx op) T4 h l fun l => k T' h' l) lgf)) = true →
      ∃ T4' h' l' s', evIns (noP cl) b ⟨idx, dst, guard, op, chk, lgf⟩ ⟨T, Hp, log⟩ = some s' ∧ TR W T4' s'.T ∧ HR W h' s'.H ∧ LR W l' s'.log ∧ k T4' h' l' = true := by
    intro want hk
    have hw : Ins.wanted ⟨idx, dst, guard, op, chk, lgf⟩ T = some true := by
      rcases want with rfl | ⟨g, w, rfl, e⟩
      · rfl
      · show (match rd T g with | .bool b => some (b == w) | .tuple vs => if vs.size = 0 then some false else none | _ => none) = _
        rw [e]
        cases w <;> rfl
    obtain ⟨x, h', Hp', h1, h2, g1⟩ := opX_ok hQ hd hcl ht hr hk
    obtain ⟨h3, g2⟩ := and4_ok g1
    have h3 := chk_ok ht hl h3
    obtain ⟨T4', h4, g3⟩ := putE_ok ht g2
    have e : evIns (noP cl) b ⟨idx, dst, guard, op, chk, lgf⟩ ⟨T, Hp, log⟩ = some ⟨putT T dst (dec W x), Hp', lg b ⟨idx, dst, guard, op, chk, lgf⟩ ⟨T, Hp, log⟩⟩ := by
      unfold evIns evW
      simp only [hw, h1, h3, if_true]
    have el : lg b ⟨idx, dst, guard, op, chk, lgf⟩ ⟨T, Hp, log⟩ = bif lgf then (match note b T Hp op with | some e => log.set idx e | none => log) else log := by
      unfold lg
      simp only [hw]
      cases lgf
      · rfl
      · simp only [cond_true]
        cases note b T Hp op <;> rfl
    rw [e, el]
    cases lgf
    · exact ⟨T4', h', l, _, rfl, h4, h2, hl, g3⟩
    · obtain ⟨l', h5, g4⟩ := note_ok ht hr hl g3
      exact ⟨T4', h', l', _, rfl, h4, h2, h5, g4⟩
  cases guard with
  | none =>
    have hk' : Bx.rec (motive := fun _ => _) (fun f => f) (opX Q op) cl4 b T4 h (fun x h' => and4 (chkX T4 l op x chk) (Bx.rec (motive := fun _ => _) (fun f => f) (putE dst) T4 x fun T' => Bool.rec (motive := fun _ => Bool) (k T' h' l) (Bx.rec (motive := fun _ => _) (fun f => f) (noteX b idx op) T4 h l fun l => k T' h' l) lgf)) = true := by
      cases chk with
      | nil =>
        cases lgf with
        | false => exact hk
        | true => exact hk
      | cons c cs => exact hk
    exact run (.inl rfl) hk'
  | some p =>
    obtain ⟨g, w⟩ := p
    have hk' : insX.guardX (Bx.rec (motive := fun _ => _) (fun f => f) (getT g) T4) w (Bx.rec (motive := fun _ => _) (fun f => f) (opX Q op) cl4 b T4 h (fun x h' => and4 (chkX T4 l op x chk) (Bx.rec (motive := fun _ => _) (fun f => f) (putE dst) T4 x fun T' => Bool.rec (motive := fun _ => Bool) (k T' h' l) (Bx.rec (motive := fun _ => _) (fun f => f) (noteX b idx op) T4 h l fun l => k T' h' l) lgf))) (Bx.rec (motive := fun _ => _) (fun f => f) (putE dst) T4 (.r 0 .e) fun T' => k T' h l) = true := hk
    have hg := ht.get g
    have skip : Ins.wanted ⟨idx, dst, some (g, w), op, chk, lgf⟩ T = some false → Bx.rec (motive := fun _ => _) (fun f => f) (putE dst) T4 (.r 0 .e) (fun T' => k T' h l) = true → ∃ T4' h' l' s', evIns (noP cl) b ⟨idx, dst, some (g, w), op, chk, lgf⟩ ⟨T, Hp, log⟩ = some s' ∧ TR W T4' s'.T ∧ HR W h' s'.H ∧ LR W l' s'.log ∧ k T4' h' l' = true := by
      intro hw g1
      obtain ⟨T4', h4, g3⟩ := putE_ok ht g1
      refine ⟨T4', h, l, ⟨putT T dst undef, Hp, log⟩, ?_, h4, hr, hl, g3⟩
      have el : lg b ⟨idx, dst, some (g, w), op, chk, lgf⟩ ⟨T, Hp, log⟩ = log := by
        unfold lg
        simp only [hw]
        cases lgf <;> rfl
      unfold evIns evW
      simp only [hw, el]
    have hwant : Ins.wanted ⟨idx, dst, some (g, w), op, chk, lgf⟩ T = (match rd T g with | .bool b => some (b == w) | .tuple vs => if vs.size = 0 then some false else none | _ => none) := rfl
    cases hx : Bx.rec (motive := fun _ => _) (fun f => f) (getT g) T4 <;> rw [hx] at hk' hg <;> first | exact absurd hk' Bool.false_ne_true | skip
    · rename_i t
      rw [dec_b] at hg
      cases t <;> cases w
      · exact run (.inr ⟨g, false, rfl, hg.symm⟩) hk'
      · exact skip (by rw [hwant, ← hg]; rfl) hk'
      · exact skip (by rw [hwant, ← hg]; rfl) hk'
      · exact run (.inr ⟨g, true, rfl, hg.symm⟩) hk'
    · exact skip (by rw [hwant, ← hg, dec_e]; rfl) hk'
    · rename_i g' y
      obtain ⟨h1, g1⟩ := if_t (c := Nat.beq g' 0) hk'
      have e := kEq_ok h1
      subst e
      obtain ⟨h2, g2⟩ := and4_ok g1
      have h2 := lenX_ok (W := W) h2
      refine skip ?_ g2
      rw [hwant, ← hg]
      show (if (decs W y).toArray.size = 0 then some false else none) = _
      rw [if_pos (by simpa using h2)]
theorem seqX_ok (hQ : TkOk Q W) (hd : ∀ i, (W.d i).length ≤ 100) (hcl : ClR W cl4 cl) {b : Nat} : ∀ {is : List Ins} {T4 : E} {T : Tr Value} {h : H} {Hp : Heap} {l : L} {log : Tr Lg} {k : KS}, TR W T4 T → HR W h Hp → LR W l log → Bx.rec (motive := fun _ => _) (fun f => f) (seqX Q is) cl4 b T4 h l k = true →
    ∃ T4' h' l' s', evSeq (noP cl) b is ⟨T, Hp, log⟩ = some s' ∧ TR W T4' s'.T ∧ HR W h' s'.H ∧ LR W l' s'.log ∧ k T4' h' l' = true
  | [], T4, T, h, Hp, l, log, k, ht, hr, hl, hk => ⟨T4, h, l, _, rfl, ht, hr, hl, hk⟩
  | i :: is, T4, T, h, Hp, l, log, k, ht, hr, hl, hk => by
    obtain ⟨T1, h1, l1, s1, e1, t1, r1, n1, g1⟩ := insX_ok hQ hd hcl ht hr hl (i := i) (k := fun T h l => Bx.rec (motive := fun _ => _) (fun f => f) (seqX Q is) cl4 b T h l k) hk
    obtain ⟨T2, h2, l2, s2, e2, t2, r2, n2, g2⟩ := seqX_ok hQ hd hcl (is := is) t1 r1 n1 g1
    refine ⟨T2, h2, l2, s2, ?_, t2, r2, n2, g2⟩
    simp only [evSeq, e1]
    exact e2

/-! ### code -/
def YR (W : Vl) : Y → Ex → Prop
  | .exit i, .exit j => i = j
  | .ret, .ret => True
  | .pan x, .pan v => v = dec W x
  | _, _ => False
def CodeR (W : Vl) (r : Option (Ex × Tr Value × Heap)) (k : KN) (x : KY) : Prop :=
  (∃ T4 h T Hp, r = some (.normal, T, Hp) ∧ TR W T4 T ∧ HR W h Hp ∧ k T4 h = true) ∨ (∃ y ex T4 h T Hp, r = some (ex, T, Hp) ∧ YR W y ex ∧ TR W T4 T ∧ HR W h Hp ∧ x y T4 h = true)
theorem YR.notNormal {y : Y} : ¬ YR W y .normal := by intro h; cases y <;> exact h
theorem YR.cases {y : Y} {ex : Ex} (h : YR W y ex) : (∃ i, y = .exit i ∧ ex = .exit i) ∨ (y = .ret ∧ ex = .ret) ∨ ∃ x, y = .pan x ∧ ex = .pan (dec W x) := by
  cases y with
  | exit i => cases ex with
    | exit j => exact .inl ⟨i, rfl, by rw [show i = j from h]⟩
    | normal => exact h.elim
    | ret => exact h.elim
    | pan v => exact h.elim
  | ret => cases ex with
    | ret => exact .inr (.inl ⟨rfl, rfl⟩)
    | normal => exact h.elim
    | exit j => exact h.elim
    | pan v => exact h.elim
  | pan x => cases ex with
    | pan v => exact .inr (.inr ⟨x, rfl, by rw [show v = dec W x from h]⟩)
    | normal => exact h.elim
    | exit j => exact h.elim
    | ret => exact h.elim
theorem iter_ok {body4 : E → H → KN → KY → Bool} {body : Tr Value → Heap → Option (Ex × Tr Value × Heap)} (hb : ∀ T4 h T Hp k x, TR W T4 T → HR W h Hp → body4 T4 h k x = true → CodeR W (body T Hp) k x) {x : KY} : ∀ {n : Nat} {T4 : E} {h : H} {T : Tr Value} {Hp : Heap}, TR W T4 T → HR W h Hp → iterX body4 n T4 h x = true →
    ∃ y ex T4' h' T' Hp', iter body n T Hp = some (ex, T', Hp') ∧ YR W y ex ∧ TR W T4' T' ∧ HR W h' Hp' ∧ x y T4' h' = true
  | 0, _, _, _, _, _, _, hk => absurd hk Bool.false_ne_true
  | n + 1, T4, h, T, Hp, ht, hr, hk => by
    rcases hb T4 h T Hp (fun T h => iterX body4 n T h x) x ht hr hk with ⟨T1, h1, T1', Hp1, e, t1, r1, g1⟩ | ⟨y, ex, T1, h1, T1', Hp1, e, hy, t1, r1, g1⟩
    · obtain ⟨y, ex, T2, h2, T2', Hp2, e2, hy, t2, r2, g2⟩ := iter_ok hb (n := n) t1 r1 g1
      exact ⟨y, ex, T2, h2, T2', Hp2, by simp only [iter, e]; exact e2, hy, t2, r2, g2⟩
    · refine ⟨y, ex, T1, h1, T1', Hp1, ?_, hy, t1, r1, g1⟩
      simp only [iter, e]
      cases ex <;> first | rfl | exact absurd hy YR.notNormal
theorem code_ok (hQ : TkOk Q W) (hd : ∀ i, (W.d i).length ≤ 100) (hcl : ClR W cl4 cl) {n : Nat} : ∀ {c : Cd} {T4 : E} {h : H} {T : Tr Value} {Hp : Heap} {k : KN} {x : KY}, TR W T4 T → HR W h Hp → Bx.rec (motive := fun _ => _) (fun f => f) (codeX Q c) cl4 n T4 h k x = true → CodeR W (evC cl n c T Hp) k x := by
  intro c
  induction c with
  | skip => intro T4 h T Hp k x ht hr hk; exact .inl ⟨T4, h, T, Hp, rfl, ht, hr, hk⟩
  | region na ops =>
    intro T4 h T Hp k x ht hr hk
    obtain ⟨h1, r1, g1⟩ := ext_ok hr (na := na) (k := fun b h => Bx.rec (motive := fun _ => _) (fun f => f) (seqX Q ops) cl4 b T4 h .nil fun T h _ => k T h) hk
    obtain ⟨T2, h2, l2, s2, e2, t2, r2, _, g2⟩ := seqX_ok hQ hd hcl ht r1 LR.nil g1
    exact .inl ⟨T2, h2, s2.T, s2.H, by simp only [evC, e2], t2, r2, g2⟩
  | seq a b iha ihb =>
    intro T4 h T Hp k x ht hr hk
    rcases iha (k := fun T h => Bx.rec (motive := fun _ => _) (fun f => f) (codeX Q b) cl4 n T h k x) (x := x) ht hr hk with ⟨T1, h1, T1', Hp1, e, t1, r1, g1⟩ | ⟨y, ex, T1, h1, T1', Hp1, e, hy, t1, r1, g1⟩
    · rcases ihb t1 r1 g1 with ⟨T2, h2, T2', Hp2, e2, t2, r2, g2⟩ | ⟨y, ex, T2, h2, T2', Hp2, e2, hy, t2, r2, g2⟩
      · exact .inl ⟨T2, h2, T2', Hp2, by simp only [evC, e]; exact e2, t2, r2, g2⟩
      · exact .inr ⟨y, ex, T2, h2, T2', Hp2, by simp only [evC, e]; exact e2, hy, t2, r2, g2⟩
    · refine .inr ⟨y, ex, T1, h1, T1', Hp1, ?_, hy, t1, r1, g1⟩
      simp only [evC, e]
      cases ex <;> first | rfl | exact absurd hy YR.notNormal
  | cond c a b iha ihb =>
    intro T4 h T Hp k x ht hr hk
    obtain ⟨z, h1, g1⟩ := ro_ok ht (o := c) (k := fun z1 => viewB z1 (Bx.rec (motive := fun _ => _) (fun f => f) (codeX Q a) cl4 n T4 h k x) (Bx.rec (motive := fun _ => _) (fun f => f) (codeX Q b) cl4 n T4 h k x)) hk
    have e : evC cl n (.cond c a b) T Hp = (match c.ev T with | .bool t => bif t then evC cl n a T Hp else evC cl n b T Hp | _ => none) := rfl
    rw [e, h1]
    rcases viewB_ok g1 with ⟨rfl, g2⟩ | ⟨rfl, g2⟩
    · exact iha ht hr g2
    · exact ihb ht hr g2
  | block id c ih =>
    intro T4 h T Hp k x ht hr hk
    rcases ih ht hr hk with ⟨T1, h1, T1', Hp1, e, t1, r1, g1⟩ | ⟨y, ex, T1, h1, T1', Hp1, e, hy, t1, r1, g1⟩
    · exact .inl ⟨T1, h1, T1', Hp1, by simp only [evC, e], t1, r1, g1⟩
    · rcases hy.cases with ⟨i, rfl, rfl⟩ | ⟨rfl, rfl⟩ | ⟨u, rfl, rfl⟩
      · rcases if_ok (c := Nat.beq i id) g1 with ⟨h2, g2⟩ | ⟨h2, g2⟩
        · have e2 := kEq_ok h2
          subst e2
          exact .inl ⟨T1, h1, T1', Hp1, by simp only [evC, e, beq_self_eq_true, cond_true], t1, r1, g2⟩
        · have hne : (i == id) = false := by
            rw [Bool.eq_false_iff]
            intro e3
            rw [eq_of_beq e3, Nat.beq_refl] at h2
            cases h2
          exact .inr ⟨.exit i, .exit i, T1, h1, T1', Hp1, by simp only [evC, e, hne, cond_false], rfl, t1, r1, g2⟩
      · exact .inr ⟨.ret, .ret, T1, h1, T1', Hp1, by simp only [evC, e], trivial, t1, r1, g1⟩
      · exact .inr ⟨.pan u, _, T1, h1, T1', Hp1, by simp only [evC, e], hy, t1, r1, g1⟩
  | loop c ih =>
    intro T4 h T Hp k x ht hr hk
    obtain ⟨y, ex, T1, h1, T1', Hp1, e, hy, t1, r1, g1⟩ := iter_ok (W := W) (body4 := fun T h k x => Bx.rec (motive := fun _ => _) (fun f => f) (codeX Q c) cl4 n T h k x) (body := fun T H => evC cl n c T H) (fun T4 h T Hp k x ht hr hk => ih ht hr hk) ht hr hk
    exact .inr ⟨y, ex, T1, h1, T1', Hp1, e, hy, t1, r1, g1⟩
  | exit i => intro T4 h T Hp k x ht hr hk; exact .inr ⟨.exit i, .exit i, T4, h, T, Hp, rfl, rfl, ht, hr, hk⟩
  | ret => intro T4 h T Hp k x ht hr hk; exact .inr ⟨.ret, .ret, T4, h, T, Hp, rfl, trivial, ht, hr, hk⟩
  | callp d f as =>
    intro T4 h T Hp k x ht hr hk
    obtain ⟨g, first, captured, v, h', Hp', h1, h2, h3, g1⟩ := callX_ok hcl ht hr (f := f) (as := as) (k := fun v h => viewR v 14 (fun u => x (.pan u) T4 h) (Bx.rec (motive := fun _ => _) (fun f => f) (putE d) T4 v fun T => k T h)) hk
    rcases viewR_ok g1 with ⟨u, rfl, g2⟩ | ⟨hn, g2⟩
    · refine .inr ⟨.pan u, .pan (dec W u), T4, h', T, Hp', ?_, rfl, ht, h3, g2⟩
      simp only [evC, h1, h2]
      rfl
    · obtain ⟨T1, t1, g3⟩ := putE_ok ht g2
      refine .inl ⟨T1, h', _, Hp', ?_, t1, h3, g3⟩
      simp only [evC, h1, h2, isPan_dec hn]
  | panic v =>
    intro T4 h T Hp k x ht hr hk
    obtain ⟨z, h1, g1⟩ := ro_ok ht (o := v) (k := fun z1 => viewR z1 9 (fun y => consX y fun u z => viewP u (fun _ _ => consX z fun _ z => and4 (lenX z 0) (x (.pan (.r 9 y)) T4 h)) false) false) hk
    obtain ⟨y, rfl, g2⟩ := viewR_f g1
    obtain ⟨u, z, rfl, g3⟩ := consX_ok g2
    obtain ⟨a, t, rfl, g4⟩ := viewP_f g3
    obtain ⟨w, z, rfl, g5⟩ := consX_ok g4
    obtain ⟨_, g6⟩ := and4_ok g5
    refine .inr ⟨.pan (.r 9 (.c (.p a t) (.c w z))), .pan (.iface t (dec W w)), T4, h, T, Hp, ?_, rfl, ht, hr, g6⟩
    simp only [evC, h1]
    rfl

/-! ### functions -/
theorem resX_ok (ht : TR W T4 T) (hr : HR W h Hp) : ∀ {rs : List Res} {k : X → Bool}, Bx.rec (motive := fun _ => _) (fun f => f) (resX rs) T4 h k = true → ∃ l, evRes T Hp rs = some (decs W l) ∧ k l = true
  | [], k, hk => ⟨.e, rfl, hk⟩
  | .tmp t :: rs, k, hk => by
    obtain ⟨l, h1, g1⟩ := resX_ok ht hr (rs := rs) (k := fun l => force (Bx.rec (motive := fun _ => _) (fun f => f) (getT t) T4) fun x => k (.c x l)) hk
    rw [force_eq] at g1
    refine ⟨_, ?_, g1⟩
    simp only [evRes, h1, Option.map_some]
    rw [decs_c, ht.get]
  | .cell t agg n :: rs, k, hk => by
    obtain ⟨l, h1, g1⟩ := resX_ok ht hr (rs := rs) (k := fun l => loadX agg n (Bx.rec (motive := fun _ => _) (fun f => f) (getT t) T4) h fun x => k (.c x l)) hk
    obtain ⟨x, h2, g2⟩ := load_ok hr g1
    rw [ht.get] at h2
    refine ⟨_, ?_, g2⟩
    simp only [evRes, h1, h2]
    rw [decs_c]
theorem evRes_len {T : Tr Value} {Hp : Heap} : ∀ {rs : List Res} {vs : List Value}, evRes T Hp rs = some vs → vs.length = rs.length
  | [], vs, h => by cases h; rfl
  | .tmp t :: rs, vs, h => by
    simp only [evRes] at h
    cases hr : evRes T Hp rs with
    | none => rw [hr] at h; cases h
    | some l => rw [hr] at h; cases h; rw [List.length_cons, List.length_cons, evRes_len hr]
  | .cell t agg n :: rs, vs, h => by
    simp only [evRes] at h
    cases hl : Hp.loadv agg n (rd T t) with
    | none => rw [hl] at h; cases h
    | some v =>
      cases hr : evRes T Hp rs with
      | none => rw [hl, hr] at h; cases h
      | some l => rw [hl, hr] at h; cases h; rw [List.length_cons, List.length_cons, evRes_len hr]
theorem packR_ok (ht : TR W T4 T) (hr : HR W h Hp) {rs : List Res} {k : X → Bool} (hk : Bx.rec (motive := fun _ => _) (fun f => f) (packR rs) T4 h k = true) : ∃ x, evR rs T Hp = some (dec W x, Hp) ∧ k x = true := by
  unfold evR
  cases rs with
  | nil =>
    obtain ⟨l, h1, g1⟩ := resX_ok ht hr (rs := []) (k := fun l => k (.r 0 l)) hk
    have h1 : decs W l = [] := (Option.some.inj h1).symm
    refine ⟨_, ?_, g1⟩
    show some (Value.tuple #[], Hp) = some (Value.tuple (decs W l).toArray, Hp)
    rw [h1]
  | cons r rs =>
    cases rs with
    | nil =>
      obtain ⟨l, h1, g1⟩ := resX_ok ht hr (rs := [r]) (k := fun l => headX l k) hk
      obtain ⟨x, l', rfl, g2⟩ := headX_ok g1
      have hl := evRes_len h1
      rw [decs_c, List.length_cons] at hl
      have : decs W l' = [] := List.eq_nil_of_length_eq_zero (by simpa using hl)
      rw [decs_c, this] at h1
      exact ⟨x, by rw [h1]; rfl, g2⟩
    | cons r2 rs =>
      obtain ⟨l, h1, g1⟩ := resX_ok ht hr (rs := r :: r2 :: rs) (k := fun l => k (.r 0 l)) hk
      have hl := evRes_len h1
      refine ⟨_, ?_, g1⟩
      rw [h1, Option.map_some]
      have : packRes (decs W l) = .tuple (decs W l).toArray := by
        cases hd : decs W l with
        | nil => rfl
        | cons v vs =>
          rw [hd] at hl
          cases vs with
          | nil => simp at hl
          | cons v2 vs => rfl
      rw [this]; rfl
theorem ofX_ok : ∀ {l : X} {n : Nat} {T4 : E} {T : Tr Value} {k : E → Bool}, TR W T4 T → ofX l n T4 k = true → ∃ T4', TR W T4' (Tr.ofList (decs W l) n T) ∧ k T4' = true := by
  intro l
  induction l with
  | e => intro n T4 T k ht hk; exact ⟨T4, ht, hk⟩
  | c x l _ ih =>
    intro n T4 T k ht hk
    have hk' : force x (fun x => Bx.rec (motive := fun _ => _) (fun f => f) (setT n) T4 x fun T => ofX l (n + 1) T k) = true := hk
    rw [force_eq] at hk'
    obtain ⟨T1, g1, t1⟩ := setT_ok ht hk'
    obtain ⟨T2, t2, g2⟩ := ih t1 g1
    exact ⟨T2, t2, g2⟩
  | _ => intro n T4 T k ht hk; exact absurd hk Bool.false_ne_true
theorem defX_ok (hQ : TkOk Q W) (hd : ∀ i, (W.d i).length ≤ 100) (hcl : ClR W cl4 cl) {Γ : Nat → Option FnI} {n : Nat} {c pv : X} {h : H} {Hp : Heap} (hr : HR W h Hp) {k : H → Bool} (hk : defX Q Γ cl4 n c pv h k = true) :
    ∃ h' Hp', evD Γ cl n (dec W c) (dec W pv) Hp = some Hp' ∧ HR W h' Hp' ∧ k h' = true := by
  obtain ⟨y, g, u, v, _, h1, g1⟩ := viewF_ok (W := W) hk
  unfold evD
  rw [h1]
  simp only
  cases hg : Γ g with
  | none => rw [hg] at g1; cases g1
  | some gn =>
    rw [hg] at g1
    obtain ⟨res, body, dfr, recv⟩ := gn
    cases dfr with
    | some p => cases g1
    | none =>
      cases recv with
      | none => cases g1
      | some d =>
        cases res with
        | cons r rs => cases g1
        | nil =>
          obtain ⟨l, g2, h2⟩ := app_ok (W := W) g1
          obtain ⟨T1, t1, g3⟩ := ofX_ok TR.nil g2
          obtain ⟨T2, g4, t2⟩ := setT_ok t1 g3
          rw [h2] at t2
          simp only
          have e1 : (decs W u).toArray.toList ++ (decs W v).toArray.toList = decs W u ++ decs W v := rfl
          rw [e1]
          rcases code_ok hQ hd hcl t2 hr g4 with ⟨T3, h3, T3', Hp3, e, t3, r3, g5⟩ | ⟨y, ex, T3, h3, T3', Hp3, e, hy, t3, r3, g5⟩
          · exact ⟨h3, Hp3, by rw [e], r3, g5⟩
          · rcases hy.cases with ⟨i, rfl, rfl⟩ | ⟨rfl, rfl⟩ | ⟨u, rfl, rfl⟩
            · cases g5
            · exact ⟨h3, Hp3, by rw [e], r3, g5⟩
            · cases g5
theorem fnX_ok (hQ : TkOk Q W) (hd : ∀ i, (W.d i).length ≤ 100) (hcl : ClR W cl4 cl) {Γ : Nat → Option FnI} {f n : Nat} {as : X} {h : H} {Hp : Heap} (hr : HR W h Hp) {k : K} (hk : Bx.rec (motive := fun _ => _) (fun f => f) (fnX Q Γ f) cl4 n as h k = true) :
    ∃ x h' Hp', evB Γ cl n f (decs W as) Hp = some (dec W x, Hp') ∧ HR W h' Hp' ∧ k x h' = true := by
  unfold evB
  unfold fnX at hk
  cases hg : Γ f with
  | none => rw [hg] at hk; cases hk
  | some fn =>
    rw [hg] at hk
    obtain ⟨res, body, dfr, recv⟩ := fn
    cases recv with
    | some d => cases hk
    | none =>
      cases dfr with
      | none =>
        obtain ⟨T1, t1, g1⟩ := ofX_ok TR.nil hk
        simp only
        rcases code_ok hQ hd hcl t1 hr g1 with ⟨T2, h2, T2', Hp2, e, t2, r2, g2⟩ | ⟨y, ex, T2, h2, T2', Hp2, e, hy, t2, r2, g2⟩
        · obtain ⟨x, h3, g3⟩ := packR_ok t2 r2 g2
          exact ⟨x, h2, Hp2, by rw [e]; exact h3, r2, g3⟩
        · rcases hy.cases with ⟨i, rfl, rfl⟩ | ⟨rfl, rfl⟩ | ⟨u, rfl, rfl⟩
          · cases g2
          · obtain ⟨x, h3, g3⟩ := packR_ok t2 r2 g2
            exact ⟨x, h2, Hp2, by rw [e]; exact h3, r2, g3⟩
          · exact ⟨_, h2, Hp2, by rw [e]; rfl, r2, g2⟩
      | some p =>
        obtain ⟨c, rest⟩ := p
        obtain ⟨T1, t1, g1⟩ := ofX_ok TR.nil hk
        simp only
        rcases code_ok hQ hd hcl t1 hr g1 with ⟨T2, h2, T2', Hp2, e, t2, r2, g2⟩ | ⟨y, ex, T2, h2, T2', Hp2, e, hy, t2, r2, g2⟩
        · rw [e]
          obtain ⟨cv, hc, g2'⟩ := ro_ok t2 g2
          simp only
          rcases code_ok hQ hd hcl t2 r2 g2' with ⟨T3, h3, T3', Hp3, e3, t3, r3, g3⟩ | ⟨y, ex, T3, h3, T3', Hp3, e3, hy, t3, r3, g3⟩
          · rw [e3]
            obtain ⟨h4, Hp4, e4, r4, g4⟩ := defX_ok hQ hd hcl r3 g3
            obtain ⟨x, e5, g5⟩ := packR_ok t3 r4 g4
            refine ⟨x, h4, Hp4, ?_, r4, g5⟩
            simp only
            rw [hc]
            have e4' : evD Γ cl n (dec W cv) .nilIface Hp3 = some Hp4 := e4
            rw [e4']
            exact e5
          · rcases hy.cases with ⟨i, rfl, rfl⟩ | ⟨rfl, rfl⟩ | ⟨u, rfl, rfl⟩
            · cases g3
            · rw [e3]
              obtain ⟨h4, Hp4, e4, r4, g4⟩ := defX_ok hQ hd hcl r3 g3
              obtain ⟨x, e5, g5⟩ := packR_ok t3 r4 g4
              refine ⟨x, h4, Hp4, ?_, r4, g5⟩
              simp only
              rw [hc]
              have e4' : evD Γ cl n (dec W cv) .nilIface Hp3 = some Hp4 := e4
              rw [e4']
              exact e5
            · rw [e3]
              obtain ⟨h4, Hp4, e4, r4, g4⟩ := defX_ok hQ hd hcl r3 g3
              obtain ⟨x, e5, g5⟩ := packR_ok t3 r4 g4
              refine ⟨x, h4, Hp4, ?_, r4, g5⟩
              simp only
              rw [hc, e4]
              exact e5
        · cases g2
/-- What is known of calls. -/
def OvR (W : Vl) (ov4 : Nat → X → H → K → Bool → Bool) (ov : Known) : Prop :=
  ∀ f as h Hp k no, HR W h Hp → ov4 f as h k no = true → (∃ x h' n, ov f (decs W as) Hp = some (dec W x, n) ∧ HR W h' (Hp.upto n) ∧ k x h' = true) ∨ (ov f (decs W as) Hp = none ∧ no = true)
theorem callF_ok (hQ : TkOk Q W) (hd : ∀ i, (W.d i).length ≤ 100) {Γ : Nat → Option FnI} {ov4 : Nat → X → H → K → Bool → Bool} {ov : Known} (ho : OvR W ov4 ov) : ∀ m, ClR W (callF Q Γ ov4 m) (evF Γ ov m)
  | 0 => fun _ _ _ _ _ _ hk => absurd hk Bool.false_ne_true
  | m + 1 => fun g as h Hp k hr hk => by
    have hk' : ov4 g as h k (Bx.rec (motive := fun _ => _) (fun f => f) (fnX Q Γ g) (callF Q Γ ov4 m) m as h k) = true := hk
    rcases ho _ _ _ _ _ _ hr hk' with ⟨x, h', n, h1, h2, g1⟩ | ⟨h1, g1⟩
    · exact ⟨x, h', _, by simp only [evF, h1], h2, g1⟩
    · obtain ⟨x, h', Hp', h2, h3, g2⟩ := fnX_ok hQ hd (callF_ok hQ hd ho m) hr g1
      exact ⟨x, h', Hp', by simp only [evF, h1]; exact h2, h3, g2⟩
theorem OvR.none : OvR W (fun _ _ _ _ no => no) (fun _ _ _ => none) := fun _ _ _ _ _ _ _ hk => .inr ⟨rfl, hk⟩
end
end Go.Proofs.YtiphbdhclldllaaGreatDoor.M4
