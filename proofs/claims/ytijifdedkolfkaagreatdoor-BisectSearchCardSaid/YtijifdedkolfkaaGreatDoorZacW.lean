/- Running code to a wanted end: rules for sequences, blocks and loops. -/
import Derived.Test.YtijifdedkolfkaaGreatDoorZacQ
set_option linter.unusedSimpArgs false
set_option linter.unusedVariables false
namespace Go.Proofs.YtijifdedkolfkaaGreatDoor.Mac
open Go

/-- The code runs, and ends so that Q holds. -/
def Runs (cl : Nat → List Value → Heap → Option (Value × Heap)) (n : Nat) (c : Cd) (T : Tr Value) (H : Heap) (Q : Ex → Tr Value → Heap → Prop) : Prop :=
  ∃ e T' H', evC cl n c T H = some (e, T', H') ∧ Q e T' H'

variable {cl : Nat → List Value → Heap → Option (Value × Heap)} {n : Nat} {T T1 : Tr Value} {H H1 : Heap} {Q : Ex → Tr Value → Heap → Prop}

theorem Runs.of {c : Cd} {e : Ex} (h : evC cl n c T H = some (e, T1, H1)) (k : Q e T1 H1) : Runs cl n c T H Q := ⟨e, T1, H1, h, k⟩
theorem Runs.seqN {a b : Cd} (h : evC cl n a T H = some (.normal, T1, H1)) (k : Runs cl n b T1 H1 Q) : Runs cl n (.seq a b) T H Q := by
  obtain ⟨e, T', H', h1, h2⟩ := k
  exact ⟨e, T', H', by rw [evC_seq, h]; exact h1, h2⟩
theorem Runs.seqE {a b : Cd} {e : Ex} (h : evC cl n a T H = some (e, T1, H1)) (he : e ≠ .normal) (k : Q e T1 H1) : Runs cl n (.seq a b) T H Q := by
  refine ⟨e, T1, H1, ?_, k⟩
  rw [evC_seq, h]
  cases e <;> first | rfl | exact absurd rfl he
theorem Runs.assoc {a b c : Cd} (h : Runs cl n (.seq a (.seq b c)) T H Q) : Runs cl n (.seq (.seq a b) c) T H Q := by
  obtain ⟨e, T', H', h1, h2⟩ := h
  refine ⟨e, T', H', ?_, h2⟩
  simp only [evC_seq] at h1 ⊢
  revert h1
  cases ha : evC cl n a T H with
  | none => intro h; exact h
  | some p =>
    obtain ⟨e1, Ta, Ha⟩ := p
    cases e1 <;> intro h <;> exact h
theorem Runs.seqN1 {a b : Cd} {r : Ex × Tr Value × Heap} (h : evC cl n a T H = some r) (k : match r with | (.normal, T1, H1) => Runs cl n b T1 H1 Q | (e, T1, H1) => Q e T1 H1) : Runs cl n (.seq a b) T H Q := by
  obtain ⟨e, T1, H1⟩ := r
  cases e with
  | normal => exact Runs.seqN h k
  | ret => exact Runs.seqE h (by simp) k
  | exit i => exact Runs.seqE h (by simp) k
theorem Runs.seqE1 {a b : Cd} {r : Ex × Tr Value × Heap} (h : evC cl n a T H = some r) (he : r.1 ≠ .normal) (k : Q r.1 r.2.1 r.2.2) : Runs cl n (.seq a b) T H Q := Runs.seqE h he k
theorem Runs.of1 {c : Cd} {r : Ex × Tr Value × Heap} (h : evC cl n c T H = some r) (k : Q r.1 r.2.1 r.2.2) : Runs cl n c T H Q := Runs.of h k
/-- A loop in its own block, and what follows it. -/
theorem Runs.loop {c b : Cd} {id : Nat} {P : Ex → Tr Value → Heap → Prop} (h : ∃ e T' H', evC cl n (.loop c) T H = some (e, T', H') ∧ e ≠ .normal ∧ P e T' H')
    (k1 : ∀ T' H', P (.exit id) T' H' → Runs cl n b T' H' Q) (k2 : ∀ e T' H', e ≠ .normal → e ≠ .exit id → P e T' H' → Q e T' H') : Runs cl n (.seq (.block id (.loop c)) b) T H Q := by
  obtain ⟨e, T', H', h1, h2, h3⟩ := h
  by_cases he : e = .exit id
  · subst he
    refine Runs.seqN (T1 := T') (H1 := H') ?_ (k1 T' H' h3)
    rw [evC_block, h1]
    simp
  · refine Runs.seqE (e := e) (T1 := T') (H1 := H') ?_ h2 (k2 e T' H' h2 he h3)
    rw [evC_block, h1]
    cases e with
    | normal => exact absurd rfl h2
    | ret => rfl
    | exit i =>
      have : (i == id) = false := by simp; intro c; exact he (by rw [c])
      simp [this]

/-- A call, by its body's run. -/
theorem evF_of {Γ : Nat → Option FnI} {ov : Known} {k f : Nat} {args : List Value} {H H' : Heap} {fn : FnI} {v : Value} (hov : ov f args H = none) (hΓ : Γ f = some fn)
    (h : Runs (evF Γ ov k) k fn.body (Tr.ofList args 0 .nil) H fun e T X => (e = .normal ∨ e = .ret) ∧ X = H' ∧ (evRes T X fn.res).map packRes = some v) : evF Γ ov (k + 1) f args H = some (v, H') := by
  obtain ⟨e, T, X, h1, h2, rfl, h3⟩ := h
  cases hr : evRes T X fn.res with
  | none => rw [hr] at h3; cases h3
  | some vs =>
    rw [hr] at h3
    injection h3 with h3
    rcases h2 with rfl | rfl <;> simp [evF, hov, evB, hΓ, h1, hr, h3]

end Go.Proofs.YtijifdedkolfkaaGreatDoor.Mac
