/- A law of which the tables and opaque arguments tell the answer. -/
import Derived.Test.YtiphbdhclldllaaGreatDoorZadO
set_option linter.unusedSimpArgs false
set_option linter.unusedVariables false
namespace Go.Proofs.YtiphbdhclldllaaGreatDoor.Mx
open Go

theorem tr1_plain (W : World) {v : Value} (h : plain v = true) : tr1 W v = v := by cases v <;> simp [plain] at h <;> rfl

theorem tabs_in {W : World} {G : Nat} {Hg : Heap} (ht : Tables G Hg) (hW : ∀ id e cs, Hg.get id = some (.cells e true cs) → ∃ c fz, W.heap[id]? = some (.cells c e fz) ∧ c.toList = cs) :
    ∀ id ob, Hg.get id = some ob → (heapOf W).get id = some ob := by
  intro id ob h
  obtain ⟨_, e, cs, rfl, hp⟩ := ht.ro id ob h
  obtain ⟨c, fz, h1, h2⟩ := hW id e cs h
  rw [heapOf_get, h1]
  simp only [Option.map_some, obOf]
  congr 2
  rw [h2]
  have : ∀ l : List Value, l.all plain = true → l.map (tr1 W) = l := by
    intro l
    induction l with
    | nil => intro _; rfl
    | cons v l ih =>
      intro hl
      simp only [List.all_cons, Bool.and_eq_true] at hl
      simp only [List.map_cons, tr1_plain W hl.1, ih hl.2]
  exact this cs hp

/-- The law's call, by the machine's run over the tables alone. -/
theorem law_closed {P : Program} (hm : P.follows .mixedOrders = true) {Γ : Nat → Option FnI} (hΓ : TabOk P Γ) {Tb : Bs → World → Prop} {ov : Known} (hov : OvOk P Tb ov) (hog : OvGood ov) {f k : Nat} {args : List Value} {args' : Array Value} {W : World} {Hg H' : Heap}
    (htb : Tb ⟨P.globals.size, W.heap.size⟩ W) (ht : Tables P.globals.size Hg) (hG : P.globals.size ≤ W.heap.size) (hW : ∀ id e cs, Hg.get id = some (.cells e true cs) → ∃ c fz, W.heap[id]? = some (.cells c e fz) ∧ c.toList = cs)
    (ha : ∀ β, VRs β args args'.toList) (h : evF Γ ov k f args Hg = some (.bool true, H')) : Calls P f args' W fun e w' => e = .returned (.bool true) ∧ RowKit.Below W.heap.size W w' := by
  obtain ⟨_, _, hc⟩ := (sim_F (B0 := ⟨P.globals.size, W.heap.size⟩) (w0 := W) hm hΓ hov hog (Nat.le_refl _) htb k).c _ _ _ _ _ h
  refine (hc _ W args' (tables_rel (rel0 W hG) ht (Nat.le_refl _) (tabs_in ht hW)) (ha _)).mono ?_
  rintro e w' ⟨β', he, _, hR⟩
  obtain ⟨v', rfl, hv⟩ : ∃ v', e = .returned v' ∧ VR β' (.bool true) v' := he
  cases hv
  exact ⟨rfl, hR.os, hR.tape, hR.output, hR.siz, hR.keep⟩

end Go.Proofs.YtiphbdhclldllaaGreatDoor.Mx
