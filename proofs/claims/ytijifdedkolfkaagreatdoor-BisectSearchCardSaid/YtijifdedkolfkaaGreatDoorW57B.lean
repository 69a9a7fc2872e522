/- Binary search: from the World to the machine's heap. -/
import Derived.Test.YtijifdedkolfkaaGreatDoorW57L
import Derived.Deep.Grids
import Derived.ProofKit
set_option linter.unusedSimpArgs false
set_option linter.unusedVariables false
namespace Go.Proofs.YtijifdedkolfkaaGreatDoor.Ab
open Go Go.Proofs.YtijifdedkolfkaaGreatDoor.Mac
set_option maxRecDepth 100000

theorem tr_slice {W : World} {b o l c : Nat} (hc : c ≠ 0) (hb : isRow W b = true) (hl : l ≤ c) : trV W (.slice (some ⟨b, o, none⟩) l c) = .slice (some ⟨b, o, some 1⟩) l c := by
  obtain ⟨c, rfl⟩ : ∃ j, c = j + 1 := ⟨c - 1, by omega⟩
  simp [trV, tr1, hb, hl]
theorem cell_spot {W : World} {x : Addr} {v : Value} (h : W.cell? x = some v) : x = ⟨x.block, x.off, none⟩ := by
  unfold World.cell? at h
  split at h
  · split at h
    · cases h
    · rename_i hs
      cases x with
      | mk b o s => cases s with
        | none => rfl
        | some s => simp at hs
  · cases h
theorem add_mk (b o i : Nat) : (⟨b, o, none⟩ : Addr).add i = ⟨b, o + i, none⟩ := by
  unfold Addr.add
  split
  · subst_vars; rfl
  · rfl
theorem heap_cell {W : World} {b e : Nat} {r : Bool} {cs : List Value} (hg : (heapOf W).get b = some (.cells e r cs)) {i : Nat} {t : Bool} (h : W.cell? ⟨b, i, none⟩ = some (.bool t)) : cs[i]? = some (.bool t) := by
  obtain ⟨e', cs', h1, h2, _⟩ := tr1_cell h
  rw [hg] at h1
  cases h1
  exact h2
theorem heap_lt {W : World} {b : Nat} {o : Ob} (h : (heapOf W).get b = some o) : b < (heapOf W).size := by
  rw [heapOf_get] at h
  cases hq : W.heap[b]? with
  | none => rw [hq] at h; cases h
  | some x => exact (Array.getElem?_eq_some_iff.1 hq).1

theorem rdB_of {W : World} {x : Addr} {l c : Nat} {B : Nat → Bool} (hl : l ≤ c) (hcell : ∀ i, i < c → W.cell? (x.add i) = some (.bool (B i))) : RdB (heapOf W) (trV W (.slice (some x) l c)) l B := by
  by_cases hc : c = 0
  · subst hc
    have : l = 0 := by omega
    subst this
    exact ⟨some ⟨0, 0, some 1⟩, 0, rfl, fun h => by omega⟩
  · have h0 := hcell 0 (by omega)
    have hx : x = ⟨x.block, x.off, none⟩ := cell_spot (by simpa [Addr.add] using h0)
    generalize x.block = b at hx
    generalize x.off = o at hx
    subst hx
    rw [add_mk] at h0
    obtain ⟨e, cs, h1, _, h3⟩ := tr1_cell h0
    refine ⟨some ⟨b, o, some 1⟩, c, tr_slice hc h3 hl, fun _ => ⟨b, o, 1, e, true, cs, rfl, h1, heap_lt h1, fun i hi => ?_⟩⟩
    exact heap_cell h1 (by rw [← add_mk]; exact hcell i (by omega))

theorem rdB_nil {W : World} : RdB (heapOf W) (trV W (.slice none 0 0)) 0 (fun _ => false) := ⟨none, 0, rfl, fun h => by omega⟩

end Go.Proofs.YtijifdedkolfkaaGreatDoor.Ab
