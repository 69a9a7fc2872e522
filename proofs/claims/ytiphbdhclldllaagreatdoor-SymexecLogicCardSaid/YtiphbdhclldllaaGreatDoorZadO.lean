/- A law's call: from the memory as it stands at the call to the abstract machine's heap. -/
import Derived.Test.YtiphbdhclldllaaGreatDoorZadN
import Derived.Below
set_option linter.unusedSimpArgs false
set_option linter.unusedVariables false
namespace Go.Proofs.YtiphbdhclldllaaGreatDoor.Mx
open Go

def isRow (w : World) (b : Nat) : Bool :=
  match w.heap[b]? with
  | some (.cells _ _ _) => true
  | _ => false

/-- A cell, or an argument of one cell, as the abstract machine sees it. -/
def tr1 (w : World) : Value → Value
  | .bool b => .bool b
  | .int k n => .int k n
  | .string s => .string s
  | .pointer none => .pointer none
  | .pointer (some ⟨b, o, none⟩) => if isRow w b then .pointer (some ⟨b, o, none⟩) else junk
  | .slice none 0 0 => .slice none 0 0
  | .slice (some _) 0 0 => .slice (some ⟨0, 0, some 1⟩) 0 0
  | .slice (some ⟨b, o, none⟩) len cap => if isRow w b ∧ len ≤ cap then .slice (some ⟨b, o, some 1⟩) len cap else junk
  | .map none => .map none
  | .nilFunc => .nilFunc
  | .nilIface => .nilIface
  | _ => junk

def trV (w : World) : Value → Value
  | .agg cs => .agg (cs.map (tr1 w))
  | v => tr1 w v

def obOf (w : World) : Obj → Ob
  | .cells c e _ => .cells e true (c.toList.map (tr1 w))
  | _ => .dead

def heapOf (w : World) : Heap := ⟨w.heap.size, Tr.ofList (w.heap.toList.map (obOf w)) 0 .nil⟩

def embOf (w : World) : Emb := fun b =>
  match w.heap[b]? with
  | some (.cells c _ _) => some ⟨b, 0, c.size⟩
  | some _ => some ⟨b, 0, 0⟩
  | none => none

theorem heapOf_get (w : World) (b : Nat) : (heapOf w).get b = (w.heap[b]?).map (obOf w) := by
  show (Tr.ofList (w.heap.toList.map (obOf w)) 0 .nil).get b = _
  rw [get_ofList]
  by_cases hb : b < w.heap.size
  · rw [if_pos (by simp; exact hb), Nat.sub_zero, List.getElem?_map, Array.getElem?_toList]
  · rw [if_neg (by simp; omega), Array.getElem?_eq_none (by omega)]
    rfl

theorem isRow_emb {w : World} {b : Nat} (h : isRow w b = true) : ∃ n, embOf w b = some ⟨b, 0, n⟩ := by
  unfold isRow at h
  unfold embOf
  cases hq : w.heap[b]? with
  | none => rw [hq] at h; cases h
  | some o => rw [hq] at h; cases o <;> first | exact ⟨_, rfl⟩ | cases h

theorem tr1_vr (w : World) (v : Value) : VR (embOf w) (tr1 w v) v := by
  unfold tr1
  split
  · exact .bool _
  · exact .int _ _
  · exact .str _
  · exact .nilp
  · split
    · rename_i b o h
      obtain ⟨n, hn⟩ := isRow_emb h
      have := VR.ptr (β := embOf w) b o ⟨b, 0, n⟩ hn
      simpa using this
    · exact .any _
  · exact .nils
  · exact .slice0 _ _ _ _
  · split
    · rename_i b o len cap _ h
      obtain ⟨n, hn⟩ := isRow_emb h.1
      have := VR.slice (β := embOf w) b o 1 len cap cap ⟨b, 0, n⟩ hn h.2 (Nat.le_refl _) (fun _ => rfl) (fun h => absurd rfl h)
      simpa using this
    · exact .any _
  · exact .nilm
  · exact .nilf
  · exact .nili
  · exact .any _

theorem trV_vr (w : World) (v : Value) : VR (embOf w) (trV w v) v := by
  unfold trV
  split
  · rename_i cs
    refine .agg' ⟨by simp, fun i u hu => ?_⟩
    simp only [Array.toList_map, List.getElem?_map] at hu
    cases hq : cs.toList[i]? with
    | none => rw [hq] at hu; cases hu
    | some x => rw [hq] at hu; cases hu; exact ⟨x, rfl, tr1_vr w x⟩
  · exact tr1_vr w v

theorem rel0 (w : World) {G : Nat} (hG : G ≤ w.heap.size) : WRel ⟨G, w.heap.size⟩ w (embOf w) (heapOf w) w := by
  have hget : ∀ id e ro cs, (heapOf w).get id = some (.cells e ro cs) → ∃ c fz, w.heap[id]? = some (.cells c e fz) ∧ ro = true ∧ cs = c.toList.map (tr1 w) := by
    intro id e ro cs h
    rw [heapOf_get] at h
    cases hq : w.heap[id]? with
    | none => rw [hq] at h; cases h
    | some o =>
      rw [hq] at h
      simp only [Option.map_some, Option.some.injEq] at h
      cases o <;> simp only [obOf] at h <;> cases h
      exact ⟨_, _, rfl, rfl, rfl⟩
  have hmap : ∀ id es c, (heapOf w).get id ≠ some (.map es c) := by
    intro id es c h
    rw [heapOf_get] at h
    cases hq : w.heap[id]? with
    | none => rw [hq] at h; cases h
    | some o => rw [hq] at h; cases o <;> simp [obOf] at h
  refine ⟨⟨fun id l h => ?_, fun id h => ?_, fun id l e ro cs h h' => ?_, fun id l e cs h h' => ?_, fun id l e cs id' l' e' ro' cs' h1 h2 => ?_, fun id l es c _ h => absurd h (hmap _ _ _), fun id l es c _ h => absurd h (hmap _ _ _),
    fun id l es c id' l' es' c' _ h => absurd h (hmap _ _ _), fun g hg => ?_, fun b _ => rfl, Nat.le_refl _⟩, rfl, rfl, rfl⟩
  rotate_right
  · have hg' : g < w.heap.size := Nat.lt_of_lt_of_le hg hG
    unfold embOf
    rw [Array.getElem?_eq_getElem hg']
    cases w.heap[g] <;> exact ⟨_, rfl⟩
  · unfold embOf at h
    split at h
    · rename_i c e fz hc; exact (Array.getElem?_eq_some_iff.1 hc).1
    · rename_i o _ hc; exact (Array.getElem?_eq_some_iff.1 hc).1
    · cases h
  · rw [heapOf_get] at h
    cases hq : w.heap[id]? with
    | none => rw [hq] at h; cases h
    | some o => rw [hq] at h; cases o <;> simp [obOf] at h
  · obtain ⟨c, fz, hc, rfl, rfl⟩ := hget _ _ _ _ h'
    have hl : l = ⟨id, 0, c.size⟩ := by
      unfold embOf at h; rw [hc] at h; exact (Option.some.inj h).symm
    subst hl
    refine ⟨c, _, fz, hc, (fun h => by cases h), by simp, by simp, fun i v hv => ?_⟩
    rw [List.getElem?_map] at hv
    cases hq : c.toList[i]? with
    | none => rw [hq] at hv; cases hv
    | some x =>
      rw [hq] at hv; cases hv
      rw [Array.getElem?_toList] at hq
      exact ⟨x, by simpa using hq, tr1_vr w x⟩
  · obtain ⟨c, fz, hc, h0, _⟩ := hget _ _ _ _ h'
    cases h0
  · obtain ⟨c, fz, hc, h0, _⟩ := hget _ _ _ _ h2
    cases h0

/-- A law that the abstract machine answers with true is answered with true by the model, and no elder memory turns. -/
theorem law_calls {P : Program} (hm : P.follows .mixedOrders = true) {Γ : Nat → Option FnI} (hΓ : TabOk P Γ) {Tb : Bs → World → Prop} {ov : Known} (hov : OvOk P Tb ov) (hog : OvGood ov) {f k : Nat} {args : Array Value} {W : World} (htb : Tb ⟨P.globals.size, W.heap.size⟩ W) (hG : P.globals.size ≤ W.heap.size) {H' : Heap}
    (h : evF Γ ov k f (args.toList.map (trV W)) (heapOf W) = some (.bool true, H')) : Calls P f args W fun e w' => e = .returned (.bool true) ∧ RowKit.Below W.heap.size W w' := by
  obtain ⟨_, hs, hc⟩ := (sim_F (B0 := ⟨P.globals.size, W.heap.size⟩) (w0 := W) hm hΓ hov hog (Nat.le_refl _) htb k).c _ _ _ _ _ h
  refine (hc (embOf W) W args (rel0 W hG) ⟨by simp, fun i v hv => ?_⟩).mono ?_
  · rw [List.getElem?_map] at hv
    cases hq : args.toList[i]? with
    | none => rw [hq] at hv; cases hv
    | some x => rw [hq] at hv; cases hv; exact ⟨x, rfl, trV_vr W x⟩
  · rintro e w' ⟨β', he, _, hR⟩
    obtain ⟨v', rfl, hv⟩ : ∃ v', e = .returned v' ∧ VR β' (.bool true) v' := he
    cases hv
    exact ⟨rfl, hR.os, hR.tape, hR.output, hR.siz, hR.keep⟩

/-! ### what is read of the memory at the call -/
theorem tr1_cell {w : World} {b o : Nat} {v : Value} (h : w.cell? ⟨b, o, none⟩ = some v) : ∃ e cs, (heapOf w).get b = some (.cells e true cs) ∧ cs[o]? = some (tr1 w v) ∧ isRow w b = true := by
  unfold World.cell? at h
  split at h
  · rename_i c e fz hc
    simp only [Option.isSome_none, Bool.false_eq_true, if_false] at h
    refine ⟨e, c.toList.map (tr1 w), by rw [heapOf_get, hc]; rfl, ?_, by unfold isRow; rw [hc]⟩
    rw [List.getElem?_map, Array.getElem?_toList, h]
    rfl
  · cases h

/-- What holds of all that a trie holds. -/
def AllT {α : Type} (Q : Nat → α → Prop) : Tr α → (Nat → Nat) → Prop
  | .nil, _ => True
  | .node v l r, φ => (∀ x, v = some x → Q (φ 0) x) ∧ AllT Q l (fun k => φ (2 * k + 1)) ∧ AllT Q r (fun k => φ (2 * k + 2))

theorem AllT.at {α : Type} {Q : Nat → α → Prop} : ∀ {t : Tr α} {φ : Nat → Nat}, AllT Q t φ → ∀ n x, t.get n = some x → Q (φ n) x
  | .nil, φ, _, n, x, h => by simp [Tr.get] at h
  | .node v l r, φ, ⟨h1, h2, h3⟩, n, x, h => by
    rcases nat_cases n with rfl | ⟨k, rfl⟩ | ⟨k, rfl⟩
    · rw [Tr.get_zero] at h; exact h1 x h
    · rw [Tr.get_odd] at h; exact AllT.at h2 k x h
    · rw [Tr.get_even] at h; exact AllT.at h3 k x h

end Go.Proofs.YtiphbdhclldllaaGreatDoor.Mx
