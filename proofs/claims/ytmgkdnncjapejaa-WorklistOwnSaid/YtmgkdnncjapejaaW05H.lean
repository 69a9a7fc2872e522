/- A part of the proof that the law answers true at every input: the text W05H; no conditions. -/
import Derived.Test.YtmgkdnncjapejaaW05G
set_option linter.unusedSimpArgs false
set_option linter.unusedVariables false
namespace Go.Proofs.Ytmgkdnncjapejaa.Ab
open Go Go.Proofs.Ytmgkdnncjapejaa.Abs Go.Proofs.Ytmgkdnncjapejaa.Abs.W05
set_option maxRecDepth 100000
set_option maxHeartbeats 4000000

theorem g_app {l1 l2 : List Int} {i : Nat} (h : ¬ i < l1.length) : g (l1 ++ l2) i = g l2 (i - l1.length) := by
  simp only [g]
  simp only [List.getD_eq_getElem?_getD]
  rw [List.getElem?_append_right (by omega)]
theorem g_append_left' {l1 l2 : List Int} {i : Nat} (h : i < l1.length) : g (l1 ++ l2) i = g l1 i := by
  simp only [g]
  simp only [List.getD_eq_getElem?_getD]
  rw [List.getElem?_append_left h]
theorem g_map {l : List Int} {i : Nat} (h : i < l.length) : (l.map fun x => (Value.int .i64 (x)))[i]? = some (Value.int .i64 (g l i)) := by
  simp [g, h]

/-- More integers are appended to those of an object that is ours. -/
theorem append_list {X : Abs.Heap} {l1 l2 : List Int} {o off m cap e : Nat} {cs : List Value} (hm : m = 2 ∨ m = 3) (hcap : l1.length ≤ cap) (go : X.get o = some (.cells e false cs)) (hlen : off + cap ≤ cs.length)
    (hcs : ∀ i, i < l1.length → cs[off + i]? = some (Value.int .i64 (g l1 i))) {y : Value} (hrow : X.row 1 y = some (l2.length, l2.map fun x => (Value.int .i64 (x)))) {id : Nat} (hid : X.get id = some .pend) (hl : l1.length + l2.length ≤ 100000) :
    ∃ X' o' off' m' cap' e' cs', X.append id 3 1 8 false (.slice (some ⟨o, off, some m⟩) l1.length cap) y = some (.slice (some ⟨o', off', some m'⟩) (l1 ++ l2).length cap', X') ∧ X'.size = X.size ∧ (m' = 2 ∨ m' = 3) ∧ (l1 ++ l2).length ≤ cap' ∧
      X'.get o' = some (.cells e' false cs') ∧ off' + cap' ≤ cs'.length ∧ (∀ i, i < (l1 ++ l2).length → cs'[off' + i]? = some (Value.int .i64 (g (l1 ++ l2) i))) ∧ (o' = o ∨ o' = id) ∧ ∀ i, i ≠ o → i ≠ id → X'.get i = X.get i := by
  have hio : id ≠ o := fun e => by subst e; rw [hid] at go; cases go
  have hm2 : ¬ (m / 2 ≠ 1 ∧ m ≠ 1) := by rcases hm with rfl | rfl <;> simp
  have hok : (l2.map fun x => (Value.int .i64 (x))).all okCell = true := by simp [okCell]
  by_cases hz : l2.length = 0
  · have : l2 = [] := List.eq_nil_of_length_eq_zero hz
    subst this
    exact ⟨X, o, off, m, cap, e, cs, by simp [Heap.append, hrow, hm2], rfl, hm, by simpa using hcap, go, hlen, by simpa using hcs, .inl rfl, fun _ _ _ => rfl⟩
  by_cases hfit : l1.length + l2.length ≤ cap
  · refine ⟨X.put o (.cells e false (setRange cs (off + l1.length) (l2.map fun x => (Value.int .i64 (x))))), o, off, m, cap, e, setRange cs (off + l1.length) (l2.map fun x => (Value.int .i64 (x))), ?_, rfl, hm, by simpa using hfit, by rw [Heap.get_put, if_pos rfl], ?_, fun i hi => ?_, .inl rfl, fun i h _ => ?_⟩
    · have s1 : off + (l1.length + l2.length) ≤ cs.length := by omega
      simp only [Heap.append, hrow, if_neg hm2, if_neg hz, if_pos hfit, go, Nat.mul_one, hok, and_true, if_pos s1, Bool.false_eq_true, if_false, List.length_append]
    · simp [setRange]; omega
    · rw [getElem?_setRange _ _ _ (by simp; omega)]
      simp at hi
      by_cases hi1 : i < l1.length
      · rw [if_neg (by omega), hcs i hi1, g_append_left' hi1]
      · rw [if_pos (by simp; omega), g_app hi1, show off + i - (off + l1.length) = i - l1.length by omega, g_map (by omega)]
    · rw [Heap.get_put, if_neg (fun c => h c.symm)]
  · have hrow2 : X.row 1 (.slice (some ⟨o, off, some m⟩) l1.length cap) = some (l1.length, (cs.drop off).take l1.length) := by
      simp only [Heap.row]
      split
      · rename_i h0; simp [h0]
      · rw [go]; simp only [Nat.mul_one]
        rw [if_pos (by omega)]
    have b1 : (l1.length + l2.length) * 8 ≤ 2 ^ 46 := by omega
    have b2 : l1.length + l2.length ≤ 2 ^ 46 := by omega
    have tl : (List.take l1.length (List.drop off cs)).length = l1.length := by simp; omega
    have hcells : ∀ i, i < (l1 ++ l2).length → ((cs.drop off).take l1.length ++ l2.map fun x => (Value.int .i64 (x)))[0 + i]? = some (Value.int .i64 (g (l1 ++ l2) i)) := fun i hi => by
      simp at hi
      rw [Nat.zero_add]
      by_cases hi1 : i < l1.length
      · rw [List.getElem?_append_left (by rw [tl]; exact hi1), List.getElem?_take, if_pos hi1, List.getElem?_drop, hcs i hi1, g_append_left' hi1]
      · rw [List.getElem?_append_right (by rw [tl]; omega), tl, g_app hi1, g_map (by omega)]
    have hlen2 : ((cs.drop off).take l1.length ++ l2.map fun x => (Value.int .i64 (x))).length = (l1 ++ l2).length := by simp; omega
    rcases hm with rfl | rfl
    · refine ⟨(X.put id (.cells 3 false ((cs.drop off).take l1.length ++ l2.map fun x => (Value.int .i64 (x))))).put o .dead, id, 0, 2, (l1 ++ l2).length, 3, (cs.drop off).take l1.length ++ l2.map fun x => (Value.int .i64 (x)), ?_, rfl, .inl rfl, Nat.le_refl _, ?_, by rw [hlen2]; omega, hcells, .inr rfl, fun i h h' => ?_⟩
      · have s1 : off + l1.length ≤ cs.length := by omega
        simp only [Heap.append, hrow, if_neg hm2, if_neg hz, if_neg hfit, hrow2, b1, b2, go, Nat.mul_one, hok, new_pend hid, Option.map_some, List.length_append, s1, true_and, and_true, if_true, Bool.false_eq_true, if_false, Nat.reduceMod, Nat.reduceEqDiff]
      · rw [Heap.get_put, if_neg (fun c => hio c.symm), Heap.get_put, if_pos rfl]
      · rw [Heap.get_put, if_neg (fun c => h c.symm), Heap.get_put, if_neg (fun c => h' c.symm)]
    · refine ⟨X.put id (.cells 3 false ((cs.drop off).take l1.length ++ l2.map fun x => (Value.int .i64 (x)))), id, 0, 2, (l1 ++ l2).length, 3, (cs.drop off).take l1.length ++ l2.map fun x => (Value.int .i64 (x)), ?_, rfl, .inl rfl, Nat.le_refl _, ?_, by rw [hlen2]; omega, hcells, .inr rfl, fun i h h' => ?_⟩
      · simp only [Heap.append, hrow, if_neg hm2, if_neg hz, if_neg hfit, hrow2, b1, b2, go, Nat.mul_one, hok, new_pend hid, Option.map_some, List.length_append, true_and, and_true, if_true, Bool.false_eq_true, if_false, Nat.reduceMod, Nat.reduceEqDiff]
      · rw [Heap.get_put, if_pos rfl]
      · rw [Heap.get_put, if_neg (fun c => h' c.symm)]

end Go.Proofs.Ytmgkdnncjapejaa.Ab
