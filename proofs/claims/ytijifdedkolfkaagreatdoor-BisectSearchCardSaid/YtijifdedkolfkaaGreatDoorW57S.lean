/- Binary search: the program's loop and the reference's loop, on the abstract machine. -/
import Derived.Test.YtijifdedkolfkaaGreatDoorW57P
import Derived.Test.YtijifdedkolfkaaGreatDoorZacW
import Derived.Test.YtijifdedkolfkaaGreatDoorZacX
set_option linter.unusedSimpArgs false
set_option linter.unusedVariables false
namespace Go.Proofs.YtijifdedkolfkaaGreatDoor.Ab
open Go Go.Proofs.YtijifdedkolfkaaGreatDoor.Mac
set_option maxRecDepth 100000
set_option maxHeartbeats 4000000

/-- The search: from lo to hi, the calls counted; the answer lo and the number of calls. -/
def srch (bad : Nat → Bool) : Nat → Nat → Nat → Nat → Nat × Nat
  | 0, lo, _, c => (lo, c)
  | f + 1, lo, hi, c => if lo < hi then (if bad (lo + (hi - lo) / 2) then srch bad f lo (lo + (hi - lo) / 2) (c + 1) else srch bad f (lo + (hi - lo) / 2 + 1) hi (c + 1)) else (lo, c)

theorem wrap_in {z : Int} (h1 : -9223372036854775808 ≤ z) (h2 : z ≤ 9223372036854775807) : IntKind.i64.wrap z = z := by
  simp [IntKind.wrap, IntKind.bits, IntKind.signed]; omega

theorem ltI_nat (a b : Nat) : ltI (a : Int) (b : Int) = decide (a < b) := by rw [ltI_eq]; simp
theorem quo_two (a : Nat) : Int.tdiv (a : Int) 2 = ((a / 2 : Nat) : Int) := by
  rw [Int.tdiv_eq_ediv_of_nonneg (by omega)]; omega

/-- The loop of bisect.Search, for any function value that tells what is bad and leaves the memory as it is. -/
theorem search_loop {cl : Nat → List Value → Heap → Option (Value × Heap)} {bad : Nat → Bool} {g : Nat} {cap : Array Value} {N : Nat} (hN : N ≤ 2000) {X : Heap}
    (hc : ∀ i : Nat, i < N → cl g ((Value.int .i64 (i)) :: cap.toList) X = some (.bool (bad i), X)) (n : Nat) :
    ∀ f lo hi c : Nat, hi - lo < f → f ≤ n → lo ≤ hi → hi ≤ N → c + f ≤ 4000 → ∀ T : Tr Value, rd T 0 = (Value.int .i64 ((N : Nat))) → rd T 1 = .func (.func g) #[] cap → rd T 5 = (Value.int .i64 (c)) → rd T 6 = (Value.int .i64 (lo)) → rd T 7 = (Value.int .i64 (hi)) →
    ∃ T', iter (fun T H => evC cl n i5l0 T H) f T X = some (.exit 0, T', X) ∧ rd T' 0 = (Value.int .i64 ((N : Nat))) ∧ rd T' 5 = (Value.int .i64 (((srch bad f lo hi c).2 : Nat))) ∧ rd T' 6 = (Value.int .i64 (((srch bad f lo hi c).1 : Nat))) := by
  intro f
  induction f with
  | zero => intro lo hi c h; omega
  | succ f ih =>
    intro lo hi c h hn hl hh hcf T t0 t1 t5 t6 t7
    have d0 : ltI (lo : Int) (hi : Int) = decide (lo < hi) := ltI_nat lo hi
    by_cases d : lo < hi
    · have w1 : IntKind.i64.wrap ((hi : Int) - (lo : Int)) = ((hi - lo : Nat) : Int) := by rw [wrap_in (by omega) (by omega)]; omega
      have w2 : IntKind.i64.wrap (((hi - lo : Nat) : Int).tdiv 2) = (((hi - lo) / 2 : Nat) : Int) := by rw [quo_two, wrap_in (by omega) (by omega)]
      have w3 : IntKind.i64.wrap ((lo : Int) + (((hi - lo) / 2 : Nat) : Int)) = ((lo + (hi - lo) / 2 : Nat) : Int) := by rw [wrap_in (by omega) (by omega)]; omega
      have w4 : IntKind.i64.wrap ((c : Int) + 1) = ((c + 1 : Nat) : Int) := by rw [wrap_in (by omega) (by omega)]; omega
      have w5 : IntKind.i64.wrap (((lo + (hi - lo) / 2 : Nat) : Int) + 1) = ((lo + (hi - lo) / 2 + 1 : Nat) : Int) := by rw [wrap_in (by omega) (by omega)]; omega
      have z2 : ¬ ((2 : Int) = 0) := by omega
      have hb := hc (lo + (hi - lo) / 2) (by omega)
      have dt : decide (lo < hi) = true := by simp [d]
      rw [dt] at d0
      cases hbad : bad (lo + (hi - lo) / 2) with
      | true =>
        rw [hbad] at hb
        have step : ∃ T', evC cl n i5l0 T X = some (.normal, T', X) ∧ rd T' 0 = (Value.int .i64 ((N : Nat))) ∧ rd T' 1 = .func (.func g) #[] cap ∧ rd T' 5 = (Value.int .i64 ((c + 1 : Nat))) ∧ rd T' 6 = (Value.int .i64 (lo)) ∧ rd T' 7 = (Value.int .i64 ((lo + (hi - lo) / 2 : Nat))) := by
          refine ⟨?_, ?eq, ?_, ?_, ?_, ?_, ?_⟩
          case eq =>
            unfold i5l0
            repeat ((first | rw [evSeq_o] | rw [evSeq_og] | rw [evSeq_ox] | rw [evC_region] | rw [evC_seq] | rw [evC_cond] | rw [evC_block]); try simp only [undef, Array.size_empty, evSeq_nil, evI, Opd.ev, rd_set, rd_nil, cond_true, cond_false, Nat.reduceEqDiff, Nat.reduceAdd, Nat.reduceMul, Nat.add_zero, Nat.zero_add, Nat.mul_one, if_true, if_false, reduceIte, binV, intBin, eqBy, Mac.ptrEq, Mac.slcEq, Mac.fncEq, mapEq, leafEq, unV, Option.map_some, Option.map_none, Option.isNone_none, Option.isNone_some, Bool.not_true, Bool.not_false, beq_self_eq_true, List.getElem?_cons_zero, List.getElem?_cons_succ, evRes, packRes, List.map_cons, List.map_nil, Heap.loadv, Bool.false_eq_true, List.getElem?_toArray, decide_true, decide_false, List.append_nil, List.nil_append, List.cons_append, List.toList_toArray, Bool.beq_eq_decide_eq, reduceCtorEq, Heap.storev, cells_int, cells_bool, cells_string, cells_pointer, cells_slice, cells_func, cells_nilFunc, cells_agg, ok_int, ok_bool, ok_string, ok_pointer, ok_slice, ok_func, ok_nilFunc, ok_agg, size_one, toList_one, Heap.get_put, Heap.size_put, Heap.size_ext, iaddrV, true_and, and_true, eq_self, evC_skip, evC_exit, evC_ret, ext_zero, Option.map_map, Function.comp_def, List.size_toArray, List.length_cons, List.length_nil, not_true_eq_false, not_false_eq_true, ne_eq, t0, t1, t5, t6, t7, d0, w1, w2, w3, w4, w5, z2, hb, List.toList_toArray, Array.toList_empty])
            rfl
          all_goals simp only [rd_set, Nat.reduceEqDiff, if_false, if_true, t0, t1, t5, t6, t7]
        obtain ⟨T1, e1, s0, s1, s5, s6, s7⟩ := step
        obtain ⟨T2, e2, r0, r5, r6⟩ := ih lo (lo + (hi - lo) / 2) (c + 1) (by omega) (by omega) (by omega) (by omega) (by omega) T1 s0 s1 s5 s6 s7
        refine ⟨T2, by simp only [iter, e1]; exact e2, r0, ?_, ?_⟩
        · rw [r5]; simp only [srch, d, if_true, hbad]
        · rw [r6]; simp only [srch, d, if_true, hbad]
      | false =>
        rw [hbad] at hb
        have step : ∃ T', evC cl n i5l0 T X = some (.normal, T', X) ∧ rd T' 0 = (Value.int .i64 ((N : Nat))) ∧ rd T' 1 = .func (.func g) #[] cap ∧ rd T' 5 = (Value.int .i64 ((c + 1 : Nat))) ∧ rd T' 6 = (Value.int .i64 ((lo + (hi - lo) / 2 + 1 : Nat))) ∧ rd T' 7 = (Value.int .i64 (hi)) := by
          refine ⟨?_, ?eq, ?_, ?_, ?_, ?_, ?_⟩
          case eq =>
            unfold i5l0
            repeat ((first | rw [evSeq_o] | rw [evSeq_og] | rw [evSeq_ox] | rw [evC_region] | rw [evC_seq] | rw [evC_cond] | rw [evC_block]); try simp only [undef, Array.size_empty, evSeq_nil, evI, Opd.ev, rd_set, rd_nil, cond_true, cond_false, Nat.reduceEqDiff, Nat.reduceAdd, Nat.reduceMul, Nat.add_zero, Nat.zero_add, Nat.mul_one, if_true, if_false, reduceIte, binV, intBin, eqBy, Mac.ptrEq, Mac.slcEq, Mac.fncEq, mapEq, leafEq, unV, Option.map_some, Option.map_none, Option.isNone_none, Option.isNone_some, Bool.not_true, Bool.not_false, beq_self_eq_true, List.getElem?_cons_zero, List.getElem?_cons_succ, evRes, packRes, List.map_cons, List.map_nil, Heap.loadv, Bool.false_eq_true, List.getElem?_toArray, decide_true, decide_false, List.append_nil, List.nil_append, List.cons_append, List.toList_toArray, Bool.beq_eq_decide_eq, reduceCtorEq, Heap.storev, cells_int, cells_bool, cells_string, cells_pointer, cells_slice, cells_func, cells_nilFunc, cells_agg, ok_int, ok_bool, ok_string, ok_pointer, ok_slice, ok_func, ok_nilFunc, ok_agg, size_one, toList_one, Heap.get_put, Heap.size_put, Heap.size_ext, iaddrV, true_and, and_true, eq_self, evC_skip, evC_exit, evC_ret, ext_zero, Option.map_map, Function.comp_def, List.size_toArray, List.length_cons, List.length_nil, not_true_eq_false, not_false_eq_true, ne_eq, t0, t1, t5, t6, t7, d0, w1, w2, w3, w4, w5, z2, hb, List.toList_toArray, Array.toList_empty])
            rfl
          all_goals simp only [rd_set, Nat.reduceEqDiff, if_false, if_true, t0, t1, t5, t6, t7]
        obtain ⟨T1, e1, s0, s1, s5, s6, s7⟩ := step
        obtain ⟨T2, e2, r0, r5, r6⟩ := ih (lo + (hi - lo) / 2 + 1) hi (c + 1) (by omega) (by omega) (by omega) (by omega) (by omega) T1 s0 s1 s5 s6 s7
        refine ⟨T2, by simp only [iter, e1]; exact e2, r0, ?_, ?_⟩
        · rw [r5]; simp only [srch, d, if_true, hbad, Bool.false_eq_true, if_false]
        · rw [r6]; simp only [srch, d, if_true, hbad, Bool.false_eq_true, if_false]
    · have dt : decide (lo < hi) = false := by simp [d]
      rw [dt] at d0
      refine ⟨?_, ?eq, ?_, ?_, ?_⟩
      case eq =>
        simp only [iter]
        unfold i5l0
        repeat ((first | rw [evSeq_o] | rw [evSeq_og] | rw [evSeq_ox] | rw [evC_region] | rw [evC_seq] | rw [evC_cond] | rw [evC_block]); try simp only [undef, Array.size_empty, evSeq_nil, evI, Opd.ev, rd_set, rd_nil, cond_true, cond_false, Nat.reduceEqDiff, Nat.reduceAdd, Nat.reduceMul, Nat.add_zero, Nat.zero_add, Nat.mul_one, if_true, if_false, reduceIte, binV, intBin, eqBy, Mac.ptrEq, Mac.slcEq, Mac.fncEq, mapEq, leafEq, unV, Option.map_some, Option.map_none, Option.isNone_none, Option.isNone_some, Bool.not_true, Bool.not_false, beq_self_eq_true, List.getElem?_cons_zero, List.getElem?_cons_succ, evRes, packRes, List.map_cons, List.map_nil, Heap.loadv, Bool.false_eq_true, List.getElem?_toArray, decide_true, decide_false, List.append_nil, List.nil_append, List.cons_append, List.toList_toArray, Bool.beq_eq_decide_eq, reduceCtorEq, Heap.storev, cells_int, cells_bool, cells_string, cells_pointer, cells_slice, cells_func, cells_nilFunc, cells_agg, ok_int, ok_bool, ok_string, ok_pointer, ok_slice, ok_func, ok_nilFunc, ok_agg, size_one, toList_one, Heap.get_put, Heap.size_put, Heap.size_ext, iaddrV, true_and, and_true, eq_self, evC_skip, evC_exit, evC_ret, ext_zero, Option.map_map, Function.comp_def, List.size_toArray, List.length_cons, List.length_nil, not_true_eq_false, not_false_eq_true, ne_eq, t0, t1, t5, t6, t7, d0])
        rfl
      · simp only [rd_set, Nat.reduceEqDiff, if_false, t0]
      · simp only [srch, d, if_false, rd_set, Nat.reduceEqDiff, t5]
      · simp only [srch, d, if_false, rd_set, Nat.reduceEqDiff, t6]

end Go.Proofs.YtijifdedkolfkaaGreatDoor.Ab
