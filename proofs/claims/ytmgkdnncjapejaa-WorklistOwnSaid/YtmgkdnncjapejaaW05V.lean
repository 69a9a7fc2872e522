/- A part of the proof that the law answers true at every input: the text W05V; no conditions. -/
import Derived.Test.YtmgkdnncjapejaaW05U
set_option linter.unusedSimpArgs false
set_option linter.unusedVariables false
namespace Go.Proofs.Ytmgkdnncjapejaa.Ab
open Go Go.Proofs.Ytmgkdnncjapejaa.Abs Go.Proofs.Ytmgkdnncjapejaa.Abs.W05
set_option maxRecDepth 100000

theorem ok_ev {H : Abs.Heap} {q : Nat} {e : Nat} {r : Bool} {a b c : Value} (hq : H.get q = some (.cells e r [.bool true, a, b, c])) (k : Nat) :
    evF Γ ov (k + 1) 25 [.pointer (some ⟨q, 0, none⟩)] H = some (.bool true, H) := by
  simp only [evF, ov_ne 25 _ _ (by decide), evB, Γ, i25, Tr.ofList]
  repeat ((first | rw [evSeq_go] | rw [evSeq_none] | rw [evSeq_guard] | rw [evC_region] | rw [evC_seq] | rw [evC_cond] | rw [evC_block]); try simp only [undef, Array.size_empty, evSeq_nil, isCall_mv, isCall_pick, isCall_alloc, isCall_box, isCall_build, isCall_bslice, isCall_load, isCall_store, isCall_nilchk, isCall_bin, isCall_un, isCall_conv, isCall_mkfn, isCall_mkslice, isCall_slice, isCall_strslice, isCall_faddr, isCall_field, isCall_iaddr, isCall_aaddr, isCall_aindex, isCall_strindex, isCall_ext, isCall_len, isCall_strlen, isCall_const, isCall_append, isCall_minmax, isCall_copy, isCall_call, evI, Opd.ev, rd_set, rd_nil, cond_true, cond_false, Nat.reduceEqDiff, Nat.reduceAdd, Nat.reduceMul, Nat.add_zero, Nat.zero_add, Nat.mul_one, if_true, if_false, reduceIte, binV, intBin, eqBy, Abs.ptrEq, Abs.slcEq, Abs.fncEq, leafEq, unV, Option.map_some, Option.map_none, Option.isNone_none, Option.isNone_some, Bool.not_true, Bool.not_false, beq_self_eq_true, List.getElem?_cons_zero, List.getElem?_cons_succ, evRes, packRes, List.map_cons, List.map_nil, Heap.loadv, Bool.false_eq_true, List.getElem?_toArray, decide_true, decide_false, List.append_nil, List.nil_append, List.cons_append, List.toList_toArray, Bool.beq_eq_decide_eq, reduceCtorEq, Heap.storev, cells_int, cells_bool, cells_string, cells_pointer, cells_slice, cells_func, cells_nilFunc, cells_agg, ok_int, ok_bool, ok_string, ok_pointer, ok_slice, ok_func, ok_nilFunc, ok_agg, size_one, toList_one, Heap.get_put, Heap.size_put, Heap.size_ext, iaddrV, true_and, and_true, eq_self, evC_skip, evC_exit, evC_ret, ext_zero, Option.map_map, Function.comp_def, List.size_toArray, List.length_cons, List.length_nil, not_true_eq_false, not_false_eq_true, ne_eq, hq])

theorem len_ev {H : Abs.Heap} {fp : List Nat} {q h : Nat} {hs : List Bool} {l : List Int} {lv fv : Value} (Q : QM H fp q h hs l lv fv) (k : Nat) :
    evF Γ ov (k + 2) 16 [.pointer (some ⟨q, 0, none⟩)] H = some ((Value.int .i64 (l.length)), H) := by
  have qo := Q.qo
  have hok := ok_ev qo k
  rw [evF, ov_ne 16 _ _ (by decide)]
  simp only [evB, Γ, i16, Tr.ofList]
  rcases Q.ls with ⟨rfl, rfl⟩ | ⟨o, off, m, cap, e, cs, rfl, _⟩
  · repeat ((first | rw [evSeq_go] | rw [evSeq_none] | rw [evSeq_guard] | rw [evC_region] | rw [evC_seq] | rw [evC_cond] | rw [evC_block]); try simp only [undef, Array.size_empty, evSeq_nil, isCall_mv, isCall_pick, isCall_alloc, isCall_box, isCall_build, isCall_bslice, isCall_load, isCall_store, isCall_nilchk, isCall_bin, isCall_un, isCall_conv, isCall_mkfn, isCall_mkslice, isCall_slice, isCall_strslice, isCall_faddr, isCall_field, isCall_iaddr, isCall_aaddr, isCall_aindex, isCall_strindex, isCall_ext, isCall_len, isCall_strlen, isCall_const, isCall_append, isCall_minmax, isCall_copy, isCall_call, evI, Opd.ev, rd_set, rd_nil, cond_true, cond_false, Nat.reduceEqDiff, Nat.reduceAdd, Nat.reduceMul, Nat.add_zero, Nat.zero_add, Nat.mul_one, if_true, if_false, reduceIte, binV, intBin, eqBy, Abs.ptrEq, Abs.slcEq, Abs.fncEq, leafEq, unV, Option.map_some, Option.map_none, Option.isNone_none, Option.isNone_some, Bool.not_true, Bool.not_false, beq_self_eq_true, List.getElem?_cons_zero, List.getElem?_cons_succ, evRes, packRes, List.map_cons, List.map_nil, Heap.loadv, Bool.false_eq_true, List.getElem?_toArray, decide_true, decide_false, List.append_nil, List.nil_append, List.cons_append, List.toList_toArray, Bool.beq_eq_decide_eq, reduceCtorEq, Heap.storev, cells_int, cells_bool, cells_string, cells_pointer, cells_slice, cells_func, cells_nilFunc, cells_agg, ok_int, ok_bool, ok_string, ok_pointer, ok_slice, ok_func, ok_nilFunc, ok_agg, size_one, toList_one, Heap.get_put, Heap.size_put, Heap.size_ext, iaddrV, true_and, and_true, eq_self, evC_skip, evC_exit, evC_ret, ext_zero, Option.map_map, Function.comp_def, List.size_toArray, List.length_cons, List.length_nil, not_true_eq_false, not_false_eq_true, ne_eq, qo, hok])
  · repeat ((first | rw [evSeq_go] | rw [evSeq_none] | rw [evSeq_guard] | rw [evC_region] | rw [evC_seq] | rw [evC_cond] | rw [evC_block]); try simp only [undef, Array.size_empty, evSeq_nil, isCall_mv, isCall_pick, isCall_alloc, isCall_box, isCall_build, isCall_bslice, isCall_load, isCall_store, isCall_nilchk, isCall_bin, isCall_un, isCall_conv, isCall_mkfn, isCall_mkslice, isCall_slice, isCall_strslice, isCall_faddr, isCall_field, isCall_iaddr, isCall_aaddr, isCall_aindex, isCall_strindex, isCall_ext, isCall_len, isCall_strlen, isCall_const, isCall_append, isCall_minmax, isCall_copy, isCall_call, evI, Opd.ev, rd_set, rd_nil, cond_true, cond_false, Nat.reduceEqDiff, Nat.reduceAdd, Nat.reduceMul, Nat.add_zero, Nat.zero_add, Nat.mul_one, if_true, if_false, reduceIte, binV, intBin, eqBy, Abs.ptrEq, Abs.slcEq, Abs.fncEq, leafEq, unV, Option.map_some, Option.map_none, Option.isNone_none, Option.isNone_some, Bool.not_true, Bool.not_false, beq_self_eq_true, List.getElem?_cons_zero, List.getElem?_cons_succ, evRes, packRes, List.map_cons, List.map_nil, Heap.loadv, Bool.false_eq_true, List.getElem?_toArray, decide_true, decide_false, List.append_nil, List.nil_append, List.cons_append, List.toList_toArray, Bool.beq_eq_decide_eq, reduceCtorEq, Heap.storev, cells_int, cells_bool, cells_string, cells_pointer, cells_slice, cells_func, cells_nilFunc, cells_agg, ok_int, ok_bool, ok_string, ok_pointer, ok_slice, ok_func, ok_nilFunc, ok_agg, size_one, toList_one, Heap.get_put, Heap.size_put, Heap.size_ext, iaddrV, true_and, and_true, eq_self, evC_skip, evC_exit, evC_ret, ext_zero, Option.map_map, Function.comp_def, List.size_toArray, List.length_cons, List.length_nil, not_true_eq_false, not_false_eq_true, ne_eq, qo, hok])

theorem has_map {hs : List Bool} {x : Int} (h0 : 0 ≤ x) (h1 : x < hs.length) : (hs.map Value.bool)[x.toNat]? = some (.bool (hs.getD x.toNat false)) := by
  have : x.toNat < hs.length := by omega
  simp [this]

theorem has_ev {H : Abs.Heap} {fp : List Nat} {q h : Nat} {hs : List Bool} {l : List Int} {lv fv : Value} (Q : QM H fp q h hs l lv fv) (x : Int) (k : Nat) :
    evF Γ ov (k + 2) 17 [.pointer (some ⟨q, 0, none⟩), (Value.int .i64 (x))] H = some (.bool (decide (0 ≤ x) && (decide (x < hs.length) && hs.getD x.toNat false)), H) := by
  have qo := Q.qo
  have ho := Q.ho
  have hok := ok_ev qo k
  rw [evF, ov_ne 17 _ _ (by decide)]
  simp only [evB, Γ, i17, Tr.ofList]
  by_cases h0 : 0 ≤ x
  · by_cases h1 : x < hs.length
    · have hm := has_map h0 h1
      have h0' : x ≥ 0 := h0
      repeat ((first | rw [evSeq_go] | rw [evSeq_none] | rw [evSeq_guard] | rw [evC_region] | rw [evC_seq] | rw [evC_cond] | rw [evC_block]); try simp only [undef, Array.size_empty, evSeq_nil, isCall_mv, isCall_pick, isCall_alloc, isCall_box, isCall_build, isCall_bslice, isCall_load, isCall_store, isCall_nilchk, isCall_bin, isCall_un, isCall_conv, isCall_mkfn, isCall_mkslice, isCall_slice, isCall_strslice, isCall_faddr, isCall_field, isCall_iaddr, isCall_aaddr, isCall_aindex, isCall_strindex, isCall_ext, isCall_len, isCall_strlen, isCall_const, isCall_append, isCall_minmax, isCall_copy, isCall_call, evI, Opd.ev, rd_set, rd_nil, cond_true, cond_false, Nat.reduceEqDiff, Nat.reduceAdd, Nat.reduceMul, Nat.add_zero, Nat.zero_add, Nat.mul_one, if_true, if_false, reduceIte, binV, intBin, eqBy, Abs.ptrEq, Abs.slcEq, Abs.fncEq, leafEq, unV, Option.map_some, Option.map_none, Option.isNone_none, Option.isNone_some, Bool.not_true, Bool.not_false, beq_self_eq_true, List.getElem?_cons_zero, List.getElem?_cons_succ, evRes, packRes, List.map_cons, List.map_nil, Heap.loadv, Bool.false_eq_true, List.getElem?_toArray, decide_true, decide_false, List.append_nil, List.nil_append, List.cons_append, List.toList_toArray, Bool.beq_eq_decide_eq, reduceCtorEq, Heap.storev, cells_int, cells_bool, cells_string, cells_pointer, cells_slice, cells_func, cells_nilFunc, cells_agg, ok_int, ok_bool, ok_string, ok_pointer, ok_slice, ok_func, ok_nilFunc, ok_agg, size_one, toList_one, Heap.get_put, Heap.size_put, Heap.size_ext, iaddrV, true_and, and_true, eq_self, evC_skip, evC_exit, evC_ret, ext_zero, Option.map_map, Function.comp_def, List.size_toArray, List.length_cons, List.length_nil, not_true_eq_false, not_false_eq_true, ne_eq, qo, ho, hok, h0, h0', h1, hm])
      simp [h0, h1]
    · have h0' : x ≥ 0 := h0
      repeat ((first | rw [evSeq_go] | rw [evSeq_none] | rw [evSeq_guard] | rw [evC_region] | rw [evC_seq] | rw [evC_cond] | rw [evC_block]); try simp only [undef, Array.size_empty, evSeq_nil, isCall_mv, isCall_pick, isCall_alloc, isCall_box, isCall_build, isCall_bslice, isCall_load, isCall_store, isCall_nilchk, isCall_bin, isCall_un, isCall_conv, isCall_mkfn, isCall_mkslice, isCall_slice, isCall_strslice, isCall_faddr, isCall_field, isCall_iaddr, isCall_aaddr, isCall_aindex, isCall_strindex, isCall_ext, isCall_len, isCall_strlen, isCall_const, isCall_append, isCall_minmax, isCall_copy, isCall_call, evI, Opd.ev, rd_set, rd_nil, cond_true, cond_false, Nat.reduceEqDiff, Nat.reduceAdd, Nat.reduceMul, Nat.add_zero, Nat.zero_add, Nat.mul_one, if_true, if_false, reduceIte, binV, intBin, eqBy, Abs.ptrEq, Abs.slcEq, Abs.fncEq, leafEq, unV, Option.map_some, Option.map_none, Option.isNone_none, Option.isNone_some, Bool.not_true, Bool.not_false, beq_self_eq_true, List.getElem?_cons_zero, List.getElem?_cons_succ, evRes, packRes, List.map_cons, List.map_nil, Heap.loadv, Bool.false_eq_true, List.getElem?_toArray, decide_true, decide_false, List.append_nil, List.nil_append, List.cons_append, List.toList_toArray, Bool.beq_eq_decide_eq, reduceCtorEq, Heap.storev, cells_int, cells_bool, cells_string, cells_pointer, cells_slice, cells_func, cells_nilFunc, cells_agg, ok_int, ok_bool, ok_string, ok_pointer, ok_slice, ok_func, ok_nilFunc, ok_agg, size_one, toList_one, Heap.get_put, Heap.size_put, Heap.size_ext, iaddrV, true_and, and_true, eq_self, evC_skip, evC_exit, evC_ret, ext_zero, Option.map_map, Function.comp_def, List.size_toArray, List.length_cons, List.length_nil, not_true_eq_false, not_false_eq_true, ne_eq, qo, ho, hok, h0, h0', h1])
      simp [h1]
  · have h0' : ¬ x ≥ 0 := h0
    repeat ((first | rw [evSeq_go] | rw [evSeq_none] | rw [evSeq_guard] | rw [evC_region] | rw [evC_seq] | rw [evC_cond] | rw [evC_block]); try simp only [undef, Array.size_empty, evSeq_nil, isCall_mv, isCall_pick, isCall_alloc, isCall_box, isCall_build, isCall_bslice, isCall_load, isCall_store, isCall_nilchk, isCall_bin, isCall_un, isCall_conv, isCall_mkfn, isCall_mkslice, isCall_slice, isCall_strslice, isCall_faddr, isCall_field, isCall_iaddr, isCall_aaddr, isCall_aindex, isCall_strindex, isCall_ext, isCall_len, isCall_strlen, isCall_const, isCall_append, isCall_minmax, isCall_copy, isCall_call, evI, Opd.ev, rd_set, rd_nil, cond_true, cond_false, Nat.reduceEqDiff, Nat.reduceAdd, Nat.reduceMul, Nat.add_zero, Nat.zero_add, Nat.mul_one, if_true, if_false, reduceIte, binV, intBin, eqBy, Abs.ptrEq, Abs.slcEq, Abs.fncEq, leafEq, unV, Option.map_some, Option.map_none, Option.isNone_none, Option.isNone_some, Bool.not_true, Bool.not_false, beq_self_eq_true, List.getElem?_cons_zero, List.getElem?_cons_succ, evRes, packRes, List.map_cons, List.map_nil, Heap.loadv, Bool.false_eq_true, List.getElem?_toArray, decide_true, decide_false, List.append_nil, List.nil_append, List.cons_append, List.toList_toArray, Bool.beq_eq_decide_eq, reduceCtorEq, Heap.storev, cells_int, cells_bool, cells_string, cells_pointer, cells_slice, cells_func, cells_nilFunc, cells_agg, ok_int, ok_bool, ok_string, ok_pointer, ok_slice, ok_func, ok_nilFunc, ok_agg, size_one, toList_one, Heap.get_put, Heap.size_put, Heap.size_ext, iaddrV, true_and, and_true, eq_self, evC_skip, evC_exit, evC_ret, ext_zero, Option.map_map, Function.comp_def, List.size_toArray, List.length_cons, List.length_nil, not_true_eq_false, not_false_eq_true, ne_eq, qo, ho, hok, h0, h0'])
    simp [h0]

/-- One integer is appended. -/
theorem append_one {X : Abs.Heap} {lv : Value} {l : List Int} {P : Nat → Prop}
    (ls : (lv = .slice none 0 0 ∧ l = []) ∨ ∃ o off m cap e cs, lv = .slice (some ⟨o, off, some m⟩) l.length cap ∧ (m = 2 ∨ m = 3) ∧ l.length ≤ cap ∧ X.get o = some (.cells e false cs) ∧ off + cap ≤ cs.length ∧
      (∀ i, i < l.length → cs[off + i]? = some (Value.int .i64 (g l i))) ∧ P o) {id b e2 : Nat} {x : Int} (hb : X.get b = some (.cells e2 false [(Value.int .i64 (x))])) (hid : X.get id = some .pend) (hl : l.length ≤ 100000) :
    ∃ X' lv', X.append id 3 1 8 false lv (.slice (some ⟨b, 0, some 3⟩) 1 1) = some (lv', X') ∧ X'.size = X.size ∧ okAll lv' = true ∧ (lv'.cells = #[lv']) ∧
      (∃ o off m cap e cs, lv' = .slice (some ⟨o, off, some m⟩) (l ++ [x]).length cap ∧ (m = 2 ∨ m = 3) ∧ (l ++ [x]).length ≤ cap ∧ X'.get o = some (.cells e false cs) ∧ off + cap ≤ cs.length ∧
        (∀ i, i < (l ++ [x]).length → cs[off + i]? = some (Value.int .i64 (g (l ++ [x]) i))) ∧ (P o ∨ o = id)) ∧ ∀ i, ¬ P i → i ≠ id → X'.get i = X.get i := by
  have hrow : X.row 1 (.slice (some ⟨b, 0, some 3⟩) 1 1) = some (1, [(Value.int .i64 (x))]) := by
    simp [Heap.row, hb]
  rcases ls with ⟨rfl, rfl⟩ | ⟨o, off, m, cap, e, cs, rfl, hm, hcap, go, hlen, hcs, hP⟩
  · refine ⟨X.put id (.cells 3 false [(Value.int .i64 (x))]), .slice (some ⟨id, 0, some 2⟩) 1 1, ?_, rfl, rfl, rfl, ⟨id, 0, 2, 1, 3, [(Value.int .i64 (x))], rfl, .inl rfl, by simp, by simp [Heap.get_put], by simp, fun i hi => ?_, .inr rfl⟩, fun i _ h => ?_⟩
    · simp [Heap.append, hrow, Heap.new, hid]
    · have : i = 0 := by simpa using hi
      subst this; simp [g]
    · rw [Heap.get_put, if_neg (fun e => h e.symm)]
  · have hgl : ∀ i, i < l.length → g (l ++ [x]) i = g l i := fun i hi => g_append_left hi
    have hm2 : ¬ (m / 2 ≠ 1 ∧ m ≠ 1) := by rcases hm with rfl | rfl <;> simp
    by_cases hfit : l.length + 1 ≤ cap
    · refine ⟨X.put o (.cells e false (setRange cs (off + l.length) [(Value.int .i64 (x))])), .slice (some ⟨o, off, some m⟩) (l.length + 1) cap, ?_, rfl, rfl, rfl,
        ⟨o, off, m, cap, e, setRange cs (off + l.length) [(Value.int .i64 (x))], by simp, hm, by simpa using hfit, by simp [Heap.get_put], ?_, fun i hi => ?_, .inl hP⟩, fun i h _ => ?_⟩
      · have s1 : off + (l.length + 1) ≤ cs.length := by omega
        simp [Heap.append, hrow, hm2, hfit, go, s1, okCell]
      · rw [setRange_one _ _ _ (by omega)]; simpa using hlen
      · rw [setRange_one _ _ _ (by omega), List.getElem?_set]
        simp at hi
        by_cases e : i = l.length
        · subst e; rw [if_pos rfl, if_pos (by omega)]; simp [g]
        · rw [if_neg (by omega), hgl i (by omega)]; exact hcs i (by omega)
      · have : ¬ o = i := fun e => h (e ▸ hP)
        rw [Heap.get_put, if_neg this]
    · have hrow2 : X.row 1 (.slice (some ⟨o, off, some m⟩) l.length cap) = some (l.length, (cs.drop off).take l.length) := by
        simp only [Heap.row]
        split
        · rename_i h0; simp [h0]
        · rw [go]; simp only [Nat.mul_one]
          rw [if_pos (by omega)]
      have b1 : (l.length + 1) * 8 ≤ 2 ^ 46 := by omega
      have b2 : l.length + 1 ≤ 2 ^ 46 := by omega
      have hcells : ∀ i, i < l.length + 1 → ((cs.drop off).take l.length ++ [(Value.int .i64 (x))])[0 + i]? = some (Value.int .i64 (g (l ++ [x]) i)) := fun i hi => by
        rw [Nat.zero_add]
        by_cases e : i = l.length
        · subst e
          rw [List.getElem?_append_right (by simp; omega)]
          have : (List.take l.length (List.drop off cs)).length = l.length := by simp; omega
          simp [this, g]
        · rw [List.getElem?_append_left (by simp; omega), List.getElem?_take, if_pos (by omega), List.getElem?_drop, hgl i (by omega)]
          exact hcs i (by omega)
      have hlen2 : ((cs.drop off).take l.length ++ [(Value.int .i64 (x))]).length = l.length + 1 := by simp; omega
      have hio : id ≠ o := fun e => by subst e; rw [hid] at go; cases go
      rcases hm with rfl | rfl
      · -- open
        refine ⟨(X.put id (.cells 3 false ((cs.drop off).take l.length ++ [(Value.int .i64 (x))]))).put o .dead, .slice (some ⟨id, 0, some 2⟩) (l.length + 1) (l.length + 1), ?_, rfl, rfl, rfl,
          ⟨id, 0, 2, l.length + 1, 3, (cs.drop off).take l.length ++ [(Value.int .i64 (x))], by simp, .inl rfl, by simp, ?_, by rw [hlen2]; omega, fun i hi => hcells i (by simpa using hi), .inr rfl⟩, fun i h h' => ?_⟩
        · have s1 : off + l.length ≤ cs.length := by omega
          simp [Heap.append, hrow, hfit, hrow2, b1, b2, go, Heap.new, hid, okCell, s1]
        · rw [Heap.get_put, if_neg (fun e => hio e.symm), Heap.get_put, if_pos rfl]
        · have : ¬ o = i := fun e => h (e ▸ hP)
          rw [Heap.get_put, if_neg this, Heap.get_put, if_neg (fun e => h' e.symm)]
      · refine ⟨X.put id (.cells 3 false ((cs.drop off).take l.length ++ [(Value.int .i64 (x))])), .slice (some ⟨id, 0, some 2⟩) (l.length + 1) (l.length + 1), ?_, rfl, rfl, rfl,
          ⟨id, 0, 2, l.length + 1, 3, (cs.drop off).take l.length ++ [(Value.int .i64 (x))], by simp, .inl rfl, by simp, by simp [Heap.get_put], by rw [hlen2]; omega, fun i hi => hcells i (by simpa using hi), .inr rfl⟩, fun i _ h' => ?_⟩
        · simp [Heap.append, hrow, hfit, hrow2, b1, b2, Heap.new, hid]
        · rw [Heap.get_put, if_neg (fun e => h' e.symm)]

end Go.Proofs.Ytmgkdnncjapejaa.Ab
