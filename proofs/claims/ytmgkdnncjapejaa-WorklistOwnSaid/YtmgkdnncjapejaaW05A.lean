/- A part of the proof that the law answers true at every input: the text W05A; no conditions. -/
import Derived.Test.YtmgkdnncjapejaaW05Q
set_option linter.unusedSimpArgs false
set_option linter.unusedVariables false
namespace Go.Proofs.Ytmgkdnncjapejaa.Ab
open Go Go.Proofs.Ytmgkdnncjapejaa.Abs Go.Proofs.Ytmgkdnncjapejaa.Abs.W05
set_option maxRecDepth 100000
set_option maxHeartbeats 4000000

theorem works_ev (H : Abs.Heap) (k : Nat) : evF Γ ov (k + 1) 8 [] H = some (.bool true, H) := by
  cases H; rfl

theorem RdT.fr {H Y : Abs.Heap} {v : Value} {n : Nat} {A : List Nat} (h : RdT H v n []) (hf : Fr [] H Y) (hA : ∀ x ∈ A, H.size ≤ x) : RdT Y v n A := by
  rcases h with h | ⟨o, off, m, cap, e, r, cs, h1, h2, h3, h4, h5⟩
  · exact .inl h
  · exact .inr ⟨o, off, m, cap, e, r, cs, h1, by rw [hf.2 o h3 (by simp)]; exact h2, Nat.lt_of_lt_of_le h3 hf.1, fun c => by have := hA _ c; omega, h5⟩

theorem queue_ev {H : Abs.Heap} {va : Value} {m : Nat} (n : Int) (hA : RdT H va m []) : ∃ H', evF Γ ov 3000 3 [(Value.int .i64 (n)), va] H = some (.bool true, H') := by
  obtain ⟨a, cap, hva⟩ := hA.lvl
  rw [evF, ov_ne 3 _ _ (by decide)]
  simp only [evB, Γ, i3, Tr.ofList]
  by_cases hm : m > 150
  · have hm' : ((m : Nat) : Int) > 150 := by omega
    have hw : evF Γ ov 2999 8 [] H = _ := works_ev H 2998
    subst hva
    refine ⟨H, ?_⟩
    repeat ((first | rw [evSeq_go] | rw [evSeq_none] | rw [evSeq_guard] | rw [evC_region] | rw [evC_seq] | rw [evC_cond] | rw [evC_block]); try simp only [undef, Array.size_empty, evSeq_nil, isCall_mv, isCall_pick, isCall_alloc, isCall_box, isCall_build, isCall_bslice, isCall_load, isCall_store, isCall_nilchk, isCall_bin, isCall_un, isCall_conv, isCall_mkfn, isCall_mkslice, isCall_slice, isCall_strslice, isCall_faddr, isCall_field, isCall_iaddr, isCall_aaddr, isCall_aindex, isCall_strindex, isCall_ext, isCall_len, isCall_strlen, isCall_const, isCall_append, isCall_minmax, isCall_copy, isCall_call, evI, Opd.ev, rd_set, rd_nil, cond_true, cond_false, Nat.reduceEqDiff, Nat.reduceAdd, Nat.reduceMul, Nat.add_zero, Nat.zero_add, Nat.mul_one, if_true, if_false, reduceIte, binV, intBin, eqBy, Abs.ptrEq, Abs.slcEq, Abs.fncEq, leafEq, unV, Option.map_some, Option.map_none, Option.isNone_none, Option.isNone_some, Bool.not_true, Bool.not_false, beq_self_eq_true, List.getElem?_cons_zero, List.getElem?_cons_succ, evRes, packRes, List.map_cons, List.map_nil, Heap.loadv, Bool.false_eq_true, List.getElem?_toArray, decide_true, decide_false, List.append_nil, List.nil_append, List.cons_append, List.toList_toArray, Bool.beq_eq_decide_eq, reduceCtorEq, Heap.storev, cells_int, cells_bool, cells_string, cells_pointer, cells_slice, cells_func, cells_nilFunc, cells_agg, ok_int, ok_bool, ok_string, ok_pointer, ok_slice, ok_func, ok_nilFunc, ok_agg, size_one, toList_one, Heap.get_put, Heap.size_put, Heap.size_ext, iaddrV, true_and, and_true, eq_self, evC_skip, evC_exit, evC_ret, ext_zero, Option.map_map, Function.comp_def, List.size_toArray, List.length_cons, List.length_nil, not_true_eq_false, not_false_eq_true, ne_eq, hm', hw, toList_nil])
  have hm' : ¬ ((m : Nat) : Int) > 150 := by omega
  have n1 : evF Γ ov 2999 10 [(Value.int .i64 (n))] H = _ := new_ev H n 2997
  have q1 := new_qs H (capN n)
  have f1 := new_fr H (capN n)
  obtain ⟨H2, n2, r2, f2, sz2⟩ := rnew_ev (emptyH H (capN n)) n 2997
  have n2 : evF Γ ov 2999 11 [(Value.int .i64 (n))] (emptyH H (capN n)) = _ := n2
  have sz1 := emptyH_size H (capN n)
  have P : PL H2 [H.size, H.size + 1] [(emptyH H (capN n)).size] (H.size + 1) (emptyH H (capN n)).size [] [] none (capN n) :=
    ⟨q1.fr f2 (by simp), r2, fun x hx c => by simp at hx c; omega, List.Perm.refl _, fun _ => rfl⟩
  obtain ⟨H3, p3⟩ := play_ev (hA.fr (f1.trans f2) (fun x hx => by simp at hx; omega)) (by omega) P (k := 2998) (by omega)
  have hw : evF Γ ov 2999 8 [] H3 = _ := works_ev H3 2998
  have p3 : evF Γ ov 2999 9 _ _ = _ := p3
  refine ⟨H3, ?_⟩
  subst hva
  repeat ((first | rw [evSeq_go] | rw [evSeq_none] | rw [evSeq_guard] | rw [evC_region] | rw [evC_seq] | rw [evC_cond] | rw [evC_block]); try simp only [undef, Array.size_empty, evSeq_nil, isCall_mv, isCall_pick, isCall_alloc, isCall_box, isCall_build, isCall_bslice, isCall_load, isCall_store, isCall_nilchk, isCall_bin, isCall_un, isCall_conv, isCall_mkfn, isCall_mkslice, isCall_slice, isCall_strslice, isCall_faddr, isCall_field, isCall_iaddr, isCall_aaddr, isCall_aindex, isCall_strindex, isCall_ext, isCall_len, isCall_strlen, isCall_const, isCall_append, isCall_minmax, isCall_copy, isCall_call, evI, Opd.ev, rd_set, rd_nil, cond_true, cond_false, Nat.reduceEqDiff, Nat.reduceAdd, Nat.reduceMul, Nat.add_zero, Nat.zero_add, Nat.mul_one, if_true, if_false, reduceIte, binV, intBin, eqBy, Abs.ptrEq, Abs.slcEq, Abs.fncEq, leafEq, unV, Option.map_some, Option.map_none, Option.isNone_none, Option.isNone_some, Bool.not_true, Bool.not_false, beq_self_eq_true, List.getElem?_cons_zero, List.getElem?_cons_succ, evRes, packRes, List.map_cons, List.map_nil, Heap.loadv, Bool.false_eq_true, List.getElem?_toArray, decide_true, decide_false, List.append_nil, List.nil_append, List.cons_append, List.toList_toArray, Bool.beq_eq_decide_eq, reduceCtorEq, Heap.storev, cells_int, cells_bool, cells_string, cells_pointer, cells_slice, cells_func, cells_nilFunc, cells_agg, ok_int, ok_bool, ok_string, ok_pointer, ok_slice, ok_func, ok_nilFunc, ok_agg, size_one, toList_one, Heap.get_put, Heap.size_put, Heap.size_ext, iaddrV, true_and, and_true, eq_self, evC_skip, evC_exit, evC_ret, ext_zero, Option.map_map, Function.comp_def, List.size_toArray, List.length_cons, List.length_nil, not_true_eq_false, not_false_eq_true, ne_eq, hm', n1, n2, p3, hw, toList_nil])

theorem rank_ev {H : Abs.Heap} {va vr : Value} {m : Nat} {r : List Int} (hR : RdA H vr r) (hA : RdT H va m []) : ∃ H', evF Γ ov 3000 4 [vr, va] H = some (.bool true, H') := by
  obtain ⟨a, cap, hva⟩ := hA.lvl
  obtain ⟨a2, cap2, hvr⟩ := hR.lvl
  rw [evF, ov_ne 4 _ _ (by decide)]
  simp only [evB, Γ, i4, Tr.ofList]
  by_cases hr : r.length > 300
  · have hr' : ((r.length : Nat) : Int) > 300 := by omega
    have hw : evF Γ ov 2999 8 [] H = _ := works_ev H 2998
    subst hva hvr
    refine ⟨H, ?_⟩
    repeat ((first | rw [evSeq_go] | rw [evSeq_none] | rw [evSeq_guard] | rw [evC_region] | rw [evC_seq] | rw [evC_cond] | rw [evC_block]); try simp only [undef, Array.size_empty, evSeq_nil, isCall_mv, isCall_pick, isCall_alloc, isCall_box, isCall_build, isCall_bslice, isCall_load, isCall_store, isCall_nilchk, isCall_bin, isCall_un, isCall_conv, isCall_mkfn, isCall_mkslice, isCall_slice, isCall_strslice, isCall_faddr, isCall_field, isCall_iaddr, isCall_aaddr, isCall_aindex, isCall_strindex, isCall_ext, isCall_len, isCall_strlen, isCall_const, isCall_append, isCall_minmax, isCall_copy, isCall_call, evI, Opd.ev, rd_set, rd_nil, cond_true, cond_false, Nat.reduceEqDiff, Nat.reduceAdd, Nat.reduceMul, Nat.add_zero, Nat.zero_add, Nat.mul_one, if_true, if_false, reduceIte, binV, intBin, eqBy, Abs.ptrEq, Abs.slcEq, Abs.fncEq, leafEq, unV, Option.map_some, Option.map_none, Option.isNone_none, Option.isNone_some, Bool.not_true, Bool.not_false, beq_self_eq_true, List.getElem?_cons_zero, List.getElem?_cons_succ, evRes, packRes, List.map_cons, List.map_nil, Heap.loadv, Bool.false_eq_true, List.getElem?_toArray, decide_true, decide_false, List.append_nil, List.nil_append, List.cons_append, List.toList_toArray, Bool.beq_eq_decide_eq, reduceCtorEq, Heap.storev, cells_int, cells_bool, cells_string, cells_pointer, cells_slice, cells_func, cells_nilFunc, cells_agg, ok_int, ok_bool, ok_string, ok_pointer, ok_slice, ok_func, ok_nilFunc, ok_agg, size_one, toList_one, Heap.get_put, Heap.size_put, Heap.size_ext, iaddrV, true_and, and_true, eq_self, evC_skip, evC_exit, evC_ret, ext_zero, Option.map_map, Function.comp_def, List.size_toArray, List.length_cons, List.length_nil, not_true_eq_false, not_false_eq_true, ne_eq, hr', hw, toList_nil])
  have hr' : ¬ ((r.length : Nat) : Int) > 300 := by omega
  by_cases hm : m > 150
  · have hm' : ((m : Nat) : Int) > 150 := by omega
    have hw : evF Γ ov 2999 8 [] H = _ := works_ev H 2998
    subst hva hvr
    refine ⟨H, ?_⟩
    repeat ((first | rw [evSeq_go] | rw [evSeq_none] | rw [evSeq_guard] | rw [evC_region] | rw [evC_seq] | rw [evC_cond] | rw [evC_block]); try simp only [undef, Array.size_empty, evSeq_nil, isCall_mv, isCall_pick, isCall_alloc, isCall_box, isCall_build, isCall_bslice, isCall_load, isCall_store, isCall_nilchk, isCall_bin, isCall_un, isCall_conv, isCall_mkfn, isCall_mkslice, isCall_slice, isCall_strslice, isCall_faddr, isCall_field, isCall_iaddr, isCall_aaddr, isCall_aindex, isCall_strindex, isCall_ext, isCall_len, isCall_strlen, isCall_const, isCall_append, isCall_minmax, isCall_copy, isCall_call, evI, Opd.ev, rd_set, rd_nil, cond_true, cond_false, Nat.reduceEqDiff, Nat.reduceAdd, Nat.reduceMul, Nat.add_zero, Nat.zero_add, Nat.mul_one, if_true, if_false, reduceIte, binV, intBin, eqBy, Abs.ptrEq, Abs.slcEq, Abs.fncEq, leafEq, unV, Option.map_some, Option.map_none, Option.isNone_none, Option.isNone_some, Bool.not_true, Bool.not_false, beq_self_eq_true, List.getElem?_cons_zero, List.getElem?_cons_succ, evRes, packRes, List.map_cons, List.map_nil, Heap.loadv, Bool.false_eq_true, List.getElem?_toArray, decide_true, decide_false, List.append_nil, List.nil_append, List.cons_append, List.toList_toArray, Bool.beq_eq_decide_eq, reduceCtorEq, Heap.storev, cells_int, cells_bool, cells_string, cells_pointer, cells_slice, cells_func, cells_nilFunc, cells_agg, ok_int, ok_bool, ok_string, ok_pointer, ok_slice, ok_func, ok_nilFunc, ok_agg, size_one, toList_one, Heap.get_put, Heap.size_put, Heap.size_ext, iaddrV, true_and, and_true, eq_self, evC_skip, evC_exit, evC_ret, ext_zero, Option.map_map, Function.comp_def, List.size_toArray, List.length_cons, List.length_nil, not_true_eq_false, not_false_eq_true, ne_eq, hr', hm', hw, toList_nil])
  have hm' : ¬ ((m : Nat) : Int) > 150 := by omega
  obtain ⟨H1, n1, q1, f1, sz1⟩ := byrank_ev hR 2997
  rw [capN_self (by omega), List.take_length] at q1
  have n1 : evF Γ ov 2999 12 [vr] H = _ := n1
  obtain ⟨H2, n2, r2, f2, sz2⟩ := rbyrank_ev (hR.fr f1) (by omega) 2997
  have n2 : evF Γ ov 2999 13 [vr] H1 = _ := n2
  have P : PL H2 [H.size, H.size + 1, H.size + 2, H.size + 3, H.size + 4] [H1.size, H1.size + 1, H1.size + 2] (H.size + 1) (H1.size + 2) [] [] (some r) r.length :=
    ⟨q1.fr f2 (by simp), r2, fun x hx c => by simp at hx c; omega, List.Perm.refl _, fun _ => rfl⟩
  obtain ⟨H3, p3⟩ := play_ev (hA.fr (f1.trans f2) (fun x hx => by simp at hx; omega)) (by omega) P (k := 2998) (by omega)
  have hw : evF Γ ov 2999 8 [] H3 = _ := works_ev H3 2998
  have p3 : evF Γ ov 2999 9 _ _ = _ := p3
  refine ⟨H3, ?_⟩
  subst hva hvr
  repeat ((first | rw [evSeq_go] | rw [evSeq_none] | rw [evSeq_guard] | rw [evC_region] | rw [evC_seq] | rw [evC_cond] | rw [evC_block]); try simp only [undef, Array.size_empty, evSeq_nil, isCall_mv, isCall_pick, isCall_alloc, isCall_box, isCall_build, isCall_bslice, isCall_load, isCall_store, isCall_nilchk, isCall_bin, isCall_un, isCall_conv, isCall_mkfn, isCall_mkslice, isCall_slice, isCall_strslice, isCall_faddr, isCall_field, isCall_iaddr, isCall_aaddr, isCall_aindex, isCall_strindex, isCall_ext, isCall_len, isCall_strlen, isCall_const, isCall_append, isCall_minmax, isCall_copy, isCall_call, evI, Opd.ev, rd_set, rd_nil, cond_true, cond_false, Nat.reduceEqDiff, Nat.reduceAdd, Nat.reduceMul, Nat.add_zero, Nat.zero_add, Nat.mul_one, if_true, if_false, reduceIte, binV, intBin, eqBy, Abs.ptrEq, Abs.slcEq, Abs.fncEq, leafEq, unV, Option.map_some, Option.map_none, Option.isNone_none, Option.isNone_some, Bool.not_true, Bool.not_false, beq_self_eq_true, List.getElem?_cons_zero, List.getElem?_cons_succ, evRes, packRes, List.map_cons, List.map_nil, Heap.loadv, Bool.false_eq_true, List.getElem?_toArray, decide_true, decide_false, List.append_nil, List.nil_append, List.cons_append, List.toList_toArray, Bool.beq_eq_decide_eq, reduceCtorEq, Heap.storev, cells_int, cells_bool, cells_string, cells_pointer, cells_slice, cells_func, cells_nilFunc, cells_agg, ok_int, ok_bool, ok_string, ok_pointer, ok_slice, ok_func, ok_nilFunc, ok_agg, size_one, toList_one, Heap.get_put, Heap.size_put, Heap.size_ext, iaddrV, true_and, and_true, eq_self, evC_skip, evC_exit, evC_ret, ext_zero, Option.map_map, Function.comp_def, List.size_toArray, List.length_cons, List.length_nil, not_true_eq_false, not_false_eq_true, ne_eq, hr', hm', n1, n2, p3, hw, toList_nil])

end Go.Proofs.Ytmgkdnncjapejaa.Ab
