/- A part of the proof that the law answers true at every input: the text W05R; no conditions. -/
import Derived.Test.YtmgkdnncjapejaaW05N
set_option linter.unusedSimpArgs false
set_option linter.unusedVariables false
namespace Go.Proofs.Ytmgkdnncjapejaa.Ab
open Go Go.Proofs.Ytmgkdnncjapejaa.Abs Go.Proofs.Ytmgkdnncjapejaa.Abs.W05
set_option maxRecDepth 100000

theorem set4_3 (a b c d v : Value) : setRange [a, b, c, d] 3 [v] = [a, b, c, v] := rfl
theorem set1_0 (a v : Value) : setRange [a] 0 [v] = [v] := rfl
theorem fill_nil : fillP [].toArray [] = some #[] := rfl
theorem parts_nil (T : Tr Value) : evParts T [] = [] := rfl

theorem byrank_ev {H : Abs.Heap} {v : Value} {l : List Int} (hv : RdA H v l) (k : Nat) :
    ∃ H', evF Γ ov (k + 2) 12 [v] H = some (.pointer (some ⟨H.size + 1, 0, none⟩), H') ∧ QS H' [H.size, H.size + 1, H.size + 2, H.size + 3, H.size + 4] (H.size + 1) [] (some (l.take (capN l.length))) (capN l.length) ∧ Fr [] H H' ∧ H'.size = H.size + 5 := by
  have hemp := empty_ev H l.length k
  obtain ⟨a, cap, hvl⟩ := hv.lvl
  have hN := capN_nat l.length
  have hN2 := capN_le l.length
  generalize hNe : capN (l.length : Nat) = N at *
  have sz := emptyH_size H N
  have F1 := new_fr H N
  have F2 : Fr [] H ((Heap.ext 3 (emptyH H N)).put (emptyH H N).size (.cells 3 false [])) := ⟨by rw [Heap.size_put, Heap.size_ext, sz]; omega, fun i hi _ => by rw [Heap.get_put, if_neg (by omega), ext_old (by omega), emptyH_old hi]⟩
  have hid : ((Heap.ext 3 (emptyH H N)).put (emptyH H N).size (.cells 3 false [])).get ((emptyH H N).size + 1) = some .pend := by
    rw [Heap.get_put, if_neg (by omega), ext_new (by omega)]
  obtain ⟨y, X2, o, cp, m, y1, y2, y3, y4, y5, y6, y7, e, cs, y8, y9, y10⟩ := copy_in (hv.fr F2) hN hN2 hid (b := (emptyH H N).size) (e0 := 3) (by rw [Heap.get_put, if_pos rfl]) true
  have n0 := fun oo => new_pend (o := oo) (ext_new0 (n := 3) (H := emptyH H N) (by omega))
  have n2 := fun oo => new_pend (o := oo) (show X2.get ((emptyH H N).size + 2) = some .pend by
    rw [y4 _ (by omega), Heap.get_put, if_neg (by omega), ext_new (by omega)])
  have q1 := emptyH_q H N
  have q2 : X2.get (H.size + 1) = some (.cells 43 false [.bool true, .slice (some ⟨H.size, 0, some 3⟩) N N, .slice none 0 0, .nilFunc]) := by rw [y4 _ (by omega), Heap.get_put, if_neg (by omega), ext_old (by omega)]; exact q1
  have qE : (Heap.ext 3 (emptyH H N)).get (H.size + 1) = some (.cells 43 false [.bool true, .slice (some ⟨H.size, 0, some 3⟩) N N, .slice none 0 0, .nilFunc]) := by rw [ext_old (by omega)]; exact q1
  have ne1 : ¬ (emptyH H N).size + 2 = H.size + 1 := by omega
  have sq : (setRange [Value.bool true, .slice (some ⟨H.size, 0, some 3⟩) N N, .slice none 0 0, .nilFunc] 3 [.func (.func 24) #[] #[.pointer (some ⟨(emptyH H N).size + 2, 0, none⟩)]]) = [.bool true, .slice (some ⟨H.size, 0, some 3⟩) N N, .slice none 0 0, .func (.func 24) #[] #[.pointer (some ⟨(emptyH H N).size + 2, 0, none⟩)]] := rfl
  have base : ∀ i, i < (emptyH H N).size → X2.get i = (emptyH H N).get i := fun i hi => by
    rw [y4 i (by omega), Heap.get_put, if_neg (by omega), ext_old hi]
  have hz : (List.replicate N false).map Value.bool = List.replicate N (.bool false) := by simp
  refine ⟨((X2.put ((emptyH H N).size + 2) (.cells 30 false [.slice none 0 0])).put ((emptyH H N).size + 2) (.cells 30 false [.slice (some ⟨o, 0, some m⟩) N cp])).put (H.size + 1) (.cells 43 false [.bool true, .slice (some ⟨H.size, 0, some 3⟩) N N, .slice none 0 0, .func (.func 24) #[] #[.pointer (some ⟨(emptyH H N).size + 2, 0, none⟩)]]), ?eq, ?_, ?_, ?_⟩
  case eq =>
    rw [evF, ov_ne 12 _ _ (by decide)]
    simp only [evB, Γ, i12, Tr.ofList]
    subst hvl
    repeat ((first | rw [evSeq_go] | rw [evSeq_none] | rw [evSeq_guard] | rw [evC_region] | rw [evC_seq] | rw [evC_cond] | rw [evC_block]); try simp only [undef, Array.size_empty, evSeq_nil, isCall_mv, isCall_pick, isCall_alloc, isCall_box, isCall_build, isCall_bslice, isCall_load, isCall_store, isCall_nilchk, isCall_bin, isCall_un, isCall_conv, isCall_mkfn, isCall_mkslice, isCall_slice, isCall_strslice, isCall_faddr, isCall_field, isCall_iaddr, isCall_aaddr, isCall_aindex, isCall_strindex, isCall_ext, isCall_len, isCall_strlen, isCall_const, isCall_append, isCall_minmax, isCall_copy, isCall_call, evI, Opd.ev, rd_set, rd_nil, cond_true, cond_false, Nat.reduceEqDiff, Nat.reduceAdd, Nat.reduceMul, Nat.add_zero, Nat.zero_add, Nat.mul_one, if_true, if_false, reduceIte, binV, intBin, eqBy, Abs.ptrEq, Abs.slcEq, Abs.fncEq, leafEq, unV, Option.map_some, Option.map_none, Option.isNone_none, Option.isNone_some, Bool.not_true, Bool.not_false, beq_self_eq_true, List.getElem?_cons_zero, List.getElem?_cons_succ, evRes, packRes, List.map_cons, List.map_nil, Heap.loadv, Bool.false_eq_true, List.getElem?_toArray, decide_true, decide_false, List.append_nil, List.nil_append, List.cons_append, List.toList_toArray, Bool.beq_eq_decide_eq, reduceCtorEq, Heap.storev, cells_int, cells_bool, cells_string, cells_pointer, cells_slice, cells_func, cells_nilFunc, cells_agg, ok_int, ok_bool, ok_string, ok_pointer, ok_slice, ok_func, ok_nilFunc, ok_agg, size_one, toList_one, Heap.get_put, Heap.size_put, Heap.size_ext, iaddrV, true_and, and_true, eq_self, evC_skip, evC_exit, evC_ret, ext_zero, Option.map_map, Function.comp_def, List.size_toArray, List.length_cons, List.length_nil, not_true_eq_false, not_false_eq_true, ne_eq, hemp, q1, q2, qE, ne1, parts_nil, fill_nil, toList_nil, n0, n2, y1, y2, set1_0, set4_3, Nat.reduceLeDiff])
  · refine ⟨[H.size, H.size + 1], H.size, List.replicate N false, .slice none 0 0, .func (.func 24) #[] #[.pointer (some ⟨(emptyH H N).size + 2, 0, none⟩)], ⟨?_, ?_, .inl ⟨rfl, rfl⟩, by simp, by simp, by omega, fun x hx => ?_⟩, fun x hx => ?_, fun x hx => ?_, by simp, fun x hx => by simp at hx, List.nodup_nil, fun i hi => by simp [hi], by simp; omega, fun j h0 hj => by simp at hj, (emptyH H N).size + 2, o, by simp [sz], ?_, by simp [sz]; omega, ?_, rfl, 30, false, .slice (some ⟨o, 0, some m⟩) N cp, ?_, .inr ⟨0, m, cp, e, false, cs, ?_, ?_, ?_⟩⟩
    · rw [Heap.get_put, if_pos rfl]; simp
    · rw [Heap.get_put, if_neg (by omega), Heap.get_put, if_neg (by omega), Heap.get_put, if_neg (by omega), base _ (by omega), emptyH_h, hz]
    · simp only [Heap.size_put, y3, Heap.size_ext, sz]; simp at hx; omega
    · simp at hx ⊢; omega
    · simp only [Heap.size_put, y3, Heap.size_ext, sz]; simp at hx; omega
    · simp; omega
    · simp; omega
    · rw [Heap.get_put, if_neg (by omega), Heap.get_put, if_pos rfl]
    · simp; congr 1; omega
    · rw [Heap.get_put, if_neg (by omega), Heap.get_put, if_neg (by omega), Heap.get_put, if_neg (by omega)]; exact y8
    · intro i hi
      simp at hi
      rw [Nat.zero_add, g_take (by omega)]; exact y10 i (by omega)
  · refine ⟨by simp only [Heap.size_put, y3, Heap.size_ext, sz]; omega, fun i hi _ => ?_⟩
    rw [Heap.get_put, if_neg (by omega), Heap.get_put, if_neg (by omega), Heap.get_put, if_neg (by omega), base _ (by omega), emptyH_old hi]
  · simp only [Heap.size_put, y3, Heap.size_ext, sz]

end Go.Proofs.Ytmgkdnncjapejaa.Ab
