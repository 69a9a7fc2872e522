/- A part of the proof that the law answers true at every input: the text W05Y; no conditions. -/
import Derived.Test.YtmgkdnncjapejaaW05X
set_option linter.unusedSimpArgs false
set_option linter.unusedVariables false
namespace Go.Proofs.Ytmgkdnncjapejaa.Ab
open Go Go.Proofs.Ytmgkdnncjapejaa.Abs Go.Proofs.Ytmgkdnncjapejaa.Abs.W05
set_option maxRecDepth 100000

theorem QM.lvl {H : Abs.Heap} {fp : List Nat} {q h : Nat} {hs : List Bool} {l : List Int} {lv fv : Value} (Q : QM H fp q h hs l lv fv) : ∃ a cap, lv = .slice a l.length cap := by
  rcases Q.ls with ⟨h, rfl⟩ | ⟨o, off, m, cap, e, cs, h, _⟩
  · exact ⟨none, 0, h⟩
  · exact ⟨_, cap, h⟩

theorem down_inner {X : Abs.Heap} {fp : List Nat} {q h : Nat} {hs : List Bool} {l : List Int} {lv fv : Value} {r : List Int} (Q : QM X fp q h hs l lv fv) (hL : LessAt X fv r fp) (hin : ∀ x ∈ l, 0 ≤ x ∧ x < (r.length : Int))
    {i : Nat} (hi : i < l.length ∨ l.length = 0) (hi2 : i ≤ 100000) (hsmall : l.length ≤ 100000) (k : Nat) {n : Nat} (hn : 3 < n) {T : Tr Value} (t0 : rd T 0 = .pointer (some ⟨q, 0, none⟩)) (t1 : rd T 1 = (Value.int .i64 (i))) (t4 : rd T 4 = (Value.int .i64 (i))) (t5 : rd T 5 = (Value.int .i64 ((2 * i + 1 : Nat)))) :
    ∃ T' b, evC (evF Γ ov (k + 1)) n (.loop i28l1) T X = some (.exit 2, T', X) ∧ rd T' 0 = .pointer (some ⟨q, 0, none⟩) ∧ rd T' 1 = (Value.int .i64 (i)) ∧ rd T' 4 = (Value.int .i64 ((b : Nat))) ∧ (b = i ∨ b < l.length ∧ (b = 2 * i + 1 ∨ b = 2 * i + 2) ∧ ltR r (g l b) (g l i) = true) ∧
      ∀ j, j < l.length → (j = 2 * i + 1 ∨ j = 2 * i + 2) → ltR r (g l j) (g l b) = false := by
  obtain ⟨p, e2, rr, sv, hfv, hp2, _, hp4, hR⟩ := hL
  have qo := Q.qo
  rw [hfv] at qo
  have ord := ordR r
  have hloop := loop_run (cl := evF Γ ov (k + 1)) (n := n) (c := i28l1)
    (fun m T Y => Y = X ∧ rd T 0 = .pointer (some ⟨q, 0, none⟩) ∧ rd T 1 = (Value.int .i64 (i)) ∧ ∃ b c : Nat, rd T 4 = (Value.int .i64 (b)) ∧ rd T 5 = (Value.int .i64 (c)) ∧ c + m = 2 * i + 3 ∧ 2 * i + 1 ≤ c ∧ (b = i ∨ b < l.length ∧ (b = 2 * i + 1 ∨ b = 2 * i + 2) ∧ ltR r (g l b) (g l i) = true) ∧
      ∀ j, j < l.length → (j = 2 * i + 1 ∨ j = 2 * i + 2) → j < c → ltR r (g l j) (g l b) = false)
    (fun e T Y => e = .exit 2 ∧ Y = X ∧ rd T 0 = .pointer (some ⟨q, 0, none⟩) ∧ rd T 1 = (Value.int .i64 (i)) ∧ ∃ b : Nat, rd T 4 = (Value.int .i64 (b)) ∧ (b = i ∨ b < l.length ∧ (b = 2 * i + 1 ∨ b = 2 * i + 2) ∧ ltR r (g l b) (g l i) = true) ∧
      ∀ j, j < l.length → (j = 2 * i + 1 ∨ j = 2 * i + 2) → ltR r (g l j) (g l b) = false)
    (fun m T Y ⟨hY, t0, t1, b, c, t4, t5, hcm, hc1, hb, hj⟩ => by
      subst hY
      have w1 : IntKind.i64.wrap (2 * (i : Int)) = ((2 * i : Nat) : Int) := by rw [wrap_in (by omega) (by omega)]; omega
      have w2 : IntKind.i64.wrap (((2 * i : Nat) : Int) + 2) = ((2 * i + 2 : Nat) : Int) := by rw [wrap_in (by omega) (by omega)]; omega
      by_cases d1 : c ≤ 2 * i + 2
      · have d1' : ((c : Nat) : Int) ≤ ((2 * i + 2 : Nat) : Int) := by omega
        by_cases d2 : c < l.length
        · have d2' : ((c : Nat) : Int) < l.length := by omega
          obtain ⟨o, off, mk, cap, e, cs, hlv, hmk, hcap, go, hlen, hcs, of, oq, oh⟩ := Q.read (by omega)
          rw [hlv] at qo
          have hbl : b < l.length := by
            rcases hb with rfl | hb
            · omega
            · exact hb.1
          have hbl' : ((b : Nat) : Int) < l.length := by omega
          have c1 := hcs c d2
          have c2 := hcs b hbl
          have in1 := hin _ (g_mem d2)
          have in2 := hin _ (g_mem hbl)
          have hless := less_ev hp2 hR in1.1 in1.2 in2.1 in2.2 k
          have w3 : IntKind.i64.wrap ((c : Int) + 1) = ((c + 1 : Nat) : Int) := by rw [wrap_in (by omega) (by omega)]; omega
          by_cases hlt : ltR r (g l c) (g l b) = true
          · refine ⟨?_, ?eq, ?post⟩
            case eq =>
              unfold i28l1
              repeat ((first | rw [evSeq_go] | rw [evSeq_none] | rw [evSeq_guard] | rw [evC_region] | rw [evC_seq] | rw [evC_cond] | rw [evC_block]); try simp only [undef, Array.size_empty, evSeq_nil, isCall_mv, isCall_pick, isCall_alloc, isCall_box, isCall_build, isCall_bslice, isCall_load, isCall_store, isCall_nilchk, isCall_bin, isCall_un, isCall_conv, isCall_mkfn, isCall_mkslice, isCall_slice, isCall_strslice, isCall_faddr, isCall_field, isCall_iaddr, isCall_aaddr, isCall_aindex, isCall_strindex, isCall_ext, isCall_len, isCall_strlen, isCall_const, isCall_append, isCall_minmax, isCall_copy, isCall_call, evI, Opd.ev, rd_set, rd_nil, cond_true, cond_false, Nat.reduceEqDiff, Nat.reduceAdd, Nat.reduceMul, Nat.add_zero, Nat.zero_add, Nat.mul_one, if_true, if_false, reduceIte, binV, intBin, eqBy, Abs.ptrEq, Abs.slcEq, Abs.fncEq, leafEq, unV, Option.map_some, Option.map_none, Option.isNone_none, Option.isNone_some, Bool.not_true, Bool.not_false, beq_self_eq_true, List.getElem?_cons_zero, List.getElem?_cons_succ, evRes, packRes, List.map_cons, List.map_nil, Heap.loadv, Bool.false_eq_true, List.getElem?_toArray, decide_true, decide_false, List.append_nil, List.nil_append, List.cons_append, List.toList_toArray, Bool.beq_eq_decide_eq, reduceCtorEq, Heap.storev, cells_int, cells_bool, cells_string, cells_pointer, cells_slice, cells_func, cells_nilFunc, cells_agg, ok_int, ok_bool, ok_string, ok_pointer, ok_slice, ok_func, ok_nilFunc, ok_agg, size_one, toList_one, Heap.get_put, Heap.size_put, Heap.size_ext, iaddrV, true_and, and_true, eq_self, evC_skip, evC_exit, evC_ret, ext_zero, Option.map_map, Function.comp_def, List.size_toArray, List.length_cons, List.length_nil, not_true_eq_false, not_false_eq_true, ne_eq, t0, t1, t4, t5, d1', d2', w1, w2, w3, qo, go, Int.natCast_nonneg, Int.toNat_natCast, hbl', c1, c2, hless, hlt, toList_nil])
              rfl
            case post =>
              refine ⟨m - 1, by omega, rfl, ?_, ?_, c, c + 1, ?_, ?_, by omega, by omega, .inr ⟨d2, by omega, ?_⟩, fun j hj1 hj2 hj3 => ?_⟩
              · simp only [rd_set, Nat.reduceEqDiff, if_false, t0]
              · simp only [rd_set, Nat.reduceEqDiff, if_false, t1]
              · simp only [rd_set, Nat.reduceEqDiff, if_false, if_true]
              · simp only [rd_set, Nat.reduceEqDiff, if_true]
              · rcases hb with rfl | hb
                · exact hlt
                · exact ord.tr _ _ _ hlt hb.2.2
              · by_cases ejc : j = c
                · subst ejc; exact ord.irr _
                · exact ord.le (ord.asy _ _ hlt) (hj j hj1 hj2 (by omega))
          · have hlt' : ltR r (g l c) (g l b) = false := by simpa using hlt
            refine ⟨?_, ?eq, ?post⟩
            case eq =>
              unfold i28l1
              repeat ((first | rw [evSeq_go] | rw [evSeq_none] | rw [evSeq_guard] | rw [evC_region] | rw [evC_seq] | rw [evC_cond] | rw [evC_block]); try simp only [undef, Array.size_empty, evSeq_nil, isCall_mv, isCall_pick, isCall_alloc, isCall_box, isCall_build, isCall_bslice, isCall_load, isCall_store, isCall_nilchk, isCall_bin, isCall_un, isCall_conv, isCall_mkfn, isCall_mkslice, isCall_slice, isCall_strslice, isCall_faddr, isCall_field, isCall_iaddr, isCall_aaddr, isCall_aindex, isCall_strindex, isCall_ext, isCall_len, isCall_strlen, isCall_const, isCall_append, isCall_minmax, isCall_copy, isCall_call, evI, Opd.ev, rd_set, rd_nil, cond_true, cond_false, Nat.reduceEqDiff, Nat.reduceAdd, Nat.reduceMul, Nat.add_zero, Nat.zero_add, Nat.mul_one, if_true, if_false, reduceIte, binV, intBin, eqBy, Abs.ptrEq, Abs.slcEq, Abs.fncEq, leafEq, unV, Option.map_some, Option.map_none, Option.isNone_none, Option.isNone_some, Bool.not_true, Bool.not_false, beq_self_eq_true, List.getElem?_cons_zero, List.getElem?_cons_succ, evRes, packRes, List.map_cons, List.map_nil, Heap.loadv, Bool.false_eq_true, List.getElem?_toArray, decide_true, decide_false, List.append_nil, List.nil_append, List.cons_append, List.toList_toArray, Bool.beq_eq_decide_eq, reduceCtorEq, Heap.storev, cells_int, cells_bool, cells_string, cells_pointer, cells_slice, cells_func, cells_nilFunc, cells_agg, ok_int, ok_bool, ok_string, ok_pointer, ok_slice, ok_func, ok_nilFunc, ok_agg, size_one, toList_one, Heap.get_put, Heap.size_put, Heap.size_ext, iaddrV, true_and, and_true, eq_self, evC_skip, evC_exit, evC_ret, ext_zero, Option.map_map, Function.comp_def, List.size_toArray, List.length_cons, List.length_nil, not_true_eq_false, not_false_eq_true, ne_eq, t0, t1, t4, t5, d1', d2', w1, w2, w3, qo, go, Int.natCast_nonneg, Int.toNat_natCast, hbl', c1, c2, hless, hlt', toList_nil])
              rfl
            case post =>
              refine ⟨m - 1, by omega, rfl, ?_, ?_, b, c + 1, ?_, ?_, by omega, by omega, hb, fun j hj1 hj2 hj3 => ?_⟩
              · simp only [rd_set, Nat.reduceEqDiff, if_false, t0]
              · simp only [rd_set, Nat.reduceEqDiff, if_false, t1]
              · simp only [rd_set, Nat.reduceEqDiff, if_false, t4]
              · simp only [rd_set, Nat.reduceEqDiff, if_true]
              · by_cases ejc : j = c
                · subst ejc; exact hlt'
                · exact hj j hj1 hj2 (by omega)
        · have d2' : ¬ ((c : Nat) : Int) < l.length := by omega
          obtain ⟨a, cap, hlv⟩ := Q.lvl
          rw [hlv] at qo
          refine ⟨?_, ?eq, ?post⟩
          case eq =>
            unfold i28l1
            repeat ((first | rw [evSeq_go] | rw [evSeq_none] | rw [evSeq_guard] | rw [evC_region] | rw [evC_seq] | rw [evC_cond] | rw [evC_block]); try simp only [undef, Array.size_empty, evSeq_nil, isCall_mv, isCall_pick, isCall_alloc, isCall_box, isCall_build, isCall_bslice, isCall_load, isCall_store, isCall_nilchk, isCall_bin, isCall_un, isCall_conv, isCall_mkfn, isCall_mkslice, isCall_slice, isCall_strslice, isCall_faddr, isCall_field, isCall_iaddr, isCall_aaddr, isCall_aindex, isCall_strindex, isCall_ext, isCall_len, isCall_strlen, isCall_const, isCall_append, isCall_minmax, isCall_copy, isCall_call, evI, Opd.ev, rd_set, rd_nil, cond_true, cond_false, Nat.reduceEqDiff, Nat.reduceAdd, Nat.reduceMul, Nat.add_zero, Nat.zero_add, Nat.mul_one, if_true, if_false, reduceIte, binV, intBin, eqBy, Abs.ptrEq, Abs.slcEq, Abs.fncEq, leafEq, unV, Option.map_some, Option.map_none, Option.isNone_none, Option.isNone_some, Bool.not_true, Bool.not_false, beq_self_eq_true, List.getElem?_cons_zero, List.getElem?_cons_succ, evRes, packRes, List.map_cons, List.map_nil, Heap.loadv, Bool.false_eq_true, List.getElem?_toArray, decide_true, decide_false, List.append_nil, List.nil_append, List.cons_append, List.toList_toArray, Bool.beq_eq_decide_eq, reduceCtorEq, Heap.storev, cells_int, cells_bool, cells_string, cells_pointer, cells_slice, cells_func, cells_nilFunc, cells_agg, ok_int, ok_bool, ok_string, ok_pointer, ok_slice, ok_func, ok_nilFunc, ok_agg, size_one, toList_one, Heap.get_put, Heap.size_put, Heap.size_ext, iaddrV, true_and, and_true, eq_self, evC_skip, evC_exit, evC_ret, ext_zero, Option.map_map, Function.comp_def, List.size_toArray, List.length_cons, List.length_nil, not_true_eq_false, not_false_eq_true, ne_eq, t0, t1, t4, t5, d1', d2', w1, w2, qo])
            rfl
          case post =>
            exact ⟨rfl, rfl, by simp only [rd_set, Nat.reduceEqDiff, if_false, t0], by simp only [rd_set, Nat.reduceEqDiff, if_false, t1], b, by simp only [rd_set, Nat.reduceEqDiff, if_false, t4], hb, fun j hj1 hj2 => hj j hj1 hj2 (by omega)⟩
      · have d1' : ¬ ((c : Nat) : Int) ≤ ((2 * i + 2 : Nat) : Int) := by omega
        refine ⟨?_, ?eq, ?post⟩
        case eq =>
          unfold i28l1
          repeat ((first | rw [evSeq_go] | rw [evSeq_none] | rw [evSeq_guard] | rw [evC_region] | rw [evC_seq] | rw [evC_cond] | rw [evC_block]); try simp only [undef, Array.size_empty, evSeq_nil, isCall_mv, isCall_pick, isCall_alloc, isCall_box, isCall_build, isCall_bslice, isCall_load, isCall_store, isCall_nilchk, isCall_bin, isCall_un, isCall_conv, isCall_mkfn, isCall_mkslice, isCall_slice, isCall_strslice, isCall_faddr, isCall_field, isCall_iaddr, isCall_aaddr, isCall_aindex, isCall_strindex, isCall_ext, isCall_len, isCall_strlen, isCall_const, isCall_append, isCall_minmax, isCall_copy, isCall_call, evI, Opd.ev, rd_set, rd_nil, cond_true, cond_false, Nat.reduceEqDiff, Nat.reduceAdd, Nat.reduceMul, Nat.add_zero, Nat.zero_add, Nat.mul_one, if_true, if_false, reduceIte, binV, intBin, eqBy, Abs.ptrEq, Abs.slcEq, Abs.fncEq, leafEq, unV, Option.map_some, Option.map_none, Option.isNone_none, Option.isNone_some, Bool.not_true, Bool.not_false, beq_self_eq_true, List.getElem?_cons_zero, List.getElem?_cons_succ, evRes, packRes, List.map_cons, List.map_nil, Heap.loadv, Bool.false_eq_true, List.getElem?_toArray, decide_true, decide_false, List.append_nil, List.nil_append, List.cons_append, List.toList_toArray, Bool.beq_eq_decide_eq, reduceCtorEq, Heap.storev, cells_int, cells_bool, cells_string, cells_pointer, cells_slice, cells_func, cells_nilFunc, cells_agg, ok_int, ok_bool, ok_string, ok_pointer, ok_slice, ok_func, ok_nilFunc, ok_agg, size_one, toList_one, Heap.get_put, Heap.size_put, Heap.size_ext, iaddrV, true_and, and_true, eq_self, evC_skip, evC_exit, evC_ret, ext_zero, Option.map_map, Function.comp_def, List.size_toArray, List.length_cons, List.length_nil, not_true_eq_false, not_false_eq_true, ne_eq, t0, t1, t4, t5, d1', w1, w2])
          rfl
        case post =>
          exact ⟨rfl, rfl, by simp only [rd_set, Nat.reduceEqDiff, if_false, t0], by simp only [rd_set, Nat.reduceEqDiff, if_false, t1], b, by simp only [rd_set, Nat.reduceEqDiff, if_false, t4], hb, fun j hj1 hj2 => hj j hj1 hj2 (by omega)⟩)
    2 T X ⟨rfl, t0, t1, i, 2 * i + 1, t4, t5, by omega, by omega, .inl rfl, fun j hj1 hj2 hj3 => by omega⟩ (by omega)
  obtain ⟨e, T', X', h1, h2, rfl, rfl, h3, h4, b, h5, h6, h7⟩ := hloop
  exact ⟨T', b, h1, h3, h4, h5, h6, h7⟩

theorem down_ev {H : Abs.Heap} {fp : List Nat} {q h : Nat} {hs : List Bool} {l : List Int} {lv fv : Value} {r : List Int} (Q : QM H fp q h hs l lv fv) (hL : LessAt H fv r fp) (hin : ∀ x ∈ l, 0 ≤ x ∧ x < (r.length : Int))
    (hD : DnH (ltR r) l 0) (hsmall : l.length ≤ 100000) {k : Nat} (hk : l.length + 5 ≤ k) :
    ∃ H' l', evF Γ ov (k + 1) 28 [.pointer (some ⟨q, 0, none⟩), (Value.int .i64 (0))] H = some (.tuple #[], H') ∧ QM H' fp q h hs l' lv fv ∧ Fr fp H H' ∧ l'.Perm l ∧ Heap (ltR r) l' := by
  obtain ⟨k, rfl⟩ : ∃ j, k = j + 1 := ⟨k - 1, by omega⟩
  have hloop := loop_run (cl := evF Γ ov (k + 1)) (n := k + 1) (c := i28l0)
    (fun m T X => ∃ (i : Nat) (l' : List Int), rd T 0 = .pointer (some ⟨q, 0, none⟩) ∧ rd T 1 = (Value.int .i64 (i)) ∧ QM X fp q h hs l' lv fv ∧ l'.Perm l ∧ (i < l'.length ∨ l'.length = 0) ∧ m + i = l.length ∧ DnH (ltR r) l' i ∧ Fr fp H X)
    (fun e _ X => e = .ret ∧ ∃ l', QM X fp q h hs l' lv fv ∧ l'.Perm l ∧ Heap (ltR r) l' ∧ Fr fp H X)
    (fun m T X ⟨i, l', t0, t1, Q', hp, hi, hm, hD', hF⟩ => by
      have hpl := hp.length_eq
      have w1 : IntKind.i64.wrap (2 * (i : Int)) = ((2 * i : Nat) : Int) := by rw [wrap_in (by omega) (by omega)]; omega
      have w2 : IntKind.i64.wrap (((2 * i : Nat) : Int) + 1) = ((2 * i + 1 : Nat) : Int) := by rw [wrap_in (by omega) (by omega)]; omega
      obtain ⟨T2, b, g1, g2, g3, g4, g5, g6⟩ := down_inner Q' (hL.fr hF) (fun x hx => hin x (hp.mem_iff.1 hx)) hi (by omega) (by omega) k (n := k + 1) (by omega)
        (T := (((((T.set 6 (Value.int .i64 (i))).set 4 (Value.int .i64 (i))).set 7 (Value.int .i64 (i))).set 8 (Value.int .i64 ((2 * i : Nat)))).set 9 (Value.int .i64 ((2 * i + 1 : Nat)))).set 5 (Value.int .i64 ((2 * i + 1 : Nat))))
        (by simp only [rd_set, Nat.reduceEqDiff, if_false, t0]) (by simp only [rd_set, Nat.reduceEqDiff, if_false, t1]) (by simp only [rd_set, Nat.reduceEqDiff, if_false, if_true]) (by simp only [rd_set, Nat.reduceEqDiff, if_true])
      by_cases hb : b = i
      · have he : (b : Int) = (i : Int) := by omega
        refine ⟨?_, ?eq, ?post⟩
        case eq =>
          unfold i28l0
          repeat ((first | rw [evSeq_go] | rw [evSeq_none] | rw [evSeq_guard] | rw [evC_region] | rw [evC_seq] | rw [evC_cond] | rw [evC_block]); try simp only [undef, Array.size_empty, evSeq_nil, isCall_mv, isCall_pick, isCall_alloc, isCall_box, isCall_build, isCall_bslice, isCall_load, isCall_store, isCall_nilchk, isCall_bin, isCall_un, isCall_conv, isCall_mkfn, isCall_mkslice, isCall_slice, isCall_strslice, isCall_faddr, isCall_field, isCall_iaddr, isCall_aaddr, isCall_aindex, isCall_strindex, isCall_ext, isCall_len, isCall_strlen, isCall_const, isCall_append, isCall_minmax, isCall_copy, isCall_call, evI, Opd.ev, rd_set, rd_nil, cond_true, cond_false, Nat.reduceEqDiff, Nat.reduceAdd, Nat.reduceMul, Nat.add_zero, Nat.zero_add, Nat.mul_one, if_true, if_false, reduceIte, binV, intBin, eqBy, Abs.ptrEq, Abs.slcEq, Abs.fncEq, leafEq, unV, Option.map_some, Option.map_none, Option.isNone_none, Option.isNone_some, Bool.not_true, Bool.not_false, beq_self_eq_true, List.getElem?_cons_zero, List.getElem?_cons_succ, evRes, packRes, List.map_cons, List.map_nil, Heap.loadv, Bool.false_eq_true, List.getElem?_toArray, decide_true, decide_false, List.append_nil, List.nil_append, List.cons_append, List.toList_toArray, Bool.beq_eq_decide_eq, reduceCtorEq, Heap.storev, cells_int, cells_bool, cells_string, cells_pointer, cells_slice, cells_func, cells_nilFunc, cells_agg, ok_int, ok_bool, ok_string, ok_pointer, ok_slice, ok_func, ok_nilFunc, ok_agg, size_one, toList_one, Heap.get_put, Heap.size_put, Heap.size_ext, iaddrV, true_and, and_true, eq_self, evC_skip, evC_exit, evC_ret, ext_zero, Option.map_map, Function.comp_def, List.size_toArray, List.length_cons, List.length_nil, not_true_eq_false, not_false_eq_true, ne_eq, t0, t1, w1, w2, g1, g2, g3, g4, he])
          rfl
        case post =>
          rw [hb] at g6
          exact ⟨rfl, l', Q', hp, dn_done hD' (fun c => g6 _ c (.inl rfl)) (fun c => g6 _ c (.inr rfl)), hF⟩
      · have he : ¬ (b : Int) = (i : Int) := by omega
        have g5' : b < l'.length ∧ (b = 2 * i + 1 ∨ b = 2 * i + 2) ∧ ltR r (g l' b) (g l' i) = true := by
          rcases g5 with c | c
          · exact absurd c hb
          · exact c
        have hil : i < l'.length := by omega
        obtain ⟨X', hs1, Q2, hF2, hsz⟩ := swap_ev Q' hil g5'.1 k
        refine ⟨?_, ?eq, ?post⟩
        case eq =>
          unfold i28l0
          repeat ((first | rw [evSeq_go] | rw [evSeq_none] | rw [evSeq_guard] | rw [evC_region] | rw [evC_seq] | rw [evC_cond] | rw [evC_block]); try simp only [undef, Array.size_empty, evSeq_nil, isCall_mv, isCall_pick, isCall_alloc, isCall_box, isCall_build, isCall_bslice, isCall_load, isCall_store, isCall_nilchk, isCall_bin, isCall_un, isCall_conv, isCall_mkfn, isCall_mkslice, isCall_slice, isCall_strslice, isCall_faddr, isCall_field, isCall_iaddr, isCall_aaddr, isCall_aindex, isCall_strindex, isCall_ext, isCall_len, isCall_strlen, isCall_const, isCall_append, isCall_minmax, isCall_copy, isCall_call, evI, Opd.ev, rd_set, rd_nil, cond_true, cond_false, Nat.reduceEqDiff, Nat.reduceAdd, Nat.reduceMul, Nat.add_zero, Nat.zero_add, Nat.mul_one, if_true, if_false, reduceIte, binV, intBin, eqBy, Abs.ptrEq, Abs.slcEq, Abs.fncEq, leafEq, unV, Option.map_some, Option.map_none, Option.isNone_none, Option.isNone_some, Bool.not_true, Bool.not_false, beq_self_eq_true, List.getElem?_cons_zero, List.getElem?_cons_succ, evRes, packRes, List.map_cons, List.map_nil, Heap.loadv, Bool.false_eq_true, List.getElem?_toArray, decide_true, decide_false, List.append_nil, List.nil_append, List.cons_append, List.toList_toArray, Bool.beq_eq_decide_eq, reduceCtorEq, Heap.storev, cells_int, cells_bool, cells_string, cells_pointer, cells_slice, cells_func, cells_nilFunc, cells_agg, ok_int, ok_bool, ok_string, ok_pointer, ok_slice, ok_func, ok_nilFunc, ok_agg, size_one, toList_one, Heap.get_put, Heap.size_put, Heap.size_ext, iaddrV, true_and, and_true, eq_self, evC_skip, evC_exit, evC_ret, ext_zero, Option.map_map, Function.comp_def, List.size_toArray, List.length_cons, List.length_nil, not_true_eq_false, not_false_eq_true, ne_eq, t0, t1, w1, w2, g1, g2, g3, g4, he, hs1, toList_nil])
          rfl
        case post =>
          refine ⟨l.length - b, by omega, b, sw l' i b, ?_, ?_, Q2, (sw_perm hil g5'.1).trans hp, .inl (by rw [sw_len]; exact g5'.1), by omega, dn_step (ordR r) hD' g5'.1 g5'.2.1 g5'.2.2 g6, hF.trans hF2⟩
          · simp only [rd_set, Nat.reduceEqDiff, if_false, g2]
          · simp only [rd_set, Nat.reduceEqDiff, if_true, g4])
    l.length ((Tr.nil.set 0 (.pointer (some ⟨q, 0, none⟩))).set 1 (Value.int .i64 (0))) H ⟨0, l, by simp [rd_set], by simp [rd_set], Q, List.Perm.refl _, by omega, by omega, hD, Fr.refl _ _⟩ (by omega)
  obtain ⟨e, T', X, h1, h2, rfl, l', Q', hp, hH, hF⟩ := hloop
  refine ⟨X, l', ?_, Q', hF, hp, hH⟩
  rw [evF, ov_ne 28 _ _ (by decide)]
  simp only [evB, Γ, i28, Tr.ofList]
  rw [evC_block, h1]
  simp only [undef, Array.size_empty, evSeq_nil, isCall_mv, isCall_pick, isCall_alloc, isCall_box, isCall_build, isCall_bslice, isCall_load, isCall_store, isCall_nilchk, isCall_bin, isCall_un, isCall_conv, isCall_mkfn, isCall_mkslice, isCall_slice, isCall_strslice, isCall_faddr, isCall_field, isCall_iaddr, isCall_aaddr, isCall_aindex, isCall_strindex, isCall_ext, isCall_len, isCall_strlen, isCall_const, isCall_append, isCall_minmax, isCall_copy, isCall_call, evI, Opd.ev, rd_set, rd_nil, cond_true, cond_false, Nat.reduceEqDiff, Nat.reduceAdd, Nat.reduceMul, Nat.add_zero, Nat.zero_add, Nat.mul_one, if_true, if_false, reduceIte, binV, intBin, eqBy, Abs.ptrEq, Abs.slcEq, Abs.fncEq, leafEq, unV, Option.map_some, Option.map_none, Option.isNone_none, Option.isNone_some, Bool.not_true, Bool.not_false, beq_self_eq_true, List.getElem?_cons_zero, List.getElem?_cons_succ, evRes, packRes, List.map_cons, List.map_nil, Heap.loadv, Bool.false_eq_true, List.getElem?_toArray, decide_true, decide_false, List.append_nil, List.nil_append, List.cons_append, List.toList_toArray, Bool.beq_eq_decide_eq, reduceCtorEq, Heap.storev, cells_int, cells_bool, cells_string, cells_pointer, cells_slice, cells_func, cells_nilFunc, cells_agg, ok_int, ok_bool, ok_string, ok_pointer, ok_slice, ok_func, ok_nilFunc, ok_agg, size_one, toList_one, Heap.get_put, Heap.size_put, Heap.size_ext, iaddrV, true_and, and_true, eq_self, evC_skip, evC_exit, evC_ret, ext_zero, Option.map_map, Function.comp_def, List.size_toArray, List.length_cons, List.length_nil, not_true_eq_false, not_false_eq_true, ne_eq]

end Go.Proofs.Ytmgkdnncjapejaa.Ab
