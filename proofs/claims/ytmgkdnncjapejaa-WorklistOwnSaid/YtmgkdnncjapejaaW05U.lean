/- A part of the proof that the law answers true at every input: the text W05U; no conditions. -/
import Derived.Test.YtmgkdnncjapejaaW05S
set_option linter.unusedSimpArgs false
set_option linter.unusedVariables false
namespace Go.Proofs.Ytmgkdnncjapejaa.Ab
open Go Go.Proofs.Ytmgkdnncjapejaa.Abs Go.Proofs.Ytmgkdnncjapejaa.Abs.W05
set_option maxRecDepth 100000

theorem toList_nil : (#[] : Array Value).toList = [] := rfl

def LessAt (H : Abs.Heap) (fv : Value) (r : List Int) (fp : List Nat) : Prop :=
  ∃ p e rr sv, fv = .func (.func 24) #[] #[.pointer (some ⟨p, 0, none⟩)] ∧ H.get p = some (.cells e rr [sv]) ∧ p < H.size ∧ p ∉ fp ∧ Rd H sv r fp

theorem Rd.fr {H H' : Abs.Heap} {v : Value} {l : List Int} {fp : List Nat} (h : Rd H v l fp) (hf : Fr fp H H') : Rd H' v l fp := by
  rcases h with h | ⟨o, off, m, cap, e, r, cs, h1, h2, h3, h4, h5⟩
  · exact .inl h
  · exact .inr ⟨o, off, m, cap, e, r, cs, h1, by rw [hf.2 o h3 h4]; exact h2, Nat.lt_of_lt_of_le h3 hf.1, h4, h5⟩
theorem LessAt.fr {H H' : Abs.Heap} {v : Value} {l : List Int} {fp : List Nat} (h : LessAt H v l fp) (hf : Fr fp H H') : LessAt H' v l fp := by
  obtain ⟨p, e, rr, sv, h1, h2, h3, h4, h5⟩ := h
  exact ⟨p, e, rr, sv, h1, by rw [hf.2 p h3 h4]; exact h2, Nat.lt_of_lt_of_le h3 hf.1, h4, h5.fr hf⟩
theorem Fr.refl (fp : List Nat) (H : Abs.Heap) : Fr fp H H := ⟨Nat.le_refl _, fun _ _ _ => rfl⟩
theorem Fr.trans {fp : List Nat} {A B C : Abs.Heap} (h : Fr fp A B) (k : Fr fp B C) : Fr fp A C :=
  ⟨Nat.le_trans h.1 k.1, fun id a b => (k.2 id (Nat.lt_of_lt_of_le a h.1) b).trans (h.2 id a b)⟩

theorem ordR (r : List Int) : Ord (ltR r) := by
  constructor
  · intro a; simp [ltR]
  · intro a b h; simp [ltR] at h ⊢; omega
  · intro a b c h1 h2; simp [ltR] at h1 h2 ⊢; omega
  · intro a b h1 h2; simp [ltR] at h1 h2; omega

theorem wrap_in {n : Int} (h0 : -9223372036854775808 ≤ n) (h1 : n ≤ 9223372036854775807) : IntKind.i64.wrap n = n := by
  simp [IntKind.wrap, IntKind.bits, IntKind.signed]; omega

theorem g_mem {l : List Int} {i : Nat} (h : i < l.length) : g l i ∈ l := by rw [← g_get h]; exact List.getElem_mem _

/-- The element that the slice in the queue holds at i. -/
theorem QM.read {H : Abs.Heap} {fp : List Nat} {q h : Nat} {hs : List Bool} {l : List Int} {lv fv : Value} (Q : QM H fp q h hs l lv fv) (hl : 0 < l.length) :
    ∃ o off m cap e cs, lv = .slice (some ⟨o, off, some m⟩) l.length cap ∧ (m = 2 ∨ m = 3) ∧ l.length ≤ cap ∧ H.get o = some (.cells e false cs) ∧ off + cap ≤ cs.length ∧
      (∀ i, i < l.length → cs[off + i]? = some (Value.int .i64 (g l i))) ∧ o ∈ fp ∧ o ≠ q ∧ o ≠ h := by
  rcases Q.ls with ⟨_, rfl⟩ | h
  · simp at hl
  · exact h

theorem up_ev {H : Abs.Heap} {fp : List Nat} {q h : Nat} {hs : List Bool} {l : List Int} {lv fv : Value} {r : List Int} (Q : QM H fp q h hs l lv fv) (hL : LessAt H fv r fp) (hin : ∀ x ∈ l, 0 ≤ x ∧ x < (r.length : Int))
    {i : Nat} (hi : i < l.length) (hU : UpH (ltR r) l i) (hsmall : l.length ≤ 100000) {k : Nat} (hk : i + 1 ≤ k) :
    ∃ H' l', evF Γ ov (k + 1) 26 [.pointer (some ⟨q, 0, none⟩), (Value.int .i64 (i))] H = some (.tuple #[], H') ∧ QM H' fp q h hs l' lv fv ∧ Fr fp H H' ∧ l'.Perm l ∧ Heap (ltR r) l' := by
  obtain ⟨k, rfl⟩ : ∃ j, k = j + 1 := ⟨k - 1, by omega⟩
  have hloop := loop_run (cl := evF Γ ov (k + 1)) (n := k + 1) (c := i26l0)
    (fun m T X => ∃ l', rd T 0 = .pointer (some ⟨q, 0, none⟩) ∧ rd T 1 = (Value.int .i64 (m)) ∧ QM X fp q h hs l' lv fv ∧ l'.Perm l ∧ m < l'.length ∧ l'.length ≤ 100000 ∧ UpH (ltR r) l' m ∧ Fr fp H X)
    (fun e _ X => (e = .exit 0 ∨ e = .ret) ∧ ∃ l', QM X fp q h hs l' lv fv ∧ l'.Perm l ∧ Heap (ltR r) l' ∧ Fr fp H X)
    (fun m T X ⟨l', t0, t1, Q', hp, hm, hsm, hU', hF⟩ => by
      by_cases hm0 : m = 0
      · subst hm0
        have d : ¬ ((0 : Nat) : Int) > 0 := by omega
        refine ⟨?_, ?eq, ?post⟩
        case eq =>
          unfold i26l0
          repeat ((first | rw [evSeq_go] | rw [evSeq_none] | rw [evSeq_guard] | rw [evC_region] | rw [evC_seq] | rw [evC_cond] | rw [evC_block]); try simp only [undef, Array.size_empty, evSeq_nil, isCall_mv, isCall_pick, isCall_alloc, isCall_box, isCall_build, isCall_bslice, isCall_load, isCall_store, isCall_nilchk, isCall_bin, isCall_un, isCall_conv, isCall_mkfn, isCall_mkslice, isCall_slice, isCall_strslice, isCall_faddr, isCall_field, isCall_iaddr, isCall_aaddr, isCall_aindex, isCall_strindex, isCall_ext, isCall_len, isCall_strlen, isCall_const, isCall_append, isCall_minmax, isCall_copy, isCall_call, evI, Opd.ev, rd_set, rd_nil, cond_true, cond_false, Nat.reduceEqDiff, Nat.reduceAdd, Nat.reduceMul, Nat.add_zero, Nat.zero_add, Nat.mul_one, if_true, if_false, reduceIte, binV, intBin, eqBy, Abs.ptrEq, Abs.slcEq, Abs.fncEq, leafEq, unV, Option.map_some, Option.map_none, Option.isNone_none, Option.isNone_some, Bool.not_true, Bool.not_false, beq_self_eq_true, List.getElem?_cons_zero, List.getElem?_cons_succ, evRes, packRes, List.map_cons, List.map_nil, Heap.loadv, Bool.false_eq_true, List.getElem?_toArray, decide_true, decide_false, List.append_nil, List.nil_append, List.cons_append, List.toList_toArray, Bool.beq_eq_decide_eq, reduceCtorEq, Heap.storev, cells_int, cells_bool, cells_string, cells_pointer, cells_slice, cells_func, cells_nilFunc, cells_agg, ok_int, ok_bool, ok_string, ok_pointer, ok_slice, ok_func, ok_nilFunc, ok_agg, size_one, toList_one, Heap.get_put, Heap.size_put, Heap.size_ext, iaddrV, true_and, and_true, eq_self, evC_skip, evC_exit, evC_ret, ext_zero, Option.map_map, Function.comp_def, List.size_toArray, List.length_cons, List.length_nil, not_true_eq_false, not_false_eq_true, ne_eq, t0, t1, d])
          rfl
        case post => exact ⟨.inl rfl, l', Q', hp, up_done hU' (.inl rfl), hF⟩
      · obtain ⟨o, off, mk, cap, e, cs, hlv, hmk, hcap, go, hlen, hcs, of, oq, oh⟩ := Q'.read (by omega)
        have qo := Q'.qo
        rw [hlv] at qo
        obtain ⟨p, e2, rr, sv, hfv, hp2, _, hp4, hR⟩ := hL.fr hF
        rw [hfv] at qo
        have hpar : (m - 1) / 2 < l'.length := by omega
        have d : ((m : Nat) : Int) > 0 := by omega
        have w1 : IntKind.i64.wrap ((m : Int) - 1) = ((m - 1 : Nat) : Int) := by rw [wrap_in (by omega) (by omega)]; omega
        have w2 : IntKind.i64.wrap (((m - 1 : Nat) : Int).tdiv 2) = (((m - 1) / 2 : Nat) : Int) := by
          rw [Int.tdiv_eq_ediv_of_nonneg (by omega), wrap_in (by omega) (by omega)]; omega
        have z2 : ¬ (2 : Int) = 0 := by omega
        have hm' : (m : Int) < l'.length := by omega
        have hpar' : (((m - 1) / 2 : Nat) : Int) < l'.length := by omega
        have c1 := hcs m hm
        have c2 := hcs _ hpar
        have in1 := hin _ (hp.mem_iff.1 (g_mem hm))
        have in2 := hin _ (hp.mem_iff.1 (g_mem hpar))
        have hless := less_ev hp2 hR in1.1 in1.2 in2.1 in2.2 k
        by_cases hlt : ltR r (g l' m) (g l' ((m - 1) / 2)) = true
        · obtain ⟨X', hs1, Q2, hF2, hsz⟩ := swap_ev Q' hm hpar k
          refine ⟨?_, ?eq, ?post⟩
          case eq =>
            unfold i26l0
            repeat ((first | rw [evSeq_go] | rw [evSeq_none] | rw [evSeq_guard] | rw [evC_region] | rw [evC_seq] | rw [evC_cond] | rw [evC_block]); try simp only [undef, Array.size_empty, evSeq_nil, isCall_mv, isCall_pick, isCall_alloc, isCall_box, isCall_build, isCall_bslice, isCall_load, isCall_store, isCall_nilchk, isCall_bin, isCall_un, isCall_conv, isCall_mkfn, isCall_mkslice, isCall_slice, isCall_strslice, isCall_faddr, isCall_field, isCall_iaddr, isCall_aaddr, isCall_aindex, isCall_strindex, isCall_ext, isCall_len, isCall_strlen, isCall_const, isCall_append, isCall_minmax, isCall_copy, isCall_call, evI, Opd.ev, rd_set, rd_nil, cond_true, cond_false, Nat.reduceEqDiff, Nat.reduceAdd, Nat.reduceMul, Nat.add_zero, Nat.zero_add, Nat.mul_one, if_true, if_false, reduceIte, binV, intBin, eqBy, Abs.ptrEq, Abs.slcEq, Abs.fncEq, leafEq, unV, Option.map_some, Option.map_none, Option.isNone_none, Option.isNone_some, Bool.not_true, Bool.not_false, beq_self_eq_true, List.getElem?_cons_zero, List.getElem?_cons_succ, evRes, packRes, List.map_cons, List.map_nil, Heap.loadv, Bool.false_eq_true, List.getElem?_toArray, decide_true, decide_false, List.append_nil, List.nil_append, List.cons_append, List.toList_toArray, Bool.beq_eq_decide_eq, reduceCtorEq, Heap.storev, cells_int, cells_bool, cells_string, cells_pointer, cells_slice, cells_func, cells_nilFunc, cells_agg, ok_int, ok_bool, ok_string, ok_pointer, ok_slice, ok_func, ok_nilFunc, ok_agg, size_one, toList_one, Heap.get_put, Heap.size_put, Heap.size_ext, iaddrV, true_and, and_true, eq_self, evC_skip, evC_exit, evC_ret, ext_zero, Option.map_map, Function.comp_def, List.size_toArray, List.length_cons, List.length_nil, not_true_eq_false, not_false_eq_true, ne_eq, t0, t1, d, w1, w2, z2, qo, go, Int.natCast_nonneg, Int.toNat_natCast, hm', hpar', c1, c2, hless, hlt, hs1, toList_nil])
            rfl
          case post =>
            refine ⟨(m - 1) / 2, by omega, sw l' m ((m - 1) / 2), ?_, ?_, Q2, (sw_perm hm hpar).trans hp, by rw [sw_len]; exact hpar, by rw [sw_len]; exact hsm, up_step (ordR r) hU' hm (by omega) hlt, hF.trans hF2⟩
            · simp only [rd_set, Nat.reduceEqDiff, if_false, t0]
            · simp only [rd_set, Nat.reduceEqDiff, if_true]
        · have hlt' : ltR r (g l' m) (g l' ((m - 1) / 2)) = false := by simpa using hlt
          refine ⟨?_, ?eq, ?post⟩
          case eq =>
            unfold i26l0
            repeat ((first | rw [evSeq_go] | rw [evSeq_none] | rw [evSeq_guard] | rw [evC_region] | rw [evC_seq] | rw [evC_cond] | rw [evC_block]); try simp only [undef, Array.size_empty, evSeq_nil, isCall_mv, isCall_pick, isCall_alloc, isCall_box, isCall_build, isCall_bslice, isCall_load, isCall_store, isCall_nilchk, isCall_bin, isCall_un, isCall_conv, isCall_mkfn, isCall_mkslice, isCall_slice, isCall_strslice, isCall_faddr, isCall_field, isCall_iaddr, isCall_aaddr, isCall_aindex, isCall_strindex, isCall_ext, isCall_len, isCall_strlen, isCall_const, isCall_append, isCall_minmax, isCall_copy, isCall_call, evI, Opd.ev, rd_set, rd_nil, cond_true, cond_false, Nat.reduceEqDiff, Nat.reduceAdd, Nat.reduceMul, Nat.add_zero, Nat.zero_add, Nat.mul_one, if_true, if_false, reduceIte, binV, intBin, eqBy, Abs.ptrEq, Abs.slcEq, Abs.fncEq, leafEq, unV, Option.map_some, Option.map_none, Option.isNone_none, Option.isNone_some, Bool.not_true, Bool.not_false, beq_self_eq_true, List.getElem?_cons_zero, List.getElem?_cons_succ, evRes, packRes, List.map_cons, List.map_nil, Heap.loadv, Bool.false_eq_true, List.getElem?_toArray, decide_true, decide_false, List.append_nil, List.nil_append, List.cons_append, List.toList_toArray, Bool.beq_eq_decide_eq, reduceCtorEq, Heap.storev, cells_int, cells_bool, cells_string, cells_pointer, cells_slice, cells_func, cells_nilFunc, cells_agg, ok_int, ok_bool, ok_string, ok_pointer, ok_slice, ok_func, ok_nilFunc, ok_agg, size_one, toList_one, Heap.get_put, Heap.size_put, Heap.size_ext, iaddrV, true_and, and_true, eq_self, evC_skip, evC_exit, evC_ret, ext_zero, Option.map_map, Function.comp_def, List.size_toArray, List.length_cons, List.length_nil, not_true_eq_false, not_false_eq_true, ne_eq, t0, t1, d, w1, w2, z2, qo, go, Int.natCast_nonneg, Int.toNat_natCast, hm', hpar', c1, c2, hless, hlt', toList_nil])
            rfl
          case post => exact ⟨.inr rfl, l', Q', hp, up_done hU' (.inr hlt'), hF⟩)
    i ((Tr.nil.set 0 (.pointer (some ⟨q, 0, none⟩))).set 1 (Value.int .i64 (i))) H ⟨l, by simp [rd_set], by simp [rd_set], Q, List.Perm.refl _, hi, hsmall, hU, Fr.refl _ _⟩ (by omega)
  obtain ⟨e, T', X, h1, h2, h3, l', Q', hp, hH, hF⟩ := hloop
  refine ⟨X, l', ?_, Q', hF, hp, hH⟩
  rw [evF, ov_ne 26 _ _ (by decide)]
  simp only [evB, Γ, i26, Tr.ofList]
  rw [evC_block, h1]
  rcases h3 with rfl | rfl
  · simp only [undef, Array.size_empty, evSeq_nil, isCall_mv, isCall_pick, isCall_alloc, isCall_box, isCall_build, isCall_bslice, isCall_load, isCall_store, isCall_nilchk, isCall_bin, isCall_un, isCall_conv, isCall_mkfn, isCall_mkslice, isCall_slice, isCall_strslice, isCall_faddr, isCall_field, isCall_iaddr, isCall_aaddr, isCall_aindex, isCall_strindex, isCall_ext, isCall_len, isCall_strlen, isCall_const, isCall_append, isCall_minmax, isCall_copy, isCall_call, evI, Opd.ev, rd_set, rd_nil, cond_true, cond_false, Nat.reduceEqDiff, Nat.reduceAdd, Nat.reduceMul, Nat.add_zero, Nat.zero_add, Nat.mul_one, if_true, if_false, reduceIte, binV, intBin, eqBy, Abs.ptrEq, Abs.slcEq, Abs.fncEq, leafEq, unV, Option.map_some, Option.map_none, Option.isNone_none, Option.isNone_some, Bool.not_true, Bool.not_false, beq_self_eq_true, List.getElem?_cons_zero, List.getElem?_cons_succ, evRes, packRes, List.map_cons, List.map_nil, Heap.loadv, Bool.false_eq_true, List.getElem?_toArray, decide_true, decide_false, List.append_nil, List.nil_append, List.cons_append, List.toList_toArray, Bool.beq_eq_decide_eq, reduceCtorEq, Heap.storev, cells_int, cells_bool, cells_string, cells_pointer, cells_slice, cells_func, cells_nilFunc, cells_agg, ok_int, ok_bool, ok_string, ok_pointer, ok_slice, ok_func, ok_nilFunc, ok_agg, size_one, toList_one, Heap.get_put, Heap.size_put, Heap.size_ext, iaddrV, true_and, and_true, eq_self, evC_skip, evC_exit, evC_ret, ext_zero, Option.map_map, Function.comp_def, List.size_toArray, List.length_cons, List.length_nil, not_true_eq_false, not_false_eq_true, ne_eq]
  · simp only [undef, Array.size_empty, evSeq_nil, isCall_mv, isCall_pick, isCall_alloc, isCall_box, isCall_build, isCall_bslice, isCall_load, isCall_store, isCall_nilchk, isCall_bin, isCall_un, isCall_conv, isCall_mkfn, isCall_mkslice, isCall_slice, isCall_strslice, isCall_faddr, isCall_field, isCall_iaddr, isCall_aaddr, isCall_aindex, isCall_strindex, isCall_ext, isCall_len, isCall_strlen, isCall_const, isCall_append, isCall_minmax, isCall_copy, isCall_call, evI, Opd.ev, rd_set, rd_nil, cond_true, cond_false, Nat.reduceEqDiff, Nat.reduceAdd, Nat.reduceMul, Nat.add_zero, Nat.zero_add, Nat.mul_one, if_true, if_false, reduceIte, binV, intBin, eqBy, Abs.ptrEq, Abs.slcEq, Abs.fncEq, leafEq, unV, Option.map_some, Option.map_none, Option.isNone_none, Option.isNone_some, Bool.not_true, Bool.not_false, beq_self_eq_true, List.getElem?_cons_zero, List.getElem?_cons_succ, evRes, packRes, List.map_cons, List.map_nil, Heap.loadv, Bool.false_eq_true, List.getElem?_toArray, decide_true, decide_false, List.append_nil, List.nil_append, List.cons_append, List.toList_toArray, Bool.beq_eq_decide_eq, reduceCtorEq, Heap.storev, cells_int, cells_bool, cells_string, cells_pointer, cells_slice, cells_func, cells_nilFunc, cells_agg, ok_int, ok_bool, ok_string, ok_pointer, ok_slice, ok_func, ok_nilFunc, ok_agg, size_one, toList_one, Heap.get_put, Heap.size_put, Heap.size_ext, iaddrV, true_and, and_true, eq_self, evC_skip, evC_exit, evC_ret, ext_zero, Option.map_map, Function.comp_def, List.size_toArray, List.length_cons, List.length_nil, not_true_eq_false, not_false_eq_true, ne_eq]

end Go.Proofs.Ytmgkdnncjapejaa.Ab
