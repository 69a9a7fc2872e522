/- A part of the proof that the law answers true at every input: the text W05S; no conditions. -/
import Derived.Test.YtmgkdnncjapejaaW05P
import Derived.Test.YtmgkdnncjapejaaW05M
set_option linter.unusedSimpArgs false
set_option linter.unusedVariables false
namespace Go.Proofs.Ytmgkdnncjapejaa.Ab
open Go Go.Proofs.Ytmgkdnncjapejaa.Abs Go.Proofs.Ytmgkdnncjapejaa.Abs.W05
set_option maxRecDepth 100000

def ov : Known := fun f a H => match f, a with
  | 8, [] => some (.bool true, H.size)
  | _, _ => none
theorem ov_ne (f : Nat) (a : List Value) (H : Abs.Heap) (h : f ≠ 8) : ov f a H = none := by
  unfold ov
  split
  · exact absurd rfl h
  · rfl

/-- Integers that are read through a slice. -/
def Rd (H : Abs.Heap) (v : Value) (l : List Int) (fp : List Nat) : Prop :=
  (v = .slice none 0 0 ∧ l = []) ∨ ∃ o off m cap e r cs, v = .slice (some ⟨o, off, some m⟩) l.length cap ∧ H.get o = some (.cells e r cs) ∧ o < H.size ∧ o ∉ fp ∧ ∀ i, i < l.length → cs[off + i]? = some (Value.int .i64 (g l i))

def ltR (r : List Int) (x y : Int) : Bool := decide (g r x.toNat < g r y.toNat) || (decide (g r x.toNat = g r y.toNat) && decide (x < y))

theorem less_ev {H : Abs.Heap} {r : List Int} {p : Nat} {e : Nat} {rr : Bool} {sv : Value} {fp : List Nat} (hp : H.get p = some (.cells e rr [sv])) (hr : Rd H sv r fp) {x y : Int} (hx0 : 0 ≤ x) (hx : x < r.length) (hy0 : 0 ≤ y) (hy : y < r.length) (k : Nat) :
    evF Γ ov (k + 1) 24 [(Value.int .i64 (x)), (Value.int .i64 (y)), .pointer (some ⟨p, 0, none⟩)] H = some (.bool (ltR r x y), H) := by
  rcases hr with ⟨_, hl⟩ | ⟨o, off, m, cap, e2, r2, cs, rfl, ho, _, _, hcs⟩
  · subst hl; simp at hx; omega
  have h1 := hcs x.toNat (by omega)
  have h2 := hcs y.toNat (by omega)
  simp only [evF, ov_ne 24 _ _ (by decide), evB, Γ, i24, Tr.ofList]
  by_cases a : g r x.toNat < g r y.toNat
  · repeat ((first | rw [evSeq_go] | rw [evSeq_none] | rw [evSeq_guard] | rw [evC_region] | rw [evC_seq] | rw [evC_cond] | rw [evC_block]); try simp only [undef, Array.size_empty, evSeq_nil, isCall_mv, isCall_pick, isCall_alloc, isCall_box, isCall_build, isCall_bslice, isCall_load, isCall_store, isCall_nilchk, isCall_bin, isCall_un, isCall_conv, isCall_mkfn, isCall_mkslice, isCall_slice, isCall_strslice, isCall_faddr, isCall_field, isCall_iaddr, isCall_aaddr, isCall_aindex, isCall_strindex, isCall_ext, isCall_len, isCall_strlen, isCall_const, isCall_append, isCall_minmax, isCall_copy, isCall_call, evI, Opd.ev, rd_set, rd_nil, cond_true, cond_false, Nat.reduceEqDiff, Nat.reduceAdd, Nat.reduceMul, Nat.add_zero, Nat.zero_add, Nat.mul_one, if_true, if_false, reduceIte, binV, intBin, eqBy, Abs.ptrEq, Abs.slcEq, Abs.fncEq, leafEq, unV, Option.map_some, Option.map_none, Option.isNone_none, Option.isNone_some, Bool.not_true, Bool.not_false, beq_self_eq_true, List.getElem?_cons_zero, List.getElem?_cons_succ, evRes, packRes, List.map_cons, List.map_nil, Heap.loadv, Bool.false_eq_true, List.getElem?_toArray, decide_true, decide_false, List.append_nil, List.nil_append, List.cons_append, List.toList_toArray, Bool.beq_eq_decide_eq, reduceCtorEq, Heap.storev, cells_int, cells_bool, cells_string, cells_pointer, cells_slice, cells_func, cells_nilFunc, cells_agg, ok_int, ok_bool, ok_string, ok_pointer, ok_slice, ok_func, ok_nilFunc, ok_agg, size_one, toList_one, Heap.get_put, Heap.size_put, Heap.size_ext, iaddrV, true_and, and_true, eq_self, evC_skip, evC_exit, evC_ret, ext_zero, Option.map_map, Function.comp_def, List.size_toArray, List.length_cons, List.length_nil, not_true_eq_false, not_false_eq_true, ne_eq, hp, ho, hx0, hx, hy0, hy, h1, h2, a])
    simp only [ltR, a, decide_true, Bool.true_or]
  · by_cases b : g r x.toNat = g r y.toNat
    · by_cases c : x < y
      · repeat ((first | rw [evSeq_go] | rw [evSeq_none] | rw [evSeq_guard] | rw [evC_region] | rw [evC_seq] | rw [evC_cond] | rw [evC_block]); try simp only [undef, Array.size_empty, evSeq_nil, isCall_mv, isCall_pick, isCall_alloc, isCall_box, isCall_build, isCall_bslice, isCall_load, isCall_store, isCall_nilchk, isCall_bin, isCall_un, isCall_conv, isCall_mkfn, isCall_mkslice, isCall_slice, isCall_strslice, isCall_faddr, isCall_field, isCall_iaddr, isCall_aaddr, isCall_aindex, isCall_strindex, isCall_ext, isCall_len, isCall_strlen, isCall_const, isCall_append, isCall_minmax, isCall_copy, isCall_call, evI, Opd.ev, rd_set, rd_nil, cond_true, cond_false, Nat.reduceEqDiff, Nat.reduceAdd, Nat.reduceMul, Nat.add_zero, Nat.zero_add, Nat.mul_one, if_true, if_false, reduceIte, binV, intBin, eqBy, Abs.ptrEq, Abs.slcEq, Abs.fncEq, leafEq, unV, Option.map_some, Option.map_none, Option.isNone_none, Option.isNone_some, Bool.not_true, Bool.not_false, beq_self_eq_true, List.getElem?_cons_zero, List.getElem?_cons_succ, evRes, packRes, List.map_cons, List.map_nil, Heap.loadv, Bool.false_eq_true, List.getElem?_toArray, decide_true, decide_false, List.append_nil, List.nil_append, List.cons_append, List.toList_toArray, Bool.beq_eq_decide_eq, reduceCtorEq, Heap.storev, cells_int, cells_bool, cells_string, cells_pointer, cells_slice, cells_func, cells_nilFunc, cells_agg, ok_int, ok_bool, ok_string, ok_pointer, ok_slice, ok_func, ok_nilFunc, ok_agg, size_one, toList_one, Heap.get_put, Heap.size_put, Heap.size_ext, iaddrV, true_and, and_true, eq_self, evC_skip, evC_exit, evC_ret, ext_zero, Option.map_map, Function.comp_def, List.size_toArray, List.length_cons, List.length_nil, not_true_eq_false, not_false_eq_true, ne_eq, hp, ho, hx0, hx, hy0, hy, h1, h2, a, b, c, Int.lt_irrefl])
        simp [ltR, a, b, c]
      · repeat ((first | rw [evSeq_go] | rw [evSeq_none] | rw [evSeq_guard] | rw [evC_region] | rw [evC_seq] | rw [evC_cond] | rw [evC_block]); try simp only [undef, Array.size_empty, evSeq_nil, isCall_mv, isCall_pick, isCall_alloc, isCall_box, isCall_build, isCall_bslice, isCall_load, isCall_store, isCall_nilchk, isCall_bin, isCall_un, isCall_conv, isCall_mkfn, isCall_mkslice, isCall_slice, isCall_strslice, isCall_faddr, isCall_field, isCall_iaddr, isCall_aaddr, isCall_aindex, isCall_strindex, isCall_ext, isCall_len, isCall_strlen, isCall_const, isCall_append, isCall_minmax, isCall_copy, isCall_call, evI, Opd.ev, rd_set, rd_nil, cond_true, cond_false, Nat.reduceEqDiff, Nat.reduceAdd, Nat.reduceMul, Nat.add_zero, Nat.zero_add, Nat.mul_one, if_true, if_false, reduceIte, binV, intBin, eqBy, Abs.ptrEq, Abs.slcEq, Abs.fncEq, leafEq, unV, Option.map_some, Option.map_none, Option.isNone_none, Option.isNone_some, Bool.not_true, Bool.not_false, beq_self_eq_true, List.getElem?_cons_zero, List.getElem?_cons_succ, evRes, packRes, List.map_cons, List.map_nil, Heap.loadv, Bool.false_eq_true, List.getElem?_toArray, decide_true, decide_false, List.append_nil, List.nil_append, List.cons_append, List.toList_toArray, Bool.beq_eq_decide_eq, reduceCtorEq, Heap.storev, cells_int, cells_bool, cells_string, cells_pointer, cells_slice, cells_func, cells_nilFunc, cells_agg, ok_int, ok_bool, ok_string, ok_pointer, ok_slice, ok_func, ok_nilFunc, ok_agg, size_one, toList_one, Heap.get_put, Heap.size_put, Heap.size_ext, iaddrV, true_and, and_true, eq_self, evC_skip, evC_exit, evC_ret, ext_zero, Option.map_map, Function.comp_def, List.size_toArray, List.length_cons, List.length_nil, not_true_eq_false, not_false_eq_true, ne_eq, hp, ho, hx0, hx, hy0, hy, h1, h2, a, b, c, Int.lt_irrefl])
        simp [ltR, a, b, c]
    · have b2 : (g r x.toNat == g r y.toNat) = false := by simpa using b
      repeat ((first | rw [evSeq_go] | rw [evSeq_none] | rw [evSeq_guard] | rw [evC_region] | rw [evC_seq] | rw [evC_cond] | rw [evC_block]); try simp only [undef, Array.size_empty, evSeq_nil, isCall_mv, isCall_pick, isCall_alloc, isCall_box, isCall_build, isCall_bslice, isCall_load, isCall_store, isCall_nilchk, isCall_bin, isCall_un, isCall_conv, isCall_mkfn, isCall_mkslice, isCall_slice, isCall_strslice, isCall_faddr, isCall_field, isCall_iaddr, isCall_aaddr, isCall_aindex, isCall_strindex, isCall_ext, isCall_len, isCall_strlen, isCall_const, isCall_append, isCall_minmax, isCall_copy, isCall_call, evI, Opd.ev, rd_set, rd_nil, cond_true, cond_false, Nat.reduceEqDiff, Nat.reduceAdd, Nat.reduceMul, Nat.add_zero, Nat.zero_add, Nat.mul_one, if_true, if_false, reduceIte, binV, intBin, eqBy, Abs.ptrEq, Abs.slcEq, Abs.fncEq, leafEq, unV, Option.map_some, Option.map_none, Option.isNone_none, Option.isNone_some, Bool.not_true, Bool.not_false, beq_self_eq_true, List.getElem?_cons_zero, List.getElem?_cons_succ, evRes, packRes, List.map_cons, List.map_nil, Heap.loadv, Bool.false_eq_true, List.getElem?_toArray, decide_true, decide_false, List.append_nil, List.nil_append, List.cons_append, List.toList_toArray, Bool.beq_eq_decide_eq, reduceCtorEq, Heap.storev, cells_int, cells_bool, cells_string, cells_pointer, cells_slice, cells_func, cells_nilFunc, cells_agg, ok_int, ok_bool, ok_string, ok_pointer, ok_slice, ok_func, ok_nilFunc, ok_agg, size_one, toList_one, Heap.get_put, Heap.size_put, Heap.size_ext, iaddrV, true_and, and_true, eq_self, evC_skip, evC_exit, evC_ret, ext_zero, Option.map_map, Function.comp_def, List.size_toArray, List.length_cons, List.length_nil, not_true_eq_false, not_false_eq_true, ne_eq, hp, ho, hx0, hx, hy0, hy, h1, h2, a, b, b2])
      simp [ltR, a, b]

def Fr (fp : List Nat) (H H' : Abs.Heap) : Prop := H.size ≤ H'.size ∧ ∀ id, id < H.size → id ∉ fp → H'.get id = H.get id

structure QM (H : Abs.Heap) (fp : List Nat) (q h : Nat) (hs : List Bool) (l : List Int) (lv fv : Value) : Prop where
  qo : H.get q = some (.cells 43 false [.bool true, .slice (some ⟨h, 0, some 3⟩) hs.length hs.length, lv, fv])
  ho : H.get h = some (.cells 4 false (hs.map Value.bool))
  ls : (lv = .slice none 0 0 ∧ l = []) ∨ ∃ o off m cap e cs, lv = .slice (some ⟨o, off, some m⟩) l.length cap ∧ (m = 2 ∨ m = 3) ∧ l.length ≤ cap ∧ H.get o = some (.cells e false cs) ∧ off + cap ≤ cs.length ∧
    (∀ i, i < l.length → cs[off + i]? = some (Value.int .i64 (g l i))) ∧ o ∈ fp ∧ o ≠ q ∧ o ≠ h
  qf : q ∈ fp
  hf : h ∈ fp
  qh : q ≠ h
  lt : ∀ x ∈ fp, x < H.size

theorem sw_cells {cs : List Value} {l : List Int} {off i j : Nat} (hi : i < l.length) (hj : j < l.length) (hl : off + l.length ≤ cs.length) (hc : ∀ i, i < l.length → cs[off + i]? = some (Value.int .i64 (g l i))) :
    ∀ k, k < (sw l i j).length → (setRange (setRange cs (off + i) [(Value.int .i64 (g l j))]) (off + j) [(Value.int .i64 (g l i))])[off + k]? = some (Value.int .i64 (g (sw l i j) k)) := by
  intro k hk
  rw [sw_len] at hk
  rw [setRange_one _ _ _ (by rw [setRange_one _ _ _ (by omega)]; simp; omega), setRange_one _ _ _ (by omega), g_sw hi hj]
  by_cases e1 : k = j
  · subst e1; rw [if_pos rfl, List.getElem?_set, if_pos rfl, if_pos (by simp; omega)]
  · rw [if_neg e1, List.getElem?_set, if_neg (by omega)]
    by_cases e2 : k = i
    · subst e2; rw [if_pos rfl, List.getElem?_set, if_pos rfl, if_pos (by omega)]
    · rw [if_neg e2, List.getElem?_set, if_neg (by omega)]; exact hc k hk

theorem swap_ev {H : Abs.Heap} {fp : List Nat} {q h : Nat} {hs : List Bool} {l : List Int} {lv fv : Value} (Q : QM H fp q h hs l lv fv) {i j : Nat} (hi : i < l.length) (hj : j < l.length) (k : Nat) :
    ∃ H', evF Γ ov (k + 1) 27 [.pointer (some ⟨q, 0, none⟩), (Value.int .i64 (i)), (Value.int .i64 (j))] H = some (.tuple #[], H') ∧ QM H' fp q h hs (sw l i j) lv fv ∧ Fr fp H H' ∧ H'.size = H.size := by
  obtain ⟨qo, ho, ls, qf, hf, qh, lt⟩ := Q
  rcases ls with ⟨_, rfl⟩ | ⟨o, off, m, cap, e, cs, rfl, hm, hcap, go, hlen, hcs, of, oq, oh⟩
  · simp at hi
  have h1 := hcs i hi
  have h2 := hcs j hj
  have hi' : (i : Int) < l.length := by omega
  have hj' : (j : Int) < l.length := by omega
  have s1 : off + i + 1 ≤ cs.length := by omega
  have s2 : off + j + 1 ≤ (setRange cs (off + i) [(Value.int .i64 (g l j))]).length := by rw [setRange_one _ _ _ s1]; simp; omega
  refine ⟨(H.put o (.cells e false (setRange cs (off + i) [(Value.int .i64 (g l j))]))).put o (.cells e false (setRange (setRange cs (off + i) [(Value.int .i64 (g l j))]) (off + j) [(Value.int .i64 (g l i))])), ?_, ?_, ?_, rfl⟩
  · simp only [evF, ov_ne 27 _ _ (by decide), evB, Γ, i27, Tr.ofList]
    repeat ((first | rw [evSeq_go] | rw [evSeq_none] | rw [evSeq_guard] | rw [evC_region] | rw [evC_seq] | rw [evC_cond] | rw [evC_block]); try simp only [undef, Array.size_empty, evSeq_nil, isCall_mv, isCall_pick, isCall_alloc, isCall_box, isCall_build, isCall_bslice, isCall_load, isCall_store, isCall_nilchk, isCall_bin, isCall_un, isCall_conv, isCall_mkfn, isCall_mkslice, isCall_slice, isCall_strslice, isCall_faddr, isCall_field, isCall_iaddr, isCall_aaddr, isCall_aindex, isCall_strindex, isCall_ext, isCall_len, isCall_strlen, isCall_const, isCall_append, isCall_minmax, isCall_copy, isCall_call, evI, Opd.ev, rd_set, rd_nil, cond_true, cond_false, Nat.reduceEqDiff, Nat.reduceAdd, Nat.reduceMul, Nat.add_zero, Nat.zero_add, Nat.mul_one, if_true, if_false, reduceIte, binV, intBin, eqBy, Abs.ptrEq, Abs.slcEq, Abs.fncEq, leafEq, unV, Option.map_some, Option.map_none, Option.isNone_none, Option.isNone_some, Bool.not_true, Bool.not_false, beq_self_eq_true, List.getElem?_cons_zero, List.getElem?_cons_succ, evRes, packRes, List.map_cons, List.map_nil, Heap.loadv, Bool.false_eq_true, List.getElem?_toArray, decide_true, decide_false, List.append_nil, List.nil_append, List.cons_append, List.toList_toArray, Bool.beq_eq_decide_eq, reduceCtorEq, Heap.storev, cells_int, cells_bool, cells_string, cells_pointer, cells_slice, cells_func, cells_nilFunc, cells_agg, ok_int, ok_bool, ok_string, ok_pointer, ok_slice, ok_func, ok_nilFunc, ok_agg, size_one, toList_one, Heap.get_put, Heap.size_put, Heap.size_ext, iaddrV, true_and, and_true, eq_self, evC_skip, evC_exit, evC_ret, ext_zero, Option.map_map, Function.comp_def, List.size_toArray, List.length_cons, List.length_nil, not_true_eq_false, not_false_eq_true, ne_eq, qo, go, Int.natCast_nonneg, Int.toNat_natCast, hi', hj', h1, h2, s1, s2])
  · have nq : ¬ o = q := oq
    have nh : ¬ o = h := oh
    refine ⟨?_, ?_, .inr ⟨o, off, m, cap, e, setRange (setRange cs (off + i) [(Value.int .i64 (g l j))]) (off + j) [(Value.int .i64 (g l i))], by rw [sw_len], hm, by rw [sw_len]; exact hcap, ?_, ?_, sw_cells hi hj (by omega) hcs, of, oq, oh⟩, qf, hf, qh, lt⟩
    · simp only [Heap.get_put, if_neg nq]; exact qo
    · simp only [Heap.get_put, if_neg nh]; exact ho
    · simp only [Heap.get_put, if_true]
    · rw [setRange_one _ _ _ s2, setRange_one _ _ _ s1]; simp; exact hlen
  · refine ⟨Nat.le_refl _, fun id _ hid => ?_⟩
    have : ¬ o = id := fun e => hid (e ▸ of)
    simp only [Heap.get_put, if_neg this]

end Go.Proofs.Ytmgkdnncjapejaa.Ab
