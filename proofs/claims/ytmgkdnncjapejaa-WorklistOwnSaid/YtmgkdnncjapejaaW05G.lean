/- A part of the proof that the law answers true at every input: the text W05G; no conditions. -/
import Derived.Test.YtmgkdnncjapejaaW05F
set_option linter.unusedSimpArgs false
set_option linter.unusedVariables false
namespace Go.Proofs.Ytmgkdnncjapejaa.Ab
open Go Go.Proofs.Ytmgkdnncjapejaa.Abs Go.Proofs.Ytmgkdnncjapejaa.Abs.W05
set_option maxRecDepth 100000
set_option maxHeartbeats 4000000

theorem set5_4 (a b c d e v : Value) : setRange [a, b, c, d, e] 4 [v] = [a, b, c, d, v] := rfl

theorem rpush_ev {H : Abs.Heap} {al : List Nat} {q : Nat} {l : List Int} {ro : Option (List Int)} {N : Nat} (Q : RS H al q l ro N) (x : Int) (hsmall : l.length < 99999) {k : Nat} (hk : l.length + 5 ≤ k) :
    ∃ H' al', evF Γ ov k 19 [.pointer (some ⟨q, 0, none⟩), (Value.int .i64 (x))] H = some (.bool (pushOk N l x), H') ∧ RS H' al' q (if pushOk N l x then l ++ [x] else l) ro N ∧ Fr al H H' ∧ Grow H al al' := by
  obtain ⟨k, rfl⟩ : ∃ j, k = j + 2 := ⟨k - 2, by omega⟩
  have hhas := rhas_ev Q (by omega) x (k := k) (by omega)
  have QQ := Q
  obtain ⟨fp, lv, rv, rk, Q⟩ := Q
  have qo := Q.qo
  rw [evF, ov_ne 19 _ _ (by decide)]
  simp only [evB, Γ, i19, Tr.ofList]
  by_cases h0 : x < 0
  · have hf : pushOk N l x = false := by simp [pushOk]; omega
    rw [hf]
    refine ⟨H, al, ?_, QQ, Fr.refl _ _, Grow.refl _ _⟩
    repeat ((first | rw [evSeq_go] | rw [evSeq_none] | rw [evSeq_guard] | rw [evC_region] | rw [evC_seq] | rw [evC_cond] | rw [evC_block]); try simp only [undef, Array.size_empty, evSeq_nil, isCall_mv, isCall_pick, isCall_alloc, isCall_box, isCall_build, isCall_bslice, isCall_load, isCall_store, isCall_nilchk, isCall_bin, isCall_un, isCall_conv, isCall_mkfn, isCall_mkslice, isCall_slice, isCall_strslice, isCall_faddr, isCall_field, isCall_iaddr, isCall_aaddr, isCall_aindex, isCall_strindex, isCall_ext, isCall_len, isCall_strlen, isCall_const, isCall_append, isCall_minmax, isCall_copy, isCall_call, evI, Opd.ev, rd_set, rd_nil, cond_true, cond_false, Nat.reduceEqDiff, Nat.reduceAdd, Nat.reduceMul, Nat.add_zero, Nat.zero_add, Nat.mul_one, if_true, if_false, reduceIte, binV, intBin, eqBy, Abs.ptrEq, Abs.slcEq, Abs.fncEq, leafEq, unV, Option.map_some, Option.map_none, Option.isNone_none, Option.isNone_some, Bool.not_true, Bool.not_false, beq_self_eq_true, List.getElem?_cons_zero, List.getElem?_cons_succ, evRes, packRes, List.map_cons, List.map_nil, Heap.loadv, Bool.false_eq_true, List.getElem?_toArray, decide_true, decide_false, List.append_nil, List.nil_append, List.cons_append, List.toList_toArray, Bool.beq_eq_decide_eq, reduceCtorEq, Heap.storev, cells_int, cells_bool, cells_string, cells_pointer, cells_slice, cells_func, cells_nilFunc, cells_agg, ok_int, ok_bool, ok_string, ok_pointer, ok_slice, ok_func, ok_nilFunc, ok_agg, size_one, toList_one, Heap.get_put, Heap.size_put, Heap.size_ext, iaddrV, true_and, and_true, eq_self, evC_skip, evC_exit, evC_ret, ext_zero, Option.map_map, Function.comp_def, List.size_toArray, List.length_cons, List.length_nil, not_true_eq_false, not_false_eq_true, ne_eq, qo, h0])
  by_cases h1 : x ≥ (N : Int)
  · have hf : pushOk N l x = false := by simp [pushOk]; omega
    rw [hf]
    refine ⟨H, al, ?_, QQ, Fr.refl _ _, Grow.refl _ _⟩
    repeat ((first | rw [evSeq_go] | rw [evSeq_none] | rw [evSeq_guard] | rw [evC_region] | rw [evC_seq] | rw [evC_cond] | rw [evC_block]); try simp only [undef, Array.size_empty, evSeq_nil, isCall_mv, isCall_pick, isCall_alloc, isCall_box, isCall_build, isCall_bslice, isCall_load, isCall_store, isCall_nilchk, isCall_bin, isCall_un, isCall_conv, isCall_mkfn, isCall_mkslice, isCall_slice, isCall_strslice, isCall_faddr, isCall_field, isCall_iaddr, isCall_aaddr, isCall_aindex, isCall_strindex, isCall_ext, isCall_len, isCall_strlen, isCall_const, isCall_append, isCall_minmax, isCall_copy, isCall_call, evI, Opd.ev, rd_set, rd_nil, cond_true, cond_false, Nat.reduceEqDiff, Nat.reduceAdd, Nat.reduceMul, Nat.add_zero, Nat.zero_add, Nat.mul_one, if_true, if_false, reduceIte, binV, intBin, eqBy, Abs.ptrEq, Abs.slcEq, Abs.fncEq, leafEq, unV, Option.map_some, Option.map_none, Option.isNone_none, Option.isNone_some, Bool.not_true, Bool.not_false, beq_self_eq_true, List.getElem?_cons_zero, List.getElem?_cons_succ, evRes, packRes, List.map_cons, List.map_nil, Heap.loadv, Bool.false_eq_true, List.getElem?_toArray, decide_true, decide_false, List.append_nil, List.nil_append, List.cons_append, List.toList_toArray, Bool.beq_eq_decide_eq, reduceCtorEq, Heap.storev, cells_int, cells_bool, cells_string, cells_pointer, cells_slice, cells_func, cells_nilFunc, cells_agg, ok_int, ok_bool, ok_string, ok_pointer, ok_slice, ok_func, ok_nilFunc, ok_agg, size_one, toList_one, Heap.get_put, Heap.size_put, Heap.size_ext, iaddrV, true_and, and_true, eq_self, evC_skip, evC_exit, evC_ret, ext_zero, Option.map_map, Function.comp_def, List.size_toArray, List.length_cons, List.length_nil, not_true_eq_false, not_false_eq_true, ne_eq, qo, h0, h1])
  by_cases hx : x ∈ l
  · have hf : pushOk N l x = false := by simp [pushOk, hx]
    rw [hf]
    rw [decide_eq_true hx] at hhas
    refine ⟨H, al, ?_, QQ, Fr.refl _ _, Grow.refl _ _⟩
    repeat ((first | rw [evSeq_go] | rw [evSeq_none] | rw [evSeq_guard] | rw [evC_region] | rw [evC_seq] | rw [evC_cond] | rw [evC_block]); try simp only [undef, Array.size_empty, evSeq_nil, isCall_mv, isCall_pick, isCall_alloc, isCall_box, isCall_build, isCall_bslice, isCall_load, isCall_store, isCall_nilchk, isCall_bin, isCall_un, isCall_conv, isCall_mkfn, isCall_mkslice, isCall_slice, isCall_strslice, isCall_faddr, isCall_field, isCall_iaddr, isCall_aaddr, isCall_aindex, isCall_strindex, isCall_ext, isCall_len, isCall_strlen, isCall_const, isCall_append, isCall_minmax, isCall_copy, isCall_call, evI, Opd.ev, rd_set, rd_nil, cond_true, cond_false, Nat.reduceEqDiff, Nat.reduceAdd, Nat.reduceMul, Nat.add_zero, Nat.zero_add, Nat.mul_one, if_true, if_false, reduceIte, binV, intBin, eqBy, Abs.ptrEq, Abs.slcEq, Abs.fncEq, leafEq, unV, Option.map_some, Option.map_none, Option.isNone_none, Option.isNone_some, Bool.not_true, Bool.not_false, beq_self_eq_true, List.getElem?_cons_zero, List.getElem?_cons_succ, evRes, packRes, List.map_cons, List.map_nil, Heap.loadv, Bool.false_eq_true, List.getElem?_toArray, decide_true, decide_false, List.append_nil, List.nil_append, List.cons_append, List.toList_toArray, Bool.beq_eq_decide_eq, reduceCtorEq, Heap.storev, cells_int, cells_bool, cells_string, cells_pointer, cells_slice, cells_func, cells_nilFunc, cells_agg, ok_int, ok_bool, ok_string, ok_pointer, ok_slice, ok_func, ok_nilFunc, ok_agg, size_one, toList_one, Heap.get_put, Heap.size_put, Heap.size_ext, iaddrV, true_and, and_true, eq_self, evC_skip, evC_exit, evC_ret, ext_zero, Option.map_map, Function.comp_def, List.size_toArray, List.length_cons, List.length_nil, not_true_eq_false, not_false_eq_true, ne_eq, qo, h0, h1, hhas, toList_nil])
  rw [decide_eq_false hx] at hhas
  have ht : pushOk N l x = true := by simp [pushOk, hx]; omega
  rw [ht]
  have lq := Q.lal _ (Q.sub _ Q.qf)
  have ls' : (lv = .slice none 0 0 ∧ l = []) ∨ ∃ o off m cap e cs, lv = .slice (some ⟨o, off, some m⟩) l.length cap ∧ (m = 2 ∨ m = 3) ∧ l.length ≤ cap ∧ ((Heap.ext 2 H).put H.size (.cells 3 false [(Value.int .i64 (x))])).get o = some (.cells e false cs) ∧ off + cap ≤ cs.length ∧
      (∀ i, i < l.length → cs[off + i]? = some (Value.int .i64 (g l i))) ∧ (o ∈ fp ∧ o ≠ q) := by
    rcases Q.ls with ls | ⟨o, off, m, cap, e, cs, h1, h2, h3, h4, h5, h6, h7, h8⟩
    · exact .inl ls
    · have := Q.lal _ (Q.sub _ h7)
      exact .inr ⟨o, off, m, cap, e, cs, h1, h2, h3, by rw [Heap.get_put, if_neg (by omega), ext_old this]; exact h4, h5, h6, h7, h8⟩
  obtain ⟨X', lv', a1, a2, a3, a4, ⟨o, off, m, cap, e, cs, b1, b2, b3, b4, b5, b6, b7⟩, a6⟩ := append_one (P := fun o => o ∈ fp ∧ o ≠ q) ls' (b := H.size) (id := H.size + 1) (x := x) (by rw [Heap.get_put, if_pos rfl]) (by rw [Heap.get_put, if_neg (by omega), ext_new (by omega)]) (by omega)
  have hq' : X'.get q = H.get q := by rw [a6 q (fun c => c.2 rfl) (by omega), Heap.get_put, if_neg (by omega), ext_old lq]
  have onq : o ≠ q := by
    rcases b7 with c | c
    · exact c.2
    · omega
  have szX : X'.size = H.size + 2 := by rw [a2, Heap.size_put, Heap.size_ext]
  have np := fun oo => new_pend (o := oo) (ext_new0 (n := 2) (H := H) (by omega))
  have qE : (Heap.ext 2 H).get q = some (.cells 48 false [.bool true, .bool rk, (Value.int .i64 ((N : Nat))), rv, lv]) := by rw [ext_old lq]; exact qo
  rw [qo] at hq'
  have nq : ¬ H.size = q := by omega
  have hFr : ∀ i, i < H.size → i ∉ fp → (X'.put q (.cells 48 false [.bool true, .bool rk, (Value.int .i64 ((N : Nat))), rv, lv'])).get i = H.get i := fun i hi hn => by
    rw [Heap.get_put, if_neg (fun c : q = i => hn (c ▸ Q.qf)), a6 i (fun c => hn c.1) (by omega), Heap.get_put, if_neg (by omega), ext_old hi]
  refine ⟨X'.put q (.cells 48 false [.bool true, .bool rk, (Value.int .i64 ((N : Nat))), rv, lv']), (H.size + 1) :: al, ?eq, ⟨(H.size + 1) :: fp, lv', rv, rk, ?_, .inr ⟨o, off, m, cap, e, cs, b1, b2, b3, ?_, b5, b6, ?_, onq⟩, List.mem_cons_of_mem _ Q.qf, fun y hy => ?_, fun y hy => ?_, fun y hy => ?_, ?_⟩, ⟨by rw [Heap.size_put, szX]; omega, fun i hi hn => hFr i hi (fun c => hn (Q.sub i c))⟩, fun y hy => ?_⟩
  case eq =>
    repeat ((first | rw [evSeq_go] | rw [evSeq_none] | rw [evSeq_guard] | rw [evC_region] | rw [evC_seq] | rw [evC_cond] | rw [evC_block]); try simp only [undef, Array.size_empty, evSeq_nil, isCall_mv, isCall_pick, isCall_alloc, isCall_box, isCall_build, isCall_bslice, isCall_load, isCall_store, isCall_nilchk, isCall_bin, isCall_un, isCall_conv, isCall_mkfn, isCall_mkslice, isCall_slice, isCall_strslice, isCall_faddr, isCall_field, isCall_iaddr, isCall_aaddr, isCall_aindex, isCall_strindex, isCall_ext, isCall_len, isCall_strlen, isCall_const, isCall_append, isCall_minmax, isCall_copy, isCall_call, evI, Opd.ev, rd_set, rd_nil, cond_true, cond_false, Nat.reduceEqDiff, Nat.reduceAdd, Nat.reduceMul, Nat.add_zero, Nat.zero_add, Nat.mul_one, if_true, if_false, reduceIte, binV, intBin, eqBy, Abs.ptrEq, Abs.slcEq, Abs.fncEq, leafEq, unV, Option.map_some, Option.map_none, Option.isNone_none, Option.isNone_some, Bool.not_true, Bool.not_false, beq_self_eq_true, List.getElem?_cons_zero, List.getElem?_cons_succ, evRes, packRes, List.map_cons, List.map_nil, Heap.loadv, Bool.false_eq_true, List.getElem?_toArray, decide_true, decide_false, List.append_nil, List.nil_append, List.cons_append, List.toList_toArray, Bool.beq_eq_decide_eq, reduceCtorEq, Heap.storev, cells_int, cells_bool, cells_string, cells_pointer, cells_slice, cells_func, cells_nilFunc, cells_agg, ok_int, ok_bool, ok_string, ok_pointer, ok_slice, ok_func, ok_nilFunc, ok_agg, size_one, toList_one, Heap.get_put, Heap.size_put, Heap.size_ext, iaddrV, true_and, and_true, eq_self, evC_skip, evC_exit, evC_ret, ext_zero, Option.map_map, Function.comp_def, List.size_toArray, List.length_cons, List.length_nil, not_true_eq_false, not_false_eq_true, ne_eq, qo, h0, h1, hhas, toList_nil, parts_one, fill_one, np, qE, nq, a1, a3, a4, hq', set5_4, Nat.reduceLeDiff])
  · rw [Heap.get_put, if_pos rfl]
  · rw [Heap.get_put, if_neg (fun c => onq c.symm)]; exact b4
  · rcases b7 with c | c
    · exact List.mem_cons_of_mem _ c.1
    · rw [c]; exact List.mem_cons_self ..
  · rcases List.mem_cons.1 hy with rfl | hy
    · exact List.mem_cons_self ..
    · exact List.mem_cons_of_mem _ (Q.sub y hy)
  · rw [Heap.size_put, szX]
    rcases List.mem_cons.1 hy with rfl | hy
    · omega
    · have := Q.lal y hy; omega
  · rcases List.mem_append.1 hy with hy | hy
    · exact Q.inn y hy
    · rw [List.mem_singleton.1 hy]; omega
  · cases ro with
    | none => exact Q.rks
    | some r =>
      obtain ⟨h1, h2, o2, h3, h4, h5⟩ := Q.rks
      have := Q.lal _ h3
      refine ⟨h1, h2, o2, List.mem_cons_of_mem _ h3, fun c => ?_, h5.fr (hFr o2 this h4)⟩
      rcases List.mem_cons.1 c with c | c
      · omega
      · exact h4 c
  · rcases List.mem_cons.1 hy with rfl | hy
    · exact .inr (by omega)
    · exact .inl hy

end Go.Proofs.Ytmgkdnncjapejaa.Ab
