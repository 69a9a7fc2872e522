/- A part of the proof that the law answers true at every input: the text W05X; no conditions. -/
import Derived.Test.YtmgkdnncjapejaaW05W
set_option linter.unusedSimpArgs false
set_option linter.unusedVariables false
namespace Go.Proofs.Ytmgkdnncjapejaa.Ab
open Go Go.Proofs.Ytmgkdnncjapejaa.Abs Go.Proofs.Ytmgkdnncjapejaa.Abs.W05
set_option maxRecDepth 100000

def pushOk (N : Nat) (l : List Int) (x : Int) : Bool := decide (0 ≤ x) && (decide (x < N) && decide (x ∉ l))

theorem set4_2 (a b c d v : Value) : setRange [a, b, c, d] 2 [v] = [a, b, v, d] := rfl
theorem lss_of {a b : Int} (h : ¬ a ≥ b) : a < b := by omega

theorem push_ev {H : Abs.Heap} {al : List Nat} {q : Nat} {l : List Int} {ro : Option (List Int)} {N : Nat} (Q : QS H al q l ro N) (x : Int) (hsmall : l.length < 99999) {k : Nat} (hk : l.length + 5 ≤ k) :
    ∃ H' al' l', evF Γ ov k 14 [.pointer (some ⟨q, 0, none⟩), (Value.int .i64 (x))] H = some (.bool (pushOk N l x), H') ∧ QS H' al' q l' ro N ∧ Fr al H H' ∧ Grow H al al' ∧
      (pushOk N l x = false → l' = l) ∧ (pushOk N l x = true → l'.Perm (l ++ [x]) ∧ (ro = none → l' = l ++ [x])) := by
  obtain ⟨k, rfl⟩ : ∃ j, k = j + 2 := ⟨k - 2, by omega⟩
  obtain ⟨fp, h, hs, lv, fv, Q⟩ := Q
  have qo := Q.qm.qo
  have ho := Q.qm.ho
  have hok := ok_ev qo k
  have hn := Q.hn
  have QQ : QS H al q l ro N := ⟨fp, h, hs, lv, fv, Q⟩
  rw [evF, ov_ne 14 _ _ (by decide)]
  simp only [evB, Γ, i14, Tr.ofList]
  by_cases h0 : x < 0
  · have hf : pushOk N l x = false := by simp [pushOk]; omega
    refine ⟨H, al, l, ?_, QQ, Fr.refl _ _, Grow.refl _ _, fun _ => rfl, fun c => by rw [hf] at c; cases c⟩
    rw [hf]
    repeat ((first | rw [evSeq_go] | rw [evSeq_none] | rw [evSeq_guard] | rw [evC_region] | rw [evC_seq] | rw [evC_cond] | rw [evC_block]); try simp only [undef, Array.size_empty, evSeq_nil, isCall_mv, isCall_pick, isCall_alloc, isCall_box, isCall_build, isCall_bslice, isCall_load, isCall_store, isCall_nilchk, isCall_bin, isCall_un, isCall_conv, isCall_mkfn, isCall_mkslice, isCall_slice, isCall_strslice, isCall_faddr, isCall_field, isCall_iaddr, isCall_aaddr, isCall_aindex, isCall_strindex, isCall_ext, isCall_len, isCall_strlen, isCall_const, isCall_append, isCall_minmax, isCall_copy, isCall_call, evI, Opd.ev, rd_set, rd_nil, cond_true, cond_false, Nat.reduceEqDiff, Nat.reduceAdd, Nat.reduceMul, Nat.add_zero, Nat.zero_add, Nat.mul_one, if_true, if_false, reduceIte, binV, intBin, eqBy, Abs.ptrEq, Abs.slcEq, Abs.fncEq, leafEq, unV, Option.map_some, Option.map_none, Option.isNone_none, Option.isNone_some, Bool.not_true, Bool.not_false, beq_self_eq_true, List.getElem?_cons_zero, List.getElem?_cons_succ, evRes, packRes, List.map_cons, List.map_nil, Heap.loadv, Bool.false_eq_true, List.getElem?_toArray, decide_true, decide_false, List.append_nil, List.nil_append, List.cons_append, List.toList_toArray, Bool.beq_eq_decide_eq, reduceCtorEq, Heap.storev, cells_int, cells_bool, cells_string, cells_pointer, cells_slice, cells_func, cells_nilFunc, cells_agg, ok_int, ok_bool, ok_string, ok_pointer, ok_slice, ok_func, ok_nilFunc, ok_agg, size_one, toList_one, Heap.get_put, Heap.size_put, Heap.size_ext, iaddrV, true_and, and_true, eq_self, evC_skip, evC_exit, evC_ret, ext_zero, Option.map_map, Function.comp_def, List.size_toArray, List.length_cons, List.length_nil, not_true_eq_false, not_false_eq_true, ne_eq, qo, hok, h0])
  by_cases h1 : x ≥ (hs.length : Int)
  · have hf : pushOk N l x = false := by simp [pushOk]; omega
    refine ⟨H, al, l, ?_, QQ, Fr.refl _ _, Grow.refl _ _, fun _ => rfl, fun c => by rw [hf] at c; cases c⟩
    rw [hf]
    repeat ((first | rw [evSeq_go] | rw [evSeq_none] | rw [evSeq_guard] | rw [evC_region] | rw [evC_seq] | rw [evC_cond] | rw [evC_block]); try simp only [undef, Array.size_empty, evSeq_nil, isCall_mv, isCall_pick, isCall_alloc, isCall_box, isCall_build, isCall_bslice, isCall_load, isCall_store, isCall_nilchk, isCall_bin, isCall_un, isCall_conv, isCall_mkfn, isCall_mkslice, isCall_slice, isCall_strslice, isCall_faddr, isCall_field, isCall_iaddr, isCall_aaddr, isCall_aindex, isCall_strindex, isCall_ext, isCall_len, isCall_strlen, isCall_const, isCall_append, isCall_minmax, isCall_copy, isCall_call, evI, Opd.ev, rd_set, rd_nil, cond_true, cond_false, Nat.reduceEqDiff, Nat.reduceAdd, Nat.reduceMul, Nat.add_zero, Nat.zero_add, Nat.mul_one, if_true, if_false, reduceIte, binV, intBin, eqBy, Abs.ptrEq, Abs.slcEq, Abs.fncEq, leafEq, unV, Option.map_some, Option.map_none, Option.isNone_none, Option.isNone_some, Bool.not_true, Bool.not_false, beq_self_eq_true, List.getElem?_cons_zero, List.getElem?_cons_succ, evRes, packRes, List.map_cons, List.map_nil, Heap.loadv, Bool.false_eq_true, List.getElem?_toArray, decide_true, decide_false, List.append_nil, List.nil_append, List.cons_append, List.toList_toArray, Bool.beq_eq_decide_eq, reduceCtorEq, Heap.storev, cells_int, cells_bool, cells_string, cells_pointer, cells_slice, cells_func, cells_nilFunc, cells_agg, ok_int, ok_bool, ok_string, ok_pointer, ok_slice, ok_func, ok_nilFunc, ok_agg, size_one, toList_one, Heap.get_put, Heap.size_put, Heap.size_ext, iaddrV, true_and, and_true, eq_self, evC_skip, evC_exit, evC_ret, ext_zero, Option.map_map, Function.comp_def, List.size_toArray, List.length_cons, List.length_nil, not_true_eq_false, not_false_eq_true, ne_eq, qo, hok, h0, h1])
  have h0' : 0 ≤ x := by omega
  have h1' : x < hs.length := by omega
  have hm := has_map (hs := hs) h0' h1'
  have hd : hs.getD x.toNat false = decide (x ∈ l) := by
    have := Q.hl x.toNat (by omega)
    rw [this, Int.toNat_of_nonneg h0']
  by_cases hx : x ∈ l
  · have hf : pushOk N l x = false := by simp [pushOk, hx]
    refine ⟨H, al, l, ?_, QQ, Fr.refl _ _, Grow.refl _ _, fun _ => rfl, fun c => by rw [hf] at c; cases c⟩
    rw [hf]
    rw [hd, decide_eq_true hx] at hm
    repeat ((first | rw [evSeq_go] | rw [evSeq_none] | rw [evSeq_guard] | rw [evC_region] | rw [evC_seq] | rw [evC_cond] | rw [evC_block]); try simp only [undef, Array.size_empty, evSeq_nil, isCall_mv, isCall_pick, isCall_alloc, isCall_box, isCall_build, isCall_bslice, isCall_load, isCall_store, isCall_nilchk, isCall_bin, isCall_un, isCall_conv, isCall_mkfn, isCall_mkslice, isCall_slice, isCall_strslice, isCall_faddr, isCall_field, isCall_iaddr, isCall_aaddr, isCall_aindex, isCall_strindex, isCall_ext, isCall_len, isCall_strlen, isCall_const, isCall_append, isCall_minmax, isCall_copy, isCall_call, evI, Opd.ev, rd_set, rd_nil, cond_true, cond_false, Nat.reduceEqDiff, Nat.reduceAdd, Nat.reduceMul, Nat.add_zero, Nat.zero_add, Nat.mul_one, if_true, if_false, reduceIte, binV, intBin, eqBy, Abs.ptrEq, Abs.slcEq, Abs.fncEq, leafEq, unV, Option.map_some, Option.map_none, Option.isNone_none, Option.isNone_some, Bool.not_true, Bool.not_false, beq_self_eq_true, List.getElem?_cons_zero, List.getElem?_cons_succ, evRes, packRes, List.map_cons, List.map_nil, Heap.loadv, Bool.false_eq_true, List.getElem?_toArray, decide_true, decide_false, List.append_nil, List.nil_append, List.cons_append, List.toList_toArray, Bool.beq_eq_decide_eq, reduceCtorEq, Heap.storev, cells_int, cells_bool, cells_string, cells_pointer, cells_slice, cells_func, cells_nilFunc, cells_agg, ok_int, ok_bool, ok_string, ok_pointer, ok_slice, ok_func, ok_nilFunc, ok_agg, size_one, toList_one, Heap.get_put, Heap.size_put, Heap.size_ext, iaddrV, true_and, and_true, eq_self, evC_skip, evC_exit, evC_ret, ext_zero, Option.map_map, Function.comp_def, List.size_toArray, List.length_cons, List.length_nil, not_true_eq_false, not_false_eq_true, ne_eq, qo, ho, hok, h0, h1, h0', h1', hm])
  rw [hd, decide_eq_false hx] at hm
  have ht : pushOk N l x = true := by simp [pushOk, hx]; omega
  obtain ⟨X', lv', b, cp, p1, p2, p3, p4, p5, p6, p7⟩ := qm_push Q.qm h0' h1' (by omega) rfl rfl
  have qX : (Heap.put (Heap.ext 2 (H.put h (.cells 4 false (setRange (hs.map Value.bool) x.toNat [.bool true])))) H.size (.cells 3 false [(Value.int .i64 (x))])).get q = H.get q := by
    have a := Q.qm.lt _ Q.qm.qf
    rw [Heap.get_put, if_neg (by omega), ext_old (by rw [Heap.size_put]; exact a), Heap.get_put, if_neg (fun e => Q.qm.qh e.symm)]
  have qE : (Heap.ext 2 (H.put h (.cells 4 false (setRange (hs.map Value.bool) x.toNat [.bool true])))).get q = H.get q := by
    have a := Q.qm.lt _ Q.qm.qf
    rw [ext_old (by rw [Heap.size_put]; exact a), Heap.get_put, if_neg (fun e => Q.qm.qh e.symm)]
  have qP : (H.put h (.cells 4 false (setRange (hs.map Value.bool) x.toNat [.bool true]))).get q = H.get q := by
    rw [Heap.get_put, if_neg (fun e => Q.qm.qh e.symm)]
  have nE : (Heap.ext 2 (H.put h (.cells 4 false (setRange (hs.map Value.bool) x.toNat [.bool true])))).get H.size = some .pend := by
    have := ext_new0 (n := 2) (H := H.put h (.cells 4 false (setRange (hs.map Value.bool) x.toNat [.bool true]))) (by omega)
    rw [Heap.size_put] at this
    exact this
  rw [Heap.size_put] at p1
  have s1 : x.toNat + 1 ≤ (hs.map Value.bool).length := by simp; omega
  have hnp := new_pend (o := .cells 3 false [(Value.int .i64 (x))]) nE
  have qh : ¬ h = q := fun e => Q.qm.qh e.symm
  rw [qo] at qX qE qP p5
  have nq : ¬ H.size = q := by have a := Q.qm.lt _ Q.qm.qf; omega
  have pq1 : ∀ y ∈ (H.size + 1) :: fp, y ∈ (H.size + 1) :: al := fun y hy => by
    rcases List.mem_cons.1 hy with rfl | hy
    · exact List.mem_cons_self ..
    · exact List.mem_cons_of_mem _ (Q.sub y hy)
  have pF : Fr al H (X'.put q (.cells 43 false (setRange [.bool true, .slice (some ⟨h, 0, some 3⟩) hs.length hs.length, lv, fv] 2 [lv']))) := ⟨p7.1, fun id h1 h2 => p7.2 id h1 (fun c => h2 (Q.sub id c))⟩
  have pq2 : ∀ y ∈ (H.size + 1) :: al, y < (X'.put q (.cells 43 false (setRange [.bool true, .slice (some ⟨h, 0, some 3⟩) hs.length hs.length, lv, fv] 2 [lv']))).size := fun y hy => by
    rcases List.mem_cons.1 hy with rfl | hy
    · exact p6.lt _ (List.mem_cons_self ..)
    · exact Nat.lt_of_lt_of_le (Q.lal y hy) p7.1
  have pG : Grow H al ((H.size + 1) :: al) := fun y hy => by
    rcases List.mem_cons.1 hy with rfl | hy
    · exact .inr (by omega)
    · exact .inl hy
  have pq3 : ∀ y ∈ l ++ [x], 0 ≤ y ∧ y < (N : Int) := fun y hy => by
    rcases List.mem_append.1 hy with hy | hy
    · exact Q.inn y hy
    · rw [List.mem_singleton.1 hy]; omega
  have pq4 : (l ++ [x]).Nodup := by
    rw [List.nodup_append]
    exact ⟨Q.nd, by simp, fun a ha b hb e => hx (by rw [List.mem_singleton.1 hb] at e; rw [← e]; exact ha)⟩
  have pq5 : ∀ i, i < N → (hs.set x.toNat true).getD i false = decide ((i : Int) ∈ l ++ [x]) := fun i hi => by
    have a := Q.hl i hi
    by_cases e : x.toNat = i
    · have e2 : (i : Int) = x := by omega
      have : i < hs.length := by omega
      have lt : x.toNat < hs.length := by omega
      rw [e2, ← e]; simp [List.getElem?_set, lt]
    · have e2 : ¬ (i : Int) = x := by omega
      simp [List.getElem?_set, e, e2]
      simpa using a
  cases ro with
  | none =>
    have hfv : fv = .nilFunc := Q.rk
    subst hfv
    refine ⟨X'.put q (.cells 43 false (setRange [.bool true, .slice (some ⟨h, 0, some 3⟩) hs.length hs.length, lv, .nilFunc] 2 [lv'])), (H.size + 1) :: al, l ++ [x], ?eq, ?_, ?_, ?_, fun c => (by rw [ht] at c; cases c), fun _ => ⟨List.Perm.refl _, fun _ => rfl⟩⟩
    case eq =>
      rw [ht]
      repeat ((first | rw [evSeq_go] | rw [evSeq_none] | rw [evSeq_guard] | rw [evC_region] | rw [evC_seq] | rw [evC_cond] | rw [evC_block]); try simp only [undef, Array.size_empty, evSeq_nil, isCall_mv, isCall_pick, isCall_alloc, isCall_box, isCall_build, isCall_bslice, isCall_load, isCall_store, isCall_nilchk, isCall_bin, isCall_un, isCall_conv, isCall_mkfn, isCall_mkslice, isCall_slice, isCall_strslice, isCall_faddr, isCall_field, isCall_iaddr, isCall_aaddr, isCall_aindex, isCall_strindex, isCall_ext, isCall_len, isCall_strlen, isCall_const, isCall_append, isCall_minmax, isCall_copy, isCall_call, evI, Opd.ev, rd_set, rd_nil, cond_true, cond_false, Nat.reduceEqDiff, Nat.reduceAdd, Nat.reduceMul, Nat.add_zero, Nat.zero_add, Nat.mul_one, if_true, if_false, reduceIte, binV, intBin, eqBy, Abs.ptrEq, Abs.slcEq, Abs.fncEq, leafEq, unV, Option.map_some, Option.map_none, Option.isNone_none, Option.isNone_some, Bool.not_true, Bool.not_false, beq_self_eq_true, List.getElem?_cons_zero, List.getElem?_cons_succ, evRes, packRes, List.map_cons, List.map_nil, Heap.loadv, Bool.false_eq_true, List.getElem?_toArray, decide_true, decide_false, List.append_nil, List.nil_append, List.cons_append, List.toList_toArray, Bool.beq_eq_decide_eq, reduceCtorEq, Heap.storev, cells_int, cells_bool, cells_string, cells_pointer, cells_slice, cells_func, cells_nilFunc, cells_agg, ok_int, ok_bool, ok_string, ok_pointer, ok_slice, ok_func, ok_nilFunc, ok_agg, size_one, toList_one, Heap.get_put, Heap.size_put, Heap.size_ext, iaddrV, true_and, and_true, eq_self, evC_skip, evC_exit, evC_ret, ext_zero, Option.map_map, Function.comp_def, List.size_toArray, List.length_cons, List.length_nil, not_true_eq_false, not_false_eq_true, ne_eq, qo, ho, hok, h0, h1, h0', h1', hm, s1, qh, nq, qE, parts_one, fill_one, hnp, p1, p2, p3, p5, Nat.reduceLeDiff, set4_2])
    · exact ⟨(H.size + 1) :: fp, h, hs.set x.toNat true, lv', .nilFunc, p6, pq1, pq2, by rw [List.length_set]; exact hn, pq3, pq4, pq5, rfl⟩
    · exact pF
    · exact pG
  | some r =>
    obtain ⟨hr, hH, pp, oo, r1, r2, r3, r4, r5⟩ := Q.rk
    have hfv : fv = .func (.func 24) #[] #[.pointer (some ⟨pp, 0, none⟩)] := r5.1
    have lp := Q.lal _ r1
    have lo := Q.lal _ r2
    have hL : LessAt (X'.put q (.cells 43 false (setRange [.bool true, .slice (some ⟨h, 0, some 3⟩) hs.length hs.length, lv, fv] 2 [lv']))) fv r ((H.size + 1) :: fp) := by
      refine LessG.at (p := pp) (o := oo) ?_ ?_ ?_ ?_ ?_
      · exact r5.fr (p7.2 pp lp r3) (p7.2 oo lo r4)
      · exact Nat.lt_of_lt_of_le lp p7.1
      · exact Nat.lt_of_lt_of_le lo p7.1
      · intro c
        rcases List.mem_cons.1 c with c | c
        · omega
        · exact r3 c
      · intro c
        rcases List.mem_cons.1 c with c | c
        · omega
        · exact r4 c
    have hllen : (l ++ [x]).length = l.length + 1 := by simp
    have hwl : IntKind.i64.wrap (((l ++ [x]).length : Nat) - 1 : Int) = (l.length : Nat) := by
      rw [hllen, wrap_in (by omega) (by omega)]; omega
    obtain ⟨H4, l', u1, u2, u3, u4, u5⟩ := up_ev p6 hL (fun y hy => by rw [hr]; exact pq3 y hy) (i := l.length) (by omega) (up_start hH x) (by omega) (k := k) (by omega)
    have pm : ∀ y, y ∈ l' ↔ y ∈ l ++ [x] := fun y => u4.mem_iff
    refine ⟨H4, (H.size + 1) :: al, l', ?eq, ?_, ?_, pG, fun c => (by rw [ht] at c; cases c), fun _ => ⟨u4, fun c => by cases c⟩⟩
    case eq =>
      rw [ht]
      simp only [set4_2] at u1
      subst hfv
      subst p4
      repeat ((first | rw [evSeq_go] | rw [evSeq_none] | rw [evSeq_guard] | rw [evC_region] | rw [evC_seq] | rw [evC_cond] | rw [evC_block]); try simp only [undef, Array.size_empty, evSeq_nil, isCall_mv, isCall_pick, isCall_alloc, isCall_box, isCall_build, isCall_bslice, isCall_load, isCall_store, isCall_nilchk, isCall_bin, isCall_un, isCall_conv, isCall_mkfn, isCall_mkslice, isCall_slice, isCall_strslice, isCall_faddr, isCall_field, isCall_iaddr, isCall_aaddr, isCall_aindex, isCall_strindex, isCall_ext, isCall_len, isCall_strlen, isCall_const, isCall_append, isCall_minmax, isCall_copy, isCall_call, evI, Opd.ev, rd_set, rd_nil, cond_true, cond_false, Nat.reduceEqDiff, Nat.reduceAdd, Nat.reduceMul, Nat.add_zero, Nat.zero_add, Nat.mul_one, if_true, if_false, reduceIte, binV, intBin, eqBy, Abs.ptrEq, Abs.slcEq, Abs.fncEq, leafEq, unV, Option.map_some, Option.map_none, Option.isNone_none, Option.isNone_some, Bool.not_true, Bool.not_false, beq_self_eq_true, List.getElem?_cons_zero, List.getElem?_cons_succ, evRes, packRes, List.map_cons, List.map_nil, Heap.loadv, Bool.false_eq_true, List.getElem?_toArray, decide_true, decide_false, List.append_nil, List.nil_append, List.cons_append, List.toList_toArray, Bool.beq_eq_decide_eq, reduceCtorEq, Heap.storev, cells_int, cells_bool, cells_string, cells_pointer, cells_slice, cells_func, cells_nilFunc, cells_agg, ok_int, ok_bool, ok_string, ok_pointer, ok_slice, ok_func, ok_nilFunc, ok_agg, size_one, toList_one, Heap.get_put, Heap.size_put, Heap.size_ext, iaddrV, true_and, and_true, eq_self, evC_skip, evC_exit, evC_ret, ext_zero, Option.map_map, Function.comp_def, List.size_toArray, List.length_cons, List.length_nil, not_true_eq_false, not_false_eq_true, ne_eq, qo, ho, hok, h0, h1, h0', h1', hm, s1, qh, nq, qE, parts_one, fill_one, hnp, p1, p2, p3, p5, Nat.reduceLeDiff, set4_2, hwl, u1])
    · refine ⟨(H.size + 1) :: fp, h, hs.set x.toNat true, lv', fv, u2, pq1, fun y hy => Nat.lt_of_lt_of_le (pq2 y hy) u3.1, by rw [List.length_set]; exact hn, fun y hy => pq3 y ((pm y).1 hy), u4.nodup_iff.2 pq4, fun i hi => by rw [pq5 i hi]; simp only [pm], hr, u5, pp, oo, List.mem_cons_of_mem _ r1, List.mem_cons_of_mem _ r2, ?_, ?_, ?_⟩
      · intro c
        rcases List.mem_cons.1 c with c | c
        · omega
        · exact r3 c
      · intro c
        rcases List.mem_cons.1 c with c | c
        · omega
        · exact r4 c
      · refine (r5.fr (p7.2 pp lp r3) (p7.2 oo lo r4)).fr ?_ ?_
        · refine u3.2 pp (Nat.lt_of_lt_of_le lp p7.1) (fun c => ?_)
          rcases List.mem_cons.1 c with c | c
          · change _ = H.size + 1 at c; omega
          · exact r3 c
        · refine u3.2 oo (Nat.lt_of_lt_of_le lo p7.1) (fun c => ?_)
          rcases List.mem_cons.1 c with c | c
          · change _ = H.size + 1 at c; omega
          · exact r4 c
    · refine ⟨Nat.le_trans pF.1 u3.1, fun id h1 h2 => (u3.2 id (Nat.lt_of_lt_of_le h1 pF.1) (fun c => ?_)).trans (pF.2 id h1 h2)⟩
      rcases List.mem_cons.1 c with c | c
      · change _ = H.size + 1 at c; omega
      · exact h2 (Q.sub id c)

end Go.Proofs.Ytmgkdnncjapejaa.Ab
