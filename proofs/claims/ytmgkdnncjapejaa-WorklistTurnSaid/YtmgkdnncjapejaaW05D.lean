/- A part of the proof that the law answers true at every input: the text W05D; no conditions. -/
import Derived.Test.YtmgkdnncjapejaaW05C
set_option linter.unusedSimpArgs false
set_option linter.unusedVariables false
namespace Go.Proofs.Ytmgkdnncjapejaa.Ab
open Go Go.Proofs.Ytmgkdnncjapejaa.Abs Go.Proofs.Ytmgkdnncjapejaa.Abs.W05
set_option maxRecDepth 100000
set_option maxHeartbeats 4000000

/-- A slice of integers of our own, whose object is among wf. -/
def WS (X : Abs.Heap) (v : Value) (l : List Int) (wf : List Nat) : Prop :=
  (v = .slice none 0 0 ∧ l = []) ∨ ∃ o off m cap e cs, v = .slice (some ⟨o, off, some m⟩) l.length cap ∧ (m = 2 ∨ m = 3) ∧ l.length ≤ cap ∧ X.get o = some (.cells e false cs) ∧ off + cap ≤ cs.length ∧ (∀ i, i < l.length → cs[off + i]? = some (Value.int .i64 (g l i))) ∧ o ∈ wf
theorem WS.fr {X Y : Abs.Heap} {v : Value} {l : List Int} {wf : List Nat} (h : WS X v l wf) (he : ∀ x ∈ wf, Y.get x = X.get x) : WS Y v l wf := by
  rcases h with h | ⟨o, off, m, cap, e, cs, h1, h2, h3, h4, h5, h6, h7⟩
  · exact .inl h
  · exact .inr ⟨o, off, m, cap, e, cs, h1, h2, h3, by rw [he _ h7]; exact h4, h5, h6, h7⟩
theorem WS.lvl {X : Abs.Heap} {v : Value} {l : List Int} {wf : List Nat} (h : WS X v l wf) : ∃ a cap, v = .slice a l.length cap := by
  rcases h with ⟨h, rfl⟩ | ⟨o, off, m, cap, e, cs, h, _⟩
  · exact ⟨none, 0, h⟩
  · exact ⟨_, cap, h⟩

/-- What the first loop keeps. -/
structure TI (H0 X : Abs.Heap) (al wf : List Nat) (q N : Nat) (lq : List Int) (vw : Value) : Prop where
  qs : QS X al q lq none N
  ws : WS X vw lq wf
  dis : ∀ x ∈ al, x ∉ wf
  fr : Fr [] H0 X
  a0 : ∀ x ∈ al, H0.size ≤ x
  w0 : ∀ x ∈ wf, H0.size ≤ x ∧ x < X.size

theorem turn_step {H0 X : Abs.Heap} {al wf : List Nat} {q N : Nat} {lq l : List Int} {vw vl : Value} (hA : RdA H0 vl l) (hn : l.length ≤ 1000) (I : TI H0 X al wf q N lq vw) {i : Nat} (hi : i < l.length) (hlq : lq.length ≤ i) {k n : Nat} (hk : 2000 ≤ k) {T : Tr Value} {v0 : Value}
    (t0 : rd T 0 = v0) (t5 : rd T 5 = .pointer (some ⟨q, 0, none⟩)) (t6 : rd T 6 = vw) (t22 : rd T 22 = vl) (t23 : rd T 23 = (Value.int .i64 ((l.length : Nat)))) (t24 : rd T 24 = (Value.int .i64 (i))) :
    ∃ T' X' al' wf' lq' vw', evC (evF Γ ov k) n i6l0 T X = some (.normal, T', X') ∧ TI H0 X' al' wf' q N lq' vw' ∧ lq'.length ≤ i + 1 ∧ rd T' 0 = v0 ∧ rd T' 5 = .pointer (some ⟨q, 0, none⟩) ∧ rd T' 6 = vw' ∧ rd T' 22 = vl ∧ rd T' 23 = (Value.int .i64 ((l.length : Nat))) ∧ rd T' 24 = (Value.int .i64 ((i + 1 : Nat))) := by
  obtain ⟨Q, W, dis, hF, ha, hw⟩ := I
  have d' : (i : Int) < (l.length : Nat) := by omega
  have w : IntKind.i64.wrap ((i : Int) + 1) = ((i + 1 : Nat) : Int) := by rw [wrap_in (by omega) (by omega)]; omega
  obtain ⟨o, off, mk, cap, e, r, cs, hv, ho, hol, hcs⟩ := hA.read hi
  have hoX : X.get o = some (.cells e r cs) := by rw [hF.2 o hol (by simp)]; exact ho
  have c1 := hcs i hi
  obtain ⟨H1, al', lq', p1, p2, p3, p4, p5, p6⟩ := push_ev Q (g l i) (by omega) (k := k) (by omega)
  have hF' : Fr [] H0 H1 := ⟨Nat.le_trans hF.1 p3.1, fun id h1 h2 => by rw [p3.2 id (Nat.lt_of_lt_of_le h1 hF.1) (fun c => by have := ha _ c; omega)]; exact hF.2 id h1 h2⟩
  have ha' : ∀ x ∈ al', H0.size ≤ x := fun x hx => by
    rcases p4 x hx with c | c
    · exact ha x c
    · have := hF.1; omega
  have dis' : ∀ x ∈ al', x ∉ wf := fun x hx c => by
    rcases p4 x hx with d | d
    · exact dis x d c
    · have := (hw x c).2; omega
  have W1 : WS H1 vw lq wf := W.fr fun x hx => p3.2 x (hw x hx).2 (fun c => dis x c hx)
  subst hv
  cases hb : pushOk N lq (g l i) with
  | false =>
    rw [hb] at p1
    refine ⟨?_, H1, al', wf, lq, vw, ?eq, ⟨?_, W1, dis', hF', ha', fun x hx => ⟨(hw x hx).1, Nat.lt_of_lt_of_le (hw x hx).2 p3.1⟩⟩, by omega, ?_, ?_, ?_, ?_, ?_, ?_⟩
    case eq =>
      unfold i6l0
      repeat ((first | rw [evSeq_go] | rw [evSeq_none] | rw [evSeq_guard] | rw [evC_region] | rw [evC_seq] | rw [evC_cond] | rw [evC_block]); try simp only [undef, Array.size_empty, evSeq_nil, isCall_mv, isCall_pick, isCall_alloc, isCall_box, isCall_build, isCall_bslice, isCall_load, isCall_store, isCall_nilchk, isCall_bin, isCall_un, isCall_conv, isCall_mkfn, isCall_mkslice, isCall_slice, isCall_strslice, isCall_faddr, isCall_field, isCall_iaddr, isCall_aaddr, isCall_aindex, isCall_strindex, isCall_ext, isCall_len, isCall_strlen, isCall_const, isCall_append, isCall_minmax, isCall_copy, isCall_call, evI, Opd.ev, rd_set, rd_nil, cond_true, cond_false, Nat.reduceEqDiff, Nat.reduceAdd, Nat.reduceMul, Nat.add_zero, Nat.zero_add, Nat.mul_one, if_true, if_false, reduceIte, binV, intBin, eqBy, Abs.ptrEq, Abs.slcEq, Abs.fncEq, leafEq, unV, Option.map_some, Option.map_none, Option.isNone_none, Option.isNone_some, Bool.not_true, Bool.not_false, beq_self_eq_true, List.getElem?_cons_zero, List.getElem?_cons_succ, evRes, packRes, List.map_cons, List.map_nil, Heap.loadv, Bool.false_eq_true, List.getElem?_toArray, decide_true, decide_false, List.append_nil, List.nil_append, List.cons_append, List.toList_toArray, Bool.beq_eq_decide_eq, reduceCtorEq, Heap.storev, cells_int, cells_bool, cells_string, cells_pointer, cells_slice, cells_func, cells_nilFunc, cells_agg, ok_int, ok_bool, ok_string, ok_pointer, ok_slice, ok_func, ok_nilFunc, ok_agg, size_one, toList_one, Heap.get_put, Heap.size_put, Heap.size_ext, iaddrV, true_and, and_true, eq_self, evC_skip, evC_exit, evC_ret, ext_zero, Option.map_map, Function.comp_def, List.size_toArray, List.length_cons, List.length_nil, not_true_eq_false, not_false_eq_true, ne_eq, t5, t6, t22, t23, t24, d', hoX, Int.natCast_nonneg, Int.toNat_natCast, c1, p1, w, toList_nil])
      rfl
    · rw [p5 hb] at p2; exact p2
    all_goals simp only [rd_set, Nat.reduceEqDiff, if_false, if_true, t0, t5, t6, t22, t23, t24]
  | true =>
    rw [hb] at p1
    rw [(p6 hb).2 rfl] at p2
    have ls' : (vw = .slice none 0 0 ∧ lq = []) ∨ ∃ o off m cap e cs, vw = .slice (some ⟨o, off, some m⟩) lq.length cap ∧ (m = 2 ∨ m = 3) ∧ lq.length ≤ cap ∧ ((Heap.ext 2 H1).put H1.size (.cells 3 false [(Value.int .i64 (g l i))])).get o = some (.cells e false cs) ∧ off + cap ≤ cs.length ∧
        (∀ i, i < lq.length → cs[off + i]? = some (Value.int .i64 (g lq i))) ∧ o ∈ wf := by
      rcases W1 with W1 | ⟨o, off, m, cap, e, cs, h1, h2, h3, h4, h5, h6, h7⟩
      · exact .inl W1
      · have := (hw o h7).2
        have := p3.1
        exact .inr ⟨o, off, m, cap, e, cs, h1, h2, h3, by rw [Heap.get_put, if_neg (by omega), ext_old (by omega)]; exact h4, h5, h6, h7⟩
    obtain ⟨X2, vw', a1, a2, a3, a4, ⟨o2, off2, m2, cap2, e2, cs2, b1, b2, b3, b4, b5, b6, b7⟩, a6⟩ := append_one (P := fun o => o ∈ wf) ls' (b := H1.size) (id := H1.size + 1) (x := g l i) (by rw [Heap.get_put, if_pos rfl]) (by rw [Heap.get_put, if_neg (by omega), ext_new (by omega)]) (by omega)
    have np := fun oo => new_pend (o := oo) (ext_new0 (n := 2) (H := H1) (by omega))
    have sz2 : X2.size = H1.size + 2 := by rw [a2, Heap.size_put, Heap.size_ext]
    have F2 : Fr wf H1 X2 := ⟨by omega, fun id h1 h2 => by rw [a6 id h2 (by omega), Heap.get_put, if_neg (by omega), ext_old h1]⟩
    refine ⟨?_, X2, al', (H1.size + 1) :: wf, lq ++ [g l i], vw', ?eq, ⟨p2.fr F2 dis', .inr ⟨o2, off2, m2, cap2, e2, cs2, b1, b2, b3, b4, b5, b6, ?_⟩, fun x hx c => ?_, ⟨by have := hF'.1; omega, fun id h1 h2 => ?_⟩, ha', fun x hx => ?_⟩, by simp; omega, ?_, ?_, ?_, ?_, ?_, ?_⟩
    case eq =>
      unfold i6l0
      repeat ((first | rw [evSeq_go] | rw [evSeq_none] | rw [evSeq_guard] | rw [evC_region] | rw [evC_seq] | rw [evC_cond] | rw [evC_block]); try simp only [undef, Array.size_empty, evSeq_nil, isCall_mv, isCall_pick, isCall_alloc, isCall_box, isCall_build, isCall_bslice, isCall_load, isCall_store, isCall_nilchk, isCall_bin, isCall_un, isCall_conv, isCall_mkfn, isCall_mkslice, isCall_slice, isCall_strslice, isCall_faddr, isCall_field, isCall_iaddr, isCall_aaddr, isCall_aindex, isCall_strindex, isCall_ext, isCall_len, isCall_strlen, isCall_const, isCall_append, isCall_minmax, isCall_copy, isCall_call, evI, Opd.ev, rd_set, rd_nil, cond_true, cond_false, Nat.reduceEqDiff, Nat.reduceAdd, Nat.reduceMul, Nat.add_zero, Nat.zero_add, Nat.mul_one, if_true, if_false, reduceIte, binV, intBin, eqBy, Abs.ptrEq, Abs.slcEq, Abs.fncEq, leafEq, unV, Option.map_some, Option.map_none, Option.isNone_none, Option.isNone_some, Bool.not_true, Bool.not_false, beq_self_eq_true, List.getElem?_cons_zero, List.getElem?_cons_succ, evRes, packRes, List.map_cons, List.map_nil, Heap.loadv, Bool.false_eq_true, List.getElem?_toArray, decide_true, decide_false, List.append_nil, List.nil_append, List.cons_append, List.toList_toArray, Bool.beq_eq_decide_eq, reduceCtorEq, Heap.storev, cells_int, cells_bool, cells_string, cells_pointer, cells_slice, cells_func, cells_nilFunc, cells_agg, ok_int, ok_bool, ok_string, ok_pointer, ok_slice, ok_func, ok_nilFunc, ok_agg, size_one, toList_one, Heap.get_put, Heap.size_put, Heap.size_ext, iaddrV, true_and, and_true, eq_self, evC_skip, evC_exit, evC_ret, ext_zero, Option.map_map, Function.comp_def, List.size_toArray, List.length_cons, List.length_nil, not_true_eq_false, not_false_eq_true, ne_eq, t5, t6, t22, t23, t24, d', hoX, Int.natCast_nonneg, Int.toNat_natCast, c1, p1, w, toList_nil, parts_one, fill_one, np, a1])
      rfl
    · rcases b7 with c | c
      · exact List.mem_cons_of_mem _ c
      · rw [c]; exact List.mem_cons_self ..
    · rcases List.mem_cons.1 c with c | c
      · have := p2.lal x hx; omega
      · exact dis' x hx c
    · have s1 := hF'.1
      rw [F2.2 id (by omega) (fun c => by have := (hw id c).1; omega)]; exact hF'.2 id h1 h2
    · rcases List.mem_cons.1 hx with rfl | hx
      · have := hF'.1; omega
      · have h1 := (hw x hx); have := p3.1; omega
    all_goals simp only [rd_set, Nat.reduceEqDiff, if_false, if_true, t0, t5, t6, t22, t23, t24]

theorem turn_back {H0 X : Abs.Heap} {al wf : List Nat} {q N : Nat} {lq : List Int} {vw v0 : Value} (I : TI H0 X al wf q N lq vw) (hl : lq.length ≤ 1000) {nn : Int} (h0 : v0 = .int .u8 nn) (hnw : IntKind.i64.wrap nn = (N : Nat)) {k : Nat} (hk : 2000 ≤ k) {T : Tr Value}
    (t0 : rd T 0 = v0) (t5 : rd T 5 = .pointer (some ⟨q, 0, none⟩)) (t36 : rd T 36 = vw) (t37 : rd T 37 = (Value.int .i64 ((lq.length : Nat)))) (t38 : rd T 38 = (Value.int .i64 (0))) :
    ∃ e T' X', evC (evF Γ ov k) k (.loop i6l1) T X = some (e, T', X') ∧ e ≠ .normal ∧ (e = .exit 2 ∧ rd T' 5 = .pointer (some ⟨q, 0, none⟩) ∧ ∃ al', QS X' al' q [] none N) := by
  obtain ⟨Q, W, dis, hF, ha, hw⟩ := I
  refine loop_run (cl := evF Γ ov k) (n := k) (c := i6l1)
    (fun m T X => rd T 0 = v0 ∧ rd T 5 = .pointer (some ⟨q, 0, none⟩) ∧ rd T 36 = vw ∧ rd T 37 = (Value.int .i64 ((lq.length : Nat))) ∧ ∃ i : Nat, rd T 38 = (Value.int .i64 (i)) ∧ m + i = lq.length ∧ QS X al q (lq.drop i) none N ∧ WS X vw lq wf ∧ ∀ x ∈ wf, x < X.size)
    (fun e T X => e = .exit 2 ∧ rd T 5 = .pointer (some ⟨q, 0, none⟩) ∧ ∃ al', QS X al' q [] none N)
    (fun m T X ⟨t0, t5, t36, t37, i, t38, hm, Q, W, hw⟩ => ?_) lq.length T X ⟨t0, t5, t36, t37, 0, t38, by omega, Q, W, fun x hx => (hw x hx).2⟩ (by omega)
  by_cases d : i < lq.length
  · have d' : (i : Int) < (lq.length : Nat) := by omega
    have w : IntKind.i64.wrap ((i : Int) + 1) = ((i + 1 : Nat) : Int) := by rw [wrap_in (by omega) (by omega)]; omega
    rcases W with ⟨_, hz⟩ | ⟨o, off, mk, cap, e, cs, hv, hmk, hcap, ho, hcl, hcs, hof⟩
    · rw [hz] at d; simp at d
    have c1 := hcs i d
    have dl : (lq.drop i).length = lq.length - i := by simp
    have gd : g (lq.drop i) 0 = g lq i := by simp [g, List.getElem?_drop]
    obtain ⟨X', l', p1, p2, p3, p4, p5, _⟩ := pop_ev Q (by omega) (by omega) (k := k) (by omega)
    have hl' : l' = lq.drop (i + 1) := by rw [p5 rfl, List.tail_drop]
    have hin : 0 ≤ g lq i ∧ g lq i < (N : Int) := by
      obtain ⟨fp, h, hs, lv, fv, Q⟩ := Q
      have := Q.inn (g (lq.drop i) 0) (g_mem (by omega))
      rw [gd] at this; exact this
    rw [gd] at p1
    have y1 : ¬ g lq i < 0 := by omega
    have y2 : ¬ g lq i ≥ (N : Int) := by omega
    have W' : WS X' vw lq wf := .inr ⟨o, off, mk, cap, e, cs, hv, hmk, hcap, by rw [p3.2 o (hw o hof) (fun c => dis o c hof)]; exact ho, hcl, hcs, hof⟩
    rw [hl'] at p2
    subst hv h0
    refine ⟨?_, ?eq, ?post⟩
    case eq =>
      unfold i6l1
      repeat ((first | rw [evSeq_go] | rw [evSeq_none] | rw [evSeq_guard] | rw [evC_region] | rw [evC_seq] | rw [evC_cond] | rw [evC_block]); try simp only [undef, Array.size_empty, evSeq_nil, isCall_mv, isCall_pick, isCall_alloc, isCall_box, isCall_build, isCall_bslice, isCall_load, isCall_store, isCall_nilchk, isCall_bin, isCall_un, isCall_conv, isCall_mkfn, isCall_mkslice, isCall_slice, isCall_strslice, isCall_faddr, isCall_field, isCall_iaddr, isCall_aaddr, isCall_aindex, isCall_strindex, isCall_ext, isCall_len, isCall_strlen, isCall_const, isCall_append, isCall_minmax, isCall_copy, isCall_call, evI, Opd.ev, rd_set, rd_nil, cond_true, cond_false, Nat.reduceEqDiff, Nat.reduceAdd, Nat.reduceMul, Nat.add_zero, Nat.zero_add, Nat.mul_one, if_true, if_false, reduceIte, binV, intBin, eqBy, Abs.ptrEq, Abs.slcEq, Abs.fncEq, leafEq, unV, Option.map_some, Option.map_none, Option.isNone_none, Option.isNone_some, Bool.not_true, Bool.not_false, beq_self_eq_true, List.getElem?_cons_zero, List.getElem?_cons_succ, evRes, packRes, List.map_cons, List.map_nil, Heap.loadv, Bool.false_eq_true, List.getElem?_toArray, decide_true, decide_false, List.append_nil, List.nil_append, List.cons_append, List.toList_toArray, Bool.beq_eq_decide_eq, reduceCtorEq, Heap.storev, cells_int, cells_bool, cells_string, cells_pointer, cells_slice, cells_func, cells_nilFunc, cells_agg, ok_int, ok_bool, ok_string, ok_pointer, ok_slice, ok_func, ok_nilFunc, ok_agg, size_one, toList_one, Heap.get_put, Heap.size_put, Heap.size_ext, iaddrV, true_and, and_true, eq_self, evC_skip, evC_exit, evC_ret, ext_zero, Option.map_map, Function.comp_def, List.size_toArray, List.length_cons, List.length_nil, not_true_eq_false, not_false_eq_true, ne_eq, t0, t5, t36, t37, t38, d', ho, Int.natCast_nonneg, Int.toNat_natCast, c1, p1, w, y1, y2, hnw, toList_nil, bne_self_eq_false])
      rfl
    case post =>
      refine ⟨m - 1, by omega, ?_, ?_, ?_, ?_, i + 1, ?_, by omega, p2, W', fun x hx => Nat.lt_of_lt_of_le (hw x hx) p3.1⟩
      all_goals simp only [rd_set, Nat.reduceEqDiff, if_false, if_true, t0, t5, t36, t37, t38]
  · have d' : ¬ (i : Int) < (lq.length : Nat) := by omega
    have hd : lq.drop i = [] := List.drop_eq_nil_of_le (by omega)
    rw [hd] at Q
    refine ⟨?_, ?eq, ?post⟩
    case eq =>
      unfold i6l1
      repeat ((first | rw [evSeq_go] | rw [evSeq_none] | rw [evSeq_guard] | rw [evC_region] | rw [evC_seq] | rw [evC_cond] | rw [evC_block]); try simp only [undef, Array.size_empty, evSeq_nil, isCall_mv, isCall_pick, isCall_alloc, isCall_box, isCall_build, isCall_bslice, isCall_load, isCall_store, isCall_nilchk, isCall_bin, isCall_un, isCall_conv, isCall_mkfn, isCall_mkslice, isCall_slice, isCall_strslice, isCall_faddr, isCall_field, isCall_iaddr, isCall_aaddr, isCall_aindex, isCall_strindex, isCall_ext, isCall_len, isCall_strlen, isCall_const, isCall_append, isCall_minmax, isCall_copy, isCall_call, evI, Opd.ev, rd_set, rd_nil, cond_true, cond_false, Nat.reduceEqDiff, Nat.reduceAdd, Nat.reduceMul, Nat.add_zero, Nat.zero_add, Nat.mul_one, if_true, if_false, reduceIte, binV, intBin, eqBy, Abs.ptrEq, Abs.slcEq, Abs.fncEq, leafEq, unV, Option.map_some, Option.map_none, Option.isNone_none, Option.isNone_some, Bool.not_true, Bool.not_false, beq_self_eq_true, List.getElem?_cons_zero, List.getElem?_cons_succ, evRes, packRes, List.map_cons, List.map_nil, Heap.loadv, Bool.false_eq_true, List.getElem?_toArray, decide_true, decide_false, List.append_nil, List.nil_append, List.cons_append, List.toList_toArray, Bool.beq_eq_decide_eq, reduceCtorEq, Heap.storev, cells_int, cells_bool, cells_string, cells_pointer, cells_slice, cells_func, cells_nilFunc, cells_agg, ok_int, ok_bool, ok_string, ok_pointer, ok_slice, ok_func, ok_nilFunc, ok_agg, size_one, toList_one, Heap.get_put, Heap.size_put, Heap.size_ext, iaddrV, true_and, and_true, eq_self, evC_skip, evC_exit, evC_ret, ext_zero, Option.map_map, Function.comp_def, List.size_toArray, List.length_cons, List.length_nil, not_true_eq_false, not_false_eq_true, ne_eq, t37, t38, d'])
      rfl
    case post => exact ⟨rfl, by simp only [rd_set, Nat.reduceEqDiff, if_false, t5], al, Q⟩

theorem turn_ev {H : Abs.Heap} {vl : Value} {l : List Int} {nn : Int} (hw8 : (Lit.int .u8 nn).wf = true) (hA : RdA H vl l) : ∃ H', evF Γ ov 3000 6 [.int .u8 nn, vl] H = some (.bool true, H') := by
  obtain ⟨a2, cap2, hvl⟩ := hA.lvl
  by_cases hm : l.length > 300
  · have hm' : ((l.length : Nat) : Int) > 300 := by omega
    have hw : evF Γ ov 2999 8 [] H = _ := works_ev H 2998
    subst hvl
    refine ⟨H, ?_⟩
    rw [evF, ov_ne 6 _ _ (by decide)]
    simp only [evB, Γ, i6, Tr.ofList]
    repeat ((first | rw [evSeq_go] | rw [evSeq_none] | rw [evSeq_guard] | rw [evC_region] | rw [evC_seq] | rw [evC_cond] | rw [evC_block]); try simp only [undef, Array.size_empty, evSeq_nil, isCall_mv, isCall_pick, isCall_alloc, isCall_box, isCall_build, isCall_bslice, isCall_load, isCall_store, isCall_nilchk, isCall_bin, isCall_un, isCall_conv, isCall_mkfn, isCall_mkslice, isCall_slice, isCall_strslice, isCall_faddr, isCall_field, isCall_iaddr, isCall_aaddr, isCall_aindex, isCall_strindex, isCall_ext, isCall_len, isCall_strlen, isCall_const, isCall_append, isCall_minmax, isCall_copy, isCall_call, evI, Opd.ev, rd_set, rd_nil, cond_true, cond_false, Nat.reduceEqDiff, Nat.reduceAdd, Nat.reduceMul, Nat.add_zero, Nat.zero_add, Nat.mul_one, if_true, if_false, reduceIte, binV, intBin, eqBy, Abs.ptrEq, Abs.slcEq, Abs.fncEq, leafEq, unV, Option.map_some, Option.map_none, Option.isNone_none, Option.isNone_some, Bool.not_true, Bool.not_false, beq_self_eq_true, List.getElem?_cons_zero, List.getElem?_cons_succ, evRes, packRes, List.map_cons, List.map_nil, Heap.loadv, Bool.false_eq_true, List.getElem?_toArray, decide_true, decide_false, List.append_nil, List.nil_append, List.cons_append, List.toList_toArray, Bool.beq_eq_decide_eq, reduceCtorEq, Heap.storev, cells_int, cells_bool, cells_string, cells_pointer, cells_slice, cells_func, cells_nilFunc, cells_agg, ok_int, ok_bool, ok_string, ok_pointer, ok_slice, ok_func, ok_nilFunc, ok_agg, size_one, toList_one, Heap.get_put, Heap.size_put, Heap.size_ext, iaddrV, true_and, and_true, eq_self, evC_skip, evC_exit, evC_ret, ext_zero, Option.map_map, Function.comp_def, List.size_toArray, List.length_cons, List.length_nil, not_true_eq_false, not_false_eq_true, ne_eq, hm', hw, toList_nil])
  have hm' : ¬ ((l.length : Nat) : Int) > 300 := by omega
  have hn8 : 0 ≤ nn ∧ nn ≤ 255 := by
    simp [Lit.wf, IntKind.min, IntKind.max, IntKind.signed, IntKind.bits] at hw8
    omega
  have hcw : IntKind.i64.wrap nn = nn := wrap_in (by omega) (by omega)
  have hcap : ((capN nn : Nat) : Int) = nn := by
    unfold capN
    rw [if_neg (by omega), if_neg (by omega)]; omega
  have n1 : evF Γ ov 2999 10 [(Value.int .i64 (nn))] H = _ := new_ev H nn 2997
  have q1 := new_qs H (capN nn)
  have f1 := new_fr H (capN nn)
  have sz1 := emptyH_size H (capN nn)
  have hnw : IntKind.i64.wrap nn = ((capN nn : Nat) : Int) := by rw [hcw, hcap]
  have l1 := fun (T : Tr Value) (t0 : rd T 0 = .int .u8 nn) (t5 : rd T 5 = .pointer (some ⟨H.size + 1, 0, none⟩)) (t6 : rd T 6 = .slice none 0 0) (t22 : rd T 22 = vl) (t23 : rd T 23 = (Value.int .i64 ((l.length : Nat)))) (t24 : rd T 24 = (Value.int .i64 (0))) =>
    loop_run (cl := evF Γ ov 2999) (n := 2999) (c := i6l0)
    (fun m T X => rd T 0 = .int .u8 nn ∧ rd T 5 = .pointer (some ⟨H.size + 1, 0, none⟩) ∧ rd T 22 = vl ∧ rd T 23 = (Value.int .i64 ((l.length : Nat))) ∧ ∃ i : Nat, rd T 24 = (Value.int .i64 (i)) ∧ m + i = l.length ∧ ∃ al wf lq vw, TI H X al wf (H.size + 1) (capN nn) lq vw ∧ lq.length ≤ i ∧ rd T 6 = vw)
    (fun e T X => e = .exit 0 ∧ rd T 0 = .int .u8 nn ∧ rd T 5 = .pointer (some ⟨H.size + 1, 0, none⟩) ∧ ∃ al wf lq vw, TI H X al wf (H.size + 1) (capN nn) lq vw ∧ lq.length ≤ 1000 ∧ rd T 6 = vw)
    (fun m T X ⟨t0, t5, t22, t23, i, t24, hmi, al, wf, lq, vw, I, hl, t6⟩ => by
      by_cases d : i < l.length
      · obtain ⟨T', X', al', wf', lq', vw', s1, s2, s3, s4, s5, s6, s7, s8, s9⟩ := turn_step hA (by omega) I d hl (k := 2999) (n := 2999) (by omega) t0 t5 t6 t22 t23 t24
        exact ⟨_, s1, m - 1, by omega, s4, s5, s7, s8, i + 1, s9, by omega, al', wf', lq', vw', s2, s3, s6⟩
      · have d' : ¬ (i : Int) < (l.length : Nat) := by omega
        refine ⟨?_, ?eq, ?post⟩
        case eq =>
          unfold i6l0
          repeat ((first | rw [evSeq_go] | rw [evSeq_none] | rw [evSeq_guard] | rw [evC_region] | rw [evC_seq] | rw [evC_cond] | rw [evC_block]); try simp only [undef, Array.size_empty, evSeq_nil, isCall_mv, isCall_pick, isCall_alloc, isCall_box, isCall_build, isCall_bslice, isCall_load, isCall_store, isCall_nilchk, isCall_bin, isCall_un, isCall_conv, isCall_mkfn, isCall_mkslice, isCall_slice, isCall_strslice, isCall_faddr, isCall_field, isCall_iaddr, isCall_aaddr, isCall_aindex, isCall_strindex, isCall_ext, isCall_len, isCall_strlen, isCall_const, isCall_append, isCall_minmax, isCall_copy, isCall_call, evI, Opd.ev, rd_set, rd_nil, cond_true, cond_false, Nat.reduceEqDiff, Nat.reduceAdd, Nat.reduceMul, Nat.add_zero, Nat.zero_add, Nat.mul_one, if_true, if_false, reduceIte, binV, intBin, eqBy, Abs.ptrEq, Abs.slcEq, Abs.fncEq, leafEq, unV, Option.map_some, Option.map_none, Option.isNone_none, Option.isNone_some, Bool.not_true, Bool.not_false, beq_self_eq_true, List.getElem?_cons_zero, List.getElem?_cons_succ, evRes, packRes, List.map_cons, List.map_nil, Heap.loadv, Bool.false_eq_true, List.getElem?_toArray, decide_true, decide_false, List.append_nil, List.nil_append, List.cons_append, List.toList_toArray, Bool.beq_eq_decide_eq, reduceCtorEq, Heap.storev, cells_int, cells_bool, cells_string, cells_pointer, cells_slice, cells_func, cells_nilFunc, cells_agg, ok_int, ok_bool, ok_string, ok_pointer, ok_slice, ok_func, ok_nilFunc, ok_agg, size_one, toList_one, Heap.get_put, Heap.size_put, Heap.size_ext, iaddrV, true_and, and_true, eq_self, evC_skip, evC_exit, evC_ret, ext_zero, Option.map_map, Function.comp_def, List.size_toArray, List.length_cons, List.length_nil, not_true_eq_false, not_false_eq_true, ne_eq, t23, t24, d'])
          rfl
        case post =>
          refine ⟨rfl, ?_, ?_, al, wf, lq, vw, I, by omega, ?_⟩
          all_goals simp only [rd_set, Nat.reduceEqDiff, if_false, t0, t5, t6])
    l.length T (emptyH H (capN nn)) ⟨t0, t5, t22, t23, 0, t24, by omega, [H.size, H.size + 1], [], [], .slice none 0 0, ⟨q1, .inl ⟨rfl, rfl⟩, by simp, f1, fun x hx => by simp at hx; omega, by simp⟩, by simp, t6⟩ (by omega)
  have main : Runs (evF Γ ov 2999) 2999 i6.body (Tr.ofList [.int .u8 nn, vl] 0 .nil) H fun e T X => (e = .normal ∨ e = .ret) ∧ rd T 4 = .bool true := by
    simp only [i6, Tr.ofList]
    subst hvl
    refine Runs.seqN1 (r := ?_) ?e1 ?_; (case e1 => (((repeat ((first | rw [evSeq_go] | rw [evSeq_none] | rw [evSeq_guard] | rw [evC_region] | rw [evC_seq] | rw [evC_cond] | rw [evC_block]); try simp only [undef, Array.size_empty, evSeq_nil, isCall_mv, isCall_pick, isCall_alloc, isCall_box, isCall_build, isCall_bslice, isCall_load, isCall_store, isCall_nilchk, isCall_bin, isCall_un, isCall_conv, isCall_mkfn, isCall_mkslice, isCall_slice, isCall_strslice, isCall_faddr, isCall_field, isCall_iaddr, isCall_aaddr, isCall_aindex, isCall_strindex, isCall_ext, isCall_len, isCall_strlen, isCall_const, isCall_append, isCall_minmax, isCall_copy, isCall_call, evI, Opd.ev, rd_set, rd_nil, cond_true, cond_false, Nat.reduceEqDiff, Nat.reduceAdd, Nat.reduceMul, Nat.add_zero, Nat.zero_add, Nat.mul_one, if_true, if_false, reduceIte, binV, intBin, eqBy, Abs.ptrEq, Abs.slcEq, Abs.fncEq, leafEq, unV, Option.map_some, Option.map_none, Option.isNone_none, Option.isNone_some, Bool.not_true, Bool.not_false, beq_self_eq_true, List.getElem?_cons_zero, List.getElem?_cons_succ, evRes, packRes, List.map_cons, List.map_nil, Heap.loadv, Bool.false_eq_true, List.getElem?_toArray, decide_true, decide_false, List.append_nil, List.nil_append, List.cons_append, List.toList_toArray, Bool.beq_eq_decide_eq, reduceCtorEq, Heap.storev, cells_int, cells_bool, cells_string, cells_pointer, cells_slice, cells_func, cells_nilFunc, cells_agg, ok_int, ok_bool, ok_string, ok_pointer, ok_slice, ok_func, ok_nilFunc, ok_agg, size_one, toList_one, Heap.get_put, Heap.size_put, Heap.size_ext, iaddrV, true_and, and_true, eq_self, evC_skip, evC_exit, evC_ret, ext_zero, Option.map_map, Function.comp_def, List.size_toArray, List.length_cons, List.length_nil, not_true_eq_false, not_false_eq_true, ne_eq])); try rfl))); show Runs _ _ _ _ _ _
    refine Runs.seqN1 (r := ?_) ?e2 ?_; (case e2 => (((repeat ((first | rw [evSeq_go] | rw [evSeq_none] | rw [evSeq_guard] | rw [evC_region] | rw [evC_seq] | rw [evC_cond] | rw [evC_block]); try simp only [undef, Array.size_empty, evSeq_nil, isCall_mv, isCall_pick, isCall_alloc, isCall_box, isCall_build, isCall_bslice, isCall_load, isCall_store, isCall_nilchk, isCall_bin, isCall_un, isCall_conv, isCall_mkfn, isCall_mkslice, isCall_slice, isCall_strslice, isCall_faddr, isCall_field, isCall_iaddr, isCall_aaddr, isCall_aindex, isCall_strindex, isCall_ext, isCall_len, isCall_strlen, isCall_const, isCall_append, isCall_minmax, isCall_copy, isCall_call, evI, Opd.ev, rd_set, rd_nil, cond_true, cond_false, Nat.reduceEqDiff, Nat.reduceAdd, Nat.reduceMul, Nat.add_zero, Nat.zero_add, Nat.mul_one, if_true, if_false, reduceIte, binV, intBin, eqBy, Abs.ptrEq, Abs.slcEq, Abs.fncEq, leafEq, unV, Option.map_some, Option.map_none, Option.isNone_none, Option.isNone_some, Bool.not_true, Bool.not_false, beq_self_eq_true, List.getElem?_cons_zero, List.getElem?_cons_succ, evRes, packRes, List.map_cons, List.map_nil, Heap.loadv, Bool.false_eq_true, List.getElem?_toArray, decide_true, decide_false, List.append_nil, List.nil_append, List.cons_append, List.toList_toArray, Bool.beq_eq_decide_eq, reduceCtorEq, Heap.storev, cells_int, cells_bool, cells_string, cells_pointer, cells_slice, cells_func, cells_nilFunc, cells_agg, ok_int, ok_bool, ok_string, ok_pointer, ok_slice, ok_func, ok_nilFunc, ok_agg, size_one, toList_one, Heap.get_put, Heap.size_put, Heap.size_ext, iaddrV, true_and, and_true, eq_self, evC_skip, evC_exit, evC_ret, ext_zero, Option.map_map, Function.comp_def, List.size_toArray, List.length_cons, List.length_nil, not_true_eq_false, not_false_eq_true, ne_eq, hm'])); try rfl))); show Runs _ _ _ _ _ _
    refine Runs.seqN1 (r := ?_) ?e3 ?_; (case e3 => (((repeat ((first | rw [evSeq_go] | rw [evSeq_none] | rw [evSeq_guard] | rw [evC_region] | rw [evC_seq] | rw [evC_cond] | rw [evC_block]); try simp only [undef, Array.size_empty, evSeq_nil, isCall_mv, isCall_pick, isCall_alloc, isCall_box, isCall_build, isCall_bslice, isCall_load, isCall_store, isCall_nilchk, isCall_bin, isCall_un, isCall_conv, isCall_mkfn, isCall_mkslice, isCall_slice, isCall_strslice, isCall_faddr, isCall_field, isCall_iaddr, isCall_aaddr, isCall_aindex, isCall_strindex, isCall_ext, isCall_len, isCall_strlen, isCall_const, isCall_append, isCall_minmax, isCall_copy, isCall_call, evI, Opd.ev, rd_set, rd_nil, cond_true, cond_false, Nat.reduceEqDiff, Nat.reduceAdd, Nat.reduceMul, Nat.add_zero, Nat.zero_add, Nat.mul_one, if_true, if_false, reduceIte, binV, intBin, eqBy, Abs.ptrEq, Abs.slcEq, Abs.fncEq, leafEq, unV, Option.map_some, Option.map_none, Option.isNone_none, Option.isNone_some, Bool.not_true, Bool.not_false, beq_self_eq_true, List.getElem?_cons_zero, List.getElem?_cons_succ, evRes, packRes, List.map_cons, List.map_nil, Heap.loadv, Bool.false_eq_true, List.getElem?_toArray, decide_true, decide_false, List.append_nil, List.nil_append, List.cons_append, List.toList_toArray, Bool.beq_eq_decide_eq, reduceCtorEq, Heap.storev, cells_int, cells_bool, cells_string, cells_pointer, cells_slice, cells_func, cells_nilFunc, cells_agg, ok_int, ok_bool, ok_string, ok_pointer, ok_slice, ok_func, ok_nilFunc, ok_agg, size_one, toList_one, Heap.get_put, Heap.size_put, Heap.size_ext, iaddrV, true_and, and_true, eq_self, evC_skip, evC_exit, evC_ret, ext_zero, Option.map_map, Function.comp_def, List.size_toArray, List.length_cons, List.length_nil, not_true_eq_false, not_false_eq_true, ne_eq, hcw, n1, toList_nil])); try rfl))); show Runs _ _ _ _ _ _
    refine Runs.seqN1 (r := ?_) ?e4 ?_; (case e4 => (((repeat ((first | rw [evSeq_go] | rw [evSeq_none] | rw [evSeq_guard] | rw [evC_region] | rw [evC_seq] | rw [evC_cond] | rw [evC_block]); try simp only [undef, Array.size_empty, evSeq_nil, isCall_mv, isCall_pick, isCall_alloc, isCall_box, isCall_build, isCall_bslice, isCall_load, isCall_store, isCall_nilchk, isCall_bin, isCall_un, isCall_conv, isCall_mkfn, isCall_mkslice, isCall_slice, isCall_strslice, isCall_faddr, isCall_field, isCall_iaddr, isCall_aaddr, isCall_aindex, isCall_strindex, isCall_ext, isCall_len, isCall_strlen, isCall_const, isCall_append, isCall_minmax, isCall_copy, isCall_call, evI, Opd.ev, rd_set, rd_nil, cond_true, cond_false, Nat.reduceEqDiff, Nat.reduceAdd, Nat.reduceMul, Nat.add_zero, Nat.zero_add, Nat.mul_one, if_true, if_false, reduceIte, binV, intBin, eqBy, Abs.ptrEq, Abs.slcEq, Abs.fncEq, leafEq, unV, Option.map_some, Option.map_none, Option.isNone_none, Option.isNone_some, Bool.not_true, Bool.not_false, beq_self_eq_true, List.getElem?_cons_zero, List.getElem?_cons_succ, evRes, packRes, List.map_cons, List.map_nil, Heap.loadv, Bool.false_eq_true, List.getElem?_toArray, decide_true, decide_false, List.append_nil, List.nil_append, List.cons_append, List.toList_toArray, Bool.beq_eq_decide_eq, reduceCtorEq, Heap.storev, cells_int, cells_bool, cells_string, cells_pointer, cells_slice, cells_func, cells_nilFunc, cells_agg, ok_int, ok_bool, ok_string, ok_pointer, ok_slice, ok_func, ok_nilFunc, ok_agg, size_one, toList_one, Heap.get_put, Heap.size_put, Heap.size_ext, iaddrV, true_and, and_true, eq_self, evC_skip, evC_exit, evC_ret, ext_zero, Option.map_map, Function.comp_def, List.size_toArray, List.length_cons, List.length_nil, not_true_eq_false, not_false_eq_true, ne_eq])); try rfl))); show Runs _ _ _ _ _ _
    refine Runs.seqN1 (r := ?_) ?e5 ?_; (case e5 => (((repeat ((first | rw [evSeq_go] | rw [evSeq_none] | rw [evSeq_guard] | rw [evC_region] | rw [evC_seq] | rw [evC_cond] | rw [evC_block]); try simp only [undef, Array.size_empty, evSeq_nil, isCall_mv, isCall_pick, isCall_alloc, isCall_box, isCall_build, isCall_bslice, isCall_load, isCall_store, isCall_nilchk, isCall_bin, isCall_un, isCall_conv, isCall_mkfn, isCall_mkslice, isCall_slice, isCall_strslice, isCall_faddr, isCall_field, isCall_iaddr, isCall_aaddr, isCall_aindex, isCall_strindex, isCall_ext, isCall_len, isCall_strlen, isCall_const, isCall_append, isCall_minmax, isCall_copy, isCall_call, evI, Opd.ev, rd_set, rd_nil, cond_true, cond_false, Nat.reduceEqDiff, Nat.reduceAdd, Nat.reduceMul, Nat.add_zero, Nat.zero_add, Nat.mul_one, if_true, if_false, reduceIte, binV, intBin, eqBy, Abs.ptrEq, Abs.slcEq, Abs.fncEq, leafEq, unV, Option.map_some, Option.map_none, Option.isNone_none, Option.isNone_some, Bool.not_true, Bool.not_false, beq_self_eq_true, List.getElem?_cons_zero, List.getElem?_cons_succ, evRes, packRes, List.map_cons, List.map_nil, Heap.loadv, Bool.false_eq_true, List.getElem?_toArray, decide_true, decide_false, List.append_nil, List.nil_append, List.cons_append, List.toList_toArray, Bool.beq_eq_decide_eq, reduceCtorEq, Heap.storev, cells_int, cells_bool, cells_string, cells_pointer, cells_slice, cells_func, cells_nilFunc, cells_agg, ok_int, ok_bool, ok_string, ok_pointer, ok_slice, ok_func, ok_nilFunc, ok_agg, size_one, toList_one, Heap.get_put, Heap.size_put, Heap.size_ext, iaddrV, true_and, and_true, eq_self, evC_skip, evC_exit, evC_ret, ext_zero, Option.map_map, Function.comp_def, List.size_toArray, List.length_cons, List.length_nil, not_true_eq_false, not_false_eq_true, ne_eq])); try rfl))); show Runs _ _ _ _ _ _
    refine Runs.assoc ?_
    refine Runs.seqN1 (r := ?_) ?e6 ?_; (case e6 => (((repeat ((first | rw [evSeq_go] | rw [evSeq_none] | rw [evSeq_guard] | rw [evC_region] | rw [evC_seq] | rw [evC_cond] | rw [evC_block]); try simp only [undef, Array.size_empty, evSeq_nil, isCall_mv, isCall_pick, isCall_alloc, isCall_box, isCall_build, isCall_bslice, isCall_load, isCall_store, isCall_nilchk, isCall_bin, isCall_un, isCall_conv, isCall_mkfn, isCall_mkslice, isCall_slice, isCall_strslice, isCall_faddr, isCall_field, isCall_iaddr, isCall_aaddr, isCall_aindex, isCall_strindex, isCall_ext, isCall_len, isCall_strlen, isCall_const, isCall_append, isCall_minmax, isCall_copy, isCall_call, evI, Opd.ev, rd_set, rd_nil, cond_true, cond_false, Nat.reduceEqDiff, Nat.reduceAdd, Nat.reduceMul, Nat.add_zero, Nat.zero_add, Nat.mul_one, if_true, if_false, reduceIte, binV, intBin, eqBy, Abs.ptrEq, Abs.slcEq, Abs.fncEq, leafEq, unV, Option.map_some, Option.map_none, Option.isNone_none, Option.isNone_some, Bool.not_true, Bool.not_false, beq_self_eq_true, List.getElem?_cons_zero, List.getElem?_cons_succ, evRes, packRes, List.map_cons, List.map_nil, Heap.loadv, Bool.false_eq_true, List.getElem?_toArray, decide_true, decide_false, List.append_nil, List.nil_append, List.cons_append, List.toList_toArray, Bool.beq_eq_decide_eq, reduceCtorEq, Heap.storev, cells_int, cells_bool, cells_string, cells_pointer, cells_slice, cells_func, cells_nilFunc, cells_agg, ok_int, ok_bool, ok_string, ok_pointer, ok_slice, ok_func, ok_nilFunc, ok_agg, size_one, toList_one, Heap.get_put, Heap.size_put, Heap.size_ext, iaddrV, true_and, and_true, eq_self, evC_skip, evC_exit, evC_ret, ext_zero, Option.map_map, Function.comp_def, List.size_toArray, List.length_cons, List.length_nil, not_true_eq_false, not_false_eq_true, ne_eq])); try rfl))); show Runs _ _ _ _ _ _
    refine Runs.loop (l1 _ ?_ ?_ ?_ ?_ ?_ ?_) ?_ ?_
    · simp only [rd_set, Nat.reduceEqDiff, if_false, if_true]
    · simp only [rd_set, Nat.reduceEqDiff, if_false, if_true]
    · simp only [rd_set, Nat.reduceEqDiff, if_false, if_true]
    · simp only [rd_set, Nat.reduceEqDiff, if_false, if_true]
    · simp only [rd_set, Nat.reduceEqDiff, if_false, if_true]
    · simp only [rd_set, Nat.reduceEqDiff, if_false, if_true]
    · intro T' X' ⟨_, t0, t5, al, wf, lq, vw, I, hl, t6⟩
      obtain ⟨aw, cw, hvw⟩ := I.ws.lvl
      subst hvw
      refine Runs.assoc ?_
      refine Runs.seqN1 (r := ?_) ?e7 ?_; (case e7 => (((repeat ((first | rw [evSeq_go] | rw [evSeq_none] | rw [evSeq_guard] | rw [evC_region] | rw [evC_seq] | rw [evC_cond] | rw [evC_block]); try simp only [undef, Array.size_empty, evSeq_nil, isCall_mv, isCall_pick, isCall_alloc, isCall_box, isCall_build, isCall_bslice, isCall_load, isCall_store, isCall_nilchk, isCall_bin, isCall_un, isCall_conv, isCall_mkfn, isCall_mkslice, isCall_slice, isCall_strslice, isCall_faddr, isCall_field, isCall_iaddr, isCall_aaddr, isCall_aindex, isCall_strindex, isCall_ext, isCall_len, isCall_strlen, isCall_const, isCall_append, isCall_minmax, isCall_copy, isCall_call, evI, Opd.ev, rd_set, rd_nil, cond_true, cond_false, Nat.reduceEqDiff, Nat.reduceAdd, Nat.reduceMul, Nat.add_zero, Nat.zero_add, Nat.mul_one, if_true, if_false, reduceIte, binV, intBin, eqBy, Abs.ptrEq, Abs.slcEq, Abs.fncEq, leafEq, unV, Option.map_some, Option.map_none, Option.isNone_none, Option.isNone_some, Bool.not_true, Bool.not_false, beq_self_eq_true, List.getElem?_cons_zero, List.getElem?_cons_succ, evRes, packRes, List.map_cons, List.map_nil, Heap.loadv, Bool.false_eq_true, List.getElem?_toArray, decide_true, decide_false, List.append_nil, List.nil_append, List.cons_append, List.toList_toArray, Bool.beq_eq_decide_eq, reduceCtorEq, Heap.storev, cells_int, cells_bool, cells_string, cells_pointer, cells_slice, cells_func, cells_nilFunc, cells_agg, ok_int, ok_bool, ok_string, ok_pointer, ok_slice, ok_func, ok_nilFunc, ok_agg, size_one, toList_one, Heap.get_put, Heap.size_put, Heap.size_ext, iaddrV, true_and, and_true, eq_self, evC_skip, evC_exit, evC_ret, ext_zero, Option.map_map, Function.comp_def, List.size_toArray, List.length_cons, List.length_nil, not_true_eq_false, not_false_eq_true, ne_eq, t6])); try rfl))); show Runs _ _ _ _ _ _
      refine Runs.loop (turn_back I hl rfl hnw (k := 2999) (by omega) ?_ ?_ ?_ ?_ ?_) ?_ ?_
      · simp only [rd_set, Nat.reduceEqDiff, if_false, t0]
      · simp only [rd_set, Nat.reduceEqDiff, if_false, t5]
      · simp only [rd_set, Nat.reduceEqDiff, if_false, if_true]
      · simp only [rd_set, Nat.reduceEqDiff, if_false, if_true]
      · simp only [rd_set, Nat.reduceEqDiff, if_false, if_true]
      · intro T2 X2 ⟨_, t5, al2, Q2⟩
        have ln : evF Γ ov 2999 16 [.pointer (some ⟨H.size + 1, 0, none⟩)] X2 = some ((Value.int .i64 (0)), X2) := qlen_ev Q2 2997
        have hw : evF Γ ov 2999 8 [] X2 = _ := works_ev X2 2998
        refine Runs.seqN1 (r := ?_) ?e8 ?_; (case e8 => (((repeat ((first | rw [evSeq_go] | rw [evSeq_none] | rw [evSeq_guard] | rw [evC_region] | rw [evC_seq] | rw [evC_cond] | rw [evC_block]); try simp only [undef, Array.size_empty, evSeq_nil, isCall_mv, isCall_pick, isCall_alloc, isCall_box, isCall_build, isCall_bslice, isCall_load, isCall_store, isCall_nilchk, isCall_bin, isCall_un, isCall_conv, isCall_mkfn, isCall_mkslice, isCall_slice, isCall_strslice, isCall_faddr, isCall_field, isCall_iaddr, isCall_aaddr, isCall_aindex, isCall_strindex, isCall_ext, isCall_len, isCall_strlen, isCall_const, isCall_append, isCall_minmax, isCall_copy, isCall_call, evI, Opd.ev, rd_set, rd_nil, cond_true, cond_false, Nat.reduceEqDiff, Nat.reduceAdd, Nat.reduceMul, Nat.add_zero, Nat.zero_add, Nat.mul_one, if_true, if_false, reduceIte, binV, intBin, eqBy, Abs.ptrEq, Abs.slcEq, Abs.fncEq, leafEq, unV, Option.map_some, Option.map_none, Option.isNone_none, Option.isNone_some, Bool.not_true, Bool.not_false, beq_self_eq_true, List.getElem?_cons_zero, List.getElem?_cons_succ, evRes, packRes, List.map_cons, List.map_nil, Heap.loadv, Bool.false_eq_true, List.getElem?_toArray, decide_true, decide_false, List.append_nil, List.nil_append, List.cons_append, List.toList_toArray, Bool.beq_eq_decide_eq, reduceCtorEq, Heap.storev, cells_int, cells_bool, cells_string, cells_pointer, cells_slice, cells_func, cells_nilFunc, cells_agg, ok_int, ok_bool, ok_string, ok_pointer, ok_slice, ok_func, ok_nilFunc, ok_agg, size_one, toList_one, Heap.get_put, Heap.size_put, Heap.size_ext, iaddrV, true_and, and_true, eq_self, evC_skip, evC_exit, evC_ret, ext_zero, Option.map_map, Function.comp_def, List.size_toArray, List.length_cons, List.length_nil, not_true_eq_false, not_false_eq_true, ne_eq, t5, ln, hw, toList_nil])); try rfl))); show Runs _ _ _ _ _ _
        refine Runs.of1 (r := ?_) ?e9 ?_; (case e9 => (((repeat ((first | rw [evSeq_go] | rw [evSeq_none] | rw [evSeq_guard] | rw [evC_region] | rw [evC_seq] | rw [evC_cond] | rw [evC_block]); try simp only [undef, Array.size_empty, evSeq_nil, isCall_mv, isCall_pick, isCall_alloc, isCall_box, isCall_build, isCall_bslice, isCall_load, isCall_store, isCall_nilchk, isCall_bin, isCall_un, isCall_conv, isCall_mkfn, isCall_mkslice, isCall_slice, isCall_strslice, isCall_faddr, isCall_field, isCall_iaddr, isCall_aaddr, isCall_aindex, isCall_strindex, isCall_ext, isCall_len, isCall_strlen, isCall_const, isCall_append, isCall_minmax, isCall_copy, isCall_call, evI, Opd.ev, rd_set, rd_nil, cond_true, cond_false, Nat.reduceEqDiff, Nat.reduceAdd, Nat.reduceMul, Nat.add_zero, Nat.zero_add, Nat.mul_one, if_true, if_false, reduceIte, binV, intBin, eqBy, Abs.ptrEq, Abs.slcEq, Abs.fncEq, leafEq, unV, Option.map_some, Option.map_none, Option.isNone_none, Option.isNone_some, Bool.not_true, Bool.not_false, beq_self_eq_true, List.getElem?_cons_zero, List.getElem?_cons_succ, evRes, packRes, List.map_cons, List.map_nil, Heap.loadv, Bool.false_eq_true, List.getElem?_toArray, decide_true, decide_false, List.append_nil, List.nil_append, List.cons_append, List.toList_toArray, Bool.beq_eq_decide_eq, reduceCtorEq, Heap.storev, cells_int, cells_bool, cells_string, cells_pointer, cells_slice, cells_func, cells_nilFunc, cells_agg, ok_int, ok_bool, ok_string, ok_pointer, ok_slice, ok_func, ok_nilFunc, ok_agg, size_one, toList_one, Heap.get_put, Heap.size_put, Heap.size_ext, iaddrV, true_and, and_true, eq_self, evC_skip, evC_exit, evC_ret, ext_zero, Option.map_map, Function.comp_def, List.size_toArray, List.length_cons, List.length_nil, not_true_eq_false, not_false_eq_true, ne_eq])); try rfl)))
        exact ⟨.inr rfl, by simp only [rd_set, Nat.reduceEqDiff, if_false, if_true]⟩
      · intro e T' H' _ hne he
        exact absurd he.1 hne
    · intro e T' H' _ hne he
      exact absurd he.1 hne
  obtain ⟨e, T, X, h1, h2, h3⟩ := main
  refine ⟨X, evF_of (fn := i6) (ov_ne 6 _ _ (by decide)) rfl ⟨e, T, X, h1, h2, rfl, ?_⟩⟩
  simp only [i6, undef, Array.size_empty, evSeq_nil, isCall_mv, isCall_pick, isCall_alloc, isCall_box, isCall_build, isCall_bslice, isCall_load, isCall_store, isCall_nilchk, isCall_bin, isCall_un, isCall_conv, isCall_mkfn, isCall_mkslice, isCall_slice, isCall_strslice, isCall_faddr, isCall_field, isCall_iaddr, isCall_aaddr, isCall_aindex, isCall_strindex, isCall_ext, isCall_len, isCall_strlen, isCall_const, isCall_append, isCall_minmax, isCall_copy, isCall_call, evI, Opd.ev, rd_set, rd_nil, cond_true, cond_false, Nat.reduceEqDiff, Nat.reduceAdd, Nat.reduceMul, Nat.add_zero, Nat.zero_add, Nat.mul_one, if_true, if_false, reduceIte, binV, intBin, eqBy, Abs.ptrEq, Abs.slcEq, Abs.fncEq, leafEq, unV, Option.map_some, Option.map_none, Option.isNone_none, Option.isNone_some, Bool.not_true, Bool.not_false, beq_self_eq_true, List.getElem?_cons_zero, List.getElem?_cons_succ, evRes, packRes, List.map_cons, List.map_nil, Heap.loadv, Bool.false_eq_true, List.getElem?_toArray, decide_true, decide_false, List.append_nil, List.nil_append, List.cons_append, List.toList_toArray, Bool.beq_eq_decide_eq, reduceCtorEq, Heap.storev, cells_int, cells_bool, cells_string, cells_pointer, cells_slice, cells_func, cells_nilFunc, cells_agg, ok_int, ok_bool, ok_string, ok_pointer, ok_slice, ok_func, ok_nilFunc, ok_agg, size_one, toList_one, Heap.get_put, Heap.size_put, Heap.size_ext, iaddrV, true_and, and_true, eq_self, evC_skip, evC_exit, evC_ret, ext_zero, Option.map_map, Function.comp_def, List.size_toArray, List.length_cons, List.length_nil, not_true_eq_false, not_false_eq_true, ne_eq, h3]

end Go.Proofs.Ytmgkdnncjapejaa.Ab
