/- A part of the proof that the law answers true at every input: the text W05Q; no conditions. -/
import Derived.Test.YtmgkdnncjapejaaW05O
set_option linter.unusedSimpArgs false
set_option linter.unusedVariables false
namespace Go.Proofs.Ytmgkdnncjapejaa.Abs
open Go
theorem chkOk_some {log : Tr Heap} {T : Tr Value} {agg : Bool} {n c : Nat} {a : Opd} {v : Value} {H0 : Heap} (h : log.get c = some H0) :
    chkOk log T (.load agg n a) v [c] = match H0.loadv agg n (a.ev T) with | some u => veq u v | none => false := by
  simp only [chkOk, h, Bool.and_true]
  cases H0.loadv agg n (a.ev T) <;> rfl
theorem chkOk_none {log : Tr Heap} {T : Tr Value} {agg : Bool} {n c : Nat} {a : Opd} {v : Value} (h : log.get c = none) :
    chkOk log T (.load agg n a) v [c] = false := by simp [chkOk, h]
theorem evSeq_chk (cl : Nat → List Value → Heap → Option (Value × Heap)) (b idx d c n : Nat) (agg : Bool) (a : Opd) (l : List Ins) (T : Tr Value) (H : Heap) (log : Tr Heap) :
    evSeq cl b (⟨idx, some d, none, .load agg n a, [c]⟩ :: l) ⟨T, H, log⟩ = match H.loadv agg n (a.ev T), log.get c with
      | some v, some H0 => (match H0.loadv agg n (a.ev T) with | some u => bif veq u v then evSeq cl b l ⟨T.set d v, H, log⟩ else none | none => none)
      | _, _ => none := by
  simp only [evSeq, evIns, evW, Ins.wanted, lg, evI, isCall_load]
  cases H.loadv agg n (a.ev T) with
  | none => rfl
  | some v =>
    simp only [Option.map_some]
    cases hc : log.get c with
    | none => simp [chkOk_none hc]
    | some H0 =>
      simp only [chkOk_some hc]
      cases H0.loadv agg n (a.ev T) with
      | none => simp
      | some u => cases hv : veq u v <;> simp [putT, hv]
theorem evSeq_gchk (cl : Nat → List Value → Heap → Option (Value × Heap)) (b idx d g c n : Nat) (w : Bool) (agg : Bool) (a : Opd) (l : List Ins) (T : Tr Value) (H : Heap) (log : Tr Heap) :
    evSeq cl b (⟨idx, some d, some (g, w), .load agg n a, [c]⟩ :: l) ⟨T, H, log⟩ = match rd T g with
      | .bool t => bif t == w then (match H.loadv agg n (a.ev T), log.get c with
        | some v, some H0 => (match H0.loadv agg n (a.ev T) with | some u => bif veq u v then evSeq cl b l ⟨T.set d v, H, log⟩ else none | none => none)
        | _, _ => none) else evSeq cl b l ⟨T.set d undef, H, log⟩
      | .tuple vs => if vs.size = 0 then evSeq cl b l ⟨T.set d undef, H, log⟩ else none
      | _ => none := by
  simp only [evSeq, evIns, evW, Ins.wanted, lg, evI, isCall_load]
  cases rd T g <;> simp only []
  case bool t =>
    cases t == w
    · simp [putT]
    · simp only [cond_true]
      cases H.loadv agg n (a.ev T) with
      | none => rfl
      | some v =>
        simp only [Option.map_some]
        cases hc : log.get c with
        | none => simp [chkOk_none hc]
        | some H0 =>
          simp only [chkOk_some hc]
          cases H0.loadv agg n (a.ev T) with
          | none => simp
          | some u => cases hv : veq u v <;> simp [putT, hv]
  case tuple vs =>
    by_cases h : vs.size = 0
    · simp [h, putT]
    · simp only [h, if_false]
end Go.Proofs.Ytmgkdnncjapejaa.Abs
namespace Go.Proofs.Ytmgkdnncjapejaa.Ab
open Go Go.Proofs.Ytmgkdnncjapejaa.Abs Go.Proofs.Ytmgkdnncjapejaa.Abs.W05
set_option maxRecDepth 100000
set_option maxHeartbeats 4000000

theorem set2_0 (a b c d : Value) : setRange [a, b] 0 [c, d] = [c, d] := rfl
theorem veq_int (n : Int) : veq (Value.int .i64 (n)) (Value.int .i64 (n)) = true := by simp [veq]

/-- Acts that are read through a slice. -/
def RdT (H : Abs.Heap) (v : Value) (n : Nat) (A : List Nat) : Prop :=
  ((v = .slice none 0 0 ∨ v = .slice (some ⟨0, 0, some 1⟩) 0 0) ∧ n = 0) ∨ ∃ o off m cap e r cs, v = .slice (some ⟨o, off, some m⟩) n cap ∧ H.get o = some (.cells e r cs) ∧ o < H.size ∧ o ∉ A ∧ ∀ i, i < n → off + i * 2 + 2 ≤ cs.length ∧ ∃ a x : Int, (cs.drop (off + i * 2)).take 2 = [(Value.int .i64 (a)), (Value.int .i64 (x))]

theorem play_step {H0 X : Abs.Heap} {A al1 al2 : List Nat} {q w n : Nat} {lq lw : List Int} {ro : Option (List Int)} {N : Nat} {va : Value} (hA : RdT H0 va n A) (hn : n ≤ 1000) {i : Nat} (hi : i < n)
    (P : PL X al1 al2 q w lq lw ro N) (hlq : lq.length ≤ i) (hF : Fr A H0 X) (G1 : Grow H0 A al1) (G2 : Grow H0 A al2) {k n' : Nat} (hk : 2000 ≤ k) {T : Tr Value}
    (t0 : rd T 0 = .pointer (some ⟨q, 0, none⟩)) (t1 : rd T 1 = .pointer (some ⟨w, 0, none⟩)) (t15 : rd T 15 = va) (t16 : rd T 16 = (Value.int .i64 ((n : Nat)))) (t17 : rd T 17 = (Value.int .i64 (i))) :
    ∃ T' X' al1' al2' lq' lw', evC (evF Γ ov k) n' i9l0 T X = some (.normal, T', X') ∧ PL X' al1' al2' q w lq' lw' ro N ∧ lq'.length ≤ i + 1 ∧ Fr A H0 X' ∧ Grow H0 A al1' ∧ Grow H0 A al2' ∧
      rd T' 0 = .pointer (some ⟨q, 0, none⟩) ∧ rd T' 1 = .pointer (some ⟨w, 0, none⟩) ∧ rd T' 15 = va ∧ rd T' 16 = (Value.int .i64 ((n : Nat))) ∧ rd T' 17 = (Value.int .i64 ((i + 1 : Nat))) := by
  have hi' : (i : Int) < (n : Nat) := by omega
  have hw : IntKind.i64.wrap ((i : Int) + 1) = ((i + 1 : Nat) : Int) := by rw [wrap_in (by omega) (by omega)]; omega
  rcases hA with ⟨_, h⟩ | ⟨o, off, m, cap, e, r, cs, hva, ho0, hol, hoA, hcs⟩
  · omega
  obtain ⟨hc1, a, x, hc2⟩ := hcs i hi
  have ho : X.get o = some (.cells e r cs) := by rw [hF.2 o hol hoA]; exact ho0
  have oX : o < X.size := Nat.lt_of_lt_of_le hol hF.1
  subst hva
  have np := fun oo => new_pend (o := oo) (ext_new0 (n := 1) (H := X) (by omega))
  have hE : (Heap.ext 1 X).get o = some (.cells e r cs) := by rw [ext_old oX]; exact ho
  have hok : ([(Value.int .i64 (a)), (Value.int .i64 (x))]).all okCell = true := rfl
  have FY : Fr [] X (((Heap.ext 1 X).put X.size (.cells 45 false [(Value.int .i64 (0)), (Value.int .i64 (0))])).put X.size (.cells 45 false [(Value.int .i64 (a)), (Value.int .i64 (x))])) :=
    ⟨by simp only [Heap.size_put, Heap.size_ext]; omega, fun id h1 _ => by rw [Heap.get_put, if_neg (by omega), Heap.get_put, if_neg (by omega), ext_old h1]⟩
  have cY : (((Heap.ext 1 X).put X.size (.cells 45 false [(Value.int .i64 (0)), (Value.int .i64 (0))])).put X.size (.cells 45 false [(Value.int .i64 (a)), (Value.int .i64 (x))])).get X.size = some (.cells 45 false [(Value.int .i64 (a)), (Value.int .i64 (x))]) := by rw [Heap.get_put, if_pos rfl]
  have szY : (((Heap.ext 1 X).put X.size (.cells 45 false [(Value.int .i64 (0)), (Value.int .i64 (0))])).put X.size (.cells 45 false [(Value.int .i64 (a)), (Value.int .i64 (x))])).size = X.size + 1 := by simp only [Heap.size_put, Heap.size_ext]
  have nn1 : X.size ∉ al1 := fun c => by have := P.qs.lal _ c; omega
  have nn2 : X.size ∉ al2 := fun c => by have := P.rs.lal _ c; omega
  have PY := P.fr FY
  generalize hYe : (((Heap.ext 1 X).put X.size (.cells 45 false [(Value.int .i64 (0)), (Value.int .i64 (0))])).put X.size (.cells 45 false [(Value.int .i64 (a)), (Value.int .i64 (x))])) = Y at *
  -- the ends of both branches
  have fin : ∀ (H1 H2 : Abs.Heap) (al1' al2' : List Nat) (lq' lw' : List Int), PL H2 al1' al2' q w lq' lw' ro N → Fr al1 Y H1 → Fr al2 H1 H2 → Grow Y al1 al1' → Grow Y al2 al2' → lq'.length ≤ lq.length + 1 →
      H1.get X.size = some (.cells 45 false [(Value.int .i64 (a)), (Value.int .i64 (x))]) ∧ H2.get X.size = some (.cells 45 false [(Value.int .i64 (a)), (Value.int .i64 (x))]) ∧ Fr A H0 H2 ∧ Grow H0 A al1' ∧ Grow H0 A al2' := by
    intro H1 H2 al1' al2' lq' lw' _ F1 F2 g1 g2 _
    have e1 : H1.get X.size = some (.cells 45 false [(Value.int .i64 (a)), (Value.int .i64 (x))]) := by rw [F1.2 _ (by omega) nn1]; exact cY
    refine ⟨e1, by rw [F2.2 _ (by have := F1.1; omega) nn2]; exact e1, ⟨by have := F1.1; have := F2.1; have := hF.1; omega, fun id h1 h2 => ?_⟩, fun y hy => ?_, fun y hy => ?_⟩
    · have b1 : id ∉ al1 := fun c => by
        rcases G1 _ c with d | d
        · exact h2 d
        · omega
      have b2 : id ∉ al2 := fun c => by
        rcases G2 _ c with d | d
        · exact h2 d
        · omega
      have s0 := hF.1
      rw [F2.2 id (by have := F1.1; omega) b2, F1.2 id (by omega) b1, FY.2 id (by omega) (by simp), hF.2 id h1 h2]
    · rcases g1 y hy with c | c
      · exact G1 y c
      · exact .inr (by have := hF.1; omega)
    · rcases g2 y hy with c | c
      · exact G2 y c
      · exact .inr (by have := hF.1; omega)
  obtain ⟨k, rfl⟩ : ∃ j, k = j + 2 := ⟨k - 2, by omega⟩
  by_cases ha : a = 0
  · obtain ⟨H1, H2, al2', lq', lw', m', rr, p1, p2, p3, p4, p5, p6, p7⟩ := pl_pop PY (by omega) (k := k + 2) (by omega)
    obtain ⟨d1, d2, d3, d4, d5⟩ := fin H1 H2 al1 al2' lq' lw' p3 p4 p5 (Grow.refl _ _) p6 (by omega)
    have e1 := qlen_ev p3.qs k
    have e2 := rlen_ev p3.rs (k + 1)
    have e3 := qhas_ev p3.qs x k
    have e4 := rhas_ev p3.rs (by have := p3.perm.length_eq; omega) x (k := k + 1) (by have := p3.perm.length_eq; omega)
    rw [← p3.perm.length_eq] at e2
    rw [show decide (x ∈ lw') = decide (x ∈ lq') from decide_eq_decide.2 p3.perm.mem_iff.symm] at e4
    refine ⟨?_, H2, al1, al2', lq', lw', ?eq, p3, by omega, d3, d4, d5, ?_, ?_, ?_, ?_, ?_⟩
    case eq =>
      unfold i9l0
      subst ha
      repeat ((first | rw [evSeq_go] | rw [evSeq_none] | rw [evSeq_guard] | rw [evC_region] | rw [evC_seq] | rw [evC_cond] | rw [evC_block] | rw [evSeq_chk] | rw [evSeq_gchk]); try simp only [undef, Array.size_empty, evSeq_nil, isCall_mv, isCall_pick, isCall_alloc, isCall_box, isCall_build, isCall_bslice, isCall_load, isCall_store, isCall_nilchk, isCall_bin, isCall_un, isCall_conv, isCall_mkfn, isCall_mkslice, isCall_slice, isCall_strslice, isCall_faddr, isCall_field, isCall_iaddr, isCall_aaddr, isCall_aindex, isCall_strindex, isCall_ext, isCall_len, isCall_strlen, isCall_const, isCall_append, isCall_minmax, isCall_copy, isCall_call, evI, Opd.ev, rd_set, rd_nil, cond_true, cond_false, Nat.reduceEqDiff, Nat.reduceAdd, Nat.reduceMul, Nat.add_zero, Nat.zero_add, Nat.mul_one, if_true, if_false, reduceIte, binV, intBin, eqBy, Abs.ptrEq, Abs.slcEq, Abs.fncEq, leafEq, unV, Option.map_some, Option.map_none, Option.isNone_none, Option.isNone_some, Bool.not_true, Bool.not_false, beq_self_eq_true, List.getElem?_cons_zero, List.getElem?_cons_succ, evRes, packRes, List.map_cons, List.map_nil, Heap.loadv, Bool.false_eq_true, List.getElem?_toArray, decide_true, decide_false, List.append_nil, List.nil_append, List.cons_append, List.toList_toArray, Bool.beq_eq_decide_eq, reduceCtorEq, Heap.storev, cells_int, cells_bool, cells_string, cells_pointer, cells_slice, cells_func, cells_nilFunc, cells_agg, ok_int, ok_bool, ok_string, ok_pointer, ok_slice, ok_func, ok_nilFunc, ok_agg, size_one, toList_one, Heap.get_put, Heap.size_put, Heap.size_ext, iaddrV, true_and, and_true, eq_self, evC_skip, evC_exit, evC_ret, ext_zero, Option.map_map, Function.comp_def, List.size_toArray, List.length_cons, List.length_nil, not_true_eq_false, not_false_eq_true, ne_eq, t0, t1, t15, t16, t17, hi', hw, Int.natCast_nonneg, Int.toNat_natCast, hE, hc1, hc2, np, hok, Tr.get_set, set2_0, hYe, cY, d1, d2, p1, p2, e1, e2, e3, e4, toList_nil, veq_int, Nat.reduceLeDiff, bne_self_eq_false])
      rfl
    all_goals simp only [rd_set, Nat.reduceEqDiff, if_false, if_true, t0, t1, t15, t16, t17]
  · obtain ⟨H1, H2, al1', al2', lq', lw', rr, p1, p2, p3, p4, p5, p6, p6', p7⟩ := pl_push PY x (by omega) (k := k + 2) (by omega)
    obtain ⟨d1, d2, d3, d4, d5⟩ := fin H1 H2 al1' al2' lq' lw' p3 p4 p5 p6 p6' (by omega)
    have e1 := qlen_ev p3.qs k
    have e2 := rlen_ev p3.rs (k + 1)
    have e3 := qhas_ev p3.qs x k
    have e4 := rhas_ev p3.rs (by have := p3.perm.length_eq; omega) x (k := k + 1) (by have := p3.perm.length_eq; omega)
    rw [← p3.perm.length_eq] at e2
    rw [show decide (x ∈ lw') = decide (x ∈ lq') from decide_eq_decide.2 p3.perm.mem_iff.symm] at e4
    refine ⟨?_, H2, al1', al2', lq', lw', ?eq, p3, by omega, d3, d4, d5, ?_, ?_, ?_, ?_, ?_⟩
    case eq =>
      unfold i9l0
      repeat ((first | rw [evSeq_go] | rw [evSeq_none] | rw [evSeq_guard] | rw [evC_region] | rw [evC_seq] | rw [evC_cond] | rw [evC_block] | rw [evSeq_chk] | rw [evSeq_gchk]); try simp only [undef, Array.size_empty, evSeq_nil, isCall_mv, isCall_pick, isCall_alloc, isCall_box, isCall_build, isCall_bslice, isCall_load, isCall_store, isCall_nilchk, isCall_bin, isCall_un, isCall_conv, isCall_mkfn, isCall_mkslice, isCall_slice, isCall_strslice, isCall_faddr, isCall_field, isCall_iaddr, isCall_aaddr, isCall_aindex, isCall_strindex, isCall_ext, isCall_len, isCall_strlen, isCall_const, isCall_append, isCall_minmax, isCall_copy, isCall_call, evI, Opd.ev, rd_set, rd_nil, cond_true, cond_false, Nat.reduceEqDiff, Nat.reduceAdd, Nat.reduceMul, Nat.add_zero, Nat.zero_add, Nat.mul_one, if_true, if_false, reduceIte, binV, intBin, eqBy, Abs.ptrEq, Abs.slcEq, Abs.fncEq, leafEq, unV, Option.map_some, Option.map_none, Option.isNone_none, Option.isNone_some, Bool.not_true, Bool.not_false, beq_self_eq_true, List.getElem?_cons_zero, List.getElem?_cons_succ, evRes, packRes, List.map_cons, List.map_nil, Heap.loadv, Bool.false_eq_true, List.getElem?_toArray, decide_true, decide_false, List.append_nil, List.nil_append, List.cons_append, List.toList_toArray, Bool.beq_eq_decide_eq, reduceCtorEq, Heap.storev, cells_int, cells_bool, cells_string, cells_pointer, cells_slice, cells_func, cells_nilFunc, cells_agg, ok_int, ok_bool, ok_string, ok_pointer, ok_slice, ok_func, ok_nilFunc, ok_agg, size_one, toList_one, Heap.get_put, Heap.size_put, Heap.size_ext, iaddrV, true_and, and_true, eq_self, evC_skip, evC_exit, evC_ret, ext_zero, Option.map_map, Function.comp_def, List.size_toArray, List.length_cons, List.length_nil, not_true_eq_false, not_false_eq_true, ne_eq, t0, t1, t15, t16, t17, hi', hw, Int.natCast_nonneg, Int.toNat_natCast, hE, hc1, hc2, np, hok, Tr.get_set, set2_0, hYe, cY, ha, d1, d2, p1, p2, e1, e2, e3, e4, toList_nil, veq_int, Nat.reduceLeDiff, bne_self_eq_false])
      rfl
    all_goals simp only [rd_set, Nat.reduceEqDiff, if_false, if_true, t0, t1, t15, t16, t17]

theorem RdT.lvl {H : Abs.Heap} {v : Value} {n : Nat} {A : List Nat} (h : RdT H v n A) : ∃ a cap, v = .slice a n cap := by
  rcases h with ⟨h | h, rfl⟩ | ⟨o, off, m, cap, e, r, cs, h, _⟩
  · exact ⟨none, 0, h⟩
  · exact ⟨_, 0, h⟩
  · exact ⟨_, cap, h⟩

theorem play_ev {H : Abs.Heap} {al1 al2 : List Nat} {q w n : Nat} {ro : Option (List Int)} {N : Nat} {va : Value} (hA : RdT H va n (al1 ++ al2)) (hn : n ≤ 1000)
    (P : PL H al1 al2 q w [] [] ro N) {k : Nat} (hk : 2000 ≤ k) :
    ∃ H', evF Γ ov (k + 1) 9 [.pointer (some ⟨q, 0, none⟩), .pointer (some ⟨w, 0, none⟩), va] H = some (.bool true, H') := by
  obtain ⟨a, cap, hva⟩ := hA.lvl
  have hloop := fun (T : Tr Value) (t0 : rd T 0 = .pointer (some ⟨q, 0, none⟩)) (t1 : rd T 1 = .pointer (some ⟨w, 0, none⟩)) (t15 : rd T 15 = va) (t16 : rd T 16 = (Value.int .i64 ((n : Nat)))) (t17 : rd T 17 = (Value.int .i64 (0))) =>
    loop_run (cl := evF Γ ov k) (n := k) (c := i9l0)
    (fun m T X => rd T 0 = .pointer (some ⟨q, 0, none⟩) ∧ rd T 1 = .pointer (some ⟨w, 0, none⟩) ∧ rd T 15 = va ∧ rd T 16 = (Value.int .i64 ((n : Nat))) ∧ ∃ i : Nat, rd T 17 = (Value.int .i64 (i)) ∧ m + i = n ∧ ∃ b1 b2 lq lw, PL X b1 b2 q w lq lw ro N ∧ lq.length ≤ i ∧ Fr (al1 ++ al2) H X ∧ Grow H (al1 ++ al2) b1 ∧ Grow H (al1 ++ al2) b2)
    (fun e T X => e = .exit 0)
    (fun m T X ⟨t0, t1, t15, t16, i, t17, hm, b1, b2, lq, lw, P', hl, hF, G1, G2⟩ => by
      by_cases d : i < n
      · obtain ⟨T', X', c1, c2, lq', lw', s1, s2, s3, s4, s5, s6, s7, s8, s9, s10, s11⟩ := play_step hA hn d P' hl hF G1 G2 hk (n' := k) t0 t1 t15 t16 t17
        exact ⟨_, s1, m - 1, by omega, s7, s8, s9, s10, i + 1, s11, by omega, c1, c2, lq', lw', s2, s3, s4, s5, s6⟩
      · have d' : ¬ (i : Int) < (n : Nat) := by omega
        refine ⟨?_, ?eq, ?post⟩
        case eq =>
          unfold i9l0
          repeat ((first | rw [evSeq_go] | rw [evSeq_none] | rw [evSeq_guard] | rw [evC_region] | rw [evC_seq] | rw [evC_cond] | rw [evC_block]); try simp only [undef, Array.size_empty, evSeq_nil, isCall_mv, isCall_pick, isCall_alloc, isCall_box, isCall_build, isCall_bslice, isCall_load, isCall_store, isCall_nilchk, isCall_bin, isCall_un, isCall_conv, isCall_mkfn, isCall_mkslice, isCall_slice, isCall_strslice, isCall_faddr, isCall_field, isCall_iaddr, isCall_aaddr, isCall_aindex, isCall_strindex, isCall_ext, isCall_len, isCall_strlen, isCall_const, isCall_append, isCall_minmax, isCall_copy, isCall_call, evI, Opd.ev, rd_set, rd_nil, cond_true, cond_false, Nat.reduceEqDiff, Nat.reduceAdd, Nat.reduceMul, Nat.add_zero, Nat.zero_add, Nat.mul_one, if_true, if_false, reduceIte, binV, intBin, eqBy, Abs.ptrEq, Abs.slcEq, Abs.fncEq, leafEq, unV, Option.map_some, Option.map_none, Option.isNone_none, Option.isNone_some, Bool.not_true, Bool.not_false, beq_self_eq_true, List.getElem?_cons_zero, List.getElem?_cons_succ, evRes, packRes, List.map_cons, List.map_nil, Heap.loadv, Bool.false_eq_true, List.getElem?_toArray, decide_true, decide_false, List.append_nil, List.nil_append, List.cons_append, List.toList_toArray, Bool.beq_eq_decide_eq, reduceCtorEq, Heap.storev, cells_int, cells_bool, cells_string, cells_pointer, cells_slice, cells_func, cells_nilFunc, cells_agg, ok_int, ok_bool, ok_string, ok_pointer, ok_slice, ok_func, ok_nilFunc, ok_agg, size_one, toList_one, Heap.get_put, Heap.size_put, Heap.size_ext, iaddrV, true_and, and_true, eq_self, evC_skip, evC_exit, evC_ret, ext_zero, Option.map_map, Function.comp_def, List.size_toArray, List.length_cons, List.length_nil, not_true_eq_false, not_false_eq_true, ne_eq, t16, t17, d'])
          rfl
        case post => rfl)
    n T H ⟨t0, t1, t15, t16, 0, t17, by omega, al1, al2, [], [], P, by simp, Fr.refl _ _, fun x hx => .inl (List.mem_append_left _ hx), fun x hx => .inl (List.mem_append_right _ hx)⟩ (by omega)
  have main : Runs (evF Γ ov k) k i9.body (Tr.ofList [.pointer (some ⟨q, 0, none⟩), .pointer (some ⟨w, 0, none⟩), va] 0 .nil) H fun e T X => (e = .normal ∨ e = .ret) ∧ rd T 6 = .bool true := by
    simp only [i9, Tr.ofList]
    subst hva
    refine Runs.seqN1 (r := ?_) ?e1 ?_; (case e1 => (((repeat ((first | rw [evSeq_go] | rw [evSeq_none] | rw [evSeq_guard] | rw [evC_region] | rw [evC_seq] | rw [evC_cond] | rw [evC_block]); try simp only [undef, Array.size_empty, evSeq_nil, isCall_mv, isCall_pick, isCall_alloc, isCall_box, isCall_build, isCall_bslice, isCall_load, isCall_store, isCall_nilchk, isCall_bin, isCall_un, isCall_conv, isCall_mkfn, isCall_mkslice, isCall_slice, isCall_strslice, isCall_faddr, isCall_field, isCall_iaddr, isCall_aaddr, isCall_aindex, isCall_strindex, isCall_ext, isCall_len, isCall_strlen, isCall_const, isCall_append, isCall_minmax, isCall_copy, isCall_call, evI, Opd.ev, rd_set, rd_nil, cond_true, cond_false, Nat.reduceEqDiff, Nat.reduceAdd, Nat.reduceMul, Nat.add_zero, Nat.zero_add, Nat.mul_one, if_true, if_false, reduceIte, binV, intBin, eqBy, Abs.ptrEq, Abs.slcEq, Abs.fncEq, leafEq, unV, Option.map_some, Option.map_none, Option.isNone_none, Option.isNone_some, Bool.not_true, Bool.not_false, beq_self_eq_true, List.getElem?_cons_zero, List.getElem?_cons_succ, evRes, packRes, List.map_cons, List.map_nil, Heap.loadv, Bool.false_eq_true, List.getElem?_toArray, decide_true, decide_false, List.append_nil, List.nil_append, List.cons_append, List.toList_toArray, Bool.beq_eq_decide_eq, reduceCtorEq, Heap.storev, cells_int, cells_bool, cells_string, cells_pointer, cells_slice, cells_func, cells_nilFunc, cells_agg, ok_int, ok_bool, ok_string, ok_pointer, ok_slice, ok_func, ok_nilFunc, ok_agg, size_one, toList_one, Heap.get_put, Heap.size_put, Heap.size_ext, iaddrV, true_and, and_true, eq_self, evC_skip, evC_exit, evC_ret, ext_zero, Option.map_map, Function.comp_def, List.size_toArray, List.length_cons, List.length_nil, not_true_eq_false, not_false_eq_true, ne_eq])); try rfl))); show Runs _ _ _ _ _ _
    refine Runs.seqN1 (r := ?_) ?e2 ?_; (case e2 => (((repeat ((first | rw [evSeq_go] | rw [evSeq_none] | rw [evSeq_guard] | rw [evC_region] | rw [evC_seq] | rw [evC_cond] | rw [evC_block]); try simp only [undef, Array.size_empty, evSeq_nil, isCall_mv, isCall_pick, isCall_alloc, isCall_box, isCall_build, isCall_bslice, isCall_load, isCall_store, isCall_nilchk, isCall_bin, isCall_un, isCall_conv, isCall_mkfn, isCall_mkslice, isCall_slice, isCall_strslice, isCall_faddr, isCall_field, isCall_iaddr, isCall_aaddr, isCall_aindex, isCall_strindex, isCall_ext, isCall_len, isCall_strlen, isCall_const, isCall_append, isCall_minmax, isCall_copy, isCall_call, evI, Opd.ev, rd_set, rd_nil, cond_true, cond_false, Nat.reduceEqDiff, Nat.reduceAdd, Nat.reduceMul, Nat.add_zero, Nat.zero_add, Nat.mul_one, if_true, if_false, reduceIte, binV, intBin, eqBy, Abs.ptrEq, Abs.slcEq, Abs.fncEq, leafEq, unV, Option.map_some, Option.map_none, Option.isNone_none, Option.isNone_some, Bool.not_true, Bool.not_false, beq_self_eq_true, List.getElem?_cons_zero, List.getElem?_cons_succ, evRes, packRes, List.map_cons, List.map_nil, Heap.loadv, Bool.false_eq_true, List.getElem?_toArray, decide_true, decide_false, List.append_nil, List.nil_append, List.cons_append, List.toList_toArray, Bool.beq_eq_decide_eq, reduceCtorEq, Heap.storev, cells_int, cells_bool, cells_string, cells_pointer, cells_slice, cells_func, cells_nilFunc, cells_agg, ok_int, ok_bool, ok_string, ok_pointer, ok_slice, ok_func, ok_nilFunc, ok_agg, size_one, toList_one, Heap.get_put, Heap.size_put, Heap.size_ext, iaddrV, true_and, and_true, eq_self, evC_skip, evC_exit, evC_ret, ext_zero, Option.map_map, Function.comp_def, List.size_toArray, List.length_cons, List.length_nil, not_true_eq_false, not_false_eq_true, ne_eq])); try rfl))); show Runs _ _ _ _ _ _
    refine Runs.assoc ?_
    refine Runs.seqN1 (r := ?_) ?e3 ?_; (case e3 => (((repeat ((first | rw [evSeq_go] | rw [evSeq_none] | rw [evSeq_guard] | rw [evC_region] | rw [evC_seq] | rw [evC_cond] | rw [evC_block]); try simp only [undef, Array.size_empty, evSeq_nil, isCall_mv, isCall_pick, isCall_alloc, isCall_box, isCall_build, isCall_bslice, isCall_load, isCall_store, isCall_nilchk, isCall_bin, isCall_un, isCall_conv, isCall_mkfn, isCall_mkslice, isCall_slice, isCall_strslice, isCall_faddr, isCall_field, isCall_iaddr, isCall_aaddr, isCall_aindex, isCall_strindex, isCall_ext, isCall_len, isCall_strlen, isCall_const, isCall_append, isCall_minmax, isCall_copy, isCall_call, evI, Opd.ev, rd_set, rd_nil, cond_true, cond_false, Nat.reduceEqDiff, Nat.reduceAdd, Nat.reduceMul, Nat.add_zero, Nat.zero_add, Nat.mul_one, if_true, if_false, reduceIte, binV, intBin, eqBy, Abs.ptrEq, Abs.slcEq, Abs.fncEq, leafEq, unV, Option.map_some, Option.map_none, Option.isNone_none, Option.isNone_some, Bool.not_true, Bool.not_false, beq_self_eq_true, List.getElem?_cons_zero, List.getElem?_cons_succ, evRes, packRes, List.map_cons, List.map_nil, Heap.loadv, Bool.false_eq_true, List.getElem?_toArray, decide_true, decide_false, List.append_nil, List.nil_append, List.cons_append, List.toList_toArray, Bool.beq_eq_decide_eq, reduceCtorEq, Heap.storev, cells_int, cells_bool, cells_string, cells_pointer, cells_slice, cells_func, cells_nilFunc, cells_agg, ok_int, ok_bool, ok_string, ok_pointer, ok_slice, ok_func, ok_nilFunc, ok_agg, size_one, toList_one, Heap.get_put, Heap.size_put, Heap.size_ext, iaddrV, true_and, and_true, eq_self, evC_skip, evC_exit, evC_ret, ext_zero, Option.map_map, Function.comp_def, List.size_toArray, List.length_cons, List.length_nil, not_true_eq_false, not_false_eq_true, ne_eq])); try rfl))); show Runs _ _ _ _ _ _
    refine Runs.loop (hloop _ ?_ ?_ ?_ ?_ ?_) ?_ ?_
    · simp only [rd_set, Nat.reduceEqDiff, if_false, if_true]
    · simp only [rd_set, Nat.reduceEqDiff, if_false, if_true]
    · simp only [rd_set, Nat.reduceEqDiff, if_false, if_true]
    · simp only [rd_set, Nat.reduceEqDiff, if_false, if_true]
    · simp only [rd_set, Nat.reduceEqDiff, if_false, if_true]
    · intro T' H' _
      refine Runs.of1 (r := ?_) ?e4 ?_; (case e4 => (((repeat ((first | rw [evSeq_go] | rw [evSeq_none] | rw [evSeq_guard] | rw [evC_region] | rw [evC_seq] | rw [evC_cond] | rw [evC_block]); try simp only [undef, Array.size_empty, evSeq_nil, isCall_mv, isCall_pick, isCall_alloc, isCall_box, isCall_build, isCall_bslice, isCall_load, isCall_store, isCall_nilchk, isCall_bin, isCall_un, isCall_conv, isCall_mkfn, isCall_mkslice, isCall_slice, isCall_strslice, isCall_faddr, isCall_field, isCall_iaddr, isCall_aaddr, isCall_aindex, isCall_strindex, isCall_ext, isCall_len, isCall_strlen, isCall_const, isCall_append, isCall_minmax, isCall_copy, isCall_call, evI, Opd.ev, rd_set, rd_nil, cond_true, cond_false, Nat.reduceEqDiff, Nat.reduceAdd, Nat.reduceMul, Nat.add_zero, Nat.zero_add, Nat.mul_one, if_true, if_false, reduceIte, binV, intBin, eqBy, Abs.ptrEq, Abs.slcEq, Abs.fncEq, leafEq, unV, Option.map_some, Option.map_none, Option.isNone_none, Option.isNone_some, Bool.not_true, Bool.not_false, beq_self_eq_true, List.getElem?_cons_zero, List.getElem?_cons_succ, evRes, packRes, List.map_cons, List.map_nil, Heap.loadv, Bool.false_eq_true, List.getElem?_toArray, decide_true, decide_false, List.append_nil, List.nil_append, List.cons_append, List.toList_toArray, Bool.beq_eq_decide_eq, reduceCtorEq, Heap.storev, cells_int, cells_bool, cells_string, cells_pointer, cells_slice, cells_func, cells_nilFunc, cells_agg, ok_int, ok_bool, ok_string, ok_pointer, ok_slice, ok_func, ok_nilFunc, ok_agg, size_one, toList_one, Heap.get_put, Heap.size_put, Heap.size_ext, iaddrV, true_and, and_true, eq_self, evC_skip, evC_exit, evC_ret, ext_zero, Option.map_map, Function.comp_def, List.size_toArray, List.length_cons, List.length_nil, not_true_eq_false, not_false_eq_true, ne_eq])); try rfl)))
      exact ⟨.inr rfl, by simp only [rd_set, Nat.reduceEqDiff, if_false, if_true]⟩
    · intro e T' H' _ hne he
      exact absurd he hne
  obtain ⟨e, T, X, h1, h2, h3⟩ := main
  refine ⟨X, evF_of (fn := i9) (ov_ne 9 _ _ (by decide)) rfl ⟨e, T, X, h1, h2, rfl, ?_⟩⟩
  simp only [i9, undef, Array.size_empty, evSeq_nil, isCall_mv, isCall_pick, isCall_alloc, isCall_box, isCall_build, isCall_bslice, isCall_load, isCall_store, isCall_nilchk, isCall_bin, isCall_un, isCall_conv, isCall_mkfn, isCall_mkslice, isCall_slice, isCall_strslice, isCall_faddr, isCall_field, isCall_iaddr, isCall_aaddr, isCall_aindex, isCall_strindex, isCall_ext, isCall_len, isCall_strlen, isCall_const, isCall_append, isCall_minmax, isCall_copy, isCall_call, evI, Opd.ev, rd_set, rd_nil, cond_true, cond_false, Nat.reduceEqDiff, Nat.reduceAdd, Nat.reduceMul, Nat.add_zero, Nat.zero_add, Nat.mul_one, if_true, if_false, reduceIte, binV, intBin, eqBy, Abs.ptrEq, Abs.slcEq, Abs.fncEq, leafEq, unV, Option.map_some, Option.map_none, Option.isNone_none, Option.isNone_some, Bool.not_true, Bool.not_false, beq_self_eq_true, List.getElem?_cons_zero, List.getElem?_cons_succ, evRes, packRes, List.map_cons, List.map_nil, Heap.loadv, Bool.false_eq_true, List.getElem?_toArray, decide_true, decide_false, List.append_nil, List.nil_append, List.cons_append, List.toList_toArray, Bool.beq_eq_decide_eq, reduceCtorEq, Heap.storev, cells_int, cells_bool, cells_string, cells_pointer, cells_slice, cells_func, cells_nilFunc, cells_agg, ok_int, ok_bool, ok_string, ok_pointer, ok_slice, ok_func, ok_nilFunc, ok_agg, size_one, toList_one, Heap.get_put, Heap.size_put, Heap.size_ext, iaddrV, true_and, and_true, eq_self, evC_skip, evC_exit, evC_ret, ext_zero, Option.map_map, Function.comp_def, List.size_toArray, List.length_cons, List.length_nil, not_true_eq_false, not_false_eq_true, ne_eq, h3]

end Go.Proofs.Ytmgkdnncjapejaa.Ab
