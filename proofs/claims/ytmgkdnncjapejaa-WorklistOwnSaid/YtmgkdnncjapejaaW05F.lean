/- A part of the proof that the law answers true at every input: the text W05F; no conditions. -/
import Derived.Test.YtmgkdnncjapejaaW05R
import Derived.Test.YtmgkdnncjapejaaW05K
set_option linter.unusedSimpArgs false
set_option linter.unusedVariables false
namespace Go.Proofs.Ytmgkdnncjapejaa.Ab
open Go Go.Proofs.Ytmgkdnncjapejaa.Abs Go.Proofs.Ytmgkdnncjapejaa.Abs.W05
set_option maxRecDepth 100000
set_option maxHeartbeats 4000000

/-- Integers that are read through a slice of object o. -/
def RdO (H : Abs.Heap) (v : Value) (r : List Int) (o : Nat) : Prop :=
  (v = .slice none 0 0 ∧ r = []) ∨ ∃ off m cap e r' cs, v = .slice (some ⟨o, off, some m⟩) r.length cap ∧ H.get o = some (.cells e r' cs) ∧ ∀ i, i < r.length → cs[off + i]? = some (Value.int .i64 (g r i))
theorem RdO.fr {H Y : Abs.Heap} {v : Value} {r : List Int} {o : Nat} (h : RdO H v r o) (he : Y.get o = H.get o) : RdO Y v r o := by
  rcases h with h | ⟨off, m, cap, e, r', cs, h1, h2, h3⟩
  · exact .inl h
  · exact .inr ⟨off, m, cap, e, r', cs, h1, by rw [he]; exact h2, h3⟩

def RRanks (H : Abs.Heap) (al fp : List Nat) (rk : Bool) (rv : Value) (N : Nat) : Option (List Int) → Prop
  | none => rk = false
  | some r => rk = true ∧ r.length = N ∧ ∃ o, o ∈ al ∧ o ∉ fp ∧ RdO H rv r o

structure RB (H : Abs.Heap) (al fp : List Nat) (q : Nat) (l : List Int) (lv rv : Value) (rk : Bool) (ro : Option (List Int)) (N : Nat) : Prop where
  qo : H.get q = some (.cells 48 false [.bool true, .bool rk, (Value.int .i64 ((N : Nat))), rv, lv])
  ls : (lv = .slice none 0 0 ∧ l = []) ∨ ∃ o off m cap e cs, lv = .slice (some ⟨o, off, some m⟩) l.length cap ∧ (m = 2 ∨ m = 3) ∧ l.length ≤ cap ∧ H.get o = some (.cells e false cs) ∧ off + cap ≤ cs.length ∧
    (∀ i, i < l.length → cs[off + i]? = some (Value.int .i64 (g l i))) ∧ o ∈ fp ∧ o ≠ q
  qf : q ∈ fp
  sub : ∀ x ∈ fp, x ∈ al
  lal : ∀ x ∈ al, x < H.size
  inn : ∀ x ∈ l, 0 ≤ x ∧ x < (N : Int)
  rks : RRanks H al fp rk rv N ro

/-- The reference's queue at q holds l, in the order of arrival. -/
def RS (H : Abs.Heap) (al : List Nat) (q : Nat) (l : List Int) (ro : Option (List Int)) (N : Nat) : Prop :=
  ∃ fp lv rv rk, RB H al fp q l lv rv rk ro N

theorem RS.fr {H Y : Abs.Heap} {al gp : List Nat} {q : Nat} {l : List Int} {ro : Option (List Int)} {N : Nat} (Q : RS H al q l ro N) (hf : Fr gp H Y) (hd : ∀ x ∈ al, x ∉ gp) : RS Y al q l ro N := by
  obtain ⟨fp, lv, rv, rk, Q⟩ := Q
  have he : ∀ x ∈ al, Y.get x = H.get x := fun x hx => hf.2 x (Q.lal x hx) (hd x hx)
  obtain ⟨qo, ls, qf, sub, lal, inn, rks⟩ := Q
  refine ⟨fp, lv, rv, rk, by rw [he _ (sub _ qf)]; exact qo, ?_, qf, sub, fun x hx => Nat.lt_of_lt_of_le (lal x hx) hf.1, inn, ?_⟩
  · rcases ls with ls | ⟨o, off, m, cap, e, cs, h1, h2, h3, h4, h5, h6, h7, h8⟩
    · exact .inl ls
    · exact .inr ⟨o, off, m, cap, e, cs, h1, h2, h3, by rw [he _ (sub _ h7)]; exact h4, h5, h6, h7, h8⟩
  · cases ro with
    | none => exact rks
    | some r =>
      obtain ⟨h1, h2, o, h3, h4, h5⟩ := rks
      exact ⟨h1, h2, o, h3, h4, h5.fr (he _ h3)⟩

theorem RB.lvl {H : Abs.Heap} {al fp : List Nat} {q : Nat} {l : List Int} {lv rv : Value} {rk : Bool} {ro : Option (List Int)} {N : Nat} (Q : RB H al fp q l lv rv rk ro N) : ∃ a cap, lv = .slice a l.length cap := by
  rcases Q.ls with ⟨h, rfl⟩ | ⟨o, off, m, cap, e, cs, h, _⟩
  · exact ⟨none, 0, h⟩
  · exact ⟨_, cap, h⟩

theorem cap_ev (H : Abs.Heap) (n : Int) (k : Nat) : evF Γ ov (k + 1) 23 [(Value.int .i64 (n))] H = some ((Value.int .i64 ((capN n : Nat))), H) := by
  rw [evF, ov_ne 23 _ _ (by decide)]
  simp only [evB, Γ, i23, Tr.ofList]
  by_cases h0 : n < 0
  · have e : capN n = 0 := by simp [capN, h0]
    rw [e]
    repeat ((first | rw [evSeq_go] | rw [evSeq_none] | rw [evSeq_guard] | rw [evC_region] | rw [evC_seq] | rw [evC_cond] | rw [evC_block]); try simp only [undef, Array.size_empty, evSeq_nil, isCall_mv, isCall_pick, isCall_alloc, isCall_box, isCall_build, isCall_bslice, isCall_load, isCall_store, isCall_nilchk, isCall_bin, isCall_un, isCall_conv, isCall_mkfn, isCall_mkslice, isCall_slice, isCall_strslice, isCall_faddr, isCall_field, isCall_iaddr, isCall_aaddr, isCall_aindex, isCall_strindex, isCall_ext, isCall_len, isCall_strlen, isCall_const, isCall_append, isCall_minmax, isCall_copy, isCall_call, evI, Opd.ev, rd_set, rd_nil, cond_true, cond_false, Nat.reduceEqDiff, Nat.reduceAdd, Nat.reduceMul, Nat.add_zero, Nat.zero_add, Nat.mul_one, if_true, if_false, reduceIte, binV, intBin, eqBy, Abs.ptrEq, Abs.slcEq, Abs.fncEq, leafEq, unV, Option.map_some, Option.map_none, Option.isNone_none, Option.isNone_some, Bool.not_true, Bool.not_false, beq_self_eq_true, List.getElem?_cons_zero, List.getElem?_cons_succ, evRes, packRes, List.map_cons, List.map_nil, Heap.loadv, Bool.false_eq_true, List.getElem?_toArray, decide_true, decide_false, List.append_nil, List.nil_append, List.cons_append, List.toList_toArray, Bool.beq_eq_decide_eq, reduceCtorEq, Heap.storev, cells_int, cells_bool, cells_string, cells_pointer, cells_slice, cells_func, cells_nilFunc, cells_agg, ok_int, ok_bool, ok_string, ok_pointer, ok_slice, ok_func, ok_nilFunc, ok_agg, size_one, toList_one, Heap.get_put, Heap.size_put, Heap.size_ext, iaddrV, true_and, and_true, eq_self, evC_skip, evC_exit, evC_ret, ext_zero, Option.map_map, Function.comp_def, List.size_toArray, List.length_cons, List.length_nil, not_true_eq_false, not_false_eq_true, ne_eq, h0])
    rfl
  · by_cases h1 : n > 65536
    · have e : capN n = 65536 := by simp [capN, h0, h1]
      rw [e]
      repeat ((first | rw [evSeq_go] | rw [evSeq_none] | rw [evSeq_guard] | rw [evC_region] | rw [evC_seq] | rw [evC_cond] | rw [evC_block]); try simp only [undef, Array.size_empty, evSeq_nil, isCall_mv, isCall_pick, isCall_alloc, isCall_box, isCall_build, isCall_bslice, isCall_load, isCall_store, isCall_nilchk, isCall_bin, isCall_un, isCall_conv, isCall_mkfn, isCall_mkslice, isCall_slice, isCall_strslice, isCall_faddr, isCall_field, isCall_iaddr, isCall_aaddr, isCall_aindex, isCall_strindex, isCall_ext, isCall_len, isCall_strlen, isCall_const, isCall_append, isCall_minmax, isCall_copy, isCall_call, evI, Opd.ev, rd_set, rd_nil, cond_true, cond_false, Nat.reduceEqDiff, Nat.reduceAdd, Nat.reduceMul, Nat.add_zero, Nat.zero_add, Nat.mul_one, if_true, if_false, reduceIte, binV, intBin, eqBy, Abs.ptrEq, Abs.slcEq, Abs.fncEq, leafEq, unV, Option.map_some, Option.map_none, Option.isNone_none, Option.isNone_some, Bool.not_true, Bool.not_false, beq_self_eq_true, List.getElem?_cons_zero, List.getElem?_cons_succ, evRes, packRes, List.map_cons, List.map_nil, Heap.loadv, Bool.false_eq_true, List.getElem?_toArray, decide_true, decide_false, List.append_nil, List.nil_append, List.cons_append, List.toList_toArray, Bool.beq_eq_decide_eq, reduceCtorEq, Heap.storev, cells_int, cells_bool, cells_string, cells_pointer, cells_slice, cells_func, cells_nilFunc, cells_agg, ok_int, ok_bool, ok_string, ok_pointer, ok_slice, ok_func, ok_nilFunc, ok_agg, size_one, toList_one, Heap.get_put, Heap.size_put, Heap.size_ext, iaddrV, true_and, and_true, eq_self, evC_skip, evC_exit, evC_ret, ext_zero, Option.map_map, Function.comp_def, List.size_toArray, List.length_cons, List.length_nil, not_true_eq_false, not_false_eq_true, ne_eq, h0, h1])
      rfl
    · have e : ((capN n : Nat) : Int) = n := by simp [capN, h0, h1]; omega
      rw [e]
      repeat ((first | rw [evSeq_go] | rw [evSeq_none] | rw [evSeq_guard] | rw [evC_region] | rw [evC_seq] | rw [evC_cond] | rw [evC_block]); try simp only [undef, Array.size_empty, evSeq_nil, isCall_mv, isCall_pick, isCall_alloc, isCall_box, isCall_build, isCall_bslice, isCall_load, isCall_store, isCall_nilchk, isCall_bin, isCall_un, isCall_conv, isCall_mkfn, isCall_mkslice, isCall_slice, isCall_strslice, isCall_faddr, isCall_field, isCall_iaddr, isCall_aaddr, isCall_aindex, isCall_strindex, isCall_ext, isCall_len, isCall_strlen, isCall_const, isCall_append, isCall_minmax, isCall_copy, isCall_call, evI, Opd.ev, rd_set, rd_nil, cond_true, cond_false, Nat.reduceEqDiff, Nat.reduceAdd, Nat.reduceMul, Nat.add_zero, Nat.zero_add, Nat.mul_one, if_true, if_false, reduceIte, binV, intBin, eqBy, Abs.ptrEq, Abs.slcEq, Abs.fncEq, leafEq, unV, Option.map_some, Option.map_none, Option.isNone_none, Option.isNone_some, Bool.not_true, Bool.not_false, beq_self_eq_true, List.getElem?_cons_zero, List.getElem?_cons_succ, evRes, packRes, List.map_cons, List.map_nil, Heap.loadv, Bool.false_eq_true, List.getElem?_toArray, decide_true, decide_false, List.append_nil, List.nil_append, List.cons_append, List.toList_toArray, Bool.beq_eq_decide_eq, reduceCtorEq, Heap.storev, cells_int, cells_bool, cells_string, cells_pointer, cells_slice, cells_func, cells_nilFunc, cells_agg, ok_int, ok_bool, ok_string, ok_pointer, ok_slice, ok_func, ok_nilFunc, ok_agg, size_one, toList_one, Heap.get_put, Heap.size_put, Heap.size_ext, iaddrV, true_and, and_true, eq_self, evC_skip, evC_exit, evC_ret, ext_zero, Option.map_map, Function.comp_def, List.size_toArray, List.length_cons, List.length_nil, not_true_eq_false, not_false_eq_true, ne_eq, h0, h1])

theorem rlen_ev {H : Abs.Heap} {al : List Nat} {q : Nat} {l : List Int} {ro : Option (List Int)} {N : Nat} (Q : RS H al q l ro N) (k : Nat) :
    evF Γ ov (k + 1) 20 [.pointer (some ⟨q, 0, none⟩)] H = some ((Value.int .i64 (l.length)), H) := by
  obtain ⟨fp, lv, rv, rk, Q⟩ := Q
  have qo := Q.qo
  obtain ⟨a, cap, hlv⟩ := Q.lvl
  subst hlv
  rw [evF, ov_ne 20 _ _ (by decide)]
  simp only [evB, Γ, i20, Tr.ofList]
  repeat ((first | rw [evSeq_go] | rw [evSeq_none] | rw [evSeq_guard] | rw [evC_region] | rw [evC_seq] | rw [evC_cond] | rw [evC_block]); try simp only [undef, Array.size_empty, evSeq_nil, isCall_mv, isCall_pick, isCall_alloc, isCall_box, isCall_build, isCall_bslice, isCall_load, isCall_store, isCall_nilchk, isCall_bin, isCall_un, isCall_conv, isCall_mkfn, isCall_mkslice, isCall_slice, isCall_strslice, isCall_faddr, isCall_field, isCall_iaddr, isCall_aaddr, isCall_aindex, isCall_strindex, isCall_ext, isCall_len, isCall_strlen, isCall_const, isCall_append, isCall_minmax, isCall_copy, isCall_call, evI, Opd.ev, rd_set, rd_nil, cond_true, cond_false, Nat.reduceEqDiff, Nat.reduceAdd, Nat.reduceMul, Nat.add_zero, Nat.zero_add, Nat.mul_one, if_true, if_false, reduceIte, binV, intBin, eqBy, Abs.ptrEq, Abs.slcEq, Abs.fncEq, leafEq, unV, Option.map_some, Option.map_none, Option.isNone_none, Option.isNone_some, Bool.not_true, Bool.not_false, beq_self_eq_true, List.getElem?_cons_zero, List.getElem?_cons_succ, evRes, packRes, List.map_cons, List.map_nil, Heap.loadv, Bool.false_eq_true, List.getElem?_toArray, decide_true, decide_false, List.append_nil, List.nil_append, List.cons_append, List.toList_toArray, Bool.beq_eq_decide_eq, reduceCtorEq, Heap.storev, cells_int, cells_bool, cells_string, cells_pointer, cells_slice, cells_func, cells_nilFunc, cells_agg, ok_int, ok_bool, ok_string, ok_pointer, ok_slice, ok_func, ok_nilFunc, ok_agg, size_one, toList_one, Heap.get_put, Heap.size_put, Heap.size_ext, iaddrV, true_and, and_true, eq_self, evC_skip, evC_exit, evC_ret, ext_zero, Option.map_map, Function.comp_def, List.size_toArray, List.length_cons, List.length_nil, not_true_eq_false, not_false_eq_true, ne_eq, qo])

theorem rnew_ev (H : Abs.Heap) (n : Int) (k : Nat) :
    ∃ H', evF Γ ov (k + 2) 11 [(Value.int .i64 (n))] H = some (.pointer (some ⟨H.size, 0, none⟩), H') ∧ RS H' [H.size] H.size [] none (capN n) ∧ Fr [] H H' ∧ H'.size = H.size + 1 := by
  have hc := cap_ev (Heap.ext 1 H) n k
  have np := fun o => new_pend (o := o) (ext_new0 (n := 1) (H := H) (by omega))
  have fq : fillP [.bool false, .bool false, (Value.int .i64 (0)), .slice none 0 0, .slice none 0 0].toArray [(0, 1, .bool true), (2, 1, (Value.int .i64 ((capN n : Nat))))] = some #[.bool true, .bool false, (Value.int .i64 ((capN n : Nat))), .slice none 0 0, .slice none 0 0] := rfl
  have pp : ∀ T a b c d e f, evParts T [(a, b, c), (d, e, f)] = [(a, b, c.ev T), (d, e, f.ev T)] := fun _ _ _ _ _ _ _ => rfl
  have oka : okAll (.agg #[.bool true, .bool false, (Value.int .i64 ((capN n : Nat))), .slice none 0 0, .slice none 0 0]) = true := rfl
  refine ⟨(Heap.ext 1 H).put H.size (.cells 48 false [.bool true, .bool false, (Value.int .i64 ((capN n : Nat))), .slice none 0 0, .slice none 0 0]), ?eq, ⟨[H.size], .slice none 0 0, .slice none 0 0, false, ?_, .inl ⟨rfl, rfl⟩, by simp, fun _ h => h, fun x hx => ?_, fun x hx => by simp at hx, rfl⟩, ⟨by rw [Heap.size_put, Heap.size_ext]; omega, fun i hi _ => ?_⟩, by rw [Heap.size_put, Heap.size_ext]⟩
  case eq =>
    rw [evF, ov_ne 11 _ _ (by decide)]
    simp only [evB, Γ, i11, Tr.ofList]
    repeat ((first | rw [evSeq_go] | rw [evSeq_none] | rw [evSeq_guard] | rw [evC_region] | rw [evC_seq] | rw [evC_cond] | rw [evC_block]); try simp only [undef, Array.size_empty, evSeq_nil, isCall_mv, isCall_pick, isCall_alloc, isCall_box, isCall_build, isCall_bslice, isCall_load, isCall_store, isCall_nilchk, isCall_bin, isCall_un, isCall_conv, isCall_mkfn, isCall_mkslice, isCall_slice, isCall_strslice, isCall_faddr, isCall_field, isCall_iaddr, isCall_aaddr, isCall_aindex, isCall_strindex, isCall_ext, isCall_len, isCall_strlen, isCall_const, isCall_append, isCall_minmax, isCall_copy, isCall_call, evI, Opd.ev, rd_set, rd_nil, cond_true, cond_false, Nat.reduceEqDiff, Nat.reduceAdd, Nat.reduceMul, Nat.add_zero, Nat.zero_add, Nat.mul_one, if_true, if_false, reduceIte, binV, intBin, eqBy, Abs.ptrEq, Abs.slcEq, Abs.fncEq, leafEq, unV, Option.map_some, Option.map_none, Option.isNone_none, Option.isNone_some, Bool.not_true, Bool.not_false, beq_self_eq_true, List.getElem?_cons_zero, List.getElem?_cons_succ, evRes, packRes, List.map_cons, List.map_nil, Heap.loadv, Bool.false_eq_true, List.getElem?_toArray, decide_true, decide_false, List.append_nil, List.nil_append, List.cons_append, List.toList_toArray, Bool.beq_eq_decide_eq, reduceCtorEq, Heap.storev, cells_int, cells_bool, cells_string, cells_pointer, cells_slice, cells_func, cells_nilFunc, cells_agg, ok_int, ok_bool, ok_string, ok_pointer, ok_slice, ok_func, ok_nilFunc, ok_agg, size_one, toList_one, Heap.get_put, Heap.size_put, Heap.size_ext, iaddrV, true_and, and_true, eq_self, evC_skip, evC_exit, evC_ret, ext_zero, Option.map_map, Function.comp_def, List.size_toArray, List.length_cons, List.length_nil, not_true_eq_false, not_false_eq_true, ne_eq, hc, toList_nil, np, pp, fq, oka])
  · rw [Heap.get_put, if_pos rfl]
  · rw [Heap.size_put, Heap.size_ext]; simp at hx; omega
  · rw [Heap.get_put, if_neg (by omega), ext_old hi]

/-- All of the caller's integers, copied. -/
theorem copy_all {X : Abs.Heap} {v : Value} {l : List Int} (h : RdA X v l) {b id : Nat} (hN2 : l.length ≤ 65536) (hid : X.get id = some .pend) {e0 : Nat} (hb : X.get b = some (.cells e0 false [])) :
    ∃ X' o cp m, X.append id 3 1 8 false (.slice (some ⟨b, 0, some 3⟩) 0 0) v = some (.slice (some ⟨o, 0, some m⟩) l.length cp, X') ∧ X'.size = X.size ∧ (∀ i, i ≠ id → X'.get i = X.get i) ∧ (o = b ∨ o = id) ∧
      (m = 2 ∨ m = 3) ∧ l.length ≤ cp ∧ ∃ e cs, X'.get o = some (.cells e false cs) ∧ cp ≤ cs.length ∧ ∀ i, i < l.length → cs[i]? = some (Value.int .i64 (g l i)) := by
  rcases h with ⟨rfl | rfl, rfl⟩ | ⟨o, off, m, cap, e, r, cs, rfl, h2, h3, h4, h5, h6, h7⟩
  · exact ⟨X, b, 0, 3, by simp [Heap.append, Heap.row], rfl, fun _ _ => rfl, .inl rfl, .inr rfl, by simp, e0, [], hb, by simp, fun i hi => by simp at hi⟩
  · exact ⟨X, b, 0, 3, by simp [Heap.append, Heap.row], rfl, fun _ _ => rfl, .inl rfl, .inr rfl, by simp, e0, [], hb, by simp, fun i hi => by simp at hi⟩
  · by_cases hz : l.length = 0
    · exact ⟨X, b, 0, 3, by simp [Heap.append, Heap.row, hz], rfl, fun _ _ => rfl, .inl rfl, .inr rfl, by omega, e0, [], hb, by simp, fun i hi => by omega⟩
    · have c2 : l.length * 8 ≤ 70368744177664 := by omega
      have c3 : l.length ≤ 70368744177664 := by omega
      refine ⟨X.put id (.cells 3 false ((cs.drop off).take l.length)), id, l.length, 2, by simp [Heap.append, Heap.row, hz, h4, h6, c2, c3, new_pend hid], rfl, fun i hi => by rw [Heap.get_put, if_neg (fun e => hi e.symm)], .inr rfl, .inl rfl, Nat.le_refl _, 3, (cs.drop off).take l.length, by rw [Heap.get_put, if_pos rfl], by simp; omega, fun i hi => ?_⟩
      rw [List.getElem?_take, if_pos hi, List.getElem?_drop]
      exact h7 i hi

theorem capN_self {n : Nat} (h : n ≤ 65536) : capN n = n := by
  unfold capN
  split <;> (try split) <;> omega

theorem rbyrank_ev {H : Abs.Heap} {v : Value} {l : List Int} (hv : RdA H v l) (hl : l.length ≤ 65536) (k : Nat) :
    ∃ H', evF Γ ov (k + 2) 13 [v] H = some (.pointer (some ⟨H.size + 2, 0, none⟩), H') ∧ RS H' [H.size, H.size + 1, H.size + 2] (H.size + 2) [] (some l) l.length ∧ Fr [] H H' ∧ H'.size = H.size + 3 := by
  have hc := cap_ev (Heap.ext 3 H) l.length k
  rw [capN_self hl] at hc
  obtain ⟨a, cap, hvl⟩ := hv.lvl
  have F2 : Fr [] H ((Heap.ext 3 H).put H.size (.cells 3 false [])) := ⟨by rw [Heap.size_put, Heap.size_ext]; omega, fun i hi _ => by rw [Heap.get_put, if_neg (by omega), ext_old hi]⟩
  obtain ⟨X2, o, cp, m, y2, y3, y4, y5, y6, y7, e, cs, y8, y9, y10⟩ := copy_all (hv.fr F2) hl (b := H.size) (id := H.size + 1) (e0 := 3) (by rw [Heap.get_put, if_neg (by omega), ext_new (by omega)]) (by rw [Heap.get_put, if_pos rfl])
  have n0 := fun oo => new_pend (o := oo) (ext_new0 (n := 3) (H := H) (by omega))
  have n2 := fun oo => new_pend (o := oo) (show X2.get (H.size + 2) = some .pend by
    rw [y4 _ (by omega), Heap.get_put, if_neg (by omega), ext_new (by omega)])
  have fq : fillP [.bool false, .bool false, (Value.int .i64 (0)), .slice none 0 0, .slice none 0 0].toArray [(0, 1, .bool true), (1, 1, .bool true), (2, 1, (Value.int .i64 ((l.length : Nat)))), (3, 1, .slice (some ⟨o, 0, some m⟩) l.length cp)] = some #[.bool true, .bool true, (Value.int .i64 ((l.length : Nat))), .slice (some ⟨o, 0, some m⟩) l.length cp, .slice none 0 0] := rfl
  have pp : ∀ T a b c a1 b1 c1 a2 b2 c2 a3 b3 c3, evParts T [(a, b, c), (a1, b1, c1), (a2, b2, c2), (a3, b3, c3)] = [(a, b, c.ev T), (a1, b1, c1.ev T), (a2, b2, c2.ev T), (a3, b3, c3.ev T)] := fun _ _ _ _ _ _ _ _ _ _ _ _ _ => rfl
  have oka : okAll (.agg #[.bool true, .bool true, (Value.int .i64 ((l.length : Nat))), .slice (some ⟨o, 0, some m⟩) l.length cp, .slice none 0 0]) = true := rfl
  have szX : X2.size = H.size + 3 := by rw [y3, Heap.size_put, Heap.size_ext]
  refine ⟨X2.put (H.size + 2) (.cells 48 false [.bool true, .bool true, (Value.int .i64 ((l.length : Nat))), .slice (some ⟨o, 0, some m⟩) l.length cp, .slice none 0 0]), ?eq, ⟨[H.size + 2], .slice none 0 0, .slice (some ⟨o, 0, some m⟩) l.length cp, true, ?_, .inl ⟨rfl, rfl⟩, by simp, fun x hx => ?_, fun x hx => ?_, fun x hx => by simp at hx, rfl, rfl, o, by simp; omega, by simp; omega, .inr ⟨0, m, cp, e, false, cs, rfl, ?_, fun i hi => ?_⟩⟩, ⟨by rw [Heap.size_put, szX]; omega, fun i hi _ => ?_⟩, by rw [Heap.size_put, szX]⟩
  case eq =>
    rw [evF, ov_ne 13 _ _ (by decide)]
    simp only [evB, Γ, i13, Tr.ofList]
    subst hvl
    repeat ((first | rw [evSeq_go] | rw [evSeq_none] | rw [evSeq_guard] | rw [evC_region] | rw [evC_seq] | rw [evC_cond] | rw [evC_block]); try simp only [undef, Array.size_empty, evSeq_nil, isCall_mv, isCall_pick, isCall_alloc, isCall_box, isCall_build, isCall_bslice, isCall_load, isCall_store, isCall_nilchk, isCall_bin, isCall_un, isCall_conv, isCall_mkfn, isCall_mkslice, isCall_slice, isCall_strslice, isCall_faddr, isCall_field, isCall_iaddr, isCall_aaddr, isCall_aindex, isCall_strindex, isCall_ext, isCall_len, isCall_strlen, isCall_const, isCall_append, isCall_minmax, isCall_copy, isCall_call, evI, Opd.ev, rd_set, rd_nil, cond_true, cond_false, Nat.reduceEqDiff, Nat.reduceAdd, Nat.reduceMul, Nat.add_zero, Nat.zero_add, Nat.mul_one, if_true, if_false, reduceIte, binV, intBin, eqBy, Abs.ptrEq, Abs.slcEq, Abs.fncEq, leafEq, unV, Option.map_some, Option.map_none, Option.isNone_none, Option.isNone_some, Bool.not_true, Bool.not_false, beq_self_eq_true, List.getElem?_cons_zero, List.getElem?_cons_succ, evRes, packRes, List.map_cons, List.map_nil, Heap.loadv, Bool.false_eq_true, List.getElem?_toArray, decide_true, decide_false, List.append_nil, List.nil_append, List.cons_append, List.toList_toArray, Bool.beq_eq_decide_eq, reduceCtorEq, Heap.storev, cells_int, cells_bool, cells_string, cells_pointer, cells_slice, cells_func, cells_nilFunc, cells_agg, ok_int, ok_bool, ok_string, ok_pointer, ok_slice, ok_func, ok_nilFunc, ok_agg, size_one, toList_one, Heap.get_put, Heap.size_put, Heap.size_ext, iaddrV, true_and, and_true, eq_self, evC_skip, evC_exit, evC_ret, ext_zero, Option.map_map, Function.comp_def, List.size_toArray, List.length_cons, List.length_nil, not_true_eq_false, not_false_eq_true, ne_eq, hc, toList_nil, parts_nil, fill_nil, n0, n2, y2, pp, fq, oka])
  · rw [Heap.get_put, if_pos rfl]
  · simp at hx ⊢; omega
  · rw [Heap.size_put, szX]; simp at hx; omega
  · rw [Heap.get_put, if_neg (by omega)]; exact y8
  · rw [Nat.zero_add]; exact y10 i hi
  · rw [Heap.get_put, if_neg (by omega), y4 _ (by omega)]; exact F2.2 i hi (by simp)

theorem rhas_ev {H : Abs.Heap} {al : List Nat} {q : Nat} {l : List Int} {ro : Option (List Int)} {N : Nat} (Q : RS H al q l ro N) (hsmall : l.length ≤ 100000) (x : Int) {k : Nat} (hk : l.length < k) :
    evF Γ ov (k + 1) 21 [.pointer (some ⟨q, 0, none⟩), (Value.int .i64 (x))] H = some (.bool (decide (x ∈ l)), H) := by
  obtain ⟨fp, lv, rv, rk, Q⟩ := Q
  have qo := Q.qo
  obtain ⟨a, cap, hlv⟩ := Q.lvl
  have hloop := fun (T : Tr Value) (t1 : rd T 1 = (Value.int .i64 (x))) (t19 : rd T 19 = lv) (t20 : rd T 20 = (Value.int .i64 ((l.length : Nat)))) (t21 : rd T 21 = (Value.int .i64 (0))) =>
    loop_run (cl := evF Γ ov k) (n := k) (c := i21l0)
    (fun m T X => X = H ∧ rd T 1 = (Value.int .i64 (x)) ∧ rd T 19 = lv ∧ rd T 20 = (Value.int .i64 ((l.length : Nat))) ∧ ∃ i : Nat, rd T 21 = (Value.int .i64 (i)) ∧ m + i = l.length ∧ ∀ j, j < i → g l j ≠ x)
    (fun e T X => X = H ∧ (e = .exit 0 ∧ x ∉ l ∨ e = .ret ∧ rd T 4 = .bool true ∧ x ∈ l))
    (fun m T X ⟨hX, t1, t19, t20, i, t21, hm, hj⟩ => by
      subst hX
      by_cases d : i < l.length
      · have d' : (i : Int) < (l.length : Nat) := by omega
        have w : IntKind.i64.wrap ((i : Int) + 1) = ((i + 1 : Nat) : Int) := by rw [wrap_in (by omega) (by omega)]; omega
        rcases Q.ls with ⟨_, hle⟩ | ⟨o, off, mk, cap', e, cs, hlv', hmk, hcap, go, hlen, hcs, of, oq⟩
        · rw [hle] at d; simp at d
        have c1 := hcs i d
        rw [hlv'] at t19
        by_cases he : g l i = x
        · refine ⟨?_, ?eq, ?post⟩
          case eq =>
            unfold i21l0
            repeat ((first | rw [evSeq_go] | rw [evSeq_none] | rw [evSeq_guard] | rw [evC_region] | rw [evC_seq] | rw [evC_cond] | rw [evC_block]); try simp only [undef, Array.size_empty, evSeq_nil, isCall_mv, isCall_pick, isCall_alloc, isCall_box, isCall_build, isCall_bslice, isCall_load, isCall_store, isCall_nilchk, isCall_bin, isCall_un, isCall_conv, isCall_mkfn, isCall_mkslice, isCall_slice, isCall_strslice, isCall_faddr, isCall_field, isCall_iaddr, isCall_aaddr, isCall_aindex, isCall_strindex, isCall_ext, isCall_len, isCall_strlen, isCall_const, isCall_append, isCall_minmax, isCall_copy, isCall_call, evI, Opd.ev, rd_set, rd_nil, cond_true, cond_false, Nat.reduceEqDiff, Nat.reduceAdd, Nat.reduceMul, Nat.add_zero, Nat.zero_add, Nat.mul_one, if_true, if_false, reduceIte, binV, intBin, eqBy, Abs.ptrEq, Abs.slcEq, Abs.fncEq, leafEq, unV, Option.map_some, Option.map_none, Option.isNone_none, Option.isNone_some, Bool.not_true, Bool.not_false, beq_self_eq_true, List.getElem?_cons_zero, List.getElem?_cons_succ, evRes, packRes, List.map_cons, List.map_nil, Heap.loadv, Bool.false_eq_true, List.getElem?_toArray, decide_true, decide_false, List.append_nil, List.nil_append, List.cons_append, List.toList_toArray, Bool.beq_eq_decide_eq, reduceCtorEq, Heap.storev, cells_int, cells_bool, cells_string, cells_pointer, cells_slice, cells_func, cells_nilFunc, cells_agg, ok_int, ok_bool, ok_string, ok_pointer, ok_slice, ok_func, ok_nilFunc, ok_agg, size_one, toList_one, Heap.get_put, Heap.size_put, Heap.size_ext, iaddrV, true_and, and_true, eq_self, evC_skip, evC_exit, evC_ret, ext_zero, Option.map_map, Function.comp_def, List.size_toArray, List.length_cons, List.length_nil, not_true_eq_false, not_false_eq_true, ne_eq, t1, t19, t20, t21, d', go, Int.natCast_nonneg, Int.toNat_natCast, c1, he])
            rfl
          case post => exact ⟨rfl, .inr ⟨rfl, by simp only [rd_set, Nat.reduceEqDiff, if_true], he ▸ g_mem d⟩⟩
        · refine ⟨?_, ?eq, ?post⟩
          case eq =>
            unfold i21l0
            repeat ((first | rw [evSeq_go] | rw [evSeq_none] | rw [evSeq_guard] | rw [evC_region] | rw [evC_seq] | rw [evC_cond] | rw [evC_block]); try simp only [undef, Array.size_empty, evSeq_nil, isCall_mv, isCall_pick, isCall_alloc, isCall_box, isCall_build, isCall_bslice, isCall_load, isCall_store, isCall_nilchk, isCall_bin, isCall_un, isCall_conv, isCall_mkfn, isCall_mkslice, isCall_slice, isCall_strslice, isCall_faddr, isCall_field, isCall_iaddr, isCall_aaddr, isCall_aindex, isCall_strindex, isCall_ext, isCall_len, isCall_strlen, isCall_const, isCall_append, isCall_minmax, isCall_copy, isCall_call, evI, Opd.ev, rd_set, rd_nil, cond_true, cond_false, Nat.reduceEqDiff, Nat.reduceAdd, Nat.reduceMul, Nat.add_zero, Nat.zero_add, Nat.mul_one, if_true, if_false, reduceIte, binV, intBin, eqBy, Abs.ptrEq, Abs.slcEq, Abs.fncEq, leafEq, unV, Option.map_some, Option.map_none, Option.isNone_none, Option.isNone_some, Bool.not_true, Bool.not_false, beq_self_eq_true, List.getElem?_cons_zero, List.getElem?_cons_succ, evRes, packRes, List.map_cons, List.map_nil, Heap.loadv, Bool.false_eq_true, List.getElem?_toArray, decide_true, decide_false, List.append_nil, List.nil_append, List.cons_append, List.toList_toArray, Bool.beq_eq_decide_eq, reduceCtorEq, Heap.storev, cells_int, cells_bool, cells_string, cells_pointer, cells_slice, cells_func, cells_nilFunc, cells_agg, ok_int, ok_bool, ok_string, ok_pointer, ok_slice, ok_func, ok_nilFunc, ok_agg, size_one, toList_one, Heap.get_put, Heap.size_put, Heap.size_ext, iaddrV, true_and, and_true, eq_self, evC_skip, evC_exit, evC_ret, ext_zero, Option.map_map, Function.comp_def, List.size_toArray, List.length_cons, List.length_nil, not_true_eq_false, not_false_eq_true, ne_eq, t1, t19, t20, t21, d', go, Int.natCast_nonneg, Int.toNat_natCast, c1, he, w])
            rfl
          case post =>
            refine ⟨m - 1, by omega, rfl, ?_, ?_, ?_, i + 1, ?_, by omega, fun j h => ?_⟩
            · simp only [rd_set, Nat.reduceEqDiff, if_false, t1]
            · simp only [rd_set, Nat.reduceEqDiff, if_false, t19, hlv']
            · simp only [rd_set, Nat.reduceEqDiff, if_false, t20]
            · simp only [rd_set, Nat.reduceEqDiff, if_true]
            · by_cases ej : j = i
              · rw [ej]; exact he
              · exact hj j (by omega)
      · have d' : ¬ (i : Int) < (l.length : Nat) := by omega
        refine ⟨?_, ?eq, ?post⟩
        case eq =>
          unfold i21l0
          repeat ((first | rw [evSeq_go] | rw [evSeq_none] | rw [evSeq_guard] | rw [evC_region] | rw [evC_seq] | rw [evC_cond] | rw [evC_block]); try simp only [undef, Array.size_empty, evSeq_nil, isCall_mv, isCall_pick, isCall_alloc, isCall_box, isCall_build, isCall_bslice, isCall_load, isCall_store, isCall_nilchk, isCall_bin, isCall_un, isCall_conv, isCall_mkfn, isCall_mkslice, isCall_slice, isCall_strslice, isCall_faddr, isCall_field, isCall_iaddr, isCall_aaddr, isCall_aindex, isCall_strindex, isCall_ext, isCall_len, isCall_strlen, isCall_const, isCall_append, isCall_minmax, isCall_copy, isCall_call, evI, Opd.ev, rd_set, rd_nil, cond_true, cond_false, Nat.reduceEqDiff, Nat.reduceAdd, Nat.reduceMul, Nat.add_zero, Nat.zero_add, Nat.mul_one, if_true, if_false, reduceIte, binV, intBin, eqBy, Abs.ptrEq, Abs.slcEq, Abs.fncEq, leafEq, unV, Option.map_some, Option.map_none, Option.isNone_none, Option.isNone_some, Bool.not_true, Bool.not_false, beq_self_eq_true, List.getElem?_cons_zero, List.getElem?_cons_succ, evRes, packRes, List.map_cons, List.map_nil, Heap.loadv, Bool.false_eq_true, List.getElem?_toArray, decide_true, decide_false, List.append_nil, List.nil_append, List.cons_append, List.toList_toArray, Bool.beq_eq_decide_eq, reduceCtorEq, Heap.storev, cells_int, cells_bool, cells_string, cells_pointer, cells_slice, cells_func, cells_nilFunc, cells_agg, ok_int, ok_bool, ok_string, ok_pointer, ok_slice, ok_func, ok_nilFunc, ok_agg, size_one, toList_one, Heap.get_put, Heap.size_put, Heap.size_ext, iaddrV, true_and, and_true, eq_self, evC_skip, evC_exit, evC_ret, ext_zero, Option.map_map, Function.comp_def, List.size_toArray, List.length_cons, List.length_nil, not_true_eq_false, not_false_eq_true, ne_eq, t20, t21, d'])
          rfl
        case post =>
          refine ⟨rfl, .inl ⟨rfl, fun c => ?_⟩⟩
          obtain ⟨j, hjl, hje⟩ := List.mem_iff_getElem.1 c
          rw [g_get] at hje
          exact hj j (by omega) hje)
    l.length T H ⟨rfl, t1, t19, t20, 0, t21, by omega, fun j h => by omega⟩ hk
  refine evF_of (ov_ne 21 _ _ (by decide)) rfl ?_
  simp only [i21, Tr.ofList]
  subst hlv
  refine Runs.seqN1 (r := ?_) ?e1 ?_; (case e1 => (((repeat ((first | rw [evSeq_go] | rw [evSeq_none] | rw [evSeq_guard] | rw [evC_region] | rw [evC_seq] | rw [evC_cond] | rw [evC_block]); try simp only [undef, Array.size_empty, evSeq_nil, isCall_mv, isCall_pick, isCall_alloc, isCall_box, isCall_build, isCall_bslice, isCall_load, isCall_store, isCall_nilchk, isCall_bin, isCall_un, isCall_conv, isCall_mkfn, isCall_mkslice, isCall_slice, isCall_strslice, isCall_faddr, isCall_field, isCall_iaddr, isCall_aaddr, isCall_aindex, isCall_strindex, isCall_ext, isCall_len, isCall_strlen, isCall_const, isCall_append, isCall_minmax, isCall_copy, isCall_call, evI, Opd.ev, rd_set, rd_nil, cond_true, cond_false, Nat.reduceEqDiff, Nat.reduceAdd, Nat.reduceMul, Nat.add_zero, Nat.zero_add, Nat.mul_one, if_true, if_false, reduceIte, binV, intBin, eqBy, Abs.ptrEq, Abs.slcEq, Abs.fncEq, leafEq, unV, Option.map_some, Option.map_none, Option.isNone_none, Option.isNone_some, Bool.not_true, Bool.not_false, beq_self_eq_true, List.getElem?_cons_zero, List.getElem?_cons_succ, evRes, packRes, List.map_cons, List.map_nil, Heap.loadv, Bool.false_eq_true, List.getElem?_toArray, decide_true, decide_false, List.append_nil, List.nil_append, List.cons_append, List.toList_toArray, Bool.beq_eq_decide_eq, reduceCtorEq, Heap.storev, cells_int, cells_bool, cells_string, cells_pointer, cells_slice, cells_func, cells_nilFunc, cells_agg, ok_int, ok_bool, ok_string, ok_pointer, ok_slice, ok_func, ok_nilFunc, ok_agg, size_one, toList_one, Heap.get_put, Heap.size_put, Heap.size_ext, iaddrV, true_and, and_true, eq_self, evC_skip, evC_exit, evC_ret, ext_zero, Option.map_map, Function.comp_def, List.size_toArray, List.length_cons, List.length_nil, not_true_eq_false, not_false_eq_true, ne_eq])); try rfl))); show Runs _ _ _ _ _ _
  refine Runs.seqN1 (r := ?_) ?e2 ?_; (case e2 => (((repeat ((first | rw [evSeq_go] | rw [evSeq_none] | rw [evSeq_guard] | rw [evC_region] | rw [evC_seq] | rw [evC_cond] | rw [evC_block]); try simp only [undef, Array.size_empty, evSeq_nil, isCall_mv, isCall_pick, isCall_alloc, isCall_box, isCall_build, isCall_bslice, isCall_load, isCall_store, isCall_nilchk, isCall_bin, isCall_un, isCall_conv, isCall_mkfn, isCall_mkslice, isCall_slice, isCall_strslice, isCall_faddr, isCall_field, isCall_iaddr, isCall_aaddr, isCall_aindex, isCall_strindex, isCall_ext, isCall_len, isCall_strlen, isCall_const, isCall_append, isCall_minmax, isCall_copy, isCall_call, evI, Opd.ev, rd_set, rd_nil, cond_true, cond_false, Nat.reduceEqDiff, Nat.reduceAdd, Nat.reduceMul, Nat.add_zero, Nat.zero_add, Nat.mul_one, if_true, if_false, reduceIte, binV, intBin, eqBy, Abs.ptrEq, Abs.slcEq, Abs.fncEq, leafEq, unV, Option.map_some, Option.map_none, Option.isNone_none, Option.isNone_some, Bool.not_true, Bool.not_false, beq_self_eq_true, List.getElem?_cons_zero, List.getElem?_cons_succ, evRes, packRes, List.map_cons, List.map_nil, Heap.loadv, Bool.false_eq_true, List.getElem?_toArray, decide_true, decide_false, List.append_nil, List.nil_append, List.cons_append, List.toList_toArray, Bool.beq_eq_decide_eq, reduceCtorEq, Heap.storev, cells_int, cells_bool, cells_string, cells_pointer, cells_slice, cells_func, cells_nilFunc, cells_agg, ok_int, ok_bool, ok_string, ok_pointer, ok_slice, ok_func, ok_nilFunc, ok_agg, size_one, toList_one, Heap.get_put, Heap.size_put, Heap.size_ext, iaddrV, true_and, and_true, eq_self, evC_skip, evC_exit, evC_ret, ext_zero, Option.map_map, Function.comp_def, List.size_toArray, List.length_cons, List.length_nil, not_true_eq_false, not_false_eq_true, ne_eq, qo])); try rfl))); show Runs _ _ _ _ _ _
  refine Runs.assoc ?_
  refine Runs.seqN1 (r := ?_) ?e3 ?_; (case e3 => (((repeat ((first | rw [evSeq_go] | rw [evSeq_none] | rw [evSeq_guard] | rw [evC_region] | rw [evC_seq] | rw [evC_cond] | rw [evC_block]); try simp only [undef, Array.size_empty, evSeq_nil, isCall_mv, isCall_pick, isCall_alloc, isCall_box, isCall_build, isCall_bslice, isCall_load, isCall_store, isCall_nilchk, isCall_bin, isCall_un, isCall_conv, isCall_mkfn, isCall_mkslice, isCall_slice, isCall_strslice, isCall_faddr, isCall_field, isCall_iaddr, isCall_aaddr, isCall_aindex, isCall_strindex, isCall_ext, isCall_len, isCall_strlen, isCall_const, isCall_append, isCall_minmax, isCall_copy, isCall_call, evI, Opd.ev, rd_set, rd_nil, cond_true, cond_false, Nat.reduceEqDiff, Nat.reduceAdd, Nat.reduceMul, Nat.add_zero, Nat.zero_add, Nat.mul_one, if_true, if_false, reduceIte, binV, intBin, eqBy, Abs.ptrEq, Abs.slcEq, Abs.fncEq, leafEq, unV, Option.map_some, Option.map_none, Option.isNone_none, Option.isNone_some, Bool.not_true, Bool.not_false, beq_self_eq_true, List.getElem?_cons_zero, List.getElem?_cons_succ, evRes, packRes, List.map_cons, List.map_nil, Heap.loadv, Bool.false_eq_true, List.getElem?_toArray, decide_true, decide_false, List.append_nil, List.nil_append, List.cons_append, List.toList_toArray, Bool.beq_eq_decide_eq, reduceCtorEq, Heap.storev, cells_int, cells_bool, cells_string, cells_pointer, cells_slice, cells_func, cells_nilFunc, cells_agg, ok_int, ok_bool, ok_string, ok_pointer, ok_slice, ok_func, ok_nilFunc, ok_agg, size_one, toList_one, Heap.get_put, Heap.size_put, Heap.size_ext, iaddrV, true_and, and_true, eq_self, evC_skip, evC_exit, evC_ret, ext_zero, Option.map_map, Function.comp_def, List.size_toArray, List.length_cons, List.length_nil, not_true_eq_false, not_false_eq_true, ne_eq, qo])); try rfl))); show Runs _ _ _ _ _ _
  refine Runs.loop (hloop _ ?_ ?_ ?_ ?_) ?_ ?_
  · simp only [rd_set, Nat.reduceEqDiff, if_false, if_true]
  · simp only [rd_set, Nat.reduceEqDiff, if_false, if_true]
  · simp only [rd_set, Nat.reduceEqDiff, if_false, if_true]
  · simp only [rd_set, Nat.reduceEqDiff, if_false, if_true]
  · intro T' H' ⟨hX, hp⟩
    have hx : x ∉ l := by
      rcases hp with hp | hp
      · exact hp.2
      · cases hp.1
    refine Runs.of1 (r := ?_) ?e4 ?_; (case e4 => (((repeat ((first | rw [evSeq_go] | rw [evSeq_none] | rw [evSeq_guard] | rw [evC_region] | rw [evC_seq] | rw [evC_cond] | rw [evC_block]); try simp only [undef, Array.size_empty, evSeq_nil, isCall_mv, isCall_pick, isCall_alloc, isCall_box, isCall_build, isCall_bslice, isCall_load, isCall_store, isCall_nilchk, isCall_bin, isCall_un, isCall_conv, isCall_mkfn, isCall_mkslice, isCall_slice, isCall_strslice, isCall_faddr, isCall_field, isCall_iaddr, isCall_aaddr, isCall_aindex, isCall_strindex, isCall_ext, isCall_len, isCall_strlen, isCall_const, isCall_append, isCall_minmax, isCall_copy, isCall_call, evI, Opd.ev, rd_set, rd_nil, cond_true, cond_false, Nat.reduceEqDiff, Nat.reduceAdd, Nat.reduceMul, Nat.add_zero, Nat.zero_add, Nat.mul_one, if_true, if_false, reduceIte, binV, intBin, eqBy, Abs.ptrEq, Abs.slcEq, Abs.fncEq, leafEq, unV, Option.map_some, Option.map_none, Option.isNone_none, Option.isNone_some, Bool.not_true, Bool.not_false, beq_self_eq_true, List.getElem?_cons_zero, List.getElem?_cons_succ, evRes, packRes, List.map_cons, List.map_nil, Heap.loadv, Bool.false_eq_true, List.getElem?_toArray, decide_true, decide_false, List.append_nil, List.nil_append, List.cons_append, List.toList_toArray, Bool.beq_eq_decide_eq, reduceCtorEq, Heap.storev, cells_int, cells_bool, cells_string, cells_pointer, cells_slice, cells_func, cells_nilFunc, cells_agg, ok_int, ok_bool, ok_string, ok_pointer, ok_slice, ok_func, ok_nilFunc, ok_agg, size_one, toList_one, Heap.get_put, Heap.size_put, Heap.size_ext, iaddrV, true_and, and_true, eq_self, evC_skip, evC_exit, evC_ret, ext_zero, Option.map_map, Function.comp_def, List.size_toArray, List.length_cons, List.length_nil, not_true_eq_false, not_false_eq_true, ne_eq])); try rfl)))
    refine ⟨.inr rfl, hX, ?_⟩
    simp only [undef, Array.size_empty, evSeq_nil, isCall_mv, isCall_pick, isCall_alloc, isCall_box, isCall_build, isCall_bslice, isCall_load, isCall_store, isCall_nilchk, isCall_bin, isCall_un, isCall_conv, isCall_mkfn, isCall_mkslice, isCall_slice, isCall_strslice, isCall_faddr, isCall_field, isCall_iaddr, isCall_aaddr, isCall_aindex, isCall_strindex, isCall_ext, isCall_len, isCall_strlen, isCall_const, isCall_append, isCall_minmax, isCall_copy, isCall_call, evI, Opd.ev, rd_set, rd_nil, cond_true, cond_false, Nat.reduceEqDiff, Nat.reduceAdd, Nat.reduceMul, Nat.add_zero, Nat.zero_add, Nat.mul_one, if_true, if_false, reduceIte, binV, intBin, eqBy, Abs.ptrEq, Abs.slcEq, Abs.fncEq, leafEq, unV, Option.map_some, Option.map_none, Option.isNone_none, Option.isNone_some, Bool.not_true, Bool.not_false, beq_self_eq_true, List.getElem?_cons_zero, List.getElem?_cons_succ, evRes, packRes, List.map_cons, List.map_nil, Heap.loadv, Bool.false_eq_true, List.getElem?_toArray, decide_true, decide_false, List.append_nil, List.nil_append, List.cons_append, List.toList_toArray, Bool.beq_eq_decide_eq, reduceCtorEq, Heap.storev, cells_int, cells_bool, cells_string, cells_pointer, cells_slice, cells_func, cells_nilFunc, cells_agg, ok_int, ok_bool, ok_string, ok_pointer, ok_slice, ok_func, ok_nilFunc, ok_agg, size_one, toList_one, Heap.get_put, Heap.size_put, Heap.size_ext, iaddrV, true_and, and_true, eq_self, evC_skip, evC_exit, evC_ret, ext_zero, Option.map_map, Function.comp_def, List.size_toArray, List.length_cons, List.length_nil, not_true_eq_false, not_false_eq_true, ne_eq]
    simp [hx]
  · intro e T' H' _ hne ⟨hX, hp⟩
    rcases hp with hp | hp
    · exact absurd hp.1 hne
    · refine ⟨.inr hp.1, hX, ?_⟩
      simp only [undef, Array.size_empty, evSeq_nil, isCall_mv, isCall_pick, isCall_alloc, isCall_box, isCall_build, isCall_bslice, isCall_load, isCall_store, isCall_nilchk, isCall_bin, isCall_un, isCall_conv, isCall_mkfn, isCall_mkslice, isCall_slice, isCall_strslice, isCall_faddr, isCall_field, isCall_iaddr, isCall_aaddr, isCall_aindex, isCall_strindex, isCall_ext, isCall_len, isCall_strlen, isCall_const, isCall_append, isCall_minmax, isCall_copy, isCall_call, evI, Opd.ev, rd_set, rd_nil, cond_true, cond_false, Nat.reduceEqDiff, Nat.reduceAdd, Nat.reduceMul, Nat.add_zero, Nat.zero_add, Nat.mul_one, if_true, if_false, reduceIte, binV, intBin, eqBy, Abs.ptrEq, Abs.slcEq, Abs.fncEq, leafEq, unV, Option.map_some, Option.map_none, Option.isNone_none, Option.isNone_some, Bool.not_true, Bool.not_false, beq_self_eq_true, List.getElem?_cons_zero, List.getElem?_cons_succ, evRes, packRes, List.map_cons, List.map_nil, Heap.loadv, Bool.false_eq_true, List.getElem?_toArray, decide_true, decide_false, List.append_nil, List.nil_append, List.cons_append, List.toList_toArray, Bool.beq_eq_decide_eq, reduceCtorEq, Heap.storev, cells_int, cells_bool, cells_string, cells_pointer, cells_slice, cells_func, cells_nilFunc, cells_agg, ok_int, ok_bool, ok_string, ok_pointer, ok_slice, ok_func, ok_nilFunc, ok_agg, size_one, toList_one, Heap.get_put, Heap.size_put, Heap.size_ext, iaddrV, true_and, and_true, eq_self, evC_skip, evC_exit, evC_ret, ext_zero, Option.map_map, Function.comp_def, List.size_toArray, List.length_cons, List.length_nil, not_true_eq_false, not_false_eq_true, ne_eq, hp.2.1]
      simp [hp.2.2]

end Go.Proofs.Ytmgkdnncjapejaa.Ab
