/- A part of the proof that the law answers true at every input: the text W05N; no conditions. -/
import Derived.Test.YtmgkdnncjapejaaW05Z
set_option linter.unusedSimpArgs false
set_option linter.unusedVariables false
namespace Go.Proofs.Ytmgkdnncjapejaa.Ab
open Go Go.Proofs.Ytmgkdnncjapejaa.Abs Go.Proofs.Ytmgkdnncjapejaa.Abs.W05
set_option maxRecDepth 100000

def capN (n : Int) : Nat := if n < 0 then 0 else if n > 65536 then 65536 else n.toNat

def emptyH (H : Abs.Heap) (N : Nat) : Abs.Heap :=
  ((Heap.ext 2 H).put H.size (.cells 4 false (List.replicate N (.bool false)))).put (H.size + 1) (.cells 43 false [.bool true, .slice (some ⟨H.size, 0, some 3⟩) N N, .slice none 0 0, .nilFunc])

theorem emptyH_size (H : Abs.Heap) (N : Nat) : (emptyH H N).size = H.size + 2 := by simp [emptyH, Heap.size_put, Heap.size_ext]
theorem emptyH_old {H : Abs.Heap} {N i : Nat} (h : i < H.size) : (emptyH H N).get i = H.get i := by
  rw [emptyH, Heap.get_put, if_neg (by omega), Heap.get_put, if_neg (by omega), ext_old h]
theorem emptyH_q (H : Abs.Heap) (N : Nat) : (emptyH H N).get (H.size + 1) = some (.cells 43 false [.bool true, .slice (some ⟨H.size, 0, some 3⟩) N N, .slice none 0 0, .nilFunc]) := by
  rw [emptyH, Heap.get_put, if_pos rfl]
theorem emptyH_h (H : Abs.Heap) (N : Nat) : (emptyH H N).get H.size = some (.cells 4 false (List.replicate N (.bool false))) := by
  rw [emptyH, Heap.get_put, if_neg (by omega), Heap.get_put, if_pos rfl]

theorem mk_bools {H : Abs.Heap} {id N : Nat} (h : H.get id = some .pend) (hN : N ≤ 65536) : H.mkslice id 4 1 1 [.bool false] (Value.int .i64 ((N : Nat))) (Value.int .i64 ((N : Nat))) = some (.slice (some ⟨id, 0, some 3⟩) N N, H.put id (.cells 4 false (List.replicate N (.bool false)))) := by
  have a : (N : Int) ≤ 70368744177664 := by omega
  have e : ∀ n, (List.replicate n [Value.bool false]).flatten = List.replicate n (.bool false) := by
    intro n
    induction n with
    | zero => rfl
    | succ n ih => simp [List.replicate_succ, ih]
  simp [Heap.mkslice, new_pend h, a, e]

theorem capN_eq (n : Int) : (if 65536 < (if 0 > n then (0 : Int) else n) then (65536 : Int) else (if 0 > n then 0 else n)) = ((capN n : Nat) : Int) := by
  unfold capN
  split <;> split <;> (try split) <;> (try split) <;> omega
theorem capN_le (n : Int) : capN n ≤ 65536 := by
  unfold capN
  split <;> (try split) <;> omega

theorem empty_ev (H : Abs.Heap) (n : Int) (k : Nat) : evF Γ ov (k + 1) 22 [(Value.int .i64 (n))] H = some (.pointer (some ⟨H.size + 1, 0, none⟩), emptyH H (capN n)) := by
  rw [evF, ov_ne 22 _ _ (by decide)]
  simp only [evB, Γ, i22, Tr.ofList]
  have mk := mk_bools (N := capN n) (ext_new0 (n := 2) (H := H) (by omega)) (capN_le n)
  have np := fun o => new_pend (o := o) (show ((Heap.ext 2 H).put H.size (.cells 4 false (List.replicate (capN n) (.bool false)))).get (H.size + 1) = some .pend by
    rw [Heap.get_put, if_neg (by omega), ext_new (by omega)])
  have fq : fillP [.bool false, .slice none 0 0, .slice none 0 0, .nilFunc].toArray [(0, 1, .bool true), (1, 1, .slice (some ⟨H.size, 0, some 3⟩) (capN n) (capN n))] = some #[.bool true, .slice (some ⟨H.size, 0, some 3⟩) (capN n) (capN n), .slice none 0 0, .nilFunc] := rfl
  have pp : ∀ T a b c d e f, evParts T [(a, b, c), (d, e, f)] = [(a, b, c.ev T), (d, e, f.ev T)] := fun _ _ _ _ _ _ _ => rfl
  have oka : okAll (.agg #[.bool true, .slice (some ⟨H.size, 0, some 3⟩) (capN n) (capN n), .slice none 0 0, .nilFunc]) = true := rfl
  repeat ((first | rw [evSeq_go] | rw [evSeq_none] | rw [evSeq_guard] | rw [evC_region] | rw [evC_seq] | rw [evC_cond] | rw [evC_block]); try simp only [undef, Array.size_empty, evSeq_nil, isCall_mv, isCall_pick, isCall_alloc, isCall_box, isCall_build, isCall_bslice, isCall_load, isCall_store, isCall_nilchk, isCall_bin, isCall_un, isCall_conv, isCall_mkfn, isCall_mkslice, isCall_slice, isCall_strslice, isCall_faddr, isCall_field, isCall_iaddr, isCall_aaddr, isCall_aindex, isCall_strindex, isCall_ext, isCall_len, isCall_strlen, isCall_const, isCall_append, isCall_minmax, isCall_copy, isCall_call, evI, Opd.ev, rd_set, rd_nil, cond_true, cond_false, Nat.reduceEqDiff, Nat.reduceAdd, Nat.reduceMul, Nat.add_zero, Nat.zero_add, Nat.mul_one, if_true, if_false, reduceIte, binV, intBin, eqBy, Abs.ptrEq, Abs.slcEq, Abs.fncEq, leafEq, unV, Option.map_some, Option.map_none, Option.isNone_none, Option.isNone_some, Bool.not_true, Bool.not_false, beq_self_eq_true, List.getElem?_cons_zero, List.getElem?_cons_succ, evRes, packRes, List.map_cons, List.map_nil, Heap.loadv, Bool.false_eq_true, List.getElem?_toArray, decide_true, decide_false, List.append_nil, List.nil_append, List.cons_append, List.toList_toArray, Bool.beq_eq_decide_eq, reduceCtorEq, Heap.storev, cells_int, cells_bool, cells_string, cells_pointer, cells_slice, cells_func, cells_nilFunc, cells_agg, ok_int, ok_bool, ok_string, ok_pointer, ok_slice, ok_func, ok_nilFunc, ok_agg, size_one, toList_one, Heap.get_put, Heap.size_put, Heap.size_ext, iaddrV, true_and, and_true, eq_self, evC_skip, evC_exit, evC_ret, ext_zero, Option.map_map, Function.comp_def, List.size_toArray, List.length_cons, List.length_nil, not_true_eq_false, not_false_eq_true, ne_eq, minmaxV, capN_eq, mk, np, pp, fq, oka])
  rfl

theorem new_ev (H : Abs.Heap) (n : Int) (k : Nat) : evF Γ ov (k + 2) 10 [(Value.int .i64 (n))] H = some (.pointer (some ⟨H.size + 1, 0, none⟩), emptyH H (capN n)) := by
  have h := empty_ev H n k
  rw [evF, ov_ne 10 _ _ (by decide)]
  simp only [evB, Γ, i10, Tr.ofList]
  repeat ((first | rw [evSeq_go] | rw [evSeq_none] | rw [evSeq_guard] | rw [evC_region] | rw [evC_seq] | rw [evC_cond] | rw [evC_block]); try simp only [undef, Array.size_empty, evSeq_nil, isCall_mv, isCall_pick, isCall_alloc, isCall_box, isCall_build, isCall_bslice, isCall_load, isCall_store, isCall_nilchk, isCall_bin, isCall_un, isCall_conv, isCall_mkfn, isCall_mkslice, isCall_slice, isCall_strslice, isCall_faddr, isCall_field, isCall_iaddr, isCall_aaddr, isCall_aindex, isCall_strindex, isCall_ext, isCall_len, isCall_strlen, isCall_const, isCall_append, isCall_minmax, isCall_copy, isCall_call, evI, Opd.ev, rd_set, rd_nil, cond_true, cond_false, Nat.reduceEqDiff, Nat.reduceAdd, Nat.reduceMul, Nat.add_zero, Nat.zero_add, Nat.mul_one, if_true, if_false, reduceIte, binV, intBin, eqBy, Abs.ptrEq, Abs.slcEq, Abs.fncEq, leafEq, unV, Option.map_some, Option.map_none, Option.isNone_none, Option.isNone_some, Bool.not_true, Bool.not_false, beq_self_eq_true, List.getElem?_cons_zero, List.getElem?_cons_succ, evRes, packRes, List.map_cons, List.map_nil, Heap.loadv, Bool.false_eq_true, List.getElem?_toArray, decide_true, decide_false, List.append_nil, List.nil_append, List.cons_append, List.toList_toArray, Bool.beq_eq_decide_eq, reduceCtorEq, Heap.storev, cells_int, cells_bool, cells_string, cells_pointer, cells_slice, cells_func, cells_nilFunc, cells_agg, ok_int, ok_bool, ok_string, ok_pointer, ok_slice, ok_func, ok_nilFunc, ok_agg, size_one, toList_one, Heap.get_put, Heap.size_put, Heap.size_ext, iaddrV, true_and, and_true, eq_self, evC_skip, evC_exit, evC_ret, ext_zero, Option.map_map, Function.comp_def, List.size_toArray, List.length_cons, List.length_nil, not_true_eq_false, not_false_eq_true, ne_eq, h, toList_nil])

theorem new_qs (H : Abs.Heap) (N : Nat) : QS (emptyH H N) [H.size, H.size + 1] (H.size + 1) [] none N := by
  have hz : (List.replicate N false).map Value.bool = List.replicate N (.bool false) := by simp
  refine ⟨[H.size, H.size + 1], H.size, List.replicate N false, .slice none 0 0, .nilFunc, ⟨?_, ?_, .inl ⟨rfl, rfl⟩, by simp, by simp, by omega, fun x hx => ?_⟩, fun _ h => h, fun x hx => ?_, by simp, fun x hx => by simp at hx, List.nodup_nil, fun i hi => by simp [hi], rfl⟩
  · rw [emptyH_q]; simp
  · rw [emptyH_h, hz]
  · rw [emptyH_size]; simp at hx; omega
  · rw [emptyH_size]; simp at hx; omega

theorem new_fr (H : Abs.Heap) (N : Nat) : Fr [] H (emptyH H N) := ⟨by rw [emptyH_size]; omega, fun i hi _ => emptyH_old hi⟩

/-- Integers that the caller keeps. -/
def RdA (H : Abs.Heap) (v : Value) (l : List Int) : Prop :=
  ((v = .slice none 0 0 ∨ v = .slice (some ⟨0, 0, some 1⟩) 0 0) ∧ l = []) ∨ ∃ o off m cap e r cs, v = .slice (some ⟨o, off, some m⟩) l.length cap ∧ l.length ≤ cap ∧ (m / 2 = 1 ∨ m = 1) ∧ H.get o = some (.cells e r cs) ∧ o < H.size ∧ off + l.length ≤ cs.length ∧ ∀ i, i < l.length → cs[off + i]? = some (Value.int .i64 (g l i))

theorem RdA.lvl {H : Abs.Heap} {v : Value} {l : List Int} (h : RdA H v l) : ∃ a cap, v = .slice a l.length cap := by
  rcases h with ⟨h | h, rfl⟩ | ⟨o, off, m, cap, e, r, cs, h, _⟩
  · exact ⟨none, 0, h⟩
  · exact ⟨_, 0, h⟩
  · exact ⟨_, cap, h⟩
theorem RdA.fr {H Y : Abs.Heap} {v : Value} {l : List Int} (h : RdA H v l) (hf : Fr [] H Y) : RdA Y v l := by
  rcases h with h | ⟨o, off, m, cap, e, r, cs, h1, h2, h3, h4, h5, h6⟩
  · exact .inl h
  · exact .inr ⟨o, off, m, cap, e, r, cs, h1, h2, h3, by rw [hf.2 o h5 (by simp)]; exact h4, Nat.lt_of_lt_of_le h5 hf.1, h6⟩

theorem capN_nat (n : Nat) : capN n ≤ n := by
  unfold capN
  split <;> (try split) <;> omega

/-- A prefix of the caller's integers, copied. -/
theorem copy_in {X : Abs.Heap} {v : Value} {l : List Int} (h : RdA X v l) {b id N : Nat} (hN : N ≤ l.length) (hN2 : N ≤ 65536) (hid : X.get id = some .pend) {e0 : Nat} (hb : X.get b = some (.cells e0 false [])) (pure : Bool) :
    ∃ y X' o cp m, sliceV 1 v none (some (Value.int .i64 ((N : Nat)))) (some (Value.int .i64 ((N : Nat)))) = some y ∧ X.append id 3 1 8 pure (.slice (some ⟨b, 0, some 3⟩) 0 0) y = some (.slice (some ⟨o, 0, some m⟩) N cp, X') ∧ X'.size = X.size ∧ (∀ i, i ≠ id → X'.get i = X.get i) ∧ (o = b ∨ o = id) ∧
      (m = 2 ∨ m = 3) ∧ N ≤ cp ∧ ∃ e cs, X'.get o = some (.cells e false cs) ∧ cp ≤ cs.length ∧ ∀ i, i < N → cs[i]? = some (Value.int .i64 (g l i)) := by
  rcases h with ⟨rfl | rfl, rfl⟩ | ⟨o, off, m, cap, e, r, cs, rfl, h2, h3, h4, h5, h6, h7⟩
  · have : N = 0 := by simpa using hN
    subst this
    exact ⟨.slice none 0 0, X, b, 0, 3, by simp [sliceV, optInt], by simp [Heap.append, Heap.row], rfl, fun _ _ => rfl, .inl rfl, .inr rfl, by omega, e0, [], hb, by simp, fun i hi => by omega⟩
  · have : N = 0 := by simpa using hN
    subst this
    exact ⟨.slice (some ⟨0, 0, some 1⟩) 0 0, X, b, 0, 3, by simp [sliceV, optInt], by simp [Heap.append, Heap.row], rfl, fun _ _ => rfl, .inl rfl, .inr rfl, by omega, e0, [], hb, by simp, fun i hi => by omega⟩
  · have c1 : (N : Int) ≤ cap := by omega
    refine ⟨.slice (some ⟨o, off, some (if m ≠ 1 then 3 else m)⟩) N N, ?_⟩
    by_cases hz : N = 0
    · subst hz
      exact ⟨X, b, 0, 3, by simp [sliceV, optInt, h3], by simp [Heap.append, Heap.row], rfl, fun _ _ => rfl, .inl rfl, .inr rfl, by omega, e0, [], hb, by simp, fun i hi => by omega⟩
    · have c2 : N * 8 ≤ 70368744177664 := by omega
      have c3 : N ≤ 70368744177664 := by omega
      have c4 : off + N ≤ cs.length := by omega
      refine ⟨X.put id (.cells 3 false ((cs.drop off).take N)), id, N, 2, by simp [sliceV, optInt, h3, c1], by simp [Heap.append, Heap.row, hz, h4, c4, c2, c3, new_pend hid], rfl, fun i hi => by rw [Heap.get_put, if_neg (fun e => hi e.symm)], .inr rfl, .inl rfl, Nat.le_refl _, 3, (cs.drop off).take N, by rw [Heap.get_put, if_pos rfl], by simp; omega, fun i hi => ?_⟩
      rw [List.getElem?_take, if_pos hi, List.getElem?_drop]
      exact h7 i (by omega)

end Go.Proofs.Ytmgkdnncjapejaa.Ab
