/- A part of the proof that the law answers true at every input: the text W05L; no conditions. -/
import Derived.Test.YtmgkdnncjapejaaW05J
set_option linter.unusedSimpArgs false
set_option linter.unusedVariables false
namespace Go.Proofs.Ytmgkdnncjapejaa.Ab
open Go Go.Proofs.Ytmgkdnncjapejaa.Abs Go.Proofs.Ytmgkdnncjapejaa.Abs.W05
set_option maxRecDepth 100000
set_option maxHeartbeats 4000000

theorem slice_from {o off m len cap n : Nat} (hm : m = 2 ∨ m = 3) (h1 : n ≤ len) (h2 : len ≤ cap) :
    sliceV 1 (.slice (some ⟨o, off, some m⟩) len cap) (some (Value.int .i64 (n))) none none = some (.slice (some ⟨o, off + n, some m⟩) (len - n) (cap - n)) := by
  have a : (n : Int) ≤ len := by omega
  have c : m / 2 = 1 ∨ m = 1 := by omega
  simp [sliceV, optInt, a, h2, c]

theorem rpop_nil_ev {H : Abs.Heap} {al : List Nat} {q : Nat} {ro : Option (List Int)} {N : Nat} (Q : RS H al q [] ro N) (k : Nat) :
    evF Γ ov (k + 1) 18 [.pointer (some ⟨q, 0, none⟩)] H = some (.tuple #[(Value.int .i64 (0)), .bool false], H) := by
  obtain ⟨fp, lv, rv, rk, Q⟩ := Q
  have qo := Q.qo
  obtain ⟨a, cap, hlv⟩ := Q.lvl
  subst hlv
  have z : (([] : List Int).length : Int) = 0 := rfl
  rw [evF, ov_ne 18 _ _ (by decide)]
  simp only [evB, Γ, i18, Tr.ofList]
  simp only [List.length_nil] at qo
  have z : ((0 : Nat) : Int) = 0 := rfl
  repeat ((first | rw [evSeq_go] | rw [evSeq_none] | rw [evSeq_guard] | rw [evC_region] | rw [evC_seq] | rw [evC_cond] | rw [evC_block]); try simp only [undef, Array.size_empty, evSeq_nil, isCall_mv, isCall_pick, isCall_alloc, isCall_box, isCall_build, isCall_bslice, isCall_load, isCall_store, isCall_nilchk, isCall_bin, isCall_un, isCall_conv, isCall_mkfn, isCall_mkslice, isCall_slice, isCall_strslice, isCall_faddr, isCall_field, isCall_iaddr, isCall_aaddr, isCall_aindex, isCall_strindex, isCall_ext, isCall_len, isCall_strlen, isCall_const, isCall_append, isCall_minmax, isCall_copy, isCall_call, evI, Opd.ev, rd_set, rd_nil, cond_true, cond_false, Nat.reduceEqDiff, Nat.reduceAdd, Nat.reduceMul, Nat.add_zero, Nat.zero_add, Nat.mul_one, if_true, if_false, reduceIte, binV, intBin, eqBy, Abs.ptrEq, Abs.slcEq, Abs.fncEq, leafEq, unV, Option.map_some, Option.map_none, Option.isNone_none, Option.isNone_some, Bool.not_true, Bool.not_false, beq_self_eq_true, List.getElem?_cons_zero, List.getElem?_cons_succ, evRes, packRes, List.map_cons, List.map_nil, Heap.loadv, Bool.false_eq_true, List.getElem?_toArray, decide_true, decide_false, List.append_nil, List.nil_append, List.cons_append, List.toList_toArray, Bool.beq_eq_decide_eq, reduceCtorEq, Heap.storev, cells_int, cells_bool, cells_string, cells_pointer, cells_slice, cells_func, cells_nilFunc, cells_agg, ok_int, ok_bool, ok_string, ok_pointer, ok_slice, ok_func, ok_nilFunc, ok_agg, size_one, toList_one, Heap.get_put, Heap.size_put, Heap.size_ext, iaddrV, true_and, and_true, eq_self, evC_skip, evC_exit, evC_ret, ext_zero, Option.map_map, Function.comp_def, List.size_toArray, List.length_cons, List.length_nil, not_true_eq_false, not_false_eq_true, ne_eq, qo, z])

theorem cut_perm {l : List Int} {b : Nat} (h : b < l.length) : l.Perm (g l b :: (l.take b ++ l.drop (b + 1))) := by
  have e : l = l.take b ++ g l b :: l.drop (b + 1) := by
    rw [← g_get h, List.getElem_cons_drop, List.take_append_drop]
  have := @List.perm_middle _ (g l b) (l.take b) (l.drop (b + 1))
  rw [← e] at this
  exact this

theorem rpop_ev {H : Abs.Heap} {al : List Nat} {q : Nat} {l : List Int} {ro : Option (List Int)} {N : Nat} (Q : RS H al q l ro N) (hl0 : 0 < l.length) (hsmall : l.length ≤ 60000) {k : Nat} (hk : l.length + 5 ≤ k) :
    ∃ (H' : Abs.Heap) (al' : List Nat) (b : Nat), evF Γ ov k 18 [.pointer (some ⟨q, 0, none⟩)] H = some (.tuple #[(Value.int .i64 (g l b)), .bool true], H') ∧ RS H' al' q (l.take b ++ l.drop (b + 1)) ro N ∧ Fr al H H' ∧ Grow H al al' ∧
      b < l.length ∧ (ro = none → b = 0) ∧ ∀ r, ro = some r → ∀ j, j < l.length → ltR r (g l j) (g l b) = false := by
  obtain ⟨k, rfl⟩ : ∃ j, k = j + 2 := ⟨k - 2, by omega⟩
  obtain ⟨b, hf, hb, hb0, hbm⟩ := rfirst_ev Q hl0 (by omega) (k := k) (by omega)
  obtain ⟨fp, lv, rv, rk, Q⟩ := Q
  have qo := Q.qo
  rcases Q.ls with ⟨_, hle⟩ | ⟨o, off, m, cap, e, cs, hlv, hm, hcap, go, hlen, hcs, of, oq⟩
  · rw [hle] at hl0; simp at hl0
  subst hlv
  have lq := Q.lal _ (Q.sub _ Q.qf)
  have lo := Q.lal _ (Q.sub _ of)
  have z1 : ¬ ((l.length : Nat) : Int) = 0 := by omega
  have hb' : (b : Int) < (l.length : Nat) := by omega
  have c1 := hcs b hb
  have hw : IntKind.i64.wrap ((b : Int) + 1) = ((b + 1 : Nat) : Int) := by rw [wrap_in (by omega) (by omega)]; omega
  have sl1 := slice_to (o := o) (off := off) (m := m) (len := l.length) (cap := cap) (n := b) hm (by omega) hcap
  have sl2 := slice_from (o := o) (off := off) (m := m) (len := l.length) (cap := cap) (n := b + 1) hm (by omega) hcap
  have tl : (l.take b).length = b := by simp; omega
  have hX1 : ∀ i, i < H.size → ((Heap.ext 2 H).put H.size (.cells 3 false [])).get i = H.get i := fun i hi => by rw [Heap.get_put, if_neg (by omega), ext_old hi]
  obtain ⟨X2, o2, cp, m2, y2, y3, y4, y5, y6, y7, e2, cs2, y8, y9, y10⟩ := copy_all (X := (Heap.ext 2 H).put H.size (.cells 3 false [])) (l := l.take b) (v := .slice (some ⟨o, off, some m⟩) b cap)
    (.inr ⟨o, off, m, cap, e, false, cs, by rw [tl], by omega, by omega, by rw [hX1 o lo]; exact go, by rw [Heap.size_put, Heap.size_ext]; omega, by omega, fun i hi => by rw [tl] at hi; rw [g_take hi]; exact hcs i (by omega)⟩)
    (b := H.size) (id := H.size + 1) (e0 := 3) (by omega) (by rw [Heap.get_put, if_neg (by omega), ext_new (by omega)]) (by rw [Heap.get_put, if_pos rfl])
  have sz2 : X2.size = H.size + 2 := by rw [y3, Heap.size_put, Heap.size_ext]
  have hX2 : ∀ i, i < H.size → X2.get i = H.get i := fun i hi => by rw [y4 i (by omega), hX1 i hi]
  have lo2 : o2 < X2.size := by omega
  have hE : ∀ i, i < X2.size → (Heap.ext 1 X2).get i = X2.get i := fun i hi => ext_old hi
  have dl : (l.drop (b + 1)).length = l.length - (b + 1) := by simp
  have row : (Heap.ext 1 X2).row 1 (.slice (some ⟨o, off + (b + 1), some m⟩) (l.length - (b + 1)) (cap - (b + 1))) = some ((l.drop (b + 1)).length, (l.drop (b + 1)).map fun x => (Value.int .i64 (x))) := by
    rw [dl]
    by_cases hz : l.length - (b + 1) = 0
    · have : l.drop (b + 1) = [] := List.eq_nil_of_length_eq_zero (by rw [dl, hz])
      simp [Heap.row, hz, this]
    · simp only [Heap.row, if_neg hz, hE o (by omega), hX2 o lo, go, Nat.mul_one]
      rw [if_pos (by omega)]
      congr 2
      apply List.ext_getElem?
      intro i
      by_cases hi : i < l.length - (b + 1)
      · rw [List.getElem?_take, if_pos hi, List.getElem?_drop, g_map (by omega), Nat.add_assoc, hcs _ (by omega)]
        congr 2
        simp [g, List.getElem?_drop]
      · rw [List.getElem?_eq_none (by simp; omega), List.getElem?_eq_none (by simp; omega)]
  obtain ⟨X3, o3, off3, m3, cap3, e3, cs3, v1, v2, v3, v4, v5, v6, v7, v8, v9⟩ := append_list (X := Heap.ext 1 X2) (l1 := l.take b) (l2 := l.drop (b + 1)) (o := o2) (off := 0) (m := m2) (cap := cp) y6 y7 (by rw [hE o2 lo2]; exact y8) (by omega) (fun i hi => by rw [Nat.zero_add]; exact y10 i hi) row (id := X2.size) (ext_new0 (by omega)) (by simp; omega)
  have hX3 : ∀ i, i < H.size → X3.get i = H.get i := fun i hi => by rw [v9 i (by omega) (by omega), hE i (by omega), hX2 i hi]
  have sz3 : X3.size = H.size + 3 := by rw [v2, Heap.size_ext, sz2]
  have n0 := fun oo => new_pend (o := oo) (ext_new0 (n := 2) (H := H) (by omega))
  have qE : (Heap.ext 2 H).get q = H.get q := ext_old lq
  have q2 := hX2 q lq
  have q3 := hX3 q lq
  have qE2 : (Heap.ext 1 X2).get q = X2.get q := hE q (by omega)
  rw [q2] at qE2
  rw [qo] at qE q2 q3 qE2
  have nq : ¬ H.size = q := by omega
  rw [tl] at y2 v1
  have hFr : ∀ i, i < H.size → i ∉ fp → (X3.put q (.cells 48 false [.bool true, .bool rk, (Value.int .i64 ((N : Nat))), rv, .slice (some ⟨o3, off3, some m3⟩) (l.take b ++ l.drop (b + 1)).length cap3])).get i = H.get i := fun i hi hn => by
    rw [Heap.get_put, if_neg (fun c : q = i => hn (c ▸ Q.qf)), hX3 i hi]
  refine ⟨X3.put q (.cells 48 false [.bool true, .bool rk, (Value.int .i64 ((N : Nat))), rv, .slice (some ⟨o3, off3, some m3⟩) (l.take b ++ l.drop (b + 1)).length cap3]), [H.size, H.size + 1, H.size + 2] ++ al, b, ?eq,
    ⟨[H.size, H.size + 1, H.size + 2] ++ fp, _, rv, rk, ?_, .inr ⟨o3, off3, m3, cap3, e3, cs3, rfl, v3, v4, ?_, v6, v7, ?_, ?_⟩, List.mem_append_right _ Q.qf, fun y hy => ?_, fun y hy => ?_, fun y hy => ?_, ?_⟩, ⟨by rw [Heap.size_put, sz3]; omega, fun i hi hn => hFr i hi (fun c => hn (Q.sub i c))⟩, fun y hy => ?_, hb, hb0, hbm⟩
  case eq =>
    rw [evF, ov_ne 18 _ _ (by decide)]
    simp only [evB, Γ, i18, Tr.ofList]
    repeat ((first | rw [evSeq_go] | rw [evSeq_none] | rw [evSeq_guard] | rw [evC_region] | rw [evC_seq] | rw [evC_cond] | rw [evC_block]); try simp only [undef, Array.size_empty, evSeq_nil, isCall_mv, isCall_pick, isCall_alloc, isCall_box, isCall_build, isCall_bslice, isCall_load, isCall_store, isCall_nilchk, isCall_bin, isCall_un, isCall_conv, isCall_mkfn, isCall_mkslice, isCall_slice, isCall_strslice, isCall_faddr, isCall_field, isCall_iaddr, isCall_aaddr, isCall_aindex, isCall_strindex, isCall_ext, isCall_len, isCall_strlen, isCall_const, isCall_append, isCall_minmax, isCall_copy, isCall_call, evI, Opd.ev, rd_set, rd_nil, cond_true, cond_false, Nat.reduceEqDiff, Nat.reduceAdd, Nat.reduceMul, Nat.add_zero, Nat.zero_add, Nat.mul_one, if_true, if_false, reduceIte, binV, intBin, eqBy, Abs.ptrEq, Abs.slcEq, Abs.fncEq, leafEq, unV, Option.map_some, Option.map_none, Option.isNone_none, Option.isNone_some, Bool.not_true, Bool.not_false, beq_self_eq_true, List.getElem?_cons_zero, List.getElem?_cons_succ, evRes, packRes, List.map_cons, List.map_nil, Heap.loadv, Bool.false_eq_true, List.getElem?_toArray, decide_true, decide_false, List.append_nil, List.nil_append, List.cons_append, List.toList_toArray, Bool.beq_eq_decide_eq, reduceCtorEq, Heap.storev, cells_int, cells_bool, cells_string, cells_pointer, cells_slice, cells_func, cells_nilFunc, cells_agg, ok_int, ok_bool, ok_string, ok_pointer, ok_slice, ok_func, ok_nilFunc, ok_agg, size_one, toList_one, Heap.get_put, Heap.size_put, Heap.size_ext, iaddrV, true_and, and_true, eq_self, evC_skip, evC_exit, evC_ret, ext_zero, Option.map_map, Function.comp_def, List.size_toArray, List.length_cons, List.length_nil, not_true_eq_false, not_false_eq_true, ne_eq, qo, z1, hf, toList_nil, Int.natCast_nonneg, Int.toNat_natCast, hb', go, c1, parts_nil, fill_nil, n0, nq, qE, sl1, y2, q2, qE2, hw, sl2, v1, q3, set5_4, Nat.reduceLeDiff])
  · rw [Heap.get_put, if_pos rfl]
  · rw [Heap.get_put, if_neg (by omega)]; exact v5
  · simp; omega
  · omega
  · rcases List.mem_append.1 hy with hy | hy
    · exact List.mem_append_left _ hy
    · exact List.mem_append_right _ (Q.sub y hy)
  · rw [Heap.size_put, sz3]
    rcases List.mem_append.1 hy with hy | hy
    · simp at hy; omega
    · have := Q.lal y hy; omega
  · exact Q.inn y ((cut_perm hb).mem_iff.2 (List.mem_cons_of_mem _ hy))
  · cases ro with
    | none => exact Q.rks
    | some r =>
      obtain ⟨h1, h2, o5, h3, h4, h5⟩ := Q.rks
      have := Q.lal _ h3
      refine ⟨h1, h2, o5, List.mem_append_right _ h3, fun c => ?_, h5.fr (hFr o5 this h4)⟩
      rcases List.mem_append.1 c with c | c
      · simp at c; omega
      · exact h4 c
  · rcases List.mem_append.1 hy with hy | hy
    · right; simp at hy; omega
    · exact .inl hy

end Go.Proofs.Ytmgkdnncjapejaa.Ab
