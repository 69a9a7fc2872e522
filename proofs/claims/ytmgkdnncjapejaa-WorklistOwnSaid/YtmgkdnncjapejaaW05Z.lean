/- A part of the proof that the law answers true at every input: the text W05Z; no conditions. -/
import Derived.Test.YtmgkdnncjapejaaW05Y
set_option linter.unusedSimpArgs false
set_option linter.unusedVariables false
namespace Go.Proofs.Ytmgkdnncjapejaa.Ab
open Go Go.Proofs.Ytmgkdnncjapejaa.Abs Go.Proofs.Ytmgkdnncjapejaa.Abs.W05
set_option maxRecDepth 100000

theorem qm_hs {H : Abs.Heap} {fp : List Nat} {q h : Nat} {hs : List Bool} {l : List Int} {lv fv : Value} (Q : QM H fp q h hs l lv fv) {x : Int} {b : Bool} (h0 : 0 ≤ x) (h1 : x < hs.length) :
    QM (H.put h (.cells 4 false (setRange (hs.map Value.bool) x.toNat [.bool b]))) fp q h (hs.set x.toNat b) l lv fv := by
  obtain ⟨qo, ho, ls, qf, hf, qh, lt⟩ := Q
  refine ⟨?_, ?_, ?_, qf, hf, qh, lt⟩
  · rw [Heap.get_put, if_neg (fun e => qh e.symm), List.length_set]; exact qo
  · rw [Heap.get_put, if_pos rfl, setRange_one _ _ _ (by simp; omega), List.map_set]
  · rcases ls with ls | ⟨o, off, m, cap, e, cs, h1, h2, h3, h4, h5, h6, h7, h8, h9⟩
    · exact .inl ls
    · exact .inr ⟨o, off, m, cap, e, cs, h1, h2, h3, by rw [Heap.get_put, if_neg (fun e => h9 e.symm)]; exact h4, h5, h6, h7, h8, h9⟩

theorem qm_lv {H : Abs.Heap} {fp : List Nat} {q h : Nat} {hs : List Bool} {l l' : List Int} {lv lv' fv : Value} (Q : QM H fp q h hs l lv fv)
    (ls : ∃ o off m cap e cs, lv' = .slice (some ⟨o, off, some m⟩) l'.length cap ∧ (m = 2 ∨ m = 3) ∧ l'.length ≤ cap ∧ H.get o = some (.cells e false cs) ∧ off + cap ≤ cs.length ∧
      (∀ i, i < l'.length → cs[off + i]? = some (Value.int .i64 (g l' i))) ∧ o ∈ fp ∧ o ≠ q ∧ o ≠ h) :
    QM (H.put q (.cells 43 false [.bool true, .slice (some ⟨h, 0, some 3⟩) hs.length hs.length, lv', fv])) fp q h hs l' lv' fv := by
  obtain ⟨qo, ho, _, qf, hf, qh, lt⟩ := Q
  obtain ⟨o, off, m, cap, e, cs, h1, h2, h3, h4, h5, h6, h7, h8, h9⟩ := ls
  refine ⟨?_, ?_, .inr ⟨o, off, m, cap, e, cs, h1, h2, h3, ?_, h5, h6, h7, h8, h9⟩, qf, hf, qh, lt⟩
  · rw [Heap.get_put, if_pos rfl]
  · rw [Heap.get_put, if_neg qh]; exact ho
  · rw [Heap.get_put, if_neg (fun e => h8 e.symm)]; exact h4

theorem fr_put {H : Abs.Heap} {fp : List Nat} {i : Nat} {o : Ob} (h : i ∈ fp) : Fr fp H (H.put i o) :=
  ⟨Nat.le_refl _, fun id _ hn => by rw [Heap.get_put, if_neg (fun e : i = id => hn (e ▸ h))]⟩

theorem slice_tail {o off m len cap : Nat} (hm : m = 2 ∨ m = 3) (h1 : 1 ≤ len) (h2 : len ≤ cap) :
    sliceV 1 (.slice (some ⟨o, off, some m⟩) len cap) (some (Value.int .i64 (1))) (some (Value.int .i64 (len))) (some (Value.int .i64 (len))) = some (.slice (some ⟨o, off + 1, some 3⟩) (len - 1) (len - 1)) := by
  have a : (1 : Int) ≤ len := by omega
  have b : (len : Int) ≤ cap := by omega
  have c : m / 2 = 1 := by omega
  have d : ¬ m = 1 := by omega
  simp [sliceV, optInt, a, b, c, d]
theorem slice_to {o off m len cap n : Nat} (hm : m = 2 ∨ m = 3) (h1 : n ≤ len) (h2 : len ≤ cap) :
    sliceV 1 (.slice (some ⟨o, off, some m⟩) len cap) none (some (Value.int .i64 (n))) none = some (.slice (some ⟨o, off, some m⟩) n cap) := by
  have b : (n : Int) ≤ cap := by omega
  have c : m / 2 = 1 ∨ m = 1 := by omega
  simp [sliceV, optInt, b, c]

theorem g_tail (l : List Int) (i : Nat) : g l.tail i = g l (i + 1) := by
  cases l <;> simp [g]
theorem g_take {l : List Int} {n i : Nat} (h : i < n) : g (l.take n) i = g l i := by
  simp [g, List.getElem?_take, h]
theorem cons_g {l : List Int} (h : 0 < l.length) : l = g l 0 :: l.tail := by
  cases l with
  | nil => simp at h
  | cons a t => rfl

theorem sw_tail {l : List Int} (h : 0 < l.length) : ((sw l 0 (l.length - 1)).take (l.length - 1)).Perm l.tail := by
  have h1 := sw_perm (l := l) (i := 0) (j := l.length - 1) h (by omega)
  have e1 : sw l 0 (l.length - 1) = (sw l 0 (l.length - 1)).take (l.length - 1) ++ [g l 0] := by
    apply List.ext_getElem?
    intro i
    by_cases hi : i < l.length - 1
    · rw [List.getElem?_append_left (by simp [sw_len]; omega), List.getElem?_take, if_pos hi]
    · by_cases hj : i = l.length - 1
      · subst hj
        rw [List.getElem?_append_right (by simp [sw_len]), g_eq (by rw [sw_len]; omega), g_sw h (by omega), if_pos rfl]
        simp [sw_len]
      · rw [List.getElem?_eq_none (by rw [sw_len]; omega), List.getElem?_eq_none (by simp [sw_len]; omega)]
  have h2 : ((sw l 0 (l.length - 1)).take (l.length - 1) ++ [g l 0]).Perm (g l 0 :: l.tail) := by
    rw [← e1]
    exact h1.trans (by rw [← cons_g h])
  have h3 : (g l 0 :: (sw l 0 (l.length - 1)).take (l.length - 1)).Perm (g l 0 :: l.tail) := (List.perm_append_singleton _ _).symm.trans h2
  exact h3.cons_inv

theorem Fr.mono {fp al : List Nat} {A B : Abs.Heap} (h : Fr fp A B) (hs : ∀ x ∈ fp, x ∈ al) : Fr al A B := ⟨h.1, fun id h1 h2 => h.2 id h1 (fun c => h2 (hs id c))⟩

theorem pop_nil_ev {H : Abs.Heap} {al : List Nat} {q : Nat} {ro : Option (List Int)} {N : Nat} (Q : QS H al q [] ro N) (k : Nat) :
    evF Γ ov (k + 3) 15 [.pointer (some ⟨q, 0, none⟩)] H = some (.tuple #[(Value.int .i64 (0)), .bool false], H) := by
  obtain ⟨fp, h, hs, lv, fv, Q⟩ := Q
  have hlen : _ = some ((Value.int .i64 (0)), H) := len_ev Q.qm k
  rw [evF, ov_ne 15 _ _ (by decide)]
  simp only [evB, Γ, i15, Tr.ofList]
  repeat ((first | rw [evSeq_go] | rw [evSeq_none] | rw [evSeq_guard] | rw [evC_region] | rw [evC_seq] | rw [evC_cond] | rw [evC_block]); try simp only [undef, Array.size_empty, evSeq_nil, isCall_mv, isCall_pick, isCall_alloc, isCall_box, isCall_build, isCall_bslice, isCall_load, isCall_store, isCall_nilchk, isCall_bin, isCall_un, isCall_conv, isCall_mkfn, isCall_mkslice, isCall_slice, isCall_strslice, isCall_faddr, isCall_field, isCall_iaddr, isCall_aaddr, isCall_aindex, isCall_strindex, isCall_ext, isCall_len, isCall_strlen, isCall_const, isCall_append, isCall_minmax, isCall_copy, isCall_call, evI, Opd.ev, rd_set, rd_nil, cond_true, cond_false, Nat.reduceEqDiff, Nat.reduceAdd, Nat.reduceMul, Nat.add_zero, Nat.zero_add, Nat.mul_one, if_true, if_false, reduceIte, binV, intBin, eqBy, Abs.ptrEq, Abs.slcEq, Abs.fncEq, leafEq, unV, Option.map_some, Option.map_none, Option.isNone_none, Option.isNone_some, Bool.not_true, Bool.not_false, beq_self_eq_true, List.getElem?_cons_zero, List.getElem?_cons_succ, evRes, packRes, List.map_cons, List.map_nil, Heap.loadv, Bool.false_eq_true, List.getElem?_toArray, decide_true, decide_false, List.append_nil, List.nil_append, List.cons_append, List.toList_toArray, Bool.beq_eq_decide_eq, reduceCtorEq, Heap.storev, cells_int, cells_bool, cells_string, cells_pointer, cells_slice, cells_func, cells_nilFunc, cells_agg, ok_int, ok_bool, ok_string, ok_pointer, ok_slice, ok_func, ok_nilFunc, ok_agg, size_one, toList_one, Heap.get_put, Heap.size_put, Heap.size_ext, iaddrV, true_and, and_true, eq_self, evC_skip, evC_exit, evC_ret, ext_zero, Option.map_map, Function.comp_def, List.size_toArray, List.length_cons, List.length_nil, not_true_eq_false, not_false_eq_true, ne_eq, hlen])

theorem pop_ev {H : Abs.Heap} {al : List Nat} {q : Nat} {l : List Int} {ro : Option (List Int)} {N : Nat} (Q : QS H al q l ro N) (hl0 : 0 < l.length) (hsmall : l.length < 99999) {k : Nat} (hk : l.length + 8 ≤ k) :
    ∃ H' l', evF Γ ov k 15 [.pointer (some ⟨q, 0, none⟩)] H = some (.tuple #[(Value.int .i64 (g l 0)), .bool true], H') ∧ QS H' al q l' ro N ∧ Fr al H H' ∧ l'.Perm l.tail ∧ (ro = none → l' = l.tail) ∧
      (∀ r, ro = some r → ∀ j, j < l.length → ltR r (g l j) (g l 0) = false) := by
  obtain ⟨k, rfl⟩ : ∃ j, k = j + 3 := ⟨k - 3, by omega⟩
  obtain ⟨fp, h, hs, lv, fv, Q⟩ := Q
  have hlen := len_ev Q.qm k
  have hn := Q.hn
  obtain ⟨o, off, m, cap, e, cs, hlv, hm, hcap, go, hcl, hcs, of, oq, oh⟩ := Q.qm.read hl0
  have qo := Q.qm.qo
  have ho := Q.qm.ho
  have z1 : ¬ ((l.length : Nat) : Int) = 0 := by omega
  have z2 : (0 : Int) < (l.length : Nat) := by omega
  have c0 := hcs 0 hl0
  rw [Nat.add_zero] at c0
  have inx := Q.inn _ (g_mem hl0)
  have inx0 := inx.1
  have inx1 : g l 0 < (hs.length : Nat) := by omega
  have s1 : (g l 0).toNat + 1 ≤ (hs.map Value.bool).length := by simp; omega
  have qh : ¬ h = q := fun e => Q.qm.qh e.symm
  have Q1 := qm_hs Q.qm (b := false) inx.1 (by omega)
  have F1 : Fr fp H (H.put h (.cells 4 false (setRange (hs.map Value.bool) (g l 0).toNat [.bool false]))) := fr_put Q.qm.hf
  have ntl : g l 0 ∉ l.tail := by
    have := Q.nd
    rw [cons_g hl0] at this
    exact (List.nodup_cons.1 this).1
  have ndt : l.tail.Nodup := by
    have := Q.nd
    rw [cons_g hl0] at this
    exact (List.nodup_cons.1 this).2
  have memt : ∀ y, y ∈ l ↔ y = g l 0 ∨ y ∈ l.tail := fun y => by
    have : y ∈ g l 0 :: l.tail ↔ y = g l 0 ∨ y ∈ l.tail := List.mem_cons
    rw [← cons_g hl0] at this
    exact this
  have hlt : ∀ i, i < N → (hs.set (g l 0).toNat false).getD i false = decide ((i : Int) ∈ l.tail) := fun i hi => by
    have a := Q.hl i hi
    by_cases e : (g l 0).toNat = i
    · have e2 : (i : Int) = g l 0 := by omega
      have lt : (g l 0).toNat < hs.length := by omega
      rw [e2, ← e]; simp [List.getElem?_set, lt, ntl]
    · have e2 : ¬ (i : Int) = g l 0 := by omega
      have e3 := memt (i : Int)
      simp only [e2, false_or] at e3
      rw [decide_eq_decide.2 e3] at a
      rw [← a]
      simp [List.getElem?_set, e]
  rw [evF, ov_ne 15 _ _ (by decide)]
  simp only [evB, Γ, i15, Tr.ofList]
  rw [hlv] at qo
  cases ro with
  | none =>
    have hfv : fv = .nilFunc := Q.rk
    subst hfv
    have hsl := slice_tail (o := o) (off := off) hm hl0 hcap
    have Q2 : QM _ fp q h (hs.set (g l 0).toNat false) l.tail (.slice (some ⟨o, off + 1, some 3⟩) (l.length - 1) (l.length - 1)) .nilFunc := qm_lv Q1 (l' := l.tail) ⟨o, off + 1, 3, l.length - 1, e, cs, by simp, .inr rfl, by simp, by rw [Heap.get_put, if_neg (fun e => oh e.symm)]; exact go, by omega, fun i hi => by
      simp at hi
      rw [g_tail, Nat.add_assoc, Nat.add_comm 1 i]; exact hcs (i + 1) (by omega), of, oq, oh⟩
    refine ⟨_, l.tail, ?eq, ⟨fp, h, hs.set (g l 0).toNat false, _, .nilFunc, Q2, Q.sub, Q.lal, by rw [List.length_set]; exact hn, fun y hy => Q.inn y ((memt y).2 (.inr hy)), ndt, hlt, rfl⟩, ?_, List.Perm.refl _, fun _ => rfl, fun _ c => by cases c⟩
    case eq =>
      repeat ((first | rw [evSeq_go] | rw [evSeq_none] | rw [evSeq_guard] | rw [evC_region] | rw [evC_seq] | rw [evC_cond] | rw [evC_block]); try simp only [undef, Array.size_empty, evSeq_nil, isCall_mv, isCall_pick, isCall_alloc, isCall_box, isCall_build, isCall_bslice, isCall_load, isCall_store, isCall_nilchk, isCall_bin, isCall_un, isCall_conv, isCall_mkfn, isCall_mkslice, isCall_slice, isCall_strslice, isCall_faddr, isCall_field, isCall_iaddr, isCall_aaddr, isCall_aindex, isCall_strindex, isCall_ext, isCall_len, isCall_strlen, isCall_const, isCall_append, isCall_minmax, isCall_copy, isCall_call, evI, Opd.ev, rd_set, rd_nil, cond_true, cond_false, Nat.reduceEqDiff, Nat.reduceAdd, Nat.reduceMul, Nat.add_zero, Nat.zero_add, Nat.mul_one, if_true, if_false, reduceIte, binV, intBin, eqBy, Abs.ptrEq, Abs.slcEq, Abs.fncEq, leafEq, unV, Option.map_some, Option.map_none, Option.isNone_none, Option.isNone_some, Bool.not_true, Bool.not_false, beq_self_eq_true, List.getElem?_cons_zero, List.getElem?_cons_succ, evRes, packRes, List.map_cons, List.map_nil, Heap.loadv, Bool.false_eq_true, List.getElem?_toArray, decide_true, decide_false, List.append_nil, List.nil_append, List.cons_append, List.toList_toArray, Bool.beq_eq_decide_eq, reduceCtorEq, Heap.storev, cells_int, cells_bool, cells_string, cells_pointer, cells_slice, cells_func, cells_nilFunc, cells_agg, ok_int, ok_bool, ok_string, ok_pointer, ok_slice, ok_func, ok_nilFunc, ok_agg, size_one, toList_one, Heap.get_put, Heap.size_put, Heap.size_ext, iaddrV, true_and, and_true, eq_self, evC_skip, evC_exit, evC_ret, ext_zero, Option.map_map, Function.comp_def, List.size_toArray, List.length_cons, List.length_nil, not_true_eq_false, not_false_eq_true, ne_eq, qo, ho, hlen, z1, z2, go, c0, inx0, inx1, s1, qh, hsl, set4_2, Int.toNat_zero, Int.le_refl, Nat.reduceLeDiff])
      rw [List.length_set]
    · exact (F1.trans (fr_put Q.qm.qf)).mono Q.sub
  | some r =>
    obtain ⟨hr, hH, pp, oo, r1, r2, r3, r4, r5⟩ := Q.rk
    have hfv : fv = .func (.func 24) #[] #[.pointer (some ⟨pp, 0, none⟩)] := r5.1
    have lp := Q.lal _ r1
    have lo := Q.lal _ r2
    obtain ⟨X2, sw1, Q2, F2, sz2⟩ := swap_ev Q1 hl0 (show l.length - 1 < l.length by omega) (k + 1)
    obtain ⟨o2, off2, m2, cap2, e2, cs2, hlv2, hm2, hcap2, go2, hcl2, hcs2, of2, oq2, oh2⟩ := Q2.read (by rw [sw_len]; exact hl0)
    have hll : (sw l 0 (l.length - 1)).length = l.length := sw_len ..
    have hq2 := Q2.qo
    rw [hlv, List.length_set] at hq2
    have hlv3 : lv = .slice (some ⟨o2, off2, some m2⟩) l.length cap2 := by rw [hlv2, hll]
    have heq : Value.slice (some ⟨o, off, some m⟩) l.length cap = .slice (some ⟨o2, off2, some m2⟩) l.length cap2 := by rw [← hlv, hlv3]
    injection heq with h3 _ h4
    injection h3 with h3
    injection h3 with h5 h6 h7
    injection h7 with h7
    subst h4 h5 h6 h7
    have hsl := slice_to (o := o) (off := off) (n := l.length - 1) hm (by omega) hcap
    have tl : ((sw l 0 (l.length - 1)).take (l.length - 1)).length = l.length - 1 := by simp [sw_len]
    have ptl := sw_tail hl0
    have Q3 : QM _ fp q h (hs.set (g l 0).toNat false) ((sw l 0 (l.length - 1)).take (l.length - 1)) (.slice (some ⟨o, off, some m⟩) (l.length - 1) cap) fv := qm_lv Q2 ⟨o, off, m, cap, e2, cs2, by rw [tl], hm, by omega, go2, hcl2, fun i hi => by
      rw [tl] at hi
      rw [g_take hi]; exact hcs2 i (by omega), of2, oq2, oh2⟩
    have F3 := (F1.trans F2).trans (fr_put (o := .cells 43 false [.bool true, .slice (some ⟨h, 0, some 3⟩) (hs.set (g l 0).toNat false).length (hs.set (g l 0).toNat false).length, .slice (some ⟨o, off, some m⟩) (l.length - 1) cap, fv]) Q.qm.qf)
    have hL : LessAt _ fv r fp := (r5.fr (F3.2 pp lp r3) (F3.2 oo lo r4)).at (Nat.lt_of_lt_of_le lp F3.1) (Nat.lt_of_lt_of_le lo F3.1) r3 r4
    obtain ⟨H4, l', u1, u2, u3, u4, u5⟩ := down_ev Q3 hL (fun y hy => by rw [hr]; exact Q.inn y ((memt y).2 (.inr (ptl.mem_iff.1 hy)))) (dn_start hH hl0) (by omega) (k := k + 1) (by omega)
    have pm : ∀ y, y ∈ l' ↔ y ∈ l.tail := fun y => (u4.trans ptl).mem_iff
    refine ⟨H4, l', ?eq, ⟨fp, h, hs.set (g l 0).toNat false, _, fv, u2, Q.sub, fun y hy => Nat.lt_of_lt_of_le (Q.lal y hy) (Nat.le_trans F3.1 u3.1), by rw [List.length_set]; exact hn, fun y hy => Q.inn y ((memt y).2 (.inr ((pm y).1 hy))), (u4.trans ptl).nodup_iff.2 ndt, fun i hi => by rw [hlt i hi]; simp only [pm], hr, u5, pp, oo, r1, r2, r3, r4, ?_⟩, (F3.trans u3).mono Q.sub, u4.trans ptl, fun c => (by cases c), fun r' c => ?_⟩
    case eq =>
      rw [List.length_set] at u1
      subst hfv
      have hwl : IntKind.i64.wrap (((l.length : Nat) : Int) - 1) = ((l.length - 1 : Nat) : Int) := by rw [wrap_in (by omega) (by omega)]; omega
      have sw1' : evF Γ ov (k + 2) 27 [.pointer (some ⟨q, 0, none⟩), (Value.int .i64 (0)), (Value.int .i64 ((l.length - 1 : Nat)))] _ = _ := sw1
      repeat ((first | rw [evSeq_go] | rw [evSeq_none] | rw [evSeq_guard] | rw [evC_region] | rw [evC_seq] | rw [evC_cond] | rw [evC_block]); try simp only [undef, Array.size_empty, evSeq_nil, isCall_mv, isCall_pick, isCall_alloc, isCall_box, isCall_build, isCall_bslice, isCall_load, isCall_store, isCall_nilchk, isCall_bin, isCall_un, isCall_conv, isCall_mkfn, isCall_mkslice, isCall_slice, isCall_strslice, isCall_faddr, isCall_field, isCall_iaddr, isCall_aaddr, isCall_aindex, isCall_strindex, isCall_ext, isCall_len, isCall_strlen, isCall_const, isCall_append, isCall_minmax, isCall_copy, isCall_call, evI, Opd.ev, rd_set, rd_nil, cond_true, cond_false, Nat.reduceEqDiff, Nat.reduceAdd, Nat.reduceMul, Nat.add_zero, Nat.zero_add, Nat.mul_one, if_true, if_false, reduceIte, binV, intBin, eqBy, Abs.ptrEq, Abs.slcEq, Abs.fncEq, leafEq, unV, Option.map_some, Option.map_none, Option.isNone_none, Option.isNone_some, Bool.not_true, Bool.not_false, beq_self_eq_true, List.getElem?_cons_zero, List.getElem?_cons_succ, evRes, packRes, List.map_cons, List.map_nil, Heap.loadv, Bool.false_eq_true, List.getElem?_toArray, decide_true, decide_false, List.append_nil, List.nil_append, List.cons_append, List.toList_toArray, Bool.beq_eq_decide_eq, reduceCtorEq, Heap.storev, cells_int, cells_bool, cells_string, cells_pointer, cells_slice, cells_func, cells_nilFunc, cells_agg, ok_int, ok_bool, ok_string, ok_pointer, ok_slice, ok_func, ok_nilFunc, ok_agg, size_one, toList_one, Heap.get_put, Heap.size_put, Heap.size_ext, iaddrV, true_and, and_true, eq_self, evC_skip, evC_exit, evC_ret, ext_zero, Option.map_map, Function.comp_def, List.size_toArray, List.length_cons, List.length_nil, not_true_eq_false, not_false_eq_true, ne_eq, qo, ho, hlen, z1, z2, go, c0, inx0, inx1, s1, qh, hsl, set4_2, Int.toNat_zero, Int.le_refl, Nat.reduceLeDiff, hwl, sw1', hq2, u1])
    · exact (r5.fr (F3.2 pp lp r3) (F3.2 oo lo r4)).fr (u3.2 pp (Nat.lt_of_lt_of_le lp F3.1) r3) (u3.2 oo (Nat.lt_of_lt_of_le lo F3.1) r4)
    · cases c
      exact fun j hj => heap_root (ordR r) hH l.length j (by omega) hj

end Go.Proofs.Ytmgkdnncjapejaa.Ab
