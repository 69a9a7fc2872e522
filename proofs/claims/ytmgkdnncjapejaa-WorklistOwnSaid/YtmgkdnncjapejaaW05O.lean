/- A part of the proof that the law answers true at every input: the text W05O; no conditions. -/
import Derived.Test.YtmgkdnncjapejaaW05L
set_option linter.unusedSimpArgs false
set_option linter.unusedVariables false
namespace Go.Proofs.Ytmgkdnncjapejaa.Ab
open Go Go.Proofs.Ytmgkdnncjapejaa.Abs Go.Proofs.Ytmgkdnncjapejaa.Abs.W05
set_option maxRecDepth 100000
set_option maxHeartbeats 4000000

theorem QS.lal {H : Abs.Heap} {al : List Nat} {q : Nat} {l : List Int} {ro : Option (List Int)} {N : Nat} (Q : QS H al q l ro N) : ∀ x ∈ al, x < H.size := by
  obtain ⟨fp, h, hs, lv, fv, Q⟩ := Q
  exact Q.lal
theorem RS.lal {H : Abs.Heap} {al : List Nat} {q : Nat} {l : List Int} {ro : Option (List Int)} {N : Nat} (Q : RS H al q l ro N) : ∀ x ∈ al, x < H.size := by
  obtain ⟨fp, lv, rv, rk, Q⟩ := Q
  exact Q.lal
theorem QS.nd {H : Abs.Heap} {al : List Nat} {q : Nat} {l : List Int} {ro : Option (List Int)} {N : Nat} (Q : QS H al q l ro N) : l.Nodup := by
  obtain ⟨fp, h, hs, lv, fv, Q⟩ := Q
  exact Q.nd

theorem qlen_ev {H : Abs.Heap} {al : List Nat} {q : Nat} {l : List Int} {ro : Option (List Int)} {N : Nat} (Q : QS H al q l ro N) (k : Nat) :
    evF Γ ov (k + 2) 16 [.pointer (some ⟨q, 0, none⟩)] H = some ((Value.int .i64 (l.length)), H) := by
  obtain ⟨fp, h, hs, lv, fv, Q⟩ := Q
  exact len_ev Q.qm k
theorem qhas_ev {H : Abs.Heap} {al : List Nat} {q : Nat} {l : List Int} {ro : Option (List Int)} {N : Nat} (Q : QS H al q l ro N) (x : Int) (k : Nat) :
    evF Γ ov (k + 2) 17 [.pointer (some ⟨q, 0, none⟩), (Value.int .i64 (x))] H = some (.bool (decide (x ∈ l)), H) := by
  obtain ⟨fp, h, hs, lv, fv, Q⟩ := Q
  rw [has_ev Q.qm x k]
  congr 3
  have hn := Q.hn
  by_cases h0 : 0 ≤ x
  · by_cases h1 : x < hs.length
    · have := Q.hl x.toNat (by omega)
      rw [this, Int.toNat_of_nonneg h0]
      simp [h0, h1]
    · have : x ∉ l := fun c => by have := Q.inn x c; omega
      simp [h1, this]
  · have : x ∉ l := fun c => by have := Q.inn x c; omega
    simp [h0, this]

/-- Two queues, the program's and the reference's, that hold the same. -/
structure PL (X : Abs.Heap) (al1 al2 : List Nat) (q w : Nat) (lq lw : List Int) (ro : Option (List Int)) (N : Nat) : Prop where
  qs : QS X al1 q lq ro N
  rs : RS X al2 w lw ro N
  dis : ∀ x ∈ al1, x ∉ al2
  perm : lq.Perm lw
  eq : ro = none → lq = lw

theorem PL.fr {X Y : Abs.Heap} {al1 al2 : List Nat} {q w : Nat} {lq lw : List Int} {ro : Option (List Int)} {N : Nat} (P : PL X al1 al2 q w lq lw ro N) (h : Fr [] X Y) : PL Y al1 al2 q w lq lw ro N :=
  ⟨P.qs.fr h (by simp), P.rs.fr h (by simp), P.dis, P.perm, P.eq⟩

theorem pl_push {X : Abs.Heap} {al1 al2 : List Nat} {q w : Nat} {lq lw : List Int} {ro : Option (List Int)} {N : Nat} (P : PL X al1 al2 q w lq lw ro N) (x : Int) (hs : lq.length ≤ 50000) {k : Nat} (hk : lq.length + 20 ≤ k) :
    ∃ H1 H2 al1' al2' lq' lw' r, evF Γ ov k 14 [.pointer (some ⟨q, 0, none⟩), (Value.int .i64 (x))] X = some (.bool r, H1) ∧ evF Γ ov k 19 [.pointer (some ⟨w, 0, none⟩), (Value.int .i64 (x))] H1 = some (.bool r, H2) ∧ PL H2 al1' al2' q w lq' lw' ro N ∧
      Fr al1 X H1 ∧ Fr al2 H1 H2 ∧ Grow X al1 al1' ∧ Grow X al2 al2' ∧ lq'.length ≤ lq.length + 1 := by
  have hle := P.perm.length_eq
  obtain ⟨H1, al1', lq', p1, p2, p3, p4, p5, p6⟩ := push_ev P.qs x (by omega) (k := k) (by omega)
  have hR := P.rs.fr p3 (fun y hy c => P.dis y c hy)
  obtain ⟨H2, al2', s1, s2, s3, s4⟩ := rpush_ev hR x (by omega) (k := k) (by omega)
  have heq : pushOk N lw x = pushOk N lq x := by
    simp only [pushOk, P.perm.mem_iff]
  rw [heq] at s1 s2
  have dis' : ∀ y ∈ al1', y ∉ al2' := fun y hy hy' => by
    have l1 := p2.lal y hy
    rcases p4 y hy with a | a <;> rcases s4 y hy' with b | b
    · exact P.dis y a b
    · omega
    · have := P.rs.lal y b; omega
    · omega
  have dis2 : ∀ y ∈ al1', y ∉ al2 := fun y hy hy' => by
    rcases p4 y hy with a | a
    · exact P.dis y a hy'
    · have := P.rs.lal y hy'; omega
  refine ⟨H1, H2, al1', al2', lq', _, _, p1, s1, ⟨p2.fr s3 dis2, s2, dis', ?_, ?_⟩, p3, s3, p4, fun y hy => ?_, ?_⟩
  · cases hr : pushOk N lq x with
    | false => rw [p5 hr]; simpa using P.perm
    | true => exact ((p6 hr).1.trans (P.perm.append_right _)).trans (by simp)
  · intro hro
    cases hr : pushOk N lq x with
    | false => rw [p5 hr]; simpa using P.eq hro
    | true => rw [(p6 hr).2 hro, P.eq hro]; simp
  · rcases s4 y hy with b | b
    · exact .inl b
    · exact .inr (Nat.le_trans p3.1 b)
  · cases hr : pushOk N lq x with
    | false => rw [p5 hr]; omega
    | true => rw [(p6 hr).1.length_eq]; simp

theorem pl_pop {X : Abs.Heap} {al1 al2 : List Nat} {q w : Nat} {lq lw : List Int} {ro : Option (List Int)} {N : Nat} (P : PL X al1 al2 q w lq lw ro N) (hs : lq.length ≤ 50000) {k : Nat} (hk : lq.length + 20 ≤ k) :
    ∃ H1 H2 al2' lq' lw' m r, evF Γ ov k 15 [.pointer (some ⟨q, 0, none⟩)] X = some (.tuple #[(Value.int .i64 (m)), .bool r], H1) ∧ evF Γ ov k 18 [.pointer (some ⟨w, 0, none⟩)] H1 = some (.tuple #[(Value.int .i64 (m)), .bool r], H2) ∧ PL H2 al1 al2' q w lq' lw' ro N ∧
      Fr al1 X H1 ∧ Fr al2 H1 H2 ∧ Grow X al2 al2' ∧ lq'.length ≤ lq.length := by
  have hle := P.perm.length_eq
  by_cases hz : lq.length = 0
  · have e1 : lq = [] := List.eq_nil_of_length_eq_zero hz
    have e2 : lw = [] := List.eq_nil_of_length_eq_zero (by omega)
    subst e1 e2
    obtain ⟨k, rfl⟩ : ∃ j, k = j + 3 := ⟨k - 3, by omega⟩
    exact ⟨X, X, al2, [], [], 0, false, pop_nil_ev P.qs k, rpop_nil_ev P.rs (k + 2), P, Fr.refl _ _, Fr.refl _ _, Grow.refl _ _, Nat.le_refl _⟩
  obtain ⟨H1, lq', p1, p2, p3, p4, p5, p6⟩ := pop_ev P.qs (by omega) (by omega) (k := k) (by omega)
  have hR := P.rs.fr p3 (fun y hy c => P.dis y c hy)
  obtain ⟨H2, al2', b, s1, s2, s3, s4, s5, s6, s7⟩ := rpop_ev hR (by omega) (by omega) (k := k) (by omega)
  have hcp := cut_perm s5
  have hm : g lw b = g lq 0 := by
    cases ro with
    | none =>
      rw [s6 rfl, P.eq rfl]
    | some r =>
      have in1 : g lq 0 ∈ lw := P.perm.mem_iff.1 (g_mem (by omega))
      have in2 : g lw b ∈ lq := P.perm.mem_iff.2 (g_mem s5)
      obtain ⟨i, hi, hie⟩ := List.mem_iff_getElem.1 in1
      obtain ⟨j, hj, hje⟩ := List.mem_iff_getElem.1 in2
      rw [g_get] at hie hje
      have a1 := s7 r rfl i hi
      have a2 := p6 r rfl j hj
      rw [hie] at a1
      rw [hje] at a2
      exact (ordR r).tot _ _ a2 a1
  rw [hm] at s1 hcp
  have hq := cons_g (l := lq) (by omega)
  have dis' : ∀ y ∈ al1, y ∉ al2' := fun y hy hy' => by
    rcases s4 y hy' with c | c
    · exact P.dis y hy c
    · have := p2.lal y hy; omega
  refine ⟨H1, H2, al2', lq', _, _, _, p1, s1, ⟨p2.fr s3 (fun y hy c => P.dis y hy c), s2, dis', ?_, ?_⟩, p3, s3, fun y hy => ?_, ?_⟩
  · have h1 : (g lq 0 :: lq.tail).Perm (g lq 0 :: (lw.take b ++ lw.drop (b + 1))) := by
      rw [← hq]; exact P.perm.trans hcp
    exact p4.trans h1.cons_inv
  · intro hro
    rw [p5 hro, s6 hro, P.eq hro]
    simp
  · rcases s4 y hy with c | c
    · exact .inl c
    · exact .inr (Nat.le_trans p3.1 c)
  · rw [p4.length_eq]; simp

end Go.Proofs.Ytmgkdnncjapejaa.Ab
