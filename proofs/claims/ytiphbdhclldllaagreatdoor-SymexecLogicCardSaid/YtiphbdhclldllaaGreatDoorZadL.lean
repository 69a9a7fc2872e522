/- Regions, code, functions: what the abstract machine computes, the model computes. -/
import Derived.Test.YtiphbdhclldllaaGreatDoorZadK
import Derived.LoopN
set_option linter.unusedSimpArgs false
set_option linter.unusedVariables false
namespace Go.Proofs.YtiphbdhclldllaaGreatDoor.Mx
open Go

theorem append_pure {H : Heap} {id e s b : Nat} {x y : Value} {r : Value × Heap} (h : H.append id e s b true x y = some r) : H.append id e s b false x y = some r := by
  unfold Heap.append at h ⊢
  split at h
  · cases h
  rename_i n new hrow
  split at h
  · exact h
  · rename_i o off ek len cap
    split at h
    · rename_i h0; simp only [h0, if_true, if_false]; exact h
    rename_i h0
    split at h
    · cases h
    rename_i hek
    split at h
    · simp at h
    rename_i hfit
    split at h
    · cases h
    rename_i n2 old hrow2
    split at h
    case isFalse => cases h
    rename_i hb
    split at h
    case isFalse => simp at h
    rename_i hex
    rw [if_neg h0, if_neg hek]
    simp only [h0, if_false, hfit, hrow2, hb, and_self, if_true, hex]
    exact h
  · cases h

section
variable {P : Program} {B0 : Bs} {w0 : World} {ds : List Deferred} {cl : Nat → List Value → Heap → Option (Value × Heap)}

structure Sim (B0 : Bs) (w0 : World) (ds : List Deferred) (nt lo : Nat) (β : Emb) (T : Tr Value) (H : Heap) (a : Act) (w : World) : Prop where
  rel : WRel B0 w0 β H w
  tr : TR β T a
  nt : nt ≤ a.tmps.size
  sz : lo ≤ H.size
  df : a.defers = ds

def InsOk (P : Program) (nt : Nat) (ops : Array Oper) (n : Nat) (i : Ins) : Prop :=
  ∃ o i0 k, ops[i.idx]? = some o ∧ cIns P nt ops.toList i.idx k o = some i0 ∧ i.dst = i0.dst ∧ i.guard = i0.guard ∧ (i0.op.allocs = true → k < n) ∧
    (i.op = i0.op ∨ ∃ k e s by_ x y, i.op = .append k e s by_ true x y ∧ i0.op = .append k e s by_ false x y)

theorem size_put {a : Act} {d : Option Nat} {v : Value} : (a.put d v).tmps.size = a.tmps.size := by
  cases d <;> simp [Act.put]
theorem defers_put {a : Act} {d : Option Nat} {v : Value} : (a.put d v).defers = a.defers := by
  cases d <;> simp [Act.put]

theorem cIns_spec {nt : Nat} {opsL : List Oper} {idx k : Nat} {o : Oper} {i : Ins} (h : cIns P nt opsL idx k o = some i) :
    (∀ d, o.dst = some d → d < nt) ∧ (cI P k o.op = some i.op ∨ i.op = .stuck) ∧ i.dst = o.dst ∧ i.idx = idx ∧
      ((o.guard = none ∧ i.guard = none) ∨ ∃ j want g s, o.guard = some (j, want) ∧ opsL[j]? = some g ∧ g.dst = some s ∧ i.guard = some (s, want)) := by
  unfold cIns at h
  split at h
  · cases h
  rename_i hd
  have hd' : ∀ d, o.dst = some d → d < nt := by
    intro d e
    rw [e] at hd
    simpa [dstOk] using hd
  simp only at h
  have hi : cI P k o.op = some ((cI P k o.op).getD .stuck) ∨ (cI P k o.op).getD .stuck = .stuck := by
    cases cI P k o.op with
    | none => exact .inr rfl
    | some i => exact .inl rfl
  split at h
  · rename_i hg; cases h; exact ⟨hd', hi, rfl, rfl, .inl ⟨hg, rfl⟩⟩
  · rename_i j want hg
    split at h
    case h_2 => cases h
    rename_i g hgj
    split at h
    case h_2 => cases h
    rename_i s hs
    cases h
    exact ⟨hd', hi, rfl, rfl, .inr ⟨j, want, g, s, hg, hgj, hs, rfl⟩⟩

theorem wanted_eq {ops : Array Oper} {o : Oper} {i : Ins} {β : Emb} {T : Tr Value} {a : Act} (hT : TR β T a) {wt : Bool} (hwt : i.wanted T = some wt)
    (hg : (o.guard = none ∧ i.guard = none) ∨ ∃ j want g s, o.guard = some (j, want) ∧ ops.toList[j]? = some g ∧ g.dst = some s ∧ i.guard = some (s, want)) :
    Region.wanted o (yielded ops a.tmps) = wt := by
  rcases hg with ⟨h1, h2⟩ | ⟨j, want, g, s, h1, h2, h3, h4⟩
  · simp [Region.wanted, Ins.wanted, h1, h2] at hwt ⊢; exact hwt
  · rw [Array.getElem?_toList] at h2
    simp only [Ins.wanted, h4] at hwt
    simp only [Region.wanted, h1, yielded, h2, Option.bind_some, h3]
    have hv := hT s
    cases hs : a.tmps[s]? with
    | none =>
      have : a.tmps.getD s undef = undef := by simp [hs]
      rw [this] at hv
      generalize rd T s = r at hv hwt
      cases hv with
      | tuple c c' hc gc =>
        simp only at hwt
        split at hwt <;> cases hwt
        rfl
      | any v => cases hwt
      | opq v _ => cases hwt
    | some u =>
      have : a.tmps.getD s undef = u := by simp [hs]
      rw [this] at hv
      generalize rd T s = r at hv hwt
      cases hv with
      | bool q => simp only [Option.some.injEq] at hwt; subst hwt; cases q <;> cases want <;> rfl
      | tuple c c' hc gc =>
        simp only at hwt
        split at hwt <;> cases hwt
        rfl
      | _ => cases hwt

theorem sim_ins (hcl : ClOk P B0 w0 cl) {nt n b : Nat} {ops : Array Oper} {i : Ins} (hi : InsOk P nt ops n i) {s s1 : St} (he : evIns cl b i s = some s1) {β : Emb} {a : Act} {w : World} (hs : Sim B0 w0 ds nt (b + n) β s.T s.H a w)
    {K : Act → World → Prop} {Q : Exit → Act → World → Prop} (hK : ∀ β' a' w', β.le β' → Sim B0 w0 ds nt (b + n) β' s1.T s1.H a' w' → K a' w') : wpOp P ops Q i.idx K a w := by
  obtain ⟨o, i0, k, h1, h2, h3, h4, h5, h6⟩ := hi
  obtain ⟨c1, c2, c3, c4, c5⟩ := cIns_spec h2
  obtain ⟨v, H', hev, rfl⟩ := evIns_some he
  have hwant : ∀ wt, i.wanted s.T = some wt → Region.wanted o (yielded ops a.tmps) = wt := fun wt h => wanted_eq (i := i) hs.tr h (by rw [h4]; exact c5)
  have hdst : i.dst = o.dst := h3.trans c3
  have hlt : ∀ t, o.dst = some t → t < a.tmps.size := fun t ht => Nat.lt_of_lt_of_le (c1 t ht) hs.nt
  have hcls : ∀ g args H v H', cl g args H = some (v, H') → H.size ≤ H'.size := fun g args H v H' h => (hcl.c g args H v H' h).2.1
  unfold wpOp
  simp only [h1]
  rcases evW_some hev with ⟨hw, hex, _⟩ | ⟨hw, rfl, rfl⟩
  · rw [hwant _ hw]
    simp only [if_true]
    refine .inl ?_
    have hex0 : evI cl b s.T s.H i0.op = some (v, H') := by
      rcases h6 with e | ⟨k', e', s', by_, x, y, e1, e2⟩
      · rw [← e]; exact hex
      · rw [e1] at hex; rw [e2]
        simp only [evI] at hex ⊢
        exact append_pure hex
    have c2' : cI P k o.op = some i0.op := by
      rcases c2 with c2 | c2
      · exact c2
      · rw [c2] at hex0; simp [evI] at hex0
    refine sim_I hcl hs.rel hs.tr rfl c2' hex0 (fun hal => by have := h5 hal; have := hs.sz; omega) ?_
    intro β' v' w' hle hR hvr
    refine hK β' _ w' hle ⟨hR, ?_, by rw [size_put]; exact hs.nt, ?_, by rw [defers_put]; exact hs.df⟩
    · show TR β' (putT s.T i.dst v) _
      rw [hdst]
      exact (hs.tr.mono hle).put hlt hvr
    · exact Nat.le_trans hs.sz (evI_size hcls hex)
  · rw [hwant _ hw]
    simp only [Bool.false_eq_true, if_false]
    refine hK β _ w (Emb.le_refl β) ⟨hs.rel, ?_, by rw [size_put]; exact hs.nt, hs.sz, by rw [defers_put]; exact hs.df⟩
    show TR β (putT s.T i.dst undef) _
    rw [hdst]
    exact hs.tr.put hlt (.undef β)

theorem Sim.le {nt lo lo' : Nat} {β : Emb} {T : Tr Value} {H : Heap} {a : Act} {w : World} (h : Sim B0 w0 ds nt lo β T H a w) (hl : lo' ≤ lo) : Sim B0 w0 ds nt lo' β T H a w :=
  ⟨h.rel, h.tr, h.nt, Nat.le_trans hl h.sz, h.df⟩

theorem cList_spec {nt : Nat} {ops : Array Oper} : ∀ (l : List Oper) (idx k : Nat) (is : List Ins) (n : Nat), cList P nt ops.toList idx k l = some (is, n) → (∀ j, l[j]? = ops[idx + j]?) →
    k ≤ n ∧ is.length = l.length ∧ ∀ (j : Nat) (i : Ins), is[j]? = some i → i.idx = idx + j ∧ InsOk P nt ops n i := by
  intro l
  induction l with
  | nil => intro idx k is n h _; simp [cList] at h; obtain ⟨rfl, rfl⟩ := h; exact ⟨Nat.le_refl _, rfl, fun j i h => by simp at h⟩
  | cons o l ih =>
    intro idx k is n h hl
    simp only [cList] at h
    split at h
    · cases h
    rename_i i0 hi0
    split at h
    case h_2 => cases h
    rename_i r n' hr
    cases h
    obtain ⟨g1, g2, g3⟩ := ih (idx + 1) _ r n hr (fun j => by have := hl (j + 1); simpa [Nat.add_assoc, Nat.add_comm 1 j] using this)
    have hk : k ≤ n ∧ (i0.op.allocs = true → k < n) := by
      split at g1 <;> rename_i ha
      · exact ⟨by omega, fun _ => by omega⟩
      · exact ⟨g1, fun h => absurd h ha⟩
    refine ⟨hk.1, by simp [g2], fun j i hj => ?_⟩
    cases j with
    | zero =>
      simp at hj; subst hj
      have hidx := (cIns_spec hi0).2.2.2.1
      refine ⟨hidx, o, i0, k, ?_, by rw [hidx]; exact hi0, rfl, rfl, hk.2, .inl rfl⟩
      have := hl 0
      rw [hidx]; simpa using this.symm
    | succ j =>
      simp at hj
      obtain ⟨k1, k2⟩ := g3 j i hj
      exact ⟨by omega, k2⟩

theorem cList_spec' {nt : Nat} {ops : Array Oper} : ∀ (l : List Oper) (idx k : Nat) (is : List Ins) (n : Nat), cList P nt ops.toList idx k l = some (is, n) → (∀ j, l[j]? = if j < l.length then ops[idx + j]? else none) →
    k ≤ n ∧ is.length = l.length ∧ ∀ (j : Nat) (i : Ins), is[j]? = some i → i.idx = idx + j ∧ InsOk P nt ops n i := by
  intro l
  induction l with
  | nil => intro idx k is n h _; simp [cList] at h; obtain ⟨rfl, rfl⟩ := h; exact ⟨Nat.le_refl _, rfl, fun j i h => by simp at h⟩
  | cons o l ih =>
    intro idx k is n h hl
    simp only [cList] at h
    split at h
    · cases h
    rename_i i0 hi0
    split at h
    case h_2 => cases h
    rename_i r n' hr
    cases h
    obtain ⟨g1, g2, g3⟩ := ih (idx + 1) _ r n hr (fun j => by have := hl (j + 1); simpa [Nat.add_assoc, Nat.add_comm 1 j] using this)
    have hk : k ≤ n ∧ (i0.op.allocs = true → k < n) := by
      split at g1 <;> rename_i ha
      · exact ⟨by omega, fun _ => by omega⟩
      · exact ⟨g1, fun h => absurd h ha⟩
    refine ⟨hk.1, by simp [g2], fun j i hj => ?_⟩
    cases j with
    | zero =>
      simp at hj; subst hj
      have hidx := (cIns_spec hi0).2.2.2.1
      refine ⟨hidx, o, i0, k, ?_, by rw [hidx]; exact hi0, rfl, rfl, hk.2, .inl rfl⟩
      have := hl 0
      rw [hidx]; simpa using this.symm
    | succ j =>
      simp at hj
      obtain ⟨k1, k2⟩ := g3 j i hj
      exact ⟨by omega, k2⟩

theorem cList_ops {nt : Nat} {opsL : List Oper} : ∀ (l : List Oper) (idx k : Nat) (is : List Ins) (n : Nat), cList P nt opsL idx k l = some (is, n) →
    ∀ (j : Nat) (i : Ins), is[j]? = some i → ∃ k op, cI P k op = some i.op ∨ i.op = .stuck := by
  intro l
  induction l with
  | nil => intro idx k is n h; simp [cList] at h; obtain ⟨rfl, rfl⟩ := h; intro j i h; simp at h
  | cons o l ih =>
    intro idx k is n h
    simp only [cList] at h
    split at h
    · cases h
    rename_i i0 hi0
    split at h
    case h_2 => cases h
    rename_i r n' hr
    cases h
    intro j i hj
    cases j with
    | zero => simp at hj; subst hj; exact ⟨k, o.op, (cIns_spec hi0).2.1⟩
    | succ j => simp at hj; exact ih (idx + 1) _ r n hr j i hj

theorem seq_sim (hcl : ClOk P B0 w0 cl) {nt n b : Nat} {ops : Array Oper} {Q : Exit → Act → World → Prop} {fin : St} {rest : List Nat} : ∀ (is : List Ins) (idx : Nat) (s : St) (β : Emb) (a : Act) (w : World),
    (∀ (j : Nat) (i : Ins), is[j]? = some i → i.idx = idx + j ∧ InsOk P nt ops n i) → evSeq cl b is s = some fin → Sim B0 w0 ds nt (b + n) β s.T s.H a w →
    (∀ β' a' w', β.le β' → Sim B0 w0 ds nt (b + n) β' fin.T fin.H a' w' → wpOps P ops Q rest a' w') → wpOps P ops Q (List.range' idx is.length ++ rest) a w := by
  intro is
  induction is with
  | nil => intro idx s β a w _ h hs hQ; simp [evSeq] at h; subst h; exact hQ β a w (Emb.le_refl β) hs
  | cons i is ih =>
    intro idx s β a w hi h hs hQ
    simp only [evSeq] at h
    split at h
    case h_2 => cases h
    rename_i s1 e
    obtain ⟨hx, hok⟩ := hi 0 i rfl
    simp only [List.length_cons, List.range'_succ, List.cons_append]
    rw [wpOps_cons]
    have := sim_ins hcl hok e hs (Q := Q) (K := wpOps P ops Q (List.range' (idx + 1) is.length ++ rest)) (fun β' a' w' hle hs' =>
      ih (idx + 1) s1 β' a' w' (fun j i' hj => by obtain ⟨k1, k2⟩ := hi (j + 1) i' (by simpa using hj); exact ⟨by omega, k2⟩) h hs' (fun β2 a2 w2 h2 hs2 => hQ β2 a2 w2 (Emb.le_trans hle h2) hs2))
    have e2 : i.idx = idx := by omega
    rw [e2] at this
    exact this

end
end Go.Proofs.YtiphbdhclldllaaGreatDoor.Mx
