/- Calls let a pending number be. -/
import Derived.Test.YtiphbdhclldllaaGreatDoorZadM
set_option linter.unusedSimpArgs false
set_option linter.unusedVariables false
namespace Go.Proofs.YtiphbdhclldllaaGreatDoor.Mx
open Go

section
variable {cl : Nat → List Value → Heap → Option (Value × Heap)}

theorem evSeq_size (hcl : ∀ g args H v H', cl g args H = some (v, H') → H.size ≤ H'.size) {b : Nat} : ∀ (l : List Ins) (s s' : St), evSeq cl b l s = some s' → s.H.size ≤ s'.H.size := by
  intro l
  induction l with
  | nil => intro s s' h; simp [evSeq] at h; subst h; exact Nat.le_refl _
  | cons i l ih =>
    intro s s' h
    simp only [evSeq] at h
    split at h
    case h_2 => cases h
    rename_i s1 e
    have h2 := ih s1 s' h
    obtain ⟨v, H, hev, rfl⟩ := evIns_some e
    rcases evW_some hev with ⟨_, hex, _⟩ | ⟨_, _, rfl⟩
    · exact Nat.le_trans (evI_size hcl hex) h2
    · exact h2

theorem noP_some {cl : Nat → List Value → Heap → Option (Value × Heap)} {g : Nat} {args : List Value} {H : Heap} {v : Value} {H' : Heap} : noP cl g args H = some (v, H') ↔ cl g args H = some (v, H') ∧ isPan v = none := by
  unfold noP
  cases hq : cl g args H with
  | none => simp
  | some r =>
    obtain ⟨u, X⟩ := r
    simp only
    cases hp : isPan u with
    | none => simp only [Option.some.injEq, Prod.mk.injEq]; constructor
              · rintro ⟨rfl, rfl⟩; exact ⟨⟨rfl, rfl⟩, hp⟩
              · rintro ⟨⟨rfl, rfl⟩, _⟩; exact ⟨rfl, rfl⟩
    | some x => simp only [Option.some.injEq, Prod.mk.injEq, false_iff, reduceCtorEq]; rintro ⟨⟨rfl, rfl⟩, h⟩; rw [hp] at h; cases h

theorem ClGood.noP {cl : Nat → List Value → Heap → Option (Value × Heap)} (h : ClGood cl) : ClGood (noP cl) :=
  ⟨fun g args H v H' e => h.size _ _ _ _ _ (noP_some.1 e).1, fun g args H v H' j e => h.back _ _ _ _ _ j (noP_some.1 e).1,
    fun g args H v H' j o e hj hs => ⟨(h.put _ _ _ _ _ j o (noP_some.1 e).1 hj hs).1, noP_some.2 ⟨(h.put _ _ _ _ _ j o (noP_some.1 e).1 hj hs).2, (noP_some.1 e).2⟩⟩⟩

theorem evC_size (hcl : ∀ g args H v H', cl g args H = some (v, H') → H.size ≤ H'.size) {n : Nat} : ∀ (c : Cd) (T : Tr Value) (H : Heap) (ex : Ex) (T' : Tr Value) (H' : Heap), evC cl n c T H = some (ex, T', H') → H.size ≤ H'.size := by
  intro c
  induction c with
  | skip => intro T H ex T' H' h; simp only [evC] at h; cases h; exact Nat.le_refl _
  | region na ops =>
    intro T H ex T' H' h
    simp only [evC] at h
    split at h
    case h_2 => cases h
    rename_i s e
    cases h
    have := evSeq_size (fun g args H v H' h => hcl _ _ _ _ _ (noP_some.1 h).1) _ _ _ e
    simp only [Heap.size_ext] at this
    omega
  | seq a b iha ihb =>
    intro T H ex T' H' h
    simp only [evC] at h
    split at h
    · rename_i T1 H1 e
      exact Nat.le_trans (iha _ _ _ _ _ e) (ihb _ _ _ _ _ h)
    · exact iha _ _ _ _ _ h
  | cond x a b iha ihb =>
    intro T H ex T' H' h
    simp only [evC] at h
    split at h
    case h_2 => cases h
    rename_i t _
    cases t
    · exact ihb _ _ _ _ _ h
    · exact iha _ _ _ _ _ h
  | block id c ih =>
    intro T H ex T' H' h
    simp only [evC] at h
    split at h
    · rename_i id' T1 H1 e
      have := ih _ _ _ _ _ e
      cases hq : id' == id <;> rw [hq] at h <;> cases h <;> exact this
    · exact ih _ _ _ _ _ h
  | loop c ih =>
    intro T H ex T' H' h
    simp only [evC] at h
    have key : ∀ m T H, iter (fun T H => evC cl n c T H) m T H = some (ex, T', H') → H.size ≤ H'.size := by
      intro m
      induction m with
      | zero => intro T H h; simp [iter] at h
      | succ m ihm =>
        intro T H h
        simp only [iter] at h
        split at h
        · rename_i T1 H1 e
          exact Nat.le_trans (ih _ _ _ _ _ e) (ihm _ _ h)
        · exact ih _ _ _ _ _ h
    exact key n T H h
  | exit id => intro T H ex T' H' h; simp only [evC] at h; cases h; exact Nat.le_refl _
  | ret => intro T H ex T' H' h; simp only [evC] at h; cases h; exact Nat.le_refl _
  | callp d f as =>
    intro T H ex T' H' h
    simp only [evC] at h
    split at h
    case h_2 => cases h
    split at h
    case h_2 => cases h
    rename_i v H1 e
    have := hcl _ _ _ _ _ e
    split at h <;> cases h <;> exact this
  | panic x =>
    intro T H ex T' H' h
    simp only [evC] at h
    split at h <;> cases h
    exact Nat.le_refl _

theorem put_put (H : Heap) {j id : Nat} {o x : Ob} (h : j ≠ id) : (H.put j o).put id x = (H.put id x).put j o := Heap.put_comm H id j x o (fun e => h e.symm)

theorem new_at {H H' : Heap} {id j : Nat} {x o : Ob} (h : H.new id x = some H') (hj : H.get j = some .pend) (hne : j ≠ id) : H'.get j = some .pend ∧ (H.put j o).new id x = some (H'.put j o) := by
  obtain ⟨h1, rfl⟩ := new_spec h
  refine ⟨by rw [Heap.get_put, if_neg (fun e => hne e.symm)]; exact hj, ?_⟩
  have : (H.put j o).get id = some .pend := by rw [Heap.get_put, if_neg hne]; exact h1
  simp only [Heap.new, this]
  rw [put_put H hne]

theorem new_map_at {α : Type} {H H' : Heap} {id j : Nat} {x o : Ob} {v : α} (h : (H.new id x).map (fun H => (v, H)) = some (v, H')) (hj : H.get j = some .pend) (hne : j ≠ id) :
    H'.get j = some .pend ∧ ((H.put j o).new id x).map (fun H => (v, H)) = some (v, H'.put j o) := by
  cases hn : H.new id x with
  | none => rw [hn] at h; cases h
  | some H1 =>
    rw [hn] at h
    cases h
    obtain ⟨h1, h2⟩ := new_at (o := o) hn hj hne
    exact ⟨h1, by rw [h2]; rfl⟩

theorem store_at {H H' : Heap} {n : Nat} {a x : Value} {j : Nat} {o : Ob} (h : H.storev n a x = some H') (hj : H.get j = some .pend) : H'.get j = some .pend ∧ (H.put j o).storev n a x = some (H'.put j o) := by
  unfold Heap.storev at h ⊢
  split at h
  case h_2 => cases h
  rename_i id off
  split at h
  case h_2 => cases h
  rename_i e cs hg
  split at h
  case isFalse => cases h
  rename_i hc
  cases h
  have hne : j ≠ id := by intro e; subst e; rw [hj] at hg; cases hg
  refine ⟨by rw [Heap.get_put, if_neg (fun e => hne e.symm)]; exact hj, ?_⟩
  simp only [Heap.get_put, if_neg hne, hg]
  rw [if_pos hc, put_put H hne]

theorem clear_at {H H' : Heap} {s : Nat} {z : List Value} {x : Value} {j : Nat} {o : Ob} (h : H.clear s z x = some H') (hj : H.get j = some .pend) : H'.get j = some .pend ∧ (H.put j o).clear s z x = some (H'.put j o) := by
  unfold Heap.clear at h ⊢
  split at h
  · cases h; exact ⟨hj, rfl⟩
  · rename_i id off _ len _
    split at h
    · rename_i h0; cases h; exact ⟨hj, by simp [h0]⟩
    · rename_i h0
      split at h
      case h_2 => cases h
      rename_i e cs hg
      split at h
      case isFalse => cases h
      rename_i hc
      cases h
      have hne : j ≠ id := by intro e; subst e; rw [hj] at hg; cases hg
      refine ⟨by rw [Heap.get_put, if_neg (fun e => hne e.symm)]; exact hj, ?_⟩
      simp only [h0, if_false, Heap.get_put, if_neg hne, hg]
      rw [if_pos hc, put_put H hne]
  · cases h

theorem copy_at {H H' : Heap} {s : Nat} {x y v : Value} {j : Nat} {o : Ob} (h : H.copy s x y = some (v, H')) (hj : H.get j = some .pend) : H'.get j = some .pend ∧ (H.put j o).copy s x y = some (v, H'.put j o) := by
  unfold Heap.copy at h ⊢
  split at h
  case isFalse => cases h
  rename_i hs
  rw [if_pos hs]
  cases hr : H.row s y with
  | none => rw [hr] at h; cases h
  | some r =>
    obtain ⟨n, new⟩ := r
    rw [row_put hr hj]
    rw [hr] at h
    split at h
    · cases h; exact ⟨hj, rfl⟩
    · rename_i n0 new0 id off mk len cap heq
      cases heq
      split at h
      · rename_i h0; cases h; exact ⟨hj, by simp [h0]⟩
      · rename_i h0
        split at h
        case h_2 => cases h
        rename_i e cs hg
        split at h
        case isFalse => cases h
        rename_i hc
        cases h
        have hne : j ≠ id := by intro e; subst e; rw [hj] at hg; cases hg
        refine ⟨by rw [Heap.get_put, if_neg (fun e => hne e.symm)]; exact hj, ?_⟩
        simp only [h0, if_false, Heap.get_put, if_neg hne, hg]
        rw [if_pos hc, put_put H hne]
    · cases h

theorem append_at {H H' : Heap} {id e s by_ : Nat} {p : Bool} {x y v : Value} {j : Nat} {o : Ob} (h : H.append id e s by_ p x y = some (v, H')) (hj : H.get j = some .pend) (hne : j ≠ id) :
    H'.get j = some .pend ∧ (H.put j o).append id e s by_ p x y = some (v, H'.put j o) := by
  unfold Heap.append at h ⊢
  cases hr : H.row s y with
  | none => rw [hr] at h; cases h
  | some r =>
    obtain ⟨n, new⟩ := r
    rw [row_put hr hj]
    rw [hr] at h
    simp only at h ⊢
    split at h
    · split at h
      · rename_i h0; cases h; exact ⟨hj, by simp [h0]⟩
      · rename_i h0
        split at h
        case isFalse => cases h
        rename_i hb
        simp only [h0, if_false, hb, and_self, if_true]
        cases hn : H.new id (.cells e false new) with
        | none => rw [hn] at h; cases h
        | some H1 =>
          rw [hn] at h; cases h
          obtain ⟨h1, h2⟩ := new_at (o := o) hn hj hne
          exact ⟨h1, by rw [h2]; rfl⟩
    · rename_i oo off ek len cap
      split at h
      · rename_i h0; cases h; exact ⟨hj, by simp [h0]⟩
      rename_i h0
      rw [if_neg h0]
      split at h
      · cases h
      rename_i hek
      rw [if_neg hek]
      split at h
      · rename_i hfit
        simp only [hfit, if_true]
        split at h
        · cases h
        rename_i hp
        simp only [hp, Bool.false_eq_true, if_false]
        split at h
        case h_2 => cases h
        rename_i e1 cs hg
        split at h
        case isFalse => cases h
        rename_i hc
        cases h
        have hno : j ≠ oo := by intro e; subst e; rw [hj] at hg; cases hg
        refine ⟨by rw [Heap.get_put, if_neg (fun e => hno e.symm)]; exact hj, ?_⟩
        simp only [Heap.get_put, if_neg hno, hg]
        rw [if_pos hc, put_put H hno]
      · rename_i hfit
        simp only [hfit, if_false]
        cases hr2 : H.row s (.slice (some ⟨oo, off, some ek⟩) len cap) with
        | none => rw [hr2] at h; cases h
        | some r2 =>
          obtain ⟨n2, old⟩ := r2
          rw [row_put hr2 hj]
          rw [hr2] at h
          simp only at h ⊢
          split at h
          case isFalse => cases h
          rename_i hb
          rw [if_pos hb]
          split at h
          · rename_i hex
            rw [if_pos hex]
            cases hn : H.new id (.cells e false (old ++ new)) with
            | none => rw [hn] at h; cases h
            | some H1 =>
              rw [hn] at h; cases h
              obtain ⟨h1, h2⟩ := new_at (o := o) hn hj hne
              exact ⟨h1, by rw [h2]; rfl⟩
          · rename_i hex
            rw [if_neg hex]
            split at h
            · cases h
            rename_i hp
            simp only [hp, Bool.false_eq_true, if_false]
            split at h
            case h_2 => cases h
            rename_i e1 cs hg
            split at h
            case isFalse => cases h
            rename_i hc
            have hno : j ≠ oo := by intro e; subst e; rw [hj] at hg; cases hg
            simp only [Heap.get_put, if_neg hno, hg]
            rw [if_pos hc]
            cases hn : H.new id (.cells e false (old ++ new)) with
            | none => rw [hn] at h; cases h
            | some H1 =>
              rw [hn] at h; cases h
              obtain ⟨h1, h2⟩ := new_at (o := o) hn hj hne
              refine ⟨by rw [Heap.get_put, if_neg (fun e => hno e.symm)]; exact h1, ?_⟩
              rw [h2]
              simp only [Option.map_some, put_put H1 hno]
    · cases h

theorem mapset_at {H H' : Heap} {m : EqM} {x i v : Value} {j : Nat} {o : Ob} (h : H.mapset m x i v = some H') (hj : H.get j = some .pend) : H'.get j = some .pend ∧ (H.put j o).mapset m x i v = some (H'.put j o) := by
  unfold Heap.mapset at h ⊢
  split at h
  case h_2 => cases h
  rename_i id
  split at h
  case isFalse => cases h
  rename_i hk
  simp only [hk, if_true]
  split at h
  case h_2 => cases h
  rename_i es c hg
  have hne : j ≠ id := by intro e; subst e; rw [hj] at hg; cases hg
  simp only [Heap.get_put, if_neg hne, hg]
  split at h
  · cases h; exact ⟨by rw [Heap.get_put, if_neg (fun e => hne e.symm)]; exact hj, by rw [put_put H hne]⟩
  · cases h; exact ⟨by rw [Heap.get_put, if_neg (fun e => hne e.symm)]; exact hj, by rw [put_put H hne]⟩
  · cases h

theorem mapentry_at {H H' : Heap} {m : EqM} {z x i v : Value} {j : Nat} {o : Ob} (h : H.mapentry m z x i = some (v, H')) (hj : H.get j = some .pend) : H'.get j = some .pend ∧ (H.put j o).mapentry m z x i = some (v, H'.put j o) := by
  unfold Heap.mapentry at h ⊢
  split at h
  case h_2 => cases h
  rename_i id
  split at h
  case isFalse => cases h
  rename_i hk
  simp only [hk, if_true]
  split at h
  case h_2 => cases h
  rename_i es c hg
  have hne : j ≠ id := by intro e; subst e; rw [hj] at hg; cases hg
  simp only [Heap.get_put, if_neg hne, hg]
  split at h
  · cases h; exact ⟨hj, rfl⟩
  · cases h; exact ⟨by rw [Heap.get_put, if_neg (fun e => hne e.symm)]; exact hj, by rw [put_put H hne]⟩
  · cases h

theorem entryset_at {H H' : Heap} {x s v : Value} {j : Nat} {o : Ob} (h : H.entryset x s v = some H') (hj : H.get j = some .pend) : H'.get j = some .pend ∧ (H.put j o).entryset x s v = some (H'.put j o) := by
  unfold Heap.entryset at h ⊢
  split at h
  case h_2 => cases h
  rename_i id k n
  split at h
  case h_2 => cases h
  rename_i es c hg
  have hne : j ≠ id := by intro e; subst e; rw [hj] at hg; cases hg
  simp only [Heap.get_put, if_neg hne, hg]
  cases hb : setBorn es n v with
  | none => rw [hb] at h; cases h
  | some es2 =>
    rw [hb] at h; cases h
    exact ⟨by rw [Heap.get_put, if_neg (fun e => hne e.symm)]; exact hj, by simp only [Option.map_some, put_put H hne]⟩

theorem mapdel_at {H H' : Heap} {m : EqM} {x i : Value} {j : Nat} {o : Ob} (h : H.mapdel m x i = some H') (hj : H.get j = some .pend) : H'.get j = some .pend ∧ (H.put j o).mapdel m x i = some (H'.put j o) := by
  unfold Heap.mapdel at h ⊢
  split at h
  case isFalse => cases h
  rename_i hk
  rw [if_pos hk]
  split at h
  · cases h; exact ⟨hj, rfl⟩
  · rename_i id
    split at h
    case h_2 => cases h
    rename_i es c hg
    have hne : j ≠ id := by intro e; subst e; rw [hj] at hg; cases hg
    simp only [Heap.get_put, if_neg hne, hg]
    split at h
    · cases h; exact ⟨by rw [Heap.get_put, if_neg (fun e => hne e.symm)]; exact hj, by rw [put_put H hne]⟩
    · cases h; exact ⟨hj, rfl⟩
    · cases h
  · cases h

theorem mapclear_at {H H' : Heap} {x : Value} {j : Nat} {o : Ob} (h : H.mapclear x = some H') (hj : H.get j = some .pend) : H'.get j = some .pend ∧ (H.put j o).mapclear x = some (H'.put j o) := by
  unfold Heap.mapclear at h ⊢
  split at h
  · cases h; exact ⟨hj, rfl⟩
  · rename_i id
    split at h
    case h_2 => cases h
    rename_i es c hg
    cases h
    have hne : j ≠ id := by intro e; subst e; rw [hj] at hg; cases hg
    refine ⟨by rw [Heap.get_put, if_neg (fun e => hne e.symm)]; exact hj, ?_⟩
    simp only [Heap.get_put, if_neg hne, hg]
    rw [put_put H hne]
  · cases h

theorem map_at {H H' : Heap} {f : Heap → Option Heap} {u v : Value} {j : Nat} {o : Ob} (hf : ∀ H', f H = some H' → H'.get j = some .pend ∧ f (H.put j o) = some (H'.put j o)) (h : (f H).map (fun H => (u, H)) = some (v, H')) :
    H'.get j = some .pend ∧ (f (H.put j o)).map (fun H => (u, H)) = some (v, H'.put j o) := by
  cases hq : f H with
  | none => rw [hq] at h; cases h
  | some H1 =>
    rw [hq] at h; cases h
    obtain ⟨h1, h2⟩ := hf _ hq
    exact ⟨h1, by rw [h2]; rfl⟩

theorem evI_put (hcl : ClGood cl) {b : Nat} {T : Tr Value} {i : I} {H H' : Heap} {v : Value} {j : Nat} {o : Ob} (h : evI cl b T H i = some (v, H')) (hj : H.get j = some .pend) (hb : j < b) (hs : b ≤ H.size) :
    H'.get j = some .pend ∧ evI cl b T (H.put j o) i = some (v, H'.put j o) := by
  cases hc : i.cls with
  | P => obtain ⟨rfl, h2⟩ := evI_P hc h; exact ⟨hj, h2 _⟩
  | L => obtain ⟨a, n, x, rfl⟩ := cls_load hc; obtain ⟨rfl, h2⟩ := evI_L h; exact ⟨hj, h2 _ _ hj⟩
  | M => obtain ⟨rfl, h2⟩ := evI_M hc h; exact ⟨hj, h2 _ _ hj⟩
  | E =>
    obtain ⟨k, ob, _, g1, rfl, g2⟩ := evI_E hc h
    have hne : j ≠ b + k := by omega
    refine ⟨by rw [Heap.get_put, if_neg (fun e => hne e.symm)]; exact hj, ?_⟩
    rw [g2 (H.put j o) (by rw [Heap.get_put, if_neg hne]; exact g1), put_put H hne]
  | Ea =>
    obtain ⟨k, e, s, by_, x, y, rfl⟩ := cls_ea hc
    rcases evI_Ea h with ⟨rfl, g⟩ | ⟨ob, g1, rfl, g⟩
    · exact ⟨hj, g j o hj (by omega)⟩
    · have hne : j ≠ b + k := by omega
      refine ⟨by rw [Heap.get_put, if_neg (fun e => hne e.symm)]; exact hj, ?_⟩
      rw [g j o hj hne, put_put H hne]
  | C =>
    cases i <;> simp [I.cls] at hc
    case call f args =>
      simp only [evI] at h ⊢
      split at h
      · exact hcl.put _ _ _ _ _ j o h hj (by omega)
      · cases h
    case append k e s by_ p x y => cases p <;> simp at hc
  | W =>
    cases i <;> simp only [I.cls] at hc <;> (try (cases hc; done)) <;> simp only [evI] at h ⊢
    case store n a x => exact map_at (f := fun H => H.storev n (a.ev T) (x.ev T)) (fun _ hq => store_at hq hj) h
    case copy s x y => exact copy_at h hj
    case clear s z x => exact map_at (f := fun H => H.clear s z (x.ev T)) (fun _ hq => clear_at hq hj) h
    case append k e s by_ p x y => exact append_at h hj (by omega)
  | V =>
    cases i <;> simp only [I.cls] at hc <;> (try (cases hc; done)) <;> simp only [evI] at h ⊢
    case mapset m x y z => exact map_at (f := fun H => H.mapset m (x.ev T) (y.ev T) (z.ev T)) (fun _ hq => mapset_at hq hj) h
    case mapentry m z x y => exact mapentry_at h hj
    case entryset x y z => exact map_at (f := fun H => H.entryset (x.ev T) (y.ev T) (z.ev T)) (fun _ hq => entryset_at hq hj) h
    case mapdel m x y => exact map_at (f := fun H => H.mapdel m (x.ev T) (y.ev T)) (fun _ hq => mapdel_at hq hj) h
    case mapclear x => exact map_at (f := fun H => H.mapclear (x.ev T)) (fun _ hq => mapclear_at hq hj) h
    case append k e s by_ p x y => cases p <;> simp at hc

theorem evI_back (hcl : ClGood cl) {b : Nat} {T : Tr Value} {i : I} {H H' : Heap} {v : Value} {j : Nat} (h : evI cl b T H i = some (v, H')) (hs : j < H.size) (hj : H'.get j = some .pend) : H.get j = some .pend := by
  by_cases hc : i.cls = .C
  · cases i <;> simp [I.cls] at hc
    case call f args =>
      simp only [evI] at h
      split at h
      · exact hcl.back _ _ _ _ _ j h hs hj
      · cases h
    case append k e s by_ p x y => cases p <;> simp at hc
  · exact (evI_puts hc h).back hj

theorem evIns_put (hcl : ClGood cl) {b : Nat} {i : Ins} {T : Tr Value} {H : Heap} {log log' : Tr Lg} (hl : LogLe log log') {s : St} {j : Nat} {o : Ob} (h : evIns cl b i ⟨T, H, log⟩ = some s) (hj : H.get j = some .pend) (hb : j < b) (hs : b ≤ H.size) :
    s.H.get j = some .pend ∧ ∃ l2, evIns cl b i ⟨T, H.put j o, log'⟩ = some ⟨s.T, s.H.put j o, l2⟩ ∧ LogLe s.log l2 := by
  obtain ⟨v, H', hw, rfl⟩ := evIns_some h
  have hlog : LogLe (lg b i ⟨T, H, log⟩) (lg b i ⟨T, H.put j o, log'⟩) := by
    simp only [lg_eq]
    exact setO_le hl _ (noted_le fun _ => le_put hj)
  rcases evW_some hw with ⟨h1, h2, h3⟩ | ⟨h1, rfl, hH⟩
  · obtain ⟨g1, g2⟩ := evI_put (o := o) hcl h2 hj hb hs
    exact ⟨g1, lg b i ⟨T, H.put j o, log'⟩, by simp only [evIns, evW_of (s := ⟨T, H.put j o, log'⟩) h1 g2 (chkOk_le hl h3)], hlog⟩
  · simp only at hH
    rw [hH]
    exact ⟨hj, lg b i ⟨T, H.put j o, log'⟩, by simp only [evIns, evW_not (s := ⟨T, H.put j o, log'⟩) h1], hlog⟩

theorem evIns_size (hcl : ClGood cl) {b : Nat} {i : Ins} {s s' : St} (h : evIns cl b i s = some s') : s.H.size ≤ s'.H.size := by
  obtain ⟨v, H', hw, rfl⟩ := evIns_some h
  rcases evW_some hw with ⟨_, hex, _⟩ | ⟨_, _, rfl⟩
  · exact evI_size hcl.size hex
  · exact Nat.le_refl _

theorem evSeq_put (hcl : ClGood cl) {b : Nat} {j : Nat} {o : Ob} (hb : j < b) : ∀ (l : List Ins) (T : Tr Value) (H : Heap) (log log' : Tr Lg) (s : St), LogLe log log' → evSeq cl b l ⟨T, H, log⟩ = some s → H.get j = some .pend → b ≤ H.size →
    s.H.get j = some .pend ∧ ∃ l2, evSeq cl b l ⟨T, H.put j o, log'⟩ = some ⟨s.T, s.H.put j o, l2⟩ := by
  intro l
  induction l with
  | nil => intro T H log log' s hl h hj hs; simp only [evSeq] at h ⊢; cases h; exact ⟨hj, _, rfl⟩
  | cons i l ih =>
    intro T H log log' s hl h hj hs
    simp only [evSeq] at h ⊢
    cases he : evIns cl b i ⟨T, H, log⟩ with
    | none => rw [he] at h; cases h
    | some s1 =>
      rw [he] at h
      obtain ⟨g1, l2, g2, g3⟩ := evIns_put (o := o) hcl hl he hj hb hs
      rw [g2]
      exact ih s1.T s1.H s1.log l2 s g3 h g1 (Nat.le_trans hs (evIns_size hcl he))

theorem ext_put : ∀ (n : Nat) (H : Heap) {j : Nat} {o : Ob}, j < H.size → Heap.ext n (H.put j o) = (Heap.ext n H).put j o
  | 0, H, j, o, _ => rfl
  | n + 1, H, j, o, h => by
    simp only [Heap.ext]
    have : ({ size := (H.put j o).size + 1, tr := (H.put j o).tr.set (H.put j o).size .pend } : Heap) = ({ size := H.size + 1, tr := H.tr.set H.size .pend } : Heap).put j o := by
      show ({ size := H.size + 1, tr := (H.tr.set j o).set H.size .pend } : Heap) = { size := H.size + 1, tr := (H.tr.set H.size .pend).set j o }
      rw [Tr.set_comm _ _ _ _ _ (by omega)]
    rw [this]
    exact ext_put n _ (by show j < H.size + 1; omega)

theorem evC_put (hcl : ClGood cl) {n : Nat} {j : Nat} {o : Ob} : ∀ (c : Cd) (T : Tr Value) (H : Heap) (ex : Ex) (T' : Tr Value) (H' : Heap), evC cl n c T H = some (ex, T', H') → H.get j = some .pend → j < H.size →
    H'.get j = some .pend ∧ evC cl n c T (H.put j o) = some (ex, T', H'.put j o) := by
  intro c
  induction c with
  | skip => intro T H ex T' H' h hj hs; simp only [evC] at h ⊢; cases h; exact ⟨hj, rfl⟩
  | region na ops =>
    intro T H ex T' H' h hj hs
    simp only [evC] at h ⊢
    split at h
    case h_2 => cases h
    rename_i s e
    cases h
    obtain ⟨g1, l2, g2⟩ := evSeq_put (o := o) hcl.noP hs ops T _ .nil .nil s (LogLe.refl _) e (by rw [Heap.get_ext, if_neg (by omega)]; exact hj) (by rw [Heap.size_ext]; omega)
    refine ⟨g1, ?_⟩
    rw [Heap.size_put, ext_put na H hs, g2]
  | seq a b iha ihb =>
    intro T H ex T' H' h hj hs
    simp only [evC] at h ⊢
    split at h
    · rename_i T1 H1 e
      obtain ⟨g1, g2⟩ := iha _ _ _ _ _ e hj hs
      rw [g2]
      exact ihb _ _ _ _ _ h g1 (Nat.lt_of_lt_of_le hs (evC_size hcl.size _ _ _ _ _ _ e))
    · rename_i hnot
      obtain ⟨g1, g2⟩ := iha _ _ _ _ _ h hj hs
      refine ⟨g1, ?_⟩
      rw [g2]
      cases ex with
      | normal => exact absurd h (hnot _ _)
      | exit i => rfl
      | ret => rfl
      | pan v => rfl
  | cond x a b iha ihb =>
    intro T H ex T' H' h hj hs
    simp only [evC] at h ⊢
    split at h
    case h_2 => cases h
    rename_i t _
    cases t
    · exact ihb _ _ _ _ _ h hj hs
    · exact iha _ _ _ _ _ h hj hs
  | block id c ih =>
    intro T H ex T' H' h hj hs
    simp only [evC] at h ⊢
    split at h
    · rename_i id' T1 H1 e
      obtain ⟨g1, g2⟩ := ih _ _ _ _ _ e hj hs
      rw [g2]
      simp only
      cases hq : id' == id <;> rw [hq] at h <;> cases h <;> exact ⟨g1, rfl⟩
    · rename_i hnot
      obtain ⟨g1, g2⟩ := ih _ _ _ _ _ h hj hs
      refine ⟨g1, ?_⟩
      rw [g2]
      cases ex with
      | normal => rfl
      | exit i => exact absurd h (hnot _ _ _)
      | ret => rfl
      | pan v => rfl
  | loop c ih =>
    intro T H ex T' H' h hj hs
    simp only [evC] at h ⊢
    have key : ∀ m T H, iter (fun T H => evC cl n c T H) m T H = some (ex, T', H') → H.get j = some .pend → j < H.size →
        H'.get j = some .pend ∧ iter (fun T H => evC cl n c T H) m T (H.put j o) = some (ex, T', H'.put j o) := by
      intro m
      induction m with
      | zero => intro T H h; simp [iter] at h
      | succ m ihm =>
        intro T H h hj hs
        simp only [iter] at h ⊢
        split at h
        · rename_i T1 H1 e
          obtain ⟨g1, g2⟩ := ih _ _ _ _ _ e hj hs
          rw [g2]
          exact ihm _ _ h g1 (Nat.lt_of_lt_of_le hs (evC_size hcl.size _ _ _ _ _ _ e))
        · rename_i hnot
          obtain ⟨g1, g2⟩ := ih _ _ _ _ _ h hj hs
          refine ⟨g1, ?_⟩
          rw [g2]
          cases ex with
          | normal => exact absurd h (hnot _ _)
          | exit i => rfl
          | ret => rfl
          | pan v => rfl
    exact key n T H h hj hs
  | exit id => intro T H ex T' H' h hj hs; simp only [evC] at h ⊢; cases h; exact ⟨hj, rfl⟩
  | ret => intro T H ex T' H' h hj hs; simp only [evC] at h ⊢; cases h; exact ⟨hj, rfl⟩
  | callp d f as =>
    intro T H ex T' H' h hj hs
    simp only [evC] at h ⊢
    split at h
    case h_2 => cases h
    split at h
    case h_2 => cases h
    rename_i v H1 e
    obtain ⟨g1, g2⟩ := hcl.put _ _ _ _ _ j o e hj hs
    rw [g2]
    split at h <;> rename_i hp <;> cases h <;> refine ⟨g1, ?_⟩ <;> simp only [hp]
  | panic x =>
    intro T H ex T' H' h hj hs
    simp only [evC] at h ⊢
    split at h <;> cases h
    exact ⟨hj, rfl⟩

theorem evSeq_back (hcl : ClGood cl) {b : Nat} {j : Nat} : ∀ (l : List Ins) (s s' : St), evSeq cl b l s = some s' → j < s.H.size → s'.H.get j = some .pend → s.H.get j = some .pend := by
  intro l
  induction l with
  | nil => intro s s' h _ hj; simp only [evSeq] at h; cases h; exact hj
  | cons i l ih =>
    intro s s' h hs hj
    simp only [evSeq] at h
    split at h
    case h_2 => cases h
    rename_i s1 e
    have h1 := ih s1 s' h (Nat.lt_of_lt_of_le hs (evIns_size hcl e)) hj
    obtain ⟨v, H', hw, rfl⟩ := evIns_some e
    rcases evW_some hw with ⟨_, hex, _⟩ | ⟨_, _, rfl⟩
    · exact evI_back hcl hex hs h1
    · exact h1

theorem evC_back (hcl : ClGood cl) {n : Nat} {j : Nat} : ∀ (c : Cd) (T : Tr Value) (H : Heap) (ex : Ex) (T' : Tr Value) (H' : Heap), evC cl n c T H = some (ex, T', H') → j < H.size → H'.get j = some .pend → H.get j = some .pend := by
  intro c
  induction c with
  | skip => intro T H ex T' H' h _ hj; simp only [evC] at h; cases h; exact hj
  | region na ops =>
    intro T H ex T' H' h hs hj
    simp only [evC] at h
    split at h
    case h_2 => cases h
    rename_i s e
    cases h
    have := evSeq_back hcl.noP _ _ _ e (by simp only [Heap.size_ext]; omega) hj
    simp only at this
    rw [Heap.get_ext, if_neg (by omega)] at this
    exact this
  | seq a b iha ihb =>
    intro T H ex T' H' h hs hj
    simp only [evC] at h
    split at h
    · rename_i T1 H1 e
      exact iha _ _ _ _ _ e hs (ihb _ _ _ _ _ h (Nat.lt_of_lt_of_le hs (evC_size hcl.size _ _ _ _ _ _ e)) hj)
    · exact iha _ _ _ _ _ h hs hj
  | cond x a b iha ihb =>
    intro T H ex T' H' h hs hj
    simp only [evC] at h
    split at h
    case h_2 => cases h
    rename_i t _
    cases t
    · exact ihb _ _ _ _ _ h hs hj
    · exact iha _ _ _ _ _ h hs hj
  | block id c ih =>
    intro T H ex T' H' h hs hj
    simp only [evC] at h
    split at h
    · rename_i id' T1 H1 e
      cases hq : id' == id <;> rw [hq] at h <;> cases h <;> exact ih _ _ _ _ _ e hs hj
    · exact ih _ _ _ _ _ h hs hj
  | loop c ih =>
    intro T H ex T' H' h hs hj
    simp only [evC] at h
    have key : ∀ m T H, iter (fun T H => evC cl n c T H) m T H = some (ex, T', H') → j < H.size → H.get j = some .pend := by
      intro m
      induction m with
      | zero => intro T H h; simp [iter] at h
      | succ m ihm =>
        intro T H h hs
        simp only [iter] at h
        split at h
        · rename_i T1 H1 e
          exact ih _ _ _ _ _ e hs (ihm _ _ h (Nat.lt_of_lt_of_le hs (evC_size hcl.size _ _ _ _ _ _ e)))
        · exact ih _ _ _ _ _ h hs hj
    exact key n T H h hs
  | exit id => intro T H ex T' H' h _ hj; simp only [evC] at h; cases h; exact hj
  | ret => intro T H ex T' H' h _ hj; simp only [evC] at h; cases h; exact hj
  | callp d f as =>
    intro T H ex T' H' h hs hj
    simp only [evC] at h
    split at h
    case h_2 => cases h
    split at h
    case h_2 => cases h
    rename_i v H1 e
    have := hcl.back _ _ _ _ _ j e hs
    split at h <;> cases h <;> exact this hj
  | panic x =>
    intro T H ex T' H' h hs hj
    simp only [evC] at h
    split at h <;> cases h
    exact hj

theorem evRes_put {T : Tr Value} {H : Heap} {j : Nat} {o : Ob} (hj : H.get j = some .pend) : ∀ (l : List Res) (vs : List Value), evRes T H l = some vs → evRes T (H.put j o) l = some vs := by
  intro l
  induction l with
  | nil => intro vs h; exact h
  | cons r l ih =>
    intro vs h
    cases r with
    | tmp t =>
      simp only [evRes] at h ⊢
      cases hq : evRes T H l with
      | none => rw [hq] at h; cases h
      | some u => rw [ih u hq]; rw [hq] at h; exact h
    | cell t agg n =>
      simp only [evRes] at h ⊢
      split at h
      case h_2 => cases h
      rename_i v u h1 h2
      rw [loadv_put h1 hj, ih u h2]
      exact h

/-! ### what lets a pending number be -/
structure HG {α : Type} (f : Heap → Option (α × Heap)) : Prop where
  size : ∀ H x H', f H = some (x, H') → H.size ≤ H'.size
  back : ∀ H x H' j, f H = some (x, H') → j < H.size → H'.get j = some .pend → H.get j = some .pend
  put : ∀ H x H' j o, f H = some (x, H') → H.get j = some .pend → j < H.size → H'.get j = some .pend ∧ f (H.put j o) = some (x, H'.put j o)

def bindH {α γ : Type} (f : Heap → Option (α × Heap)) (g : α → Heap → Option (γ × Heap)) (H : Heap) : Option (γ × Heap) :=
  match f H with
  | some (x, H) => g x H
  | none => none

theorem HG.bind {α γ : Type} {f : Heap → Option (α × Heap)} {g : α → Heap → Option (γ × Heap)} (hf : HG f) (hg : ∀ x, HG (g x)) : HG (bindH f g) := by
  refine ⟨fun H x H' h => ?_, fun H x H' j h hs hj => ?_, fun H x H' j o h hj hs => ?_⟩
  · unfold bindH at h
    split at h
    case h_2 => cases h
    rename_i y H1 e
    exact Nat.le_trans (hf.size _ _ _ e) ((hg y).size _ _ _ h)
  · unfold bindH at h
    split at h
    case h_2 => cases h
    rename_i y H1 e
    exact hf.back _ _ _ j e hs ((hg y).back _ _ _ j h (Nat.lt_of_lt_of_le hs (hf.size _ _ _ e)) hj)
  · unfold bindH at h ⊢
    split at h
    case h_2 => cases h
    rename_i y H1 e
    obtain ⟨g1, g2⟩ := hf.put _ _ _ j o e hj hs
    obtain ⟨k1, k2⟩ := (hg y).put _ _ _ j o h g1 (Nat.lt_of_lt_of_le hs (hf.size _ _ _ e))
    exact ⟨k1, by rw [g2]; exact k2⟩
theorem hgNone {α : Type} : HG (fun _ => (none : Option (α × Heap))) := ⟨(fun _ _ _ h => by cases h), (fun _ _ _ _ h => by cases h), (fun _ _ _ _ _ h => by cases h)⟩
theorem hgPure {α : Type} (x : α) : HG (fun H => some (x, H)) :=
  ⟨fun _ _ _ h => by cases h; exact Nat.le_refl _, fun _ _ _ _ h _ hj => by cases h; exact hj, fun _ _ _ _ _ h hj _ => by cases h; exact ⟨hj, rfl⟩⟩

def toP (r : Option (Ex × Tr Value × Heap)) : Option ((Ex × Tr Value) × Heap) := r.map fun x => ((x.1, x.2.1), x.2.2)
theorem toP_some {r : Option (Ex × Tr Value × Heap)} {e : Ex} {T : Tr Value} {H : Heap} : toP r = some ((e, T), H) ↔ r = some (e, T, H) := by
  unfold toP
  cases r with
  | none => simp
  | some x => obtain ⟨a, b, c⟩ := x; simp [and_assoc]

theorem hgC {cl : Nat → List Value → Heap → Option (Value × Heap)} (hcl : ClGood cl) (n : Nat) (c : Cd) (T : Tr Value) : HG (fun H => toP (evC cl n c T H)) :=
  ⟨fun _ _ _ h => evC_size hcl.size _ _ _ _ _ _ (toP_some.1 h), fun _ _ _ _ h hs hj => evC_back hcl _ _ _ _ _ _ (toP_some.1 h) hs hj,
    fun _ _ _ _ o h hj hs => let ⟨g1, g2⟩ := evC_put (o := o) hcl _ _ _ _ _ _ (toP_some.1 h) hj hs; ⟨g1, toP_some.2 g2⟩⟩

theorem hgR (res : List Res) (T : Tr Value) : HG (evR res T) := by
  refine ⟨fun H x H' h => ?_, fun H x H' j h _ hj => ?_, fun H x H' j o h hj _ => ?_⟩ <;> simp only [Mx.evR, Option.map_eq_some_iff] at h ⊢ <;> obtain ⟨vs, h1, h2⟩ := h <;> cases h2
  · exact Nat.le_refl _
  · exact hj
  · exact ⟨hj, vs, evRes_put hj _ _ h1, rfl⟩

def toD (r : Option Heap) : Option (Unit × Heap) := r.map fun H => ((), H)

theorem hgD {Γ : Nat → Option FnI} {cl : Nat → List Value → Heap → Option (Value × Heap)} (hcl : ClGood cl) (k : Nat) (c pv : Value) : HG (fun H => toD (evD Γ cl k c pv H)) := by
  unfold Mx.evD
  split
  · rename_i g first captured
    split
    · rename_i gn hgn
      split
      · rename_i d h1 h2 h3
        have := (hgC hcl k gn.body ((Tr.ofList (first.toList ++ captured.toList) 0 .nil).set d pv)).bind (g := fun x H => match x.1 with | .normal => some ((), H) | .ret => some ((), H) | _ => none) (fun x => by
          obtain ⟨e, T⟩ := x
          cases e <;> first | exact hgPure _ | exact hgNone)
        refine cast (congrArg HG (funext fun H => ?_)) this
        unfold bindH toP toD
        dsimp only
        cases hq : Mx.evC cl k gn.body ((Tr.ofList (first.toList ++ captured.toList) 0 .nil).set d pv) H with
        | none => rfl
        | some r => obtain ⟨e, T, H1⟩ := r; cases e <;> rfl
      · exact hgNone
    · exact hgNone
  · exact hgNone

theorem hgB {Γ : Nat → Option FnI} {cl : Nat → List Value → Heap → Option (Value × Heap)} (hcl : ClGood cl) (k f : Nat) (args : List Value) : HG (evB Γ cl k f args) := by
  unfold Mx.evB
  split
  · exact hgNone
  rename_i fn hfn
  split
  · exact hgNone
  split
  · have := (hgC hcl k fn.body (Tr.ofList args 0 .nil)).bind (g := fun x H => match x.1 with | .normal => Mx.evR fn.res x.2 H | .ret => Mx.evR fn.res x.2 H | .pan v => some (pan v, H) | _ => none) (fun x => by
      obtain ⟨e, T⟩ := x
      cases e <;> first | exact hgR _ _ | exact hgPure _ | exact hgNone)
    refine cast (congrArg HG (funext fun H => ?_)) this
    unfold bindH toP
    dsimp only
    cases hq : Mx.evC cl k fn.body (Tr.ofList args 0 .nil) H with
    | none => rfl
    | some r => obtain ⟨e, T, H1⟩ := r; cases e <;> rfl
  · rename_i c rest hd
    have after : ∀ (T T' : Tr Value) (pv : Value), HG (bindH (fun H => toD (Mx.evD Γ cl k (c.ev T) pv H)) (fun _ H => Mx.evR fn.res T' H)) := fun T T' pv => (hgD hcl k (c.ev T) pv).bind fun _ => hgR _ _
    have := (hgC hcl k fn.body (Tr.ofList args 0 .nil)).bind (g := fun x H => match x.1 with
        | .normal => bindH (fun H => toP (Mx.evC cl k rest x.2 H)) (fun y H => match y.1 with
          | .normal => bindH (fun H => toD (Mx.evD Γ cl k (c.ev x.2) .nilIface H)) (fun _ H => Mx.evR fn.res y.2 H) H
          | .ret => bindH (fun H => toD (Mx.evD Γ cl k (c.ev x.2) .nilIface H)) (fun _ H => Mx.evR fn.res y.2 H) H
          | .pan v => bindH (fun H => toD (Mx.evD Γ cl k (c.ev x.2) v H)) (fun _ H => Mx.evR fn.res y.2 H) H
          | _ => none) H
        | _ => none) (fun x => by
      obtain ⟨e, T⟩ := x
      cases e <;> first
        | exact hgNone
        | exact (hgC hcl k rest T).bind fun y => by
            obtain ⟨e, T'⟩ := y
            cases e <;> first | exact after _ _ _ | exact hgNone)
    refine cast (congrArg HG (funext fun H => ?_)) this
    unfold bindH toP toD
    dsimp only
    cases hq : Mx.evC cl k fn.body (Tr.ofList args 0 .nil) H with
    | none => rfl
    | some r =>
      obtain ⟨e, T, H1⟩ := r
      cases e <;> first | rfl | skip
      simp only [Option.map_some]
      cases hq2 : Mx.evC cl k rest T H1 with
      | none => rfl
      | some r =>
        obtain ⟨e, T', H2⟩ := r
        cases e <;> simp only [Option.map_some] <;> (try (generalize Mx.evD Γ cl k (c.ev T) _ H2 = z; cases z <;> rfl))

/-- What is known of calls speaks of no pending number. -/
def OvPut (ov : Known) : Prop := ∀ f args H v n, ov f args H = some (v, n) → H.size ≤ n ∧ ∀ j o, H.get j = some .pend → j < H.size → ov f args (H.put j o) = some (v, n)

theorem good_F {Γ : Nat → Option FnI} {ov : Known} (hov : OvPut ov) (hno : ∀ f args H j o, ov f args H = none → H.get j = some .pend → j < H.size → ov f args (H.put j o) = none) : ∀ k, ClGood (evF Γ ov k) := by
  intro k
  induction k with
  | zero => exact ⟨fun _ _ _ _ _ h => by simp [evF] at h, fun _ _ _ _ _ _ h => by simp [evF] at h, fun _ _ _ _ _ _ _ h => by simp [evF] at h⟩
  | succ k ih =>
    refine ⟨fun g args H v H' h => ?_, fun g args H v H' j h hs hj => ?_, fun g args H v H' j o h hj hs => ?_⟩
    · simp only [evF] at h
      split at h
      · rename_i u n hu; cases h; exact (hov _ _ _ _ _ hu).1
      · exact (hgB ih k g args).size _ _ _ h
    · simp only [evF] at h
      split at h
      · rename_i u n hu; cases h; exact hj
      · exact (hgB ih k g args).back _ _ _ j h hs hj
    · simp only [evF] at h ⊢
      split at h
      · rename_i u n hu
        cases h
        rw [(hov _ _ _ _ _ hu).2 j o hj hs]
        exact ⟨hj, rfl⟩
      · rename_i hu
        rw [hno _ _ _ j o hu hj hs]
        exact (hgB ih k g args).put _ _ _ j o h hj hs

end
end Go.Proofs.YtiphbdhclldllaaGreatDoor.Mx
