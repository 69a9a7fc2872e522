/- What operations do to the heap's size and to its other objects. -/
import Derived.Test.YtiphbdhclldllaaGreatDoorZadJ
set_option linter.unusedSimpArgs false
set_option linter.unusedVariables false
namespace Go.Proofs.YtiphbdhclldllaaGreatDoor.Mx
open Go

variable {cl : Nat → List Value → Heap → Option (Value × Heap)} {b : Nat} {T : Tr Value}

theorem size_new {H H' : Heap} {id : Nat} {o : Ob} (h : H.new id o = some H') : H'.size = H.size := by
  obtain ⟨_, rfl⟩ := new_spec h; rfl

/-- What an operation that is no call does: nothing, or it puts some objects, none of them pending. -/
inductive Puts : Heap → Heap → Prop
  | refl (H : Heap) : Puts H H
  | put (H H' : Heap) (id : Nat) (o : Ob) (h : Puts H H') (ho : o ≠ .pend) : Puts H (H'.put id o)

theorem Puts.one {H : Heap} {id : Nat} {o : Ob} (ho : o ≠ .pend) : Puts H (H.put id o) := .put H H id o (.refl H) ho
theorem Puts.size {H H' : Heap} (h : Puts H H') : H'.size = H.size := by
  induction h with
  | refl => rfl
  | put H' id o h ho ih => rw [Heap.size_put]; exact ih
theorem Puts.back {H H' : Heap} (h : Puts H H') {j : Nat} (hj : H'.get j = some .pend) : H.get j = some .pend := by
  induction h with
  | refl => exact hj
  | put H' id o h ho ih =>
    rw [Heap.get_put] at hj
    split at hj
    · cases hj; exact absurd rfl ho
    · exact ih hj

theorem evI_V {i : I} (hc : i.cls = .V) {H H' : Heap} {v : Value} (h : evI cl b T H i = some (v, H')) :
    H' = H ∨ ∃ id es c es' c', H.get id = some (.map es c) ∧ H' = H.put id (.map es' c') := by
  cases i <;> simp only [I.cls] at hc <;> (try (cases hc; done)) <;> simp only [evI] at h
  case mapset m x y z =>
    cases hq : H.mapset m (x.ev T) (y.ev T) (z.ev T) with
    | none => rw [hq] at h; cases h
    | some H1 =>
      rw [hq] at h; cases h
      unfold Heap.mapset at hq
      split at hq
      case h_2 => cases hq
      rename_i id _
      split at hq
      case isFalse => cases hq
      split at hq
      case h_2 => cases hq
      rename_i es c hg
      split at hq
      · cases hq; exact .inr ⟨id, es, c, _, _, hg, rfl⟩
      · cases hq; exact .inr ⟨id, es, c, _, _, hg, rfl⟩
      · cases hq
  case mapentry m z x y =>
    unfold Heap.mapentry at h
    split at h
    case h_2 => cases h
    rename_i id _
    split at h
    case isFalse => cases h
    split at h
    case h_2 => cases h
    rename_i es c hg
    split at h
    · cases h; exact .inl rfl
    · cases h; exact .inr ⟨id, es, c, _, _, hg, rfl⟩
    · cases h
  case entryset x y z =>
    cases hq : H.entryset (x.ev T) (y.ev T) (z.ev T) with
    | none => rw [hq] at h; cases h
    | some H1 =>
      rw [hq] at h; cases h
      unfold Heap.entryset at hq
      split at hq
      case h_2 => cases hq
      rename_i id _ _ _ _
      split at hq
      case h_2 => cases hq
      rename_i es c hg
      cases hb : setBorn es _ (z.ev T) with
      | none => rw [hb] at hq; cases hq
      | some es2 => rw [hb] at hq; cases hq; exact .inr ⟨id, es, c, _, _, hg, rfl⟩
  case mapdel m x y =>
    cases hq : H.mapdel m (x.ev T) (y.ev T) with
    | none => rw [hq] at h; cases h
    | some H1 =>
      rw [hq] at h; cases h
      unfold Heap.mapdel at hq
      split at hq
      case isFalse => cases hq
      split at hq
      · cases hq; exact .inl rfl
      · rename_i id _
        split at hq
        case h_2 => cases hq
        rename_i es c hg
        split at hq
        · cases hq; exact .inr ⟨id, es, c, _, _, hg, rfl⟩
        · cases hq; exact .inl rfl
        · cases hq
      · cases hq
  case mapclear x =>
    cases hq : H.mapclear (x.ev T) with
    | none => rw [hq] at h; cases h
    | some H1 =>
      rw [hq] at h; cases h
      unfold Heap.mapclear at hq
      split at hq
      · cases hq; exact .inl rfl
      · rename_i id _
        split at hq
        case h_2 => cases hq
        rename_i es c hg
        cases hq; exact .inr ⟨id, es, c, _, _, hg, rfl⟩
      · cases hq
  case append k e s by_ p x y => cases p <;> simp at hc

theorem puts_W {H H' : Heap} {i : I} {v : Value} (hc : i.cls = .Ea ∨ i.cls = .W) (h : evI cl b T H i = some (v, H')) : Puts H H' := by
  cases i <;> simp only [I.cls] at hc <;> (try (simp at hc; done)) <;> simp only [evI] at h
  case store n a x =>
    cases hs : H.storev n (a.ev T) (x.ev T) with
    | none => rw [hs] at h; cases h
    | some H1 =>
      rw [hs] at h; cases h
      unfold Heap.storev at hs
      split at hs
      case h_2 => cases hs
      split at hs
      case h_2 => cases hs
      split at hs <;> cases hs
      exact .one nofun
  case copy s x y =>
    unfold Heap.copy at h
    split at h
    case isFalse => cases h
    split at h
    · cases h; exact .refl H
    · split at h
      · cases h; exact .refl H
      · split at h
        case h_2 => cases h
        split at h <;> cases h
        exact .one nofun
    · cases h
  case clear s z x =>
    cases hs : H.clear s z (x.ev T) with
    | none => rw [hs] at h; cases h
    | some H1 =>
      rw [hs] at h; cases h
      unfold Heap.clear at hs
      split at hs
      · cases hs; exact .refl H
      · split at hs
        · cases hs; exact .refl H
        · split at hs
          case h_2 => cases hs
          split at hs <;> cases hs
          exact .one nofun
      · cases hs
  case append k e s by_ p x y =>
    unfold Heap.append at h
    split at h
    · cases h
    split at h
    · split at h
      · cases h; exact .refl H
      · split at h
        case isFalse => cases h
        obtain ⟨_, h2⟩ := new_map h
        cases h2; exact .one nofun
    · split at h
      · cases h; exact .refl H
      split at h
      · cases h
      split at h
      · split at h
        · cases h
        split at h
        case h_2 => cases h
        split at h <;> cases h
        exact .one nofun
      · split at h
        · cases h
        split at h
        case isFalse => cases h
        split at h
        · obtain ⟨_, h2⟩ := new_map h
          cases h2; exact .one nofun
        · split at h
          · cases h
          split at h
          case h_2 => cases h
          split at h
          case isFalse => cases h
          obtain ⟨_, h2⟩ := new_map h
          cases h2; exact .put _ _ _ _ (.one nofun) nofun
    · cases h

theorem evI_puts {H H' : Heap} {i : I} {v : Value} (hn : i.cls ≠ .C) (h : evI cl b T H i = some (v, H')) : Puts H H' := by
  cases hc : i.cls with
  | P => rw [(evI_P hc h).1]; exact .refl H
  | L => obtain ⟨a, n, x, rfl⟩ := cls_load hc; rw [(evI_L h).1]; exact .refl H
  | M => rw [(evI_M hc h).1]; exact .refl H
  | E =>
    cases i <;> simp only [I.cls] at hc <;> (try (cases hc; done)) <;> simp only [evI] at h
    case alloc k e z => obtain ⟨_, h2⟩ := new_map h; cases h2; exact .one nofun
    case box k e x =>
      split at h
      case isFalse => cases h
      obtain ⟨_, h2⟩ := new_map h; cases h2; exact .one nofun
    case bslice k e s l z ps =>
      split at h
      case h_2 => cases h
      obtain ⟨_, h2⟩ := new_map h; cases h2; exact .one nofun
    case mkslice k e s by_ z x y =>
      unfold Heap.mkslice at h
      split at h
      case h_2 => cases h
      split at h
      case isFalse => cases h
      obtain ⟨_, h2⟩ := new_map h; cases h2; exact .one nofun
    case mkmap k => obtain ⟨_, h2⟩ := new_map h; cases h2; exact .one nofun
    case append k e s by_ p x y => cases p <;> simp at hc
  | Ea => exact puts_W (.inl hc) h
  | W => exact puts_W (.inr hc) h
  | C => exact absurd hc hn
  | V =>
    rcases evI_V hc h with rfl | ⟨id, es, c, es', c', _, rfl⟩
    · exact .refl _
    · exact .one nofun

/-- What must be known of calls: they let a pending number be, and they do not look at it. -/
structure ClGood (cl : Nat → List Value → Heap → Option (Value × Heap)) : Prop where
  size : ∀ g args H v H', cl g args H = some (v, H') → H.size ≤ H'.size
  back : ∀ g args H v H' j, cl g args H = some (v, H') → j < H.size → H'.get j = some .pend → H.get j = some .pend
  put : ∀ g args H v H' j o, cl g args H = some (v, H') → H.get j = some .pend → j < H.size → H'.get j = some .pend ∧ cl g args (H.put j o) = some (v, H'.put j o)

theorem evI_size (hcl : ∀ g args H v H', cl g args H = some (v, H') → H.size ≤ H'.size) {H H' : Heap} {i : I} {v : Value}
    (h : evI cl b T H i = some (v, H')) : H.size ≤ H'.size := by
  by_cases hc : i.cls = .C
  · cases i <;> simp [I.cls] at hc
    case call f args =>
      simp only [evI] at h
      split at h
      · exact hcl _ _ _ _ _ h
      · cases h
    case append k e s by_ p x y => cases p <;> simp at hc
  · rw [(evI_puts hc h).size]; exact Nat.le_refl _

end Go.Proofs.YtiphbdhclldllaaGreatDoor.Mx
