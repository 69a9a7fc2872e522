/- A part of the proof that the law answers true at every input: the texts ZadV, ZadK, ZadL, ZadM, ZadU; no conditions. -/
import Derived.Test.YtapkmhneneffdaaGreatDoorMxC
import Derived.LoopN
set_option linter.unusedSimpArgs false
set_option linter.unusedVariables false
set_option linter.constructorNameAsVariable false

/-! The text ZadV. -/
namespace Go.Proofs.YtapkmhneneffdaaGreatDoor.Mx
open Go

variable {cl : Nat → List Value → Heap → Option (Value × Heap)} {b : Nat} {T : Tr Value}

theorem size_new {H H' : Heap} {id : Nat} {o : Ob} (h : H.new id o = some H') : H'.size = H.size := by
  obtain ⟨_, rfl⟩ := new_spec h; rfl

/-- What an operation that is no call does: nothing, or it puts some objects, none of them pending. -/
inductive Puts : Heap → Heap → Prop
  | refl (H : Heap) : Puts H H
  | put (H H' : Heap) (id : Nat) (o : Ob) (h : Puts H H') (ho : o ≠ .pend) : Puts H (H'.put id o)

theorem Puts.one {H : Heap} {id : Nat} {o : Ob} (ho : o ≠ .pend) : Puts H (H.put id o) := .put H H id o (.refl H) ho
theorem Puts.size {H H' : Heap} (h : Puts H H') : H'.size = H.size := by
  induction h with
  | refl => rfl
  | put H' id o h ho ih => rw [Heap.size_put]; exact ih
theorem Puts.back {H H' : Heap} (h : Puts H H') {j : Nat} (hj : H'.get j = some .pend) : H.get j = some .pend := by
  induction h with
  | refl => exact hj
  | put H' id o h ho ih =>
    rw [Heap.get_put] at hj
    split at hj
    · cases hj; exact absurd rfl ho
    · exact ih hj

theorem evI_V {i : I} (hc : i.cls = .V) {H H' : Heap} {v : Value} (h : evI cl b T H i = some (v, H')) :
    H' = H ∨ ∃ id es c es' c', H.get id = some (.map es c) ∧ H' = H.put id (.map es' c') := by
  cases i <;> simp only [I.cls] at hc <;> (try (cases hc; done)) <;> simp only [evI] at h
  case mapset m x y z =>
    cases hq : H.mapset m (x.ev T) (y.ev T) (z.ev T) with
    | none => rw [hq] at h; cases h
    | some H1 =>
      rw [hq] at h; cases h
      unfold Heap.mapset at hq
      split at hq
      case h_2 => cases hq
      rename_i id _
      split at hq
      case isFalse => cases hq
      split at hq
      case h_2 => cases hq
      rename_i es c hg
      split at hq
      · cases hq; exact .inr ⟨id, es, c, _, _, hg, rfl⟩
      · cases hq; exact .inr ⟨id, es, c, _, _, hg, rfl⟩
      · cases hq
  case mapentry m z x y =>
    unfold Heap.mapentry at h
    split at h
    case h_2 => cases h
    rename_i id _
    split at h
    case isFalse => cases h
    split at h
    case h_2 => cases h
    rename_i es c hg
    split at h
    · cases h; exact .inl rfl
    · cases h; exact .inr ⟨id, es, c, _, _, hg, rfl⟩
    · cases h
  case entryset x y z =>
    cases hq : H.entryset (x.ev T) (y.ev T) (z.ev T) with
    | none => rw [hq] at h; cases h
    | some H1 =>
      rw [hq] at h; cases h
      unfold Heap.entryset at hq
      split at hq
      case h_2 => cases hq
      rename_i id _ _ _ _
      split at hq
      case h_2 => cases hq
      rename_i es c hg
      cases hb : setBorn es _ (z.ev T) with
      | none => rw [hb] at hq; cases hq
      | some es2 => rw [hb] at hq; cases hq; exact .inr ⟨id, es, c, _, _, hg, rfl⟩
  case mapdel m x y =>
    cases hq : H.mapdel m (x.ev T) (y.ev T) with
    | none => rw [hq] at h; cases h
    | some H1 =>
      rw [hq] at h; cases h
      unfold Heap.mapdel at hq
      split at hq
      case isFalse => cases hq
      split at hq
      · cases hq; exact .inl rfl
      · rename_i id _
        split at hq
        case h_2 => cases hq
        rename_i es c hg
        split at hq
        · cases hq; exact .inr ⟨id, es, c, _, _, hg, rfl⟩
        · cases hq; exact .inl rfl
        · cases hq
      · cases hq
  case mapclear x =>
    cases hq : H.mapclear (x.ev T) with
    | none => rw [hq] at h; cases h
    | some H1 =>
      rw [hq] at h; cases h
      unfold Heap.mapclear at hq
      split at hq
      · cases hq; exact .inl rfl
      · rename_i id _
        split at hq
        case h_2 => cases hq
        rename_i es c hg
        cases hq; exact .inr ⟨id, es, c, _, _, hg, rfl⟩
      · cases hq
  case append k e s by_ p x y => cases p <;> simp at hc

theorem puts_W {H H' : Heap} {i : I} {v : Value} (hc : i.cls = .Ea ∨ i.cls = .W) (h : evI cl b T H i = some (v, H')) : Puts H H' := by
  cases i <;> simp only [I.cls] at hc <;> (try (simp at hc; done)) <;> simp only [evI] at h
  case store n a x =>
    cases hs : H.storev n (a.ev T) (x.ev T) with
    | none => rw [hs] at h; cases h
    | some H1 =>
      rw [hs] at h; cases h
      unfold Heap.storev at hs
      split at hs
      case h_2 => cases hs
      split at hs
      case h_2 => cases hs
      split at hs <;> cases hs
      exact .one nofun
  case copy s x y =>
    unfold Heap.copy at h
    split at h
    case isFalse => cases h
    split at h
    · cases h; exact .refl H
    · split at h
      · cases h; exact .refl H
      · split at h
        case h_2 => cases h
        split at h <;> cases h
        exact .one nofun
    · cases h
  case clear s z x =>
    cases hs : H.clear s z (x.ev T) with
    | none => rw [hs] at h; cases h
    | some H1 =>
      rw [hs] at h; cases h
      unfold Heap.clear at hs
      split at hs
      · cases hs; exact .refl H
      · split at hs
        · cases hs; exact .refl H
        · split at hs
          case h_2 => cases hs
          split at hs <;> cases hs
          exact .one nofun
      · cases hs
  case append k e s by_ p x y =>
    unfold Heap.append at h
    split at h
    · cases h
    split at h
    · split at h
      · cases h; exact .refl H
      · split at h
        case isFalse => cases h
        obtain ⟨_, h2⟩ := new_map h
        cases h2; exact .one nofun
    · split at h
      · cases h; exact .refl H
      split at h
      · cases h
      split at h
      · split at h
        · cases h
        split at h
        case h_2 => cases h
        split at h <;> cases h
        exact .one nofun
      · split at h
        · cases h
        split at h
        case isFalse => cases h
        split at h
        · obtain ⟨_, h2⟩ := new_map h
          cases h2; exact .one nofun
        · split at h
          · cases h
          split at h
          case h_2 => cases h
          split at h
          case isFalse => cases h
          obtain ⟨_, h2⟩ := new_map h
          cases h2; exact .put _ _ _ _ (.one nofun) nofun
    · cases h

theorem evI_puts {H H' : Heap} {i : I} {v : Value} (hn : i.cls ≠ .C) (h : evI cl b T H i = some (v, H')) : Puts H H' := by
  cases hc : i.cls with
  | P => rw [(evI_P hc h).1]; exact .refl H
  | L => obtain ⟨a, n, x, rfl⟩ := cls_load hc; rw [(evI_L h).1]; exact .refl H
  | M => rw [(evI_M hc h).1]; exact .refl H
  | E =>
    cases i <;> simp only [I.cls] at hc <;> (try (cases hc; done)) <;> simp only [evI] at h
    case alloc k e z => obtain ⟨_, h2⟩ := new_map h; cases h2; exact .one nofun
    case box k e x =>
      split at h
      case isFalse => cases h
      obtain ⟨_, h2⟩ := new_map h; cases h2; exact .one nofun
    case bslice k e s l z ps =>
      split at h
      case h_2 => cases h
      obtain ⟨_, h2⟩ := new_map h; cases h2; exact .one nofun
    case mkslice k e s by_ z x y =>
      unfold Heap.mkslice at h
      split at h
      case h_2 => cases h
      split at h
      case isFalse => cases h
      obtain ⟨_, h2⟩ := new_map h; cases h2; exact .one nofun
    case mkmap k => obtain ⟨_, h2⟩ := new_map h; cases h2; exact .one nofun
    case append k e s by_ p x y => cases p <;> simp at hc
  | Ea => exact puts_W (.inl hc) h
  | W => exact puts_W (.inr hc) h
  | C => exact absurd hc hn
  | V =>
    rcases evI_V hc h with rfl | ⟨id, es, c, es', c', _, rfl⟩
    · exact .refl _
    · exact .one nofun

/-- What must be known of calls: they let a pending number be, and they do not look at it. -/
structure ClGood (cl : Nat → List Value → Heap → Option (Value × Heap)) : Prop where
  size : ∀ g args H v H', cl g args H = some (v, H') → H.size ≤ H'.size
  back : ∀ g args H v H' j, cl g args H = some (v, H') → j < H.size → H'.get j = some .pend → H.get j = some .pend
  put : ∀ g args H v H' j o, cl g args H = some (v, H') → H.get j = some .pend → j < H.size → H'.get j = some .pend ∧ cl g args (H.put j o) = some (v, H'.put j o)

theorem evI_size (hcl : ∀ g args H v H', cl g args H = some (v, H') → H.size ≤ H'.size) {H H' : Heap} {i : I} {v : Value}
    (h : evI cl b T H i = some (v, H')) : H.size ≤ H'.size := by
  by_cases hc : i.cls = .C
  · cases i <;> simp [I.cls] at hc
    case call f args =>
      simp only [evI] at h
      split at h
      · exact hcl _ _ _ _ _ h
      · cases h
    case append k e s by_ p x y => cases p <;> simp at hc
  · rw [(evI_puts hc h).size]; exact Nat.le_refl _

end Go.Proofs.YtapkmhneneffdaaGreatDoor.Mx

/-! The text ZadK. -/
namespace Go.Proofs.YtapkmhneneffdaaGreatDoor.Mx
open Go

variable {cl : Nat → List Value → Heap → Option (Value × Heap)} {b : Nat} {T : Tr Value}

theorem wanted_less (x : Ins) (y : Nat) (T : Tr Value) : (x.less y).wanted T = x.wanted T := rfl

/-! ### what was noted -/
/-- A heap of which at least as much can be read. -/
def HLe (H H' : Heap) : Prop := ∀ agg n a u, H.loadv agg n a = some u → H'.loadv agg n a = some u
inductive NLe : Option Lg → Option Lg → Prop
  | refl (e : Option Lg) : NLe e e
  | heap (H H' : Heap) (h : HLe H H') : NLe (some (.heap H)) (some (.heap H'))
def LogLe (l l' : Tr Lg) : Prop := ∀ c, NLe (l.get c) (l'.get c)

theorem HLe.refl (H : Heap) : HLe H H := fun _ _ _ _ h => h
theorem HLe.trans {a b c : Heap} (h : HLe a b) (h' : HLe b c) : HLe a c := fun _ _ _ _ g => h' _ _ _ _ (h _ _ _ _ g)
theorem NLe.trans {a b c : Option Lg} (h : NLe a b) (h' : NLe b c) : NLe a c := by
  cases h with
  | refl => exact h'
  | heap H H' h => cases h' with
    | refl => exact .heap _ _ h
    | heap _ H2 h2 => exact .heap _ _ (h.trans h2)
theorem LogLe.refl (l : Tr Lg) : LogLe l l := fun _ => .refl _
theorem LogLe.trans {a b c : Tr Lg} (h : LogLe a b) (h' : LogLe b c) : LogLe a c := fun i => (h i).trans (h' i)

theorem chk1_le {i : I} {v : Value} {e e' : Option Lg} (h : NLe e e') (hc : chk1 T i v e = true) : chk1 T i v e' = true := by
  cases h with
  | refl => exact hc
  | heap H H' h =>
    cases i <;> simp only [chk1] at hc ⊢ <;> (try (cases hc; done))
    case load a n x =>
      cases hq : H.loadv a n (x.ev T) with
      | none => rw [hq] at hc; cases hc
      | some u => rw [h _ _ _ _ hq]; rw [hq] at hc; exact hc

theorem chkOk_le {log log' : Tr Lg} (h : LogLe log log') {i : I} {v : Value} : ∀ {l : List Nat}, chkOk log T i v l = true → chkOk log' T i v l = true := by
  intro l
  induction l with
  | nil => intro _; rfl
  | cons c l ih =>
    intro hc
    simp only [chkOk, Bool.and_eq_true] at hc ⊢
    exact ⟨chk1_le (h c) hc.1, ih hc.2⟩

theorem evW_le {i : Ins} {H : Heap} {log log' : Tr Lg} (h : LogLe log log') {r : Value × Heap} (hw : evW cl b i ⟨T, H, log⟩ = some r) : evW cl b i ⟨T, H, log'⟩ = some r := by
  obtain ⟨v, H'⟩ := r
  rcases evW_some hw with ⟨h1, h2, h3⟩ | ⟨h1, rfl, rfl⟩
  · exact evW_of h1 h2 (chkOk_le h h3)
  · exact evW_not h1

/-- What an operation notes. -/
def noted (b : Nat) (i : Ins) (T : Tr Value) (H : Heap) : Option Lg := bif i.lg then (match i.wanted T with | some true => note b T H i.op | _ => none) else none
def setO (log : Tr Lg) (c : Nat) : Option Lg → Tr Lg
  | some e => log.set c e
  | none => log

theorem lg_eq (b : Nat) (i : Ins) (T : Tr Value) (H : Heap) (log : Tr Lg) : lg b i ⟨T, H, log⟩ = setO log i.idx (noted b i T H) := by
  unfold lg noted
  cases i.lg with
  | false => rfl
  | true =>
    simp only [cond_true]
    cases hw : i.wanted T with
    | none => rfl
    | some w =>
      cases w with
      | false => rfl
      | true =>
        cases hn : note b T H i.op with
        | none => rfl
        | some e => rfl

theorem get_setO (log : Tr Lg) (c : Nat) (e : Option Lg) (i : Nat) : (setO log c e).get i = if c = i then (match e with | some e => some e | none => log.get i) else log.get i := by
  cases e with
  | none => simp [setO]
  | some e => simp only [setO, Tr.get_set]

theorem setO_le {log log' : Tr Lg} (h : LogLe log log') (c : Nat) {e e' : Option Lg} (he : NLe e e') : LogLe (setO log c e) (setO log' c e') := by
  intro i
  rw [get_setO, get_setO]
  by_cases hc : c = i
  · rw [if_pos hc, if_pos hc]
    cases he with
    | refl e => cases e with
      | none => exact h i
      | some e => exact .refl _
    | heap H H' hh => exact .heap _ _ hh
  · rw [if_neg hc, if_neg hc]; exact h i

theorem setO_swap {log : Tr Lg} {c d : Nat} (hne : c ≠ d) {e e' f : Option Lg} (he : NLe e e') : LogLe (setO (setO log c e) d f) (setO (setO log d f) c e') := by
  intro i
  simp only [get_setO]
  by_cases h1 : c = i
  · subst h1
    rw [if_neg (fun e => hne e.symm), if_pos rfl, if_pos rfl, if_neg (fun e => hne e.symm)]
    cases he with
    | refl e => cases e <;> exact .refl _
    | heap H H' hh => exact .heap _ _ hh
  · rw [if_neg h1, if_neg h1]
    exact .refl _

theorem noted_call {i : Ins} {T : Tr Value} {H H' : Heap} (h : i.op.isCall = false) : noted b i T H = noted b i T H' := by
  unfold noted
  have : note b T H i.op = note b T H' i.op := by
    cases ho : i.op <;> first | rfl | (rw [ho] at h; simp [I.isCall] at h)
  rw [this]

theorem noted_le {i : Ins} {T : Tr Value} {H H' : Heap} (h : i.op.isCall = true → HLe H H') : NLe (noted b i T H) (noted b i T H') := by
  by_cases hc : i.op.isCall = true
  · unfold noted
    cases i.lg with
    | false => exact .refl _
    | true =>
      simp only [cond_true]
      split
      · cases ho : i.op <;> first
          | (rw [ho] at hc; simp [I.isCall] at hc; done)
          | exact .heap _ _ (h hc)
      · exact .refl _
  · rw [noted_call (H' := H') (by simpa using hc)]; exact .refl _

theorem noted_not {i : Ins} {T : Tr Value} {H : Heap} (h : i.wanted T = some false) : noted b i T H = none := by
  unfold noted
  rw [h]
  cases i.lg <;> rfl

theorem chkOk_skip {log : Tr Lg} {i : I} {v : Value} {c : Nat} {e : Option Lg} : ∀ {l : List Nat}, l.contains c = false → chkOk log T i v l = true → chkOk (setO log c e) T i v l = true := by
  intro l
  induction l with
  | nil => intro _ _; rfl
  | cons d l ih =>
    intro hn hc
    simp only [List.contains_cons, Bool.or_eq_false_iff, beq_eq_false_iff_ne, ne_eq] at hn
    simp only [chkOk, Bool.and_eq_true] at hc ⊢
    refine ⟨?_, ih hn.2 hc.2⟩
    rw [get_setO, if_neg hn.1]; exact hc.1

theorem chkOk_without {log : Tr Lg} {i : I} {v : Value} {y : Nat} {e : Option Lg} {l : List Nat} (h : chkOk (setO log y e) T i v l = true) : chkOk log T i v (l.filter fun c => c != y) = true := by
  cases e with
  | none => exact chkOk_filter _ h
  | some e => exact chkOk_less h

theorem chkOk_at {log : Tr Lg} {i : I} {v : Value} {y : Nat} {e : Lg} {l : List Nat} (h : chkOk (setO log y (some e)) T i v l = true) (hm : l.contains y = true) : chk1 T i v (some e) = true := chkOk_hit h hm

theorem le_put {H : Heap} {j : Nat} {o : Ob} (hj : H.get j = some .pend) : HLe H (H.put j o) := fun _ _ _ _ h => loadv_put h hj

theorem loadv_other {H : Heap} {agg : Bool} {n : Nat} {a v : Value} {j : Nat} {o : Ob} (h : H.loadv agg n a = some v) (hj : ∀ e ro cs, H.get j ≠ some (.cells e ro cs)) : (H.put j o).loadv agg n a = some v := by
  unfold Heap.loadv at h ⊢
  split at h
  case h_2 => cases h
  rename_i id off
  have hne : j ≠ id := by
    intro e; subst e
    split at h
    · rename_i e ro cs hg; exact hj _ _ _ hg
    · cases h
  simp only [Heap.get_put, if_neg hne]
  exact h

theorem loadv_apart {H : Heap} {agg : Bool} {n : Nat} {id off : Nat} {v : Value} {j : Nat} {o : Ob} (h : (H.put j o).loadv agg n (.pointer (some ⟨id, off, none⟩)) = some v) (hj : j ≠ id) : H.loadv agg n (.pointer (some ⟨id, off, none⟩)) = some v := by
  unfold Heap.loadv at h ⊢
  simp only [Heap.get_put, if_neg hj] at h
  exact h

/-- A load and a store apart from it. -/
theorem loadv_store {H H' : Heap} {agg : Bool} {n m : Nat} {id off id' off' : Nat} {v x : Value} (hl : H.loadv agg n (.pointer (some ⟨id, off, none⟩)) = some v)
    (hs : H.storev m (.pointer (some ⟨id', off', none⟩)) x = some H') (hd : id ≠ id' ∨ off + (if agg then n else 1) ≤ off' ∨ off' + m ≤ off) : H'.loadv agg n (.pointer (some ⟨id, off, none⟩)) = some v := by
  unfold Heap.storev at hs
  simp only at hs
  split at hs
  case h_2 => cases hs
  rename_i e cs hg
  split at hs
  case isFalse => cases hs
  rename_i hc
  obtain ⟨hsz, hok, hle⟩ := hc
  cases hs
  have hsz' : x.cells.toList.length = m := by simpa using hsz
  unfold Heap.loadv at hl ⊢
  simp only [Heap.get_put] at hl ⊢
  by_cases hid : id' = id
  · subst hid
    rw [if_pos rfl]
    rw [hg] at hl
    simp only at hl ⊢
    have hr : off' + x.cells.toList.length ≤ cs.length := by omega
    have hget := getElem?_setRange cs off' x.cells.toList hr
    have hlen := length_setRange cs off' x.cells.toList hr
    have hd' : off + (if agg then n else 1) ≤ off' ∨ off' + m ≤ off := by
      rcases hd with h | h
      · exact absurd rfl h
      · exact h
    cases agg with
    | true =>
      simp only [if_true] at hl hd' ⊢
      split at hl
      case isFalse => cases hl
      rename_i hle2
      rw [if_pos (by omega), ← hl]
      congr 3
      apply List.ext_getElem?
      intro i
      simp only [List.getElem?_take, List.getElem?_drop, hget]
      split
      · rw [if_neg (by omega)]
      · rfl
    | false =>
      simp only [Bool.false_eq_true, if_false] at hl hd' ⊢
      rw [hget, if_neg (by omega)]; exact hl
  · rw [if_neg hid]; exact hl

theorem loadv_ne {H : Heap} {agg : Bool} {n id off : Nat} {v : Value} {j : Nat} {o : Ob} (h : H.loadv agg n (.pointer (some ⟨id, off, none⟩)) = some v) (hj : j ≠ id) : (H.put j o).loadv agg n (.pointer (some ⟨id, off, none⟩)) = some v := by
  unfold Heap.loadv at h ⊢
  simp only [Heap.get_put, if_neg hj]
  exact h
theorem loadv_new {H H' : Heap} {agg : Bool} {n id off : Nat} {v : Value} {j : Nat} {o : Ob} (h : H.loadv agg n (.pointer (some ⟨id, off, none⟩)) = some v) (hn : H.new j o = some H') : H'.loadv agg n (.pointer (some ⟨id, off, none⟩)) = some v := by
  unfold Heap.new at hn
  split at hn
  · rename_i hp
    cases hn
    exact loadv_put h hp
  · cases hn
/-- A load, and an append to a slice of another object. -/
theorem loadv_append {H H' : Heap} {agg : Bool} {n id off : Nat} {u : Value} (hl : H.loadv agg n (.pointer (some ⟨id, off, none⟩)) = some u)
    {j el esz bytes : Nat} {pure : Bool} {x y v : Value} (hs : H.append j el esz bytes pure x y = some (v, H')) (hd : ∀ o off' sp l c, x = .slice (some ⟨o, off', sp⟩) l c → id ≠ o) : H'.loadv agg n (.pointer (some ⟨id, off, none⟩)) = some u := by
  unfold Heap.append at hs
  split at hs
  · cases hs
  split at hs
  · split at hs
    · cases hs; exact hl
    · split at hs
      · simp only [Option.map_eq_some_iff] at hs
        obtain ⟨H3, h3, h4⟩ := hs
        cases h4
        exact loadv_new hl h3
      · cases hs
  · rename_i o off' ek len cap
    have hne : o ≠ id := fun e => hd o off' (some ek) len cap rfl e.symm
    split at hs
    · cases hs; exact hl
    split at hs
    · cases hs
    split at hs
    · split at hs
      · cases hs
      split at hs
      · split at hs
        · cases hs; exact loadv_ne hl hne
        · cases hs
      · cases hs
    · split at hs
      · cases hs
      split at hs
      · split at hs
        · simp only [Option.map_eq_some_iff] at hs
          obtain ⟨H3, h3, h4⟩ := hs
          cases h4
          exact loadv_new hl h3
        · split at hs
          · cases hs
          split at hs
          · split at hs
            · simp only [Option.map_eq_some_iff] at hs
              obtain ⟨H3, h3, h4⟩ := hs
              cases h4
              exact loadv_ne (loadv_new hl h3) hne
            · cases hs
          · cases hs
      · cases hs
  · cases hs

theorem note_new {i : I} (hc : i.cls = .E) {k : Nat} (hk : i.tgt = some k) (H : Heap) : note b T H i = some (.rng (b + k) 0 0) := by
  cases i <;> simp only [I.cls] at hc <;> (try (cases hc; done)) <;> simp only [I.tgt, Option.some.injEq] at hk <;> (try (subst hk; rfl))
  case append k e s by_ p x y => cases p <;> simp at hc

/-- The heap's side of an exchange. -/
theorem swapW (hcl : ClGood cl) {y x : Ins} {H H1 H2 : Heap} {log : Tr Lg} {vy vx : Value} (hc : comm y x = true) (hlt : ∀ k, x.op.tgt = some k → b + k < H.size)
    (hy : evW cl b y ⟨T, H, log⟩ = some (vy, H1)) (hx : evW cl b x ⟨T, H1, lg b y ⟨T, H, log⟩⟩ = some (vx, H2)) :
    ∃ H1', evW cl b (x.less y.idx) ⟨T, H, log⟩ = some (vx, H1') ∧ evW cl b y ⟨T, H1', lg b (x.less y.idx) ⟨T, H, log⟩⟩ = some (vy, H2) ∧
      noted b x T H1 = noted b x T H ∧ NLe (noted b y T H) (noted b y T H1') := by
  obtain ⟨⟨hne, hyx⟩, hd1, hd2, hcl'⟩ := comm_spec hc
  rw [lg_eq] at hx ⊢
  have nx : noted b (x.less y.idx) T H = noted b x T H := rfl
  have ix : (x.less y.idx).idx = x.idx := rfl
  rw [nx, ix]
  -- y's checks in the new log
  have ychk : ∀ {v : Value}, chkOk log T y.op v y.chk = true → chkOk (setO log x.idx (noted b x T H)) T y.op v y.chk = true := fun h => chkOk_skip hyx h
  have callC : ∀ {i : I}, i.isCall = true → i.cls = .C := by
    intro i h
    cases i <;> simp [I.isCall] at h
    rfl
  have notcall : ∀ {i : I}, i.cls ≠ .C → i.isCall = false := fun h => cls_call h
  rcases evW_some hx with ⟨hwx, hex, hcx⟩ | ⟨hwx, rfl, rfl⟩
  rotate_left
  · -- x is not wanted
    refine ⟨H, evW_not hwx, ?_, by rw [noted_not hwx, noted_not hwx], .refl _⟩
    rw [noted_not hwx]
    exact hy
  · have xchk : chkOk log T x.op vx (x.less y.idx).chk = true := chkOk_without hcx
    rcases evW_some hy with ⟨hwy, hey, hcy⟩ | ⟨hwy, rfl, rfl⟩
    rotate_left
    · -- y is not wanted
      exact ⟨H2, evW_of hwx hex xchk, evW_not hwy, rfl, by rw [noted_not hwy, noted_not hwy]; exact .refl _⟩
    · -- both are carried out
      have yle : ∀ {H' : Heap}, y.op.cls ≠ .C → NLe (noted b y T H) (noted b y T H') := fun h => by rw [noted_call (H' := _) (notcall h)]; exact .refl _
      rcases hcl' with hP | hP | ⟨hyL, hxL⟩ | ⟨hAL, htgt⟩ | ⟨hyC, hxE⟩ | ⟨hyCE, hxL, hlg, hin⟩ | ⟨hyL, hxW, hlg, hst, hin⟩ | ⟨hyL, hxV⟩
      · -- y of class P
        obtain ⟨rfl, hany⟩ := evI_P hP hey
        exact ⟨H2, evW_of hwx hex xchk, evW_of hwy (hany _) (ychk hcy), rfl, yle (by rw [hP]; simp)⟩
      · -- x of class P
        obtain ⟨rfl, hany⟩ := evI_P hP hex
        exact ⟨H, evW_of hwx (hany _) xchk, evW_of hwy hey (ychk hcy), noted_call (notcall (by rw [hP]; simp)), .refl _⟩
      · -- two that read
        have e1 : H1 = H := by
          rcases hyL with h | h
          · obtain ⟨a, n, z, ey⟩ := cls_load h
            rw [ey] at hey; exact (evI_L hey).1
          · exact (evI_M h hey).1
        subst e1
        have e2 : H2 = H1 := by
          rcases hxL with h | h
          · obtain ⟨a, n, z, ex⟩ := cls_load h
            rw [ex] at hex; exact (evI_L hex).1
          · exact (evI_M h hex).1
        subst e2
        exact ⟨H2, evW_of hwx hex xchk, evW_of hwy hey (ychk hcy), rfl, .refl _⟩
      · rcases hAL with ⟨hyL, hx3⟩ | ⟨hyE, hxE⟩
        · -- y reads, x makes something
          have hync : y.op.cls ≠ .C := by rcases hyL with h | h <;> rw [h] <;> simp
          have hy2 : H1 = H ∧ ∀ j o, H.get j = some .pend → evI cl b T (H.put j o) y.op = some (vy, H.put j o) := by
            rcases hyL with h | h
            · obtain ⟨a, n, z, ey⟩ := cls_load h
              rw [ey] at hey ⊢; exact evI_L hey
            · exact evI_M h hey
          obtain ⟨rfl, hany⟩ := hy2
          refine ⟨H2, evW_of hwx hex xchk, ?_, rfl, yle hync⟩
          refine evW_of hwy ?_ (ychk hcy)
          rcases hx3 with h | h
          · obtain ⟨k, ob, _, g2, rfl, _⟩ := evI_E h hex
            exact hany _ _ g2
          · obtain ⟨k, e, s, by_, p, q, ex⟩ := cls_ea h
            rw [ex] at hex
            rcases evI_Ea hex with ⟨rfl, _⟩ | ⟨ob, g1, rfl, _⟩
            · exact hey
            · exact hany _ _ g1
        · -- x makes something whatever the heap holds
          have hync : y.op.cls ≠ .C := by rcases hyE with h | h <;> rw [h] <;> simp
          obtain ⟨kx, obx, tx, gx, rfl, hanyx⟩ := evI_E hxE hex
          have hkne : ∀ k, y.op.tgt = some k → b + k ≠ b + kx := by
            intro k hk e
            rcases htgt with h | h
            · rw [hk] at h; cases h
            · rw [hk, tx] at h; exact h (by rw [show k = kx by omega])
          rcases hyE with h | h
          · obtain ⟨ky, oby, ty, gy, rfl, hanyy⟩ := evI_E h hey
            have hne' := hkne ky ty
            have gx' : H.get (b + kx) = some .pend := by rw [Heap.get_put, if_neg hne'] at gx; exact gx
            refine ⟨H.put (b + kx) obx, evW_of hwx (hanyx H gx') xchk, ?_, noted_call (notcall (by rw [hxE]; simp)), yle hync⟩
            rw [Heap.put_comm _ _ _ _ _ (fun e => hne' e.symm)]
            exact evW_of hwy (hanyy _ (by rw [Heap.get_put, if_neg (fun e => hne' e.symm)]; exact gy)) (ychk hcy)
          · obtain ⟨ky, e, s, by_, p, q, ey⟩ := cls_ea h
            have hne' := hkne ky (by rw [ey]; rfl)
            rw [ey] at hey
            rcases evI_Ea hey with ⟨rfl, hanyy⟩ | ⟨oby, gy, rfl, hanyy⟩
            · refine ⟨H1.put (b + kx) obx, evW_of hwx (hanyx _ gx) xchk, ?_, rfl, yle hync⟩
              refine evW_of hwy ?_ (ychk hcy)
              rw [ey]
              exact hanyy _ _ gx (fun e => hne' e.symm)
            · have gx' : H.get (b + kx) = some .pend := by rw [Heap.get_put, if_neg hne'] at gx; exact gx
              refine ⟨H.put (b + kx) obx, evW_of hwx (hanyx H gx') xchk, ?_, noted_call (notcall (by rw [hxE]; simp)), yle hync⟩
              rw [Heap.put_comm _ _ _ _ _ (fun e => hne' e.symm)]
              refine evW_of hwy ?_ (ychk hcy)
              rw [ey]
              exact hanyy _ _ gx' (fun e => hne' e.symm)
      · -- a call, then something new
        obtain ⟨kx, obx, tx, gx, rfl, hanyx⟩ := evI_E hxE hex
        have hl := hlt kx tx
        cases ho : y.op <;> rw [ho] at hyC <;> simp [I.cls] at hyC
        case append k e s by_ p x y => cases p <;> simp at hyC
        case call f args =>
          have hey0 := hey
          rw [ho] at hey
          simp only [evI] at hey
          split at hey
          case h_2 => cases hey
          rename_i g first captured hf
          have gx0 : H.get (b + kx) = some .pend := hcl.back _ _ _ _ _ _ hey hl gx
          obtain ⟨_, g2⟩ := hcl.put _ _ _ _ _ (b + kx) obx hey gx0 hl
          refine ⟨H.put (b + kx) obx, evW_of hwx (hanyx H gx0) xchk, evW_of hwy ?_ (ychk hcy), noted_call (notcall (by rw [hxE]; simp)), noted_le fun _ => le_put gx0⟩
          rw [ho]
          simp only [evI, hf]
          exact g2
      · -- a call or something new, then a load that was looked at again
        have hxnc : x.op.cls ≠ .C := by rw [hxL]; simp
        obtain ⟨a, n, z, ex⟩ := cls_load hxL
        have hH2 : H2 = H1 := by rw [ex] at hex; exact (evI_L hex).1
        subst hH2
        have hnoted : ∀ e, note b T H y.op = some e → noted b y T H = some e := by
          intro e he
          unfold noted
          rw [hlg, hwy]; exact he
        have key : H.loadv a n (z.ev T) = some vx := by
          rcases hyCE with hyC | hyE
          · have hnt : note b T H y.op = some (.heap H) := by
              cases ho : y.op <;> rw [ho] at hyC <;> simp [I.cls] at hyC
              case append k e s by_ p x y => cases p <;> simp at hyC
              rfl
            rw [hnoted _ hnt] at hcx
            have := chkOk_at hcx hin
            rw [ex] at this
            simp only [chk1] at this
            split at this
            · rename_i u hu; rw [hu, veq_eq this]
            · cases this
          · obtain ⟨ky, oby, ty, gy, rfl, _⟩ := evI_E hyE hey
            rw [hnoted _ (note_new hyE ty H)] at hcx
            have := chkOk_at hcx hin
            rw [ex] at this hex
            simp only [chk1] at this
            split at this
            case h_2 => cases this
            rename_i id' off' ha
            simp only [evI] at hex
            obtain ⟨h1, _⟩ := map_pair hex
            rw [ha] at h1 ⊢
            exact loadv_apart h1 (by simpa using this)
        refine ⟨H, evW_of hwx ?_ xchk, evW_of hwy hey (ychk hcy), noted_call (notcall hxnc), .refl _⟩
        show evI cl b T H x.op = some (vx, H)
        rw [ex]; simp only [evI, key]; rfl
      · -- a load, then a store that is apart from it
        obtain ⟨a, n, z, ey⟩ := cls_load hyL
        have hync : y.op.cls ≠ .C := by rw [hyL]; simp
        have hey0 := hey
        rw [ey] at hey
        obtain ⟨rfl, _⟩ := evI_L hey
        simp only [evI] at hey
        obtain ⟨hload, _⟩ := map_pair hey
        have haddr : ∃ id off, z.ev T = .pointer (some ⟨id, off, none⟩) := by
          unfold Heap.loadv at hload
          split at hload
          case h_2 => cases hload
          rename_i id off hz
          exact ⟨id, off, hz⟩
        obtain ⟨id, off, hz⟩ := haddr
        have hnt : noted b y T H1 = some (.rng id off (if a then n else 1)) := by
          unfold noted
          rw [hlg, hwy, ey]
          simp only [cond_true, note, hz]
        rw [hnt] at hcx
        have hck := chkOk_at hcx hin
        have hex0 := hex
        rcases cls_store hst with ⟨m, p, q, ex⟩ | ⟨k, e, s, by_, p, q, ex⟩
        rotate_left
        · rw [ex] at hck hex
          simp only [evI] at hex
          rw [hz] at hload
          have := loadv_append hload hex (fun o off' sp l c hp => by
            simp only [chk1, hp] at hck
            simpa using hck)
          refine ⟨H2, evW_of hwx hex0 xchk, evW_of hwy ?_ (ychk hcy), rfl, yle hync⟩
          rw [ey]
          simp only [evI, hz, this]
          rfl
        rw [ex] at hck hex
        simp only [evI] at hex
        cases hs : H1.storev m (p.ev T) (q.ev T) with
        | none => rw [hs] at hex; cases hex
        | some H3 =>
          rw [hs] at hex; cases hex
          simp only [chk1] at hck
          split at hck
          case h_2 => cases hck
          rename_i id' off' hp
          rw [hp] at hs
          rw [hz] at hload
          have := loadv_store hload hs (by
            simp only [Bool.or_eq_true, bne_iff_ne, ne_eq, Nat.ble_eq] at hck
            rcases hck with (h | h) | h
            · exact .inl h
            · exact .inr (.inl h)
            · exact .inr (.inr h))
          refine ⟨H2, evW_of hwx hex0 xchk, evW_of hwy ?_ (ychk hcy), rfl, yle hync⟩
          rw [ey]
          simp only [evI, hz, this]
          rfl
      · -- a load, then a map is written
        obtain ⟨a, n, z, ey⟩ := cls_load hyL
        have hync : y.op.cls ≠ .C := by rw [hyL]; simp
        rw [ey] at hey
        obtain ⟨rfl, _⟩ := evI_L hey
        simp only [evI] at hey
        obtain ⟨hload, _⟩ := map_pair hey
        refine ⟨H2, evW_of hwx hex xchk, evW_of hwy ?_ (ychk hcy), rfl, yle hync⟩
        rw [ey]
        rcases evI_V hxV hex with rfl | ⟨id, es, c, es', c', hg, rfl⟩
        · simp only [evI, hload]; rfl
        · have := loadv_other (o := .map es' c') hload (j := id) (fun e ro cs h => by rw [hg] at h; cases h)
          simp only [evI, this]; rfl

theorem evIns_some {i : Ins} {s s' : St} (h : evIns cl b i s = some s') : ∃ v H, evW cl b i s = some (v, H) ∧ s' = ⟨putT s.T i.dst v, H, lg b i s⟩ := by
  unfold evIns at h
  split at h
  · rename_i v H e; cases h; exact ⟨v, H, e, rfl⟩
  · cases h

theorem evIns_le {i : Ins} {H : Heap} {log log' : Tr Lg} (h : LogLe log log') {s : St} (hs : evIns cl b i ⟨T, H, log⟩ = some s) : ∃ l2, evIns cl b i ⟨T, H, log'⟩ = some ⟨s.T, s.H, l2⟩ ∧ LogLe s.log l2 := by
  obtain ⟨v, H', hw, rfl⟩ := evIns_some hs
  refine ⟨lg b i ⟨T, H, log'⟩, by simp only [evIns, evW_le h hw], ?_⟩
  simp only [lg_eq]
  exact setO_le h _ (.refl _)

theorem evSeq_le {l : List Ins} : ∀ {T : Tr Value} {H : Heap} {log log' : Tr Lg} (_ : LogLe log log') {s : St} (_ : evSeq cl b l ⟨T, H, log⟩ = some s), ∃ l2, evSeq cl b l ⟨T, H, log'⟩ = some ⟨s.T, s.H, l2⟩ := by
  induction l with
  | nil => intro T H log log' h s hs; simp only [evSeq] at hs ⊢; cases hs; exact ⟨_, rfl⟩
  | cons i l ih =>
    intro T H log log' h s hs
    simp only [evSeq] at hs ⊢
    cases he : evIns cl b i ⟨T, H, log⟩ with
    | none => rw [he] at hs; cases hs
    | some s1 =>
      rw [he] at hs
      obtain ⟨l2, g1, g2⟩ := evIns_le h he
      rw [g1]
      exact ih g2 hs

theorem swap (hcl : ClGood cl) {y x : Ins} {s s1 s2 : St} (hc : comm y x = true) (hlt : ∀ k, x.op.tgt = some k → b + k < s.H.size) (hy : evIns cl b y s = some s1) (hx : evIns cl b x s1 = some s2) :
    ∃ s1' s2', evIns cl b (x.less y.idx) s = some s1' ∧ evIns cl b y s1' = some s2' ∧ s2'.T = s2.T ∧ s2'.H = s2.H ∧ LogLe s2.log s2'.log := by
  obtain ⟨⟨hne, _⟩, hd1, hd2, _⟩ := comm_spec hc
  obtain ⟨vy, H1, ey, rfl⟩ := evIns_some hy
  obtain ⟨vx, H2, ex, rfl⟩ := evIns_some hx
  obtain ⟨T, H, log⟩ := s
  simp only at ey ex hlt ⊢
  rw [evW_put cl b x T H1 _ y.dst vy (fun t ht => (hd1 t ht).1)] at ex
  obtain ⟨H1', k1, k2, k3, k4⟩ := swapW hcl hc hlt ey ex
  have k2' := k2
  rw [← evW_put cl b y T H1' _ x.dst vx hd2] at k2'
  refine ⟨⟨putT T x.dst vx, H1', lg b (x.less y.idx) ⟨T, H, log⟩⟩, ⟨putT (putT T x.dst vx) y.dst vy, H2, lg b y ⟨putT T x.dst vx, H1', lg b (x.less y.idx) ⟨T, H, log⟩⟩⟩, ?_, ?_, ?_, rfl, ?_⟩
  · simp only [evIns, k1]
    rfl
  · simp only [evIns, k2']
  · exact (putT_comm T vy vx (fun d hd => (hd1 d hd).2)).symm
  · simp only
    rw [lg_put b x T H1 _ y.dst vy (fun t ht => (hd1 t ht).1), lg_put b y T H1' _ x.dst vx hd2]
    simp only [lg_eq]
    have nx : noted b (x.less y.idx) T H = noted b x T H := rfl
    have ix : (x.less y.idx).idx = x.idx := rfl
    rw [nx, ix, k3]
    exact setO_swap hne k4

def Ins.lessAll (x : Ins) : List Ins → Ins
  | [] => x
  | y :: l => (x.lessAll l).less y.idx

theorem lessAll_fields (x : Ins) : ∀ l : List Ins, (x.lessAll l).idx = x.idx ∧ (x.lessAll l).dst = x.dst ∧ (x.lessAll l).guard = x.guard ∧ (x.lessAll l).op = x.op
  | [] => ⟨rfl, rfl, rfl, rfl⟩
  | y :: l => lessAll_fields x l

theorem comm_lessAll {y x : Ins} : ∀ {l : List Ins}, (∀ z ∈ l, z.idx ≠ y.idx) → comm y x = true → comm y (x.lessAll l) = true := by
  intro l
  induction l with
  | nil => intro _ h; exact h
  | cons z l ih =>
    intro hz h
    have h1 := ih (fun u hu => hz u (List.mem_cons_of_mem _ hu)) h
    have hzy := hz z (List.mem_cons_self ..)
    unfold comm at h1 ⊢
    simp only [Ins.lessAll, Ins.less, Bool.and_eq_true] at h1 ⊢
    refine ⟨⟨⟨h1.1.1.1, h1.1.1.2⟩, h1.1.2⟩, ?_⟩
    have h2 := h1.2
    have hf : ((x.lessAll l).chk.filter fun c => c != z.idx).contains y.idx = (x.lessAll l).chk.contains y.idx := by
      rw [Bool.eq_iff_iff]
      simp only [List.contains_iff_mem, List.mem_filter, bne_iff_ne, ne_eq, and_iff_left_iff_imp]
      intro _ e
      exact hzy e.symm
    split at h2 <;> simp_all

/-- Any operation that may be exchanged with all before it can be taken first. -/
theorem bubble (hcl : ClGood cl) {x : Ins} {l2 : List Ins} : ∀ (l1 : List Ins) (s fin : St), (∀ y ∈ l1, comm y x = true) → (l1.map (·.idx)).Nodup → (∀ k, x.op.tgt = some k → b + k < s.H.size) → evSeq cl b (l1 ++ x :: l2) s = some fin →
    ∃ s1 fin', evIns cl b (x.lessAll l1) s = some s1 ∧ evSeq cl b (l1 ++ l2) s1 = some fin' ∧ fin'.T = fin.T ∧ fin'.H = fin.H := by
  intro l1
  induction l1 with
  | nil =>
    intro s fin _ _ _ h
    simp only [List.nil_append, evSeq] at h
    split at h
    · rename_i s1 e; exact ⟨s1, fin, e, h, rfl, rfl⟩
    · cases h
  | cons y l1 ih =>
    intro s fin hc hn hlt h
    simp only [List.cons_append, evSeq] at h
    split at h
    case h_2 => cases h
    rename_i s1 e
    simp only [List.map_cons, List.nodup_cons] at hn
    have hsz : s.H.size ≤ s1.H.size := by
      obtain ⟨v, H, hev, rfl⟩ := evIns_some e
      rcases evW_some hev with ⟨_, hex, _⟩ | ⟨_, _, rfl⟩
      · exact evI_size hcl.size hex
      · exact Nat.le_refl _
    obtain ⟨s2, fin2, g1, g2, g3, g4⟩ := ih s1 fin (fun z hz => hc z (List.mem_cons_of_mem _ hz)) hn.2 (fun k hk => Nat.lt_of_lt_of_le (hlt k hk) hsz) h
    have hcy : comm y (x.lessAll l1) = true := comm_lessAll (fun z hz e => hn.1 (by rw [← e]; exact List.mem_map_of_mem hz)) (hc y (List.mem_cons_self ..))
    obtain ⟨s1', s2', k1, k2, k3, k4, k5⟩ := swap hcl hcy (fun k hk => hlt k (by rw [(lessAll_fields x l1).2.2.2] at hk; exact hk)) e g1
    obtain ⟨T2, H2, log2⟩ := s2
    obtain ⟨T2', H2', log2'⟩ := s2'
    simp only at k3 k4 k5
    subst k3 k4
    obtain ⟨l3, q⟩ := evSeq_le k5 g2
    exact ⟨s1', ⟨fin2.T, fin2.H, l3⟩, k1, by simp only [List.cons_append, evSeq, k2]; exact q, g3, g4⟩

end Go.Proofs.YtapkmhneneffdaaGreatDoor.Mx

/-! The text ZadL. -/
namespace Go.Proofs.YtapkmhneneffdaaGreatDoor.Mx
open Go

theorem append_pure {H : Heap} {id e s b : Nat} {x y : Value} {r : Value × Heap} (h : H.append id e s b true x y = some r) : H.append id e s b false x y = some r := by
  unfold Heap.append at h ⊢
  split at h
  · cases h
  rename_i n new hrow
  split at h
  · exact h
  · rename_i o off ek len cap
    split at h
    · rename_i h0; simp only [h0, if_true, if_false]; exact h
    rename_i h0
    split at h
    · cases h
    rename_i hek
    split at h
    · simp at h
    rename_i hfit
    split at h
    · cases h
    rename_i n2 old hrow2
    split at h
    case isFalse => cases h
    rename_i hb
    split at h
    case isFalse => simp at h
    rename_i hex
    rw [if_neg h0, if_neg hek]
    simp only [h0, if_false, hfit, hrow2, hb, and_self, if_true, hex]
    exact h
  · cases h

section
variable {P : Program} {B0 : Bs} {w0 : World} {ds : List Deferred} {cl : Nat → List Value → Heap → Option (Value × Heap)}

structure Sim (B0 : Bs) (w0 : World) (ds : List Deferred) (nt lo : Nat) (β : Emb) (T : Tr Value) (H : Heap) (a : Act) (w : World) : Prop where
  rel : WRel B0 w0 β H w
  tr : TR β T a
  nt : nt ≤ a.tmps.size
  sz : lo ≤ H.size
  df : a.defers = ds

def InsOk (P : Program) (nt : Nat) (ops : Array Oper) (n : Nat) (i : Ins) : Prop :=
  ∃ o i0 k, ops[i.idx]? = some o ∧ cIns P nt ops.toList i.idx k o = some i0 ∧ i.dst = i0.dst ∧ i.guard = i0.guard ∧ (i0.op.allocs = true → k < n) ∧
    (i.op = i0.op ∨ ∃ k e s by_ x y, i.op = .append k e s by_ true x y ∧ i0.op = .append k e s by_ false x y)

theorem size_put {a : Act} {d : Option Nat} {v : Value} : (a.put d v).tmps.size = a.tmps.size := by
  cases d <;> simp [Act.put]
theorem defers_put {a : Act} {d : Option Nat} {v : Value} : (a.put d v).defers = a.defers := by
  cases d <;> simp [Act.put]

theorem cIns_spec {nt : Nat} {opsL : List Oper} {idx k : Nat} {o : Oper} {i : Ins} (h : cIns P nt opsL idx k o = some i) :
    (∀ d, o.dst = some d → d < nt) ∧ (cI P k o.op = some i.op ∨ i.op = .stuck) ∧ i.dst = o.dst ∧ i.idx = idx ∧
      ((o.guard = none ∧ i.guard = none) ∨ ∃ j want g s, o.guard = some (j, want) ∧ opsL[j]? = some g ∧ g.dst = some s ∧ i.guard = some (s, want)) := by
  unfold cIns at h
  split at h
  · cases h
  rename_i hd
  have hd' : ∀ d, o.dst = some d → d < nt := by
    intro d e
    rw [e] at hd
    simpa [dstOk] using hd
  simp only at h
  have hi : cI P k o.op = some ((cI P k o.op).getD .stuck) ∨ (cI P k o.op).getD .stuck = .stuck := by
    cases cI P k o.op with
    | none => exact .inr rfl
    | some i => exact .inl rfl
  split at h
  · rename_i hg; cases h; exact ⟨hd', hi, rfl, rfl, .inl ⟨hg, rfl⟩⟩
  · rename_i j want hg
    split at h
    case h_2 => cases h
    rename_i g hgj
    split at h
    case h_2 => cases h
    rename_i s hs
    cases h
    exact ⟨hd', hi, rfl, rfl, .inr ⟨j, want, g, s, hg, hgj, hs, rfl⟩⟩

theorem wanted_eq {ops : Array Oper} {o : Oper} {i : Ins} {β : Emb} {T : Tr Value} {a : Act} (hT : TR β T a) {wt : Bool} (hwt : i.wanted T = some wt)
    (hg : (o.guard = none ∧ i.guard = none) ∨ ∃ j want g s, o.guard = some (j, want) ∧ ops.toList[j]? = some g ∧ g.dst = some s ∧ i.guard = some (s, want)) :
    Region.wanted o (yielded ops a.tmps) = wt := by
  rcases hg with ⟨h1, h2⟩ | ⟨j, want, g, s, h1, h2, h3, h4⟩
  · simp [Region.wanted, Ins.wanted, h1, h2] at hwt ⊢; exact hwt
  · rw [Array.getElem?_toList] at h2
    simp only [Ins.wanted, h4] at hwt
    simp only [Region.wanted, h1, yielded, h2, Option.bind_some, h3]
    have hv := hT s
    cases hs : a.tmps[s]? with
    | none =>
      have : a.tmps.getD s undef = undef := by simp [hs]
      rw [this] at hv
      generalize rd T s = r at hv hwt
      cases hv with
      | tuple c c' hc gc =>
        simp only at hwt
        split at hwt <;> cases hwt
        rfl
      | any v => cases hwt
      | opq v _ => cases hwt
    | some u =>
      have : a.tmps.getD s undef = u := by simp [hs]
      rw [this] at hv
      generalize rd T s = r at hv hwt
      cases hv with
      | bool q => simp only [Option.some.injEq] at hwt; subst hwt; cases q <;> cases want <;> rfl
      | tuple c c' hc gc =>
        simp only at hwt
        split at hwt <;> cases hwt
        rfl
      | _ => cases hwt

theorem sim_ins (hcl : ClOk P B0 w0 cl) {nt n b : Nat} {ops : Array Oper} {i : Ins} (hi : InsOk P nt ops n i) {s s1 : St} (he : evIns cl b i s = some s1) {β : Emb} {a : Act} {w : World} (hs : Sim B0 w0 ds nt (b + n) β s.T s.H a w)
    {K : Act → World → Prop} {Q : Exit → Act → World → Prop} (hK : ∀ β' a' w', β.le β' → Sim B0 w0 ds nt (b + n) β' s1.T s1.H a' w' → K a' w') : wpOp P ops Q i.idx K a w := by
  obtain ⟨o, i0, k, h1, h2, h3, h4, h5, h6⟩ := hi
  obtain ⟨c1, c2, c3, c4, c5⟩ := cIns_spec h2
  obtain ⟨v, H', hev, rfl⟩ := evIns_some he
  have hwant : ∀ wt, i.wanted s.T = some wt → Region.wanted o (yielded ops a.tmps) = wt := fun wt h => wanted_eq (i := i) hs.tr h (by rw [h4]; exact c5)
  have hdst : i.dst = o.dst := h3.trans c3
  have hlt : ∀ t, o.dst = some t → t < a.tmps.size := fun t ht => Nat.lt_of_lt_of_le (c1 t ht) hs.nt
  have hcls : ∀ g args H v H', cl g args H = some (v, H') → H.size ≤ H'.size := fun g args H v H' h => (hcl.c g args H v H' h).2.1
  unfold wpOp
  simp only [h1]
  rcases evW_some hev with ⟨hw, hex, _⟩ | ⟨hw, rfl, rfl⟩
  · rw [hwant _ hw]
    simp only [if_true]
    refine .inl ?_
    have hex0 : evI cl b s.T s.H i0.op = some (v, H') := by
      rcases h6 with e | ⟨k', e', s', by_, x, y, e1, e2⟩
      · rw [← e]; exact hex
      · rw [e1] at hex; rw [e2]
        simp only [evI] at hex ⊢
        exact append_pure hex
    have c2' : cI P k o.op = some i0.op := by
      rcases c2 with c2 | c2
      · exact c2
      · rw [c2] at hex0; simp [evI] at hex0
    refine sim_I hcl hs.rel hs.tr rfl c2' hex0 (fun hal => by have := h5 hal; have := hs.sz; omega) ?_
    intro β' v' w' hle hR hvr
    refine hK β' _ w' hle ⟨hR, ?_, by rw [size_put]; exact hs.nt, ?_, by rw [defers_put]; exact hs.df⟩
    · show TR β' (putT s.T i.dst v) _
      rw [hdst]
      exact (hs.tr.mono hle).put hlt hvr
    · exact Nat.le_trans hs.sz (evI_size hcls hex)
  · rw [hwant _ hw]
    simp only [Bool.false_eq_true, if_false]
    refine hK β _ w (Emb.le_refl β) ⟨hs.rel, ?_, by rw [size_put]; exact hs.nt, hs.sz, by rw [defers_put]; exact hs.df⟩
    show TR β (putT s.T i.dst undef) _
    rw [hdst]
    exact hs.tr.put hlt (.undef β)

theorem Sim.le {nt lo lo' : Nat} {β : Emb} {T : Tr Value} {H : Heap} {a : Act} {w : World} (h : Sim B0 w0 ds nt lo β T H a w) (hl : lo' ≤ lo) : Sim B0 w0 ds nt lo' β T H a w :=
  ⟨h.rel, h.tr, h.nt, Nat.le_trans hl h.sz, h.df⟩

theorem cList_spec {nt : Nat} {ops : Array Oper} : ∀ (l : List Oper) (idx k : Nat) (is : List Ins) (n : Nat), cList P nt ops.toList idx k l = some (is, n) → (∀ j, l[j]? = ops[idx + j]?) →
    k ≤ n ∧ is.length = l.length ∧ ∀ (j : Nat) (i : Ins), is[j]? = some i → i.idx = idx + j ∧ InsOk P nt ops n i := by
  intro l
  induction l with
  | nil => intro idx k is n h _; simp [cList] at h; obtain ⟨rfl, rfl⟩ := h; exact ⟨Nat.le_refl _, rfl, fun j i h => by simp at h⟩
  | cons o l ih =>
    intro idx k is n h hl
    simp only [cList] at h
    split at h
    · cases h
    rename_i i0 hi0
    split at h
    case h_2 => cases h
    rename_i r n' hr
    cases h
    obtain ⟨g1, g2, g3⟩ := ih (idx + 1) _ r n hr (fun j => by have := hl (j + 1); simpa [Nat.add_assoc, Nat.add_comm 1 j] using this)
    have hk : k ≤ n ∧ (i0.op.allocs = true → k < n) := by
      split at g1 <;> rename_i ha
      · exact ⟨by omega, fun _ => by omega⟩
      · exact ⟨g1, fun h => absurd h ha⟩
    refine ⟨hk.1, by simp [g2], fun j i hj => ?_⟩
    cases j with
    | zero =>
      simp at hj; subst hj
      have hidx := (cIns_spec hi0).2.2.2.1
      refine ⟨hidx, o, i0, k, ?_, by rw [hidx]; exact hi0, rfl, rfl, hk.2, .inl rfl⟩
      have := hl 0
      rw [hidx]; simpa using this.symm
    | succ j =>
      simp at hj
      obtain ⟨k1, k2⟩ := g3 j i hj
      exact ⟨by omega, k2⟩

theorem cList_spec' {nt : Nat} {ops : Array Oper} : ∀ (l : List Oper) (idx k : Nat) (is : List Ins) (n : Nat), cList P nt ops.toList idx k l = some (is, n) → (∀ j, l[j]? = if j < l.length then ops[idx + j]? else none) →
    k ≤ n ∧ is.length = l.length ∧ ∀ (j : Nat) (i : Ins), is[j]? = some i → i.idx = idx + j ∧ InsOk P nt ops n i := by
  intro l
  induction l with
  | nil => intro idx k is n h _; simp [cList] at h; obtain ⟨rfl, rfl⟩ := h; exact ⟨Nat.le_refl _, rfl, fun j i h => by simp at h⟩
  | cons o l ih =>
    intro idx k is n h hl
    simp only [cList] at h
    split at h
    · cases h
    rename_i i0 hi0
    split at h
    case h_2 => cases h
    rename_i r n' hr
    cases h
    obtain ⟨g1, g2, g3⟩ := ih (idx + 1) _ r n hr (fun j => by have := hl (j + 1); simpa [Nat.add_assoc, Nat.add_comm 1 j] using this)
    have hk : k ≤ n ∧ (i0.op.allocs = true → k < n) := by
      split at g1 <;> rename_i ha
      · exact ⟨by omega, fun _ => by omega⟩
      · exact ⟨g1, fun h => absurd h ha⟩
    refine ⟨hk.1, by simp [g2], fun j i hj => ?_⟩
    cases j with
    | zero =>
      simp at hj; subst hj
      have hidx := (cIns_spec hi0).2.2.2.1
      refine ⟨hidx, o, i0, k, ?_, by rw [hidx]; exact hi0, rfl, rfl, hk.2, .inl rfl⟩
      have := hl 0
      rw [hidx]; simpa using this.symm
    | succ j =>
      simp at hj
      obtain ⟨k1, k2⟩ := g3 j i hj
      exact ⟨by omega, k2⟩

theorem cList_ops {nt : Nat} {opsL : List Oper} : ∀ (l : List Oper) (idx k : Nat) (is : List Ins) (n : Nat), cList P nt opsL idx k l = some (is, n) →
    ∀ (j : Nat) (i : Ins), is[j]? = some i → ∃ k op, cI P k op = some i.op ∨ i.op = .stuck := by
  intro l
  induction l with
  | nil => intro idx k is n h; simp [cList] at h; obtain ⟨rfl, rfl⟩ := h; intro j i h; simp at h
  | cons o l ih =>
    intro idx k is n h
    simp only [cList] at h
    split at h
    · cases h
    rename_i i0 hi0
    split at h
    case h_2 => cases h
    rename_i r n' hr
    cases h
    intro j i hj
    cases j with
    | zero => simp at hj; subst hj; exact ⟨k, o.op, (cIns_spec hi0).2.1⟩
    | succ j => simp at hj; exact ih (idx + 1) _ r n hr j i hj

theorem seq_sim (hcl : ClOk P B0 w0 cl) {nt n b : Nat} {ops : Array Oper} {Q : Exit → Act → World → Prop} {fin : St} {rest : List Nat} : ∀ (is : List Ins) (idx : Nat) (s : St) (β : Emb) (a : Act) (w : World),
    (∀ (j : Nat) (i : Ins), is[j]? = some i → i.idx = idx + j ∧ InsOk P nt ops n i) → evSeq cl b is s = some fin → Sim B0 w0 ds nt (b + n) β s.T s.H a w →
    (∀ β' a' w', β.le β' → Sim B0 w0 ds nt (b + n) β' fin.T fin.H a' w' → wpOps P ops Q rest a' w') → wpOps P ops Q (List.range' idx is.length ++ rest) a w := by
  intro is
  induction is with
  | nil => intro idx s β a w _ h hs hQ; simp [evSeq] at h; subst h; exact hQ β a w (Emb.le_refl β) hs
  | cons i is ih =>
    intro idx s β a w hi h hs hQ
    simp only [evSeq] at h
    split at h
    case h_2 => cases h
    rename_i s1 e
    obtain ⟨hx, hok⟩ := hi 0 i rfl
    simp only [List.length_cons, List.range'_succ, List.cons_append]
    rw [wpOps_cons]
    have := sim_ins hcl hok e hs (Q := Q) (K := wpOps P ops Q (List.range' (idx + 1) is.length ++ rest)) (fun β' a' w' hle hs' =>
      ih (idx + 1) s1 β' a' w' (fun j i' hj => by obtain ⟨k1, k2⟩ := hi (j + 1) i' (by simpa using hj); exact ⟨by omega, k2⟩) h hs' (fun β2 a2 w2 h2 hs2 => hQ β2 a2 w2 (Emb.le_trans hle h2) hs2))
    have e2 : i.idx = idx := by omega
    rw [e2] at this
    exact this

end
end Go.Proofs.YtapkmhneneffdaaGreatDoor.Mx

/-! The text ZadM. -/
namespace Go.Proofs.YtapkmhneneffdaaGreatDoor.Mx
open Go

def direct (o : Oper) : List Nat := o.after.toList.filterMap fun e => if Region.binds .any e then some e.on else none

theorem mem_direct {o : Oper} {d : Nat} : d ∈ direct o ↔ ∃ e ∈ o.after, Region.binds .any e = true ∧ e.on = d := by
  unfold direct
  rw [List.mem_filterMap]
  constructor
  · rintro ⟨e, he, h⟩
    split at h
    · rename_i hb; cases h; exact ⟨e, by simpa using he, hb, rfl⟩
    · cases h
  · rintro ⟨e, he, hb, rfl⟩
    exact ⟨e, by simpa using he, by simp [hb]⟩

theorem before_spec : ∀ (l : List Oper) (acc : List (List Nat)),
    (∀ j, j < acc.length → (before acc l).getD j [] = acc.getD j []) ∧
    ∀ j o, l[j]? = some o → (∀ d ∈ direct o, d ∈ (before acc l).getD (acc.length + j) []) ∧
      ∀ e ∈ (before acc l).getD (acc.length + j) [], e ∈ direct o ∨ ∃ d ∈ direct o, e ∈ (before acc l).getD d [] := by
  intro l
  induction l with
  | nil => intro acc; exact ⟨fun j _ => rfl, fun j o h => by simp at h⟩
  | cons o l ih =>
    intro acc
    have hstep : before acc (o :: l) = before (acc ++ [(direct o ++ (direct o).flatMap fun d => acc.getD d []).eraseDups]) l := rfl
    obtain ⟨h1, h2⟩ := ih (acc ++ [(direct o ++ (direct o).flatMap fun d => acc.getD d []).eraseDups])
    rw [hstep]
    have hold : ∀ j, j < acc.length → (before (acc ++ [(direct o ++ (direct o).flatMap fun d => acc.getD d []).eraseDups]) l).getD j [] = acc.getD j [] := fun j hj => by
      rw [h1 j (by simp; omega)]
      simp [List.getD, List.getElem?_append_left hj]
    refine ⟨hold, fun j o' ho => ?_⟩
    cases j with
    | zero =>
      simp at ho; subst ho
      have hcur : (before (acc ++ [(direct o ++ (direct o).flatMap fun d => acc.getD d []).eraseDups]) l).getD (acc.length + 0) [] = (direct o ++ (direct o).flatMap fun d => acc.getD d []).eraseDups := by
        rw [h1 _ (by simp)]
        simp [List.getD]
      rw [hcur]
      refine ⟨fun d hd => by rw [List.mem_eraseDups]; exact List.mem_append_left _ hd, fun e he => ?_⟩
      rw [List.mem_eraseDups] at he
      rcases List.mem_append.1 he with he | he
      · exact .inl he
      · obtain ⟨d, hd, hed⟩ := List.mem_flatMap.1 he
        refine .inr ⟨d, hd, ?_⟩
        by_cases hlt : d < acc.length
        · rw [hold d hlt]; exact hed
        · rw [List.getD, List.getElem?_eq_none (by omega)] at hed; simp at hed
    | succ j =>
      simp at ho
      have := h2 j o' ho
      simp only [List.length_append, List.length_cons, List.length_nil] at this
      rw [show acc.length + (j + 1) = acc.length + (0 + 1) + j by omega]
      exact this

def Ordered (bef : List (List Nat)) (y x : Ins) : Prop := x.idx ∉ bef.getD y.idx [] ∧ y.idx ≠ x.idx ∧ (y.idx ∈ bef.getD x.idx [] ∨ comm y x = true)

theorem orderOk_spec {bef : List (List Nat)} : ∀ {l : List Ins}, orderOk bef l = true → l.Pairwise (Ordered bef) ∧ ∀ y ∈ l, y.idx ∉ bef.getD y.idx [] := by
  intro l
  induction l with
  | nil => intro _; exact ⟨.nil, by simp⟩
  | cons y l ih =>
    intro h
    simp only [orderOk, Bool.and_eq_true, List.all_eq_true] at h
    obtain ⟨⟨h1, h2⟩, h3⟩ := h
    obtain ⟨k1, k2⟩ := ih h3
    refine ⟨.cons (fun x hx => ?_) k1, fun z hz => ?_⟩
    · have := h2 x hx
      simp only [Bool.and_eq_true, Bool.or_eq_true, Bool.not_eq_true', bne_iff_ne, List.contains_iff_mem] at this
      refine ⟨by simpa using this.1.1, this.1.2, this.2⟩
    · rcases List.mem_cons.1 hz with rfl | hz
      · simpa using h1
      · exact k2 z hz

section
variable {P : Program} {B0 : Bs} {w0 : World} {ds : List Deferred} {cl : Nat → List Value → Heap → Option (Value × Heap)}

theorem cI_tgt {k : Nat} {op : Op} {i : I} (h : cI P k op = some i) : ∀ k', i.tgt = some k' → k' = k ∧ i.allocs = true := by
  intro k' hk
  cases op <;> simp only [cI] at h <;> (try (cases h; done)) <;>
    (repeat' (first
      | (cases h; done)
      | (split at h)
      | (simp only [Option.map_eq_some_iff] at h; obtain ⟨_, _, rfl⟩ := h)
      | (cases h))) <;> first
    | (simp [I.tgt] at hk; done)
    | (simp only [I.tgt, Option.some.injEq] at hk; exact ⟨hk.symm, rfl⟩)

theorem InsOk.tgt {nt n : Nat} {ops : Array Oper} {x : Ins} (h : InsOk P nt ops n x) : ∀ k, x.op.tgt = some k → k < n := by
  obtain ⟨o, i0, k, h1, h2, h3, h4, h5, h6⟩ := h
  intro k' hk'
  have h0 : i0.op.tgt = some k' := by
    rcases h6 with e | ⟨k2, e', s', by_, x', y', e1, e2⟩
    · rw [← e]; exact hk'
    · rw [e1] at hk'; rw [e2]; exact hk'
  rcases (cIns_spec h2).2.1 with hc | hc
  · obtain ⟨rfl, ha⟩ := cI_tgt hc k' h0
    exact h5 ha
  · rw [hc] at h0; simp [I.tgt] at h0

theorem InsOk.lessAll {nt n : Nat} {ops : Array Oper} {x : Ins} (h : InsOk P nt ops n x) (l : List Ins) : InsOk P nt ops n (x.lessAll l) := by
  obtain ⟨f1, f2, f3, f4⟩ := lessAll_fields x l
  obtain ⟨o, i0, k, h1, h2, h3, h4, h5, h6⟩ := h
  exact ⟨o, i0, k, by rw [f1]; exact h1, by rw [f1]; exact h2, by rw [f2]; exact h3, by rw [f3]; exact h4, h5, by rw [f4]; exact h6⟩

theorem any_sim (hcl : ClOk P B0 w0 cl) (hgd : ClGood cl) {nt n b : Nat} {ops : Array Oper} {bef : List (List Nat)} (hbef : bef = before [] ops.toList) (hbl : ∀ l ∈ bef, ∀ e ∈ l, e < ops.size) {Q : Exit → Act → World → Prop} (L : Option Nat) (m : Nat) :
    ∀ (fuel : Nat) (R : List Ins) (listed : Array Bool) (s fin : St) (β : Emb) (a : Act) (w : World), R.length = fuel → (∀ i ∈ R, InsOk P nt ops n i) → R.Pairwise (Ordered bef) → (∀ y ∈ R, y.idx ∉ bef.getD y.idx []) → listed.size = ops.size →
    (∀ j, j < ops.size → (listed.getD j true = false ↔ (j ∈ R.map (·.idx) ∨ L = some j))) → (∀ j, listed.getD j false = true → ∀ e ∈ bef.getD j [], listed.getD e false = true) →
    (∀ j, L = some j → ∀ y ∈ R, y.idx ∈ bef.getD j [] ∧ j ∉ bef.getD y.idx []) →
    evSeq cl b R s = some fin → Sim B0 w0 ds nt (b + n) β s.T s.H a w →
    (∀ β' a' w' listed', β.le β' → listed'.size = ops.size → (∀ j, j < ops.size → (listed'.getD j true = false ↔ L = some j)) → (∀ j, listed'.getD j false = true → ∀ e ∈ bef.getD j [], listed'.getD e false = true) → Sim B0 w0 ds nt (b + n) β' fin.T fin.H a' w' → wpAny P .any ops Q m listed' a' w') →
    wpAny P .any ops Q (fuel + m) listed a w := by
  have hsp := before_spec ops.toList []
  simp only [List.length_nil, Nat.zero_add] at hsp
  rw [← hbef] at hsp
  have hlt : ∀ j e, e ∈ bef.getD j [] → e < ops.size := fun j e he => by
    rw [List.getD] at he
    cases hq : bef[j]? with
    | none => rw [hq] at he; simp at he
    | some l => rw [hq] at he; exact hbl l (List.mem_of_getElem? hq) e he
  intro fuel
  induction fuel with
  | zero =>
    intro R listed s fin β a w hlen hok hord hself hsize hlist hclosed hLr hev hs hQ
    have : R = [] := List.length_eq_zero_iff.1 hlen
    subst this
    simp [evSeq] at hev; subst hev
    rw [Nat.zero_add]
    exact hQ β a w listed (Emb.le_refl β) hsize (fun j hj => by rw [hlist j hj]; simp) hclosed hs
  | succ fuel ih =>
    intro R listed s fin β a w hlen hok hord hself hsize hlist hclosed hLr hev hs hQ
    have getD_eq : ∀ j, j < ops.size → listed.getD j true = listed.getD j false := fun j hj => by
      have : j < listed.size := by omega
      simp [Array.getD, this]
    rw [show fuel + 1 + m = (fuel + m) + 1 by omega]
    refine ⟨fun hnil => ?_, fun i hi => ?_⟩
    · -- the first of the list is ready
      cases R with
      | nil => simp at hlen
      | cons y R =>
        exfalso
        obtain ⟨o, i0, k, h1, h2, _⟩ := hok y (List.mem_cons_self ..)
        have hylt : y.idx < ops.size := (Array.getElem?_eq_some_iff.1 h1).1
        have hy : y.idx ∈ Region.ready .any ops listed := by
          refine mem_ready.2 ⟨(hlist _ hylt).2 (.inl (by simp)), o, h1, fun e he hb => ?_⟩
          have hmem : e.on ∈ bef.getD y.idx [] := (hsp.2 y.idx o (by rw [Array.getElem?_toList]; exact h1)).1 _ (mem_direct.2 ⟨e, he, hb, rfl⟩)
          have hel := hlt _ _ hmem
          rw [← getD_eq _ hel]
          cases hv : listed.getD e.on true with
          | true => rfl
          | false =>
            exfalso
            have := (hlist _ hel).1 hv
            simp only [List.map_cons, List.mem_cons, List.mem_map] at this
            rcases this with (h | ⟨x, hx, h⟩) | h
            · exact hself y (List.mem_cons_self ..) (by rw [h] at hmem; exact hmem)
            · exact ((List.pairwise_cons.1 hord).1 x hx).1 (by rw [h]; exact hmem)
            · exact (hLr _ h y (List.mem_cons_self ..)).2 hmem
        rw [hnil] at hy
        simp at hy
    · obtain ⟨h0, o, ho, hall⟩ := mem_ready.1 hi
      have hil : i < ops.size := (Array.getElem?_eq_some_iff.1 ho).1
      -- what i must come behind has been done
      have hdone0 : ∀ e ∈ bef.getD i [], listed.getD e false = true := by
        intro e he
        rcases (hsp.2 i o (by rw [Array.getElem?_toList]; exact ho)).2 e he with h | ⟨d, hd, hed⟩
        · obtain ⟨ed, h1, h2, rfl⟩ := mem_direct.1 h
          exact hall ed h1 h2
        · obtain ⟨ed, h1, h2, rfl⟩ := mem_direct.1 hd
          exact hclosed _ (hall ed h1 h2) e hed
      rcases (hlist i hil).1 h0 with hiR | hiL
      rotate_left
      · exfalso
        cases R with
        | nil => simp at hlen
        | cons y R =>
          have h1 := (hLr i hiL y (List.mem_cons_self ..)).1
          have hyl := hlt _ _ h1
          have h2 := (hlist _ hyl).2 (.inl (by simp))
          rw [getD_eq _ hyl, hdone0 _ h1] at h2
          cases h2
      obtain ⟨x, hx, rfl⟩ := List.mem_map.1 hiR
      obtain ⟨l1, l2, rfl⟩ := List.append_of_mem hx
      have hdone := hdone0
      have hcomm : ∀ y ∈ l1, comm y x = true := by
        intro y hy
        have := (List.pairwise_append.1 hord).2.2 y hy x (List.mem_cons_self ..)
        rcases this.2.2 with h | h
        · exfalso
          have h1 := hdone _ h
          have hyl : y.idx < ops.size := hlt _ _ h
          have h2 := (hlist _ hyl).2 (.inl (List.mem_map.2 ⟨y, by simp [hy], rfl⟩))
          rw [getD_eq _ hyl, h1] at h2
          cases h2
        · exact h
      have hnd : (l1.map (·.idx)).Nodup := by
        have hp : l1.Pairwise (Ordered bef) := (List.pairwise_append.1 hord).1
        rw [List.Nodup, List.pairwise_map]
        exact hp.imp (fun h => h.2.1)
      obtain ⟨s1, fin', g1, g2, g3, g4⟩ := bubble hgd l1 s fin hcomm hnd (fun k hk => by have := (hok x hx).tgt k hk; have := hs.sz; omega) hev
      rw [← g3, ← g4] at hQ
      have hidx := (lessAll_fields x l1).1
      rw [← hidx]
      refine sim_ins hcl ((hok x hx).lessAll l1) g1 hs (fun β' a' w' hle hs' => ?_)
      rw [hidx]
      have hsub : (l1 ++ l2).Sublist (l1 ++ x :: l2) := by
        apply List.Sublist.append (List.Sublist.refl _) (List.sublist_cons_self _ _)
      have hxn : x.idx ∉ (l1 ++ l2).map (·.idx) := by
        intro h
        obtain ⟨z, hz, hzx⟩ := List.mem_map.1 h
        rcases List.mem_append.1 hz with hz | hz
        · exact ((List.pairwise_append.1 hord).2.2 z hz x (List.mem_cons_self ..)).2.1 hzx
        · exact ((List.pairwise_cons.1 (List.pairwise_append.1 hord).2.1).1 z hz).2.1 hzx.symm
      have hxL : L ≠ some x.idx := fun e => by
        have := (hLr _ e x hx).1
        exact hself x hx this
      refine ih (l1 ++ l2) (listed.setIfInBounds x.idx true) s1 fin' β' a' w' (by simp at hlen ⊢; omega) (fun i hi => hok i (hsub.subset hi)) (hord.sublist hsub) (fun y hy => hself y (hsub.subset hy)) (by simpa using hsize) (fun j hj => ?_) (fun j hj e he => ?_) (fun j hj y hy => hLr j hj y (hsub.subset hy)) g2 hs'
        (fun β2 a2 w2 li h2 q1 q2 q3 hs2 => hQ β2 a2 w2 li (Emb.le_trans hle h2) q1 q2 q3 hs2)
      · by_cases hjx : j = x.idx
        · subst hjx
          have : x.idx < listed.size := by omega
          constructor
          · intro h; simp [this] at h
          · rintro (h | h)
            · exact absurd h hxn
            · exact absurd h hxL
        · rw [getD_set_ne true (Ne.symm hjx), hlist j hj]
          simp only [List.map_append, List.map_cons, List.mem_append, List.mem_cons]
          constructor
          · rintro ((h | h | h) | h)
            · exact .inl (.inl h)
            · exact absurd h hjx
            · exact .inl (.inr h)
            · exact .inr h
          · rintro ((h | h) | h)
            · exact .inl (.inl h)
            · exact .inl (.inr (.inr h))
            · exact .inr h
      · apply getD_set_true
        by_cases hjx : j = x.idx
        · rw [hjx] at he; exact hdone e he
        · rw [getD_set_ne false (Ne.symm hjx)] at hj; exact hclosed j hj e he

theorem setPure_spec (bef : List (List Nat)) (all : List Ins) (i : Ins) : (setPure bef all i).idx = i.idx ∧ (setPure bef all i).dst = i.dst ∧ (setPure bef all i).guard = i.guard ∧
    ((∀ k e s b x y, i.op ≠ .append k e s b true x y) → (setPure bef all i).op = i.op ∨ ∃ k e s by_ x y, (setPure bef all i).op = .append k e s by_ true x y ∧ i.op = .append k e s by_ false x y) := by
  unfold setPure
  split
  · rename_i k e s b b0 x y ho
    refine ⟨rfl, rfl, rfl, fun hn => ?_⟩
    cases b0 with
    | true => exact absurd ho (hn _ _ _ _ _ _)
    | false =>
      simp only
      generalize (all.all _) = lone
      cases lone
      · exact .inr ⟨k, e, s, b, x, y, rfl, ho⟩
      · exact .inl (by rw [ho]; rfl)
  · exact ⟨rfl, rfl, rfl, fun _ => .inl rfl⟩

theorem setChk_mem {bef : List (List Nat)} : ∀ {l seen : List Ins} {i : Ins}, i ∈ setChk bef seen l → ∃ i' ∈ l, i.idx = i'.idx ∧ i.dst = i'.dst ∧ i.guard = i'.guard ∧ i.op = i'.op := by
  intro l
  induction l with
  | nil => intro seen i h; simp [setChk] at h
  | cons x l ih =>
    intro seen i h
    simp only [setChk] at h
    rcases List.mem_cons.1 h with rfl | h
    · refine ⟨x, List.mem_cons_self .., ?_⟩
      split
      · exact ⟨rfl, rfl, rfl, rfl⟩
      · split <;> exact ⟨rfl, rfl, rfl, rfl⟩
      · exact ⟨rfl, rfl, rfl, rfl⟩
    · obtain ⟨i', h1, h2⟩ := ih h
      exact ⟨i', List.mem_cons_of_mem _ h1, h2⟩

theorem cI_notPure {k : Nat} {op : Op} {i : I} (h : cI P k op = some i) : ∀ k e s b x y, i ≠ .append k e s b true x y := by
  intro k' e' s' b' x' y' hi
  subst hi
  cases op <;> simp only [cI] at h <;> (try (cases h; done)) <;>
    (repeat' (first | (cases h; done) | (split at h) | (simp at h; done)))

theorem setLg_mem {l : List Ins} {i : Ins} (h : i ∈ setLg l) : ∃ i' ∈ l, i.idx = i'.idx ∧ i.dst = i'.dst ∧ i.guard = i'.guard ∧ i.op = i'.op := by
  unfold setLg at h
  obtain ⟨i', h1, rfl⟩ := List.mem_map.1 h
  exact ⟨i', h1, rfl, rfl, rfl, rfl⟩

/-- What a planned order has. -/
theorem planned_spec {nt m : Nat} {ops : Array Oper} {l : List Oper} {is l' : List Ins} {n : Nat} (hpre : ∀ (j : Nat), l[j]? = if j < l.length then ops[0 + j]? else none) (hl : l.length = m) (hm : m ≤ ops.size) (hc : cList P nt ops.toList 0 0 l = some (is, n)) (hp : planned m ops.toList is = some l') :
    (∀ i ∈ l', InsOk P nt ops n i) ∧ l'.Pairwise (Ordered (before [] ops.toList)) ∧ (∀ y ∈ l', y.idx ∉ (before [] ops.toList).getD y.idx []) ∧ (∀ j, j < m → j ∈ l'.map (·.idx)) ∧ (∀ i ∈ l', i.idx < m) ∧ (∀ l ∈ before [] ops.toList, ∀ e ∈ l, e < ops.size) ∧ l'.length = m := by
  obtain ⟨_, g2, g3⟩ := cList_spec' l 0 0 is n hc hpre
  unfold planned at hp
  simp only at hp
  split at hp
  case isFalse => cases hp
  rename_i hcond
  cases hp
  obtain ⟨p1, p2, p3, p4⟩ := hcond
  obtain ⟨o1, o2⟩ := orderOk_spec p4
  have hok : ∀ i ∈ setLg (setChk (before [] ops.toList) [] ((planOrder (before [] ops.toList) ((is.map (setPure (before [] ops.toList) is)).map fun i => i.op.cls)).filterMap fun i => (is.map (setPure (before [] ops.toList) is))[i]?)), InsOk P nt ops n i := by
    intro i hi0
    obtain ⟨i2, hi, d1, d2, d3, d4⟩ := setLg_mem hi0
    obtain ⟨i1, h1, e1, e2, e3, e4⟩ := setChk_mem hi
    obtain ⟨j, _, hj⟩ := List.mem_filterMap.1 h1
    rw [List.getElem?_map] at hj
    cases hq : is[j]? with
    | none => rw [hq] at hj; cases hj
    | some i0 =>
      rw [hq] at hj; cases hj
      obtain ⟨hidx, o, i00, k, q1, q2, q3, q4, q5, q6⟩ := g3 j i0 hq
      obtain ⟨f1, f2, f3, f4⟩ := setPure_spec (before [] ops.toList) is i0
      have hnp : ∀ k e s b x y, i00.op ≠ .append k e s b true x y := by
        rcases (cIns_spec q2).2.1 with h | h
        · exact cI_notPure h
        · rw [h]; intros; simp
      have hsame : i0.op = i00.op := by
        rcases q6 with h | ⟨k', e', s', b', x', y', h, h'⟩
        · exact h
        · exfalso
          -- the list as compiled has no such operation
          obtain ⟨k2, op2, hmem⟩ := cList_ops l 0 0 is n hc j i0 hq
          rcases hmem with hmem | hmem
          · exact cI_notPure hmem _ _ _ _ _ _ h
          · rw [hmem] at h; cases h
      have f4' := f4 (by rw [hsame]; exact hnp)
      exact ⟨o, i00, k, by rw [d1, e1, f1]; exact q1, by rw [d1, e1, f1]; exact q2, by rw [d2, e2, f2]; exact q3, by rw [d3, e3, f3]; exact q4, q5, by rw [d4, e4]; rw [hsame] at f4'; exact f4'⟩
  have hcover : ∀ j, j < m → j ∈ (setLg (setChk (before [] ops.toList) [] ((planOrder (before [] ops.toList) ((is.map (setPure (before [] ops.toList) is)).map fun i => i.op.cls)).filterMap fun i => (is.map (setPure (before [] ops.toList) is))[i]?))).map (·.idx) := by
    intro j hj
    have := List.all_eq_true.1 p1 j (by simpa using hj)
    simpa using this
  have hbound : ∀ i ∈ setLg (setChk (before [] ops.toList) [] ((planOrder (before [] ops.toList) ((is.map (setPure (before [] ops.toList) is)).map fun i => i.op.cls)).filterMap fun i => (is.map (setPure (before [] ops.toList) is))[i]?)), i.idx < m := by
    intro i hi
    have := List.all_eq_true.1 p2 i hi
    simpa using this
  refine ⟨hok, o1, o2, hcover, hbound, fun l hl e he => ?_, ?_⟩
  · have := List.all_eq_true.1 (List.all_eq_true.1 p3 l hl) e he
    simpa using this
  · have hnd : ((setLg (setChk (before [] ops.toList) [] ((planOrder (before [] ops.toList) ((is.map (setPure (before [] ops.toList) is)).map fun i => i.op.cls)).filterMap fun i => (is.map (setPure (before [] ops.toList) is))[i]?))).map (·.idx)).Nodup := by
      rw [List.Nodup, List.pairwise_map]
      exact o1.imp (fun h => h.2.1)
    have hperm := (List.perm_ext_iff_of_nodup hnd (List.nodup_range (n := m))).2 (fun j => by
      rw [List.mem_range]
      constructor
      · intro h; obtain ⟨i, hi, rfl⟩ := List.mem_map.1 h; exact hbound i hi
      · exact hcover j)
    have := hperm.length_eq
    simpa using this

theorem region_draw_sim (hcl : ClOk P B0 w0 (noP cl)) (hgd : ClGood (noP cl)) (hm : P.follows .mixedOrders = true) {nt n : Nat} {ops : Array Oper} {is l' : List Ins} (hc : cList P nt ops.toList 0 0 ops.toList = some (is, n)) (hp : planned ops.toList.length ops.toList is = some l') {id : Nat} {Q : Exit → Act → World → Prop} {T T' : Tr Value} {H H' : Heap}
    {n0 : Nat} (hev : evC cl n0 (.region n l') T H = some (.normal, T', H')) {β : Emb} {a : Act} {w : World} {lo : Nat} (hs : Sim B0 w0 ds nt lo β T H a w) (hQ : ∀ β' a' w', β.le β' → Sim B0 w0 ds nt lo β' T' H' a' w' → Q .normal a' w') : (Code.region id ops true).wp P Q a w := by
  obtain ⟨hok, o1, o2, hcover, hbound, hbl, hlen⟩ := planned_spec (fun j => by
    by_cases h : j < ops.size
    · simp [h]
    · simp [h]) rfl (by simp) hc hp
  simp only [evC] at hev
  split at hev
  case h_2 => cases hev
  rename_i fin hseq
  cases hev
  refine wp_region_any hm ?_
  have hsz : ops.toList.length = ops.size := by simp
  rw [hsz] at hcover hbound hlen
  have := any_sim (Q := Q) hcl hgd rfl hbl none 0 ops.size l' (Array.replicate ops.size false) ⟨T, Heap.ext n H, .nil⟩ fin β a { w with drawn := w.drawn + 1 } hlen hok o1 o2 (by simp) (fun j hj => by simp [hj]; simpa using hcover j hj) (fun j hj e he => by
      exfalso
      by_cases hlt : j < ops.size
      · simp [hlt] at hj
      · simp [hlt] at hj) (fun j h => by cases h) hseq
    ⟨⟨hs.rel.toRel.ext n, hs.rel.os, hs.rel.tape, hs.rel.output⟩, hs.tr, hs.nt, by rw [Heap.size_ext]; exact Nat.le_refl _, hs.df⟩ (fun β' a' w' li hle q1 q2 _ hs' => by
      refine ⟨?_, hQ β' a' w' hle (hs'.le (by have := hs.sz; omega))⟩
      rw [List.eq_nil_iff_forall_not_mem]
      intro j hj
      obtain ⟨h0, o, ho, _⟩ := mem_ready.1 hj
      have := (q2 j (Array.getElem?_eq_some_iff.1 ho).1).1 h0
      cases this)
  exact this

/-- A region of an open order whose last operation stands apart. -/
theorem region_last_sim (hcl : ClOk P B0 w0 (noP cl)) (hgd : ClGood (noP cl)) (hm : P.follows .mixedOrders = true) {nt n : Nat} {ops : Array Oper} {is l' : List Ins} (hne : 0 < ops.size) (hlast : lastOk ops.toList = true) (hc : cList P nt ops.toList 0 0 ops.toList.dropLast = some (is, n)) (hp : planned (ops.toList.length - 1) ops.toList is = some l') {id : Nat} {Q : Exit → Act → World → Prop} {T T' : Tr Value} {H H' : Heap}
    {n0 : Nat} (hev : evC cl n0 (.region n l') T H = some (.normal, T', H')) {β : Emb} {a : Act} {w : World} {lo : Nat} (hs : Sim B0 w0 ds nt lo β T H a w) (hQ : ∀ β' a' w', β.le β' → Sim B0 w0 ds nt lo β' T' H' a' w' → wpOp P ops Q (ops.size - 1) (Q .normal) a' w') : (Code.region id ops true).wp P Q a w := by
  have hsz : ops.toList.length = ops.size := by simp
  obtain ⟨hok, o1, o2, hcover, hbound, hbl, hlen⟩ := planned_spec (m := ops.toList.length - 1) (fun j => by
    by_cases h : j < ops.size - 1
    · simp [List.getElem?_dropLast, h]
    · simp [List.getElem?_dropLast, h]) (by simp) (by simp) hc hp
  simp only [evC] at hev
  split at hev
  case h_2 => cases hev
  rename_i fin hseq
  cases hev
  refine wp_region_any hm ?_
  rw [hsz] at hcover hbound hlen
  simp only [lastOk, Bool.and_eq_true, List.all_eq_true, List.mem_range, List.contains_iff_mem, Bool.not_eq_true', hsz] at hlast
  obtain ⟨la1, la2⟩ := hlast
  have la2' : ∀ j, j < ops.size → ops.size - 1 ∉ (before [] ops.toList).getD j [] := fun j hj h => by
    have := la2 j hj
    rw [← Bool.not_eq_true, List.contains_iff_mem] at this
    exact this h
  have := any_sim (Q := Q) hcl hgd rfl hbl (some (ops.size - 1)) 1 (ops.size - 1) l' (Array.replicate ops.size false) ⟨T, Heap.ext n H, .nil⟩ fin β a { w with drawn := w.drawn + 1 } hlen hok o1 o2 (by simp) (fun j hj => by
      simp [hj]
      by_cases h : j < ops.size - 1
      · exact .inl (by simpa using hcover j h)
      · exact .inr (by omega)) (fun j hj e he => by
      exfalso
      by_cases hlt : j < ops.size
      · simp [hlt] at hj
      · simp [hlt] at hj) (fun j h y hy => by
        cases h
        have hyl := hbound y hy
        exact ⟨la1 _ hyl, la2' _ (by omega)⟩) hseq
    ⟨⟨hs.rel.toRel.ext n, hs.rel.os, hs.rel.tape, hs.rel.output⟩, hs.tr, hs.nt, by rw [Heap.size_ext]; exact Nat.le_refl _, hs.df⟩ (fun β' a' w' li hle q1 q2 q3 hs' => by
      have hfin := hQ β' a' w' hle (hs'.le (by have := hs.sz; omega))
      have gd : ∀ j, j < ops.size → li.getD j true = li.getD j false := fun j hj => by
        have : j < li.size := by omega
        simp [Array.getD, this]
      refine ⟨fun hnil => ?_, fun i hi => ?_⟩
      · exfalso
        obtain ⟨o, ho⟩ : ∃ o, ops[ops.size - 1]? = some o := ⟨_, Array.getElem?_eq_getElem (by omega)⟩
        have : ops.size - 1 ∈ Region.ready .any ops li := by
          refine mem_ready.2 ⟨(q2 _ (by omega)).2 rfl, o, ho, fun e he hb => ?_⟩
          have hsp := before_spec ops.toList []
          simp only [List.length_nil, Nat.zero_add] at hsp
          have hmem : e.on ∈ (before [] ops.toList).getD (ops.size - 1) [] := (hsp.2 _ o (by rw [Array.getElem?_toList]; exact ho)).1 _ (mem_direct.2 ⟨e, he, hb, rfl⟩)
          have hel : e.on < ops.size := by
            rw [List.getD] at hmem
            cases hq : (before [] ops.toList)[ops.size - 1]? with
            | none => rw [hq] at hmem; simp at hmem
            | some l => rw [hq] at hmem; exact hbl l (List.mem_of_getElem? hq) _ hmem
          rw [← gd _ hel]
          cases hv : li.getD e.on true with
          | true => rfl
          | false =>
            exfalso
            have := (q2 _ hel).1 hv
            have e0 : e.on = ops.size - 1 := by simpa using this.symm
            rw [e0] at hmem
            exact la2' _ (by omega) hmem
        rw [hnil] at this
        simp at this
      · obtain ⟨h0, o, ho, hall⟩ := mem_ready.1 hi
        have hil : i < ops.size := (Array.getElem?_eq_some_iff.1 ho).1
        have e0 : i = ops.size - 1 := by
          have := (q2 i hil).1 h0
          simpa using this.symm
        subst e0
        refine wpOp_mono (fun a2 w2 h => ⟨?_, h⟩) hfin
        rw [List.eq_nil_iff_forall_not_mem]
        intro j hj
        obtain ⟨h0, o, ho, _⟩ := mem_ready.1 hj
        have hjl := (Array.getElem?_eq_some_iff.1 ho).1
        by_cases hje : j = ops.size - 1
        · subst hje
          have : ops.size - 1 < li.size := by omega
          simp [this] at h0
        · rw [getD_set_ne true (fun e => hje e.symm)] at h0
          have := (q2 j hjl).1 h0
          exact hje (by simpa using this.symm))
  rw [show ops.size - 1 + 1 = ops.size by omega] at this
  exact this

end
end Go.Proofs.YtapkmhneneffdaaGreatDoor.Mx

/-! The text ZadU. -/
namespace Go.Proofs.YtapkmhneneffdaaGreatDoor.Mx
open Go

section
variable {cl : Nat → List Value → Heap → Option (Value × Heap)}

theorem evSeq_size (hcl : ∀ g args H v H', cl g args H = some (v, H') → H.size ≤ H'.size) {b : Nat} : ∀ (l : List Ins) (s s' : St), evSeq cl b l s = some s' → s.H.size ≤ s'.H.size := by
  intro l
  induction l with
  | nil => intro s s' h; simp [evSeq] at h; subst h; exact Nat.le_refl _
  | cons i l ih =>
    intro s s' h
    simp only [evSeq] at h
    split at h
    case h_2 => cases h
    rename_i s1 e
    have h2 := ih s1 s' h
    obtain ⟨v, H, hev, rfl⟩ := evIns_some e
    rcases evW_some hev with ⟨_, hex, _⟩ | ⟨_, _, rfl⟩
    · exact Nat.le_trans (evI_size hcl hex) h2
    · exact h2

theorem noP_some {cl : Nat → List Value → Heap → Option (Value × Heap)} {g : Nat} {args : List Value} {H : Heap} {v : Value} {H' : Heap} : noP cl g args H = some (v, H') ↔ cl g args H = some (v, H') ∧ isPan v = none := by
  unfold noP
  cases hq : cl g args H with
  | none => simp
  | some r =>
    obtain ⟨u, X⟩ := r
    simp only
    cases hp : isPan u with
    | none => simp only [Option.some.injEq, Prod.mk.injEq]; constructor
              · rintro ⟨rfl, rfl⟩; exact ⟨⟨rfl, rfl⟩, hp⟩
              · rintro ⟨⟨rfl, rfl⟩, _⟩; exact ⟨rfl, rfl⟩
    | some x => simp only [Option.some.injEq, Prod.mk.injEq, false_iff, reduceCtorEq]; rintro ⟨⟨rfl, rfl⟩, h⟩; rw [hp] at h; cases h

theorem ClGood.noP {cl : Nat → List Value → Heap → Option (Value × Heap)} (h : ClGood cl) : ClGood (noP cl) :=
  ⟨fun g args H v H' e => h.size _ _ _ _ _ (noP_some.1 e).1, fun g args H v H' j e => h.back _ _ _ _ _ j (noP_some.1 e).1,
    fun g args H v H' j o e hj hs => ⟨(h.put _ _ _ _ _ j o (noP_some.1 e).1 hj hs).1, noP_some.2 ⟨(h.put _ _ _ _ _ j o (noP_some.1 e).1 hj hs).2, (noP_some.1 e).2⟩⟩⟩

theorem evC_size (hcl : ∀ g args H v H', cl g args H = some (v, H') → H.size ≤ H'.size) {n : Nat} : ∀ (c : Cd) (T : Tr Value) (H : Heap) (ex : Ex) (T' : Tr Value) (H' : Heap), evC cl n c T H = some (ex, T', H') → H.size ≤ H'.size := by
  intro c
  induction c with
  | skip => intro T H ex T' H' h; simp only [evC] at h; cases h; exact Nat.le_refl _
  | region na ops =>
    intro T H ex T' H' h
    simp only [evC] at h
    split at h
    case h_2 => cases h
    rename_i s e
    cases h
    have := evSeq_size (fun g args H v H' h => hcl _ _ _ _ _ (noP_some.1 h).1) _ _ _ e
    simp only [Heap.size_ext] at this
    omega
  | seq a b iha ihb =>
    intro T H ex T' H' h
    simp only [evC] at h
    split at h
    · rename_i T1 H1 e
      exact Nat.le_trans (iha _ _ _ _ _ e) (ihb _ _ _ _ _ h)
    · exact iha _ _ _ _ _ h
  | cond x a b iha ihb =>
    intro T H ex T' H' h
    simp only [evC] at h
    split at h
    case h_2 => cases h
    rename_i t _
    cases t
    · exact ihb _ _ _ _ _ h
    · exact iha _ _ _ _ _ h
  | block id c ih =>
    intro T H ex T' H' h
    simp only [evC] at h
    split at h
    · rename_i id' T1 H1 e
      have := ih _ _ _ _ _ e
      cases hq : id' == id <;> rw [hq] at h <;> cases h <;> exact this
    · exact ih _ _ _ _ _ h
  | loop c ih =>
    intro T H ex T' H' h
    simp only [evC] at h
    have key : ∀ m T H, iter (fun T H => evC cl n c T H) m T H = some (ex, T', H') → H.size ≤ H'.size := by
      intro m
      induction m with
      | zero => intro T H h; simp [iter] at h
      | succ m ihm =>
        intro T H h
        simp only [iter] at h
        split at h
        · rename_i T1 H1 e
          exact Nat.le_trans (ih _ _ _ _ _ e) (ihm _ _ h)
        · exact ih _ _ _ _ _ h
    exact key n T H h
  | exit id => intro T H ex T' H' h; simp only [evC] at h; cases h; exact Nat.le_refl _
  | ret => intro T H ex T' H' h; simp only [evC] at h; cases h; exact Nat.le_refl _
  | callp d f as =>
    intro T H ex T' H' h
    simp only [evC] at h
    split at h
    case h_2 => cases h
    split at h
    case h_2 => cases h
    rename_i v H1 e
    have := hcl _ _ _ _ _ e
    split at h <;> cases h <;> exact this
  | panic x =>
    intro T H ex T' H' h
    simp only [evC] at h
    split at h <;> cases h
    exact Nat.le_refl _

theorem put_put (H : Heap) {j id : Nat} {o x : Ob} (h : j ≠ id) : (H.put j o).put id x = (H.put id x).put j o := Heap.put_comm H id j x o (fun e => h e.symm)

theorem new_at {H H' : Heap} {id j : Nat} {x o : Ob} (h : H.new id x = some H') (hj : H.get j = some .pend) (hne : j ≠ id) : H'.get j = some .pend ∧ (H.put j o).new id x = some (H'.put j o) := by
  obtain ⟨h1, rfl⟩ := new_spec h
  refine ⟨by rw [Heap.get_put, if_neg (fun e => hne e.symm)]; exact hj, ?_⟩
  have : (H.put j o).get id = some .pend := by rw [Heap.get_put, if_neg hne]; exact h1
  simp only [Heap.new, this]
  rw [put_put H hne]

theorem new_map_at {α : Type} {H H' : Heap} {id j : Nat} {x o : Ob} {v : α} (h : (H.new id x).map (fun H => (v, H)) = some (v, H')) (hj : H.get j = some .pend) (hne : j ≠ id) :
    H'.get j = some .pend ∧ ((H.put j o).new id x).map (fun H => (v, H)) = some (v, H'.put j o) := by
  cases hn : H.new id x with
  | none => rw [hn] at h; cases h
  | some H1 =>
    rw [hn] at h
    cases h
    obtain ⟨h1, h2⟩ := new_at (o := o) hn hj hne
    exact ⟨h1, by rw [h2]; rfl⟩

theorem store_at {H H' : Heap} {n : Nat} {a x : Value} {j : Nat} {o : Ob} (h : H.storev n a x = some H') (hj : H.get j = some .pend) : H'.get j = some .pend ∧ (H.put j o).storev n a x = some (H'.put j o) := by
  unfold Heap.storev at h ⊢
  split at h
  case h_2 => cases h
  rename_i id off
  split at h
  case h_2 => cases h
  rename_i e cs hg
  split at h
  case isFalse => cases h
  rename_i hc
  cases h
  have hne : j ≠ id := by intro e; subst e; rw [hj] at hg; cases hg
  refine ⟨by rw [Heap.get_put, if_neg (fun e => hne e.symm)]; exact hj, ?_⟩
  simp only [Heap.get_put, if_neg hne, hg]
  rw [if_pos hc, put_put H hne]

theorem clear_at {H H' : Heap} {s : Nat} {z : List Value} {x : Value} {j : Nat} {o : Ob} (h : H.clear s z x = some H') (hj : H.get j = some .pend) : H'.get j = some .pend ∧ (H.put j o).clear s z x = some (H'.put j o) := by
  unfold Heap.clear at h ⊢
  split at h
  · cases h; exact ⟨hj, rfl⟩
  · rename_i id off _ len _
    split at h
    · rename_i h0; cases h; exact ⟨hj, by simp [h0]⟩
    · rename_i h0
      split at h
      case h_2 => cases h
      rename_i e cs hg
      split at h
      case isFalse => cases h
      rename_i hc
      cases h
      have hne : j ≠ id := by intro e; subst e; rw [hj] at hg; cases hg
      refine ⟨by rw [Heap.get_put, if_neg (fun e => hne e.symm)]; exact hj, ?_⟩
      simp only [h0, if_false, Heap.get_put, if_neg hne, hg]
      rw [if_pos hc, put_put H hne]
  · cases h

theorem copy_at {H H' : Heap} {s : Nat} {x y v : Value} {j : Nat} {o : Ob} (h : H.copy s x y = some (v, H')) (hj : H.get j = some .pend) : H'.get j = some .pend ∧ (H.put j o).copy s x y = some (v, H'.put j o) := by
  unfold Heap.copy at h ⊢
  split at h
  case isFalse => cases h
  rename_i hs
  rw [if_pos hs]
  cases hr : H.row s y with
  | none => rw [hr] at h; cases h
  | some r =>
    obtain ⟨n, new⟩ := r
    rw [row_put hr hj]
    rw [hr] at h
    split at h
    · cases h; exact ⟨hj, rfl⟩
    · rename_i n0 new0 id off mk len cap heq
      cases heq
      split at h
      · rename_i h0; cases h; exact ⟨hj, by simp [h0]⟩
      · rename_i h0
        split at h
        case h_2 => cases h
        rename_i e cs hg
        split at h
        case isFalse => cases h
        rename_i hc
        cases h
        have hne : j ≠ id := by intro e; subst e; rw [hj] at hg; cases hg
        refine ⟨by rw [Heap.get_put, if_neg (fun e => hne e.symm)]; exact hj, ?_⟩
        simp only [h0, if_false, Heap.get_put, if_neg hne, hg]
        rw [if_pos hc, put_put H hne]
    · cases h

theorem append_at {H H' : Heap} {id e s by_ : Nat} {p : Bool} {x y v : Value} {j : Nat} {o : Ob} (h : H.append id e s by_ p x y = some (v, H')) (hj : H.get j = some .pend) (hne : j ≠ id) :
    H'.get j = some .pend ∧ (H.put j o).append id e s by_ p x y = some (v, H'.put j o) := by
  unfold Heap.append at h ⊢
  cases hr : H.row s y with
  | none => rw [hr] at h; cases h
  | some r =>
    obtain ⟨n, new⟩ := r
    rw [row_put hr hj]
    rw [hr] at h
    simp only at h ⊢
    split at h
    · split at h
      · rename_i h0; cases h; exact ⟨hj, by simp [h0]⟩
      · rename_i h0
        split at h
        case isFalse => cases h
        rename_i hb
        simp only [h0, if_false, hb, and_self, if_true]
        cases hn : H.new id (.cells e false new) with
        | none => rw [hn] at h; cases h
        | some H1 =>
          rw [hn] at h; cases h
          obtain ⟨h1, h2⟩ := new_at (o := o) hn hj hne
          exact ⟨h1, by rw [h2]; rfl⟩
    · rename_i oo off ek len cap
      split at h
      · rename_i h0; cases h; exact ⟨hj, by simp [h0]⟩
      rename_i h0
      rw [if_neg h0]
      split at h
      · cases h
      rename_i hek
      rw [if_neg hek]
      split at h
      · rename_i hfit
        simp only [hfit, if_true]
        split at h
        · cases h
        rename_i hp
        simp only [hp, Bool.false_eq_true, if_false]
        split at h
        case h_2 => cases h
        rename_i e1 cs hg
        split at h
        case isFalse => cases h
        rename_i hc
        cases h
        have hno : j ≠ oo := by intro e; subst e; rw [hj] at hg; cases hg
        refine ⟨by rw [Heap.get_put, if_neg (fun e => hno e.symm)]; exact hj, ?_⟩
        simp only [Heap.get_put, if_neg hno, hg]
        rw [if_pos hc, put_put H hno]
      · rename_i hfit
        simp only [hfit, if_false]
        cases hr2 : H.row s (.slice (some ⟨oo, off, some ek⟩) len cap) with
        | none => rw [hr2] at h; cases h
        | some r2 =>
          obtain ⟨n2, old⟩ := r2
          rw [row_put hr2 hj]
          rw [hr2] at h
          simp only at h ⊢
          split at h
          case isFalse => cases h
          rename_i hb
          rw [if_pos hb]
          split at h
          · rename_i hex
            rw [if_pos hex]
            cases hn : H.new id (.cells e false (old ++ new)) with
            | none => rw [hn] at h; cases h
            | some H1 =>
              rw [hn] at h; cases h
              obtain ⟨h1, h2⟩ := new_at (o := o) hn hj hne
              exact ⟨h1, by rw [h2]; rfl⟩
          · rename_i hex
            rw [if_neg hex]
            split at h
            · cases h
            rename_i hp
            simp only [hp, Bool.false_eq_true, if_false]
            split at h
            case h_2 => cases h
            rename_i e1 cs hg
            split at h
            case isFalse => cases h
            rename_i hc
            have hno : j ≠ oo := by intro e; subst e; rw [hj] at hg; cases hg
            simp only [Heap.get_put, if_neg hno, hg]
            rw [if_pos hc]
            cases hn : H.new id (.cells e false (old ++ new)) with
            | none => rw [hn] at h; cases h
            | some H1 =>
              rw [hn] at h; cases h
              obtain ⟨h1, h2⟩ := new_at (o := o) hn hj hne
              refine ⟨by rw [Heap.get_put, if_neg (fun e => hno e.symm)]; exact h1, ?_⟩
              rw [h2]
              simp only [Option.map_some, put_put H1 hno]
    · cases h

theorem mapset_at {H H' : Heap} {m : EqM} {x i v : Value} {j : Nat} {o : Ob} (h : H.mapset m x i v = some H') (hj : H.get j = some .pend) : H'.get j = some .pend ∧ (H.put j o).mapset m x i v = some (H'.put j o) := by
  unfold Heap.mapset at h ⊢
  split at h
  case h_2 => cases h
  rename_i id
  split at h
  case isFalse => cases h
  rename_i hk
  simp only [hk, if_true]
  split at h
  case h_2 => cases h
  rename_i es c hg
  have hne : j ≠ id := by intro e; subst e; rw [hj] at hg; cases hg
  simp only [Heap.get_put, if_neg hne, hg]
  split at h
  · cases h; exact ⟨by rw [Heap.get_put, if_neg (fun e => hne e.symm)]; exact hj, by rw [put_put H hne]⟩
  · cases h; exact ⟨by rw [Heap.get_put, if_neg (fun e => hne e.symm)]; exact hj, by rw [put_put H hne]⟩
  · cases h

theorem mapentry_at {H H' : Heap} {m : EqM} {z x i v : Value} {j : Nat} {o : Ob} (h : H.mapentry m z x i = some (v, H')) (hj : H.get j = some .pend) : H'.get j = some .pend ∧ (H.put j o).mapentry m z x i = some (v, H'.put j o) := by
  unfold Heap.mapentry at h ⊢
  split at h
  case h_2 => cases h
  rename_i id
  split at h
  case isFalse => cases h
  rename_i hk
  simp only [hk, if_true]
  split at h
  case h_2 => cases h
  rename_i es c hg
  have hne : j ≠ id := by intro e; subst e; rw [hj] at hg; cases hg
  simp only [Heap.get_put, if_neg hne, hg]
  split at h
  · cases h; exact ⟨hj, rfl⟩
  · cases h; exact ⟨by rw [Heap.get_put, if_neg (fun e => hne e.symm)]; exact hj, by rw [put_put H hne]⟩
  · cases h

theorem entryset_at {H H' : Heap} {x s v : Value} {j : Nat} {o : Ob} (h : H.entryset x s v = some H') (hj : H.get j = some .pend) : H'.get j = some .pend ∧ (H.put j o).entryset x s v = some (H'.put j o) := by
  unfold Heap.entryset at h ⊢
  split at h
  case h_2 => cases h
  rename_i id k n
  split at h
  case h_2 => cases h
  rename_i es c hg
  have hne : j ≠ id := by intro e; subst e; rw [hj] at hg; cases hg
  simp only [Heap.get_put, if_neg hne, hg]
  cases hb : setBorn es n v with
  | none => rw [hb] at h; cases h
  | some es2 =>
    rw [hb] at h; cases h
    exact ⟨by rw [Heap.get_put, if_neg (fun e => hne e.symm)]; exact hj, by simp only [Option.map_some, put_put H hne]⟩

theorem mapdel_at {H H' : Heap} {m : EqM} {x i : Value} {j : Nat} {o : Ob} (h : H.mapdel m x i = some H') (hj : H.get j = some .pend) : H'.get j = some .pend ∧ (H.put j o).mapdel m x i = some (H'.put j o) := by
  unfold Heap.mapdel at h ⊢
  split at h
  case isFalse => cases h
  rename_i hk
  rw [if_pos hk]
  split at h
  · cases h; exact ⟨hj, rfl⟩
  · rename_i id
    split at h
    case h_2 => cases h
    rename_i es c hg
    have hne : j ≠ id := by intro e; subst e; rw [hj] at hg; cases hg
    simp only [Heap.get_put, if_neg hne, hg]
    split at h
    · cases h; exact ⟨by rw [Heap.get_put, if_neg (fun e => hne e.symm)]; exact hj, by rw [put_put H hne]⟩
    · cases h; exact ⟨hj, rfl⟩
    · cases h
  · cases h

theorem mapclear_at {H H' : Heap} {x : Value} {j : Nat} {o : Ob} (h : H.mapclear x = some H') (hj : H.get j = some .pend) : H'.get j = some .pend ∧ (H.put j o).mapclear x = some (H'.put j o) := by
  unfold Heap.mapclear at h ⊢
  split at h
  · cases h; exact ⟨hj, rfl⟩
  · rename_i id
    split at h
    case h_2 => cases h
    rename_i es c hg
    cases h
    have hne : j ≠ id := by intro e; subst e; rw [hj] at hg; cases hg
    refine ⟨by rw [Heap.get_put, if_neg (fun e => hne e.symm)]; exact hj, ?_⟩
    simp only [Heap.get_put, if_neg hne, hg]
    rw [put_put H hne]
  · cases h

theorem map_at {H H' : Heap} {f : Heap → Option Heap} {u v : Value} {j : Nat} {o : Ob} (hf : ∀ H', f H = some H' → H'.get j = some .pend ∧ f (H.put j o) = some (H'.put j o)) (h : (f H).map (fun H => (u, H)) = some (v, H')) :
    H'.get j = some .pend ∧ (f (H.put j o)).map (fun H => (u, H)) = some (v, H'.put j o) := by
  cases hq : f H with
  | none => rw [hq] at h; cases h
  | some H1 =>
    rw [hq] at h; cases h
    obtain ⟨h1, h2⟩ := hf _ hq
    exact ⟨h1, by rw [h2]; rfl⟩

theorem evI_put (hcl : ClGood cl) {b : Nat} {T : Tr Value} {i : I} {H H' : Heap} {v : Value} {j : Nat} {o : Ob} (h : evI cl b T H i = some (v, H')) (hj : H.get j = some .pend) (hb : j < b) (hs : b ≤ H.size) :
    H'.get j = some .pend ∧ evI cl b T (H.put j o) i = some (v, H'.put j o) := by
  cases hc : i.cls with
  | P => obtain ⟨rfl, h2⟩ := evI_P hc h; exact ⟨hj, h2 _⟩
  | L => obtain ⟨a, n, x, rfl⟩ := cls_load hc; obtain ⟨rfl, h2⟩ := evI_L h; exact ⟨hj, h2 _ _ hj⟩
  | M => obtain ⟨rfl, h2⟩ := evI_M hc h; exact ⟨hj, h2 _ _ hj⟩
  | E =>
    obtain ⟨k, ob, _, g1, rfl, g2⟩ := evI_E hc h
    have hne : j ≠ b + k := by omega
    refine ⟨by rw [Heap.get_put, if_neg (fun e => hne e.symm)]; exact hj, ?_⟩
    rw [g2 (H.put j o) (by rw [Heap.get_put, if_neg hne]; exact g1), put_put H hne]
  | Ea =>
    obtain ⟨k, e, s, by_, x, y, rfl⟩ := cls_ea hc
    rcases evI_Ea h with ⟨rfl, g⟩ | ⟨ob, g1, rfl, g⟩
    · exact ⟨hj, g j o hj (by omega)⟩
    · have hne : j ≠ b + k := by omega
      refine ⟨by rw [Heap.get_put, if_neg (fun e => hne e.symm)]; exact hj, ?_⟩
      rw [g j o hj hne, put_put H hne]
  | C =>
    cases i <;> simp [I.cls] at hc
    case call f args =>
      simp only [evI] at h ⊢
      split at h
      · exact hcl.put _ _ _ _ _ j o h hj (by omega)
      · cases h
    case append k e s by_ p x y => cases p <;> simp at hc
  | W =>
    cases i <;> simp only [I.cls] at hc <;> (try (cases hc; done)) <;> simp only [evI] at h ⊢
    case store n a x => exact map_at (f := fun H => H.storev n (a.ev T) (x.ev T)) (fun _ hq => store_at hq hj) h
    case copy s x y => exact copy_at h hj
    case clear s z x => exact map_at (f := fun H => H.clear s z (x.ev T)) (fun _ hq => clear_at hq hj) h
    case append k e s by_ p x y => exact append_at h hj (by omega)
  | V =>
    cases i <;> simp only [I.cls] at hc <;> (try (cases hc; done)) <;> simp only [evI] at h ⊢
    case mapset m x y z => exact map_at (f := fun H => H.mapset m (x.ev T) (y.ev T) (z.ev T)) (fun _ hq => mapset_at hq hj) h
    case mapentry m z x y => exact mapentry_at h hj
    case entryset x y z => exact map_at (f := fun H => H.entryset (x.ev T) (y.ev T) (z.ev T)) (fun _ hq => entryset_at hq hj) h
    case mapdel m x y => exact map_at (f := fun H => H.mapdel m (x.ev T) (y.ev T)) (fun _ hq => mapdel_at hq hj) h
    case mapclear x => exact map_at (f := fun H => H.mapclear (x.ev T)) (fun _ hq => mapclear_at hq hj) h
    case append k e s by_ p x y => cases p <;> simp at hc

theorem evI_back (hcl : ClGood cl) {b : Nat} {T : Tr Value} {i : I} {H H' : Heap} {v : Value} {j : Nat} (h : evI cl b T H i = some (v, H')) (hs : j < H.size) (hj : H'.get j = some .pend) : H.get j = some .pend := by
  by_cases hc : i.cls = .C
  · cases i <;> simp [I.cls] at hc
    case call f args =>
      simp only [evI] at h
      split at h
      · exact hcl.back _ _ _ _ _ j h hs hj
      · cases h
    case append k e s by_ p x y => cases p <;> simp at hc
  · exact (evI_puts hc h).back hj

theorem evIns_put (hcl : ClGood cl) {b : Nat} {i : Ins} {T : Tr Value} {H : Heap} {log log' : Tr Lg} (hl : LogLe log log') {s : St} {j : Nat} {o : Ob} (h : evIns cl b i ⟨T, H, log⟩ = some s) (hj : H.get j = some .pend) (hb : j < b) (hs : b ≤ H.size) :
    s.H.get j = some .pend ∧ ∃ l2, evIns cl b i ⟨T, H.put j o, log'⟩ = some ⟨s.T, s.H.put j o, l2⟩ ∧ LogLe s.log l2 := by
  obtain ⟨v, H', hw, rfl⟩ := evIns_some h
  have hlog : LogLe (lg b i ⟨T, H, log⟩) (lg b i ⟨T, H.put j o, log'⟩) := by
    simp only [lg_eq]
    exact setO_le hl _ (noted_le fun _ => le_put hj)
  rcases evW_some hw with ⟨h1, h2, h3⟩ | ⟨h1, rfl, hH⟩
  · obtain ⟨g1, g2⟩ := evI_put (o := o) hcl h2 hj hb hs
    exact ⟨g1, lg b i ⟨T, H.put j o, log'⟩, by simp only [evIns, evW_of (s := ⟨T, H.put j o, log'⟩) h1 g2 (chkOk_le hl h3)], hlog⟩
  · simp only at hH
    rw [hH]
    exact ⟨hj, lg b i ⟨T, H.put j o, log'⟩, by simp only [evIns, evW_not (s := ⟨T, H.put j o, log'⟩) h1], hlog⟩

theorem evIns_size (hcl : ClGood cl) {b : Nat} {i : Ins} {s s' : St} (h : evIns cl b i s = some s') : s.H.size ≤ s'.H.size := by
  obtain ⟨v, H', hw, rfl⟩ := evIns_some h
  rcases evW_some hw with ⟨_, hex, _⟩ | ⟨_, _, rfl⟩
  · exact evI_size hcl.size hex
  · exact Nat.le_refl _

theorem evSeq_put (hcl : ClGood cl) {b : Nat} {j : Nat} {o : Ob} (hb : j < b) : ∀ (l : List Ins) (T : Tr Value) (H : Heap) (log log' : Tr Lg) (s : St), LogLe log log' → evSeq cl b l ⟨T, H, log⟩ = some s → H.get j = some .pend → b ≤ H.size →
    s.H.get j = some .pend ∧ ∃ l2, evSeq cl b l ⟨T, H.put j o, log'⟩ = some ⟨s.T, s.H.put j o, l2⟩ := by
  intro l
  induction l with
  | nil => intro T H log log' s hl h hj hs; simp only [evSeq] at h ⊢; cases h; exact ⟨hj, _, rfl⟩
  | cons i l ih =>
    intro T H log log' s hl h hj hs
    simp only [evSeq] at h ⊢
    cases he : evIns cl b i ⟨T, H, log⟩ with
    | none => rw [he] at h; cases h
    | some s1 =>
      rw [he] at h
      obtain ⟨g1, l2, g2, g3⟩ := evIns_put (o := o) hcl hl he hj hb hs
      rw [g2]
      exact ih s1.T s1.H s1.log l2 s g3 h g1 (Nat.le_trans hs (evIns_size hcl he))

theorem ext_put : ∀ (n : Nat) (H : Heap) {j : Nat} {o : Ob}, j < H.size → Heap.ext n (H.put j o) = (Heap.ext n H).put j o
  | 0, H, j, o, _ => rfl
  | n + 1, H, j, o, h => by
    simp only [Heap.ext]
    have : ({ size := (H.put j o).size + 1, tr := (H.put j o).tr.set (H.put j o).size .pend } : Heap) = ({ size := H.size + 1, tr := H.tr.set H.size .pend } : Heap).put j o := by
      show ({ size := H.size + 1, tr := (H.tr.set j o).set H.size .pend } : Heap) = { size := H.size + 1, tr := (H.tr.set H.size .pend).set j o }
      rw [Tr.set_comm _ _ _ _ _ (by omega)]
    rw [this]
    exact ext_put n _ (by show j < H.size + 1; omega)

theorem evC_put (hcl : ClGood cl) {n : Nat} {j : Nat} {o : Ob} : ∀ (c : Cd) (T : Tr Value) (H : Heap) (ex : Ex) (T' : Tr Value) (H' : Heap), evC cl n c T H = some (ex, T', H') → H.get j = some .pend → j < H.size →
    H'.get j = some .pend ∧ evC cl n c T (H.put j o) = some (ex, T', H'.put j o) := by
  intro c
  induction c with
  | skip => intro T H ex T' H' h hj hs; simp only [evC] at h ⊢; cases h; exact ⟨hj, rfl⟩
  | region na ops =>
    intro T H ex T' H' h hj hs
    simp only [evC] at h ⊢
    split at h
    case h_2 => cases h
    rename_i s e
    cases h
    obtain ⟨g1, l2, g2⟩ := evSeq_put (o := o) hcl.noP hs ops T _ .nil .nil s (LogLe.refl _) e (by rw [Heap.get_ext, if_neg (by omega)]; exact hj) (by rw [Heap.size_ext]; omega)
    refine ⟨g1, ?_⟩
    rw [Heap.size_put, ext_put na H hs, g2]
  | seq a b iha ihb =>
    intro T H ex T' H' h hj hs
    simp only [evC] at h ⊢
    split at h
    · rename_i T1 H1 e
      obtain ⟨g1, g2⟩ := iha _ _ _ _ _ e hj hs
      rw [g2]
      exact ihb _ _ _ _ _ h g1 (Nat.lt_of_lt_of_le hs (evC_size hcl.size _ _ _ _ _ _ e))
    · rename_i hnot
      obtain ⟨g1, g2⟩ := iha _ _ _ _ _ h hj hs
      refine ⟨g1, ?_⟩
      rw [g2]
      cases ex with
      | normal => exact absurd h (hnot _ _)
      | exit i => rfl
      | ret => rfl
      | pan v => rfl
  | cond x a b iha ihb =>
    intro T H ex T' H' h hj hs
    simp only [evC] at h ⊢
    split at h
    case h_2 => cases h
    rename_i t _
    cases t
    · exact ihb _ _ _ _ _ h hj hs
    · exact iha _ _ _ _ _ h hj hs
  | block id c ih =>
    intro T H ex T' H' h hj hs
    simp only [evC] at h ⊢
    split at h
    · rename_i id' T1 H1 e
      obtain ⟨g1, g2⟩ := ih _ _ _ _ _ e hj hs
      rw [g2]
      simp only
      cases hq : id' == id <;> rw [hq] at h <;> cases h <;> exact ⟨g1, rfl⟩
    · rename_i hnot
      obtain ⟨g1, g2⟩ := ih _ _ _ _ _ h hj hs
      refine ⟨g1, ?_⟩
      rw [g2]
      cases ex with
      | normal => rfl
      | exit i => exact absurd h (hnot _ _ _)
      | ret => rfl
      | pan v => rfl
  | loop c ih =>
    intro T H ex T' H' h hj hs
    simp only [evC] at h ⊢
    have key : ∀ m T H, iter (fun T H => evC cl n c T H) m T H = some (ex, T', H') → H.get j = some .pend → j < H.size →
        H'.get j = some .pend ∧ iter (fun T H => evC cl n c T H) m T (H.put j o) = some (ex, T', H'.put j o) := by
      intro m
      induction m with
      | zero => intro T H h; simp [iter] at h
      | succ m ihm =>
        intro T H h hj hs
        simp only [iter] at h ⊢
        split at h
        · rename_i T1 H1 e
          obtain ⟨g1, g2⟩ := ih _ _ _ _ _ e hj hs
          rw [g2]
          exact ihm _ _ h g1 (Nat.lt_of_lt_of_le hs (evC_size hcl.size _ _ _ _ _ _ e))
        · rename_i hnot
          obtain ⟨g1, g2⟩ := ih _ _ _ _ _ h hj hs
          refine ⟨g1, ?_⟩
          rw [g2]
          cases ex with
          | normal => exact absurd h (hnot _ _)
          | exit i => rfl
          | ret => rfl
          | pan v => rfl
    exact key n T H h hj hs
  | exit id => intro T H ex T' H' h hj hs; simp only [evC] at h ⊢; cases h; exact ⟨hj, rfl⟩
  | ret => intro T H ex T' H' h hj hs; simp only [evC] at h ⊢; cases h; exact ⟨hj, rfl⟩
  | callp d f as =>
    intro T H ex T' H' h hj hs
    simp only [evC] at h ⊢
    split at h
    case h_2 => cases h
    split at h
    case h_2 => cases h
    rename_i v H1 e
    obtain ⟨g1, g2⟩ := hcl.put _ _ _ _ _ j o e hj hs
    rw [g2]
    split at h <;> rename_i hp <;> cases h <;> refine ⟨g1, ?_⟩ <;> simp only [hp]
  | panic x =>
    intro T H ex T' H' h hj hs
    simp only [evC] at h ⊢
    split at h <;> cases h
    exact ⟨hj, rfl⟩

theorem evSeq_back (hcl : ClGood cl) {b : Nat} {j : Nat} : ∀ (l : List Ins) (s s' : St), evSeq cl b l s = some s' → j < s.H.size → s'.H.get j = some .pend → s.H.get j = some .pend := by
  intro l
  induction l with
  | nil => intro s s' h _ hj; simp only [evSeq] at h; cases h; exact hj
  | cons i l ih =>
    intro s s' h hs hj
    simp only [evSeq] at h
    split at h
    case h_2 => cases h
    rename_i s1 e
    have h1 := ih s1 s' h (Nat.lt_of_lt_of_le hs (evIns_size hcl e)) hj
    obtain ⟨v, H', hw, rfl⟩ := evIns_some e
    rcases evW_some hw with ⟨_, hex, _⟩ | ⟨_, _, rfl⟩
    · exact evI_back hcl hex hs h1
    · exact h1

theorem evC_back (hcl : ClGood cl) {n : Nat} {j : Nat} : ∀ (c : Cd) (T : Tr Value) (H : Heap) (ex : Ex) (T' : Tr Value) (H' : Heap), evC cl n c T H = some (ex, T', H') → j < H.size → H'.get j = some .pend → H.get j = some .pend := by
  intro c
  induction c with
  | skip => intro T H ex T' H' h _ hj; simp only [evC] at h; cases h; exact hj
  | region na ops =>
    intro T H ex T' H' h hs hj
    simp only [evC] at h
    split at h
    case h_2 => cases h
    rename_i s e
    cases h
    have := evSeq_back hcl.noP _ _ _ e (by simp only [Heap.size_ext]; omega) hj
    simp only at this
    rw [Heap.get_ext, if_neg (by omega)] at this
    exact this
  | seq a b iha ihb =>
    intro T H ex T' H' h hs hj
    simp only [evC] at h
    split at h
    · rename_i T1 H1 e
      exact iha _ _ _ _ _ e hs (ihb _ _ _ _ _ h (Nat.lt_of_lt_of_le hs (evC_size hcl.size _ _ _ _ _ _ e)) hj)
    · exact iha _ _ _ _ _ h hs hj
  | cond x a b iha ihb =>
    intro T H ex T' H' h hs hj
    simp only [evC] at h
    split at h
    case h_2 => cases h
    rename_i t _
    cases t
    · exact ihb _ _ _ _ _ h hs hj
    · exact iha _ _ _ _ _ h hs hj
  | block id c ih =>
    intro T H ex T' H' h hs hj
    simp only [evC] at h
    split at h
    · rename_i id' T1 H1 e
      cases hq : id' == id <;> rw [hq] at h <;> cases h <;> exact ih _ _ _ _ _ e hs hj
    · exact ih _ _ _ _ _ h hs hj
  | loop c ih =>
    intro T H ex T' H' h hs hj
    simp only [evC] at h
    have key : ∀ m T H, iter (fun T H => evC cl n c T H) m T H = some (ex, T', H') → j < H.size → H.get j = some .pend := by
      intro m
      induction m with
      | zero => intro T H h; simp [iter] at h
      | succ m ihm =>
        intro T H h hs
        simp only [iter] at h
        split at h
        · rename_i T1 H1 e
          exact ih _ _ _ _ _ e hs (ihm _ _ h (Nat.lt_of_lt_of_le hs (evC_size hcl.size _ _ _ _ _ _ e)))
        · exact ih _ _ _ _ _ h hs hj
    exact key n T H h hs
  | exit id => intro T H ex T' H' h _ hj; simp only [evC] at h; cases h; exact hj
  | ret => intro T H ex T' H' h _ hj; simp only [evC] at h; cases h; exact hj
  | callp d f as =>
    intro T H ex T' H' h hs hj
    simp only [evC] at h
    split at h
    case h_2 => cases h
    split at h
    case h_2 => cases h
    rename_i v H1 e
    have := hcl.back _ _ _ _ _ j e hs
    split at h <;> cases h <;> exact this hj
  | panic x =>
    intro T H ex T' H' h hs hj
    simp only [evC] at h
    split at h <;> cases h
    exact hj

theorem evRes_put {T : Tr Value} {H : Heap} {j : Nat} {o : Ob} (hj : H.get j = some .pend) : ∀ (l : List Res) (vs : List Value), evRes T H l = some vs → evRes T (H.put j o) l = some vs := by
  intro l
  induction l with
  | nil => intro vs h; exact h
  | cons r l ih =>
    intro vs h
    cases r with
    | tmp t =>
      simp only [evRes] at h ⊢
      cases hq : evRes T H l with
      | none => rw [hq] at h; cases h
      | some u => rw [ih u hq]; rw [hq] at h; exact h
    | cell t agg n =>
      simp only [evRes] at h ⊢
      split at h
      case h_2 => cases h
      rename_i v u h1 h2
      rw [loadv_put h1 hj, ih u h2]
      exact h

/-! ### what lets a pending number be -/
structure HG {α : Type} (f : Heap → Option (α × Heap)) : Prop where
  size : ∀ H x H', f H = some (x, H') → H.size ≤ H'.size
  back : ∀ H x H' j, f H = some (x, H') → j < H.size → H'.get j = some .pend → H.get j = some .pend
  put : ∀ H x H' j o, f H = some (x, H') → H.get j = some .pend → j < H.size → H'.get j = some .pend ∧ f (H.put j o) = some (x, H'.put j o)

def bindH {α γ : Type} (f : Heap → Option (α × Heap)) (g : α → Heap → Option (γ × Heap)) (H : Heap) : Option (γ × Heap) :=
  match f H with
  | some (x, H) => g x H
  | none => none

theorem HG.bind {α γ : Type} {f : Heap → Option (α × Heap)} {g : α → Heap → Option (γ × Heap)} (hf : HG f) (hg : ∀ x, HG (g x)) : HG (bindH f g) := by
  refine ⟨fun H x H' h => ?_, fun H x H' j h hs hj => ?_, fun H x H' j o h hj hs => ?_⟩
  · unfold bindH at h
    split at h
    case h_2 => cases h
    rename_i y H1 e
    exact Nat.le_trans (hf.size _ _ _ e) ((hg y).size _ _ _ h)
  · unfold bindH at h
    split at h
    case h_2 => cases h
    rename_i y H1 e
    exact hf.back _ _ _ j e hs ((hg y).back _ _ _ j h (Nat.lt_of_lt_of_le hs (hf.size _ _ _ e)) hj)
  · unfold bindH at h ⊢
    split at h
    case h_2 => cases h
    rename_i y H1 e
    obtain ⟨g1, g2⟩ := hf.put _ _ _ j o e hj hs
    obtain ⟨k1, k2⟩ := (hg y).put _ _ _ j o h g1 (Nat.lt_of_lt_of_le hs (hf.size _ _ _ e))
    exact ⟨k1, by rw [g2]; exact k2⟩
theorem hgNone {α : Type} : HG (fun _ => (none : Option (α × Heap))) := ⟨(fun _ _ _ h => by cases h), (fun _ _ _ _ h => by cases h), (fun _ _ _ _ _ h => by cases h)⟩
theorem hgPure {α : Type} (x : α) : HG (fun H => some (x, H)) :=
  ⟨fun _ _ _ h => by cases h; exact Nat.le_refl _, fun _ _ _ _ h _ hj => by cases h; exact hj, fun _ _ _ _ _ h hj _ => by cases h; exact ⟨hj, rfl⟩⟩

def toP (r : Option (Ex × Tr Value × Heap)) : Option ((Ex × Tr Value) × Heap) := r.map fun x => ((x.1, x.2.1), x.2.2)
theorem toP_some {r : Option (Ex × Tr Value × Heap)} {e : Ex} {T : Tr Value} {H : Heap} : toP r = some ((e, T), H) ↔ r = some (e, T, H) := by
  unfold toP
  cases r with
  | none => simp
  | some x => obtain ⟨a, b, c⟩ := x; simp [and_assoc]

theorem hgC {cl : Nat → List Value → Heap → Option (Value × Heap)} (hcl : ClGood cl) (n : Nat) (c : Cd) (T : Tr Value) : HG (fun H => toP (evC cl n c T H)) :=
  ⟨fun _ _ _ h => evC_size hcl.size _ _ _ _ _ _ (toP_some.1 h), fun _ _ _ _ h hs hj => evC_back hcl _ _ _ _ _ _ (toP_some.1 h) hs hj,
    fun _ _ _ _ o h hj hs => let ⟨g1, g2⟩ := evC_put (o := o) hcl _ _ _ _ _ _ (toP_some.1 h) hj hs; ⟨g1, toP_some.2 g2⟩⟩

theorem hgR (res : List Res) (T : Tr Value) : HG (evR res T) := by
  refine ⟨fun H x H' h => ?_, fun H x H' j h _ hj => ?_, fun H x H' j o h hj _ => ?_⟩ <;> simp only [Mx.evR, Option.map_eq_some_iff] at h ⊢ <;> obtain ⟨vs, h1, h2⟩ := h <;> cases h2
  · exact Nat.le_refl _
  · exact hj
  · exact ⟨hj, vs, evRes_put hj _ _ h1, rfl⟩

def toD (r : Option Heap) : Option (Unit × Heap) := r.map fun H => ((), H)

theorem hgD {Γ : Nat → Option FnI} {cl : Nat → List Value → Heap → Option (Value × Heap)} (hcl : ClGood cl) (k : Nat) (c pv : Value) : HG (fun H => toD (evD Γ cl k c pv H)) := by
  unfold Mx.evD
  split
  · rename_i g first captured
    split
    · rename_i gn hgn
      split
      · rename_i d h1 h2 h3
        have := (hgC hcl k gn.body ((Tr.ofList (first.toList ++ captured.toList) 0 .nil).set d pv)).bind (g := fun x H => match x.1 with | .normal => some ((), H) | .ret => some ((), H) | _ => none) (fun x => by
          obtain ⟨e, T⟩ := x
          cases e <;> first | exact hgPure _ | exact hgNone)
        refine cast (congrArg HG (funext fun H => ?_)) this
        unfold bindH toP toD
        dsimp only
        cases hq : Mx.evC cl k gn.body ((Tr.ofList (first.toList ++ captured.toList) 0 .nil).set d pv) H with
        | none => rfl
        | some r => obtain ⟨e, T, H1⟩ := r; cases e <;> rfl
      · exact hgNone
    · exact hgNone
  · exact hgNone

theorem hgB {Γ : Nat → Option FnI} {cl : Nat → List Value → Heap → Option (Value × Heap)} (hcl : ClGood cl) (k f : Nat) (args : List Value) : HG (evB Γ cl k f args) := by
  unfold Mx.evB
  split
  · exact hgNone
  rename_i fn hfn
  split
  · exact hgNone
  split
  · have := (hgC hcl k fn.body (Tr.ofList args 0 .nil)).bind (g := fun x H => match x.1 with | .normal => Mx.evR fn.res x.2 H | .ret => Mx.evR fn.res x.2 H | .pan v => some (pan v, H) | _ => none) (fun x => by
      obtain ⟨e, T⟩ := x
      cases e <;> first | exact hgR _ _ | exact hgPure _ | exact hgNone)
    refine cast (congrArg HG (funext fun H => ?_)) this
    unfold bindH toP
    dsimp only
    cases hq : Mx.evC cl k fn.body (Tr.ofList args 0 .nil) H with
    | none => rfl
    | some r => obtain ⟨e, T, H1⟩ := r; cases e <;> rfl
  · rename_i c rest hd
    have after : ∀ (T T' : Tr Value) (pv : Value), HG (bindH (fun H => toD (Mx.evD Γ cl k (c.ev T) pv H)) (fun _ H => Mx.evR fn.res T' H)) := fun T T' pv => (hgD hcl k (c.ev T) pv).bind fun _ => hgR _ _
    have := (hgC hcl k fn.body (Tr.ofList args 0 .nil)).bind (g := fun x H => match x.1 with
        | .normal => bindH (fun H => toP (Mx.evC cl k rest x.2 H)) (fun y H => match y.1 with
          | .normal => bindH (fun H => toD (Mx.evD Γ cl k (c.ev x.2) .nilIface H)) (fun _ H => Mx.evR fn.res y.2 H) H
          | .ret => bindH (fun H => toD (Mx.evD Γ cl k (c.ev x.2) .nilIface H)) (fun _ H => Mx.evR fn.res y.2 H) H
          | .pan v => bindH (fun H => toD (Mx.evD Γ cl k (c.ev x.2) v H)) (fun _ H => Mx.evR fn.res y.2 H) H
          | _ => none) H
        | _ => none) (fun x => by
      obtain ⟨e, T⟩ := x
      cases e <;> first
        | exact hgNone
        | exact (hgC hcl k rest T).bind fun y => by
            obtain ⟨e, T'⟩ := y
            cases e <;> first | exact after _ _ _ | exact hgNone)
    refine cast (congrArg HG (funext fun H => ?_)) this
    unfold bindH toP toD
    dsimp only
    cases hq : Mx.evC cl k fn.body (Tr.ofList args 0 .nil) H with
    | none => rfl
    | some r =>
      obtain ⟨e, T, H1⟩ := r
      cases e <;> first | rfl | skip
      simp only [Option.map_some]
      cases hq2 : Mx.evC cl k rest T H1 with
      | none => rfl
      | some r =>
        obtain ⟨e, T', H2⟩ := r
        cases e <;> simp only [Option.map_some] <;> (try (generalize Mx.evD Γ cl k (c.ev T) _ H2 = z; cases z <;> rfl))

/-- What is known of calls speaks of no pending number. -/
def OvPut (ov : Known) : Prop := ∀ f args H v n, ov f args H = some (v, n) → H.size ≤ n ∧ ∀ j o, H.get j = some .pend → j < H.size → ov f args (H.put j o) = some (v, n)

theorem good_F {Γ : Nat → Option FnI} {ov : Known} (hov : OvPut ov) (hno : ∀ f args H j o, ov f args H = none → H.get j = some .pend → j < H.size → ov f args (H.put j o) = none) : ∀ k, ClGood (evF Γ ov k) := by
  intro k
  induction k with
  | zero => exact ⟨fun _ _ _ _ _ h => by simp [evF] at h, fun _ _ _ _ _ _ h => by simp [evF] at h, fun _ _ _ _ _ _ _ h => by simp [evF] at h⟩
  | succ k ih =>
    refine ⟨fun g args H v H' h => ?_, fun g args H v H' j h hs hj => ?_, fun g args H v H' j o h hj hs => ?_⟩
    · simp only [evF] at h
      split at h
      · rename_i u n hu; cases h; exact (hov _ _ _ _ _ hu).1
      · exact (hgB ih k g args).size _ _ _ h
    · simp only [evF] at h
      split at h
      · rename_i u n hu; cases h; exact hj
      · exact (hgB ih k g args).back _ _ _ j h hs hj
    · simp only [evF] at h ⊢
      split at h
      · rename_i u n hu
        cases h
        rw [(hov _ _ _ _ _ hu).2 j o hj hs]
        exact ⟨hj, rfl⟩
      · rename_i hu
        rw [hno _ _ _ j o hu hj hs]
        exact (hgB ih k g args).put _ _ _ j o h hj hs

end
end Go.Proofs.YtapkmhneneffdaaGreatDoor.Mx
