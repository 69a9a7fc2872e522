/- Operations that may be exchanged. -/
import Derived.Test.YtiphbdhclldllaaGreatDoorZadI
set_option linter.unusedSimpArgs false
set_option linter.unusedVariables false
namespace Go.Proofs.YtiphbdhclldllaaGreatDoor.Mx
open Go

theorem rd_set_ne (T : Tr Value) (d n : Nat) (u : Value) (h : d ≠ n) : rd (T.set d u) n = rd T n := by
  simp [rd, Tr.get_set_ne T d n u h]

theorem Opd.ev_set (T : Tr Value) (d : Nat) (u : Value) (x : Opd) (h : d ∉ x.reads) : x.ev (T.set d u) = x.ev T := by
  cases x with
  | t n => simp only [Opd.ev]; exact rd_set_ne T d n u (fun e => h (by simp [Opd.reads, e]))
  | c v => rfl
  | f g => rfl
  | gl g => rfl

theorem evs_set (T : Tr Value) (d : Nat) (u : Value) (l : List Opd) (h : d ∉ l.flatMap Opd.reads) : l.map (Opd.ev (T.set d u)) = l.map (Opd.ev T) :=
  List.map_congr_left fun x hx => Opd.ev_set T d u x fun hd => h (List.mem_flatMap.2 ⟨x, hx, hd⟩)

theorem opt_set (T : Tr Value) (d : Nat) (u : Value) (x : Option Opd) (h : d ∉ optReads x) : x.map (Opd.ev (T.set d u)) = x.map (Opd.ev T) := by
  cases x with
  | none => rfl
  | some x => simp only [Option.map_some, Opd.ev_set T d u x (by simpa [optReads] using h)]

theorem parts_set (T : Tr Value) (d : Nat) (u : Value) (ps : List (Nat × Nat × Opd)) (h : d ∉ ps.flatMap fun p => p.2.2.reads) : evParts (T.set d u) ps = evParts T ps :=
  List.map_congr_left fun p hp => by
    obtain ⟨a, b, x⟩ := p
    simp only [Opd.ev_set T d u x fun hd => h (List.mem_flatMap.2 ⟨_, hp, hd⟩)]

theorem evI_set (cl : Nat → List Value → Heap → Option (Value × Heap)) (b : Nat) (T : Tr Value) (H : Heap) (i : I) (d : Nat) (u : Value) (h : d ∉ i.reads) : evI cl b (T.set d u) H i = evI cl b T H i := by
  cases i <;> simp only [I.reads, List.mem_append, not_or] at h <;> simp only [evI]
  case mv x => rw [Opd.ev_set T d u x h]
  case pick c x y => rw [Opd.ev_set T d u c h.1, Opd.ev_set T d u x h.2.1, Opd.ev_set T d u y h.2.2]
  case box k e x => rw [Opd.ev_set T d u x h]
  case build z ps => rw [parts_set T d u ps h]
  case bslice k e s l z ps => rw [parts_set T d u ps h]
  case load a n x => rw [Opd.ev_set T d u x h]
  case store n x y => rw [Opd.ev_set T d u x h.1, Opd.ev_set T d u y h.2]
  case nilchk x => rw [Opd.ev_set T d u x h]
  case bin o m x y => rw [Opd.ev_set T d u x h.1, Opd.ev_set T d u y h.2]
  case un o x => rw [Opd.ev_set T d u x h]
  case conv k x => rw [Opd.ev_set T d u x h]
  case mkfn f x y => rw [evs_set T d u x h.1, evs_set T d u y h.2]
  case mkslice k e s b z x y => rw [Opd.ev_set T d u x h.1, Opd.ev_set T d u y h.2]
  case slice s x lo hi mx => rw [Opd.ev_set T d u x h.1, opt_set T d u lo h.2.1, opt_set T d u hi h.2.2.1, opt_set T d u mx h.2.2.2]
  case strslice x lo hi => rw [Opd.ev_set T d u x h.1, opt_set T d u lo h.2.1, opt_set T d u hi h.2.2]
  case faddr o x => rw [Opd.ev_set T d u x h]
  case field a o n x => rw [Opd.ev_set T d u x h]
  case iaddr s x y => rw [Opd.ev_set T d u x h.1, Opd.ev_set T d u y h.2]
  case aaddr l s x y => rw [Opd.ev_set T d u x h.1, Opd.ev_set T d u y h.2]
  case aindex a l s x y => rw [Opd.ev_set T d u x h.1, Opd.ev_set T d u y h.2]
  case strindex x y => rw [Opd.ev_set T d u x h.1, Opd.ev_set T d u y h.2]
  case ext i x => rw [Opd.ev_set T d u x h]
  case call f as => rw [Opd.ev_set T d u f h.1, evs_set T d u as h.2]
  case len x => rw [Opd.ev_set T d u x h]
  case strlen x => rw [Opd.ev_set T d u x h]
  case append k e s b p x y => rw [Opd.ev_set T d u x h.1, Opd.ev_set T d u y h.2]
  case minmax m x y => rw [Opd.ev_set T d u x h.1, Opd.ev_set T d u y h.2]
  case copy s x y => rw [Opd.ev_set T d u x h.1, Opd.ev_set T d u y h.2]
  case lookup m z ok x y => rw [Opd.ev_set T d u x h.1, Opd.ev_set T d u y h.2]
  case mapset m x y z => rw [Opd.ev_set T d u x h.1, Opd.ev_set T d u y h.2.1, Opd.ev_set T d u z h.2.2]
  case mapentry m z x y => rw [Opd.ev_set T d u x h.1, Opd.ev_set T d u y h.2]
  case entryset x y z => rw [Opd.ev_set T d u x h.1, Opd.ev_set T d u y h.2.1, Opd.ev_set T d u z h.2.2]
  case maplen x => rw [Opd.ev_set T d u x h]
  case mapdel m x y => rw [Opd.ev_set T d u x h.1, Opd.ev_set T d u y h.2]
  case clear s z x => rw [Opd.ev_set T d u x h]
  case mapclear x => rw [Opd.ev_set T d u x h]
  case cap x => rw [Opd.ev_set T d u x h]
  case aslice n s x lo hi => rw [Opd.ev_set T d u x h.1, opt_set T d u lo h.2.1, opt_set T d u hi h.2.2]
  case b2s x => rw [Opd.ev_set T d u x h]
  case mkif t x => rw [Opd.ev_set T d u x h]
  case tassert t z x => rw [Opd.ev_set T d u x h]
  case isnil n x => rw [Opd.ev_set T d u x h]

theorem chk1_set (T : Tr Value) (i : I) (v : Value) (d : Nat) (u : Value) (h : d ∉ i.reads) (e : Option Lg) : chk1 (T.set d u) i v e = chk1 T i v e := by
  unfold chk1
  cases e with
  | none => rfl
  | some e =>
    cases e with
    | heap H => cases i <;> try rfl
                case load a n x => simp only [Opd.ev_set T d u x (by simpa [I.reads] using h)]
    | rng id off m =>
      cases i <;> try rfl
      case load a n x => simp only [Opd.ev_set T d u x (by simpa [I.reads] using h)]
      case store n x y =>
        simp only [I.reads, List.mem_append, not_or] at h
        simp only [Opd.ev_set T d u x h.1]

theorem note_set (b : Nat) (T : Tr Value) (H : Heap) (i : I) (d : Nat) (u : Value) (h : d ∉ i.reads) : note b (T.set d u) H i = note b T H i := by
  cases i <;> try rfl
  case load a n x => simp only [note, Opd.ev_set T d u x (by simpa [I.reads] using h)]

theorem chkOk_set (log : Tr Lg) (T : Tr Value) (i : I) (v : Value) (d : Nat) (u : Value) (h : d ∉ i.reads) : ∀ l, chkOk log (T.set d u) i v l = chkOk log T i v l := by
  intro l
  induction l with
  | nil => rfl
  | cons c l ih => simp only [chkOk, ih, chk1_set T i v d u h]

theorem wanted_set (i : Ins) (T : Tr Value) (d : Nat) (u : Value) (h : d ∉ i.reads) : i.wanted (T.set d u) = i.wanted T := by
  unfold Ins.wanted
  cases hg : i.guard with
  | none => rfl
  | some g =>
    obtain ⟨g, w⟩ := g
    have : d ≠ g := fun e => h (by simp [Ins.reads, hg, e])
    simp only [rd_set_ne T d g u this]

theorem evW_put (cl : Nat → List Value → Heap → Option (Value × Heap)) (b : Nat) (i : Ins) (T : Tr Value) (H : Heap) (log : Tr Lg) (d : Option Nat) (u : Value) (h : ∀ t, d = some t → t ∉ i.reads) :
    evW cl b i ⟨putT T d u, H, log⟩ = evW cl b i ⟨T, H, log⟩ := by
  cases d with
  | none => rfl
  | some d =>
    have hd := h d rfl
    have hd2 : d ∉ i.op.reads := fun e => hd (by simp [Ins.reads, e])
    simp only [evW, putT, wanted_set i T d u hd, evI_set cl b T H i.op d u hd2, chkOk_set log T i.op _ d u hd2]

theorem lg_put (b : Nat) (i : Ins) (T : Tr Value) (H : Heap) (log : Tr Lg) (d : Option Nat) (u : Value) (h : ∀ t, d = some t → t ∉ i.reads) :
    lg b i ⟨putT T d u, H, log⟩ = lg b i ⟨T, H, log⟩ := by
  cases d with
  | none => rfl
  | some d =>
    have hd := h d rfl
    have hd2 : d ∉ i.op.reads := fun e => hd (by simp [Ins.reads, e])
    simp only [lg, putT, wanted_set i T d u hd, note_set b T H i.op d u hd2]

theorem putT_comm (T : Tr Value) {x y : Option Nat} (u v : Value) (h : ∀ d, x = some d → y ≠ some d) : putT (putT T x u) y v = putT (putT T y v) x u := by
  cases x with
  | none => rfl
  | some d =>
    cases y with
    | none => rfl
    | some e =>
      have : e ≠ d := fun he => h d rfl (by rw [he])
      simp only [putT]
      exact Tr.set_comm T e d v u this

/-! ### what the heap sees -/
variable {cl : Nat → List Value → Heap → Option (Value × Heap)} {b : Nat} {T : Tr Value}

theorem map_pair {α : Type} {o : Option α} {H : Heap} {v : α} {H' : Heap} (h : o.map (fun v => (v, H)) = some (v, H')) : o = some v ∧ H' = H := by
  cases o with
  | none => cases h
  | some u => simp at h; exact ⟨by rw [h.1], h.2.symm⟩

theorem map_pair2 {α : Type} {o : Option α} {g : α → Value} {H : Heap} {v : Value} {H' : Heap} (h : o.map (fun c => (g c, H)) = some (v, H')) : (∃ c, o = some c ∧ g c = v) ∧ H' = H := by
  cases o with
  | none => cases h
  | some u => simp at h; exact ⟨⟨u, rfl, h.1⟩, h.2.symm⟩

theorem evI_P {i : I} (hc : i.cls = .P) {H H' : Heap} {v : Value} (h : evI cl b T H i = some (v, H')) : H' = H ∧ ∀ H2, evI cl b T H2 i = some (v, H2) := by
  cases i <;> simp only [I.cls] at hc <;> (try (cases hc; done)) <;> simp only [evI] at h ⊢
  case mv => cases h; exact ⟨rfl, fun _ => rfl⟩
  case const => cases h; exact ⟨rfl, fun _ => rfl⟩
  case pick c x y => split at h <;> cases h; exact ⟨rfl, fun _ => rfl⟩
  case nilchk x => split at h <;> cases h <;> exact ⟨rfl, fun _ => rfl⟩
  case conv k x => split at h <;> cases h; exact ⟨rfl, fun _ => rfl⟩
  case mkfn => cases h; exact ⟨rfl, fun _ => rfl⟩
  case faddr o x => split at h <;> cases h; exact ⟨rfl, fun _ => rfl⟩
  case field a o n x =>
    split at h
    case h_2 => cases h
    obtain ⟨h1, h2⟩ := map_pair h
    exact ⟨h2, fun H2 => by rw [h1]; rfl⟩
  case ext i x =>
    split at h
    case h_2 => cases h
    obtain ⟨h1, h2⟩ := map_pair h
    exact ⟨h2, fun H2 => by rw [h1]; rfl⟩
  case build z ps =>
    obtain ⟨⟨c, h1, rfl⟩, h2⟩ := map_pair2 h
    exact ⟨h2, fun H2 => by rw [h1]; rfl⟩
  case len x => split at h <;> cases h; exact ⟨rfl, fun _ => rfl⟩
  case strlen x => split at h <;> cases h; exact ⟨rfl, fun _ => rfl⟩
  case append k e s by_ p x y => cases p <;> simp at hc
  case stuck => cases h
  case mkif t x => cases h; exact ⟨rfl, fun _ => rfl⟩
  all_goals (obtain ⟨h1, h2⟩ := map_pair h; exact ⟨h2, fun H2 => by rw [h1]; rfl⟩)

theorem loadv_put {H : Heap} {agg : Bool} {n : Nat} {a v : Value} {j : Nat} {o : Ob} (h : H.loadv agg n a = some v) (hj : H.get j = some .pend) : (H.put j o).loadv agg n a = some v := by
  unfold Heap.loadv at h ⊢
  split at h
  case h_2 => cases h
  rename_i id off
  have hne : j ≠ id := by
    intro e; subst e; rw [hj] at h; cases h
  simp only [Heap.get_put, if_neg hne]
  exact h

theorem row_put {H : Heap} {s : Nat} {y : Value} {r : Nat × List Value} {j : Nat} {o : Ob} (h : H.row s y = some r) (hj : H.get j = some .pend) : (H.put j o).row s y = some r := by
  unfold Heap.row at h ⊢
  split at h
  · exact h
  · rename_i id off x len cap
    split at h
    · rename_i h0; simp only [h0, if_true]; exact h
    · rename_i h0
      have hne : j ≠ id := by
        intro e; subst e; rw [hj] at h; cases h
      simp only [h0, if_false, Heap.get_put, if_neg hne]
      exact h
  · exact h
  · cases h

theorem entries_put {H : Heap} {x : Value} {r : Entries × Nat} {j : Nat} {o : Ob} (h : H.entries x = some r) (hj : H.get j = some .pend) : (H.put j o).entries x = some r := by
  unfold Heap.entries at h ⊢
  split at h
  · exact h
  · rename_i id
    have hne : j ≠ id := by
      intro e; subst e; rw [hj] at h; cases h
    simp only [Heap.get_put, if_neg hne]
    exact h
  · cases h

theorem lookup_put {H : Heap} {m : EqM} {z : Value} {ok : Bool} {x i v : Value} {j : Nat} {o : Ob} (h : H.lookup m z ok x i = some v) (hj : H.get j = some .pend) : (H.put j o).lookup m z ok x i = some v := by
  unfold Heap.lookup at h ⊢
  split at h
  case isFalse => cases h
  rename_i hk
  rw [if_pos hk]
  cases he : H.entries x with
  | none => rw [he] at h; cases h
  | some r => rw [entries_put he hj]; rw [he] at h; exact h

theorem b2s_put {H : Heap} {x v : Value} {j : Nat} {o : Ob} (h : H.b2s x = some v) (hj : H.get j = some .pend) : (H.put j o).b2s x = some v := by
  unfold Heap.b2s at h ⊢
  split at h
  · exact h
  · rename_i A n c
    cases hr : H.row 1 (.slice (some A) n c) with
    | none => rw [hr] at h; cases h
    | some r => simp only [row_put hr hj]; rw [hr] at h; exact h
  · cases h

theorem new_put {H : Heap} {id j : Nat} {o o' : Ob} (hne : id ≠ j) : (H.put j o').new id o = (H.new id o).map fun _ => (H.put j o').put id o := by
  unfold Heap.new
  rw [Heap.get_put, if_neg (fun e => hne e.symm)]
  split <;> rfl

/-- What an operation that reads or makes a row does: nothing to the heap, or it fills its own pending number. -/
def Fills (i : I) (b : Nat) (H H' : Heap) (f : Heap → Heap) : Prop :=
  H' = f H ∧ ((∀ X, f X = X) ∨ ∃ k ob, i.tgt = some k ∧ H.get (b + k) = some .pend ∧ ∀ X, f X = X.put (b + k) ob)

theorem evI_L {a : Bool} {n : Nat} {x : Opd} {H H' : Heap} {v : Value} (h : evI cl b T H (.load a n x) = some (v, H')) :
    H' = H ∧ ∀ j o, H.get j = some .pend → evI cl b T (H.put j o) (.load a n x) = some (v, H.put j o) := by
  simp only [evI] at h ⊢
  obtain ⟨h1, h2⟩ := map_pair h
  exact ⟨h2, fun j o hj => by rw [loadv_put h1 hj]; rfl⟩

theorem evI_M {i : I} (hc : i.cls = .M) {H H' : Heap} {v : Value} (h : evI cl b T H i = some (v, H')) :
    H' = H ∧ ∀ j o, H.get j = some .pend → evI cl b T (H.put j o) i = some (v, H.put j o) := by
  cases i <;> simp only [I.cls] at hc <;> (try (cases hc; done)) <;> simp only [evI] at h ⊢
  case lookup m z ok x y =>
    obtain ⟨h1, h2⟩ := map_pair h
    exact ⟨h2, fun j o hj => by rw [lookup_put h1 hj]; rfl⟩
  case maplen x =>
    cases he : H.entries (x.ev T) with
    | none => rw [he] at h; cases h
    | some r => rw [he] at h; cases h; exact ⟨rfl, fun j o hj => by rw [entries_put he hj]; rfl⟩
  case b2s x =>
    obtain ⟨h1, h2⟩ := map_pair h
    exact ⟨h2, fun j o hj => by rw [b2s_put h1 hj]; rfl⟩
  case append k e s by_ p x y => cases p <;> simp at hc

theorem new_map {α : Type} {H H' : Heap} {id : Nat} {o : Ob} {g : Heap → α × Heap} {v : α} (h : (H.new id o).map g = some (v, H')) : H.get id = some .pend ∧ g (H.put id o) = (v, H') := by
  cases hn : H.new id o with
  | none => rw [hn] at h; cases h
  | some H1 =>
    rw [hn] at h
    obtain ⟨h1, rfl⟩ := new_spec hn
    exact ⟨h1, by simpa using h⟩

theorem new_map_of {α : Type} {H : Heap} {id : Nat} {o : Ob} {g : Heap → α × Heap} (h : H.get id = some .pend) : (H.new id o).map g = some (g (H.put id o)) := by
  simp [Heap.new, h]

theorem evI_E {i : I} (hc : i.cls = .E) {H H' : Heap} {v : Value} (h : evI cl b T H i = some (v, H')) :
    ∃ k ob, i.tgt = some k ∧ H.get (b + k) = some .pend ∧ H' = H.put (b + k) ob ∧ ∀ X : Heap, X.get (b + k) = some .pend → evI cl b T X i = some (v, X.put (b + k) ob) := by
  cases i <;> simp only [I.cls] at hc <;> (try (cases hc; done)) <;> simp only [evI] at h ⊢
  case alloc k e z =>
    obtain ⟨h1, h2⟩ := new_map h
    cases h2
    exact ⟨k, _, rfl, h1, rfl, fun X hX => new_map_of hX⟩
  case box k e x =>
    split at h
    case isFalse => cases h
    rename_i hok
    obtain ⟨h1, h2⟩ := new_map h
    cases h2
    exact ⟨k, _, rfl, h1, rfl, fun X hX => by rw [if_pos hok]; exact new_map_of hX⟩
  case bslice k e s l z ps =>
    split at h
    case h_2 => cases h
    obtain ⟨h1, h2⟩ := new_map h
    cases h2
    exact ⟨k, _, rfl, h1, rfl, fun X hX => new_map_of hX⟩
  case mkslice k e s by_ z x y =>
    unfold Heap.mkslice at h ⊢
    split at h
    case h_2 => cases h
    rename_i k1 l k2 c hl hcc
    split at h
    case isFalse => cases h
    rename_i hcond
    obtain ⟨h1, h2⟩ := new_map h
    cases h2
    refine ⟨k, _, rfl, h1, rfl, fun X hX => ?_⟩
    simp only [hl, hcc, hcond, and_self, if_true]
    exact new_map_of hX
  case mkmap k =>
    obtain ⟨h1, h2⟩ := new_map h
    cases h2
    exact ⟨k, _, rfl, h1, rfl, fun X hX => new_map_of hX⟩
  case append k e s by_ p x y => cases p <;> simp at hc

theorem evI_Ea {k e s by_ : Nat} {x y : Opd} {H H' : Heap} {v : Value} (h : evI cl b T H (.append k e s by_ true x y) = some (v, H')) :
    (H' = H ∧ ∀ j o, H.get j = some .pend → j ≠ b + k → evI cl b T (H.put j o) (.append k e s by_ true x y) = some (v, H.put j o)) ∨
    ∃ ob, H.get (b + k) = some .pend ∧ H' = H.put (b + k) ob ∧ ∀ j o, H.get j = some .pend → j ≠ b + k → evI cl b T (H.put j o) (.append k e s by_ true x y) = some (v, (H.put j o).put (b + k) ob) := by
  simp only [evI] at h ⊢
  unfold Heap.append at h ⊢
  split at h
  · cases h
  rename_i n new hrow
  split at h
  · rename_i hx
    split at h
    · rename_i hn0
      cases h
      refine .inl ⟨rfl, fun j o hj _ => ?_⟩
      simp only [row_put (o := o) hrow hj, hx, hn0, if_true]
    · rename_i hn0
      split at h
      case isFalse => cases h
      rename_i hb
      obtain ⟨h1, h2⟩ := new_map h
      cases h2
      refine .inr ⟨_, h1, rfl, fun j o hj hne => ?_⟩
      simp only [row_put (o := o) hrow hj, hx, hn0, if_false, hb, and_self, if_true]
      exact new_map_of (by rw [Heap.get_put, if_neg hne]; exact h1)
  · rename_i o0 off ek len cap hx
    split at h
    · rename_i hn0
      cases h
      refine .inl ⟨rfl, fun j o hj _ => ?_⟩
      simp only [row_put (o := o) hrow hj, hx, hn0, if_true, if_false]
    · rename_i hn0
      split at h
      · cases h
      rename_i hek
      split at h
      · simp at h
      rename_i hfit
      split at h
      · cases h
      rename_i n2 old hrow2
      split at h
      case isFalse => cases h
      rename_i hb
      split at h
      case isFalse => simp at h
      rename_i hex
      obtain ⟨h1, h2⟩ := new_map h
      cases h2
      refine .inr ⟨_, h1, rfl, fun j o hj hne => ?_⟩
      have hrow2' := row_put (o := o) hrow2 hj
      rw [hx] at hrow2'
      simp only [row_put (o := o) hrow hj, hx]
      rw [if_neg hn0, if_neg hek]
      simp only [hn0, if_false, hfit, hrow2', hb, and_self, if_true, hex]
      have h1' : (H.put j o).get (b + k) = some .pend := by rw [Heap.get_put, if_neg hne]; exact h1
      exact new_map_of h1'
  · cases h

theorem veq1_eq {a b : Value} (h : veq1 a b = true) : a = b := by
  unfold veq1 at h
  split at h
  case h_3 s s' =>
    have h1 : ByteArray.beq s s' = true := h
    unfold ByteArray.beq at h1
    rw [ByteArray.ext (eq_of_beq h1)]
  all_goals simp_all

theorem veqs_eq : ∀ {l l' : List Value}, veqs l l' = true → l = l'
  | [], [], _ => rfl
  | [], _ :: _, h => by simp [veqs] at h
  | _ :: _, [], h => by simp [veqs] at h
  | x :: l, y :: l', h => by
    simp only [veqs, Bool.and_eq_true] at h
    rw [veq1_eq h.1, veqs_eq h.2]

theorem veq_eq {a b : Value} (h : veq a b = true) : a = b := by
  unfold veq at h
  split at h
  · have := veqs_eq h
    rw [Array.toList_inj] at this
    rw [this]
  · exact veq1_eq h

theorem chkOk_less {log : Tr Lg} {i : I} {v : Value} {y : Nat} {e : Lg} : ∀ {l : List Nat}, chkOk (log.set y e) T i v l = true → chkOk log T i v (l.filter fun c => c != y) = true := by
  intro l
  induction l with
  | nil => intro _; rfl
  | cons c l ih =>
    intro h
    simp only [chkOk, Bool.and_eq_true] at h
    by_cases hc : c = y
    · subst hc
      simp only [List.filter_cons, bne_self_eq_false, Bool.false_eq_true, if_false]
      exact ih h.2
    · have : (c != y) = true := by simpa using hc
      simp only [List.filter_cons, this, if_true, chkOk, Bool.and_eq_true]
      refine ⟨?_, ih h.2⟩
      have h1 := h.1
      rw [Tr.get_set_ne _ _ _ _ (fun e => hc e.symm)] at h1
      exact h1

theorem chkOk_hit {log : Tr Lg} {i : I} {v : Value} {y : Nat} {e : Lg} : ∀ {l : List Nat}, chkOk (log.set y e) T i v l = true → l.contains y = true → chk1 T i v (some e) = true := by
  intro l
  induction l with
  | nil => intro _ h; simp at h
  | cons c l ih =>
    intro h hm
    simp only [chkOk, Bool.and_eq_true] at h
    by_cases hc : y = c
    · subst hc
      have h1 := h.1
      rw [Tr.get_set_same] at h1
      exact h1
    · exact ih h.2 (by simpa [hc] using hm)

theorem chkOk_filter {log : Tr Lg} {i : I} {v : Value} (p : Nat → Bool) : ∀ {l : List Nat}, chkOk log T i v l = true → chkOk log T i v (l.filter p) = true := by
  intro l
  induction l with
  | nil => intro _; rfl
  | cons c l ih =>
    intro h
    simp only [chkOk, Bool.and_eq_true] at h
    simp only [List.filter_cons]
    split
    · simp only [chkOk, Bool.and_eq_true]; exact ⟨h.1, ih h.2⟩
    · exact ih h.2

def Ins.less (x : Ins) (y : Nat) : Ins := { x with chk := x.chk.filter fun c => c != y }

theorem evW_some {i : Ins} {s : St} {v : Value} {H' : Heap} (h : evW cl b i s = some (v, H')) :
    (i.wanted s.T = some true ∧ evI cl b s.T s.H i.op = some (v, H') ∧ chkOk s.log s.T i.op v i.chk = true) ∨ (i.wanted s.T = some false ∧ v = undef ∧ H' = s.H) := by
  unfold evW at h
  split at h
  · rename_i hw
    split at h
    case h_2 => cases h
    rename_i v' H1 he
    split at h
    case isFalse => cases h
    rename_i hck
    cases h
    exact .inl ⟨hw, he, hck⟩
  · rename_i hw
    cases h
    exact .inr ⟨hw, rfl, rfl⟩
  · cases h

theorem evW_of {i : Ins} {s : St} {v : Value} {H' : Heap} (hw : i.wanted s.T = some true) (he : evI cl b s.T s.H i.op = some (v, H')) (hc : chkOk s.log s.T i.op v i.chk = true) : evW cl b i s = some (v, H') := by
  simp [evW, hw, he, hc]
theorem evW_not {i : Ins} {s : St} (hw : i.wanted s.T = some false) : evW cl b i s = some (undef, s.H) := by
  simp [evW, hw]

theorem cls_load {i : I} (h : i.cls = .L) : ∃ a n x, i = .load a n x := by
  cases i <;> simp [I.cls] at h
  case load a n x => exact ⟨a, n, x, rfl⟩
  case append k e s by_ p x y => cases p <;> simp at h
theorem cls_ea {i : I} (h : i.cls = .Ea) : ∃ k e s by_ x y, i = .append k e s by_ true x y := by
  cases i <;> simp [I.cls] at h
  case append k e s by_ p x y => cases p <;> simp at h; exact ⟨k, e, s, by_, x, y, rfl⟩
theorem cls_call {i : I} (h : i.cls ≠ .C) : i.isCall = false := by
  cases i <;> first | rfl | simp [I.cls] at h
theorem isCall_cls {i : I} (h : i.cls = .C) : i.isCall = true := by
  cases i <;> simp [I.cls] at h <;> try rfl
  case append k e s by_ p x y => cases p <;> simp at h

theorem cls_store {i : I} (h : i.isStore = true) : ∃ n a x, i = .store n a x := by
  cases i <;> simp [I.isStore] at h
  case store n a x => exact ⟨n, a, x, rfl⟩

theorem comm_spec {y x : Ins} (h : comm y x = true) : (y.idx ≠ x.idx ∧ y.chk.contains x.idx = false) ∧ (∀ d, y.dst = some d → d ∉ x.reads ∧ x.dst ≠ some d) ∧ (∀ d, x.dst = some d → d ∉ y.reads) ∧
    (y.op.cls = .P ∨ x.op.cls = .P ∨ ((y.op.cls = .L ∨ y.op.cls = .M) ∧ (x.op.cls = .L ∨ x.op.cls = .M)) ∨
      (((y.op.cls = .L ∨ y.op.cls = .M) ∧ (x.op.cls = .E ∨ x.op.cls = .Ea) ∨ (y.op.cls = .E ∨ y.op.cls = .Ea) ∧ x.op.cls = .E) ∧ (y.op.tgt = none ∨ y.op.tgt ≠ x.op.tgt)) ∨
      (y.op.cls = .C ∧ x.op.cls = .E) ∨ ((y.op.cls = .C ∨ y.op.cls = .E) ∧ x.op.cls = .L ∧ y.lg = true ∧ x.chk.contains y.idx = true) ∨
      (y.op.cls = .L ∧ x.op.cls = .W ∧ y.lg = true ∧ x.op.isStore = true ∧ x.chk.contains y.idx = true) ∨ (y.op.cls = .L ∧ x.op.cls = .V)) := by
  unfold comm at h
  simp only [Bool.and_eq_true] at h
  obtain ⟨⟨⟨h1, h2⟩, h3⟩, h4⟩ := h
  refine ⟨⟨by simpa using h1.1, by simpa using h1.2⟩, fun d hd => ?_, fun d hd => ?_, ?_⟩
  · rw [hd] at h2; simpa using h2
  · rw [hd] at h3; simpa using h3
  · cases hy : y.op.cls <;> cases hx : x.op.cls <;> rw [hy, hx] at h4 <;> simp at h4 <;> simp
    all_goals first | exact h4 | (rcases h4 with h4 | h4 <;> simp [h4]) | simp [h4]

end Go.Proofs.YtiphbdhclldllaaGreatDoor.Mx
