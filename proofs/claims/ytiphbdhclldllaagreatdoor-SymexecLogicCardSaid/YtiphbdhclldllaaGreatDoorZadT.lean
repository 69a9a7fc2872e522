/- Single operations, eighth part: copies, clearing, bytes, arrays as slices. -/
import Derived.Test.YtiphbdhclldllaaGreatDoorZadS
set_option linter.unusedSimpArgs false
set_option linter.unusedVariables false
namespace Go.Proofs.YtiphbdhclldllaaGreatDoor.Mx
open Go

section
variable {P : Program} {B0 : Bs} {w0 : World} {β : Emb} {H : Heap} {w : World}

/-- The first elements of a slice's row. -/
theorem row_first (R : WRel B0 w0 β H w) {s n : Nat} {cs : List Value} {y y' : Value} (h : H.row s y = some (n, cs)) (hs : isSlc y = true) (hy : VR β y y') {m : Nat} (hm : m ≤ n) :
    ∃ c', VRs β (cs.take (m * s)) c'.toList ∧ (Builtin.lenOf y').run P w = .ok n w ∧ (Builtin.firstCells s m y').run P w = .ok c' w := by
  unfold Heap.row at h
  split at h
  · cases h; cases hy
    have : m = 0 := by omega
    subst this
    exact ⟨#[], by simpa using VRs.nil β, by simp [Builtin.lenOf], by simp [Builtin.firstCells]⟩
  · rename_i id off x len cap
    split at h
    · rename_i h0
      subst h0
      cases h
      have : m = 0 := by omega
      subst this
      have key : ∀ a c, ∃ c' : Array Value, VRs β (([] : List Value).take (0 * s)) c'.toList ∧ (Builtin.lenOf (.slice (some a) 0 c)).run P w = .ok 0 w ∧ (Builtin.firstCells s 0 (.slice (some a) 0 c)).run P w = .ok c' w :=
        fun a c => ⟨#[], by simpa using VRs.nil β, by simp [Builtin.lenOf], by simp [Builtin.firstCells, loadCells, loadCellsFrom]⟩
      cases hy <;> exact key _ _
    · rename_i h0
      split at h
      case h_2 => cases h
      rename_i e ro cs0 hg
      split at h
      case isFalse => cases h
      rename_i hle
      cases h
      cases hy with
      | slice _ _ mk _ _ cap' l hl h1 h2 h3 h4 =>
        obtain ⟨c, e', fz, g1, g2, g3, g4, g5⟩ := R.ob id l e ro cs0 hl hg
        have hms : m * s ≤ n * s := Nat.mul_le_mul_right s hm
        have hlen : ((c.toList.drop (l.o + off)).take (m * s)).length = m * s := by simp; omega
        refine ⟨((c.toList.drop (l.o + off)).take (m * s)).toArray, ?_, by simp [Builtin.lenOf], ?_⟩
        · rw [List.take_take, Nat.min_eq_left hms]
          simpa using vrs_range g5 off (m * s) (by omega) (by omega)
        have hld := run_loadCells_list (P := P) w ⟨l.b, l.o + off, none⟩ ((c.toList.drop (l.o + off)).take (m * s)) (fun j v hj => by
          rw [add_none, cell_of g1]
          rw [List.getElem?_take] at hj
          split at hj
          · rw [List.getElem?_drop, Array.getElem?_toList] at hj; exact hj
          · cases hj)
        rw [hlen] at hld
        simp only [Builtin.firstCells]
        exact hld
      | slice0 _ _ _ A => exact absurd rfl h0
  · simp [isSlc] at hs
  · cases h

theorem copy_sim (R : WRel B0 w0 β H w) {t e ty s : Nat} {ts : Array TypeId} {x x' y y' v : Value} {H' : Heap} (ht : ts[0]? = some t) (hu : P.underlying t = some (.slice e)) (hs : sizeOfT P e = some s)
    (hx : VR β x x') (hy : VR β y y') (hv : H.copy s x y = some (v, H')) : Good B0 w0 β H' v ((Builtin.copy_ ts ty #[x', y']).run P w) := by
  unfold Heap.copy at hv
  split at hv
  case isFalse => cases hv
  rename_i hsl
  split at hv
  · rename_i n0 cs0 hrow
    cases hv; cases hx
    obtain ⟨c', _, h2, h3⟩ := row_first (P := P) R hrow hsl hy (m := 0) (by omega)
    refine Good.same R (v' := .int .i64 0) ?_ (.int _ _)
    simp [Builtin.copy_, ht, run_und hu, h2, run_sizeOfT hs, h3, goInt]
  · rename_i n new o off mk len cap hrow
    obtain ⟨c', h1, h2, h3⟩ := row_first (P := P) R hrow hsl hy (m := min n len) (Nat.min_le_left _ _)
    have hnl := (row_sim (P := P) R hrow hy).1
    split at hv
    · rename_i hm0
      cases hv
      rw [hm0] at h1 h3
      have hc0 : c'.toList = [] := by have := h1.1; simp at this; simpa using this.symm
      have key : ∀ A c, (Builtin.copy_ ts ty #[.slice (some A) len c, y']).run P w = .ok (.int .i64 0) w := by
        intro A c
        have hmn : Nat.min n len = 0 := hm0
        simp [Builtin.copy_, ht, run_und hu, h2, run_sizeOfT hs, hmn, h3, hc0, storeCells, goInt]
      cases hx with
      | slice _ _ _ _ _ cap' l hl' g1 g2 g3 g4 => exact Good.same R (key _ _) (.int _ _)
      | slice0 _ _ _ A => exact Good.same R (key A _) (.int _ _)
    · rename_i hm0
      split at hv
      case h_2 => cases hv
      rename_i e1 cs hg
      split at hv
      case isFalse => cases hv
      rename_i hb
      obtain ⟨hb1, hb2⟩ := hb
      cases hv
      cases hx with
      | slice _ _ _ _ _ cap' l hl' g1 g2 g3 g4 =>
        have hms : min n len * s ≤ n * s := Nat.mul_le_mul_right s (Nat.min_le_left _ _)
        have hlen : (new.take (min n len * s)).length = min n len * s := by simp; omega
        have hall : (new.take (min n len * s)).all okCell = true := by
          rw [List.all_eq_true] at hb2 ⊢
          exact fun v hv => hb2 v (List.mem_of_mem_take hv)
        obtain ⟨w', k1, k2⟩ := write_sim (P := P) R hl' hg h1 hall (off := off) (by rw [hlen]; exact hb1)
        refine ⟨β, .int .i64 (min n len : Nat), w', ?_, Emb.le_refl β, k2, .int _ _⟩
        have hmn : Nat.min n len = min n len := rfl
        simp only [Builtin.copy_, ht, List.getElem?_toArray, List.getElem?_cons_zero, List.getElem?_cons_succ, Sem.run_bind, run_und hu, Result.andThen_ok, h2, run_sizeOfT hs, hmn, h3, k1, Sem.run_pure, goInt]
      | slice0 _ _ _ A => simp at hm0
  · cases hv

theorem clear_sim (R : WRel B0 w0 β H w) {t e ty s : Nat} {ts : Array TypeId} {z : List Value} {x x' : Value} {H' : Heap} (ht : ts[0]? = some t) (hu : P.underlying t = some (.slice e)) (hs : sizeOfT P e = some s) (hz : zeroOf P e = some z) (hpos : 0 < s)
    (hx : VR β x x') (hv : H.clear s z x = some H') : ∃ w', (Builtin.clear_ ts ty #[x']).run P w = .ok (.tuple #[]) w' ∧ WRel B0 w0 β H' w' := by
  obtain ⟨i, zv, hi, hz1, hz2, hz3, hz4⟩ := zeroOf_spec hz
  have hzc : zv.cells = z.toArray := by rw [← hz2]
  unfold Heap.clear at hv
  split at hv
  · cases hv; cases hx
    exact ⟨w, by simp [Builtin.clear_, ht, run_und hu], R⟩
  · rename_i o off mk len cap
    split at hv
    · rename_i h0
      subst h0
      cases hv
      cases hx <;> exact ⟨w, by simp [Builtin.clear_, ht, run_und hu], R⟩
    · rename_i h0
      split at hv
      case h_2 => cases hv
      rename_i e1 cs hg
      split at hv
      case isFalse => cases hv
      rename_i hb
      obtain ⟨hb1, hb2⟩ := hb
      cases hv
      have hall : ((List.replicate len z).flatten).all leafClosed = true := by
        simp only [List.all_eq_true, List.mem_flatten, List.mem_replicate]
        rintro v ⟨l, ⟨_, rfl⟩, hv⟩
        exact List.all_eq_true.1 hz4 v hv
      have hok : ((List.replicate len z).flatten).all okCell = true := by
        rw [List.all_eq_true] at hall ⊢
        intro v hv
        have := hall v hv
        cases v <;> simp [leafClosed] at this <;> rfl
      have hlen : ((List.replicate len z).flatten).length = len * s := by simp [hb1]
      cases hx with
      | slice _ _ _ _ _ cap' l hl' g1 g2 g3 g4 =>
        obtain ⟨w', k1, k2⟩ := write_sim (P := P) R hl' hg (VRs.ofLeaf β hall) hok (off := off) (by rw [hlen]; exact hb2)
        refine ⟨w', ?_, k2⟩
        have hzr : Builtin.zeroCells z.toArray len = ((List.replicate len z).flatten).toArray := by
          have := range_map_eq z (by omega) len
          simpa [Builtin.zeroCells] using this
        obtain ⟨ln, rfl⟩ : ∃ ln, len = ln + 1 := ⟨len - 1, by omega⟩
        simp only [Builtin.clear_, ht, List.getElem?_toArray, List.getElem?_cons_zero, Sem.run_bind, run_und hu, Result.andThen_ok, run_zero hi hz1, hzc, hzr, k1, Sem.run_pure]
      | slice0 _ _ _ A => exact absurd rfl h0
  · cases hv

theorem bytes_loop {f : Value → ByteArray → Sem (ForInStep ByteArray)} (hf : ∀ n s, f (.int .u8 n) s = pure (ForInStep.yield (s.push (UInt8.ofNat n.toNat)))) : ∀ (cs : List Value) (l : List UInt8) (acc : Array UInt8), bytesOf cs = some l →
    (forIn (m := Sem) cs (⟨acc⟩ : ByteArray) f).run P w = .ok ⟨acc ++ l.toArray⟩ w := by
  intro cs
  induction cs with
  | nil => intro l acc h; simp [bytesOf] at h; subst h; simp
  | cons c cs ih =>
    intro l acc h
    unfold bytesOf at h
    split at h
    · rename_i e; cases e
    · rename_i n cs' e
      cases e
      cases hq : bytesOf cs with
      | none => rw [hq] at h; cases h
      | some r =>
        rw [hq] at h; cases h
        simp only [List.forIn_cons, hf, Sem.run_bind, Sem.run_pure, Result.andThen_ok]
        have := ih r (acc.push (UInt8.ofNat n.toNat)) hq
        refine Eq.trans this ?_
        simp
    · cases h

theorem cap_sim (R : WRel B0 w0 β H w) {t e ty : Nat} {ts : Array TypeId} {x x' v : Value} (ht : ts[0]? = some t) (hu : P.underlying t = some (.slice e)) (hx : VR β x x') (hv : capV x = some v) :
    Good B0 w0 β H v ((Builtin.cap_ ts ty #[x']).run P w) := by
  unfold capV at hv
  split at hv
  · cases hv; cases hx
    exact Good.same R (by simp [Builtin.cap_, ht, run_und hu, goInt]) (.int _ _)
  · rename_i o off m len cap
    split at hv
    case isFalse => cases hv
    rename_i hm
    cases hv
    cases hx with
    | slice _ _ _ _ _ cap' l hl' g1 g2 g3 g4 => exact Good.same R (v' := .int .i64 cap) (by simp [Builtin.cap_, ht, run_und hu, goInt, g3 hm]) (.int _ _)
    | slice0 _ _ _ A => exact Good.same R (v' := .int .i64 (0 : Nat)) (by simp [Builtin.cap_, ht, run_und hu, goInt]) (.int _ _)
  · cases hv

theorem aslice_sim (R : WRel B0 w0 β H w) {t e s n : Nat} {x x' v : Value} {lo lo' hi hi' : Option Value} (hu : P.underlying t = some (.array n e)) (hs : sizeOfT P e = some s)
    (hx : VR β x x') (hlo : VRo β lo lo') (hhi : VRo β hi hi') (hv : asliceV n s x lo hi = some v) : Good B0 w0 β H v ((Instr.sliceAt t x' lo' hi' none).run P w) := by
  unfold asliceV at hv
  split at hv
  case h_2 => cases hv
  rename_i id off h l e2 e3
  split at hv
  case isFalse => cases hv
  rename_i hb
  cases hv
  cases hx with
  | ptr _ _ lc hl =>
  have fh : (hi' = none ∧ (none : Option Value) = none ∧ h = (n : Int)) ∨ ∃ k, hi' = some (.int k h) := by
    rcases optInt_spec e2 hhi with ⟨_, hn', e⟩ | ⟨k, _, e⟩
    · exact .inl ⟨hn', rfl, e⟩
    · exact .inr ⟨k, e⟩
  have fl : (lo' = none ∧ l = 0) ∨ ∃ k, lo' = some (.int k l) := by
    rcases optInt_spec e3 hlo with ⟨_, hn', e⟩ | ⟨k, _, e⟩
    · exact .inl ⟨hn', e⟩
    · exact .inr ⟨k, e⟩
  have hrun := sliceBounds_run (P := P) (isS := false) (len := n) (cap := n) (m := n) (.inl ⟨rfl, rfl⟩) fh fl hb.1 hb.2.1 hb.2.2 (by omega) w
  by_cases hml : n = l.toNat
  · refine Good.same R (v' := .slice (some ⟨lc.b, lc.o + off, none⟩) (h.toNat - l.toNat) (n - l.toNat)) ?_ ?_
    · simp [Instr.sliceAt, run_und hu, Instr.sureAddr, hrun, run_sizeOfT hs, ← hml]
    · rw [show h.toNat - l.toNat = 0 by omega, show n - l.toNat = 0 by omega]
      exact .slice0 _ _ _ _
  · refine Good.same R (v' := .slice (some ⟨lc.b, lc.o + (off + l.toNat * s), none⟩) (h.toNat - l.toNat) (n - l.toNat)) ?_ ?_
    · simp [Instr.sliceAt, run_und hu, Instr.sureAddr, hrun, run_sizeOfT hs, hml, add_none, Nat.add_assoc]
    · exact .slice id (off + l.toNat * s) 1 _ _ _ lc hl (by omega) (by omega) (fun _ => rfl) (fun h => absurd rfl h)

theorem bytesOf_vr {β : Emb} : ∀ {cs cs' : List Value} {l : List UInt8}, bytesOf cs = some l → VRs β cs cs' → bytesOf cs' = some l
  | [], [], l, h, _ => h
  | [], _ :: _, _, _, h => by have := h.1; simp at this
  | _ :: _, [], _, _, h => by have := h.1; simp at this
  | c :: cs, c' :: cs', l, h, hv => by
    have h0 : VR β c c' := by obtain ⟨u, h1, h2⟩ := hv.2 0 c rfl; simp at h1; subst h1; exact h2
    have ht : VRs β cs cs' := ⟨by have := hv.1; simpa using this, fun i u hu => by obtain ⟨u', h1, h2⟩ := hv.2 (i + 1) u (by simpa using hu); exact ⟨u', by simpa using h1, h2⟩⟩
    unfold bytesOf at h
    split at h
    · rename_i e; cases e
    · rename_i n cs2 e
      cases e
      cases h0
      cases hq : bytesOf cs with
      | none => rw [hq] at h; cases h
      | some r =>
        rw [hq] at h
        simp only [bytesOf, bytesOf_vr hq ht]
        exact h
    · cases h

theorem b2s_sim (R : WRel B0 w0 β H w) {t e : Nat} {d : Nat} {x x' v : Value} (hs : P.underlying t = some (.slice e)) (hd : P.underlying d = some .string) (he : P.underlying e = some (.int .u8)) (hx : VR β x x') (hv : H.b2s x = some v) :
    Good B0 w0 β H v ((convert t d x').run P w) := by
  have red : ∀ a n c, (convert t d (.slice a n c)).run P w = (Conv.bytesToString (.slice a n c)).run P w := by
    intro a n c
    simp [convert, run_und hs, run_und hd, run_und he]
  unfold Heap.b2s at hv
  split at hv
  · cases hv; cases hx
    exact Good.same R (v' := .string .empty) (by rw [red]; simp [Conv.bytesToString]) (.str _)
  · rename_i A len cap
    split at hv
    case h_2 => cases hv
    rename_i n cs hrow
    cases hb : bytesOf cs with
    | none => rw [hb] at hv; cases hv
    | some l =>
      rw [hb] at hv
      cases hv
      obtain ⟨_, c', hc1, hc2⟩ := row_sim (P := P) R hrow hx
      obtain ⟨k1, k2⟩ := hc2 w rfl
      have hbc := bytesOf_vr hb hc1
      have main : ∀ A ln cp, x' = .slice (some A) ln cp → (convert t d x').run P w = .ok (.string ⟨l.toArray⟩) w := by
        intro A ln cp hxe
        subst hxe
        have hn : n = ln := by simpa [Builtin.lenOf] using k1.symm
        subst hn
        have k2' : (loadCells A n).run P w = .ok c' w := by simpa [Builtin.firstCells] using k2
        rw [red]
        simp only [Conv.bytesToString, Sem.run_bind, k2', Result.andThen_ok]
        rw [← Array.forIn_toList]
        have lp : ∀ f : Value → ByteArray → Sem (ForInStep ByteArray), (∀ n s, f (.int .u8 n) s = pure (ForInStep.yield (s.push (UInt8.ofNat n.toNat)))) → (forIn (m := Sem) c'.toList ByteArray.empty f).run P w = .ok ⟨#[] ++ l.toArray⟩ w :=
          fun f hf => bytes_loop (P := P) (w := w) hf c'.toList l #[] hbc
        rw [lp _ (fun n s => rfl)]
        simp
      cases hx with
      | slice _ _ _ _ _ cap' l' hl' g1 g2 g3 g4 => exact Good.same R (main _ _ _ rfl) (.str _)
      | slice0 _ _ _ A => exact Good.same R (main _ _ _ rfl) (.str _)
  · cases hv

end
end Go.Proofs.YtiphbdhclldllaaGreatDoor.Mx
