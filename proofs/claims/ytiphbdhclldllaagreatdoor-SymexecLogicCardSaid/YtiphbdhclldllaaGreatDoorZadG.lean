/- Single operations, fourth part: slices. -/
import Derived.Test.YtiphbdhclldllaaGreatDoorZadF
set_option linter.unusedSimpArgs false
set_option linter.unusedVariables false
namespace Go.Proofs.YtiphbdhclldllaaGreatDoor.Mx
open Go

section
variable {P : Program} {B0 : Bs} {w0 : World} {β : Emb} {H : Heap} {w : World}

def VRo (β : Emb) (a a' : Option Value) : Prop := (a = none ∧ a' = none) ∨ ∃ v v', a = some v ∧ a' = some v' ∧ VR β v v'

theorem optInt_spec {β : Emb} {d n : Int} {a a' : Option Value} (h : optInt d a = some n) (hr : VRo β a a') : (a = none ∧ a' = none ∧ n = d) ∨ ∃ k, a = some (.int k n) ∧ a' = some (.int k n) := by
  rcases hr with ⟨rfl, rfl⟩ | ⟨v, v', rfl, rfl, hv⟩
  · simp [optInt] at h; exact .inl ⟨rfl, rfl, h.symm⟩
  · cases hv <;> simp [optInt, junk, opq] at h
    subst h
    exact .inr ⟨_, rfl, rfl⟩

theorem sliceBound_run {k : IntKind} {n : Int} {y : Nat} {code : BoundsCode} (h0 : 0 ≤ n) (h1 : n ≤ y) (w : World) : (Instr.sliceBound (.int k n) y code).run P w = .ok n.toNat w := by
  simp [Instr.sliceBound, asIntOf, h0, h1]

theorem sliceBounds_run {isS : Bool} {len cap : Nat} {lo hi mx : Option Value} {l h m : Int} (hm : (mx = none ∧ m = cap) ∨ ∃ k, mx = some (.int k m))
    (hh : (hi = none ∧ mx = none ∧ h = len) ∨ ∃ k, hi = some (.int k h)) (hl : (lo = none ∧ l = 0) ∨ ∃ k, lo = some (.int k l)) (h0 : 0 ≤ l) (h1 : l ≤ h) (h2 : h ≤ m) (h3 : m ≤ cap) (w : World) :
    (Instr.sliceBounds isS len cap lo hi mx).run P w = .ok (l.toNat, h.toNat, m.toNat) w := by
  rcases hm with ⟨rfl, rfl⟩ | ⟨km, rfl⟩
  · rcases hh with ⟨rfl, _, rfl⟩ | ⟨kh, rfl⟩
    · rcases hl with ⟨rfl, rfl⟩ | ⟨kl, rfl⟩
      · simp [Instr.sliceBounds]
      · simp [Instr.sliceBounds, sliceBound_run h0 h1]
    · have e1 : h ≤ (cap : Int) := h2
      rcases hl with ⟨rfl, rfl⟩ | ⟨kl, rfl⟩
      · simp [Instr.sliceBounds, sliceBound_run h1 e1]
      · have e2 : l ≤ (h.toNat : Int) := by omega
        simp [Instr.sliceBounds, sliceBound_run (show (0 : Int) ≤ h by omega) e1, sliceBound_run h0 e2]
  · have e0 : (0 : Int) ≤ m := by omega
    rcases hh with ⟨rfl, hx, rfl⟩ | ⟨kh, rfl⟩
    · cases hx
    · have e1 : h ≤ (m.toNat : Int) := by omega
      rcases hl with ⟨rfl, rfl⟩ | ⟨kl, rfl⟩
      · simp [Instr.sliceBounds, sliceBound_run e0 h3, sliceBound_run h1 e1]
      · have e2 : l ≤ (h.toNat : Int) := by omega
        simp [Instr.sliceBounds, sliceBound_run e0 h3, sliceBound_run (show (0 : Int) ≤ h by omega) e1, sliceBound_run h0 e2]

theorem slice_sim (R : WRel B0 w0 β H w) {t e s : Nat} {x x' v : Value} {lo lo' hi hi' mx mx' : Option Value} (hu : P.underlying t = some (.slice e)) (hs : sizeOfT P e = some s) (hpos : 0 < s)
    (hmh : mx.isSome → hi.isSome) (hx : VR β x x') (hlo : VRo β lo lo') (hhi : VRo β hi hi') (hmx : VRo β mx mx') (hv : sliceV s x lo hi mx = some v) :
    Good B0 w0 β H v ((Instr.sliceAt t x' lo' hi' mx').run P w) := by
  have hred : (Instr.sliceAt t x' lo' hi' mx').run P w = (Instr.slice t x' lo' hi' mx').run P w := by simp [Instr.sliceAt, run_und hu]
  unfold sliceV at hv
  split at hv
  · rename_i id off ek len cap
    split at hv
    case h_2 => cases hv
    rename_i m h l e1 e2 e3
    split at hv
    case isFalse => cases hv
    rename_i hb
    obtain ⟨b1, b2, b3, b4, b5⟩ := hb
    cases hv
    have f1 := optInt_spec e1 hmx
    have f2 := optInt_spec e2 hhi
    have f3 := optInt_spec e3 hlo
    have fh : (hi' = none ∧ mx' = none ∧ h = (len : Int)) ∨ ∃ k, hi' = some (.int k h) := by
      rcases f2 with ⟨hn, hn', e⟩ | ⟨k, _, e⟩
      · refine .inl ⟨hn', ?_, e⟩
        rcases f1 with ⟨_, hm', _⟩ | ⟨k, hm, _⟩
        · exact hm'
        · rw [hm, hn] at hmh; simp at hmh
      · exact .inr ⟨k, e⟩
    have fl : (lo' = none ∧ l = 0) ∨ ∃ k, lo' = some (.int k l) := by
      rcases f3 with ⟨_, hn', e⟩ | ⟨k, _, e⟩
      · exact .inl ⟨hn', e⟩
      · exact .inr ⟨k, e⟩
    cases hx with
    | slice _ _ _ _ _ cap' lc hl h1 h2 h3 h4 =>
      have fm : ∃ m' : Int, ((mx' = none ∧ m' = (cap' : Int)) ∨ ∃ k, mx' = some (.int k m')) ∧ m ≤ m' ∧ m' ≤ cap' ∧ (mx.isSome = true → m' = m) ∧ (mx.isSome = false → m' = cap' ∧ m = cap) := by
        rcases f1 with ⟨hn, hn', e⟩ | ⟨k, hn, e⟩
        · exact ⟨cap', .inl ⟨hn', rfl⟩, by omega, by omega, by simp [hn], fun _ => ⟨rfl, e⟩⟩
        · exact ⟨m, .inr ⟨k, e⟩, by omega, by omega, fun _ => rfl, by simp [hn]⟩
      obtain ⟨m', fm1, fm2, fm3, fm4, fm5⟩ := fm
      have hrun := sliceBounds_run (P := P) (isS := true) fm1 fh fl b1 b2 (show h ≤ m' by omega) fm3 w
      by_cases hml : m' = l
      · refine Good.same R (v' := .slice (some ⟨lc.b, lc.o + off, none⟩) (h.toNat - l.toNat) (m'.toNat - l.toNat)) ?_ ?_
        · rw [hred]; simp [Instr.slice, run_und hu, hrun, run_sizeOfT hs, hml]
        · rw [show h.toNat - l.toNat = 0 by omega, show m.toNat - l.toNat = 0 by omega, show m'.toNat - l.toNat = 0 by omega]
          exact .slice0 _ _ _ _
      · have hml' : ¬ m'.toNat = l.toNat := by omega
        refine Good.same R (v' := .slice (some ⟨lc.b, lc.o + (off + l.toNat * s), none⟩) (h.toNat - l.toNat) (m'.toNat - l.toNat)) ?_ ?_
        · rw [hred]; simp [Instr.slice, run_und hu, hrun, run_sizeOfT hs, hml', add_none, Nat.add_assoc]
        · refine .slice id (off + l.toNat * s) _ _ _ _ lc hl (by omega) (by omega) (fun hodd => ?_) (fun hne => ?_)
          · cases hm : mx.isSome with
            | true => rw [fm4 hm]
            | false =>
              simp only [hm, Bool.false_eq_true, false_and, if_false] at hodd
              obtain ⟨q1, q2⟩ := fm5 hm
              have := h3 hodd
              omega
          · have hms : m'.toNat * s ≤ cap' * s := Nat.mul_le_mul_right s (by omega)
            have hsub : (m'.toNat - l.toNat) * s = m'.toNat * s - l.toNat * s := Nat.sub_mul _ _ _
            have hlm : l.toNat * s ≤ m'.toNat * s := Nat.mul_le_mul_right s (by omega)
            have hek : ek ≠ 1 := by
              intro e
              subst e
              simp at hne
            by_cases hlz : l = 0 ∧ (mx = none ∨ m = 0)
            · obtain ⟨hl0, hmz⟩ := hlz
              subst hl0
              rcases hmz with hmz | hmz
              · obtain ⟨q1, q2⟩ := fm5 (by simp [hmz])
                simp only [hmz, Option.isSome_none, Bool.false_eq_true, false_and, if_false] at hne ⊢
                have := h4 hne
                simp only [Int.toNat_zero, Nat.zero_mul, Nat.add_zero, Nat.sub_zero]
                rw [show m'.toNat = cap' by omega]
                exact this
              · cases hm : mx.isSome with
                | true => exact absurd (by rw [fm4 hm]; exact hmz) hml
                | false =>
                  obtain ⟨q1, q2⟩ := fm5 hm
                  simp only [hm, Bool.false_eq_true, false_and, if_false] at hne ⊢
                  have := h4 hne
                  simp only [Int.toNat_zero, Nat.zero_mul, Nat.add_zero, Nat.sub_zero]
                  rw [show m'.toNat = cap' by omega]
                  exact this
            have hk : ek / 2 = s := by
              rcases b5 with h | h | h
              · exact h
              · exact absurd h hek
              · exact absurd h hlz
            have hk2 : (if mx.isSome = true ∧ ek ≠ 1 then 2 * s + 1 else ek) / 2 = s := by split <;> omega
            rw [hk2]
            rw [hk] at h4
            have := h4 (by omega)
            omega
    | slice0 _ _ _ A =>
      have hm0 : m = 0 := by omega
      have hh0 : h = 0 := by omega
      have hl0 : l = 0 := by omega
      subst hm0; subst hh0; subst hl0
      have fm : (mx' = none ∧ (0 : Int) = ((0 : Nat) : Int)) ∨ ∃ k, mx' = some (.int k 0) := by
        rcases f1 with ⟨hn, hn', e⟩ | ⟨k, hn, e⟩
        · exact .inl ⟨hn', rfl⟩
        · exact .inr ⟨k, e⟩
      have hrun := sliceBounds_run (P := P) (isS := true) (cap := 0) fm fh fl (by omega) (by omega) (by omega) (by simp) w
      refine Good.same R (v' := .slice (some A) 0 0) ?_ (.slice0 _ _ _ _)
      rw [hred]; simp [Instr.slice, run_und hu, hrun, run_sizeOfT hs]
  · rename_i len cap
    split at hv
    case h_2 => cases hv
    rename_i m h l e1 e2 e3
    split at hv
    case isFalse => cases hv
    rename_i hb
    obtain ⟨rfl, rfl, rfl, rfl, rfl⟩ := hb
    cases hv; cases hx
    have fm : (mx' = none ∧ (0 : Int) = ((0 : Nat) : Int)) ∨ ∃ k, mx' = some (.int k 0) := by
      rcases optInt_spec e1 hmx with ⟨_, hn', _⟩ | ⟨k, _, e⟩
      · exact .inl ⟨hn', rfl⟩
      · exact .inr ⟨k, e⟩
    have fh : (hi' = none ∧ mx' = none ∧ (0 : Int) = ((0 : Nat) : Int)) ∨ ∃ k, hi' = some (.int k 0) := by
      rcases optInt_spec e2 hhi with ⟨hn, hn', _⟩ | ⟨k, _, e⟩
      · refine .inl ⟨hn', ?_, rfl⟩
        rcases optInt_spec e1 hmx with ⟨_, hm', _⟩ | ⟨k, hm, _⟩
        · exact hm'
        · rw [hm, hn] at hmh; simp at hmh
      · exact .inr ⟨k, e⟩
    have fl : (lo' = none ∧ (0 : Int) = 0) ∨ ∃ k, lo' = some (.int k 0) := by
      rcases optInt_spec e3 hlo with ⟨_, hn', _⟩ | ⟨k, _, e⟩
      · exact .inl ⟨hn', rfl⟩
      · exact .inr ⟨k, e⟩
    have hrun := sliceBounds_run (P := P) (isS := true) (cap := 0) fm fh fl (by omega) (by omega) (by omega) (by simp) w
    refine Good.same R (v' := .slice none 0 0) ?_ .nils
    rw [hred]; simp [Instr.slice, run_und hu, hrun, run_sizeOfT hs]
  · cases hv

theorem strslice_sim (R : WRel B0 w0 β H w) {t : Nat} {x x' v : Value} {lo lo' hi hi' : Option Value} (hu : P.underlying t = some .string)
    (hx : VR β x x') (hlo : VRo β lo lo') (hhi : VRo β hi hi') (hv : strsliceV x lo hi = some v) : Good B0 w0 β H v ((Instr.sliceAt t x' lo' hi' none).run P w) := by
  have hred : (Instr.sliceAt t x' lo' hi' none).run P w = (Instr.slice t x' lo' hi' none).run P w := by simp [Instr.sliceAt, run_und hu]
  unfold strsliceV at hv
  split at hv
  case h_2 => cases hv
  rename_i s
  split at hv
  case h_2 => cases hv
  rename_i h l e2 e3
  split at hv
  case isFalse => cases hv
  rename_i hb
  cases hv; cases hx
  have fh : (hi' = none ∧ (none : Option Value) = none ∧ h = (s.size : Int)) ∨ ∃ k, hi' = some (.int k h) := by
    rcases optInt_spec e2 hhi with ⟨_, hn', e⟩ | ⟨k, _, e⟩
    · exact .inl ⟨hn', rfl, e⟩
    · exact .inr ⟨k, e⟩
  have fl : (lo' = none ∧ l = 0) ∨ ∃ k, lo' = some (.int k l) := by
    rcases optInt_spec e3 hlo with ⟨_, hn', e⟩ | ⟨k, _, e⟩
    · exact .inl ⟨hn', e⟩
    · exact .inr ⟨k, e⟩
  have hrun := sliceBounds_run (P := P) (isS := false) (len := s.size) (cap := s.size) (m := s.size) (.inl ⟨rfl, rfl⟩) fh fl hb.1 hb.2.1 hb.2.2 (by omega) w
  refine Good.same R (v' := .string (s.extract l.toNat h.toNat)) ?_ (.str _)
  rw [hred]; simp [Instr.slice, run_und hu, hrun]

/-! ### rows -/
theorem row_sim (R : WRel B0 w0 β H w) {s n : Nat} {cs : List Value} {y y' : Value} (h : H.row s y = some (n, cs)) (hy : VR β y y') :
    cs.length = n * s ∧ ∃ c', VRs β cs c'.toList ∧ ∀ w' : World, w'.heap = w.heap → (Builtin.lenOf y').run P w' = .ok n w' ∧ (Builtin.firstCells s n y').run P w' = .ok c' w' := by
  unfold Heap.row at h
  split at h
  · cases h; cases hy
    exact ⟨by simp, #[], .nil β, fun w' _ => ⟨by simp [Builtin.lenOf], by simp [Builtin.firstCells]⟩⟩
  · rename_i id off x len cap
    split at h
    · rename_i h0
      subst h0
      cases h
      have key : ∀ a c, ([] : List Value).length = 0 * s ∧ ∃ c' : Array Value, VRs β [] c'.toList ∧ ∀ w' : World, w'.heap = w.heap → (Builtin.lenOf (.slice (some a) 0 c)).run P w' = .ok 0 w' ∧ (Builtin.firstCells s 0 (.slice (some a) 0 c)).run P w' = .ok c' w' :=
        fun a c => ⟨by simp, #[], .nil β, fun w' _ => ⟨by simp [Builtin.lenOf], by simp [Builtin.firstCells, loadCells, loadCellsFrom]⟩⟩
      cases hy <;> exact key _ _
    · rename_i h0
      split at h
      case h_2 => cases h
      rename_i e ro cs0 hg
      split at h
      case isFalse => cases h
      rename_i hle
      cases h
      cases hy with
      | slice _ _ m _ _ cap' l hl h1 h2 h3 h4 =>
        obtain ⟨c, e', fz, g1, g2, g3, g4, g5⟩ := R.ob id l e ro cs0 hl hg
        have hlen : ((c.toList.drop (l.o + off)).take (n * s)).length = n * s := by simp; omega
        refine ⟨by simp; omega, ((c.toList.drop (l.o + off)).take (n * s)).toArray, by simpa using vrs_range g5 off (n * s) hle (by omega), fun w' hw => ⟨by simp [Builtin.lenOf], ?_⟩⟩
        have hld := run_loadCells_list (P := P) w' ⟨l.b, l.o + off, none⟩ ((c.toList.drop (l.o + off)).take (n * s)) (fun j v hj => by
          rw [add_none, cell_of (by rw [hw]; exact g1)]
          rw [List.getElem?_take] at hj
          split at hj
          · rw [List.getElem?_drop, Array.getElem?_toList] at hj; exact hj
          · cases hj)
        rw [hlen] at hld
        simp only [Builtin.firstCells]
        exact hld
      | slice0 _ _ _ A => exact absurd rfl h0
  · rename_i st
    split at h
    case isFalse => cases h
    rename_i hs
    subst hs
    cases h; cases hy
    refine ⟨by simp, st.data.map fun b => .int .u8 b.toNat, ?_, fun w' _ => ⟨by simp [Builtin.lenOf], ?_⟩⟩
    · rw [Array.toList_map]
      refine ⟨rfl, fun i v hv => ⟨v, hv, ?_⟩⟩
      rw [List.getElem?_map] at hv
      cases hb : st.data.toList[i]? with
      | none => rw [hb] at hv; cases hv
      | some b => rw [hb] at hv; cases hv; exact .int _ _
    · have : st.extract 0 st.size = st := by simp
      simp [Builtin.firstCells, this]
  · cases h

end
end Go.Proofs.YtiphbdhclldllaaGreatDoor.Mx
