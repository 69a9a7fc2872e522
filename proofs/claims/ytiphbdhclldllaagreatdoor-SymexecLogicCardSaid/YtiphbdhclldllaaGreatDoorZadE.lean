/- Single operations, second part. -/
import Derived.Test.YtiphbdhclldllaaGreatDoorZadD
set_option linter.unusedSimpArgs false
set_option linter.unusedVariables false
namespace Go.Proofs.YtiphbdhclldllaaGreatDoor.Mx
open Go

section
variable {P : Program} {B0 : Bs} {w0 : World} {β : Emb} {H : Heap} {w : World}

theorem VRs.set {β : Emb} {a a' : List Value} (h : VRs β a a') {v v' : Value} (hv : VR β v v') (i : Nat) : VRs β (a.set i v) (a'.set i v') := by
  refine ⟨by simp [h.1], fun j u hu => ?_⟩
  rw [List.getElem?_set] at hu ⊢
  split at hu
  · rename_i e
    subst e
    split at hu
    · rename_i hlt
      cases hu
      exact ⟨v', by rw [if_pos rfl, if_pos (h.1 ▸ hlt)], hv⟩
    · cases hu
  · rename_i e
    rw [if_neg e]
    exact h.2 j u hu

theorem foldPut_sim {β : Emb} (off : Nat) : ∀ (vs vs' : List Value) (k : Nat) (c c' : Array Value), VRs β vs vs' → VRs β c.toList c'.toList →
    VRs β ((vs.zipIdx k).foldl (fun cs (p : Value × Nat) => cs.setIfInBounds (off + p.2) p.1) c).toList ((vs'.zipIdx k).foldl (fun cs (p : Value × Nat) => cs.setIfInBounds (off + p.2) p.1) c').toList ∧
    ((vs.zipIdx k).foldl (fun cs (p : Value × Nat) => cs.setIfInBounds (off + p.2) p.1) c).size = c.size := by
  intro vs
  induction vs with
  | nil =>
    intro vs' k c c' h hc
    have : vs' = [] := by have := h.1; cases vs' <;> simp_all
    subst this
    exact ⟨hc, rfl⟩
  | cons v vs ih =>
    intro vs' k c c' h hc
    cases vs' with
    | nil => have := h.1; simp at this
    | cons v' vs' =>
      have h0 : VR β v v' := by obtain ⟨u, h1, h2⟩ := h.2 0 v rfl; simp at h1; subst h1; exact h2
      have ht : VRs β vs vs' := ⟨by have := h.1; simpa using this, fun i u hu => by obtain ⟨u', h1, h2⟩ := h.2 (i + 1) u (by simpa using hu); exact ⟨u', by simpa using h1, h2⟩⟩
      simp only [List.zipIdx_cons, List.foldl_cons]
      have hset : VRs β (c.setIfInBounds (off + k) v).toList (c'.setIfInBounds (off + k) v').toList := by simp only [Array.toList_setIfInBounds]; exact hc.set h0 _
      obtain ⟨g1, g2⟩ := ih vs' (k + 1) _ _ ht hset
      exact ⟨g1, by rw [g2]; simp⟩

theorem fill_sim {P : Program} {β : Emb} {T : Tr Value} {ρ : Operand → Value} (hρ : ∀ x y, cOpd P x = some y → VR β (y.ev T) (ρ x)) (place : Nat → Option (Nat × Nat)) :
    ∀ (parts : List (Nat × Operand)) (ps : List (Nat × Nat × Opd)) (c c' r : Array Value), cParts P place parts = some ps → VRs β c.toList c'.toList → fillP c (evParts T ps) = some r →
    ∃ r', Instr.fill place c' (parts.map fun p => (p.1, ρ p.2)) = some r' ∧ VRs β r.toList r'.toList ∧ r.size = c.size := by
  intro parts
  induction parts with
  | nil => intro ps c c' r h hc hf; simp [cParts] at h; subst h; simp [evParts, fillP] at hf; subst hf; exact ⟨c', rfl, hc, rfl⟩
  | cons p parts ih =>
    intro ps c c' r h hc hf
    obtain ⟨i, x⟩ := p
    simp only [cParts] at h
    split at h
    case h_2 => cases h
    rename_i o s y r0 h1 h2 h3
    cases h
    simp only [evParts, List.map_cons, fillP] at hf
    split at hf
    · cases hf
    rename_i hcond
    have hx := hρ x y h2
    simp only [ne_eq, Bool.or_eq_true, decide_eq_true_eq, not_or, Decidable.not_not, gt_iff_lt, Nat.not_lt, Bool.not_eq_true', Bool.not_eq_false] at hcond
    have hxc := hx.cells hcond.2
    have hsz : (ρ x).cells.size = (y.ev T).cells.size := by have := hxc.1; simp at this; omega
    have hcs : c'.size = c.size := by have := hc.1; simp at this; omega
    have hfold : ∀ (v : Value) (c : Array Value), v.cells.zipIdx.foldl (fun cs (p : Value × Nat) => cs.setIfInBounds (o + p.2) p.1) c = (v.cells.toList.zipIdx 0).foldl (fun cs (p : Value × Nat) => cs.setIfInBounds (o + p.2) p.1) c := by
      intro v c
      rw [← Array.foldl_toList, Array.toList_zipIdx]
    have g := foldPut_sim o (y.ev T).cells.toList (ρ x).cells.toList 0 c c' hxc hc
    have hf' : fillP (((y.ev T).cells.toList.zipIdx 0).foldl (fun cs (p : Value × Nat) => cs.setIfInBounds (o + p.2) p.1) c) (evParts T r0) = some r := by rw [← hfold]; exact hf
    obtain ⟨r', k1, k2, k3⟩ := ih r0 _ _ r h3 g.1 hf'
    refine ⟨r', ?_, k2, by rw [k3, g.2]⟩
    simp only [List.map_cons, Instr.fill, h1]
    rw [if_neg (by simp only [ne_eq, Bool.or_eq_true, decide_eq_true_eq, not_or, Decidable.not_not, gt_iff_lt, Nat.not_lt]; omega)]
    rw [← k1]
    congr 1
    exact hfold (ρ x) c'

theorem VRs.ofZero (β : Emb) {z : List Value} (h : z.all leafClosed = true) : VRs β z.toArray.toList z.toArray.toList := by simpa using VRs.ofLeaf β h

theorem places_spec {P : Program} {w : World} : ∀ (fs : List Field) (pl : List (Nat × Nat)), places P fs = some pl →
    (fs.mapM (fun f => (do pure (f.offset, ← sizeOf f.type) : Sem (Nat × Nat)))).run P w = .ok pl w := by
  intro fs
  induction fs with
  | nil => intro pl h; simp [places] at h; subst h; rfl
  | cons f fs ih =>
    intro pl h
    simp only [places] at h
    split at h
    case h_2 => cases h
    rename_i s r h1 h2
    cases h
    simp only [List.mapM_cons, Sem.run_bind, run_sizeOfT h1, Result.andThen_ok, Sem.run_pure, ih r h2]

theorem build_struct_sim (R : WRel B0 w0 β H w) {T : Tr Value} {ρ : Operand → Value} (hρ : ∀ x y, cOpd P x = some y → VR β (y.ev T) (ρ x))
    {t : Nat} {z : List Value} {fields : Array Field} {pl : List (Nat × Nat)} {parts : Array (Nat × Operand)} {ps : List (Nat × Nat × Opd)} {cs : Array Value}
    (hz : zeroOf P t = some z) (hu : P.underlying t = some (.struct fields)) (hp : places P fields.toList = some pl) (hc : cParts P (fun i => pl[i]?) parts.toList = some ps)
    (hf : fillP z.toArray (evParts T ps) = some cs) : Good B0 w0 β H (.agg cs) ((Instr.build t (parts.map fun (i, x) => (i, ρ x))).run P w) := by
  obtain ⟨i, zv, hi, hz1, hz2, hz3, hz4⟩ := zeroOf_spec hz
  obtain ⟨r', k1, k2, _⟩ := fill_sim hρ _ _ _ z.toArray z.toArray cs hc (.ofZero β hz4) hf
  refine Good.same R (v' := .agg r') ?_ (.agg' k2)
  have hzc : zv.cells = z.toArray := by rw [← hz2]
  have hpl : (fields.mapM (fun f => (do pure (f.offset, ← sizeOf f.type) : Sem (Nat × Nat)))).run P w = .ok pl.toArray w := by
    rw [Array.mapM_eq_mapM_toList]
    simp only [Sem.run_map, places_spec _ _ hp, Result.andThen_ok]
  have hl : (parts.map fun (x : Nat × Operand) => (x.1, ρ x.2)).toList = parts.toList.map fun p => (p.1, ρ p.2) := by simp
  simp only [Instr.build, Sem.run_bind, run_zero hi hz1, Result.andThen_ok, run_und hu, hpl, hzc]
  have k1' : Instr.fill (fun x => pl.toArray[x]?) z.toArray ((parts.map fun (x : Nat × Operand) => (x.1, ρ x.2)).toList) = some r' := by
    rw [hl, ← k1]; congr 1; funext x; simp
  rw [k1']
  rfl

theorem build_arr_sim (R : WRel B0 w0 β H w) {T : Tr Value} {ρ : Operand → Value} (hρ : ∀ x y, cOpd P x = some y → VR β (y.ev T) (ρ x))
    {t e n s : Nat} {z : List Value} {parts : Array (Nat × Operand)} {ps : List (Nat × Nat × Opd)} {cs : Array Value}
    (hz : zeroOf P t = some z) (hu : P.underlying t = some (.array n e)) (hs : sizeOfT P e = some s) (hc : cParts P (fun i => some (i * s, s)) parts.toList = some ps)
    (hf : fillP z.toArray (evParts T ps) = some cs) : Good B0 w0 β H (.agg cs) ((Instr.build t (parts.map fun (i, x) => (i, ρ x))).run P w) := by
  obtain ⟨i, zv, hi, hz1, hz2, hz3, hz4⟩ := zeroOf_spec hz
  obtain ⟨r', k1, k2, _⟩ := fill_sim hρ _ _ _ z.toArray z.toArray cs hc (.ofZero β hz4) hf
  refine Good.same R (v' := .agg r') ?_ (.agg' k2)
  have hzc : zv.cells = z.toArray := by rw [← hz2]
  have hl : (parts.map fun (x : Nat × Operand) => (x.1, ρ x.2)).toList = parts.toList.map fun p => (p.1, ρ p.2) := by simp
  simp only [Instr.build, Sem.run_bind, run_zero hi hz1, Result.andThen_ok, run_und hu, hzc, run_sizeOfT hs]
  rw [hl, k1]
  rfl

theorem flat_get (z : List Value) (d : Value) : ∀ (n i : Nat), i < n * z.length → ((List.replicate n z).flatten)[i]? = some (z.toArray.getD (i % z.length) d) := by
  intro n
  induction n with
  | zero => intro i h; omega
  | succ n ih =>
    intro i h
    rw [List.replicate_succ, List.flatten_cons]
    have hz : 0 < z.length := by
      rcases Nat.eq_zero_or_pos z.length with h0 | h0
      · rw [h0] at h; omega
      · exact h0
    by_cases hi : i < z.length
    · rw [List.getElem?_append_left hi, Nat.mod_eq_of_lt hi, List.getElem?_eq_getElem hi]
      simp [hi]
    · rw [List.getElem?_append_right (by omega), ih (i - z.length) (by rw [Nat.succ_mul] at h; omega)]
      have : i % z.length = (i - z.length) % z.length := by rw [Nat.mod_eq_sub_mod (by omega)]
      rw [this]

theorem range_map_eq (z : List Value) (hz : 0 < z.length) (n : Nat) : ((Array.range (n * z.length)).map (fun x => z.toArray[x % z.toArray.size]!)) = ((List.replicate n z).flatten).toArray := by
  apply Array.ext_getElem?
  intro i
  have hr : ((List.replicate n z).flatten).toArray[i]? = (List.replicate n z).flatten[i]? := by simp
  rw [Array.getElem?_map, hr]
  by_cases hi : i < n * z.length
  · have h1 : (Array.range (n * z.length))[i]? = some i := by simp [hi]
    rw [flat_get z default n i hi, h1]
    have hm : i % z.length < z.length := Nat.mod_lt _ hz
    simp [hm]
  · have h1 : (Array.range (n * z.length))[i]? = none := by simp; omega
    rw [h1, List.getElem?_eq_none (by simp; omega)]
    rfl

theorem bslice_sim (R : WRel B0 w0 β H w) {T : Tr Value} {ρ : Operand → Value} (hρ : ∀ x y, cOpd P x = some y → VR β (y.ev T) (ρ x))
    {t e len s id : Nat} {z : List Value} {parts : Array (Nat × Operand)} {ps : List (Nat × Nat × Opd)} {cs : Array Value} {H' : Heap}
    (hu : P.underlying t = some (.slice e)) (hs : sizeOfT P e = some s) (hz : zeroOf P e = some z) (hle : len * s ≤ 2 ^ 24) (hpos : 0 < s) (hc : cParts P (fun i => some (i * s, s)) parts.toList = some ps)
    (hf : fillP (List.replicate len z).flatten.toArray (evParts T ps) = some cs) (hn : H.new id (.cells e false cs.toList) = some H') (hid : id < H.size) :
    Good B0 w0 β H' (.slice (some ⟨id, 0, some (2 * s + 1)⟩) len len) ((Instr.buildSlice t len (parts.map fun (i, x) => (i, ρ x))).run P w) := by
  obtain ⟨i, zv, hi, hz1, hz2, hz3, hz4⟩ := zeroOf_spec hz
  have his : i.size = s := by unfold sizeOfT at hs; rw [hi] at hs; simpa using hs
  have hzc : zv.cells = z.toArray := by rw [← hz2]
  have hzl : z.length = s := by omega
  have hall : ((List.replicate len z).flatten).all leafClosed = true := by
    simp only [List.all_eq_true, List.mem_flatten, List.mem_replicate]
    rintro v ⟨l, ⟨_, rfl⟩, hv⟩
    exact List.all_eq_true.1 hz4 v hv
  obtain ⟨r', k1, k2, k3⟩ := fill_sim hρ _ _ _ (List.replicate len z).flatten.toArray (List.replicate len z).flatten.toArray cs hc (.ofZero β hall) hf
  have hl : (parts.map fun (x : Nat × Operand) => (x.1, ρ x.2)).toList = parts.toList.map fun p => (p.1, ρ p.2) := by simp
  obtain ⟨le, R'⟩ := new_sim R (t := e) hn hid (c := r') rfl (by rw [k2.1, List.take_length]; exact k2) (by rw [k2.1]; exact Nat.le_refl _)
  have hsz : r'.size = len * s := by
    have := k2.1
    simp only [Array.length_toList] at this
    rw [← this, k3]
    simp [hzl]
  refine ⟨_, .slice (some ⟨w.heap.size, 0, none⟩) len len, { w with heap := w.heap.push (.cells r' e) }, ?_, le, ⟨R', R.os, R.tape, R.output⟩, ?_⟩
  · simp only [Instr.buildSlice, Sem.run_bind, run_und hu, Result.andThen_ok, run_sizeOfT hs]
    rw [if_neg (by omega)]
    have hrow : ((Array.range (len * s)).map (fun x => (if len * s = 0 then #[] else z.toArray)[x % (if len * s = 0 then #[] else z.toArray).size]!)) = ((List.replicate len z).flatten).toArray := by
      by_cases h0 : len * s = 0
      · have : len = 0 := by rcases Nat.mul_eq_zero.1 h0 with h | h <;> omega
        subst this
        simp
      · rw [← range_map_eq z (by omega) len, hzl]
        simp only [h0, if_false]
    by_cases h0 : len * s = 0
    · simp only [h0, if_true, Nat.mul_zero, Sem.run_bind, Sem.run_pure, Result.andThen_ok, hl] at hrow ⊢
      rw [hrow, k1]
      simp [newRow]
    · simp only [h0, if_false, Sem.run_bind, Sem.run_pure, Result.andThen_ok, hl, run_zero hi hz1, hzc] at hrow ⊢
      rw [hrow, k1]
      simp [newRow]
  · have := VR.slice (β := β.upd id ⟨w.heap.size, 0, r'.size⟩) id 0 (2 * s + 1) len len len ⟨w.heap.size, 0, r'.size⟩ (upd_self _ _ _) (Nat.le_refl _) (Nat.le_refl _) (fun _ => rfl) (fun _ => by rw [show (2 * s + 1) / 2 = s by omega]; show 0 + len * s ≤ r'.size; omega)
    exact this

theorem conv_sim (R : WRel B0 w0 β H w) {s t : Nat} {d : TypeDesc} {k k0 : IntKind} {n : Int} (hs : P.underlying s = some d) (ht : P.underlying t = some (.int k)) :
    Good B0 w0 β H (.int k (k.wrap n)) ((convert s t (.int k0 n)).run P w) := by
  refine Good.same R (v' := .int k (k.wrap n)) ?_ (.int _ _)
  simp [convert, run_und hs, run_und ht, Conv.intToInt]

theorem unary_sim (R : WRel B0 w0 β H w) {op : UnOp} {x x' v : Value} (h : unV op x = some v) (hx : VR β x x') : Good B0 w0 β H v ((Op.unary op x').run P w) := by
  unfold unV at h
  split at h
  · cases hx; cases h; exact Good.same R (by simp [Op.unary, Op.intArith]) (.int _ _)
  · cases hx; cases h; exact Good.same R (by simp [Op.unary, Op.intBits]) (.int _ _)
  · cases hx; cases h; exact Good.same R (by simp [Op.unary]) (.bool _)
  · cases h

end
end Go.Proofs.YtiphbdhclldllaaGreatDoor.Mx
