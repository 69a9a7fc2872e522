/- Single operations, sixth part: maps. -/
import Derived.Test.YtiphbdhclldllaaGreatDoorZadH
set_option linter.unusedSimpArgs false
set_option linter.unusedVariables false
namespace Go.Proofs.YtiphbdhclldllaaGreatDoor.Mx
open Go

section
variable {P : Program} {B0 : Bs} {w0 : World} {β : Emb} {H : Heap} {w : World}

theorem getObj_map {r : Nat} {es : Array MapEntry} {clock : Nat} (hb : w.heap[r]? = some (.map es clock)) : (getObj r).run P w = .ok (.map es clock) w := by
  simp [getObj, Sem.run, hb]
theorem setObj_map {r : Nat} {es : Array MapEntry} {clock : Nat} (o : Obj) (hb : w.heap[r]? = some (.map es clock)) : (setObj r o).run P w = .ok () { w with heap := w.heap.setIfInBounds r o } := by
  simp [setObj, Sem.run, hb]

/-! ### keys -/
theorem kindsOk_plain : ∀ {l : List LK} {vs : List Value}, kindsOk l vs = true → l.length = vs.length ∧ vs.all plain = true
  | [], [], _ => ⟨rfl, rfl⟩
  | [], _ :: _, h => by simp [kindsOk] at h
  | _ :: _, [], h => by simp [kindsOk] at h
  | k :: l, v :: vs, h => by
    simp only [kindsOk, Bool.and_eq_true] at h
    obtain ⟨h1, h2⟩ := kindsOk_plain h.2
    refine ⟨by simp [h1], ?_⟩
    simp only [List.all_cons, Bool.and_eq_true]
    exact ⟨by cases k <;> cases v <;> simp [kindOk] at h <;> rfl, h2⟩

theorem keyOk_any {m : EqM} {k : Value} (h : keyOk m k = true) : keyAny k = true := by
  cases m with
  | lf l => simp only [keyOk] at h; cases l <;> cases k <;> simp [kindOk] at h <;> rfl
  | cells l => cases k <;> simp only [keyOk] at h <;> first | exact (kindsOk_plain h).2 | (cases h; done)
  | _ => cases k <;> cases h

theorem plain_vr {v v' : Value} (h : plain v = true) (hv : VR β v v') : v' = v := by
  cases hv <;> simp [plain, junk, opq] at h <;> rfl

theorem plains_vr : ∀ {l l' : List Value}, l.all plain = true → VRs β l l' → l' = l
  | [], [], _, _ => rfl
  | [], _ :: _, _, h => by have := h.1; simp at this
  | _ :: _, [], _, h => by have := h.1; simp at this
  | v :: l, v' :: l', h, hv => by
    simp only [List.all_cons, Bool.and_eq_true] at h
    have h0 : VR β v v' := by obtain ⟨u, h1, h2⟩ := hv.2 0 v rfl; simp at h1; subst h1; exact h2
    have ht : VRs β l l' := ⟨by have := hv.1; simpa using this, fun i u hu => by obtain ⟨u', h1, h2⟩ := hv.2 (i + 1) u (by simpa using hu); exact ⟨u', by simpa using h1, h2⟩⟩
    rw [plain_vr h.1 h0, plains_vr h.2 ht]

theorem key_vr {k k' : Value} (h : keyAny k = true) (hv : VR β k k') : k' = k := by
  cases hv with
  | agg c c' hc gc =>
    have := plains_vr (by simpa [keyAny] using h) (vrs_of_arr hc gc)
    rw [Array.toList_inj] at this
    rw [this]
  | _ => first
    | rfl
    | (simp [keyAny, plain, junk, opq] at h; done)

/-- What is told of the keys' parts. -/
def PartCk (P : Program) (w : World) (d : Nat) (t : TypeId) (l : List LK) : Prop :=
  sizeOfT P t = some l.length → ∀ (e : Bool) (n : Nat) (xs : Array Value) (o : Nat), d ≤ n → o + l.length ≤ xs.size →
    ∃ x, (part t xs o).run P w = .ok x w ∧ (Instr.checkKey e n t x).run P w = .ok () w

theorem leaf_ck {t : Nat} {d : TypeDesc} {k : LK} (hu : P.underlying t = some d) (hd : aggD d = false) (hi : ∀ ms, d ≠ .interface ms) (d0 : Nat) : PartCk P w (d0 + 1) t [k] := by
  intro _ e n xs o hn h
  have h1 : o + 1 ≤ xs.size := by simpa using h
  have ho : o < xs.size := by omega
  obtain ⟨m, rfl⟩ : ∃ m, n = m + 1 := ⟨n - 1, by omega⟩
  refine ⟨xs[o], by simp [part, run_isAggD hu, hd, ho], ?_⟩
  unfold Instr.checkKey
  simp only [Sem.run_bind, run_und hu, Result.andThen_ok]
  cases d <;> first
    | (exact absurd rfl (hi _))
    | (simp [aggD] at hd; done)
    | rfl

theorem fields_ck {d : Nat} (hp : ∀ t l, plainL P d t = some l → PartCk P w d t l) {e : Bool} {n : Nat} (hn : d ≤ n) {xs : Array Value} :
    ∀ (fs : List Field) (o : Nat) (r : List LK), plainF P (plainL P d) fs o = some r → o + r.length ≤ xs.size →
    (forIn (m := Sem) fs () (fun f _ =>
      if f.name ≠ "_" then do
        let x ← part f.type xs f.offset
        Instr.checkKey e n f.type x
        pure (ForInStep.yield ())
      else pure (ForInStep.yield ()))).run P w = .ok () w := by
  intro fs
  induction fs with
  | nil => intro o r h hc; simp
  | cons f fs ih =>
    intro o r h hc
    simp only [plainF] at h
    split at h
    case h_2 => cases h
    rename_i l hl
    split at h
    case isFalse => cases h
    rename_i hcond
    obtain ⟨ho, hname, hs⟩ := hcond
    split at h
    case h_2 => cases h
    rename_i r' hr
    cases h
    rw [List.length_append] at hc
    obtain ⟨x, k1, k2⟩ := hp _ _ hl hs e n xs f.offset hn (by omega)
    simp only [List.forIn_cons, hname, ne_eq, not_false_eq_true, if_true, Sem.run_bind, k1, Result.andThen_ok, k2, Sem.run_pure]
    exact ih (o + l.length) r' hr (by omega)

theorem elems_ck {d : Nat} {el : TypeId} {l : List LK} (hp : PartCk P w d el l) (hs : sizeOfT P el = some l.length) {e : Bool} {n : Nat} (hn : d ≤ n) {xs : Array Value} :
    ∀ (len k : Nat), (k + len) * l.length ≤ xs.size →
    (forIn (m := Sem) (List.range' k len) () (fun i _ => do
        let z ← sizeOf el
        let x ← part el xs (i * z)
        Instr.checkKey e n el x
        pure (ForInStep.yield ()))).run P w = .ok () w := by
  intro len
  induction len with
  | zero => intro k h; simp
  | succ len ih =>
    intro k h
    have h1 : (k + 1) * l.length ≤ (k + (len + 1)) * l.length := Nat.mul_le_mul_right _ (by omega)
    rw [Nat.add_mul, Nat.one_mul] at h1
    obtain ⟨x, k1, k2⟩ := hp hs e n xs (k * l.length) hn (by omega)
    simp only [List.range'_succ, List.forIn_cons, Sem.run_bind, run_sizeOfT hs, k1, Result.andThen_ok, k2, Sem.run_pure]
    exact ih (k + 1) (by rw [show k + 1 + len = k + (len + 1) by omega]; exact h)

theorem agg_ck {d : Nat} {t : TypeId} {l : List LK} {ds : TypeDesc} (hu : P.underlying t = some ds) (hd : aggD ds = true)
    (he : ∀ (e : Bool) (n : Nat) (xs : Array Value), d ≤ n → l.length ≤ xs.size → (Instr.checkKey e (n + 1) t (.agg xs)).run P w = .ok () w) : PartCk P w (d + 1) t l := by
  intro hs e n xs o hn h
  obtain ⟨m, rfl⟩ : ∃ m, n = m + 1 := ⟨n - 1, by omega⟩
  exact ⟨.agg (xs.extract o (o + l.length)), by simp [part, run_isAggD hu, hd, run_sizeOfT hs], he e m _ (by omega) (by simp; omega)⟩

theorem check_plain : ∀ (d : Nat) (t : TypeId) (l : List LK), plainL P d t = some l → PartCk P w d t l ∧
    ∀ ds, P.underlying t = some ds → aggD ds = true → ∀ (e : Bool) (n : Nat) (xs : Array Value), d ≤ n + 1 → l.length ≤ xs.size → (Instr.checkKey e (n + 1) t (.agg xs)).run P w = .ok () w := by
  intro d
  induction d with
  | zero => intro t l h; simp [plainL] at h
  | succ d ih =>
    intro t l h
    simp only [plainL] at h
    split at h
    · rename_i hu
      cases h
      exact ⟨leaf_ck hu rfl nofun d, fun ds h1 h2 => by rw [hu] at h1; cases h1; cases h2⟩
    · rename_i ik hu
      cases h
      exact ⟨leaf_ck hu rfl nofun d, fun ds h1 h2 => by rw [hu] at h1; cases h1; cases h2⟩
    · rename_i hu
      cases h
      exact ⟨leaf_ck hu rfl nofun d, fun ds h1 h2 => by rw [hu] at h1; cases h1; cases h2⟩
    · rename_i fields hu
      split at h
      · cases h
      have main : ∀ (e : Bool) (n : Nat) (xs : Array Value), d ≤ n → l.length ≤ xs.size → (Instr.checkKey e (n + 1) t (.agg xs)).run P w = .ok () w := by
        intro e n xs hn hc
        have := fields_ck (fun t l h => (ih t l h).1) (e := e) hn fields.toList 0 l h (by simpa using hc) (xs := xs)
        unfold Instr.checkKey
        simp only [Sem.run_bind, run_und hu, Result.andThen_ok]
        rw [← Array.forIn_toList]
        first
          | exact this
          | (rw [this]; rfl)
      exact ⟨agg_ck hu rfl main, fun ds _ _ e n xs hn hc => main e n xs (by omega) hc⟩
    · rename_i len el hu
      split at h
      case h_2 => cases h
      rename_i k hk
      split at h
      case isFalse => cases h
      rename_i hs
      cases h
      have main : ∀ (e : Bool) (n : Nat) (xs : Array Value), d ≤ n → (List.replicate len k).flatten.length ≤ xs.size → (Instr.checkKey e (n + 1) t (.agg xs)).run P w = .ok () w := by
        intro e n xs hn hc
        have := elems_ck (ih el k hk).1 hs (e := e) hn len 0 (by simpa using hc) (xs := xs)
        unfold Instr.checkKey
        simp only [Sem.run_bind, run_und hu, Result.andThen_ok]
        rw [Std.Legacy.Range.forIn_eq_forIn_range']
        simp only [Std.Legacy.Range.size, Nat.sub_zero, Nat.add_sub_cancel, Nat.div_one]
        first
          | exact this
          | (rw [this]; rfl)
      exact ⟨agg_ck hu rfl main, fun ds _ _ e n xs hn hc => main e n xs (by omega) hc⟩
    · cases h

theorem key_check {kt : Nat} {m : EqM} {k : Value} (hm : keyMode P kt = some m) (hk : keyOk m k = true) (e : Bool) : (Instr.checkKey e 10000 kt k).run P w = .ok () w := by
  unfold keyMode at hm
  split at hm
  · rename_i lk hq
    cases hm
    have hl := eqMode_leaf hq
    have key : ∀ d, P.underlying kt = some d → aggD d = false → (∀ ms, d ≠ .interface ms) → (Instr.checkKey e (9999 + 1) kt k).run P w = .ok () w := by
      intro d hu hd hi
      unfold Instr.checkKey
      simp only [Sem.run_bind, run_und hu, Result.andThen_ok]
      cases d <;> first
        | (exact absurd rfl (hi _))
        | (simp [aggD] at hd; done)
        | rfl
    cases lk with
    | b => exact key _ (hl.1 rfl) rfl nofun
    | i => obtain ⟨ik, hu⟩ := hl.2.1 rfl; exact key _ hu rfl nofun
    | s => exact key _ (hl.2.2 rfl) rfl nofun
  · rename_i l hq
    cases hm
    obtain ⟨_, g2, d, g3, g4⟩ := eqMode_cells hq
    unfold keyOk at hk
    split at hk
    · rename_i e2; cases e2
    · rename_i l' cs e2
      cases e2
      have := (kindsOk_plain hk).1
      simp only [Array.length_toList] at this
      exact (check_plain 40 kt l g2).2 d g3 g4 e 9999 cs (by omega) (by omega)
    · cases hk
  · cases hm

theorem leafEq_true {k : LK} {x y : Value} (h : leafEq k x y = some true) : x = y := by
  cases k <;> cases x <;> cases y <;> simp [leafEq] at h <;> try simp [h]
  have : ByteArray.beq _ _ = true := h
  unfold ByteArray.beq at this
  have h2 := eq_of_beq this
  rw [ByteArray.ext h2]

theorem cellsEq_true : ∀ {l : List LK} {X Y : List Value}, cellsEq l X Y = some true → X.length = l.length → Y.length = l.length → X = Y
  | [], X, Y, _, h1, h2 => by rw [List.length_eq_zero_iff.1 h1, List.length_eq_zero_iff.1 h2]
  | k :: l, [], _, _, h, _ => by simp at h
  | k :: l, _ :: _, [], _, _, h => by simp at h
  | k :: l, x :: X, y :: Y, h, h1, h2 => by
    simp only [cellsEq] at h
    split at h
    · rename_i e
      rw [leafEq_true e, cellsEq_true h (by simpa using h1) (by simpa using h2)]
    · cases h
    · cases h

theorem key_eq {m : EqM} {kt : Nat} (hm : keyMode P kt = some m) {k k' : Value} (h : eqBy m k k' = some true) : k = k' := by
  unfold keyMode at hm
  split at hm
  · cases hm; exact leafEq_true h
  · cases hm
    simp only [eqBy, aggEq] at h
    split at h
    case h_2 => cases h
    split at h
    case isFalse => cases h
    rename_i hs
    have := cellsEq_true h (by simpa using hs.1) (by simpa using hs.2)
    rw [Array.toList_inj] at this
    rw [this]
  · cases hm

def EntRs (β : Emb) (es : Entries) (es' : Array MapEntry) : Prop := es'.size = es.length ∧ ∀ (i : Nat) e, es[i]? = some e → ∃ e', es'[i]? = some e' ∧ EntR β e e'

def EntRl (β : Emb) : Entries → List MapEntry → Prop
  | [], [] => True
  | e :: es, e' :: es' => EntR β e e' ∧ EntRl β es es'
  | _, _ => False

theorem entRl_of : ∀ {es : Entries} {es' : List MapEntry}, es'.length = es.length → (∀ (i : Nat) e, es[i]? = some e → ∃ e', es'[i]? = some e' ∧ EntR β e e') → EntRl β es es'
  | [], [], _, _ => trivial
  | [], _ :: _, h, _ => by simp at h
  | _ :: _, [], h, _ => by simp at h
  | e :: es, e' :: es', h, hr => by
    refine ⟨?_, entRl_of (by simpa using h) fun i x hx => ?_⟩
    · obtain ⟨u, h1, h2⟩ := hr 0 e rfl; simp at h1; subst h1; exact h2
    · obtain ⟨u, h1, h2⟩ := hr (i + 1) x (by simpa using hx); exact ⟨u, by simpa using h1, h2⟩

theorem find_now {lk : LK} {d : TypeDesc} {k : Value} (hd : ∀ a b q, leafEq lk a b = some q → Instr.sameNow d a b = some q) : ∀ (es : Entries) (es' : List MapEntry) (i : Nat) r, EntRl β es es' → findE (.lf lk) k es i = some r →
    (r = none → Instr.findNow d k es' i = some none) ∧ ∀ j v b, r = some (j, v, b) → i ≤ j ∧ ∃ e e', es[j - i]? = some e ∧ es'[j - i]? = some e' ∧ EntR β e e' ∧ e.2 = (v, b) ∧ eqBy (.lf lk) k e.1 = some true ∧ Instr.findNow d k es' i = some (some (j, e'.val))
  | [], [], i, r, _, h => by simp only [findE, Option.some.injEq] at h; subst h; exact ⟨fun _ => rfl, nofun⟩
  | [], _ :: _, _, _, h, _ => h.elim
  | _ :: _, [], _, _, h, _ => h.elim
  | (k0, v0, b0) :: es, e' :: es', i, r, hr, h => by
    obtain ⟨hr0, hrt⟩ := hr
    simp only [findE] at h
    split at h
    · rename_i he
      cases h
      refine ⟨nofun, fun j v b e => ?_⟩
      cases e
      have hs := hd k e'.key true (by rw [hr0.2.1]; exact he)
      exact ⟨Nat.le_refl _, (k0, v0, b0), e', by simp, by simp, hr0, rfl, he, by simp [Instr.findNow, hs]⟩
    · rename_i he
      have hs := hd k e'.key false (by rw [hr0.2.1]; exact he)
      obtain ⟨g1, g2⟩ := find_now hd es es' (i + 1) r hrt h
      refine ⟨fun e => by simp only [Instr.findNow, hs]; exact g1 e, fun j v b e => ?_⟩
      obtain ⟨q0, e0, e1, q1, q2, q3, q4, q5, q6⟩ := g2 j v b e
      refine ⟨by omega, e0, e1, ?_, ?_, q3, q4, q5, by simp only [Instr.findNow, hs]; exact q6⟩
      · rw [show j - i = (j - (i + 1)) + 1 by omega]; simpa using q1
      · rw [show j - i = (j - (i + 1)) + 1 by omega]; simpa using q2
    · cases h

theorem find_ask {m : EqM} {kt : Nat} {k : Value} (he : ∀ a b q, eqBy m a b = some q → (Op.equal kt a b).run P w = .ok q w) : ∀ (es : Entries) (es' : List MapEntry) (i : Nat) r, EntRl β es es' → findE m k es i = some r →
    (r = none → (Instr.findAsking kt k es' i).run P w = .ok none w) ∧ ∀ j v b, r = some (j, v, b) → i ≤ j ∧ ∃ e e', es[j - i]? = some e ∧ es'[j - i]? = some e' ∧ EntR β e e' ∧ e.2 = (v, b) ∧ eqBy m k e.1 = some true ∧ (Instr.findAsking kt k es' i).run P w = .ok (some (j, e'.val)) w
  | [], [], i, r, _, h => by simp only [findE, Option.some.injEq] at h; subst h; exact ⟨fun _ => rfl, nofun⟩
  | [], _ :: _, _, _, h, _ => h.elim
  | _ :: _, [], _, _, h, _ => h.elim
  | (k0, v0, b0) :: es, e' :: es', i, r, hr, h => by
    obtain ⟨hr0, hrt⟩ := hr
    simp only [findE] at h
    split at h
    · rename_i hq
      cases h
      refine ⟨nofun, fun j v b e => ?_⟩
      cases e
      have hs := he k e'.key true (by rw [hr0.2.1]; exact hq)
      exact ⟨Nat.le_refl _, (k0, v0, b0), e', by simp, by simp, hr0, rfl, hq, by simp [Instr.findAsking, hs]⟩
    · rename_i hq
      have hs := he k e'.key false (by rw [hr0.2.1]; exact hq)
      obtain ⟨g1, g2⟩ := find_ask he es es' (i + 1) r hrt h
      refine ⟨fun e => by simp only [Instr.findAsking, Sem.run_bind, hs, Result.andThen_ok, Bool.false_eq_true, if_false]; exact g1 e, fun j v b e => ?_⟩
      obtain ⟨q0, e0, e1, q1, q2, q3, q4, q5, q6⟩ := g2 j v b e
      refine ⟨by omega, e0, e1, ?_, ?_, q3, q4, q5, by simp only [Instr.findAsking, Sem.run_bind, hs, Result.andThen_ok, Bool.false_eq_true, if_false]; exact q6⟩
      · rw [show j - i = (j - (i + 1)) + 1 by omega]; simpa using q1
      · rw [show j - i = (j - (i + 1)) + 1 by omega]; simpa using q2
    · cases h

theorem find_sim {m : EqM} {kt : Nat} (hm : keyMode P kt = some m) {k : Value} {es : Entries} {es' : Array MapEntry} (hr : EntRs β es es') {r : Option (Nat × Value × Nat)} (h : findE m k es 0 = some r) :
    (r = none → (Instr.findKey kt k es'.toList).run P w = .ok none w) ∧ ∀ j v b, r = some (j, v, b) → ∃ e e', es[j]? = some e ∧ es'[j]? = some e' ∧ EntR β e e' ∧ e.2 = (v, b) ∧ k = e.1 ∧ (Instr.findKey kt k es'.toList).run P w = .ok (some (j, e'.val)) w := by
  have hl : EntRl β es es'.toList := entRl_of (by simpa using hr.1) fun i e he => by obtain ⟨e', h1, h2⟩ := hr.2 i e he; exact ⟨e', by rw [Array.getElem?_toList]; exact h1, h2⟩
  have hm' := hm
  unfold keyMode at hm'
  split at hm'
  · rename_i lk hq
    cases hm'
    have hkd := eqMode_leaf hq
    have key : ∀ d, P.underlying kt = some d → (∀ a b q, leafEq lk a b = some q → Instr.sameNow d a b = some q) → _ := fun d hu hd => by
      obtain ⟨g1, g2⟩ := find_now (β := β) (k := k) hd es es'.toList 0 r hl h
      refine (⟨fun e => ?_, fun j v b e => ?_⟩ : (r = none → (Instr.findKey kt k es'.toList).run P w = .ok none w) ∧ ∀ j v b, r = some (j, v, b) → ∃ e e', es[j]? = some e ∧ es'[j]? = some e' ∧ EntR β e e' ∧ e.2 = (v, b) ∧ k = e.1 ∧ (Instr.findKey kt k es'.toList).run P w = .ok (some (j, e'.val)) w)
      · simp [Instr.findKey, run_und hu, g1 e]
      · obtain ⟨_, e0, e1, q1, q2, q3, q4, q5, q6⟩ := g2 j v b e
        exact ⟨e0, e1, by simpa using q1, by simpa using q2, q3, q4, key_eq hm q5, by simp [Instr.findKey, run_und hu, q6]⟩
    cases lk with
    | b => exact key _ (hkd.1 rfl) (fun a b q hab => by cases a <;> cases b <;> simp [leafEq] at hab; subst hab; rfl)
    | i =>
      obtain ⟨ik, hu⟩ := hkd.2.1 rfl
      exact key _ hu (fun a b q hab => by cases a <;> cases b <;> simp [leafEq] at hab; obtain ⟨h1, h2⟩ := hab; subst h1 h2; simp [Instr.sameNow])
    | s => exact key _ (hkd.2.2 rfl) (fun a b q hab => by cases a <;> cases b <;> simp [leafEq] at hab; subst hab; rfl)
  · rename_i l hq
    cases hm'
    obtain ⟨_, g2, d, g3, g4⟩ := eqMode_cells hq
    have he : ∀ a b q, eqBy (.cells l) a b = some q → (Op.equal kt a b).run P w = .ok q w := by
      intro a b q hab
      simp only [eqBy, aggEq] at hab
      split at hab
      case h_2 => cases hab
      rename_i xs ys
      split at hab
      case isFalse => cases hab
      exact (equal_plain 40 kt l g2).2 d g3 g4 9999 xs ys q (by omega) hab
    obtain ⟨f1, f2⟩ := find_ask (P := P) (w := w) (β := β) (k := k) he es es'.toList 0 r hl h
    have hnow : es'.toList = [] ∨ Instr.findNow d k es'.toList 0 = none := by
      cases hq2 : es'.toList with
      | nil => exact .inl rfl
      | cons e t =>
        refine .inr ?_
        have hsn : Instr.sameNow d k e.key = none := by
          cases d <;> simp [aggD] at g4 <;> (unfold Instr.sameNow; split <;> simp_all)
        simp [Instr.findNow, hsn]
    have run : ∀ a, (Instr.findAsking kt k es'.toList 0).run P w = .ok a w → (Instr.findKey kt k es'.toList).run P w = .ok a w := by
      intro a ha
      rcases hnow with h0 | h0
      · rw [h0] at ha ⊢
        simp [Instr.findAsking] at ha
        subst ha
        simp [Instr.findKey, run_und g3, Instr.findNow]
      · simp only [Instr.findKey, Sem.run_bind, run_und g3, Result.andThen_ok, h0]
        exact ha
    refine ⟨fun e => run _ (f1 e), fun j v b e => ?_⟩
    obtain ⟨_, e0, e1, q1, q2, q3, q4, q5, q6⟩ := f2 j v b e
    exact ⟨e0, e1, by simpa using q1, by simpa using q2, q3, q4, key_eq hm q5, run _ q6⟩
  · cases hm'

end
end Go.Proofs.YtiphbdhclldllaaGreatDoor.Mx
