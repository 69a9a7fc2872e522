/- A part of the proof that the law answers true at every input: the texts ZadR, ZadS, ZadT, ZadI, ZadJ; no conditions. -/
import Derived.Test.YtapkmhneneffdaaGreatDoorMxB
set_option linter.unusedSimpArgs false
set_option linter.unusedVariables false
set_option linter.constructorNameAsVariable false

/-! The text ZadR. -/
namespace Go.Proofs.YtapkmhneneffdaaGreatDoor.Mx
open Go

section
variable {P : Program} {B0 : Bs} {w0 : World} {β : Emb} {H : Heap} {w : World}

theorem getObj_map {r : Nat} {es : Array MapEntry} {clock : Nat} (hb : w.heap[r]? = some (.map es clock)) : (getObj r).run P w = .ok (.map es clock) w := by
  simp [getObj, Sem.run, hb]
theorem setObj_map {r : Nat} {es : Array MapEntry} {clock : Nat} (o : Obj) (hb : w.heap[r]? = some (.map es clock)) : (setObj r o).run P w = .ok () { w with heap := w.heap.setIfInBounds r o } := by
  simp [setObj, Sem.run, hb]

/-! ### keys -/
theorem kindsOk_plain : ∀ {l : List LK} {vs : List Value}, kindsOk l vs = true → l.length = vs.length ∧ vs.all plain = true
  | [], [], _ => ⟨rfl, rfl⟩
  | [], _ :: _, h => by simp [kindsOk] at h
  | _ :: _, [], h => by simp [kindsOk] at h
  | k :: l, v :: vs, h => by
    simp only [kindsOk, Bool.and_eq_true] at h
    obtain ⟨h1, h2⟩ := kindsOk_plain h.2
    refine ⟨by simp [h1], ?_⟩
    simp only [List.all_cons, Bool.and_eq_true]
    exact ⟨by cases k <;> cases v <;> simp [kindOk] at h <;> rfl, h2⟩

theorem keyOk_any {m : EqM} {k : Value} (h : keyOk m k = true) : keyAny k = true := by
  cases m with
  | lf l => simp only [keyOk] at h; cases l <;> cases k <;> simp [kindOk] at h <;> rfl
  | cells l => cases k <;> simp only [keyOk] at h <;> first | exact (kindsOk_plain h).2 | (cases h; done)
  | _ => cases k <;> cases h

theorem plain_vr {v v' : Value} (h : plain v = true) (hv : VR β v v') : v' = v := by
  cases hv <;> simp [plain, junk, opq] at h <;> rfl

theorem plains_vr : ∀ {l l' : List Value}, l.all plain = true → VRs β l l' → l' = l
  | [], [], _, _ => rfl
  | [], _ :: _, _, h => by have := h.1; simp at this
  | _ :: _, [], _, h => by have := h.1; simp at this
  | v :: l, v' :: l', h, hv => by
    simp only [List.all_cons, Bool.and_eq_true] at h
    have h0 : VR β v v' := by obtain ⟨u, h1, h2⟩ := hv.2 0 v rfl; simp at h1; subst h1; exact h2
    have ht : VRs β l l' := ⟨by have := hv.1; simpa using this, fun i u hu => by obtain ⟨u', h1, h2⟩ := hv.2 (i + 1) u (by simpa using hu); exact ⟨u', by simpa using h1, h2⟩⟩
    rw [plain_vr h.1 h0, plains_vr h.2 ht]

theorem key_vr {k k' : Value} (h : keyAny k = true) (hv : VR β k k') : k' = k := by
  cases hv with
  | agg c c' hc gc =>
    have := plains_vr (by simpa [keyAny] using h) (vrs_of_arr hc gc)
    rw [Array.toList_inj] at this
    rw [this]
  | _ => first
    | rfl
    | (simp [keyAny, plain, junk, opq] at h; done)

/-- What is told of the keys' parts. -/
def PartCk (P : Program) (w : World) (d : Nat) (t : TypeId) (l : List LK) : Prop :=
  sizeOfT P t = some l.length → ∀ (e : Bool) (n : Nat) (xs : Array Value) (o : Nat), d ≤ n → o + l.length ≤ xs.size →
    ∃ x, (part t xs o).run P w = .ok x w ∧ (Instr.checkKey e n t x).run P w = .ok () w

theorem leaf_ck {t : Nat} {d : TypeDesc} {k : LK} (hu : P.underlying t = some d) (hd : aggD d = false) (hi : ∀ ms, d ≠ .interface ms) (d0 : Nat) : PartCk P w (d0 + 1) t [k] := by
  intro _ e n xs o hn h
  have h1 : o + 1 ≤ xs.size := by simpa using h
  have ho : o < xs.size := by omega
  obtain ⟨m, rfl⟩ : ∃ m, n = m + 1 := ⟨n - 1, by omega⟩
  refine ⟨xs[o], by simp [part, run_isAggD hu, hd, ho], ?_⟩
  unfold Instr.checkKey
  simp only [Sem.run_bind, run_und hu, Result.andThen_ok]
  cases d <;> first
    | (exact absurd rfl (hi _))
    | (simp [aggD] at hd; done)
    | rfl

theorem fields_ck {d : Nat} (hp : ∀ t l, plainL P d t = some l → PartCk P w d t l) {e : Bool} {n : Nat} (hn : d ≤ n) {xs : Array Value} :
    ∀ (fs : List Field) (o : Nat) (r : List LK), plainF P (plainL P d) fs o = some r → o + r.length ≤ xs.size →
    (forIn (m := Sem) fs () (fun f _ =>
      if f.name ≠ "_" then do
        let x ← part f.type xs f.offset
        Instr.checkKey e n f.type x
        pure (ForInStep.yield ())
      else pure (ForInStep.yield ()))).run P w = .ok () w := by
  intro fs
  induction fs with
  | nil => intro o r h hc; simp
  | cons f fs ih =>
    intro o r h hc
    simp only [plainF] at h
    split at h
    case h_2 => cases h
    rename_i l hl
    split at h
    case isFalse => cases h
    rename_i hcond
    obtain ⟨ho, hname, hs⟩ := hcond
    split at h
    case h_2 => cases h
    rename_i r' hr
    cases h
    rw [List.length_append] at hc
    obtain ⟨x, k1, k2⟩ := hp _ _ hl hs e n xs f.offset hn (by omega)
    simp only [List.forIn_cons, hname, ne_eq, not_false_eq_true, if_true, Sem.run_bind, k1, Result.andThen_ok, k2, Sem.run_pure]
    exact ih (o + l.length) r' hr (by omega)

theorem elems_ck {d : Nat} {el : TypeId} {l : List LK} (hp : PartCk P w d el l) (hs : sizeOfT P el = some l.length) {e : Bool} {n : Nat} (hn : d ≤ n) {xs : Array Value} :
    ∀ (len k : Nat), (k + len) * l.length ≤ xs.size →
    (forIn (m := Sem) (List.range' k len) () (fun i _ => do
        let z ← sizeOf el
        let x ← part el xs (i * z)
        Instr.checkKey e n el x
        pure (ForInStep.yield ()))).run P w = .ok () w := by
  intro len
  induction len with
  | zero => intro k h; simp
  | succ len ih =>
    intro k h
    have h1 : (k + 1) * l.length ≤ (k + (len + 1)) * l.length := Nat.mul_le_mul_right _ (by omega)
    rw [Nat.add_mul, Nat.one_mul] at h1
    obtain ⟨x, k1, k2⟩ := hp hs e n xs (k * l.length) hn (by omega)
    simp only [List.range'_succ, List.forIn_cons, Sem.run_bind, run_sizeOfT hs, k1, Result.andThen_ok, k2, Sem.run_pure]
    exact ih (k + 1) (by rw [show k + 1 + len = k + (len + 1) by omega]; exact h)

theorem agg_ck {d : Nat} {t : TypeId} {l : List LK} {ds : TypeDesc} (hu : P.underlying t = some ds) (hd : aggD ds = true)
    (he : ∀ (e : Bool) (n : Nat) (xs : Array Value), d ≤ n → l.length ≤ xs.size → (Instr.checkKey e (n + 1) t (.agg xs)).run P w = .ok () w) : PartCk P w (d + 1) t l := by
  intro hs e n xs o hn h
  obtain ⟨m, rfl⟩ : ∃ m, n = m + 1 := ⟨n - 1, by omega⟩
  exact ⟨.agg (xs.extract o (o + l.length)), by simp [part, run_isAggD hu, hd, run_sizeOfT hs], he e m _ (by omega) (by simp; omega)⟩

theorem check_plain : ∀ (d : Nat) (t : TypeId) (l : List LK), plainL P d t = some l → PartCk P w d t l ∧
    ∀ ds, P.underlying t = some ds → aggD ds = true → ∀ (e : Bool) (n : Nat) (xs : Array Value), d ≤ n + 1 → l.length ≤ xs.size → (Instr.checkKey e (n + 1) t (.agg xs)).run P w = .ok () w := by
  intro d
  induction d with
  | zero => intro t l h; simp [plainL] at h
  | succ d ih =>
    intro t l h
    simp only [plainL] at h
    split at h
    · rename_i hu
      cases h
      exact ⟨leaf_ck hu rfl nofun d, fun ds h1 h2 => by rw [hu] at h1; cases h1; cases h2⟩
    · rename_i ik hu
      cases h
      exact ⟨leaf_ck hu rfl nofun d, fun ds h1 h2 => by rw [hu] at h1; cases h1; cases h2⟩
    · rename_i hu
      cases h
      exact ⟨leaf_ck hu rfl nofun d, fun ds h1 h2 => by rw [hu] at h1; cases h1; cases h2⟩
    · rename_i fields hu
      split at h
      · cases h
      have main : ∀ (e : Bool) (n : Nat) (xs : Array Value), d ≤ n → l.length ≤ xs.size → (Instr.checkKey e (n + 1) t (.agg xs)).run P w = .ok () w := by
        intro e n xs hn hc
        have := fields_ck (fun t l h => (ih t l h).1) (e := e) hn fields.toList 0 l h (by simpa using hc) (xs := xs)
        unfold Instr.checkKey
        simp only [Sem.run_bind, run_und hu, Result.andThen_ok]
        rw [← Array.forIn_toList]
        first
          | exact this
          | (rw [this]; rfl)
      exact ⟨agg_ck hu rfl main, fun ds _ _ e n xs hn hc => main e n xs (by omega) hc⟩
    · rename_i len el hu
      split at h
      case h_2 => cases h
      rename_i k hk
      split at h
      case isFalse => cases h
      rename_i hs
      cases h
      have main : ∀ (e : Bool) (n : Nat) (xs : Array Value), d ≤ n → (List.replicate len k).flatten.length ≤ xs.size → (Instr.checkKey e (n + 1) t (.agg xs)).run P w = .ok () w := by
        intro e n xs hn hc
        have := elems_ck (ih el k hk).1 hs (e := e) hn len 0 (by simpa using hc) (xs := xs)
        unfold Instr.checkKey
        simp only [Sem.run_bind, run_und hu, Result.andThen_ok]
        rw [Std.Legacy.Range.forIn_eq_forIn_range']
        simp only [Std.Legacy.Range.size, Nat.sub_zero, Nat.add_sub_cancel, Nat.div_one]
        first
          | exact this
          | (rw [this]; rfl)
      exact ⟨agg_ck hu rfl main, fun ds _ _ e n xs hn hc => main e n xs (by omega) hc⟩
    · cases h

theorem key_check {kt : Nat} {m : EqM} {k : Value} (hm : keyMode P kt = some m) (hk : keyOk m k = true) (e : Bool) : (Instr.checkKey e 10000 kt k).run P w = .ok () w := by
  unfold keyMode at hm
  split at hm
  · rename_i lk hq
    cases hm
    have hl := eqMode_leaf hq
    have key : ∀ d, P.underlying kt = some d → aggD d = false → (∀ ms, d ≠ .interface ms) → (Instr.checkKey e (9999 + 1) kt k).run P w = .ok () w := by
      intro d hu hd hi
      unfold Instr.checkKey
      simp only [Sem.run_bind, run_und hu, Result.andThen_ok]
      cases d <;> first
        | (exact absurd rfl (hi _))
        | (simp [aggD] at hd; done)
        | rfl
    cases lk with
    | b => exact key _ (hl.1 rfl) rfl nofun
    | i => obtain ⟨ik, hu⟩ := hl.2.1 rfl; exact key _ hu rfl nofun
    | s => exact key _ (hl.2.2 rfl) rfl nofun
  · rename_i l hq
    cases hm
    obtain ⟨_, g2, d, g3, g4⟩ := eqMode_cells hq
    unfold keyOk at hk
    split at hk
    · rename_i e2; cases e2
    · rename_i l' cs e2
      cases e2
      have := (kindsOk_plain hk).1
      simp only [Array.length_toList] at this
      exact (check_plain 40 kt l g2).2 d g3 g4 e 9999 cs (by omega) (by omega)
    · cases hk
  · cases hm

theorem leafEq_true {k : LK} {x y : Value} (h : leafEq k x y = some true) : x = y := by
  cases k <;> cases x <;> cases y <;> simp [leafEq] at h <;> try simp [h]
  have : ByteArray.beq _ _ = true := h
  unfold ByteArray.beq at this
  have h2 := eq_of_beq this
  rw [ByteArray.ext h2]

theorem cellsEq_true : ∀ {l : List LK} {X Y : List Value}, cellsEq l X Y = some true → X.length = l.length → Y.length = l.length → X = Y
  | [], X, Y, _, h1, h2 => by rw [List.length_eq_zero_iff.1 h1, List.length_eq_zero_iff.1 h2]
  | k :: l, [], _, _, h, _ => by simp at h
  | k :: l, _ :: _, [], _, _, h => by simp at h
  | k :: l, x :: X, y :: Y, h, h1, h2 => by
    simp only [cellsEq] at h
    split at h
    · rename_i e
      rw [leafEq_true e, cellsEq_true h (by simpa using h1) (by simpa using h2)]
    · cases h
    · cases h

theorem key_eq {m : EqM} {kt : Nat} (hm : keyMode P kt = some m) {k k' : Value} (h : eqBy m k k' = some true) : k = k' := by
  unfold keyMode at hm
  split at hm
  · cases hm; exact leafEq_true h
  · cases hm
    simp only [eqBy, aggEq] at h
    split at h
    case h_2 => cases h
    split at h
    case isFalse => cases h
    rename_i hs
    have := cellsEq_true h (by simpa using hs.1) (by simpa using hs.2)
    rw [Array.toList_inj] at this
    rw [this]
  · cases hm

def EntRs (β : Emb) (es : Entries) (es' : Array MapEntry) : Prop := es'.size = es.length ∧ ∀ (i : Nat) e, es[i]? = some e → ∃ e', es'[i]? = some e' ∧ EntR β e e'

def EntRl (β : Emb) : Entries → List MapEntry → Prop
  | [], [] => True
  | e :: es, e' :: es' => EntR β e e' ∧ EntRl β es es'
  | _, _ => False

theorem entRl_of : ∀ {es : Entries} {es' : List MapEntry}, es'.length = es.length → (∀ (i : Nat) e, es[i]? = some e → ∃ e', es'[i]? = some e' ∧ EntR β e e') → EntRl β es es'
  | [], [], _, _ => trivial
  | [], _ :: _, h, _ => by simp at h
  | _ :: _, [], h, _ => by simp at h
  | e :: es, e' :: es', h, hr => by
    refine ⟨?_, entRl_of (by simpa using h) fun i x hx => ?_⟩
    · obtain ⟨u, h1, h2⟩ := hr 0 e rfl; simp at h1; subst h1; exact h2
    · obtain ⟨u, h1, h2⟩ := hr (i + 1) x (by simpa using hx); exact ⟨u, by simpa using h1, h2⟩

theorem find_now {lk : LK} {d : TypeDesc} {k : Value} (hd : ∀ a b q, leafEq lk a b = some q → Instr.sameNow d a b = some q) : ∀ (es : Entries) (es' : List MapEntry) (i : Nat) r, EntRl β es es' → findE (.lf lk) k es i = some r →
    (r = none → Instr.findNow d k es' i = some none) ∧ ∀ j v b, r = some (j, v, b) → i ≤ j ∧ ∃ e e', es[j - i]? = some e ∧ es'[j - i]? = some e' ∧ EntR β e e' ∧ e.2 = (v, b) ∧ eqBy (.lf lk) k e.1 = some true ∧ Instr.findNow d k es' i = some (some (j, e'.val))
  | [], [], i, r, _, h => by simp only [findE, Option.some.injEq] at h; subst h; exact ⟨fun _ => rfl, nofun⟩
  | [], _ :: _, _, _, h, _ => h.elim
  | _ :: _, [], _, _, h, _ => h.elim
  | (k0, v0, b0) :: es, e' :: es', i, r, hr, h => by
    obtain ⟨hr0, hrt⟩ := hr
    simp only [findE] at h
    split at h
    · rename_i he
      cases h
      refine ⟨nofun, fun j v b e => ?_⟩
      cases e
      have hs := hd k e'.key true (by rw [hr0.2.1]; exact he)
      exact ⟨Nat.le_refl _, (k0, v0, b0), e', by simp, by simp, hr0, rfl, he, by simp [Instr.findNow, hs]⟩
    · rename_i he
      have hs := hd k e'.key false (by rw [hr0.2.1]; exact he)
      obtain ⟨g1, g2⟩ := find_now hd es es' (i + 1) r hrt h
      refine ⟨fun e => by simp only [Instr.findNow, hs]; exact g1 e, fun j v b e => ?_⟩
      obtain ⟨q0, e0, e1, q1, q2, q3, q4, q5, q6⟩ := g2 j v b e
      refine ⟨by omega, e0, e1, ?_, ?_, q3, q4, q5, by simp only [Instr.findNow, hs]; exact q6⟩
      · rw [show j - i = (j - (i + 1)) + 1 by omega]; simpa using q1
      · rw [show j - i = (j - (i + 1)) + 1 by omega]; simpa using q2
    · cases h

theorem find_ask {m : EqM} {kt : Nat} {k : Value} (he : ∀ a b q, eqBy m a b = some q → (Op.equal kt a b).run P w = .ok q w) : ∀ (es : Entries) (es' : List MapEntry) (i : Nat) r, EntRl β es es' → findE m k es i = some r →
    (r = none → (Instr.findAsking kt k es' i).run P w = .ok none w) ∧ ∀ j v b, r = some (j, v, b) → i ≤ j ∧ ∃ e e', es[j - i]? = some e ∧ es'[j - i]? = some e' ∧ EntR β e e' ∧ e.2 = (v, b) ∧ eqBy m k e.1 = some true ∧ (Instr.findAsking kt k es' i).run P w = .ok (some (j, e'.val)) w
  | [], [], i, r, _, h => by simp only [findE, Option.some.injEq] at h; subst h; exact ⟨fun _ => rfl, nofun⟩
  | [], _ :: _, _, _, h, _ => h.elim
  | _ :: _, [], _, _, h, _ => h.elim
  | (k0, v0, b0) :: es, e' :: es', i, r, hr, h => by
    obtain ⟨hr0, hrt⟩ := hr
    simp only [findE] at h
    split at h
    · rename_i hq
      cases h
      refine ⟨nofun, fun j v b e => ?_⟩
      cases e
      have hs := he k e'.key true (by rw [hr0.2.1]; exact hq)
      exact ⟨Nat.le_refl _, (k0, v0, b0), e', by simp, by simp, hr0, rfl, hq, by simp [Instr.findAsking, hs]⟩
    · rename_i hq
      have hs := he k e'.key false (by rw [hr0.2.1]; exact hq)
      obtain ⟨g1, g2⟩ := find_ask he es es' (i + 1) r hrt h
      refine ⟨fun e => by simp only [Instr.findAsking, Sem.run_bind, hs, Result.andThen_ok, Bool.false_eq_true, if_false]; exact g1 e, fun j v b e => ?_⟩
      obtain ⟨q0, e0, e1, q1, q2, q3, q4, q5, q6⟩ := g2 j v b e
      refine ⟨by omega, e0, e1, ?_, ?_, q3, q4, q5, by simp only [Instr.findAsking, Sem.run_bind, hs, Result.andThen_ok, Bool.false_eq_true, if_false]; exact q6⟩
      · rw [show j - i = (j - (i + 1)) + 1 by omega]; simpa using q1
      · rw [show j - i = (j - (i + 1)) + 1 by omega]; simpa using q2
    · cases h

theorem find_sim {m : EqM} {kt : Nat} (hm : keyMode P kt = some m) {k : Value} {es : Entries} {es' : Array MapEntry} (hr : EntRs β es es') {r : Option (Nat × Value × Nat)} (h : findE m k es 0 = some r) :
    (r = none → (Instr.findKey kt k es'.toList).run P w = .ok none w) ∧ ∀ j v b, r = some (j, v, b) → ∃ e e', es[j]? = some e ∧ es'[j]? = some e' ∧ EntR β e e' ∧ e.2 = (v, b) ∧ k = e.1 ∧ (Instr.findKey kt k es'.toList).run P w = .ok (some (j, e'.val)) w := by
  have hl : EntRl β es es'.toList := entRl_of (by simpa using hr.1) fun i e he => by obtain ⟨e', h1, h2⟩ := hr.2 i e he; exact ⟨e', by rw [Array.getElem?_toList]; exact h1, h2⟩
  have hm' := hm
  unfold keyMode at hm'
  split at hm'
  · rename_i lk hq
    cases hm'
    have hkd := eqMode_leaf hq
    have key : ∀ d, P.underlying kt = some d → (∀ a b q, leafEq lk a b = some q → Instr.sameNow d a b = some q) → _ := fun d hu hd => by
      obtain ⟨g1, g2⟩ := find_now (β := β) (k := k) hd es es'.toList 0 r hl h
      refine (⟨fun e => ?_, fun j v b e => ?_⟩ : (r = none → (Instr.findKey kt k es'.toList).run P w = .ok none w) ∧ ∀ j v b, r = some (j, v, b) → ∃ e e', es[j]? = some e ∧ es'[j]? = some e' ∧ EntR β e e' ∧ e.2 = (v, b) ∧ k = e.1 ∧ (Instr.findKey kt k es'.toList).run P w = .ok (some (j, e'.val)) w)
      · simp [Instr.findKey, run_und hu, g1 e]
      · obtain ⟨_, e0, e1, q1, q2, q3, q4, q5, q6⟩ := g2 j v b e
        exact ⟨e0, e1, by simpa using q1, by simpa using q2, q3, q4, key_eq hm q5, by simp [Instr.findKey, run_und hu, q6]⟩
    cases lk with
    | b => exact key _ (hkd.1 rfl) (fun a b q hab => by cases a <;> cases b <;> simp [leafEq] at hab; subst hab; rfl)
    | i =>
      obtain ⟨ik, hu⟩ := hkd.2.1 rfl
      exact key _ hu (fun a b q hab => by cases a <;> cases b <;> simp [leafEq] at hab; obtain ⟨h1, h2⟩ := hab; subst h1 h2; simp [Instr.sameNow])
    | s => exact key _ (hkd.2.2 rfl) (fun a b q hab => by cases a <;> cases b <;> simp [leafEq] at hab; subst hab; rfl)
  · rename_i l hq
    cases hm'
    obtain ⟨_, g2, d, g3, g4⟩ := eqMode_cells hq
    have he : ∀ a b q, eqBy (.cells l) a b = some q → (Op.equal kt a b).run P w = .ok q w := by
      intro a b q hab
      simp only [eqBy, aggEq] at hab
      split at hab
      case h_2 => cases hab
      rename_i xs ys
      split at hab
      case isFalse => cases hab
      exact (equal_plain 40 kt l g2).2 d g3 g4 9999 xs ys q (by omega) hab
    obtain ⟨f1, f2⟩ := find_ask (P := P) (w := w) (β := β) (k := k) he es es'.toList 0 r hl h
    have hnow : es'.toList = [] ∨ Instr.findNow d k es'.toList 0 = none := by
      cases hq2 : es'.toList with
      | nil => exact .inl rfl
      | cons e t =>
        refine .inr ?_
        have hsn : Instr.sameNow d k e.key = none := by
          cases d <;> simp [aggD] at g4 <;> (unfold Instr.sameNow; split <;> simp_all)
        simp [Instr.findNow, hsn]
    have run : ∀ a, (Instr.findAsking kt k es'.toList 0).run P w = .ok a w → (Instr.findKey kt k es'.toList).run P w = .ok a w := by
      intro a ha
      rcases hnow with h0 | h0
      · rw [h0] at ha ⊢
        simp [Instr.findAsking] at ha
        subst ha
        simp [Instr.findKey, run_und g3, Instr.findNow]
      · simp only [Instr.findKey, Sem.run_bind, run_und g3, Result.andThen_ok, h0]
        exact ha
    refine ⟨fun e => run _ (f1 e), fun j v b e => ?_⟩
    obtain ⟨_, e0, e1, q1, q2, q3, q4, q5, q6⟩ := f2 j v b e
    exact ⟨e0, e1, by simpa using q1, by simpa using q2, q3, q4, key_eq hm q5, run _ q6⟩
  · cases hm'

end
end Go.Proofs.YtapkmhneneffdaaGreatDoor.Mx

/-! The text ZadS. -/
namespace Go.Proofs.YtapkmhneneffdaaGreatDoor.Mx
open Go

section
variable {P : Program} {B0 : Bs} {w0 : World} {β : Emb} {H : Heap} {w : World}

theorem zeroVal_run {t : Nat} {z : Value} (h : zeroVal P t = some z) (w : World) : (zeroValue t).run P w = .ok z w ∧ closedV z = true := by
  unfold zeroVal at h
  split at h
  case h_2 => cases h
  rename_i i hi
  split at h
  case h_2 => cases h
  rename_i zv hz
  split at h
  case isFalse => cases h
  rename_i hc
  cases h
  exact ⟨run_zero hi hz w, hc⟩

theorem mkmap_sim (R : WRel B0 w0 β H w) {id : Nat} {H' : Heap} {t : TypeId} (hn : H.new id (.map [] 0) = some H') (hid : id < H.size) :
    Good B0 w0 β H' (.map (some id)) ((Instr.makeMap t none).run P w) := by
  obtain ⟨le, R'⟩ := R.toRel.newMap hn hid
  refine ⟨_, .map (some w.heap.size), { w with heap := w.heap.push (.map #[] 0) }, ?_, le, ⟨R', R.os, R.tape, R.output⟩, .mapr id ⟨w.heap.size, 0, 0⟩ (upd_self _ _ _)⟩
  simp [Instr.makeMap]

theorem entries_sim (R : WRel B0 w0 β H w) {x x' : Value} {es : Entries} {c : Nat} (h : H.entries x = some (es, c)) (hx : VR β x x') :
    ∃ es' : Array MapEntry, EntRs β es es' ∧ ((x' = .map none ∧ es' = #[]) ∨ ∃ id l, x = .map (some id) ∧ β id = some l ∧ x' = .map (some l.b) ∧ w.heap[l.b]? = some (.map es' c) ∧ H.get id = some (.map es c)) := by
  unfold Heap.entries at h
  split at h
  · cases h; cases hx
    exact ⟨#[], ⟨rfl, fun i e he => by simp at he⟩, .inl ⟨rfl, rfl⟩⟩
  · rename_i id
    split at h
    case h_2 => cases h
    rename_i es0 c0 hg
    cases h
    cases hx with
    | mapr _ l hl =>
    obtain ⟨es', h1, h2, h3⟩ := R.mp id l es c hl hg
    exact ⟨es', ⟨h2, h3⟩, .inr ⟨id, l, rfl, hl, rfl, h1, hg⟩⟩
  · cases h

theorem lookup_sim (R : WRel B0 w0 β H w) {t kt e : Nat} {m : EqM} {z : Value} {ok : Bool} {x x' i i' v : Value} (hu : P.underlying t = some (.map kt e)) (hm : keyMode P kt = some m) (hz : zeroVal P e = some z)
    (hx : VR β x x') (hi : VR β i i') (hv : H.lookup m z ok x i = some v) : Good B0 w0 β H v ((Instr.lookup t x' i' ok).run P w) := by
  unfold Heap.lookup at hv
  split at hv
  case isFalse => cases hv
  rename_i hk
  obtain rfl : i = i' := (key_vr (keyOk_any hk) hi).symm
  split at hv
  case h_2 => cases hv
  rename_i es c he
  obtain ⟨es', hes, hx'⟩ := entries_sim R he hx
  obtain ⟨hz1, hz2⟩ := zeroVal_run hz w
  cases hf : findE m i es 0 with
  | none => rw [hf] at hv; cases hv
  | some r =>
    rw [hf] at hv
    obtain ⟨f1, f2⟩ := find_sim (P := P) (w := w) hm hes hf
    have core : ∃ q : Value, VR β v q ∧ ((Instr.findKey kt i es'.toList).run P w = .ok none w ∧ q = (if ok then .tuple #[z, .bool false] else z) ∨
        ∃ j u, (Instr.findKey kt i es'.toList).run P w = .ok (some (j, u)) w ∧ q = (if ok then .tuple #[u, .bool true] else u)) := by
      cases r with
      | none =>
        cases hv
        refine ⟨if ok then .tuple #[z, .bool false] else z, ?_, .inl ⟨f1 rfl, rfl⟩⟩
        cases ok
        · exact .ofClosed β hz2
        · exact .tuple' (.cons (.ofClosed β hz2) (.cons (.bool _) (.nil β)))
      | some q =>
        obtain ⟨j, v0, b0⟩ := q
        cases hv
        obtain ⟨e0, e1, _, _, q3, q4, _, q6⟩ := f2 j v0 b0 rfl
        have hv0 : VR β v0 e1.val := by have := q3.2.2.1; rw [q4] at this; exact this
        refine ⟨if ok then .tuple #[e1.val, .bool true] else e1.val, ?_, .inr ⟨j, e1.val, q6, rfl⟩⟩
        cases ok
        · exact hv0
        · exact .tuple' (.cons hv0 (.cons (.bool _) (.nil β)))
    obtain ⟨q, hq, hc⟩ := core
    refine Good.same R (v' := q) ?_ hq
    simp only [Instr.lookup, Sem.run_bind, run_und hu, Result.andThen_ok]
    rcases hx' with ⟨rfl, rfl⟩ | ⟨id, l, _, _, rfl, hb, _⟩
    · rcases hc with ⟨hc, rfl⟩ | ⟨j, u, hc, rfl⟩
      · simp only [Sem.run_bind, Sem.run_pure, Result.andThen_ok, key_check hm hk, hc, hz1]
      · simp only [Sem.run_bind, Sem.run_pure, Result.andThen_ok, key_check hm hk, hc]
    · rcases hc with ⟨hc, rfl⟩ | ⟨j, u, hc, rfl⟩
      · simp only [Sem.run_bind, Sem.run_pure, getObj_map hb, Result.andThen_ok, key_check hm hk, hc, hz1]
      · simp only [Sem.run_bind, Sem.run_pure, getObj_map hb, Result.andThen_ok, key_check hm hk, hc]

theorem maplen_sim (R : WRel B0 w0 β H w) {t kt e ty : Nat} {ts : Array TypeId} {x x' : Value} {es : Entries} {c : Nat} (ht : ts[0]? = some t) (hu : P.underlying t = some (.map kt e)) (hx : VR β x x') (he : H.entries x = some (es, c)) :
    Good B0 w0 β H (.int .i64 es.length) ((Builtin.len_ ts ty #[x']).run P w) := by
  obtain ⟨es', hes, hx'⟩ := entries_sim R he hx
  refine Good.same R (v' := .int .i64 es.length) ?_ (.int _ _)
  rcases hx' with ⟨rfl, rfl⟩ | ⟨id, l, _, _, rfl, hb, _⟩
  · have h0 := hes.1
    simp at h0
    simp [Builtin.len_, ht, run_und hu, goInt, ← h0]
  · simp [Builtin.len_, ht, run_und hu, goInt, getObj_map hb, hes.1]

theorem plain_bits {v : Value} (h : plain v = true) (n : Nat) : Instr.sameBits n v v = true := by
  cases v <;> simp [plain] at h <;> unfold Instr.sameBits <;> try simp
  rename_i s
  show ByteArray.beq s s = true
  unfold ByteArray.beq
  exact beq_self_eq_true _

theorem key_bits {k : Value} (h : keyAny k = true) : Instr.sameBits 10000 k k = true := by
  by_cases ha : ∃ cs, k = .agg cs
  · obtain ⟨cs, rfl⟩ := ha
    have key : ∀ l : List Value, l.all plain = true → ((l.zip l).all fun (x, y) => Instr.sameBits 9999 x y) = true := by
      intro l
      induction l with
      | nil => intro _; rfl
      | cons v l ih =>
        intro hl
        simp only [List.all_cons, Bool.and_eq_true] at hl
        simp only [List.zip_cons_cons, List.all_cons, plain_bits hl.1, Bool.true_and]
        exact ih hl.2
    show (cs.size == cs.size && (cs.toList.zip cs.toList).all fun (x, y) => Instr.sameBits 9999 x y) = true
    rw [key cs.toList (by simpa [keyAny] using h)]
    simp
  · have hp : plain k = true := by cases k <;> first | exact h | exact absurd ⟨_, rfl⟩ ha
    exact plain_bits hp _

theorem entRs_set {es : Entries} {es' : Array MapEntry} (h : EntRs β es es') {j : Nat} {e : Value × Value × Nat} (he : es[j]? = some e) {v v' : Value} (hv : VR β v v') {f : MapEntry → MapEntry} (hf : ∀ e', es'[j]? = some e' → (f e').key = e.1 ∧ (f e').val = v' ∧ (f e').born = e'.born) :
    EntRs β (setVal es j v) (es'.modify j f) := by
  have hget : ∀ (es : Entries) (j i : Nat), (setVal es j v)[i]? = if j = i then (es[i]?).map (fun e => (e.1, v, e.2.2)) else es[i]? := by
    intro es
    induction es with
    | nil => intro j i; cases j <;> simp [setVal]
    | cons a es ih =>
      intro j i
      obtain ⟨k0, v0, b0⟩ := a
      cases j with
      | zero => cases i <;> simp [setVal]
      | succ j =>
        cases i with
        | zero => simp [setVal]
        | succ i => simp [setVal, ih j i]
  have hlen : ∀ (es : Entries) (j : Nat), (setVal es j v).length = es.length := by
    intro es
    induction es with
    | nil => intro j; cases j <;> rfl
    | cons a es ih => intro j; obtain ⟨k0, v0, b0⟩ := a; cases j <;> simp [setVal, ih]
  refine ⟨by rw [hlen]; simpa using h.1, fun i a ha => ?_⟩
  rw [hget] at ha
  rw [Array.getElem?_modify]
  split at ha
  · rename_i hji
    subst hji
    rw [he] at ha
    cases ha
    obtain ⟨e', h1, h2, h3, h4, h5⟩ := h.2 j e he
    obtain ⟨g1, g2, g3⟩ := hf e' h1
    exact ⟨f e', by simp [h1], h2, g1, by rw [g2]; exact hv, by rw [g3]; exact h5⟩
  · rename_i hji
    obtain ⟨e', h1, h2⟩ := h.2 i a ha
    exact ⟨e', by rw [if_neg hji]; exact h1, h2⟩

theorem entRs_push {es : Entries} {es' : Array MapEntry} (h : EntRs β es es') {k v v' : Value} {c : Nat} (hk : keyAny k = true) (hv : VR β v v') : EntRs β (es ++ [(k, v, c)]) (es'.push { key := k, val := v', born := c }) := by
  refine ⟨by simp [h.1], fun i a ha => ?_⟩
  by_cases hi : i < es.length
  · rw [List.getElem?_append_left hi] at ha
    obtain ⟨e', h1, h2⟩ := h.2 i a ha
    exact ⟨e', by rw [Array.getElem?_push_lt (by rw [h.1]; exact hi)]; rw [← h1]; exact (Array.getElem?_eq_getElem (by rw [h.1]; exact hi)).symm, h2⟩
  · rw [List.getElem?_append_right (by omega)] at ha
    have : i = es.length := by
      have := (List.getElem?_eq_some_iff.1 ha).1
      simp at this; omega
    subst this
    simp at ha
    subst ha
    exact ⟨{ key := k, val := v', born := c }, by rw [← h.1]; simp, hk, rfl, hv, rfl⟩

theorem set_rel (R : WRel B0 w0 β H w) {id : Nat} {l : Loc} {es es2 : Entries} {c c2 : Nat} (hb : β id = some l) (hg : H.get id = some (.map es c)) {es' : Array MapEntry} (h : EntRs β es2 es') :
    WRel B0 w0 β (H.put id (.map es2 c2)) { w with heap := w.heap.setIfInBounds l.b (.map es' c2) } :=
  ⟨R.toRel.setMap hb hg h.1 h.2, R.os, R.tape, R.output⟩

theorem stays {k : Value} (h : keyAny k = true) : (Instr.keyThatStays k k).run P w = .ok k w := by
  simp [Instr.keyThatStays, key_bits h]

theorem mapset_sim (R : WRel B0 w0 β H w) {t kt e : Nat} {m : EqM} {x x' i i' v v' : Value} {H' : Heap} (hu : P.underlying t = some (.map kt e)) (hm : keyMode P kt = some m)
    (hx : VR β x x') (hi : VR β i i') (hvv : VR β v v') (hv : H.mapset m x i v = some H') : ∃ w', (Instr.mapUpdate t x' i' v').run P w = .ok () w' ∧ WRel B0 w0 β H' w' := by
  unfold Heap.mapset at hv
  split at hv
  case h_2 => cases hv
  rename_i id
  split at hv
  case isFalse => cases hv
  rename_i hk
  obtain rfl : i = i' := (key_vr (keyOk_any hk) hi).symm
  split at hv
  case h_2 => cases hv
  rename_i es c hg
  cases hx with
  | mapr _ l hl =>
  obtain ⟨es', h1, h2, h3⟩ := R.mp id l es c hl hg
  have hes : EntRs β es es' := ⟨h2, h3⟩
  cases hf : findE m i es 0 with
  | none => rw [hf] at hv; cases hv
  | some r =>
    rw [hf] at hv
    obtain ⟨f1, f2⟩ := find_sim (P := P) (w := w) hm hes hf
    cases r with
    | none =>
      cases hv
      refine ⟨_, ?_, set_rel R hl hg (entRs_push hes (keyOk_any hk) hvv)⟩
      simp only [Instr.mapUpdate, Sem.run_bind, run_und hu, Result.andThen_ok, getObj_map h1, key_check hm hk, f1 rfl]
      exact setObj_map _ h1
    | some q =>
      obtain ⟨j, v0, b0⟩ := q
      cases hv
      obtain ⟨e0, e1, q1, q2, q3, q4, q5, q6⟩ := f2 j v0 b0 rfl
      refine ⟨_, ?_, set_rel R hl hg (entRs_set hes q1 hvv (f := fun e => { e with key := i, val := v' }) fun e' he' => ⟨q5, rfl, rfl⟩)⟩
      have hke : (((es'[j]?).map (·.key)).getD i) = i := by rw [q2]; simp [q3.2.1, ← q5]
      simp only [Instr.mapUpdate, Sem.run_bind, run_und hu, Result.andThen_ok, getObj_map h1, key_check hm hk, q6, hke, stays (keyOk_any hk)]
      exact setObj_map _ h1

theorem mapentry_sim (R : WRel B0 w0 β H w) {t kt e : Nat} {m : EqM} {z : Value} {x x' i i' v : Value} {H' : Heap} (hu : P.underlying t = some (.map kt e)) (hm : keyMode P kt = some m) (hz : zeroVal P e = some z)
    (hx : VR β x x') (hi : VR β i i') (hv : H.mapentry m z x i = some (v, H')) : Good B0 w0 β H' v ((Instr.mapEntry t x' i').run P w) := by
  unfold Heap.mapentry at hv
  split at hv
  case h_2 => cases hv
  rename_i id
  split at hv
  case isFalse => cases hv
  rename_i hk
  obtain rfl : i = i' := (key_vr (keyOk_any hk) hi).symm
  split at hv
  case h_2 => cases hv
  rename_i es c hg
  cases hx with
  | mapr _ l hl =>
  obtain ⟨es', h1, h2, h3⟩ := R.mp id l es c hl hg
  have hes : EntRs β es es' := ⟨h2, h3⟩
  obtain ⟨hz1, hz2⟩ := zeroVal_run hz w
  cases hf : findE m i es 0 with
  | none => rw [hf] at hv; cases hv
  | some r =>
    rw [hf] at hv
    obtain ⟨f1, f2⟩ := find_sim (P := P) (w := w) hm hes hf
    cases r with
    | none =>
      cases hv
      refine ⟨β, .tuple #[z, goInt c], _, ?_, Emb.le_refl β, set_rel R hl hg (entRs_push hes (keyOk_any hk) (.ofClosed β hz2)), .tuple' (.cons (.ofClosed β hz2) (.cons (.int _ _) (.nil β)))⟩
      simp only [Instr.mapEntry, Sem.run_bind, run_und hu, Result.andThen_ok, getObj_map h1, key_check hm hk, f1 rfl, hz1, setObj_map _ h1, Sem.run_pure]
    | some q =>
      obtain ⟨j, v0, b0⟩ := q
      cases hv
      obtain ⟨e0, e1, q1, q2, q3, q4, q5, q6⟩ := f2 j v0 b0 rfl
      have hv0 : VR β v0 e1.val := by have := q3.2.2.1; rw [q4] at this; exact this
      have hb0 : e1.born = b0 := by have := q3.2.2.2; rw [q4] at this; exact this
      have hset : setVal es j v0 = es := by
        clear f1 f2 hf
        have : ∀ (es : Entries) (j : Nat), es[j]? = some e0 → e0.2 = (v0, b0) → setVal es j v0 = es := by
          intro es
          induction es with
          | nil => intro j h; simp at h
          | cons a es ih =>
            intro j h h'
            obtain ⟨k1, v1, b1⟩ := a
            cases j with
            | zero => simp at h; subst h; cases h'; rfl
            | succ j => simp only [setVal]; rw [ih j (by simpa using h) h']
        exact this es j q1 q4
      have hrel := set_rel (c2 := c) R hl hg (entRs_set hes q1 hv0 (f := fun e => { e with key := i }) fun e' he' => ⟨q5, by rw [q2] at he'; cases he'; rfl, rfl⟩)
      rw [hset] at hrel
      have hke : (((es'[j]?).map (·.key)).getD i) = i := by rw [q2]; simp [q3.2.1, ← q5]
      -- the entry is written as it was
      have hsame : es'.modify j (fun e => { e with key := i }) = es' := by
        apply Array.ext_getElem?
        intro a
        rw [Array.getElem?_modify]
        split
        · rename_i ea
          subst ea
          rw [q2]
          have : ({ e1 with key := i } : MapEntry) = e1 := by
            have := q3.2.1
            rw [← q5] at this
            cases e1; simp_all
          simp [this]
        · rfl
      refine ⟨β, .tuple #[e1.val, goInt b0], w, ?_, Emb.le_refl β, R, .tuple' (.cons hv0 (.cons (.int _ _) (.nil β)))⟩
      have hsz : l.b < w.heap.size := (Array.getElem?_eq_some_iff.1 h1).1
      have hw : ({ w with heap := w.heap.setIfInBounds l.b (.map es' c) } : World) = w := by
        have : w.heap.setIfInBounds l.b (.map es' c) = w.heap := by
          apply Array.ext_getElem?
          intro a
          rw [Array.getElem?_setIfInBounds]
          split
          · rename_i ea; subst ea; rw [h1]; try simp [hsz]
          · rfl
        rw [this]
      simp only [Instr.mapEntry, Sem.run_bind, run_und hu, Result.andThen_ok, getObj_map h1, key_check hm hk, q6, hke, stays (keyOk_any hk), hsame, setObj_map _ h1, hw, Sem.run_pure]
      simp [q2, hb0]

theorem setBorn_sim : ∀ (es : Entries) (l : List MapEntry) (s : Int) (v : Value) (es2 : Entries), EntRl β es l → setBorn es s v = some es2 → ∃ j e, l.findIdx? (fun e => (e.born : Int) == s) = some j ∧ es[j]? = some e ∧ es2 = setVal es j v
  | [], [], _, _, _, _, h => by simp [setBorn] at h
  | [], _ :: _, _, _, _, h, _ => h.elim
  | _ :: _, [], _, _, _, h, _ => h.elim
  | (k0, v0, b0) :: es, e' :: l, s, v, es2, hr, h => by
    obtain ⟨hr0, hrt⟩ := hr
    simp only [setBorn] at h
    have hb : e'.born = b0 := hr0.2.2.2
    split at h
    · rename_i hs
      cases h
      exact ⟨0, _, by simp [List.findIdx?_cons, hb, hs], rfl, rfl⟩
    · rename_i hs
      cases hq : setBorn es s v with
      | none => rw [hq] at h; cases h
      | some r =>
        rw [hq] at h; cases h
        obtain ⟨j, e, h1, h2, h3⟩ := setBorn_sim es l s v r hrt hq
        exact ⟨j + 1, e, by simp [List.findIdx?_cons, hb, hs, h1], by simpa using h2, by rw [h3]; rfl⟩

theorem entryset_sim (R : WRel B0 w0 β H w) {t : Nat} {x x' s s' v v' : Value} {H' : Heap} (hx : VR β x x') (hs : VR β s s') (hvv : VR β v v') (hv : H.entryset x s v = some H') :
    ∃ w', (Instr.entryStore t x' s' v').run P w = .ok () w' ∧ WRel B0 w0 β H' w' := by
  unfold Heap.entryset at hv
  split at hv
  case h_2 => cases hv
  rename_i id k n
  cases hs
  cases hx with
  | mapr _ l hl =>
  split at hv
  case h_2 => cases hv
  rename_i es c hg
  obtain ⟨es', h1, h2, h3⟩ := R.mp id l es c hl hg
  have hes : EntRs β es es' := ⟨h2, h3⟩
  cases hq : setBorn es n v with
  | none => rw [hq] at hv; cases hv
  | some es2 =>
    rw [hq] at hv; cases hv
    have hl2 : EntRl β es es'.toList := entRl_of (by simpa using h2) fun i e he => by obtain ⟨e', g1, g2⟩ := h3 i e he; exact ⟨e', by rw [Array.getElem?_toList]; exact g1, g2⟩
    obtain ⟨j, e, g1, g2, rfl⟩ := setBorn_sim es es'.toList n v es2 hl2 hq
    have g1' : es'.findIdx? (fun e => (e.born : Int) == n) = some j := by rw [← g1]; cases es' with | mk l => exact List.findIdx?_toArray _ _
    refine ⟨_, ?_, set_rel (c2 := c) R hl hg (entRs_set hes g2 hvv (f := fun e => { e with val := v' }) fun e' he' => ?_)⟩
    · simp only [Instr.entryStore, Sem.run_bind, getObj_map h1, Result.andThen_ok, asInt, asIntOf, Sem.run_pure, g1']
      exact setObj_map _ h1
    · obtain ⟨e'', k1, k2⟩ := h3 j e g2
      rw [he'] at k1; cases k1
      exact ⟨k2.2.1, rfl, rfl⟩

theorem entRl_del : ∀ {es : Entries} {l : List MapEntry} (j : Nat), EntRl β es l → EntRl β (delE es j) (l.eraseIdx j)
  | [], [], j, _ => by cases j <;> simp [delE, EntRl]
  | [], _ :: _, _, h => h.elim
  | _ :: _, [], _, h => h.elim
  | e :: es, e' :: l, 0, h => by simpa [delE] using h.2
  | e :: es, e' :: l, j + 1, h => by simp only [delE, List.eraseIdx_cons_succ]; exact ⟨h.1, entRl_del j h.2⟩

theorem entRl_to : ∀ {es : Entries} {l : List MapEntry}, EntRl β es l → l.length = es.length ∧ ∀ (i : Nat) e, es[i]? = some e → ∃ e', l[i]? = some e' ∧ EntR β e e'
  | [], [], _ => ⟨rfl, fun i e h => by simp at h⟩
  | [], _ :: _, h => h.elim
  | _ :: _, [], h => h.elim
  | e :: es, e' :: l, h => by
    obtain ⟨g1, g2⟩ := entRl_to h.2
    refine ⟨by simp [g1], fun i a ha => ?_⟩
    cases i with
    | zero => simp at ha; subst ha; exact ⟨e', by simp, h.1⟩
    | succ i => simp at ha; obtain ⟨u, k1, k2⟩ := g2 i a ha; exact ⟨u, by simpa using k1, k2⟩

theorem mapdel_sim (R : WRel B0 w0 β H w) {t kt e ty : Nat} {ts : Array TypeId} {m : EqM} {x x' i i' : Value} {H' : Heap} (ht : ts[0]? = some t) (hu : P.underlying t = some (.map kt e)) (hm : keyMode P kt = some m)
    (hx : VR β x x') (hi : VR β i i') (hv : H.mapdel m x i = some H') : ∃ w', (Builtin.delete_ ts ty #[x', i']).run P w = .ok (.tuple #[]) w' ∧ WRel B0 w0 β H' w' := by
  unfold Heap.mapdel at hv
  split at hv
  case isFalse => cases hv
  rename_i hk
  obtain rfl : i = i' := (key_vr (keyOk_any hk) hi).symm
  split at hv
  · cases hv; cases hx
    exact ⟨w, by simp [Builtin.delete_, ht, run_und hu, key_check hm hk], R⟩
  · rename_i id
    split at hv
    case h_2 => cases hv
    rename_i es c hg
    cases hx with
    | mapr _ l hl =>
    obtain ⟨es', h1, h2, h3⟩ := R.mp id l es c hl hg
    have hes : EntRs β es es' := ⟨h2, h3⟩
    have hl2 : EntRl β es es'.toList := entRl_of (by simpa using h2) fun i e he => by obtain ⟨e', g1, g2⟩ := h3 i e he; exact ⟨e', by rw [Array.getElem?_toList]; exact g1, g2⟩
    cases hf : findE m i es 0 with
    | none => rw [hf] at hv; cases hv
    | some r =>
      rw [hf] at hv
      obtain ⟨f1, f2⟩ := find_sim (P := P) (w := w) hm hes hf
      cases r with
      | none =>
        cases hv
        refine ⟨{ w with heap := w.heap.setIfInBounds l.b (.map es' c) }, ?_, ?_⟩
        · simp [Builtin.delete_, ht, run_und hu, getObj_map h1, key_check hm hk, f1 rfl, setObj_map _ h1]
        · have hsz : l.b < w.heap.size := (Array.getElem?_eq_some_iff.1 h1).1
          have : w.heap.setIfInBounds l.b (.map es' c) = w.heap := by
            apply Array.ext_getElem?
            intro a
            rw [Array.getElem?_setIfInBounds]
            split
            · rename_i ea; subst ea; rw [h1]; try simp [hsz]
            · rfl
          rw [this]; exact R
      | some q =>
        obtain ⟨j, v0, b0⟩ := q
        cases hv
        obtain ⟨e0, e1, q1, q2, q3, q4, q5, q6⟩ := f2 j v0 b0 rfl
        have hd := entRl_to (entRl_del j hl2)
        have hj : j < es'.size := (Array.getElem?_eq_some_iff.1 q2).1
        have her : (es'.eraseIdxIfInBounds j).toList = es'.toList.eraseIdx j := by
          simp [Array.eraseIdxIfInBounds, hj]
        refine ⟨{ w with heap := w.heap.setIfInBounds l.b (.map (es'.eraseIdxIfInBounds j) c) }, ?_, set_rel R hl hg ⟨by rw [← hd.1, ← Array.length_toList, her], fun a b hab => by obtain ⟨u, k1, k2⟩ := hd.2 a b hab; exact ⟨u, by rw [← Array.getElem?_toList, her]; exact k1, k2⟩⟩⟩
        simp [Builtin.delete_, ht, run_und hu, getObj_map h1, key_check hm hk, q6, setObj_map _ h1]
  · cases hv

theorem mapclear_sim (R : WRel B0 w0 β H w) {t kt e ty : Nat} {ts : Array TypeId} {x x' : Value} {H' : Heap} (ht : ts[0]? = some t) (hu : P.underlying t = some (.map kt e))
    (hx : VR β x x') (hv : H.mapclear x = some H') : ∃ w', (Builtin.clear_ ts ty #[x']).run P w = .ok (.tuple #[]) w' ∧ WRel B0 w0 β H' w' := by
  unfold Heap.mapclear at hv
  split at hv
  · cases hv; cases hx
    exact ⟨w, by simp [Builtin.clear_, ht, run_und hu], R⟩
  · rename_i id
    split at hv
    case h_2 => cases hv
    rename_i es c hg
    cases hv
    cases hx with
    | mapr _ l hl =>
    obtain ⟨es', h1, h2, h3⟩ := R.mp id l es c hl hg
    exact ⟨_, by simp [Builtin.clear_, ht, run_und hu, getObj_map h1, setObj_map _ h1], set_rel R hl hg (es' := #[]) ⟨rfl, fun i e he => by simp at he⟩⟩
  · cases hv

end
end Go.Proofs.YtapkmhneneffdaaGreatDoor.Mx

/-! The text ZadT. -/
namespace Go.Proofs.YtapkmhneneffdaaGreatDoor.Mx
open Go

section
variable {P : Program} {B0 : Bs} {w0 : World} {β : Emb} {H : Heap} {w : World}

/-- The first elements of a slice's row. -/
theorem row_first (R : WRel B0 w0 β H w) {s n : Nat} {cs : List Value} {y y' : Value} (h : H.row s y = some (n, cs)) (hs : isSlc y = true) (hy : VR β y y') {m : Nat} (hm : m ≤ n) :
    ∃ c', VRs β (cs.take (m * s)) c'.toList ∧ (Builtin.lenOf y').run P w = .ok n w ∧ (Builtin.firstCells s m y').run P w = .ok c' w := by
  unfold Heap.row at h
  split at h
  · cases h; cases hy
    have : m = 0 := by omega
    subst this
    exact ⟨#[], by simpa using VRs.nil β, by simp [Builtin.lenOf], by simp [Builtin.firstCells]⟩
  · rename_i id off x len cap
    split at h
    · rename_i h0
      subst h0
      cases h
      have : m = 0 := by omega
      subst this
      have key : ∀ a c, ∃ c' : Array Value, VRs β (([] : List Value).take (0 * s)) c'.toList ∧ (Builtin.lenOf (.slice (some a) 0 c)).run P w = .ok 0 w ∧ (Builtin.firstCells s 0 (.slice (some a) 0 c)).run P w = .ok c' w :=
        fun a c => ⟨#[], by simpa using VRs.nil β, by simp [Builtin.lenOf], by simp [Builtin.firstCells, loadCells, loadCellsFrom]⟩
      cases hy <;> exact key _ _
    · rename_i h0
      split at h
      case h_2 => cases h
      rename_i e ro cs0 hg
      split at h
      case isFalse => cases h
      rename_i hle
      cases h
      cases hy with
      | slice _ _ mk _ _ cap' l hl h1 h2 h3 h4 =>
        obtain ⟨c, e', fz, g1, g2, g3, g4, g5⟩ := R.ob id l e ro cs0 hl hg
        have hms : m * s ≤ n * s := Nat.mul_le_mul_right s hm
        have hlen : ((c.toList.drop (l.o + off)).take (m * s)).length = m * s := by simp; omega
        refine ⟨((c.toList.drop (l.o + off)).take (m * s)).toArray, ?_, by simp [Builtin.lenOf], ?_⟩
        · rw [List.take_take, Nat.min_eq_left hms]
          simpa using vrs_range g5 off (m * s) (by omega) (by omega)
        have hld := run_loadCells_list (P := P) w ⟨l.b, l.o + off, none⟩ ((c.toList.drop (l.o + off)).take (m * s)) (fun j v hj => by
          rw [add_none, cell_of g1]
          rw [List.getElem?_take] at hj
          split at hj
          · rw [List.getElem?_drop, Array.getElem?_toList] at hj; exact hj
          · cases hj)
        rw [hlen] at hld
        simp only [Builtin.firstCells]
        exact hld
      | slice0 _ _ _ A => exact absurd rfl h0
  · simp [isSlc] at hs
  · cases h

theorem copy_sim (R : WRel B0 w0 β H w) {t e ty s : Nat} {ts : Array TypeId} {x x' y y' v : Value} {H' : Heap} (ht : ts[0]? = some t) (hu : P.underlying t = some (.slice e)) (hs : sizeOfT P e = some s)
    (hx : VR β x x') (hy : VR β y y') (hv : H.copy s x y = some (v, H')) : Good B0 w0 β H' v ((Builtin.copy_ ts ty #[x', y']).run P w) := by
  unfold Heap.copy at hv
  split at hv
  case isFalse => cases hv
  rename_i hsl
  split at hv
  · rename_i n0 cs0 hrow
    cases hv; cases hx
    obtain ⟨c', _, h2, h3⟩ := row_first (P := P) R hrow hsl hy (m := 0) (by omega)
    refine Good.same R (v' := .int .i64 0) ?_ (.int _ _)
    simp [Builtin.copy_, ht, run_und hu, h2, run_sizeOfT hs, h3, goInt]
  · rename_i n new o off mk len cap hrow
    obtain ⟨c', h1, h2, h3⟩ := row_first (P := P) R hrow hsl hy (m := min n len) (Nat.min_le_left _ _)
    have hnl := (row_sim (P := P) R hrow hy).1
    split at hv
    · rename_i hm0
      cases hv
      rw [hm0] at h1 h3
      have hc0 : c'.toList = [] := by have := h1.1; simp at this; simpa using this.symm
      have key : ∀ A c, (Builtin.copy_ ts ty #[.slice (some A) len c, y']).run P w = .ok (.int .i64 0) w := by
        intro A c
        have hmn : Nat.min n len = 0 := hm0
        simp [Builtin.copy_, ht, run_und hu, h2, run_sizeOfT hs, hmn, h3, hc0, storeCells, goInt]
      cases hx with
      | slice _ _ _ _ _ cap' l hl' g1 g2 g3 g4 => exact Good.same R (key _ _) (.int _ _)
      | slice0 _ _ _ A => exact Good.same R (key A _) (.int _ _)
    · rename_i hm0
      split at hv
      case h_2 => cases hv
      rename_i e1 cs hg
      split at hv
      case isFalse => cases hv
      rename_i hb
      obtain ⟨hb1, hb2⟩ := hb
      cases hv
      cases hx with
      | slice _ _ _ _ _ cap' l hl' g1 g2 g3 g4 =>
        have hms : min n len * s ≤ n * s := Nat.mul_le_mul_right s (Nat.min_le_left _ _)
        have hlen : (new.take (min n len * s)).length = min n len * s := by simp; omega
        have hall : (new.take (min n len * s)).all okCell = true := by
          rw [List.all_eq_true] at hb2 ⊢
          exact fun v hv => hb2 v (List.mem_of_mem_take hv)
        obtain ⟨w', k1, k2⟩ := write_sim (P := P) R hl' hg h1 hall (off := off) (by rw [hlen]; exact hb1)
        refine ⟨β, .int .i64 (min n len : Nat), w', ?_, Emb.le_refl β, k2, .int _ _⟩
        have hmn : Nat.min n len = min n len := rfl
        simp only [Builtin.copy_, ht, List.getElem?_toArray, List.getElem?_cons_zero, List.getElem?_cons_succ, Sem.run_bind, run_und hu, Result.andThen_ok, h2, run_sizeOfT hs, hmn, h3, k1, Sem.run_pure, goInt]
      | slice0 _ _ _ A => simp at hm0
  · cases hv

theorem clear_sim (R : WRel B0 w0 β H w) {t e ty s : Nat} {ts : Array TypeId} {z : List Value} {x x' : Value} {H' : Heap} (ht : ts[0]? = some t) (hu : P.underlying t = some (.slice e)) (hs : sizeOfT P e = some s) (hz : zeroOf P e = some z) (hpos : 0 < s)
    (hx : VR β x x') (hv : H.clear s z x = some H') : ∃ w', (Builtin.clear_ ts ty #[x']).run P w = .ok (.tuple #[]) w' ∧ WRel B0 w0 β H' w' := by
  obtain ⟨i, zv, hi, hz1, hz2, hz3, hz4⟩ := zeroOf_spec hz
  have hzc : zv.cells = z.toArray := by rw [← hz2]
  unfold Heap.clear at hv
  split at hv
  · cases hv; cases hx
    exact ⟨w, by simp [Builtin.clear_, ht, run_und hu], R⟩
  · rename_i o off mk len cap
    split at hv
    · rename_i h0
      subst h0
      cases hv
      cases hx <;> exact ⟨w, by simp [Builtin.clear_, ht, run_und hu], R⟩
    · rename_i h0
      split at hv
      case h_2 => cases hv
      rename_i e1 cs hg
      split at hv
      case isFalse => cases hv
      rename_i hb
      obtain ⟨hb1, hb2⟩ := hb
      cases hv
      have hall : ((List.replicate len z).flatten).all leafClosed = true := by
        simp only [List.all_eq_true, List.mem_flatten, List.mem_replicate]
        rintro v ⟨l, ⟨_, rfl⟩, hv⟩
        exact List.all_eq_true.1 hz4 v hv
      have hok : ((List.replicate len z).flatten).all okCell = true := by
        rw [List.all_eq_true] at hall ⊢
        intro v hv
        have := hall v hv
        cases v <;> simp [leafClosed] at this <;> rfl
      have hlen : ((List.replicate len z).flatten).length = len * s := by simp [hb1]
      cases hx with
      | slice _ _ _ _ _ cap' l hl' g1 g2 g3 g4 =>
        obtain ⟨w', k1, k2⟩ := write_sim (P := P) R hl' hg (VRs.ofLeaf β hall) hok (off := off) (by rw [hlen]; exact hb2)
        refine ⟨w', ?_, k2⟩
        have hzr : Builtin.zeroCells z.toArray len = ((List.replicate len z).flatten).toArray := by
          have := range_map_eq z (by omega) len
          simpa [Builtin.zeroCells] using this
        obtain ⟨ln, rfl⟩ : ∃ ln, len = ln + 1 := ⟨len - 1, by omega⟩
        simp only [Builtin.clear_, ht, List.getElem?_toArray, List.getElem?_cons_zero, Sem.run_bind, run_und hu, Result.andThen_ok, run_zero hi hz1, hzc, hzr, k1, Sem.run_pure]
      | slice0 _ _ _ A => exact absurd rfl h0
  · cases hv

theorem bytes_loop {f : Value → ByteArray → Sem (ForInStep ByteArray)} (hf : ∀ n s, f (.int .u8 n) s = pure (ForInStep.yield (s.push (UInt8.ofNat n.toNat)))) : ∀ (cs : List Value) (l : List UInt8) (acc : Array UInt8), bytesOf cs = some l →
    (forIn (m := Sem) cs (⟨acc⟩ : ByteArray) f).run P w = .ok ⟨acc ++ l.toArray⟩ w := by
  intro cs
  induction cs with
  | nil => intro l acc h; simp [bytesOf] at h; subst h; simp
  | cons c cs ih =>
    intro l acc h
    unfold bytesOf at h
    split at h
    · rename_i e; cases e
    · rename_i n cs' e
      cases e
      cases hq : bytesOf cs with
      | none => rw [hq] at h; cases h
      | some r =>
        rw [hq] at h; cases h
        simp only [List.forIn_cons, hf, Sem.run_bind, Sem.run_pure, Result.andThen_ok]
        have := ih r (acc.push (UInt8.ofNat n.toNat)) hq
        refine Eq.trans this ?_
        simp
    · cases h

theorem cap_sim (R : WRel B0 w0 β H w) {t e ty : Nat} {ts : Array TypeId} {x x' v : Value} (ht : ts[0]? = some t) (hu : P.underlying t = some (.slice e)) (hx : VR β x x') (hv : capV x = some v) :
    Good B0 w0 β H v ((Builtin.cap_ ts ty #[x']).run P w) := by
  unfold capV at hv
  split at hv
  · cases hv; cases hx
    exact Good.same R (by simp [Builtin.cap_, ht, run_und hu, goInt]) (.int _ _)
  · rename_i o off m len cap
    split at hv
    case isFalse => cases hv
    rename_i hm
    cases hv
    cases hx with
    | slice _ _ _ _ _ cap' l hl' g1 g2 g3 g4 => exact Good.same R (v' := .int .i64 cap) (by simp [Builtin.cap_, ht, run_und hu, goInt, g3 hm]) (.int _ _)
    | slice0 _ _ _ A => exact Good.same R (v' := .int .i64 (0 : Nat)) (by simp [Builtin.cap_, ht, run_und hu, goInt]) (.int _ _)
  · cases hv

theorem aslice_sim (R : WRel B0 w0 β H w) {t e s n : Nat} {x x' v : Value} {lo lo' hi hi' : Option Value} (hu : P.underlying t = some (.array n e)) (hs : sizeOfT P e = some s)
    (hx : VR β x x') (hlo : VRo β lo lo') (hhi : VRo β hi hi') (hv : asliceV n s x lo hi = some v) : Good B0 w0 β H v ((Instr.sliceAt t x' lo' hi' none).run P w) := by
  unfold asliceV at hv
  split at hv
  case h_2 => cases hv
  rename_i id off h l e2 e3
  split at hv
  case isFalse => cases hv
  rename_i hb
  cases hv
  cases hx with
  | ptr _ _ lc hl =>
  have fh : (hi' = none ∧ (none : Option Value) = none ∧ h = (n : Int)) ∨ ∃ k, hi' = some (.int k h) := by
    rcases optInt_spec e2 hhi with ⟨_, hn', e⟩ | ⟨k, _, e⟩
    · exact .inl ⟨hn', rfl, e⟩
    · exact .inr ⟨k, e⟩
  have fl : (lo' = none ∧ l = 0) ∨ ∃ k, lo' = some (.int k l) := by
    rcases optInt_spec e3 hlo with ⟨_, hn', e⟩ | ⟨k, _, e⟩
    · exact .inl ⟨hn', e⟩
    · exact .inr ⟨k, e⟩
  have hrun := sliceBounds_run (P := P) (isS := false) (len := n) (cap := n) (m := n) (.inl ⟨rfl, rfl⟩) fh fl hb.1 hb.2.1 hb.2.2 (by omega) w
  by_cases hml : n = l.toNat
  · refine Good.same R (v' := .slice (some ⟨lc.b, lc.o + off, none⟩) (h.toNat - l.toNat) (n - l.toNat)) ?_ ?_
    · simp [Instr.sliceAt, run_und hu, Instr.sureAddr, hrun, run_sizeOfT hs, ← hml]
    · rw [show h.toNat - l.toNat = 0 by omega, show n - l.toNat = 0 by omega]
      exact .slice0 _ _ _ _
  · refine Good.same R (v' := .slice (some ⟨lc.b, lc.o + (off + l.toNat * s), none⟩) (h.toNat - l.toNat) (n - l.toNat)) ?_ ?_
    · simp [Instr.sliceAt, run_und hu, Instr.sureAddr, hrun, run_sizeOfT hs, hml, add_none, Nat.add_assoc]
    · exact .slice id (off + l.toNat * s) 1 _ _ _ lc hl (by omega) (by omega) (fun _ => rfl) (fun h => absurd rfl h)

theorem bytesOf_vr {β : Emb} : ∀ {cs cs' : List Value} {l : List UInt8}, bytesOf cs = some l → VRs β cs cs' → bytesOf cs' = some l
  | [], [], l, h, _ => h
  | [], _ :: _, _, _, h => by have := h.1; simp at this
  | _ :: _, [], _, _, h => by have := h.1; simp at this
  | c :: cs, c' :: cs', l, h, hv => by
    have h0 : VR β c c' := by obtain ⟨u, h1, h2⟩ := hv.2 0 c rfl; simp at h1; subst h1; exact h2
    have ht : VRs β cs cs' := ⟨by have := hv.1; simpa using this, fun i u hu => by obtain ⟨u', h1, h2⟩ := hv.2 (i + 1) u (by simpa using hu); exact ⟨u', by simpa using h1, h2⟩⟩
    unfold bytesOf at h
    split at h
    · rename_i e; cases e
    · rename_i n cs2 e
      cases e
      cases h0
      cases hq : bytesOf cs with
      | none => rw [hq] at h; cases h
      | some r =>
        rw [hq] at h
        simp only [bytesOf, bytesOf_vr hq ht]
        exact h
    · cases h

theorem b2s_sim (R : WRel B0 w0 β H w) {t e : Nat} {d : Nat} {x x' v : Value} (hs : P.underlying t = some (.slice e)) (hd : P.underlying d = some .string) (he : P.underlying e = some (.int .u8)) (hx : VR β x x') (hv : H.b2s x = some v) :
    Good B0 w0 β H v ((convert t d x').run P w) := by
  have red : ∀ a n c, (convert t d (.slice a n c)).run P w = (Conv.bytesToString (.slice a n c)).run P w := by
    intro a n c
    simp [convert, run_und hs, run_und hd, run_und he]
  unfold Heap.b2s at hv
  split at hv
  · cases hv; cases hx
    exact Good.same R (v' := .string .empty) (by rw [red]; simp [Conv.bytesToString]) (.str _)
  · rename_i A len cap
    split at hv
    case h_2 => cases hv
    rename_i n cs hrow
    cases hb : bytesOf cs with
    | none => rw [hb] at hv; cases hv
    | some l =>
      rw [hb] at hv
      cases hv
      obtain ⟨_, c', hc1, hc2⟩ := row_sim (P := P) R hrow hx
      obtain ⟨k1, k2⟩ := hc2 w rfl
      have hbc := bytesOf_vr hb hc1
      have main : ∀ A ln cp, x' = .slice (some A) ln cp → (convert t d x').run P w = .ok (.string ⟨l.toArray⟩) w := by
        intro A ln cp hxe
        subst hxe
        have hn : n = ln := by simpa [Builtin.lenOf] using k1.symm
        subst hn
        have k2' : (loadCells A n).run P w = .ok c' w := by simpa [Builtin.firstCells] using k2
        rw [red]
        simp only [Conv.bytesToString, Sem.run_bind, k2', Result.andThen_ok]
        rw [← Array.forIn_toList]
        have lp : ∀ f : Value → ByteArray → Sem (ForInStep ByteArray), (∀ n s, f (.int .u8 n) s = pure (ForInStep.yield (s.push (UInt8.ofNat n.toNat)))) → (forIn (m := Sem) c'.toList ByteArray.empty f).run P w = .ok ⟨#[] ++ l.toArray⟩ w :=
          fun f hf => bytes_loop (P := P) (w := w) hf c'.toList l #[] hbc
        rw [lp _ (fun n s => rfl)]
        simp
      cases hx with
      | slice _ _ _ _ _ cap' l' hl' g1 g2 g3 g4 => exact Good.same R (main _ _ _ rfl) (.str _)
      | slice0 _ _ _ A => exact Good.same R (main _ _ _ rfl) (.str _)
  · cases hv

end
end Go.Proofs.YtapkmhneneffdaaGreatDoor.Mx

/-! The text ZadI. -/
namespace Go.Proofs.YtapkmhneneffdaaGreatDoor.Mx
open Go

def TR (β : Emb) (T : Tr Value) (a : Act) : Prop := ∀ t, VR β (rd T t) (a.tmps.getD t undef)

theorem TR.mono {β β' : Emb} (hb : β.le β') {T : Tr Value} {a : Act} (h : TR β T a) : TR β' T a := fun t => (h t).mono hb

theorem TR.opd {P : Program} {β : Emb} {T : Tr Value} {a : Act} (h : TR β T a) (hg : ∀ g, g < P.globals.size → ∃ n, β g = some ⟨g, 0, n⟩) (x : Operand) (y : Opd) (hc : cOpd P x = some y) : VR β (y.ev T) (a.eval x) := by
  cases x with
  | tmp t => simp only [cOpd, Option.some.injEq] at hc; subst hc; exact h t
  | const v =>
    simp only [cOpd] at hc
    split at hc
    · cases hc; rename_i hv; exact .ofClosed β hv
    · cases hc
  | func f => simp only [cOpd, Option.some.injEq] at hc; subst hc; exact .func _ _ _ _ _ rfl rfl (fun i h => absurd h (by simp)) (fun i h => absurd h (by simp))
  | global g =>
    simp only [cOpd] at hc
    split at hc
    · rename_i hlt
      cases hc
      obtain ⟨n, hn⟩ := hg g hlt
      exact .ptr g 0 ⟨g, 0, n⟩ hn
    · cases hc

theorem TR.opds {P : Program} {β : Emb} {T : Tr Value} {a : Act} (h : TR β T a) (hg : ∀ g, g < P.globals.size → ∃ n, β g = some ⟨g, 0, n⟩) : ∀ (l : List Operand) (r : List Opd), cOpds P l = some r → VRs β (r.map (Opd.ev T)) (l.map a.eval) := by
  intro l
  induction l with
  | nil => intro r hc; simp [cOpds] at hc; subst hc; exact .nil β
  | cons x l ih =>
    intro r hc
    simp only [cOpds] at hc
    split at hc
    case h_2 => cases hc
    rename_i y r' h1 h2
    cases hc
    exact .cons (h.opd hg x y h1) (ih r' h2)

theorem TR.opt {P : Program} {β : Emb} {T : Tr Value} {a : Act} (h : TR β T a) (hg : ∀ g, g < P.globals.size → ∃ n, β g = some ⟨g, 0, n⟩) (x : Option Operand) (y : Option Opd) (hc : cOpt P x = some y) : VRo β (y.map (Opd.ev T)) (x.map a.eval) := by
  cases x with
  | none => simp [cOpt] at hc; subst hc; exact .inl ⟨rfl, rfl⟩
  | some x =>
    simp only [cOpt] at hc
    cases hx : cOpd P x with
    | none => rw [hx] at hc; cases hc
    | some y' => rw [hx] at hc; cases hc; exact .inr ⟨_, _, rfl, rfl, h.opd hg x y' hx⟩

theorem TR.put {β : Emb} {T : Tr Value} {a : Act} (h : TR β T a) {d : Option Nat} {v v' : Value} (hd : ∀ t, d = some t → t < a.tmps.size) (hv : VR β v v') : TR β (putT T d v) (a.put d v') := by
  cases d with
  | none => exact h
  | some d =>
    intro t
    have hlt := hd d rfl
    simp only [putT, Act.put, rd, Tr.get_set]
    by_cases e : d = t
    · subst e
      simpa [hlt] using hv
    · have := h t
      simp only [rd] at this
      simpa [e, Array.getElem?_setIfInBounds_ne e] using this

def CallOk (P : Program) (g : Nat) : Prop := ∀ args w, (callFunc g args).run P w = .ok (.enter g args) w

structure ClOk (P : Program) (B0 : Bs) (w0 : World) (cl : Nat → List Value → Heap → Option (Value × Heap)) : Prop where
  g : P.globals.size ≤ B0.g
  c : ∀ g args H v H', cl g args H = some (v, H') → CallOk P g ∧ H.size ≤ H'.size ∧ ∀ (β : Emb) (w : World) (args' : Array Value), WRel B0 w0 β H w → VRs β args args'.toList →
    Calls P g args' w (fun e w' => ∃ β' v', e = .returned v' ∧ β.le β' ∧ WRel B0 w0 β' H' w' ∧ VR β' v v')

section
variable {P : Program} {B0 : Bs} {w0 : World} {β : Emb} {H : Heap} {w : World} {T : Tr Value} {a : Act} {o : Oper} {v : Value} {H' : Heap} {next : Act → World → Prop} {Q : Exit → Act → World → Prop}

theorem of_good {s : Sem Value} (he : execOp a.eval o = (do pure (.value (← s)))) (hg : Good B0 w0 β H' v (s.run P w))
    (hn : ∀ β' v' w', β.le β' → WRel B0 w0 β' H' w' → VR β' v v' → next (a.put o.dst v') w') : o.wp P a w next Q := by
  obtain ⟨β', v', w', h1, h2, h3, h4⟩ := hg
  unfold Oper.wp
  rw [he, Sem.run_bind, h1]
  exact hn β' v' w' h2 h3 h4

theorem stuck_no {cl : Nat → List Value → Heap → Option (Value × Heap)} {b : Nat} {i : I} {r : Value × Heap} (hc : some I.stuck = some i) (hev : evI cl b T H i = some r) : False := by
  cases hc
  simp [evI] at hev

theorem of_unit {s : Sem Unit} (he : execOp a.eval o = (do s; pure .skip)) {w' : World} (h1 : s.run P w = .ok () w') (h2 : WRel B0 w0 β H' w')
    (hn : ∀ β' v' w', β.le β' → WRel B0 w0 β' H' w' → VR β' undef v' → next (a.put o.dst v') w') : o.wp P a w next Q := by
  unfold Oper.wp
  rw [he, Sem.run_bind, h1]
  exact hn β undef w' (Emb.le_refl β) h2 (.undef β)

theorem one_of {x : Opd} {args : Array Operand} (gas : VRs β ([x].map (Opd.ev T)) (args.toList.map a.eval)) : ∃ x', (args.map a.eval) = #[x'] ∧ VR β (x.ev T) x' := by
  have hl := gas.1
  simp at hl
  obtain ⟨x', hx'⟩ : ∃ x', args.toList.map a.eval = [x'] := by
    cases hq : args.toList with
    | nil => simp [← Array.length_toList, hq] at hl
    | cons y l =>
      cases l with
      | nil => exact ⟨_, rfl⟩
      | cons z l => simp [← Array.length_toList, hq] at hl
  refine ⟨x', by rw [← Array.toList_inj]; simpa using hx', ?_⟩
  obtain ⟨v', h1, h2⟩ := gas.2 0 _ rfl
  rw [hx'] at h1; simp at h1; subst h1; exact h2

theorem two_of {x y : Opd} {args : Array Operand} (gas : VRs β ([x, y].map (Opd.ev T)) (args.toList.map a.eval)) : ∃ x' y', (args.map a.eval) = #[x', y'] ∧ VR β (x.ev T) x' ∧ VR β (y.ev T) y' := by
  have hl := gas.1
  simp at hl
  obtain ⟨x', y', hx'⟩ : ∃ x' y', args.toList.map a.eval = [x', y'] := by
    cases hq : args.toList with
    | nil => simp [← Array.length_toList, hq] at hl
    | cons y l =>
      cases l with
      | nil => simp [← Array.length_toList, hq] at hl
      | cons z l =>
        cases l with
        | nil => exact ⟨_, _, rfl⟩
        | cons u l => simp [← Array.length_toList, hq] at hl
  refine ⟨x', y', by rw [← Array.toList_inj]; simpa using hx', ?_, ?_⟩
  · obtain ⟨v', h1, h2⟩ := gas.2 0 _ rfl
    rw [hx'] at h1; simp at h1; subst h1; exact h2
  · obtain ⟨v', h1, h2⟩ := gas.2 1 _ rfl
    rw [hx'] at h1; simp at h1; subst h1; exact h2

theorem mkif_sim {P : Program} {B0 : Bs} {w0 : World} {β : Emb} {H : Heap} {w : World} (R : WRel B0 w0 β H w) {t : TypeId} {d : TypeDesc} {x x' : Value} (hu : P.underlying t = some d) (hd : isIfD d = false) (hx : VR β x x') : Good B0 w0 β H (.iface t x) ((Instr.makeInterface t x').run P w) := by
  refine Good.same R (v' := .iface t x') ?_ (.iface t x x' hx)
  unfold Instr.makeInterface
  rw [Sem.run_bind, run_und hu, Result.andThen_ok]
  cases d <;> first | rfl | simp [isIfD] at hd

theorem tassert_sim {P : Program} {B0 : Bs} {w0 : World} {β : Emb} {H : Heap} {w : World} (R : WRel B0 w0 β H w) {t xt : TypeId} {d : TypeDesc} {z : Option Value} {ok : Bool} {x x' u : Value} (hu : P.underlying t = some d) (hd : isIfD d = false) (hx : VR β x x')
    (hz : (ok = true ∧ ∃ z', z = some z' ∧ zeroVal P t = some z') ∨ (ok = false ∧ z = none)) (hq : tassertV t z x = some u) : Good B0 w0 β H u ((Instr.typeAssert x' xt t ok).run P w) := by
  have zv : ∀ z', zeroVal P t = some z' → (zeroValue t).run P w = .ok z' w ∧ VR β z' z' := fun z' h => ⟨(zeroVal_run h w).1, .ofClosed β (zeroVal_run h w).2⟩
  have hnd : ∀ ms, d ≠ .interface ms := fun ms e => by subst e; simp [isIfD] at hd
  unfold tassertV at hq
  split at hq
  · rename_i u0 v0
    cases hx with
    | iface _ _ v' hv =>
    split at hq
    · rename_i e
      subst e
      cases hq
      rcases hz with ⟨rfl, z', rfl, hz⟩ | ⟨rfl, rfl⟩
      · refine Good.same R (v' := .tuple #[v', .bool true]) ?_ (.tuple' (.cons hv (.cons (.bool _) (.nil β))))
        unfold Instr.typeAssert
        simp only [Sem.run_bind, run_und hu, Result.andThen_ok]
        cases d <;> first | (exact absurd rfl (hnd _)) | simp
      · refine Good.same R (v' := v') ?_ hv
        unfold Instr.typeAssert
        simp only [Sem.run_bind, run_und hu, Result.andThen_ok]
        cases d <;> first | (exact absurd rfl (hnd _)) | simp
    · rename_i e
      rcases hz with ⟨rfl, z', rfl, hz⟩ | ⟨rfl, rfl⟩
      · cases hq
        obtain ⟨z1, z2⟩ := zv z' hz
        refine Good.same R (v' := .tuple #[z', .bool false]) ?_ (.tuple' (.cons z2 (.cons (.bool _) (.nil β))))
        unfold Instr.typeAssert
        simp only [Sem.run_bind, run_und hu, Result.andThen_ok]
        cases d <;> first | (exact absurd rfl (hnd _)) | simp [e, z1]
      · cases hq
  · cases hx
    rcases hz with ⟨rfl, z', rfl, hz⟩ | ⟨rfl, rfl⟩
    · cases hq
      obtain ⟨z1, z2⟩ := zv z' hz
      refine Good.same R (v' := .tuple #[z', .bool false]) ?_ (.tuple' (.cons z2 (.cons (.bool _) (.nil β))))
      unfold Instr.typeAssert
      simp only [Sem.run_bind, run_und hu, Result.andThen_ok]
      cases d <;> first | (exact absurd rfl (hnd _)) | simp [z1]
    · cases hq
  · cases hq

theorem isnil_sim {P : Program} {B0 : Bs} {w0 : World} {β : Emb} {H : Heap} {w : World} (R : WRel B0 w0 β H w) {op : BinOp} {t : TypeId} {ox oy : Operand} {x x' u : Value} {a : Act} (hif : isIfNil P op t oy = true) (hx : VR β x x') (hq : isnilV (isNeq op) x = some u) :
    Good B0 w0 β H u ((do eqGuard op t ox oy x' (a.eval oy); binOp op t x' (a.eval oy) : Sem Value).run P w) := by
  have key : ∃ d ms, (op = .eql ∨ op = .neq) ∧ oy = .const .nilIface ∧ P.underlying t = some d ∧ d = .interface ms := by
    unfold isIfNil at hif
    split at hif
    · split at hif
      · rename_i d hd
        cases d <;> simp [isIfD] at hif
        exact ⟨_, _, .inl rfl, rfl, hd, rfl⟩
      · cases hif
    · split at hif
      · rename_i d hd
        cases d <;> simp [isIfD] at hif
        exact ⟨_, _, .inr rfl, rfl, hd, rfl⟩
      · cases hif
    · cases hif
  obtain ⟨d, ms, hop, rfl, hu, rfl⟩ := key
  have e1 : (Op.equal t .nilIface .nilIface).run P w = .ok true w := by
    show (Op.equalIn (9999 + 1) t .nilIface .nilIface).run P w = _
    rw [Op.equalIn, Sem.run_bind, run_und hu]
    rfl
  have e2 : ∀ k v, (Op.equal t (.iface k v) .nilIface).run P w = .ok false w := by
    intro k v
    show (Op.equalIn (9999 + 1) t (.iface k v) .nilIface).run P w = _
    rw [Op.equalIn, Sem.run_bind, run_und hu]
    rfl
  unfold isnilV at hq
  split at hq
  · cases hx
    cases hq
    refine Good.same R (v' := .bool !(isNeq op)) ?_ (.bool _)
    rcases hop with rfl | rfl <;> simp [eqGuard, binOp, e1, e2, Act.eval, isNeq]
  · cases hx with
    | iface _ _ v' hv =>
    cases hq
    refine Good.same R (v' := .bool (isNeq op)) ?_ (.bool _)
    rcases hop with rfl | rfl <;> simp [eqGuard, binOp, e1, e2, Act.eval, isNeq]
  · cases hq

theorem sim_I {cl : Nat → List Value → Heap → Option (Value × Heap)} (hcl : ClOk P B0 w0 cl) (R : WRel B0 w0 β H w) (hT : TR β T a) {op : Op} (ho : o.op = op) {k b : Nat} {i : I} (hc : cI P k op = some i)
    (hev : evI cl b T H i = some (v, H')) (hb : i.allocs = true → b + k < H.size)
    (hn : ∀ β' v' w', β.le β' → WRel B0 w0 β' H' w' → VR β' v v' → next (a.put o.dst v') w') : o.wp P a w next Q := by
  have hgl : ∀ g, g < P.globals.size → ∃ n, β g = some ⟨g, 0, n⟩ := fun g hg => R.gl g (Nat.lt_of_lt_of_le hg hcl.g)
  have hρ := hT.opd hgl
  cases op <;> simp only [cI] at hc <;> try (first | (cases hc; done) | exact (stuck_no hc hev).elim)
  case move x =>
    cases hx : cOpd P x with
    | none => rw [hx] at hc; cases hc
    | some y => rw [hx] at hc; cases hc; simp only [evI] at hev; cases hev; unfold Oper.wp; simp only [execOp, ho]; exact hn β _ w (Emb.le_refl β) R (hρ x y hx)
  case assign x =>
    cases hx : cOpd P x with
    | none => rw [hx] at hc; cases hc
    | some y => rw [hx] at hc; cases hc; simp only [evI] at hev; cases hev; unfold Oper.wp; simp only [execOp, ho]; exact hn β _ w (Emb.le_refl β) R (hρ x y hx)
  case pick c x y =>
    split at hc
    case h_2 => cases hc
    rename_i c' x' y' h1 h2 h3
    cases hc
    simp only [evI] at hev
    split at hev
    case h_2 => cases hev
    rename_i t ht
    cases hev
    have g1 := hρ c c' h1
    rw [ht] at g1
    unfold Oper.wp
    simp only [execOp, ho, Sem.run_bind]
    cases hq : a.eval c <;> rw [hq] at g1 <;> cases g1
    simp only [asBool, Sem.run_pure, Result.andThen_ok]
    cases t
    · exact hn β _ w (Emb.le_refl β) R (hρ y y' h3)
    · exact hn β _ w (Emb.le_refl β) R (hρ x x' h2)
  case alloc e =>
    cases hz : zeroOf P e with
    | none => rw [hz] at hc; cases hc
    | some z =>
      rw [hz] at hc; cases hc
      simp only [evI] at hev
      cases hq : H.new (b + k) (.cells e false z) with
      | none => rw [hq] at hev; cases hev
      | some H1 => rw [hq] at hev; cases hev; exact of_good (by simp [execOp, ho]) (alloc_sim R hz hq (hb rfl)) hn
  case box e x =>
    cases hx : cOpd P x with
    | none => rw [hx] at hc; cases hc
    | some y =>
      rw [hx] at hc; cases hc
      simp only [evI] at hev
      split at hev
      case isFalse => cases hev
      rename_i hok
      cases hq : H.new (b + k) (.cells e false (y.ev T).cells.toList) with
      | none => rw [hq] at hev; cases hev
      | some H1 => rw [hq] at hev; cases hev; exact of_good (by simp [execOp, ho]) (box_sim R (hρ x y hx) hok hq (hb rfl)) hn
  case build t parts =>
    split at hc
    · rename_i z fields hz hu
      split at hc
      case h_2 => cases hc
      rename_i pl hp
      cases hps : cParts P (fun i => pl[i]?) parts.toList with
      | none => rw [hps] at hc; cases hc
      | some ps =>
        rw [hps] at hc; cases hc
        simp only [evI] at hev
        cases hf : fillP z.toArray (evParts T ps) with
        | none => rw [hf] at hev; cases hev
        | some cs => rw [hf] at hev; cases hev; exact of_good (by simp [execOp, ho]) (build_struct_sim R hρ hz hu hp hps hf) hn
    · rename_i z n e hz hu
      split at hc
      case h_2 => cases hc
      rename_i s hs
      cases hps : cParts P (fun i => some (i * s, s)) parts.toList with
      | none => rw [hps] at hc; cases hc
      | some ps =>
        rw [hps] at hc; cases hc
        simp only [evI] at hev
        cases hf : fillP z.toArray (evParts T ps) with
        | none => rw [hf] at hev; cases hev
        | some cs => rw [hf] at hev; cases hev; exact of_good (by simp [execOp, ho]) (build_arr_sim R hρ hz hu hs hps hf) hn
    · cases hc
  case buildSlice t len parts =>
    split at hc
    case h_2 => cases hc
    rename_i e hu
    split at hc
    case h_2 => cases hc
    rename_i s z hs hz
    split at hc
    case isFalse => cases hc
    rename_i hle
    cases hps : cParts P (fun i => some (i * s, s)) parts.toList with
    | none => rw [hps] at hc; cases hc
    | some ps =>
      rw [hps] at hc; cases hc
      simp only [evI] at hev
      split at hev
      case h_2 => cases hev
      rename_i cs hf
      cases hq : H.new (b + k) (.cells e false cs.toList) with
      | none => rw [hq] at hev; cases hev
      | some H1 => rw [hq] at hev; cases hev; exact of_good (by simp [execOp, ho]) (bslice_sim R hρ hu hs hz hle.1 hle.2 hps hf hq (hb rfl)) hn
  case load t x =>
    split at hc
    case h_2 => cases hc
    rename_i d n y hu hs hx
    cases hc
    simp only [evI] at hev
    cases hq : H.loadv (aggD d) n (y.ev T) with
    | none => rw [hq] at hev; cases hev
    | some u => rw [hq] at hev; cases hev; exact of_good (by simp [execOp, ho]) (load_sim R hu hs hq (hρ x y hx)) hn
  case store t x y =>
    split at hc
    case h_2 => cases hc
    rename_i n x' y' hs hx hy
    cases hc
    simp only [evI] at hev
    cases hq : H.storev n (x'.ev T) (y'.ev T) with
    | none => rw [hq] at hev; cases hev
    | some H1 =>
      rw [hq] at hev; cases hev
      obtain ⟨w', h1, h2⟩ := store_sim R hs hq (hρ x x' hx) (hρ y y' hy)
      unfold Oper.wp
      simp only [execOp, ho, Sem.run_bind, h1, Result.andThen_ok, Sem.run_pure]
      exact hn β undef w' (Emb.le_refl β) h2 (.undef β)
  case nilCheck x =>
    cases hx : cOpd P x with
    | none => rw [hx] at hc; cases hc
    | some y =>
      rw [hx] at hc; cases hc
      have g := hρ x y hx
      simp only [evI] at hev
      unfold Oper.wp
      simp only [execOp, ho]
      split at hev
      · rename_i ad hq
        cases hev
        rw [hq] at g
        cases hq2 : a.eval x <;> rw [hq2] at g <;> cases g
        exact hn β _ w (Emb.le_refl β) R (by rw [← hq, ← hq2]; exact hρ x y hx)
      · rename_i g' f c hq
        cases hev
        rw [hq] at g
        cases hq2 : a.eval x <;> rw [hq2] at g <;> cases g
        exact hn β _ w (Emb.le_refl β) R (by rw [← hq, ← hq2]; exact hρ x y hx)
      · cases hev
  case makeInterface t x =>
    split at hc
    case h_2 => exact (stuck_no hc hev).elim
    rename_i d x' hu hx
    split at hc
    · exact (stuck_no hc hev).elim
    rename_i hd
    cases hc
    simp only [evI] at hev
    cases hev
    exact of_good (s := Instr.makeInterface t (a.eval x)) (by simp [execOp, ho]) (mkif_sim R hu (by simpa using hd) (hρ x x' hx)) hn
  case typeAssert x xt t ok =>
    split at hc
    case h_2 => exact (stuck_no hc hev).elim
    rename_i d x' hu hx
    split at hc
    · exact (stuck_no hc hev).elim
    rename_i hd
    split at hc
    · rename_i hok
      subst hok
      split at hc
      case h_2 => exact (stuck_no hc hev).elim
      rename_i z hz
      cases hc
      simp only [evI] at hev
      cases hq : tassertV t (some z) (x'.ev T) with
      | none => rw [hq] at hev; cases hev
      | some u => rw [hq] at hev; cases hev; exact of_good (s := Instr.typeAssert (a.eval x) xt t true) (by simp [execOp, ho]) (tassert_sim (z := some z) R hu (by simpa using hd) (hρ x x' hx) (.inl ⟨rfl, z, rfl, hz⟩) hq) hn
    · rename_i hok
      cases hc
      simp only [evI] at hev
      cases hq : tassertV t none (x'.ev T) with
      | none => rw [hq] at hev; cases hev
      | some u =>
        have hok' : ok = false := by simpa using hok
        subst hok'
        rw [hq] at hev; cases hev; exact of_good (s := Instr.typeAssert (a.eval x) xt t false) (by simp [execOp, ho]) (tassert_sim (z := none) R hu (by simpa using hd) (hρ x x' hx) (.inr ⟨rfl, rfl⟩) hq) hn
  case binOp op t x y yt =>
    split at hc
    · rename_i hif
      cases hx : cOpd P x with
      | none => rw [hx] at hc; cases hc
      | some x' =>
        rw [hx] at hc; cases hc
        simp only [evI] at hev
        cases hq : isnilV (isNeq op) (x'.ev T) with
        | none => rw [hq] at hev; cases hev
        | some u => rw [hq] at hev; cases hev; exact of_good (s := do eqGuard op t x y (a.eval x) (a.eval y); binOp op t (a.eval x) (a.eval y)) (by simp [execOp, ho]) (isnil_sim (ox := x) R hif (hρ x x' hx) hq) hn
    split at hc
    case h_2 => cases hc
    rename_i x' y' hx hy
    cases hc
    simp only [evI] at hev
    cases hq : binV op (eqMode P t) (x'.ev T) (y'.ev T) with
    | none => rw [hq] at hev; cases hev
    | some u => rw [hq] at hev; cases hev; exact of_good (by simp [execOp, ho]) (bin_sim (ox := x) (oy := y) R hq (hρ x x' hx) (hρ y y' hy)) hn
  case unOp op t x =>
    cases hx : cOpd P x with
    | none => rw [hx] at hc; cases hc
    | some y =>
      rw [hx] at hc; cases hc
      simp only [evI] at hev
      cases hq : unV op (y.ev T) with
      | none => rw [hq] at hev; cases hev
      | some u => rw [hq] at hev; cases hev; exact of_good (by simp [execOp, ho]) (unary_sim R hq (hρ x y hx)) hn
  case convert s t x =>
    split at hc
    · rename_i d kk y hs ht hx
      cases hc
      have g := hρ x y hx
      simp only [evI] at hev
      split at hev
      case h_2 => cases hev
      rename_i kk0 n hq
      cases hev
      rw [hq] at g
      cases hq2 : a.eval x <;> rw [hq2] at g <;> cases g
      exact of_good (s := convert s t (.int kk0 n)) (by simp [execOp, ho, hq2]) (conv_sim R hs ht) hn
    · rename_i e y hs ht hx
      split at hc
      · rename_i he
        cases hc
        simp only [evI] at hev
        cases hq : H.b2s (y.ev T) with
        | none => rw [hq] at hev; cases hev
        | some u => rw [hq] at hev; cases hev; exact of_good (by simp [execOp, ho]) (b2s_sim R hs ht he (hρ x y hx) hq) hn
      · exact (stuck_no hc hev).elim
    · exact (stuck_no hc hev).elim
  case makeMap t r =>
    cases r with
    | some r => exact (stuck_no hc hev).elim
    | none =>
      cases hc
      simp only [evI] at hev
      cases hq : H.new (b + k) (.map [] 0) with
      | none => rw [hq] at hev; cases hev
      | some H1 => rw [hq] at hev; cases hev; exact of_good (by simp [execOp, ho]) (mkmap_sim (t := t) R hq (hb rfl)) hn
  case lookup t x ix ok =>
    split at hc
    case h_2 => exact (stuck_no hc hev).elim
    rename_i kt e x' i' hu hx hi
    split at hc
    case h_2 => exact (stuck_no hc hev).elim
    rename_i m z hm hz
    cases hc
    simp only [evI] at hev
    cases hq : H.lookup m z ok (x'.ev T) (i'.ev T) with
    | none => rw [hq] at hev; cases hev
    | some u => rw [hq] at hev; cases hev; exact of_good (by simp [execOp, ho]) (lookup_sim R hu hm hz (hρ x x' hx) (hρ ix i' hi) hq) hn
  case mapUpdate t x ix v =>
    split at hc
    case h_2 => exact (stuck_no hc hev).elim
    rename_i kt e x' i' v' hu hx hi hv
    split at hc
    case h_2 => exact (stuck_no hc hev).elim
    rename_i m hm
    cases hc
    simp only [evI] at hev
    cases hq : H.mapset m (x'.ev T) (i'.ev T) (v'.ev T) with
    | none => rw [hq] at hev; cases hev
    | some H1 =>
      rw [hq] at hev; cases hev
      obtain ⟨w', h1, h2⟩ := mapset_sim R hu hm (hρ x x' hx) (hρ ix i' hi) (hρ v v' hv) hq
      exact of_unit (by simp [execOp, ho]) h1 h2 hn
  case insert t x ix v =>
    split at hc
    case h_2 => exact (stuck_no hc hev).elim
    rename_i kt e x' i' v' hu hx hi hv
    split at hc
    case h_2 => exact (stuck_no hc hev).elim
    rename_i m hm
    cases hc
    simp only [evI] at hev
    cases hq : H.mapset m (x'.ev T) (i'.ev T) (v'.ev T) with
    | none => rw [hq] at hev; cases hev
    | some H1 =>
      rw [hq] at hev; cases hev
      obtain ⟨w', h1, h2⟩ := mapset_sim R hu hm (hρ x x' hx) (hρ ix i' hi) (hρ v v' hv) hq
      exact of_unit (by simp [execOp, ho]) h1 h2 hn
  case mapEntry t x ix =>
    split at hc
    case h_2 => exact (stuck_no hc hev).elim
    rename_i kt e x' i' hu hx hi
    split at hc
    case h_2 => exact (stuck_no hc hev).elim
    rename_i m z hm hz
    cases hc
    simp only [evI] at hev
    exact of_good (by simp [execOp, ho]) (mapentry_sim R hu hm hz (hρ x x' hx) (hρ ix i' hi) hev) hn
  case entryStore t x st v =>
    split at hc
    case h_2 => exact (stuck_no hc hev).elim
    rename_i x' st' v' hx hst hv
    cases hc
    simp only [evI] at hev
    cases hq : H.entryset (x'.ev T) (st'.ev T) (v'.ev T) with
    | none => rw [hq] at hev; cases hev
    | some H1 =>
      rw [hq] at hev; cases hev
      obtain ⟨w', h1, h2⟩ := entryset_sim (t := t) R (hρ x x' hx) (hρ st st' hst) (hρ v v' hv) hq
      exact of_unit (by simp [execOp, ho]) h1 h2 hn
  case makeFunc fn first captured =>
    split at hc
    case h_2 => cases hc
    rename_i f c hf hcap
    cases hc
    simp only [evI] at hev
    cases hev
    unfold Oper.wp
    simp only [execOp, ho, Instr.makeFunc, Sem.run_bind, Sem.run_pure, Result.andThen_ok]
    have g1 := hT.opds hgl _ _ hf
    have g2 := hT.opds hgl _ _ hcap
    have k1 := arr_of_vrs (c := (f.map (Opd.ev T)).toArray) (c' := first.map a.eval) (by simpa using g1)
    have k2 := arr_of_vrs (c := (c.map (Opd.ev T)).toArray) (c' := captured.map a.eval) (by simpa using g2)
    exact hn β _ w (Emb.le_refl β) R (.func _ _ _ _ _ k1.1 k2.1 k1.2 k2.2)
  case makeSlice t len cap =>
    split at hc
    case h_2 => cases hc
    rename_i e hu
    split at hc
    case h_2 => cases hc
    rename_i i z l c hi hz hl hcp
    split at hc
    case isFalse => cases hc
    rename_i hpos
    cases hc
    simp only [evI] at hev
    exact of_good (by simp [execOp, ho]) (mkslice_sim R hu hi hz hpos (hρ len l hl) (hρ cap c hcp) hev (hb rfl)) hn
  case slice t x lo hi mx =>
    split at hc
    · rename_i e hu
      split at hc
      case h_2 => cases hc
      rename_i s x' lo' hi' mx' hs hx hlo hhi hmx
      split at hc
      case isFalse => cases hc
      rename_i hcond
      cases hc
      simp only [evI] at hev
      cases hq : sliceV s (x'.ev T) (lo'.map (Opd.ev T)) (hi'.map (Opd.ev T)) (mx'.map (Opd.ev T)) with
      | none => rw [hq] at hev; cases hev
      | some u => rw [hq] at hev; cases hev; exact of_good (by simp [execOp, ho]) (slice_sim R hu hs hcond.1 (by simpa using hcond.2) (hρ x x' hx) (hT.opt hgl _ _ hlo) (hT.opt hgl _ _ hhi) (hT.opt hgl _ _ hmx) hq) hn
    · rename_i hu
      split at hc
      case h_2 => cases hc
      rename_i x' lo' hi' hx hlo hhi
      cases hc
      simp only [evI] at hev
      cases hq : strsliceV (x'.ev T) (lo'.map (Opd.ev T)) (hi'.map (Opd.ev T)) with
      | none => rw [hq] at hev; cases hev
      | some u => rw [hq] at hev; cases hev; exact of_good (by simp [execOp, ho]) (strslice_sim R hu (hρ x x' hx) (hT.opt hgl _ _ hlo) (hT.opt hgl _ _ hhi) hq) hn
    · rename_i n e hu
      split at hc
      case h_2 => exact (stuck_no hc hev).elim
      rename_i s x' lo' hi' hs hx hlo hhi
      split at hc
      case isFalse => cases hc
      cases hc
      simp only [evI] at hev
      cases hq : asliceV n s (x'.ev T) (lo'.map (Opd.ev T)) (hi'.map (Opd.ev T)) with
      | none => rw [hq] at hev; cases hev
      | some u => rw [hq] at hev; cases hev; exact of_good (by simp [execOp, ho]) (aslice_sim R hu hs (hρ x x' hx) (hT.opt hgl _ _ hlo) (hT.opt hgl _ _ hhi) hq) hn
    · exact (stuck_no hc hev).elim
  case fieldAddr t x f =>
    split at hc
    case h_2 => cases hc
    rename_i fields x' hu hx
    split at hc
    case h_2 => cases hc
    rename_i fl hf
    split at hc
    case h_2 => cases hc
    rename_i s hs
    split at hc
    case isFalse => cases hc
    rename_i hpos
    cases hc
    simp only [evI] at hev
    split at hev
    case h_2 => cases hev
    rename_i id off hq
    cases hev
    have g := hρ x x' hx
    rw [hq] at g
    exact of_good (by simp [execOp, ho]) (faddr_sim R hu hf hs hpos g) hn
  case field t x f =>
    split at hc
    case h_2 => cases hc
    rename_i fields x' hu hx
    split at hc
    case h_2 => cases hc
    rename_i fl hf
    split at hc
    case h_2 => cases hc
    rename_i s d hs hd
    cases hc
    simp only [evI] at hev
    split at hev
    case h_2 => cases hev
    rename_i cs hq
    have g := hρ x x' hx
    rw [hq] at g
    cases hp : partV (aggD d) cs fl.offset s with
    | none => rw [hp] at hev; cases hev
    | some u => rw [hp] at hev; cases hev; exact of_good (by simp [execOp, ho]) (field_sim R hu hf hs hd g hp) hn
  case indexAddr t x ix =>
    split at hc
    · rename_i e x' i' hu hx hi
      split at hc
      case h_2 => cases hc
      rename_i s hs
      cases hc
      simp only [evI] at hev
      cases hq : iaddrV s (x'.ev T) (i'.ev T) with
      | none => rw [hq] at hev; cases hev
      | some u => rw [hq] at hev; cases hev; exact of_good (by simp [execOp, ho]) (iaddr_sim R hu hs (hρ x x' hx) (hρ ix i' hi) hq) hn
    · rename_i n e x' i' hu hx hi
      split at hc
      case h_2 => cases hc
      rename_i s hs
      cases hc
      simp only [evI] at hev
      cases hq : aaddrV n s (x'.ev T) (i'.ev T) with
      | none => rw [hq] at hev; cases hev
      | some u => rw [hq] at hev; cases hev; exact of_good (by simp [execOp, ho]) (aaddr_sim R hu hs (hρ x x' hx) (hρ ix i' hi) hq) hn
    · cases hc
  case index t x ix =>
    split at hc
    · rename_i n e x' i' hu hx hi
      split at hc
      case h_2 => cases hc
      rename_i s d hs hd
      cases hc
      simp only [evI] at hev
      cases hq : aindexV (aggD d) n s (x'.ev T) (i'.ev T) with
      | none => rw [hq] at hev; cases hev
      | some u => rw [hq] at hev; cases hev; exact of_good (by simp [execOp, ho]) (aindex_sim R hu hs hd (hρ x x' hx) (hρ ix i' hi) hq) hn
    · rename_i x' i' hu hx hi
      cases hc
      simp only [evI] at hev
      cases hq : strindexV (x'.ev T) (i'.ev T) with
      | none => rw [hq] at hev; cases hev
      | some u => rw [hq] at hev; cases hev; exact of_good (by simp [execOp, ho]) (strindex_sim R hu (hρ x x' hx) (hρ ix i' hi) hq) hn
    · cases hc
  case extract x ix =>
    cases hx : cOpd P x with
    | none => rw [hx] at hc; cases hc
    | some y =>
      rw [hx] at hc; cases hc
      have g := hρ x y hx
      simp only [evI] at hev
      split at hev
      case h_2 => cases hev
      rename_i vs hq
      rw [hq] at g
      cases hq2 : vs[ix]? with
      | none => rw [hq2] at hev; cases hev
      | some u => rw [hq2] at hev; cases hev; exact of_good (by simp [execOp, ho]) (ext_sim R g hq2) hn
  case call c =>
    obtain ⟨callee, args, argTypes⟩ := c
    simp only at hc
    split at hc
    · -- a function's value
      rename_i f
      split at hc
      case h_2 => cases hc
      rename_i f' as hf has
      cases hc
      simp only [evI] at hev
      split at hev
      case h_2 => cases hev
      rename_i g first captured hq
      have gf := hρ f f' hf
      rw [hq] at gf
      have gas := hT.opds hgl _ _ has
      cases hq2 : a.eval f <;> rw [hq2] at gf <;> try (cases gf; done)
      rename_i fn2 first2 cap2
      cases gf with
      | func _ _ _ _ _ s1 s2 e1 e2 =>
      obtain ⟨hok, _, hcalls⟩ := hcl.c _ _ _ _ _ hev
      have hargs : VRs β (first.toList ++ as.map (Opd.ev T) ++ captured.toList) (first2 ++ args.map a.eval ++ cap2).toList := by
        simp only [Array.toList_append, Array.toList_map]
        exact ((vrs_of_arr s1 e1).append gas).append (vrs_of_arr s2 e2)
      have hrun : (execOp a.eval o).run P w = .ok (.enter g (first2 ++ args.map a.eval ++ cap2)) w := by
        simp only [execOp, ho, resolve, Deferred.ofValue, hq2, Sem.run_bind, Sem.run_pure, Result.andThen_ok, invoke]
        exact hok _ _
      unfold Oper.wp
      rw [hrun, Oper.upon_enter]
      refine (hcalls β w _ R hargs).mono ?_
      rintro e w' ⟨β', v', rfl, h1, h2, h3⟩
      exact hn β' v' w' h1 h2 h3
    · -- len
      split at hc
      case h_2 => cases hc
      rename_i t x ht has
      have gas := hT.opds hgl _ _ has
      have hone : ∃ x', (args.map a.eval) = #[x'] ∧ VR β (x.ev T) x' := by
        have hl := gas.1
        simp at hl
        obtain ⟨x', hx'⟩ : ∃ x', args.toList.map a.eval = [x'] := by
          cases hq : args.toList with
          | nil => simp [← Array.length_toList, hq] at hl
          | cons y l =>
            cases l with
            | nil => exact ⟨_, rfl⟩
            | cons z l => simp [← Array.length_toList, hq] at hl
        refine ⟨x', by rw [← Array.toList_inj]; simpa using hx', ?_⟩
        obtain ⟨v', h1, h2⟩ := gas.2 0 _ rfl
        rw [hx'] at h1; simp at h1; subst h1; exact h2
      obtain ⟨x', hx', hvr⟩ := hone
      split at hc
      · rename_i e hu
        cases hc
        simp only [evI] at hev
        split at hev
        case h_2 => cases hev
        rename_i ad n cp hq
        cases hev
        rw [hq] at hvr
        exact of_good (by simp [execOp, ho, resolve, invoke, builtin, hx']; rfl) (len_sim R ht hu hvr) hn
      · rename_i hu
        cases hc
        simp only [evI] at hev
        split at hev
        case h_2 => cases hev
        rename_i st hq
        cases hev
        rw [hq] at hvr
        exact of_good (by simp [execOp, ho, resolve, invoke, builtin, hx']; rfl) (strlen_sim R ht hu hvr) hn
      · rename_i n e hu
        cases hc
        simp only [evI] at hev
        cases hev
        refine of_good (s := Builtin.len_ argTypes o.type #[x']) (by simp [execOp, ho, resolve, invoke, builtin, hx']) (Good.same R (v' := .int .i64 n) ?_ (.int _ _)) hn
        simp [Builtin.len_, ht, run_und hu, goInt]
      · rename_i kt e hu
        cases hc
        simp only [evI] at hev
        cases hq : H.entries (x.ev T) with
        | none => rw [hq] at hev; cases hev
        | some p =>
          obtain ⟨es, c⟩ := p
          rw [hq] at hev; cases hev
          exact of_good (by simp [execOp, ho, resolve, invoke, builtin, hx']; rfl) (maplen_sim R ht hu hvr hq) hn
      · exact (stuck_no hc hev).elim
    · -- cap
      split at hc
      case h_2 => exact (stuck_no hc hev).elim
      rename_i t x ht has
      obtain ⟨x', hx', hvr⟩ := one_of (hT.opds hgl _ _ has)
      split at hc
      · rename_i e hu
        cases hc
        simp only [evI] at hev
        cases hq : capV (x.ev T) with
        | none => rw [hq] at hev; cases hev
        | some u => rw [hq] at hev; cases hev; exact of_good (s := Builtin.cap_ argTypes o.type #[x']) (by simp [execOp, ho, resolve, invoke, builtin, hx']) (cap_sim R ht hu hvr hq) hn
      · exact (stuck_no hc hev).elim
    · -- copy
      split at hc
      case h_2 => exact (stuck_no hc hev).elim
      rename_i t x y ht has
      obtain ⟨x', y', hxy, hvx, hvy⟩ := two_of (hT.opds hgl _ _ has)
      split at hc
      · rename_i e hu
        split at hc
        · rename_i n hs
          split at hc
          · cases hc
            simp only [evI] at hev
            exact of_good (s := Builtin.copy_ argTypes o.type #[x', y']) (by simp [execOp, ho, resolve, invoke, builtin, hxy]) (copy_sim R ht hu hs hvx hvy hev) hn
          · exact (stuck_no hc hev).elim
        · exact (stuck_no hc hev).elim
      · exact (stuck_no hc hev).elim
    · -- clear
      split at hc
      case h_2 => exact (stuck_no hc hev).elim
      rename_i t x ht has
      obtain ⟨x', hx', hvr⟩ := one_of (hT.opds hgl _ _ has)
      split at hc
      · rename_i e hu
        split at hc
        · rename_i n z hs hz
          split at hc
          · rename_i hpos
            cases hc
            simp only [evI] at hev
            cases hq : H.clear n z (x.ev T) with
            | none => rw [hq] at hev; cases hev
            | some H1 =>
              rw [hq] at hev; cases hev
              obtain ⟨w', h1, h2⟩ := clear_sim (ty := o.type) R ht hu hs hz hpos hvr hq
              exact of_good (s := Builtin.clear_ argTypes o.type #[x']) (by simp [execOp, ho, resolve, invoke, builtin, hx']) ⟨β, undef, w', h1, Emb.le_refl β, h2, .undef β⟩ hn
          · exact (stuck_no hc hev).elim
        · exact (stuck_no hc hev).elim
      · rename_i kt e hu
        cases hc
        simp only [evI] at hev
        cases hq : H.mapclear (x.ev T) with
        | none => rw [hq] at hev; cases hev
        | some H1 =>
          rw [hq] at hev; cases hev
          obtain ⟨w', h1, h2⟩ := mapclear_sim (ty := o.type) R ht hu hvr hq
          exact of_good (s := Builtin.clear_ argTypes o.type #[x']) (by simp [execOp, ho, resolve, invoke, builtin, hx']) ⟨β, undef, w', h1, Emb.le_refl β, h2, .undef β⟩ hn
      · exact (stuck_no hc hev).elim
    · -- delete
      split at hc
      case h_2 => exact (stuck_no hc hev).elim
      rename_i t x y ht has
      obtain ⟨x', y', hxy, hvx, hvy⟩ := two_of (hT.opds hgl _ _ has)
      split at hc
      · rename_i kt e hu
        split at hc
        · rename_i m hm
          cases hc
          simp only [evI] at hev
          cases hq : H.mapdel m (x.ev T) (y.ev T) with
          | none => rw [hq] at hev; cases hev
          | some H1 =>
            rw [hq] at hev; cases hev
            obtain ⟨w', h1, h2⟩ := mapdel_sim (ty := o.type) R ht hu hm hvx hvy hq
            exact of_good (s := Builtin.delete_ argTypes o.type #[x', y']) (by simp [execOp, ho, resolve, invoke, builtin, hxy]) ⟨β, undef, w', h1, Emb.le_refl β, h2, .undef β⟩ hn
        · exact (stuck_no hc hev).elim
      · exact (stuck_no hc hev).elim
    · -- append
      split at hc
      case h_2 => cases hc
      rename_i t u x y ht hu' has
      have gas := hT.opds hgl _ _ has
      have htwo : ∃ x' y', (args.map a.eval) = #[x', y'] ∧ VR β (x.ev T) x' ∧ VR β (y.ev T) y' := by
        have hl := gas.1
        simp at hl
        obtain ⟨x', y', hx'⟩ : ∃ x' y', args.toList.map a.eval = [x', y'] := by
          cases hq : args.toList with
          | nil => simp [← Array.length_toList, hq] at hl
          | cons y l =>
            cases l with
            | nil => simp [← Array.length_toList, hq] at hl
            | cons z l =>
              cases l with
              | nil => exact ⟨_, _, rfl⟩
              | cons u l => simp [← Array.length_toList, hq] at hl
        refine ⟨x', y', by rw [← Array.toList_inj]; simpa using hx', ?_, ?_⟩
        · obtain ⟨v', h1, h2⟩ := gas.2 0 _ rfl
          rw [hx'] at h1; simp at h1; subst h1; exact h2
        · obtain ⟨v', h1, h2⟩ := gas.2 1 _ rfl
          rw [hx'] at h1; simp at h1; subst h1; exact h2
      obtain ⟨x', y', hxy, hvx, hvy⟩ := htwo
      split at hc
      case h_2 => cases hc
      rename_i e d hu hd
      split at hc
      case h_2 => cases hc
      rename_i i z hi hz
      split at hc
      case isFalse => cases hc
      rename_i hcond
      cases hc
      simp only [evI] at hev
      exact of_good (by simp [execOp, ho, resolve, invoke, builtin, hxy]; rfl) (append_sim R ht hu' hu hd hcond.1 hi hz hcond.2.1 hcond.2.2 hvx hvy hev (hb rfl)) hn
    · -- max
      split at hc
      case h_2 => cases hc
      rename_i x y has
      have gas := hT.opds hgl _ _ has
      have htwo : ∃ x' y', (args.map a.eval) = #[x', y'] ∧ VR β (x.ev T) x' ∧ VR β (y.ev T) y' := by
        have hl := gas.1
        simp at hl
        obtain ⟨x', y', hx'⟩ : ∃ x' y', args.toList.map a.eval = [x', y'] := by
          cases hq : args.toList with
          | nil => simp [← Array.length_toList, hq] at hl
          | cons y l =>
            cases l with
            | nil => simp [← Array.length_toList, hq] at hl
            | cons z l =>
              cases l with
              | nil => exact ⟨_, _, rfl⟩
              | cons u l => simp [← Array.length_toList, hq] at hl
        refine ⟨x', y', by rw [← Array.toList_inj]; simpa using hx', ?_, ?_⟩
        · obtain ⟨v', h1, h2⟩ := gas.2 0 _ rfl
          rw [hx'] at h1; simp at h1; subst h1; exact h2
        · obtain ⟨v', h1, h2⟩ := gas.2 1 _ rfl
          rw [hx'] at h1; simp at h1; subst h1; exact h2
      obtain ⟨x', y', hxy, hvx, hvy⟩ := htwo
      cases hc
      simp only [evI] at hev
      cases hq : minmaxV true (x.ev T) (y.ev T) with
      | none => rw [hq] at hev; cases hev
      | some u =>
        rw [hq] at hev; cases hev
        exact of_good (s := Builtin.max_ argTypes o.type #[x', y']) (by simp [execOp, ho, resolve, invoke, builtin, hxy]) (by simpa using minmax_sim (ts := argTypes) (ty := o.type) R hvx hvy hq) hn
    · -- min
      split at hc
      case h_2 => cases hc
      rename_i x y has
      have gas := hT.opds hgl _ _ has
      have htwo : ∃ x' y', (args.map a.eval) = #[x', y'] ∧ VR β (x.ev T) x' ∧ VR β (y.ev T) y' := by
        have hl := gas.1
        simp at hl
        obtain ⟨x', y', hx'⟩ : ∃ x' y', args.toList.map a.eval = [x', y'] := by
          cases hq : args.toList with
          | nil => simp [← Array.length_toList, hq] at hl
          | cons y l =>
            cases l with
            | nil => simp [← Array.length_toList, hq] at hl
            | cons z l =>
              cases l with
              | nil => exact ⟨_, _, rfl⟩
              | cons u l => simp [← Array.length_toList, hq] at hl
        refine ⟨x', y', by rw [← Array.toList_inj]; simpa using hx', ?_, ?_⟩
        · obtain ⟨v', h1, h2⟩ := gas.2 0 _ rfl
          rw [hx'] at h1; simp at h1; subst h1; exact h2
        · obtain ⟨v', h1, h2⟩ := gas.2 1 _ rfl
          rw [hx'] at h1; simp at h1; subst h1; exact h2
      obtain ⟨x', y', hxy, hvx, hvy⟩ := htwo
      cases hc
      simp only [evI] at hev
      cases hq : minmaxV false (x.ev T) (y.ev T) with
      | none => rw [hq] at hev; cases hev
      | some u =>
        rw [hq] at hev; cases hev
        exact of_good (s := Builtin.min_ argTypes o.type #[x', y']) (by simp [execOp, ho, resolve, invoke, builtin, hxy]) (by simpa using minmax_sim (ts := argTypes) (ty := o.type) R hvx hvy hq) hn
    · exact (stuck_no hc hev).elim

end
end Go.Proofs.YtapkmhneneffdaaGreatDoor.Mx

/-! The text ZadJ. -/
namespace Go.Proofs.YtapkmhneneffdaaGreatDoor.Mx
open Go

theorem rd_set_ne (T : Tr Value) (d n : Nat) (u : Value) (h : d ≠ n) : rd (T.set d u) n = rd T n := by
  simp [rd, Tr.get_set_ne T d n u h]

theorem Opd.ev_set (T : Tr Value) (d : Nat) (u : Value) (x : Opd) (h : d ∉ x.reads) : x.ev (T.set d u) = x.ev T := by
  cases x with
  | t n => simp only [Opd.ev]; exact rd_set_ne T d n u (fun e => h (by simp [Opd.reads, e]))
  | c v => rfl
  | f g => rfl
  | gl g => rfl

theorem evs_set (T : Tr Value) (d : Nat) (u : Value) (l : List Opd) (h : d ∉ l.flatMap Opd.reads) : l.map (Opd.ev (T.set d u)) = l.map (Opd.ev T) :=
  List.map_congr_left fun x hx => Opd.ev_set T d u x fun hd => h (List.mem_flatMap.2 ⟨x, hx, hd⟩)

theorem opt_set (T : Tr Value) (d : Nat) (u : Value) (x : Option Opd) (h : d ∉ optReads x) : x.map (Opd.ev (T.set d u)) = x.map (Opd.ev T) := by
  cases x with
  | none => rfl
  | some x => simp only [Option.map_some, Opd.ev_set T d u x (by simpa [optReads] using h)]

theorem parts_set (T : Tr Value) (d : Nat) (u : Value) (ps : List (Nat × Nat × Opd)) (h : d ∉ ps.flatMap fun p => p.2.2.reads) : evParts (T.set d u) ps = evParts T ps :=
  List.map_congr_left fun p hp => by
    obtain ⟨a, b, x⟩ := p
    simp only [Opd.ev_set T d u x fun hd => h (List.mem_flatMap.2 ⟨_, hp, hd⟩)]

theorem evI_set (cl : Nat → List Value → Heap → Option (Value × Heap)) (b : Nat) (T : Tr Value) (H : Heap) (i : I) (d : Nat) (u : Value) (h : d ∉ i.reads) : evI cl b (T.set d u) H i = evI cl b T H i := by
  cases i <;> simp only [I.reads, List.mem_append, not_or] at h <;> simp only [evI]
  case mv x => rw [Opd.ev_set T d u x h]
  case pick c x y => rw [Opd.ev_set T d u c h.1, Opd.ev_set T d u x h.2.1, Opd.ev_set T d u y h.2.2]
  case box k e x => rw [Opd.ev_set T d u x h]
  case build z ps => rw [parts_set T d u ps h]
  case bslice k e s l z ps => rw [parts_set T d u ps h]
  case load a n x => rw [Opd.ev_set T d u x h]
  case store n x y => rw [Opd.ev_set T d u x h.1, Opd.ev_set T d u y h.2]
  case nilchk x => rw [Opd.ev_set T d u x h]
  case bin o m x y => rw [Opd.ev_set T d u x h.1, Opd.ev_set T d u y h.2]
  case un o x => rw [Opd.ev_set T d u x h]
  case conv k x => rw [Opd.ev_set T d u x h]
  case mkfn f x y => rw [evs_set T d u x h.1, evs_set T d u y h.2]
  case mkslice k e s b z x y => rw [Opd.ev_set T d u x h.1, Opd.ev_set T d u y h.2]
  case slice s x lo hi mx => rw [Opd.ev_set T d u x h.1, opt_set T d u lo h.2.1, opt_set T d u hi h.2.2.1, opt_set T d u mx h.2.2.2]
  case strslice x lo hi => rw [Opd.ev_set T d u x h.1, opt_set T d u lo h.2.1, opt_set T d u hi h.2.2]
  case faddr o x => rw [Opd.ev_set T d u x h]
  case field a o n x => rw [Opd.ev_set T d u x h]
  case iaddr s x y => rw [Opd.ev_set T d u x h.1, Opd.ev_set T d u y h.2]
  case aaddr l s x y => rw [Opd.ev_set T d u x h.1, Opd.ev_set T d u y h.2]
  case aindex a l s x y => rw [Opd.ev_set T d u x h.1, Opd.ev_set T d u y h.2]
  case strindex x y => rw [Opd.ev_set T d u x h.1, Opd.ev_set T d u y h.2]
  case ext i x => rw [Opd.ev_set T d u x h]
  case call f as => rw [Opd.ev_set T d u f h.1, evs_set T d u as h.2]
  case len x => rw [Opd.ev_set T d u x h]
  case strlen x => rw [Opd.ev_set T d u x h]
  case append k e s b p x y => rw [Opd.ev_set T d u x h.1, Opd.ev_set T d u y h.2]
  case minmax m x y => rw [Opd.ev_set T d u x h.1, Opd.ev_set T d u y h.2]
  case copy s x y => rw [Opd.ev_set T d u x h.1, Opd.ev_set T d u y h.2]
  case lookup m z ok x y => rw [Opd.ev_set T d u x h.1, Opd.ev_set T d u y h.2]
  case mapset m x y z => rw [Opd.ev_set T d u x h.1, Opd.ev_set T d u y h.2.1, Opd.ev_set T d u z h.2.2]
  case mapentry m z x y => rw [Opd.ev_set T d u x h.1, Opd.ev_set T d u y h.2]
  case entryset x y z => rw [Opd.ev_set T d u x h.1, Opd.ev_set T d u y h.2.1, Opd.ev_set T d u z h.2.2]
  case maplen x => rw [Opd.ev_set T d u x h]
  case mapdel m x y => rw [Opd.ev_set T d u x h.1, Opd.ev_set T d u y h.2]
  case clear s z x => rw [Opd.ev_set T d u x h]
  case mapclear x => rw [Opd.ev_set T d u x h]
  case cap x => rw [Opd.ev_set T d u x h]
  case aslice n s x lo hi => rw [Opd.ev_set T d u x h.1, opt_set T d u lo h.2.1, opt_set T d u hi h.2.2]
  case b2s x => rw [Opd.ev_set T d u x h]
  case mkif t x => rw [Opd.ev_set T d u x h]
  case tassert t z x => rw [Opd.ev_set T d u x h]
  case isnil n x => rw [Opd.ev_set T d u x h]

theorem chk1_set (T : Tr Value) (i : I) (v : Value) (d : Nat) (u : Value) (h : d ∉ i.reads) (e : Option Lg) : chk1 (T.set d u) i v e = chk1 T i v e := by
  unfold chk1
  cases e with
  | none => rfl
  | some e =>
    cases e with
    | heap H => cases i <;> try rfl
                case load a n x => simp only [Opd.ev_set T d u x (by simpa [I.reads] using h)]
    | rng id off m =>
      cases i <;> try rfl
      case load a n x => simp only [Opd.ev_set T d u x (by simpa [I.reads] using h)]
      case store n x y =>
        simp only [I.reads, List.mem_append, not_or] at h
        simp only [Opd.ev_set T d u x h.1]
      case append k e s b p x y =>
        simp only [I.reads, List.mem_append, not_or] at h
        simp only [Opd.ev_set T d u x h.1]

theorem note_set (b : Nat) (T : Tr Value) (H : Heap) (i : I) (d : Nat) (u : Value) (h : d ∉ i.reads) : note b (T.set d u) H i = note b T H i := by
  cases i <;> try rfl
  case load a n x => simp only [note, Opd.ev_set T d u x (by simpa [I.reads] using h)]

theorem chkOk_set (log : Tr Lg) (T : Tr Value) (i : I) (v : Value) (d : Nat) (u : Value) (h : d ∉ i.reads) : ∀ l, chkOk log (T.set d u) i v l = chkOk log T i v l := by
  intro l
  induction l with
  | nil => rfl
  | cons c l ih => simp only [chkOk, ih, chk1_set T i v d u h]

theorem wanted_set (i : Ins) (T : Tr Value) (d : Nat) (u : Value) (h : d ∉ i.reads) : i.wanted (T.set d u) = i.wanted T := by
  unfold Ins.wanted
  cases hg : i.guard with
  | none => rfl
  | some g =>
    obtain ⟨g, w⟩ := g
    have : d ≠ g := fun e => h (by simp [Ins.reads, hg, e])
    simp only [rd_set_ne T d g u this]

theorem evW_put (cl : Nat → List Value → Heap → Option (Value × Heap)) (b : Nat) (i : Ins) (T : Tr Value) (H : Heap) (log : Tr Lg) (d : Option Nat) (u : Value) (h : ∀ t, d = some t → t ∉ i.reads) :
    evW cl b i ⟨putT T d u, H, log⟩ = evW cl b i ⟨T, H, log⟩ := by
  cases d with
  | none => rfl
  | some d =>
    have hd := h d rfl
    have hd2 : d ∉ i.op.reads := fun e => hd (by simp [Ins.reads, e])
    simp only [evW, putT, wanted_set i T d u hd, evI_set cl b T H i.op d u hd2, chkOk_set log T i.op _ d u hd2]

theorem lg_put (b : Nat) (i : Ins) (T : Tr Value) (H : Heap) (log : Tr Lg) (d : Option Nat) (u : Value) (h : ∀ t, d = some t → t ∉ i.reads) :
    lg b i ⟨putT T d u, H, log⟩ = lg b i ⟨T, H, log⟩ := by
  cases d with
  | none => rfl
  | some d =>
    have hd := h d rfl
    have hd2 : d ∉ i.op.reads := fun e => hd (by simp [Ins.reads, e])
    simp only [lg, putT, wanted_set i T d u hd, note_set b T H i.op d u hd2]

theorem putT_comm (T : Tr Value) {x y : Option Nat} (u v : Value) (h : ∀ d, x = some d → y ≠ some d) : putT (putT T x u) y v = putT (putT T y v) x u := by
  cases x with
  | none => rfl
  | some d =>
    cases y with
    | none => rfl
    | some e =>
      have : e ≠ d := fun he => h d rfl (by rw [he])
      simp only [putT]
      exact Tr.set_comm T e d v u this

/-! ### what the heap sees -/
variable {cl : Nat → List Value → Heap → Option (Value × Heap)} {b : Nat} {T : Tr Value}

theorem map_pair {α : Type} {o : Option α} {H : Heap} {v : α} {H' : Heap} (h : o.map (fun v => (v, H)) = some (v, H')) : o = some v ∧ H' = H := by
  cases o with
  | none => cases h
  | some u => simp at h; exact ⟨by rw [h.1], h.2.symm⟩

theorem map_pair2 {α : Type} {o : Option α} {g : α → Value} {H : Heap} {v : Value} {H' : Heap} (h : o.map (fun c => (g c, H)) = some (v, H')) : (∃ c, o = some c ∧ g c = v) ∧ H' = H := by
  cases o with
  | none => cases h
  | some u => simp at h; exact ⟨⟨u, rfl, h.1⟩, h.2.symm⟩

theorem evI_P {i : I} (hc : i.cls = .P) {H H' : Heap} {v : Value} (h : evI cl b T H i = some (v, H')) : H' = H ∧ ∀ H2, evI cl b T H2 i = some (v, H2) := by
  cases i <;> simp only [I.cls] at hc <;> (try (cases hc; done)) <;> simp only [evI] at h ⊢
  case mv => cases h; exact ⟨rfl, fun _ => rfl⟩
  case const => cases h; exact ⟨rfl, fun _ => rfl⟩
  case pick c x y => split at h <;> cases h; exact ⟨rfl, fun _ => rfl⟩
  case nilchk x => split at h <;> cases h <;> exact ⟨rfl, fun _ => rfl⟩
  case conv k x => split at h <;> cases h; exact ⟨rfl, fun _ => rfl⟩
  case mkfn => cases h; exact ⟨rfl, fun _ => rfl⟩
  case faddr o x => split at h <;> cases h; exact ⟨rfl, fun _ => rfl⟩
  case field a o n x =>
    split at h
    case h_2 => cases h
    obtain ⟨h1, h2⟩ := map_pair h
    exact ⟨h2, fun H2 => by rw [h1]; rfl⟩
  case ext i x =>
    split at h
    case h_2 => cases h
    obtain ⟨h1, h2⟩ := map_pair h
    exact ⟨h2, fun H2 => by rw [h1]; rfl⟩
  case build z ps =>
    obtain ⟨⟨c, h1, rfl⟩, h2⟩ := map_pair2 h
    exact ⟨h2, fun H2 => by rw [h1]; rfl⟩
  case len x => split at h <;> cases h; exact ⟨rfl, fun _ => rfl⟩
  case strlen x => split at h <;> cases h; exact ⟨rfl, fun _ => rfl⟩
  case append k e s by_ p x y => cases p <;> simp at hc
  case stuck => cases h
  case mkif t x => cases h; exact ⟨rfl, fun _ => rfl⟩
  all_goals (obtain ⟨h1, h2⟩ := map_pair h; exact ⟨h2, fun H2 => by rw [h1]; rfl⟩)

theorem loadv_put {H : Heap} {agg : Bool} {n : Nat} {a v : Value} {j : Nat} {o : Ob} (h : H.loadv agg n a = some v) (hj : H.get j = some .pend) : (H.put j o).loadv agg n a = some v := by
  unfold Heap.loadv at h ⊢
  split at h
  case h_2 => cases h
  rename_i id off
  have hne : j ≠ id := by
    intro e; subst e; rw [hj] at h; cases h
  simp only [Heap.get_put, if_neg hne]
  exact h

theorem row_put {H : Heap} {s : Nat} {y : Value} {r : Nat × List Value} {j : Nat} {o : Ob} (h : H.row s y = some r) (hj : H.get j = some .pend) : (H.put j o).row s y = some r := by
  unfold Heap.row at h ⊢
  split at h
  · exact h
  · rename_i id off x len cap
    split at h
    · rename_i h0; simp only [h0, if_true]; exact h
    · rename_i h0
      have hne : j ≠ id := by
        intro e; subst e; rw [hj] at h; cases h
      simp only [h0, if_false, Heap.get_put, if_neg hne]
      exact h
  · exact h
  · cases h

theorem entries_put {H : Heap} {x : Value} {r : Entries × Nat} {j : Nat} {o : Ob} (h : H.entries x = some r) (hj : H.get j = some .pend) : (H.put j o).entries x = some r := by
  unfold Heap.entries at h ⊢
  split at h
  · exact h
  · rename_i id
    have hne : j ≠ id := by
      intro e; subst e; rw [hj] at h; cases h
    simp only [Heap.get_put, if_neg hne]
    exact h
  · cases h

theorem lookup_put {H : Heap} {m : EqM} {z : Value} {ok : Bool} {x i v : Value} {j : Nat} {o : Ob} (h : H.lookup m z ok x i = some v) (hj : H.get j = some .pend) : (H.put j o).lookup m z ok x i = some v := by
  unfold Heap.lookup at h ⊢
  split at h
  case isFalse => cases h
  rename_i hk
  rw [if_pos hk]
  cases he : H.entries x with
  | none => rw [he] at h; cases h
  | some r => rw [entries_put he hj]; rw [he] at h; exact h

theorem b2s_put {H : Heap} {x v : Value} {j : Nat} {o : Ob} (h : H.b2s x = some v) (hj : H.get j = some .pend) : (H.put j o).b2s x = some v := by
  unfold Heap.b2s at h ⊢
  split at h
  · exact h
  · rename_i A n c
    cases hr : H.row 1 (.slice (some A) n c) with
    | none => rw [hr] at h; cases h
    | some r => simp only [row_put hr hj]; rw [hr] at h; exact h
  · cases h

theorem new_put {H : Heap} {id j : Nat} {o o' : Ob} (hne : id ≠ j) : (H.put j o').new id o = (H.new id o).map fun _ => (H.put j o').put id o := by
  unfold Heap.new
  rw [Heap.get_put, if_neg (fun e => hne e.symm)]
  split <;> rfl

/-- What an operation that reads or makes a row does: nothing to the heap, or it fills its own pending number. -/
def Fills (i : I) (b : Nat) (H H' : Heap) (f : Heap → Heap) : Prop :=
  H' = f H ∧ ((∀ X, f X = X) ∨ ∃ k ob, i.tgt = some k ∧ H.get (b + k) = some .pend ∧ ∀ X, f X = X.put (b + k) ob)

theorem evI_L {a : Bool} {n : Nat} {x : Opd} {H H' : Heap} {v : Value} (h : evI cl b T H (.load a n x) = some (v, H')) :
    H' = H ∧ ∀ j o, H.get j = some .pend → evI cl b T (H.put j o) (.load a n x) = some (v, H.put j o) := by
  simp only [evI] at h ⊢
  obtain ⟨h1, h2⟩ := map_pair h
  exact ⟨h2, fun j o hj => by rw [loadv_put h1 hj]; rfl⟩

theorem evI_M {i : I} (hc : i.cls = .M) {H H' : Heap} {v : Value} (h : evI cl b T H i = some (v, H')) :
    H' = H ∧ ∀ j o, H.get j = some .pend → evI cl b T (H.put j o) i = some (v, H.put j o) := by
  cases i <;> simp only [I.cls] at hc <;> (try (cases hc; done)) <;> simp only [evI] at h ⊢
  case lookup m z ok x y =>
    obtain ⟨h1, h2⟩ := map_pair h
    exact ⟨h2, fun j o hj => by rw [lookup_put h1 hj]; rfl⟩
  case maplen x =>
    cases he : H.entries (x.ev T) with
    | none => rw [he] at h; cases h
    | some r => rw [he] at h; cases h; exact ⟨rfl, fun j o hj => by rw [entries_put he hj]; rfl⟩
  case b2s x =>
    obtain ⟨h1, h2⟩ := map_pair h
    exact ⟨h2, fun j o hj => by rw [b2s_put h1 hj]; rfl⟩
  case append k e s by_ p x y => cases p <;> simp at hc

theorem new_map {α : Type} {H H' : Heap} {id : Nat} {o : Ob} {g : Heap → α × Heap} {v : α} (h : (H.new id o).map g = some (v, H')) : H.get id = some .pend ∧ g (H.put id o) = (v, H') := by
  cases hn : H.new id o with
  | none => rw [hn] at h; cases h
  | some H1 =>
    rw [hn] at h
    obtain ⟨h1, rfl⟩ := new_spec hn
    exact ⟨h1, by simpa using h⟩

theorem new_map_of {α : Type} {H : Heap} {id : Nat} {o : Ob} {g : Heap → α × Heap} (h : H.get id = some .pend) : (H.new id o).map g = some (g (H.put id o)) := by
  simp [Heap.new, h]

theorem evI_E {i : I} (hc : i.cls = .E) {H H' : Heap} {v : Value} (h : evI cl b T H i = some (v, H')) :
    ∃ k ob, i.tgt = some k ∧ H.get (b + k) = some .pend ∧ H' = H.put (b + k) ob ∧ ∀ X : Heap, X.get (b + k) = some .pend → evI cl b T X i = some (v, X.put (b + k) ob) := by
  cases i <;> simp only [I.cls] at hc <;> (try (cases hc; done)) <;> simp only [evI] at h ⊢
  case alloc k e z =>
    obtain ⟨h1, h2⟩ := new_map h
    cases h2
    exact ⟨k, _, rfl, h1, rfl, fun X hX => new_map_of hX⟩
  case box k e x =>
    split at h
    case isFalse => cases h
    rename_i hok
    obtain ⟨h1, h2⟩ := new_map h
    cases h2
    exact ⟨k, _, rfl, h1, rfl, fun X hX => by rw [if_pos hok]; exact new_map_of hX⟩
  case bslice k e s l z ps =>
    split at h
    case h_2 => cases h
    obtain ⟨h1, h2⟩ := new_map h
    cases h2
    exact ⟨k, _, rfl, h1, rfl, fun X hX => new_map_of hX⟩
  case mkslice k e s by_ z x y =>
    unfold Heap.mkslice at h ⊢
    split at h
    case h_2 => cases h
    rename_i k1 l k2 c hl hcc
    split at h
    case isFalse => cases h
    rename_i hcond
    obtain ⟨h1, h2⟩ := new_map h
    cases h2
    refine ⟨k, _, rfl, h1, rfl, fun X hX => ?_⟩
    simp only [hl, hcc, hcond, and_self, if_true]
    exact new_map_of hX
  case mkmap k =>
    obtain ⟨h1, h2⟩ := new_map h
    cases h2
    exact ⟨k, _, rfl, h1, rfl, fun X hX => new_map_of hX⟩
  case append k e s by_ p x y => cases p <;> simp at hc

theorem evI_Ea {k e s by_ : Nat} {x y : Opd} {H H' : Heap} {v : Value} (h : evI cl b T H (.append k e s by_ true x y) = some (v, H')) :
    (H' = H ∧ ∀ j o, H.get j = some .pend → j ≠ b + k → evI cl b T (H.put j o) (.append k e s by_ true x y) = some (v, H.put j o)) ∨
    ∃ ob, H.get (b + k) = some .pend ∧ H' = H.put (b + k) ob ∧ ∀ j o, H.get j = some .pend → j ≠ b + k → evI cl b T (H.put j o) (.append k e s by_ true x y) = some (v, (H.put j o).put (b + k) ob) := by
  simp only [evI] at h ⊢
  unfold Heap.append at h ⊢
  split at h
  · cases h
  rename_i n new hrow
  split at h
  · rename_i hx
    split at h
    · rename_i hn0
      cases h
      refine .inl ⟨rfl, fun j o hj _ => ?_⟩
      simp only [row_put (o := o) hrow hj, hx, hn0, if_true]
    · rename_i hn0
      split at h
      case isFalse => cases h
      rename_i hb
      obtain ⟨h1, h2⟩ := new_map h
      cases h2
      refine .inr ⟨_, h1, rfl, fun j o hj hne => ?_⟩
      simp only [row_put (o := o) hrow hj, hx, hn0, if_false, hb, and_self, if_true]
      exact new_map_of (by rw [Heap.get_put, if_neg hne]; exact h1)
  · rename_i o0 off ek len cap hx
    split at h
    · rename_i hn0
      cases h
      refine .inl ⟨rfl, fun j o hj _ => ?_⟩
      simp only [row_put (o := o) hrow hj, hx, hn0, if_true, if_false]
    · rename_i hn0
      split at h
      · cases h
      rename_i hek
      split at h
      · simp at h
      rename_i hfit
      split at h
      · cases h
      rename_i n2 old hrow2
      split at h
      case isFalse => cases h
      rename_i hb
      split at h
      case isFalse => simp at h
      rename_i hex
      obtain ⟨h1, h2⟩ := new_map h
      cases h2
      refine .inr ⟨_, h1, rfl, fun j o hj hne => ?_⟩
      have hrow2' := row_put (o := o) hrow2 hj
      rw [hx] at hrow2'
      simp only [row_put (o := o) hrow hj, hx]
      rw [if_neg hn0, if_neg hek]
      simp only [hn0, if_false, hfit, hrow2', hb, and_self, if_true, hex]
      have h1' : (H.put j o).get (b + k) = some .pend := by rw [Heap.get_put, if_neg hne]; exact h1
      exact new_map_of h1'
  · cases h

theorem veq1_eq {a b : Value} (h : veq1 a b = true) : a = b := by
  unfold veq1 at h
  split at h
  case h_3 s s' =>
    have h1 : ByteArray.beq s s' = true := h
    unfold ByteArray.beq at h1
    rw [ByteArray.ext (eq_of_beq h1)]
  all_goals simp_all

theorem veqs_eq : ∀ {l l' : List Value}, veqs l l' = true → l = l'
  | [], [], _ => rfl
  | [], _ :: _, h => by simp [veqs] at h
  | _ :: _, [], h => by simp [veqs] at h
  | x :: l, y :: l', h => by
    simp only [veqs, Bool.and_eq_true] at h
    rw [veq1_eq h.1, veqs_eq h.2]

theorem veq_eq {a b : Value} (h : veq a b = true) : a = b := by
  unfold veq at h
  split at h
  · have := veqs_eq h
    rw [Array.toList_inj] at this
    rw [this]
  · exact veq1_eq h

theorem chkOk_less {log : Tr Lg} {i : I} {v : Value} {y : Nat} {e : Lg} : ∀ {l : List Nat}, chkOk (log.set y e) T i v l = true → chkOk log T i v (l.filter fun c => c != y) = true := by
  intro l
  induction l with
  | nil => intro _; rfl
  | cons c l ih =>
    intro h
    simp only [chkOk, Bool.and_eq_true] at h
    by_cases hc : c = y
    · subst hc
      simp only [List.filter_cons, bne_self_eq_false, Bool.false_eq_true, if_false]
      exact ih h.2
    · have : (c != y) = true := by simpa using hc
      simp only [List.filter_cons, this, if_true, chkOk, Bool.and_eq_true]
      refine ⟨?_, ih h.2⟩
      have h1 := h.1
      rw [Tr.get_set_ne _ _ _ _ (fun e => hc e.symm)] at h1
      exact h1

theorem chkOk_hit {log : Tr Lg} {i : I} {v : Value} {y : Nat} {e : Lg} : ∀ {l : List Nat}, chkOk (log.set y e) T i v l = true → l.contains y = true → chk1 T i v (some e) = true := by
  intro l
  induction l with
  | nil => intro _ h; simp at h
  | cons c l ih =>
    intro h hm
    simp only [chkOk, Bool.and_eq_true] at h
    by_cases hc : y = c
    · subst hc
      have h1 := h.1
      rw [Tr.get_set_same] at h1
      exact h1
    · exact ih h.2 (by simpa [hc] using hm)

theorem chkOk_filter {log : Tr Lg} {i : I} {v : Value} (p : Nat → Bool) : ∀ {l : List Nat}, chkOk log T i v l = true → chkOk log T i v (l.filter p) = true := by
  intro l
  induction l with
  | nil => intro _; rfl
  | cons c l ih =>
    intro h
    simp only [chkOk, Bool.and_eq_true] at h
    simp only [List.filter_cons]
    split
    · simp only [chkOk, Bool.and_eq_true]; exact ⟨h.1, ih h.2⟩
    · exact ih h.2

def Ins.less (x : Ins) (y : Nat) : Ins := { x with chk := x.chk.filter fun c => c != y }

theorem evW_some {i : Ins} {s : St} {v : Value} {H' : Heap} (h : evW cl b i s = some (v, H')) :
    (i.wanted s.T = some true ∧ evI cl b s.T s.H i.op = some (v, H') ∧ chkOk s.log s.T i.op v i.chk = true) ∨ (i.wanted s.T = some false ∧ v = undef ∧ H' = s.H) := by
  unfold evW at h
  split at h
  · rename_i hw
    split at h
    case h_2 => cases h
    rename_i v' H1 he
    split at h
    case isFalse => cases h
    rename_i hck
    cases h
    exact .inl ⟨hw, he, hck⟩
  · rename_i hw
    cases h
    exact .inr ⟨hw, rfl, rfl⟩
  · cases h

theorem evW_of {i : Ins} {s : St} {v : Value} {H' : Heap} (hw : i.wanted s.T = some true) (he : evI cl b s.T s.H i.op = some (v, H')) (hc : chkOk s.log s.T i.op v i.chk = true) : evW cl b i s = some (v, H') := by
  simp [evW, hw, he, hc]
theorem evW_not {i : Ins} {s : St} (hw : i.wanted s.T = some false) : evW cl b i s = some (undef, s.H) := by
  simp [evW, hw]

theorem cls_load {i : I} (h : i.cls = .L) : ∃ a n x, i = .load a n x := by
  cases i <;> simp [I.cls] at h
  case load a n x => exact ⟨a, n, x, rfl⟩
  case append k e s by_ p x y => cases p <;> simp at h
theorem cls_ea {i : I} (h : i.cls = .Ea) : ∃ k e s by_ x y, i = .append k e s by_ true x y := by
  cases i <;> simp [I.cls] at h
  case append k e s by_ p x y => cases p <;> simp at h; exact ⟨k, e, s, by_, x, y, rfl⟩
theorem cls_call {i : I} (h : i.cls ≠ .C) : i.isCall = false := by
  cases i <;> first | rfl | simp [I.cls] at h
theorem isCall_cls {i : I} (h : i.cls = .C) : i.isCall = true := by
  cases i <;> simp [I.cls] at h <;> try rfl
  case append k e s by_ p x y => cases p <;> simp at h

theorem cls_store {i : I} (h : i.isStore = true) : (∃ n a x, i = .store n a x) ∨ ∃ k e s by_ x y, i = .append k e s by_ false x y := by
  cases i <;> simp [I.isStore] at h
  case store n a x => exact .inl ⟨n, a, x, rfl⟩
  case append k e s by_ p x y => subst h; exact .inr ⟨k, e, s, by_, x, y, rfl⟩

theorem comm_spec {y x : Ins} (h : comm y x = true) : (y.idx ≠ x.idx ∧ y.chk.contains x.idx = false) ∧ (∀ d, y.dst = some d → d ∉ x.reads ∧ x.dst ≠ some d) ∧ (∀ d, x.dst = some d → d ∉ y.reads) ∧
    (y.op.cls = .P ∨ x.op.cls = .P ∨ ((y.op.cls = .L ∨ y.op.cls = .M) ∧ (x.op.cls = .L ∨ x.op.cls = .M)) ∨
      (((y.op.cls = .L ∨ y.op.cls = .M) ∧ (x.op.cls = .E ∨ x.op.cls = .Ea) ∨ (y.op.cls = .E ∨ y.op.cls = .Ea) ∧ x.op.cls = .E) ∧ (y.op.tgt = none ∨ y.op.tgt ≠ x.op.tgt)) ∨
      (y.op.cls = .C ∧ x.op.cls = .E) ∨ ((y.op.cls = .C ∨ y.op.cls = .E) ∧ x.op.cls = .L ∧ y.lg = true ∧ x.chk.contains y.idx = true) ∨
      (y.op.cls = .L ∧ x.op.cls = .W ∧ y.lg = true ∧ x.op.isStore = true ∧ x.chk.contains y.idx = true) ∨ (y.op.cls = .L ∧ x.op.cls = .V)) := by
  unfold comm at h
  simp only [Bool.and_eq_true] at h
  obtain ⟨⟨⟨h1, h2⟩, h3⟩, h4⟩ := h
  refine ⟨⟨by simpa using h1.1, by simpa using h1.2⟩, fun d hd => ?_, fun d hd => ?_, ?_⟩
  · rw [hd] at h2; simpa using h2
  · rw [hd] at h3; simpa using h3
  · cases hy : y.op.cls <;> cases hx : x.op.cls <;> rw [hy, hx] at h4 <;> simp at h4 <;> simp
    all_goals first | exact h4 | (rcases h4 with h4 | h4 <;> simp [h4]) | simp [h4]

end Go.Proofs.YtapkmhneneffdaaGreatDoor.Mx
