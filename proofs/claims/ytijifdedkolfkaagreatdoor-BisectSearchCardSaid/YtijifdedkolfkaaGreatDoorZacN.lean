/- Code and functions. -/
import Derived.Test.YtijifdedkolfkaaGreatDoorZacU
set_option linter.unusedSimpArgs false
set_option linter.unusedVariables false
namespace Go.Proofs.YtijifdedkolfkaaGreatDoor.Mac
open Go

section
variable {P : Program} {B0 : Bs} {w0 : World} {cl : Nat → List Value → Heap → Option (Value × Heap)}

def exOk : Ex → Exit → Prop
  | .normal, .normal => True
  | .ret, .ret => True
  | .exit i, .exit j => i = j
  | _, _ => False

def CPost (B0 : Bs) (w0 : World) (nt lo : Nat) (β : Emb) (ex : Ex) (T : Tr Value) (H : Heap) : Exit → Act → World → Prop :=
  fun e a w => exOk ex e ∧ ∃ β', β.le β' ∧ Sim B0 w0 nt lo β' T H a w

theorem CPost.trans {nt lo : Nat} {β β' : Emb} (h : β.le β') {ex : Ex} {T : Tr Value} {H : Heap} {e : Exit} {a : Act} {w : World} (hp : CPost B0 w0 nt lo β' ex T H e a w) : CPost B0 w0 nt lo β ex T H e a w :=
  ⟨hp.1, let ⟨b, h1, h2⟩ := hp.2; ⟨b, Emb.le_trans h h1, h2⟩⟩

theorem region_stuck {cl : Nat → List Value → Heap → Option (Value × Heap)} {n : Nat} {T : Tr Value} {H : Heap} {r : Ex × Tr Value × Heap} (h : evC cl n (.region 0 [⟨0, none, none, .stuck, [], false⟩]) T H = some r) : False := by
  simp [evC, evSeq, evIns, evW, Ins.wanted, evI] at h

theorem sim_C (hcl : ClOk P B0 w0 cl) (hgd : ClGood cl) (hm : P.follows .mixedOrders = true) {nt lo n : Nat} : ∀ (c : Code) (d : Cd) (T : Tr Value) (H : Heap) (ex : Ex) (T' : Tr Value) (H' : Heap) (β : Emb) (a : Act) (w : World),
    cCode P nt c = some d → evC cl n d T H = some (ex, T', H') → Sim B0 w0 nt lo β T H a w → c.wp P (CPost B0 w0 nt lo β ex T' H') a w := by
  intro c
  induction c with
  | skip =>
    intro d T H ex T' H' β a w hc hev hs
    simp only [cCode] at hc; cases hc
    simp only [evC] at hev; cases hev
    exact wp_skip ⟨trivial, β, Emb.le_refl β, hs⟩
  | region id ops draw =>
    intro d T H ex T' H' β a w hc hev hs
    simp only [cCode] at hc
    split at hc
    · cases hc
    rename_i is m hl
    cases draw with
    | true =>
      simp only [if_true] at hc
      cases hp : planned ops.toList is with
      | none => rw [hp] at hc; cases hc; exact (region_stuck hev).elim
      | some l' =>
        rw [hp] at hc; cases hc
        have hex : ex = .normal := by
          simp only [evC] at hev
          split at hev <;> cases hev
          rfl
        subst hex
        exact region_draw_sim hcl hgd hm hl hp hev hs (fun β' a' w' hle hs' => ⟨trivial, β', hle, hs'⟩)
    | false =>
      simp only [Bool.false_eq_true, if_false] at hc
      cases hc
      obtain ⟨_, g2, g3⟩ := cList_spec ops.toList 0 0 is m hl (fun j => by simp)
      simp only [evC] at hev
      split at hev
      case h_2 => cases hev
      rename_i fin hseq
      cases hev
      refine wp_region ?_
      have := seq_sim (Q := CPost B0 w0 nt lo β .normal fin.T fin.H) hcl is 0 ⟨T, Heap.ext m H, .nil⟩ β a w (fun j i h => by obtain ⟨k1, k2⟩ := g3 j i h; exact ⟨k1, k2⟩) hseq
        ⟨⟨hs.rel.toRel.ext m, hs.rel.os, hs.rel.tape, hs.rel.output⟩, hs.tr, hs.nt, by rw [Heap.size_ext]; exact Nat.le_refl _, hs.df⟩ (fun β' a' w' hle hs' => ⟨trivial, β', hle, hs'.le (by have := hs.sz; omega)⟩)
      rw [g2] at this
      rw [List.range_eq_range']
      simpa using this
  | seq x y ihx ihy =>
    intro d T H ex T' H' β a w hc hev hs
    simp only [cCode] at hc
    split at hc
    case h_2 => cases hc
    rename_i x' y' hx hy
    cases hc
    simp only [evC] at hev
    refine wp_seq ?_
    split at hev
    · rename_i T1 H1 e
      refine wp_mono (ihx x' T H _ T1 H1 β a w hx e hs) ?_
      rintro e' a' w' ⟨h1, β', h2, h3⟩
      cases e' <;> simp only [exOk] at h1
      exact wp_mono (ihy y' T1 H1 ex T' H' β' a' w' hy hev h3) (fun e a w h => h.trans h2)
    · rename_i hnot
      refine wp_mono (ihx x' T H ex T' H' β a w hx hev hs) ?_
      rintro e' a' w' ⟨h1, h2⟩
      cases ex with
      | normal => exact absurd hev (hnot T' H')
      | exit i => cases e' <;> simp only [exOk] at h1; exact ⟨h1, h2⟩
      | ret => cases e' <;> simp only [exOk] at h1; exact ⟨trivial, h2⟩
  | cond x p q ihp ihq =>
    intro d T H ex T' H' β a w hc hev hs
    simp only [cCode] at hc
    split at hc
    case h_2 => cases hc
    rename_i x' p' q' hx hp hq
    cases hc
    simp only [evC] at hev
    split at hev
    case h_2 => cases hev
    rename_i t ht
    have hv := hs.tr.opd (fun g hg => hs.rel.gl g (Nat.lt_of_lt_of_le hg hcl.g)) x x' hx
    rw [ht] at hv
    have hx2 : a.eval x = .bool t := by
      generalize a.eval x = r at hv
      cases hv; rfl
    refine wp_cond hx2 ?_
    cases t
    · exact ihq q' T H ex T' H' β a w hq hev hs
    · exact ihp p' T H ex T' H' β a w hp hev hs
  | block id c ih =>
    intro d T H ex T' H' β a w hc hev hs
    simp only [cCode] at hc
    cases hd : cCode P nt c with
    | none => rw [hd] at hc; cases hc
    | some d' =>
      rw [hd] at hc; cases hc
      simp only [evC] at hev
      refine wp_block ?_
      split at hev
      · rename_i id' T1 H1 e
        refine wp_mono (ih d' T H _ T1 H1 β a w hd e hs) ?_
        rintro e' a' w' ⟨h1, h2⟩
        cases e' <;> simp only [exOk] at h1
        subst h1
        simp only [Exit.inBlock]
        by_cases hq : id' = id
        · simp only [hq, beq_self_eq_true, cond_true] at hev
          cases hev
          rw [if_pos hq]
          exact ⟨trivial, h2⟩
        · have : (id' == id) = false := by simpa using hq
          simp only [this, cond_false] at hev
          cases hev
          rw [if_neg hq]
          exact ⟨rfl, h2⟩
      · rename_i hnot
        refine wp_mono (ih d' T H ex T' H' β a w hd hev hs) ?_
        rintro e' a' w' ⟨h1, h2⟩
        cases ex with
        | normal => cases e' <;> simp only [exOk] at h1; exact ⟨trivial, h2⟩
        | exit i => exact absurd hev (hnot i T' H')
        | ret => cases e' <;> simp only [exOk] at h1; exact ⟨trivial, h2⟩
  | loop c ih =>
    intro d T H ex T' H' β a w hc hev hs
    simp only [cCode] at hc
    cases hd : cCode P nt c with
    | none => rw [hd] at hc; cases hc
    | some d' =>
      rw [hd] at hc; cases hc
      simp only [evC] at hev
      have key : ∀ m T H β2 a w, β.le β2 → iter (fun T H => evC cl n d' T H) m T H = some (ex, T', H') → Sim B0 w0 nt lo β2 T H a w → Code.rounds P c (CPost B0 w0 nt lo β ex T' H') m a w := by
        intro m
        induction m with
        | zero => intro T H β2 a w _ h; simp [iter] at h
        | succ m ihm =>
          intro T H β2 a w hle h hs2
          simp only [iter] at h
          rw [rounds_succ]
          split at h
          · rename_i T1 H1 e
            refine wp_mono (ih d' T H _ T1 H1 β2 a w hd e hs2) ?_
            rintro e' a' w' ⟨h1, β3, h2, h3⟩
            cases e' <;> simp only [exOk] at h1
            exact ihm T1 H1 β3 a' w' (Emb.le_trans hle h2) h h3
          · rename_i hnot
            refine wp_mono (ih d' T H ex T' H' β2 a w hd h hs2) ?_
            intro e' a' w' hpost
            have hp := CPost.trans hle hpost
            cases ex with
            | normal => exact absurd h (hnot T' H')
            | exit i => cases e' <;> first | exact hp | exact hp.1.elim
            | ret => cases e' <;> first | exact hp | exact hp.1.elim
      exact wp_loop_rounds n (key n T H β a w (Emb.le_refl β) hev hs)
  | exit id =>
    intro d T H ex T' H' β a w hc hev hs
    simp only [cCode] at hc; cases hc
    simp only [evC] at hev; cases hev
    exact wp_exit ⟨rfl, β, Emb.le_refl β, hs⟩
  | ret =>
    intro d T H ex T' H' β a w hc hev hs
    simp only [cCode] at hc; cases hc
    simp only [evC] at hev; cases hev
    exact wp_ret ⟨trivial, β, Emb.le_refl β, hs⟩
  | rangeFunc f p x y _ _ => intro d T H ex T' H' β a w hc hev; simp only [cCode] at hc; cases hc; exact (region_stuck hev).elim
  | scope c _ => intro d T H ex T' H' β a w hc hev; simp only [cCode] at hc; cases hc; exact (region_stuck hev).elim
  | label l => intro d T H ex T' H' β a w hc hev; simp only [cCode] at hc; cases hc; exact (region_stuck hev).elim
  | goto l => intro d T H ex T' H' β a w hc hev; simp only [cCode] at hc; cases hc; exact (region_stuck hev).elim
  | refuse s => intro d T H ex T' H' β a w hc hev; simp only [cCode] at hc; cases hc; exact (region_stuck hev).elim

theorem get_ofList {α : Type} : ∀ (l : List α) (k : Nat) (t : Tr α) (i : Nat), (Tr.ofList l k t).get i = if k ≤ i ∧ i < k + l.length then l[i - k]? else t.get i := by
  intro l
  induction l with
  | nil => intro k t i; simp [Tr.ofList]; omega
  | cons x l ih =>
    intro k t i
    simp only [Tr.ofList, ih, Tr.get_set, List.length_cons]
    by_cases h1 : k + 1 ≤ i ∧ i < k + 1 + l.length
    · rw [if_pos h1, if_pos (by omega), show i - k = i - (k + 1) + 1 by omega]; rfl
    · rw [if_neg h1]
      by_cases h2 : k = i
      · subst h2; simp
      · rw [if_neg h2, if_neg (by omega)]

theorem entry_tr {β : Emb} {args : List Value} {args' : Array Value} (h : VRs β args args'.toList) (n : Nat) : TR β (Tr.ofList args 0 .nil) ⟨args' ++ Array.replicate n undef, []⟩ := by
  intro t
  have hl := h.1
  simp only [Array.length_toList] at hl
  simp only [rd, get_ofList]
  by_cases ht : t < args.length
  · rw [if_pos (by omega), Nat.sub_zero]
    obtain ⟨v', h1, h2⟩ := h.2 t args[t] (List.getElem?_eq_getElem ht)
    rw [List.getElem?_eq_getElem ht]
    rw [Array.getElem?_toList] at h1
    have : (args' ++ Array.replicate n undef)[t]? = some v' := by rw [Array.getElem?_append_left (by omega)]; exact h1
    simpa [this] using h2
  · rw [if_neg (by omega)]
    have : (args' ++ Array.replicate n undef).getD t undef = undef := by
      simp only [Array.getD_eq_getD_getElem?]
      rw [Array.getElem?_append_right (by omega)]
      cases hq : (Array.replicate n undef)[t - args'.size]? with
      | none => rfl
      | some u =>
        rw [Array.getElem?_replicate] at hq
        split at hq <;> cases hq
        rfl
    show VR β undef ((args' ++ Array.replicate n undef).getD t undef)
    rw [this]; exact .undef β

def resOne (tmps : Array Value) : ResultVar → Sem Value
  | .tmp t => pure (tmps.getD t undef)
  | .cell a t => do loadVar t (← asAddr (tmps.getD a undef))

theorem results_eq (fn : Func) (tmps : Array Value) : results fn tmps = (do
    let vs ← fn.results.mapM (resOne tmps)
    pure (if h : vs.size = 1 then vs[0] else .tuple vs)) := rfl

theorem res_sim {nt lo : Nat} {β : Emb} {T : Tr Value} {H : Heap} {a : Act} {w : World} (hs : Sim B0 w0 nt lo β T H a w) : ∀ (l : List ResultVar) (rs : List Res) (vs : List Value), cRes P l = some rs → evRes T H rs = some vs →
    ∃ vs', (l.mapM (resOne a.tmps)).run P w = .ok vs' w ∧ VRs β vs vs' := by
  intro l
  induction l with
  | nil => intro rs vs h1 h2; simp [cRes] at h1; subst h1; simp [evRes] at h2; subst h2; exact ⟨[], rfl, .nil β⟩
  | cons x l ih =>
    intro rs vs h1 h2
    cases x with
    | tmp t =>
      simp only [cRes] at h1
      cases hr : cRes P l with
      | none => rw [hr] at h1; cases h1
      | some r =>
        rw [hr] at h1; cases h1
        simp only [evRes] at h2
        cases hv : evRes T H r with
        | none => rw [hv] at h2; cases h2
        | some vs0 =>
          rw [hv] at h2; cases h2
          obtain ⟨vs', g1, g2⟩ := ih r vs0 hr hv
          refine ⟨a.tmps.getD t undef :: vs', ?_, .cons (hs.tr t) g2⟩
          simp only [List.mapM_cons, Sem.run_bind, Sem.run_pure, Result.andThen_ok, g1, resOne]
    | cell x t =>
      simp only [cRes] at h1
      split at h1
      case h_2 => cases h1
      rename_i d n r hu hsz hr
      cases h1
      simp only [evRes] at h2
      split at h2
      case h_2 => cases h2
      rename_i v vs0 hv hvs
      cases h2
      obtain ⟨vs', g1, g2⟩ := ih r vs0 hr hvs
      have hx := hs.tr x
      obtain ⟨v', k1, k2⟩ := load_sim' (P := P) hs.rel hu hsz hv hx
      have hp : ∃ ad, a.tmps.getD x undef = .pointer (some ad) := by
        unfold Heap.loadv at hv
        split at hv
        case h_2 => cases hv
        rename_i id off hq
        rw [hq] at hx
        generalize a.tmps.getD x undef = r0 at hx
        cases hx
        exact ⟨_, rfl⟩
      obtain ⟨ad, hp⟩ := hp
      rw [hp] at k1
      simp only [Instr.loadAt, Instr.sureAddr, Sem.run_bind, Sem.run_pure, Result.andThen_ok] at k1
      refine ⟨v' :: vs', ?_, .cons k2 g2⟩
      have hone : (resOne a.tmps (.cell x t)).run P w = .ok v' w := by
        simp only [resOne, hp, asAddr, Sem.run_bind, Sem.run_pure, Result.andThen_ok, k1]
      simp only [List.mapM_cons, Sem.run_bind, hone, Sem.run_pure, Result.andThen_ok, g1]

theorem pack_sim {β : Emb} {vs vs' : List Value} (h : VRs β vs vs') : VR β (packRes vs) (if h : vs'.toArray.size = 1 then vs'.toArray[0] else .tuple vs'.toArray) := by
  have hl := h.1
  cases vs with
  | nil =>
    have : vs' = [] := List.length_eq_zero_iff.1 (by simpa using hl.symm)
    subst this
    exact .tuple' (.nil β)
  | cons v l =>
    cases l with
    | nil =>
      obtain ⟨v', h1, h2⟩ := h.2 0 v rfl
      cases vs' with
      | nil => simp at h1
      | cons u l' =>
        have : l' = [] := List.length_eq_zero_iff.1 (by simp at hl; simpa using hl)
        subst this
        simp at h1; subst h1
        exact h2
    | cons u l =>
      have hne : ¬ (vs'.toArray.size = 1) := by simp at hl ⊢; omega
      rw [dif_neg hne]
      exact .tuple' (by simpa [packRes] using h)

def TabOk (P : Program) (Γ : Nat → Option FnI) : Prop := ∀ f F, Γ f = some F → ∃ fn, P.funcs[f]? = some fn ∧ cFn P fn = some F

def KnownAt (P : Program) (f : Nat) (args : List Value) (H : Heap) (v : Value) (n : Nat) : Prop :=
  CallOk P f ∧ H.size ≤ n ∧ ∀ (B0 : Bs) (w0 : World) (β : Emb) (w : World) (args' : Array Value), P.globals.size ≤ B0.g → WRel B0 w0 β H w → VRs β args args'.toList →
    Calls P f args' w (fun e w' => ∃ β' v', e = .returned v' ∧ β.le β' ∧ WRel B0 w0 β' (H.upto n) w' ∧ VR β' v v')

def OvOk (P : Program) (ov : Known) : Prop := ∀ f args H v n, ov f args H = some (v, n) → KnownAt P f args H v n

/-- What is known of calls, and that it speaks of no pending number. -/
structure OvGood (ov : Known) : Prop where
  put : OvPut ov
  no : ∀ f args H j o, ov f args H = none → H.get j = some .pend → j < H.size → ov f args (H.put j o) = none

theorem sim_F (hm : P.follows .mixedOrders = true) {Γ : Nat → Option FnI} (hΓ : TabOk P Γ) {ov : Known} (hov : OvOk P ov) (hog : OvGood ov) (hG : P.globals.size ≤ B0.g) : ∀ k, ClOk P B0 w0 (evF Γ ov k) := by
  intro k
  induction k with
  | zero => exact ⟨hG, fun g args H v H' h => by simp [evF] at h⟩
  | succ k ih =>
    refine ⟨hG, ?_⟩
    intro g args H v H' h
    have hgd : ClGood (evF Γ ov k) := good_F hog.put hog.no k
    simp only [evF] at h
    split at h
    · rename_i u n hu
      cases h
      obtain ⟨k1, k2, k3⟩ := hov _ _ _ _ _ hu
      exact ⟨k1, k2, fun β w args' => k3 B0 w0 β w args' hG⟩
    unfold evB at h
    split at h
    · cases h
    rename_i F hF
    obtain ⟨fn, hfn, hcf⟩ := hΓ g F hF
    unfold cFn at hcf
    split at hcf
    · cases hcf
    rename_i c hbody
    split at hcf
    · cases hcf
    rename_i hname
    split at hcf
    case h_2 => cases hcf
    rename_i c' r hc hr
    cases hcf
    have hcls : ∀ g args H v H', evF Γ ov k g args H = some (v, H') → H.size ≤ H'.size := fun g args H v H' h => (ih.c g args H v H' h).2.1
    have hne' : ¬ fn.name = "runtime.NumGoroutine" := by simpa using hname
    refine ⟨fun args w => by simp [callFunc, hfn, hne', hbody], ?_, ?_⟩
    · split at h
      · cases h
      · rename_i ex T H1 e hnot
        have := evC_size hcls _ _ _ _ _ _ hnot
        cases hres : evRes T H1 r with
        | none => rw [hres] at h; cases h
        | some vs => rw [hres] at h; cases h; exact this
      · cases h
    · intro β w args' hR hargs
      refine calls_of_wp hfn hbody ?_
      have hl := hargs.1
      simp only [Array.length_toList] at hl
      have hs : Sim B0 w0 fn.ntmps H.size β (Tr.ofList args 0 .nil) H ⟨args' ++ Array.replicate (fn.ntmps - args'.size) undef, []⟩ w :=
        ⟨hR, entry_tr hargs _, by simp; omega, Nat.le_refl _, rfl⟩
      have fin : ∀ ex T H1, evC (evF Γ ov k) k c' (Tr.ofList args 0 .nil) H = some (ex, T, H1) → (∀ i, ex ≠ .exit i) → (evRes T H1 r).map (fun vs => (packRes vs, H1)) = some (v, H') →
          c.wp P (bodyPost P fn fun e w' => ∃ β' v', e = .returned v' ∧ β.le β' ∧ WRel B0 w0 β' H' w' ∧ VR β' v v') ⟨args' ++ Array.replicate (fn.ntmps - args'.size) undef, []⟩ w := by
        intro ex T H1 he hx hres
        refine wp_mono (sim_C ih hgd hm c c' _ H ex T H1 β _ w hc he hs) ?_
        rintro e' a' w' ⟨h1, β', h2, h3⟩
        cases hv : evRes T H1 r with
        | none => rw [hv] at hres; cases hres
        | some vs =>
          rw [hv] at hres
          cases hres
          obtain ⟨vs', g1, g2⟩ := res_sim h3 fn.results.toList r vs hr hv
          have hrun : (results fn a'.tmps).run P w' = .ok (if h : vs'.toArray.size = 1 then vs'.toArray[0] else .tuple vs'.toArray) w' := by
            rw [results_eq, Array.mapM_eq_mapM_toList]
            simp only [Sem.run_bind, Sem.run_map, g1, Result.andThen_ok]
            rfl
          have hpost : a'.defers = [] ∧ ∃ v0, (results fn a'.tmps).run P w' = .ok v0 w' ∧ ∃ β' v', Ending.returned v0 = .returned v' ∧ β.le β' ∧ WRel B0 w0 β' H' w' ∧ VR β' (packRes vs) v' :=
            ⟨h3.df, _, hrun, β', _, rfl, h2, h3.rel, pack_sim g2⟩
          cases ex with
          | exit i => exact absurd rfl (hx i)
          | normal => cases e' <;> simp only [exOk] at h1; exact hpost
          | ret => cases e' <;> simp only [exOk] at h1; exact hpost
      split at h
      · cases h
      · rename_i ex T H1 hnot e
        exact fin ex T H1 e (fun i hi => hnot i (by rw [hi])) h
      · cases h

/-! ### what is known of calls -/
def scal : Value → Bool
  | .bool _ | .int _ _ | .string _ => true
  | _ => false
def scalV : Value → Bool
  | .tuple vs => vs.all scal
  | v => scal v

theorem scal_eq {β : Emb} {v v' : Value} (h : scal v = true) (hv : VR β v v') : v' = v ∧ ∀ β', VR β' v v' := by
  cases hv <;> simp [scal, junk, opq] at h <;> exact ⟨rfl, fun β' => by first | exact .bool _ | exact .int _ _ | exact .str _⟩

theorem scalV_any {β : Emb} {v v' : Value} (h : scalV v = true) (hv : VR β v v') : ∀ β', VR β' v v' := by
  intro β'
  cases hv with
  | tuple c c' hc gc =>
    simp only [scalV] at h
    refine .tuple' ⟨by simpa using hc, fun i u hu => ?_⟩
    obtain ⟨u', h1, h2⟩ := (vrs_of_arr hc gc).2 i u hu
    refine ⟨u', h1, (scal_eq ?_ h2).2 β'⟩
    rw [Array.getElem?_toList] at hu
    have := Array.all_eq_true_iff_forall_mem.1 h u (Array.mem_of_getElem? hu)
    exact this
  | bool b => exact .bool b
  | int k n => exact .int k n
  | str s => exact .str s
  | _ => simp [scalV, scal, junk, opq] at h

theorem scals_any {β : Emb} {l l' : List Value} (h : l.all scal = true) (hl : VRs β l l') (β' : Emb) : VRs β' l l' :=
  ⟨hl.1, fun i v hv => let ⟨v', h1, h2⟩ := hl.2 i v hv; ⟨v', h1, (scal_eq (List.all_eq_true.1 h v (List.mem_of_getElem? hv)) h2).2 β'⟩⟩

/-- A heap of tables alone. -/
structure Tables (G : Nat) (Hg : Heap) : Prop where
  size : Hg.size = G
  ro : ∀ id ob, Hg.get id = some ob → id < G ∧ ∃ e cs, ob = .cells e true cs ∧ cs.all plain = true

theorem plain_leaf {v : Value} (h : plain v = true) : leafClosed v = true := by cases v <;> simp [plain] at h <;> rfl

theorem tables_rel {B0 : Bs} {w0 w : World} {β : Emb} {H Hg : Heap} {G : Nat} (R : WRel B0 w0 β H w) (ht : Tables G Hg) (hg : G ≤ B0.g) (hH : ∀ id ob, Hg.get id = some ob → H.get id = some ob) :
    WRel ⟨G, w.heap.size⟩ w (fun id => if id < G then β id else none) Hg w := by
  have bt : ∀ id l, (if id < G then β id else none) = some l → id < G ∧ β id = some l := fun id l h => by
    split at h
    · rename_i hlt; exact ⟨hlt, h⟩
    · cases h
  refine ⟨⟨fun id l h => by rw [ht.size]; exact (bt id l h).1, fun id h => ?_, fun id l e ro cs h h' => ?_, fun id l e cs h h' => ?_, fun id l e cs id' l' e' ro' cs' h h' => ?_,
    fun id l es c h h' => ?_, fun id l es c h h' => ?_, fun id l es c id' l' es' c' h h' => ?_, fun g hg' => ?_, fun b _ => rfl, Nat.le_refl _⟩, rfl, rfl, rfl⟩
  · obtain ⟨_, e, cs, h2, _⟩ := ht.ro id _ h; cases h2
  · obtain ⟨_, e2, cs2, h2, hp⟩ := ht.ro id _ h'
    cases h2
    obtain ⟨c, e', fz, q1, q2, q3, q4, q5⟩ := R.ob id l _ _ _ (bt id l h).2 (hH _ _ h')
    refine ⟨c, e', fz, q1, q2, q3, q4, fun i v hv => ?_⟩
    obtain ⟨v', r1, r2⟩ := q5 i v hv
    have hpv := List.all_eq_true.1 hp v (List.mem_of_getElem? hv)
    exact ⟨v', r1, by rw [plain_vr hpv r2]; exact .ofLeaf _ (plain_leaf hpv)⟩
  · obtain ⟨_, e, cs, h2, _⟩ := ht.ro id _ h'; cases h2
  · obtain ⟨_, e, cs, h2, _⟩ := ht.ro id _ h'; cases h2
  · obtain ⟨_, e, cs, h2, _⟩ := ht.ro id _ h'; cases h2
  · obtain ⟨_, e, cs, h2, _⟩ := ht.ro id _ h'; cases h2
  · obtain ⟨_, e, cs, h2, _⟩ := ht.ro id _ h'; cases h2
  · have hlt : g < G := hg'
    obtain ⟨n, hn⟩ := R.gl g (by omega)
    exact ⟨n, by rw [if_pos hlt]; exact hn⟩

/-- A call of which the tables alone tell the answer. -/
theorem known_closed {P : Program} (hm : P.follows .mixedOrders = true) {Γ : Nat → Option FnI} (hΓ : TabOk P Γ) {ov : Known} (hov : OvOk P ov) (hog : OvGood ov) {k f : Nat} {args : List Value} {v : Value} {Hg H' : Heap}
    (ht : Tables P.globals.size Hg) (h : evF Γ ov k f args Hg = some (v, H')) (ha : args.all scal = true) (hv : scalV v = true) {H : Heap} (hH : ∀ id ob, Hg.get id = some ob → H.get id = some ob) : KnownAt P f args H v H.size := by
  obtain ⟨h1, _, _⟩ := (sim_F (B0 := ⟨P.globals.size, 0⟩) (w0 := default) hm hΓ hov hog (Nat.le_refl _) k).c _ _ _ _ _ h
  refine ⟨h1, Nat.le_refl _, fun B0 w0 β w args' hG hR hargs => ?_⟩
  obtain ⟨_, _, hc⟩ := (sim_F (B0 := ⟨P.globals.size, w.heap.size⟩) (w0 := w) hm hΓ hov hog (Nat.le_refl _) k).c _ _ _ _ _ h
  refine (hc _ w args' (tables_rel hR ht hG hH) (scals_any ha hargs _)).mono ?_
  rintro e w' ⟨β', v', rfl, _, hR', hvr⟩
  refine ⟨β, v', rfl, Emb.le_refl β, ?_, scalV_any hv hvr β⟩
  have keep : ∀ b, b < w.heap.size → w'.heap[b]? = w.heap[b]? := hR'.keep
  have siz : w.heap.size ≤ w'.heap.size := hR'.siz
  refine ⟨⟨hR.dom, hR.pn, fun id l e ro cs g1 g2 => ?_, hR.wr, hR.inj, fun id l es c g1 g2 => ?_, hR.wm, hR.injm, hR.gl, fun b hb => ?_, Nat.le_trans hR.siz siz⟩, hR'.os.trans hR.os, hR'.tape.trans hR.tape, hR'.output.trans hR.output⟩
  · refine (hR.ob id l e ro cs g1 g2).heap fun o ho => ?_
    rw [keep _ (Array.getElem?_eq_some_iff.1 ho).1]; exact ho
  · refine (hR.mp id l es c g1 g2).heap fun o ho => ?_
    rw [keep _ (Array.getElem?_eq_some_iff.1 ho).1]; exact ho
  · have := hR.siz
    rw [keep b (by omega)]; exact hR.keep b hb

theorem ovNone {P : Program} : OvOk P fun _ _ _ => none := fun _ _ _ _ _ h => by cases h
theorem ovNoneGood : OvGood fun _ _ _ => none := ⟨(fun _ _ _ _ _ h => by cases h), (fun _ _ _ _ _ _ _ _ => rfl)⟩

end
end Go.Proofs.YtijifdedkolfkaaGreatDoor.Mac
