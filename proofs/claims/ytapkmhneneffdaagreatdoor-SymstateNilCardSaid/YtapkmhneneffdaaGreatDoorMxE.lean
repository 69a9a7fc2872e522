/- A part of the proof that the law answers true at every input: the texts ZadN, ZadO, ZadX, ZadZ; no conditions. -/
import Derived.Test.YtapkmhneneffdaaGreatDoorMxD
import Derived.Scope
import Derived.Recover
import Derived.Below
set_option linter.unusedSimpArgs false
set_option linter.unusedVariables false
set_option linter.constructorNameAsVariable false

/-! The text ZadN. -/
namespace Go.Proofs.YtapkmhneneffdaaGreatDoor.Mx
open Go

section
variable {P : Program} {B0 : Bs} {w0 : World} {ds : List Deferred} {cl : Nat → List Value → Heap → Option (Value × Heap)}

theorem evC_seq' (cl : Nat → List Value → Heap → Option (Value × Heap)) (n : Nat) (a b : Cd) (T : Tr Value) (H : Heap) : evC cl n (.seq a b) T H = match evC cl n a T H with
    | some (.normal, T, H) => evC cl n b T H
    | r => r := rfl

theorem upon_mono' {P : Program} {o : Oper} {a : Act} {K K' : Act → World → Prop} {Q Q' : Exit → Act → World → Prop} (hk : ∀ a w, K a w → K' a w) (hq : ∀ e a w, Q e a w → Q' e a w) {r : Result Next} (h : o.upon P a K Q r) : o.upon P a K' Q' r := by
  have lq : LetsOut Q → LetsOut Q' := fun ⟨a, w, h⟩ => ⟨a, w, hq _ _ _ h⟩
  cases r with
  | ok n w' =>
    cases n <;> simp only [Oper.upon] at h ⊢ <;>
      first
        | exact hk _ _ h
        | exact Calls.mono h (fun e w'' he => by cases e <;> first | exact hk _ _ he | exact hq _ _ _ he | exact lq he)
        | exact Rows.mono h (fun _ _ he => hk _ _ he)
  | halt x w' => cases x <;> simp only [Oper.upon] at h ⊢ <;> first | exact hq _ _ _ h | exact h

theorem wpOp_mono' {P : Program} {ops : Array Oper} {Q : Exit → Act → World → Prop} {i : Nat} {a : Act} {w : World} {Q' : Exit → Act → World → Prop} (hq : ∀ e a w, Q e a w → Q' e a w) (h : wpOp P ops Q i (Q .normal) a w) : wpOp P ops Q' i (Q' .normal) a w := by
  unfold wpOp at *
  split
  · rename_i hn; simp only [hn] at h; exact hq _ _ _ h
  · rename_i o ho
    simp only [ho] at h
    split
    · rename_i hw
      simp only [hw, if_true] at h
      rcases h with h | ⟨h1, a', w', h2⟩
      · exact .inl (upon_mono' (hq .normal) hq h)
      · exact .inr ⟨h1, a', w', hq _ _ _ h2⟩
    · rename_i hw; simp only [hw] at h; exact hq _ _ _ h

def exOk (β : Emb) : Ex → Exit → Prop
  | .normal, .normal => True
  | .ret, .ret => True
  | .exit i, .exit j => i = j
  | .pan v, .panic ch => ∃ v', ch = [{ v := v', recovered := false }] ∧ VR β v v'
  | _, _ => False

theorem exOk.mono {β β' : Emb} (h : β.le β') {ex : Ex} {e : Exit} (hp : exOk β ex e) : exOk β' ex e := by
  cases ex <;> cases e <;> simp only [exOk] at hp ⊢ <;> first
    | exact hp
    | (obtain ⟨v', h1, h2⟩ := hp; exact ⟨v', h1, h2.mono h⟩)

def CPost (B0 : Bs) (w0 : World) (ds : List Deferred) (nt lo : Nat) (β : Emb) (ex : Ex) (T : Tr Value) (H : Heap) : Exit → Act → World → Prop :=
  fun e a w => ∃ β', β.le β' ∧ exOk β' ex e ∧ Sim B0 w0 ds nt lo β' T H a w

theorem CPost.trans {nt lo : Nat} {β β' : Emb} (h : β.le β') {ex : Ex} {T : Tr Value} {H : Heap} {e : Exit} {a : Act} {w : World} (hp : CPost B0 w0 ds nt lo β' ex T H e a w) : CPost B0 w0 ds nt lo β ex T H e a w :=
  let ⟨b, h1, h2⟩ := hp; ⟨b, Emb.le_trans h h1, h2⟩

/-- How a call ends, by the machine's answer. -/
def EndR (β : Emb) (v : Value) (e : Ending) : Prop :=
  match isPan v with
  | none => ∃ v', e = .returned v' ∧ VR β v v'
  | some u => ∃ v', e = .panicked [{ v := v', recovered := false }] ∧ VR β u v'

structure ClOkP (P : Program) (B0 : Bs) (w0 : World) (cl : Nat → List Value → Heap → Option (Value × Heap)) : Prop where
  g : P.globals.size ≤ B0.g
  c : ∀ g args H v H', cl g args H = some (v, H') → CallOk P g ∧ H.size ≤ H'.size ∧ ∀ (β : Emb) (w : World) (args' : Array Value), WRel B0 w0 β H w → VRs β args args'.toList →
    Calls P g args' w (fun e w' => ∃ β', EndR β' v e ∧ β.le β' ∧ WRel B0 w0 β' H' w')

theorem ClOkP.noP (h : ClOkP P B0 w0 cl) : ClOk P B0 w0 (noP cl) := by
  refine ⟨h.g, fun g args H v H' e => ?_⟩
  obtain ⟨e1, e2⟩ := noP_some.1 e
  obtain ⟨h1, h2, h3⟩ := h.c _ _ _ _ _ e1
  refine ⟨h1, h2, fun β w args' hR ha => (h3 β w args' hR ha).mono ?_⟩
  rintro e w' ⟨β', he, hle, hR'⟩
  unfold EndR at he
  rw [e2] at he
  obtain ⟨v', rfl, hv⟩ := he
  exact ⟨β', v', rfl, hle, hR', hv⟩

theorem region_stuck {cl : Nat → List Value → Heap → Option (Value × Heap)} {n : Nat} {T : Tr Value} {H : Heap} {r : Ex × Tr Value × Heap} (h : evC cl n stuckR T H = some r) : False := by
  simp [stuckR, evC, evSeq, evIns, evW, Ins.wanted, evI] at h

theorem evC_region_normal {cl : Nat → List Value → Heap → Option (Value × Heap)} {n na : Nat} {ops : List Ins} {T T' : Tr Value} {H H' : Heap} {ex : Ex} (h : evC cl n (.region na ops) T H = some (ex, T', H')) : ex = .normal := by
  simp only [evC] at h
  split at h <;> cases h
  rfl

theorem lastCd_spec {nt : Nat} {o : Oper} {c : Cd} (h : lastCd P nt o = some c) : (∀ d, o.dst = some d → d < nt) ∧ o.guard = none ∧
    ((∃ k f fo as, o.op = .call k ∧ k.callee = .value f ∧ cOpd P f = some fo ∧ cOpds P k.args.toList = some as ∧ c = .callp o.dst fo as) ∨ (∃ x xo, o.op = .panic x ∧ cOpd P x = some xo ∧ c = .panic xo)) := by
  unfold lastCd at h
  split at h
  · cases h
  rename_i hd
  have hd' : ∀ d, o.dst = some d → d < nt := by
    intro d e
    rw [e] at hd
    simpa [dstOk] using hd
  split at h
  · rename_i k hg ho
    split at h
    case h_2 => cases h
    rename_i f hf
    split at h
    case h_2 => cases h
    rename_i fo as h1 h2
    cases h
    exact ⟨hd', hg, .inl ⟨k, f, fo, as, ho, hf, h1, h2, rfl⟩⟩
  · rename_i x hg ho
    cases hx : cOpd P x with
    | none => rw [hx] at h; cases h
    | some xo => rw [hx] at h; cases h; exact ⟨hd', hg, .inr ⟨x, xo, ho, hx, rfl⟩⟩
  · cases h

/-- The last operation of a region, a call or a panic. -/
theorem last_sim (hcl : ClOkP P B0 w0 cl) {nt lo n i : Nat} {ops : Array Oper} {o : Oper} {c : Cd} (ho : ops[i]? = some o) (hc : lastCd P nt o = some c) {T T' : Tr Value} {H H' : Heap} {ex : Ex} (hev : evC cl n c T H = some (ex, T', H')) {β : Emb} {a : Act} {w : World} (hs : Sim B0 w0 ds nt lo β T H a w) :
    wpOp P ops (CPost B0 w0 ds nt lo β ex T' H') i (CPost B0 w0 ds nt lo β ex T' H' .normal) a w := by
  obtain ⟨hd, hg, hk⟩ := lastCd_spec hc
  have hgl : ∀ g, g < P.globals.size → ∃ n, β g = some ⟨g, 0, n⟩ := fun g hg => hs.rel.gl g (Nat.lt_of_lt_of_le hg hcl.g)
  have hρ := hs.tr.opd hgl
  have hwant : Region.wanted o (yielded ops a.tmps) = true := by simp [Region.wanted, hg]
  have hlt : ∀ t, o.dst = some t → t < a.tmps.size := fun t ht => Nat.lt_of_lt_of_le (hd t ht) hs.nt
  unfold wpOp
  simp only [ho, hwant, if_true]
  refine .inl ?_
  rcases hk with ⟨k, f, f', as, hop, hcal, hf, has, rfl⟩ | ⟨x, x', hop, hx, rfl⟩
  · simp only [evC] at hev
    split at hev
    case h_2 => cases hev
    rename_i g first captured hq
    split at hev
    case h_2 => cases hev
    rename_i v H1 hclv
    have gf := hρ f f' hf
    rw [hq] at gf
    have gas := hs.tr.opds hgl _ _ has
    cases hq2 : a.eval f <;> rw [hq2] at gf <;> try (cases gf; done)
    rename_i fn2 first2 cap2
    cases gf with
    | func _ _ _ _ _ s1 s2 e1 e2 =>
    obtain ⟨hok, hsz, hcalls⟩ := hcl.c _ _ _ _ _ hclv
    have hargs : VRs β (first.toList ++ as.map (Opd.ev T) ++ captured.toList) (first2 ++ k.args.map a.eval ++ cap2).toList := by
      simp only [Array.toList_append, Array.toList_map]
      exact ((vrs_of_arr s1 e1).append gas).append (vrs_of_arr s2 e2)
    have hrun : (execOp a.eval o).run P w = .ok (.enter g (first2 ++ k.args.map a.eval ++ cap2)) w := by
      obtain ⟨callee, args, argTypes⟩ := k
      simp only at hcal
      subst hcal
      simp only [execOp, hop, resolve, Deferred.ofValue, hq2, Sem.run_bind, Sem.run_pure, Result.andThen_ok, invoke]
      exact hok _ _
    unfold Oper.wp
    rw [hrun, Oper.upon_enter]
    refine (hcalls β w _ hs.rel hargs).mono ?_
    rintro e w' ⟨β', he, hle, hR'⟩
    unfold EndR at he
    cases hp : isPan v with
    | none =>
      rw [hp] at he hev
      obtain ⟨v', rfl, hv⟩ := he
      cases hev
      refine ⟨β', hle, trivial, ⟨hR', ?_, by rw [size_put]; exact hs.nt, Nat.le_trans hs.sz hsz, by rw [defers_put]; exact hs.df⟩⟩
      exact (hs.tr.mono hle).put hlt hv
    | some u =>
      rw [hp] at he hev
      obtain ⟨v', rfl, hv⟩ := he
      cases hev
      exact ⟨β', hle, ⟨v', rfl, hv⟩, ⟨hR', hs.tr.mono hle, hs.nt, Nat.le_trans hs.sz hsz, hs.df⟩⟩
  · simp only [evC] at hev
    split at hev
    case h_2 => cases hev
    rename_i t v hq
    cases hev
    have gx := hρ x x' hx
    rw [hq] at gx
    cases hq2 : a.eval x <;> rw [hq2] at gx <;> try (cases gx; done)
    rename_i t2 v2
    have hrun : (execOp a.eval o).run P w = .halt (.panic (.iface t2 v2)) w := by
      simp [execOp, hop, Instr.panic, hq2, goPanic]
    unfold Oper.wp
    rw [hrun, Oper.upon_panic]
    exact ⟨β, Emb.le_refl β, ⟨_, rfl, gx⟩, hs⟩

theorem cRegion_sim (hcl : ClOkP P B0 w0 cl) (hgd : ClGood cl) (hm : P.follows .mixedOrders = true) {nt lo n : Nat} {ops : Array Oper} {draw : Bool} {id : Nat} {d : Cd} {T T' : Tr Value} {H H' : Heap} {ex : Ex} {β : Emb} {a : Act} {w : World}
    (hc : cRegion P nt ops.toList draw = some d) (hev : evC cl n d T H = some (ex, T', H')) (hs : Sim B0 w0 ds nt lo β T H a w) : (Code.region id ops draw).wp P (CPost B0 w0 ds nt lo β ex T' H') a w := by
  have hsz : ops.toList.length = ops.size := by simp
  unfold cRegion at hc
  split at hc
  · rename_i c hsp
    split at hc
    · cases hc
    rename_i is m hl
    unfold splitR at hsp
    split at hsp
    case h_2 => cases hsp
    rename_i o hlast
    split at hsp
    case h_2 => cases hsp
    rename_i c' hc'
    split at hsp
    · cases hsp
    rename_i hcond
    cases hsp
    have hne : 0 < ops.size := by
      rw [← hsz]
      cases hq : ops.toList with
      | nil => rw [hq] at hlast; simp at hlast
      | cons x l => simp
    have ho : ops[ops.size - 1]? = some o := by
      rw [List.getLast?_eq_getElem?, hsz, Array.getElem?_toList] at hlast; exact hlast
    cases draw with
    | true =>
      simp only [if_true] at hc
      have hlo : lastOk ops.toList = true := by simpa using hcond
      cases hp : planned (ops.toList.length - 1) ops.toList is with
      | none =>
        rw [hp] at hc; cases hc
        simp only [evC] at hev
        simp [stuckR, evC, evSeq, evIns, evW, Ins.wanted, evI] at hev
      | some l' =>
        rw [hp] at hc; cases hc
        simp only [evC_seq'] at hev
        split at hev
        · rename_i T1 H1 e
          refine region_last_sim hcl.noP hgd.noP hm hne hlo hl hp e hs (fun β' a' w' hle hs' => ?_)
          have := last_sim hcl ho hc' hev hs'
          exact wpOp_mono' (fun e a w h => h.trans hle) this
        · rename_i hnot
          have := evC_region_normal hev
          subst this
          exact absurd hev (hnot _ _)
    | false =>
      simp only [Bool.false_eq_true, if_false] at hc
      cases hc
      simp only [evC_seq'] at hev
      split at hev
      · rename_i T1 H1 e
        obtain ⟨_, g2, g3⟩ := cList_spec' ops.toList.dropLast 0 0 is m hl (fun j => by
          by_cases h : j < ops.size - 1
          · simp [List.getElem?_dropLast, h]
          · simp [List.getElem?_dropLast, h])
        simp only [evC] at e
        split at e
        case h_2 => cases e
        rename_i fin hseq
        cases e
        refine wp_region ?_
        have hrange : List.range ops.size = List.range' 0 is.length ++ [ops.size - 1] := by
          rw [g2]
          simp only [List.length_dropLast, hsz]
          rw [List.range_eq_range', show ops.size = (ops.size - 1) + 1 by omega, List.range'_1_concat]
          simp
        rw [hrange]
        refine seq_sim (Q := CPost B0 w0 ds nt lo β ex T' H') hcl.noP is 0 ⟨T, Heap.ext m H, .nil⟩ β a w (fun j i h => by obtain ⟨k1, k2⟩ := g3 j i h; exact ⟨k1, k2⟩) hseq
          ⟨⟨hs.rel.toRel.ext m, hs.rel.os, hs.rel.tape, hs.rel.output⟩, hs.tr, hs.nt, by rw [Heap.size_ext]; exact Nat.le_refl _, hs.df⟩ (fun β' a' w' hle hs' => ?_)
        rw [wpOps_cons]
        have := last_sim hcl ho hc' hev (hs'.le (lo' := lo) (by have := hs.sz; omega))
        exact wpOp_mono' (fun e a w h => h.trans hle) this
      · rename_i hnot
        have := evC_region_normal hev
        subst this
        exact absurd hev (hnot _ _)
  · split at hc
    · cases hc
    rename_i is m hl
    cases draw with
    | true =>
      simp only [if_true] at hc
      cases hp : planned ops.toList.length ops.toList is with
      | none => rw [hp] at hc; cases hc; exact (region_stuck hev).elim
      | some l' =>
        rw [hp] at hc; cases hc
        have hex := evC_region_normal hev
        subst hex
        exact region_draw_sim hcl.noP hgd.noP hm hl hp hev hs (fun β' a' w' hle hs' => ⟨β', hle, trivial, hs'⟩)
    | false =>
      simp only [Bool.false_eq_true, if_false] at hc
      cases hc
      obtain ⟨_, g2, g3⟩ := cList_spec ops.toList 0 0 is m hl (fun j => by simp)
      simp only [evC] at hev
      split at hev
      case h_2 => cases hev
      rename_i fin hseq
      cases hev
      refine wp_region ?_
      have := seq_sim (Q := CPost B0 w0 ds nt lo β .normal fin.T fin.H) (rest := []) hcl.noP is 0 ⟨T, Heap.ext m H, .nil⟩ β a w (fun j i h => by obtain ⟨k1, k2⟩ := g3 j i h; exact ⟨k1, k2⟩) hseq
        ⟨⟨hs.rel.toRel.ext m, hs.rel.os, hs.rel.tape, hs.rel.output⟩, hs.tr, hs.nt, by rw [Heap.size_ext]; exact Nat.le_refl _, hs.df⟩ (fun β' a' w' hle hs' => ⟨β', hle, trivial, hs'.le (by have := hs.sz; omega)⟩)
      rw [g2, List.append_nil] at this
      rw [List.range_eq_range']
      simpa using this

theorem sim_C (hcl : ClOkP P B0 w0 cl) (hgd : ClGood cl) (hm : P.follows .mixedOrders = true) {nt lo n : Nat} : ∀ (c : Code) (d : Cd) (T : Tr Value) (H : Heap) (ex : Ex) (T' : Tr Value) (H' : Heap) (β : Emb) (a : Act) (w : World),
    cCode P nt c = some d → evC cl n d T H = some (ex, T', H') → Sim B0 w0 ds nt lo β T H a w → c.wp P (CPost B0 w0 ds nt lo β ex T' H') a w := by
  intro c
  induction c with
  | skip =>
    intro d T H ex T' H' β a w hc hev hs
    simp only [cCode] at hc; cases hc
    simp only [evC] at hev; cases hev
    exact wp_skip ⟨β, Emb.le_refl β, trivial, hs⟩
  | region id ops draw =>
    intro d T H ex T' H' β a w hc hev hs
    simp only [cCode] at hc
    exact cRegion_sim hcl hgd hm hc hev hs
  | seq x y ihx ihy =>
    intro d T H ex T' H' β a w hc hev hs
    simp only [cCode] at hc
    split at hc
    case h_2 => cases hc
    rename_i x' y' hx hy
    cases hc
    simp only [evC] at hev
    refine wp_seq ?_
    split at hev
    · rename_i T1 H1 e
      refine wp_mono (ihx x' T H _ T1 H1 β a w hx e hs) ?_
      rintro e' a' w' ⟨β', h2, h1, h3⟩
      cases e' <;> simp only [exOk] at h1
      exact wp_mono (ihy y' T1 H1 ex T' H' β' a' w' hy hev h3) (fun e a w h => h.trans h2)
    · rename_i hnot
      refine wp_mono (ihx x' T H ex T' H' β a w hx hev hs) ?_
      rintro e' a' w' ⟨β', h2, h1, h3⟩
      cases ex with
      | normal => exact absurd hev (hnot T' H')
      | exit i => cases e' <;> simp only [exOk] at h1; exact ⟨β', h2, h1, h3⟩
      | ret => cases e' <;> simp only [exOk] at h1; exact ⟨β', h2, trivial, h3⟩
      | pan v => cases e' <;> simp only [exOk] at h1; exact ⟨β', h2, h1, h3⟩
  | cond x p q ihp ihq =>
    intro d T H ex T' H' β a w hc hev hs
    simp only [cCode] at hc
    split at hc
    case h_2 => cases hc
    rename_i x' p' q' hx hp hq
    cases hc
    simp only [evC] at hev
    split at hev
    case h_2 => cases hev
    rename_i t ht
    have hv := hs.tr.opd (fun g hg => hs.rel.gl g (Nat.lt_of_lt_of_le hg hcl.g)) x x' hx
    rw [ht] at hv
    have hx2 : a.eval x = .bool t := by
      generalize a.eval x = r at hv
      cases hv; rfl
    refine wp_cond hx2 ?_
    cases t
    · exact ihq q' T H ex T' H' β a w hq hev hs
    · exact ihp p' T H ex T' H' β a w hp hev hs
  | block id c ih =>
    intro d T H ex T' H' β a w hc hev hs
    simp only [cCode] at hc
    cases hd : cCode P nt c with
    | none => rw [hd] at hc; cases hc
    | some d' =>
      rw [hd] at hc; cases hc
      simp only [evC] at hev
      refine wp_block ?_
      split at hev
      · rename_i id' T1 H1 e
        refine wp_mono (ih d' T H _ T1 H1 β a w hd e hs) ?_
        rintro e' a' w' ⟨β', h2, h1, h3⟩
        cases e' <;> simp only [exOk] at h1
        subst h1
        simp only [Exit.inBlock]
        by_cases hq : id' = id
        · simp only [hq, beq_self_eq_true, cond_true] at hev
          cases hev
          rw [if_pos hq]
          exact ⟨β', h2, trivial, h3⟩
        · have : (id' == id) = false := by simpa using hq
          simp only [this, cond_false] at hev
          cases hev
          rw [if_neg hq]
          exact ⟨β', h2, rfl, h3⟩
      · rename_i hnot
        refine wp_mono (ih d' T H ex T' H' β a w hd hev hs) ?_
        rintro e' a' w' ⟨β', h2, h1, h3⟩
        cases ex with
        | normal => cases e' <;> simp only [exOk] at h1; exact ⟨β', h2, trivial, h3⟩
        | exit i => exact absurd hev (hnot i T' H')
        | ret => cases e' <;> simp only [exOk] at h1; exact ⟨β', h2, trivial, h3⟩
        | pan v => cases e' <;> simp only [exOk] at h1; exact ⟨β', h2, h1, h3⟩
  | loop c ih =>
    intro d T H ex T' H' β a w hc hev hs
    simp only [cCode] at hc
    cases hd : cCode P nt c with
    | none => rw [hd] at hc; cases hc
    | some d' =>
      rw [hd] at hc; cases hc
      simp only [evC] at hev
      have key : ∀ m T H β2 a w, β.le β2 → iter (fun T H => evC cl n d' T H) m T H = some (ex, T', H') → Sim B0 w0 ds nt lo β2 T H a w → Code.rounds P c (CPost B0 w0 ds nt lo β ex T' H') m a w := by
        intro m
        induction m with
        | zero => intro T H β2 a w _ h; simp [iter] at h
        | succ m ihm =>
          intro T H β2 a w hle h hs2
          simp only [iter] at h
          rw [rounds_succ]
          split at h
          · rename_i T1 H1 e
            refine wp_mono (ih d' T H _ T1 H1 β2 a w hd e hs2) ?_
            rintro e' a' w' ⟨β3, h2, h1, h3⟩
            cases e' <;> simp only [exOk] at h1
            exact ihm T1 H1 β3 a' w' (Emb.le_trans hle h2) h h3
          · rename_i hnot
            refine wp_mono (ih d' T H ex T' H' β2 a w hd h hs2) ?_
            intro e' a' w' hpost
            have hp := CPost.trans hle hpost
            obtain ⟨β3, q1, q2, q3⟩ := hp
            cases ex with
            | normal => exact absurd h (hnot T' H')
            | exit i => cases e' <;> first | exact ⟨β3, q1, q2, q3⟩ | exact q2.elim
            | ret => cases e' <;> first | exact ⟨β3, q1, q2, q3⟩ | exact q2.elim
            | pan v => cases e' <;> first | exact ⟨β3, q1, q2, q3⟩ | exact q2.elim
      exact wp_loop_rounds n (key n T H β a w (Emb.le_refl β) hev hs)
  | exit id =>
    intro d T H ex T' H' β a w hc hev hs
    simp only [cCode] at hc; cases hc
    simp only [evC] at hev; cases hev
    exact wp_exit ⟨β, Emb.le_refl β, rfl, hs⟩
  | ret =>
    intro d T H ex T' H' β a w hc hev hs
    simp only [cCode] at hc; cases hc
    simp only [evC] at hev; cases hev
    exact wp_ret ⟨β, Emb.le_refl β, trivial, hs⟩
  | scope c ih =>
    intro d T H ex T' H' β a w hc hev hs
    simp only [cCode] at hc
    split at hc
    · refine wp_scope_straight (wp_mono (ih d T H ex T' H' β a w hc hev hs) ?_)
      rintro e a w hp
      cases e <;> first | exact hp | (obtain ⟨β', _, h, _⟩ := hp; cases ex <;> exact h.elim)
    · cases hc; exact (region_stuck hev).elim
  | label l =>
    intro d T H ex T' H' β a w hc hev hs
    simp only [cCode] at hc; cases hc
    simp only [evC] at hev; cases hev
    exact wp_label ⟨β, Emb.le_refl β, trivial, hs⟩
  | rangeFunc f p x y _ _ => intro d T H ex T' H' β a w hc hev; simp only [cCode] at hc; cases hc; exact (region_stuck hev).elim
  | goto l => intro d T H ex T' H' β a w hc hev; simp only [cCode] at hc; cases hc; exact (region_stuck hev).elim
  | refuse s => intro d T H ex T' H' β a w hc hev; simp only [cCode] at hc; cases hc; exact (region_stuck hev).elim

theorem get_ofList {α : Type} : ∀ (l : List α) (k : Nat) (t : Tr α) (i : Nat), (Tr.ofList l k t).get i = if k ≤ i ∧ i < k + l.length then l[i - k]? else t.get i := by
  intro l
  induction l with
  | nil => intro k t i; simp [Tr.ofList]; omega
  | cons x l ih =>
    intro k t i
    simp only [Tr.ofList, ih, Tr.get_set, List.length_cons]
    by_cases h1 : k + 1 ≤ i ∧ i < k + 1 + l.length
    · rw [if_pos h1, if_pos (by omega), show i - k = i - (k + 1) + 1 by omega]; rfl
    · rw [if_neg h1]
      by_cases h2 : k = i
      · subst h2; simp
      · rw [if_neg h2, if_neg (by omega)]

theorem entry_tr {β : Emb} {args : List Value} {args' : Array Value} (h : VRs β args args'.toList) (n : Nat) : TR β (Tr.ofList args 0 .nil) ⟨args' ++ Array.replicate n undef, []⟩ := by
  intro t
  have hl := h.1
  simp only [Array.length_toList] at hl
  simp only [rd, get_ofList]
  by_cases ht : t < args.length
  · rw [if_pos (by omega), Nat.sub_zero]
    obtain ⟨v', h1, h2⟩ := h.2 t args[t] (List.getElem?_eq_getElem ht)
    rw [List.getElem?_eq_getElem ht]
    rw [Array.getElem?_toList] at h1
    have : (args' ++ Array.replicate n undef)[t]? = some v' := by rw [Array.getElem?_append_left (by omega)]; exact h1
    simpa [this] using h2
  · rw [if_neg (by omega)]
    have : (args' ++ Array.replicate n undef).getD t undef = undef := by
      simp only [Array.getD_eq_getD_getElem?]
      rw [Array.getElem?_append_right (by omega)]
      cases hq : (Array.replicate n undef)[t - args'.size]? with
      | none => rfl
      | some u =>
        rw [Array.getElem?_replicate] at hq
        split at hq <;> cases hq
        rfl
    show VR β undef ((args' ++ Array.replicate n undef).getD t undef)
    rw [this]; exact .undef β

def resOne (tmps : Array Value) : ResultVar → Sem Value
  | .tmp t => pure (tmps.getD t undef)
  | .cell a t => do loadVar t (← asAddr (tmps.getD a undef))

theorem results_eq (fn : Func) (tmps : Array Value) : results fn tmps = (do
    let vs ← fn.results.mapM (resOne tmps)
    pure (if h : vs.size = 1 then vs[0] else .tuple vs)) := rfl

theorem res_sim {nt lo : Nat} {β : Emb} {T : Tr Value} {H : Heap} {a : Act} {w : World} (hs : Sim B0 w0 ds nt lo β T H a w) : ∀ (l : List ResultVar) (rs : List Res) (vs : List Value), cRes P l = some rs → evRes T H rs = some vs →
    ∃ vs', (l.mapM (resOne a.tmps)).run P w = .ok vs' w ∧ VRs β vs vs' := by
  intro l
  induction l with
  | nil => intro rs vs h1 h2; simp [cRes] at h1; subst h1; simp [evRes] at h2; subst h2; exact ⟨[], rfl, .nil β⟩
  | cons x l ih =>
    intro rs vs h1 h2
    cases x with
    | tmp t =>
      simp only [cRes] at h1
      cases hr : cRes P l with
      | none => rw [hr] at h1; cases h1
      | some r =>
        rw [hr] at h1; cases h1
        simp only [evRes] at h2
        cases hv : evRes T H r with
        | none => rw [hv] at h2; cases h2
        | some vs0 =>
          rw [hv] at h2; cases h2
          obtain ⟨vs', g1, g2⟩ := ih r vs0 hr hv
          refine ⟨a.tmps.getD t undef :: vs', ?_, .cons (hs.tr t) g2⟩
          simp only [List.mapM_cons, Sem.run_bind, Sem.run_pure, Result.andThen_ok, g1, resOne]
    | cell x t =>
      simp only [cRes] at h1
      split at h1
      case h_2 => cases h1
      rename_i d n r hu hsz hr
      cases h1
      simp only [evRes] at h2
      split at h2
      case h_2 => cases h2
      rename_i v vs0 hv hvs
      cases h2
      obtain ⟨vs', g1, g2⟩ := ih r vs0 hr hvs
      have hx := hs.tr x
      obtain ⟨v', k1, k2⟩ := load_sim' (P := P) hs.rel hu hsz hv hx
      have hp : ∃ ad, a.tmps.getD x undef = .pointer (some ad) := by
        unfold Heap.loadv at hv
        split at hv
        case h_2 => cases hv
        rename_i id off hq
        rw [hq] at hx
        generalize a.tmps.getD x undef = r0 at hx
        cases hx
        exact ⟨_, rfl⟩
      obtain ⟨ad, hp⟩ := hp
      rw [hp] at k1
      simp only [Instr.loadAt, Instr.sureAddr, Sem.run_bind, Sem.run_pure, Result.andThen_ok] at k1
      refine ⟨v' :: vs', ?_, .cons k2 g2⟩
      have hone : (resOne a.tmps (.cell x t)).run P w = .ok v' w := by
        simp only [resOne, hp, asAddr, Sem.run_bind, Sem.run_pure, Result.andThen_ok, k1]
      simp only [List.mapM_cons, Sem.run_bind, hone, Sem.run_pure, Result.andThen_ok, g1]

theorem pack_sim {β : Emb} {vs vs' : List Value} (h : VRs β vs vs') : VR β (packRes vs) (if h : vs'.toArray.size = 1 then vs'.toArray[0] else .tuple vs'.toArray) := by
  have hl := h.1
  cases vs with
  | nil =>
    have : vs' = [] := List.length_eq_zero_iff.1 (by simpa using hl.symm)
    subst this
    exact .tuple' (.nil β)
  | cons v l =>
    cases l with
    | nil =>
      obtain ⟨v', h1, h2⟩ := h.2 0 v rfl
      cases vs' with
      | nil => simp at h1
      | cons u l' =>
        have : l' = [] := List.length_eq_zero_iff.1 (by simp at hl; simpa using hl)
        subst this
        simp at h1; subst h1
        exact h2
    | cons u l =>
      have hne : ¬ (vs'.toArray.size = 1) := by simp at hl ⊢; omega
      rw [dif_neg hne]
      exact .tuple' (by simpa [packRes] using h)

def TabOk (P : Program) (Γ : Nat → Option FnI) : Prop := ∀ f F, Γ f = some F → ∃ fn, P.funcs[f]? = some fn ∧ cFn P fn = some F

/-- Tb: what is asked of the memory at the call. -/
def KnownAt (P : Program) (Tb : Bs → World → Prop) (f : Nat) (args : List Value) (H : Heap) (v : Value) (n : Nat) : Prop :=
  CallOk P f ∧ H.size ≤ n ∧ ∀ (B0 : Bs) (w0 : World) (β : Emb) (w : World) (args' : Array Value), P.globals.size ≤ B0.g → Tb B0 w0 → WRel B0 w0 β H w → VRs β args args'.toList →
    Calls P f args' w (fun e w' => ∃ β' v', e = .returned v' ∧ β.le β' ∧ WRel B0 w0 β' (H.upto n) w' ∧ VR β' v v')

def OvOk (P : Program) (Tb : Bs → World → Prop) (ov : Known) : Prop := ∀ f args H v n, ov f args H = some (v, n) → KnownAt P Tb f args H v n
abbrev Tb0 : Bs → World → Prop := fun _ _ => True

/-- What is known of calls, and that it speaks of no pending number. -/
structure OvGood (ov : Known) : Prop where
  put : OvPut ov
  no : ∀ f args H j o, ov f args H = none → H.get j = some .pend → j < H.size → ov f args (H.put j o) = none

theorem vr_noPan {β : Emb} {v v' : Value} (h : VR β v v') : isPan v = none := by
  cases hp : isPan v with
  | none => rfl
  | some u =>
    exfalso
    unfold isPan at hp
    split at hp
    · rename_i a
      split at hp
      · rename_i x hx
        cases h with
        | tuple c c' hc gc =>
          have h0 := (vrs_of_arr hc gc).2 0 (.chan (some 1)) (by rw [hx]; rfl)
          obtain ⟨y, _, hy⟩ := h0
          cases hy
      · cases hp
    · cases hp

theorem cFn_spec {fn : Func} {F : FnI} (h : cFn P fn = some F) : ¬ fn.name = "runtime.NumGoroutine" ∧ (dfrOf P fn.ntmps fn = some F ∨ rcvOf P fn.ntmps fn = some F ∨ ∃ c c' r, fn.body = some c ∧ cCode P fn.ntmps c = some c' ∧ cRes P fn.results.toList = some r ∧ F = ⟨r, c', none, none⟩) := by
  unfold cFn at h
  split at h
  · cases h
  rename_i hname
  refine ⟨by simpa using hname, ?_⟩
  split at h
  · rename_i i hi; cases h; exact .inl hi
  split at h
  · rename_i i hi; cases h; exact .inr (.inl hi)
  split at h
  · cases h
  rename_i c hb
  split at h
  case h_2 => cases h
  rename_i c' r hc hr
  cases h
  exact .inr (.inr ⟨c, c', r, hb, hc, hr, rfl⟩)

theorem dfrOf_spec {nt : Nat} {fn : Func} {F : FnI} (h : dfrOf P nt fn = some F) : ∃ a id ops rest o c f f' a' l n rest' r, fn.body = some (.seq a (.seq (.region id ops false) rest)) ∧ ops.toList.getLast? = some o ∧ o.guard = none ∧ o.dst = none ∧ o.op = .defer c ∧ c.callee = .value f ∧ c.args.toList = [] ∧
    cOpd P f = some f' ∧ cCode P nt a = some a' ∧ cList P nt ops.toList 0 0 ops.toList.dropLast = some (l, n) ∧ cCode P nt rest = some rest' ∧ cRes P fn.results.toList = some r ∧ F = ⟨r, .seq a' (.region n l), some (f', rest'), none⟩ := by
  unfold dfrOf at h
  split at h
  case h_2 => cases h
  rename_i a id ops rest hb
  split at h
  case h_2 => cases h
  rename_i o ho
  split at h
  case h_2 => cases h
  rename_i c hg hd hop
  split at h
  case h_2 => cases h
  rename_i f hf hargs
  split at h
  case h_2 => cases h
  rename_i f' a' l n rest' r h1 h2 h3 h4 h5
  cases h
  exact ⟨a, id, ops, rest, o, c, f, f', a', l, n, rest', r, hb, ho, hg, hd, hop, hf, hargs, h1, h2, h3, h4, h5, rfl⟩

theorem rcvOf_spec {nt : Nat} {fn : Func} {F : FnI} (h : rcvOf P nt fn = some F) : ∃ id ops rest o l d c is n rest' r, fn.body = some (.seq (.region id ops false) rest) ∧ ops.toList = o :: l ∧ o.guard = none ∧ o.dst = some d ∧ o.op = .call c ∧ c.callee = .builtin .recover ∧ d < nt ∧
    cList P nt ops.toList 1 0 l = some (is, n) ∧ cCode P nt rest = some rest' ∧ cRes P fn.results.toList = some r ∧ F = ⟨r, .seq (.region n is) rest', none, some d⟩ := by
  unfold rcvOf at h
  split at h
  case h_2 => cases h
  rename_i id ops rest hb
  split at h
  case h_2 => cases h
  rename_i o l hol
  split at h
  case h_2 => cases h
  rename_i d c hg hd hop
  split at h
  case h_2 => cases h
  rename_i hcal
  split at h
  case isFalse => cases h
  rename_i hdn
  split at h
  case h_2 => cases h
  rename_i is n rest' r h1 h2 h3
  cases h
  exact ⟨id, ops, rest, o, l, d, c, is, n, rest', r, hb, hol, hg, hd, hop, hcal, hdn, h1, h2, h3, rfl⟩

theorem results_run {nt lo : Nat} {β : Emb} {T : Tr Value} {H : Heap} {a : Act} {w : World} {fn : Func} {r : List Res} {vs : List Value} (hs : Sim B0 w0 ds nt lo β T H a w) (hr : cRes P fn.results.toList = some r) (hv : evRes T H r = some vs) :
    ∃ v', (results fn a.tmps).run P w = .ok v' w ∧ VR β (packRes vs) v' := by
  obtain ⟨vs', g1, g2⟩ := res_sim hs fn.results.toList r vs hr hv
  refine ⟨_, ?_, pack_sim g2⟩
  rw [results_eq, Array.mapM_eq_mapM_toList]
  simp only [Sem.run_bind, Sem.run_map, g1, Result.andThen_ok]
  rfl

theorem wpOpsS_of {ops : Array Oper} {Q : Exit → Act → List Frame → World → Prop} {cs : List Frame} (hno : ∀ a w, ¬ Q .outgrown a cs w) : ∀ (l : List Nat) (a : Act) (w : World), wpOps P ops (fun e a w => Q e a cs w) l a w → wpOpsS P ops Q l a cs w := by
  intro l
  induction l with
  | nil => intro a w h; exact h
  | cons i l ih =>
    intro a w h
    simp only [wpOps] at h
    simp only [wpOpsS]
    cases ho : ops[i]? with
    | none => simp only [ho] at h; exact ih a w h
    | some o =>
      simp only [ho] at h ⊢
      split
      · rename_i hw
        simp only [hw, if_true] at h
        rcases h with h | ⟨_, a', w', h2⟩
        · unfold Oper.wp at h
          split
          · rename_i w' hr
            rw [hr] at h
            exact h.elim
          · rename_i r hnot
            exact upon_mono' (fun a w h => ih a w h) (fun _ _ _ h => h) h
        · exact (hno _ _ h2).elim
      · rename_i hw
        simp only [hw] at h
        exact ih _ _ h

/-- A deferred closure that recovers. -/
theorem rcv_sim (hcl : ClOkP P B0 w0 cl) (hgd : ClGood cl) (hm : P.follows .mixedOrders = true) {g k : Nat} {fn : Func} {F : FnI} {d : Nat} (hfn : P.funcs[g]? = some fn) (hF : rcvOf P fn.ntmps fn = some F) (hrd : F.recv = some d) {as : List Value} {pv : Value} {H H' : Heap} {ex : Ex} {T' : Tr Value} (hres : F.res = [])
    (hex : ex = .normal ∨ ex = .ret) (hev : evC cl k F.body ((Tr.ofList as 0 .nil).set d pv) H = some (ex, T', H')) {β : Emb} {w : World} {args' : Array Value} (hR : WRel B0 w0 β H w) (hargs : VRs β as args'.toList) {u : FrameMode}
    (hu : (u = .returning ∧ pv = .nilIface) ∨ ∃ v', u = .panicking [{ v := v', recovered := false }] ∧ VR β pv v') :
    CallsD P g args' u w fun e u' w' => ∃ β' v', e = .returned v' ∧ settle u' = .returning ∧ β.le β' ∧ WRel B0 w0 β' H' w' := by
  obtain ⟨id, ops, rest, o, l, d', c, is, n, rest', r, hb, hol, hg, hd, hop, hcal, hdn, h1, h2, h3, rfl⟩ := rcvOf_spec hF
  obtain rfl : d' = d := by simpa using hrd
  simp only at hres hev
  subst hres
  have hal := hargs.1
  simp only [Array.length_toList] at hal
  refine callsD_of_wpS hfn hb (fun c₀ cs hm0 => ?_)
  -- what is recovered
  obtain ⟨v', u', hrec, hset, hpv⟩ : ∃ v' u', (recoverD (c₀ :: cs) = some (v', { c₀ with mode := u' } :: cs) ∨ (recoverD (c₀ :: cs) = none ∧ v' = .nilIface ∧ u' = c₀.mode)) ∧ settle u' = .returning ∧ VR β pv v' := by
    rcases hu with ⟨rfl, rfl⟩ | ⟨v', rfl, hv⟩
    · exact ⟨.nilIface, c₀.mode, .inr ⟨by simp [recoverD, hm0], rfl, rfl⟩, by rw [hm0]; rfl, .nili⟩
    · exact ⟨v', .panicking [{ v := v', recovered := true }], .inl (by simp [recoverD, hm0]), rfl, hv⟩
  have hops0 : ops[0]? = some o := by rw [← Array.getElem?_toList, hol]; rfl
  have hsz : ops.size = l.length + 1 := by rw [← Array.length_toList, hol]; rfl
  refine wpS_seq (wpS_region ?_)
  rw [List.range_eq_range', hsz, List.range'_succ]
  simp only [wpOpsS, hops0]
  have hwant : Region.wanted o (yielded ops (args' ++ Array.replicate (fn.ntmps - args'.size) undef)) = true := by simp [Region.wanted, hg]
  simp only [hwant, if_true]
  have hrun : (execOp (Act.eval ⟨args' ++ Array.replicate (fn.ntmps - args'.size) undef, []⟩) o).run P w = .ok .recover w := by
    obtain ⟨callee, cargs, argTypes⟩ := c
    simp only at hcal
    subst hcal
    simp [execOp, hop, resolve, invoke, builtin]
  rw [hrun]
  simp only
  -- behind the recovering
  have after : ∀ cs', cs' = { c₀ with mode := u' } :: cs → wpOpsS P ops (Exit.thenS (rest.wpS P (bodyPostS P fn c₀ cs fun e u' w' => ∃ β' v', e = .returned v' ∧ settle u' = .returning ∧ β.le β' ∧ WRel B0 w0 β' H' w')) (bodyPostS P fn c₀ cs fun e u' w' => ∃ β' v', e = .returned v' ∧ settle u' = .returning ∧ β.le β' ∧ WRel B0 w0 β' H' w')) (List.range' (0 + 1) l.length)
      ((⟨args' ++ Array.replicate (fn.ntmps - args'.size) undef, []⟩ : Act).put o.dst v') cs' w := by
    intro cs' hcs'
    refine wpOpsS_of (fun a w h => ?_) _ _ _ ?_
    · obtain ⟨_, _, _, h, _⟩ := h
      cases h
    simp only [evC_seq'] at hev
    split at hev
    rotate_left
    · rename_i hnot
      have := evC_region_normal hev
      subst this
      exact absurd hev (hnot _ _)
    rename_i T1 H1 e1
    simp only [evC] at e1
    split at e1
    case h_2 => cases e1
    rename_i fin hseq
    cases e1
    obtain ⟨_, g2, g3⟩ := cList_spec (ops := ops) l 1 0 is n h1 (fun j => by
      rw [← Array.getElem?_toList, hol, Nat.add_comm 1 j, List.getElem?_cons_succ])
    have hs0 : Sim B0 w0 [] fn.ntmps H.size β ((Tr.ofList as 0 .nil).set d' pv) H ((⟨args' ++ Array.replicate (fn.ntmps - args'.size) undef, []⟩ : Act).put o.dst v') w := by
      refine ⟨hR, ?_, by rw [size_put]; simp; omega, Nat.le_refl _, by rw [defers_put]⟩
      rw [hd]
      exact TR.put (d := some d') (entry_tr hargs _) (fun t ht => by cases ht; exact Nat.lt_of_lt_of_le (show (d' : Nat) < fn.ntmps from hdn) (by simp only [Array.size_append, Array.size_replicate]; omega)) hpv
    have := seq_sim (Q := fun e a w => Exit.thenS (rest.wpS P (bodyPostS P fn c₀ cs fun e u' w' => ∃ β' v', e = .returned v' ∧ settle u' = .returning ∧ β.le β' ∧ WRel B0 w0 β' H' w')) (bodyPostS P fn c₀ cs fun e u' w' => ∃ β' v', e = .returned v' ∧ settle u' = .returning ∧ β.le β' ∧ WRel B0 w0 β' H' w') e a cs' w) (rest := []) hcl.noP is 1 ⟨_, Heap.ext n H, .nil⟩ β _ w (fun j i h => by obtain ⟨k1, k2⟩ := g3 j i h; exact ⟨k1, k2⟩) hseq
      ⟨⟨hs0.rel.toRel.ext n, hs0.rel.os, hs0.rel.tape, hs0.rel.output⟩, hs0.tr, hs0.nt, by rw [Heap.size_ext]; exact Nat.le_refl _, hs0.df⟩ (fun β1 a1 w1 hle1 hs1 => by
        show rest.wpS P _ a1 cs' w1
        refine wpS_of_wp (wp_mono (sim_C hcl hgd hm rest rest' _ _ ex T' H' β1 a1 w1 h2 hev hs1) ?_)
        rintro e2 a2 w2 ⟨β2, q1, q2, q3⟩
        obtain ⟨x, hx, _⟩ := results_run q3 h3 (vs := []) rfl
        have fin : a2.defers = [] ∧ ∃ u'', cs' = { c₀ with mode := u'' } :: cs ∧ ∃ v, (results fn a2.tmps).run P w2 = .ok v w2 ∧ ∃ β' v', Ending.returned v = .returned v' ∧ settle u'' = .returning ∧ β.le β' ∧ WRel B0 w0 β' H' w2 :=
          ⟨q3.df, u', hcs', x, hx, β2, x, rfl, hset, Emb.le_trans hle1 q1, q3.rel⟩
        rcases hex with rfl | rfl
        · cases e2 <;> simp only [exOk] at q2; exact fin
        · cases e2 <;> simp only [exOk] at q2; exact fin)
    rw [g2, List.append_nil] at this
    exact this
  rcases hrec with hr | ⟨hr, rfl, rfl⟩
  · rw [hr]
    exact after _ rfl
  · rw [hr]
    exact after _ rfl

theorem evD_spec {Γ : Nat → Option FnI} {k : Nat} {c pv : Value} {H H' : Heap} (h : evD Γ cl k c pv H = some H') : ∃ g first captured gn d ex T, c = .func (.func g) first captured ∧ Γ g = some gn ∧ gn.dfr = none ∧ gn.recv = some d ∧ gn.res = [] ∧ (ex = Ex.normal ∨ ex = Ex.ret) ∧
    evC cl k gn.body ((Tr.ofList (first.toList ++ captured.toList) 0 .nil).set d pv) H = some (ex, T, H') := by
  unfold evD at h
  split at h
  case h_2 => cases h
  rename_i g first captured
  split at h
  case h_2 => cases h
  rename_i gn hgn
  split at h
  case h_2 => cases h
  rename_i d h1 h2 h3
  split at h
  · rename_i T X e; cases h; exact ⟨g, first, captured, gn, d, .normal, T, rfl, hgn, h1, h2, h3, .inl rfl, e⟩
  · rename_i T X e; cases h; exact ⟨g, first, captured, gn, d, .ret, T, rfl, hgn, h1, h2, h3, .inr rfl, e⟩
  · cases h

theorem callOk_of {g : Nat} {fn : Func} {c : Code} (hfn : P.funcs[g]? = some fn) (hb : fn.body = some c) (hne : ¬ fn.name = "runtime.NumGoroutine") : CallOk P g := fun args w => by simp [callFunc, hfn, hne, hb]

/-- A function that defers a closure. -/
theorem dfr_sim (hm : P.follows .mixedOrders = true) {Γ : Nat → Option FnI} (hΓ : TabOk P Γ) (hcl : ClOkP P B0 w0 cl) (hgd : ClGood cl) {g k : Nat} {fn : Func} {F : FnI} (hfn : P.funcs[g]? = some fn) (hF : dfrOf P fn.ntmps fn = some F) {c : Opd} {rest0 : Cd} (hd : F.dfr = some (c, rest0)) {args : List Value} {T1 T2 : Tr Value} {H H1 H2 H3 : Heap} {ex : Ex} {pv v : Value}
    (e1 : evC cl k F.body (Tr.ofList args 0 .nil) H = some (.normal, T1, H1)) (e2 : evC cl k rest0 T1 H1 = some (ex, T2, H2)) (hex : (ex = .normal ∧ pv = .nilIface) ∨ (ex = .ret ∧ pv = .nilIface) ∨ ex = .pan pv) (e3 : evD Γ cl k (c.ev T1) pv H2 = some H3) {H' : Heap} (e4 : evR F.res T2 H3 = some (v, H'))
    {β : Emb} {w : World} {args' : Array Value} (hR : WRel B0 w0 β H w) (hargs : VRs β args args'.toList) : Calls P g args' w (fun e w' => ∃ β', EndR β' v e ∧ β.le β' ∧ WRel B0 w0 β' H' w') := by
  obtain ⟨a, id, ops, rest, o, k0, f, f', a', l, n, rest', r, hb, ho, hg, hdst, hop, hcal, hcargs, h1, h2, h3, h4, h5, rfl⟩ := dfrOf_spec hF
  simp only [Option.some.injEq, Prod.mk.injEq] at hd
  obtain ⟨rfl, rfl⟩ := hd
  simp only at e1 e4
  obtain ⟨g2, first, captured, gn, d, ex2, T3, hc, hgn, q1, q2, q3, hex2, e5⟩ := evD_spec e3
  obtain ⟨fn2, hfn2, hcf2⟩ := hΓ g2 gn hgn
  obtain ⟨hne2, hk2⟩ := cFn_spec hcf2
  have hrcv : rcvOf P fn2.ntmps fn2 = some gn := by
    rcases hk2 with h | h | ⟨_, _, _, _, _, _, rfl⟩
    · obtain ⟨_, _, _, _, _, _, _, _, _, _, _, _, _, _, _, _, _, _, _, _, _, _, _, _, _, rfl⟩ := dfrOf_spec h
      cases q1
    · exact h
    · cases q2
  have hok2 : CallOk P g2 := by
    obtain ⟨_, _, _, _, _, _, _, _, _, _, _, hb2, _⟩ := rcvOf_spec hrcv
    exact callOk_of hfn2 hb2 hne2
  have hl := hargs.1
  simp only [Array.length_toList] at hl
  have hs : Sim B0 w0 [] fn.ntmps H.size β (Tr.ofList args 0 .nil) H ⟨args' ++ Array.replicate (fn.ntmps - args'.size) undef, []⟩ w :=
    ⟨hR, entry_tr hargs _, by simp; omega, Nat.le_refl _, rfl⟩
  simp only [evC_seq'] at e1
  split at e1
  rotate_left
  · rename_i hnot
    exact absurd e1 (hnot _ _)
  rename_i Ta Ha ea
  refine calls_of_wp_defers hfn hb (wp_seq (wp_mono (sim_C hcl hgd hm a a' _ H _ Ta Ha β _ w h2 ea hs) ?_))
  rintro x1 a1 w1 ⟨β1, le1, hx1, hs1⟩
  cases x1 <;> simp only [exOk] at hx1
  show (Code.seq (.region id ops false) rest).wp P _ a1 w1
  refine wp_seq (wp_region ?_)
  have hsz : ops.toList.length = ops.size := by simp
  have hne : 0 < ops.size := by
    rw [← hsz]
    cases hq : ops.toList with
    | nil => rw [hq] at ho; simp at ho
    | cons x l => simp
  have ho' : ops[ops.size - 1]? = some o := by
    rw [List.getLast?_eq_getElem?, hsz, Array.getElem?_toList] at ho; exact ho
  obtain ⟨_, g2', g3⟩ := cList_spec' ops.toList.dropLast 0 0 l n h3 (fun j => by
    by_cases h : j < ops.size - 1
    · simp [List.getElem?_dropLast, h]
    · simp [List.getElem?_dropLast, h])
  simp only [evC] at e1
  split at e1
  case h_2 => cases e1
  rename_i fin hseq
  cases e1
  have hrange : List.range ops.size = List.range' 0 l.length ++ [ops.size - 1] := by
    rw [g2']
    simp only [List.length_dropLast, hsz]
    rw [List.range_eq_range', show ops.size = (ops.size - 1) + 1 by omega, List.range'_1_concat]
    simp
  rw [hrange]
  refine seq_sim hcl.noP l 0 ⟨Ta, Heap.ext n Ha, .nil⟩ β1 a1 w1 (fun j i h => by obtain ⟨k1, k2⟩ := g3 j i h; exact ⟨k1, k2⟩) hseq
    ⟨⟨hs1.rel.toRel.ext n, hs1.rel.os, hs1.rel.tape, hs1.rel.output⟩, hs1.tr, hs1.nt, by rw [Heap.size_ext]; exact Nat.le_refl _, hs1.df⟩ (fun β2 a2 w2 le2 hs2 => ?_)
  -- the closure is deferred
  have hgl : ∀ g, g < P.globals.size → ∃ n, β2 g = some ⟨g, 0, n⟩ := fun g hg => hs2.rel.gl g (Nat.lt_of_lt_of_le hg hcl.g)
  have gf := hs2.tr.opd hgl f f' h1
  rw [hc] at gf
  obtain ⟨first2, cap2, hev2, gfa⟩ : ∃ first2 cap2, a2.eval f = .func (.func g2) first2 cap2 ∧ VRs β2 (first.toList ++ captured.toList) (first2 ++ cap2).toList := by
    cases hq2 : a2.eval f <;> rw [hq2] at gf <;> try (cases gf; done)
    rename_i fn3 first2 cap2
    cases gf with
    | func _ _ _ _ _ s1 s2 t1 t2 => exact ⟨first2, cap2, rfl, by rw [Array.toList_append]; exact (vrs_of_arr s1 t1).append (vrs_of_arr s2 t2)⟩
  rw [wpOps_cons]
  unfold wpOp
  have hwant : Region.wanted o (yielded ops a2.tmps) = true := by simp [Region.wanted, hg]
  simp only [ho', hwant, if_true]
  refine .inl ?_
  have hrun : (execOp a2.eval o).run P w2 = .ok (.defer { target := .fn (.func g2) cap2, args := first2 }) w2 := by
    obtain ⟨callee, cargs, argTypes⟩ := k0
    simp only at hcal hcargs
    subst hcal
    have : cargs = #[] := by rw [← Array.toList_inj]; simpa using hcargs
    subst this
    simp [execOp, hop, resolve, Deferred.ofValue, hev2]
  unfold Oper.wp
  rw [hrun, Oper.upon_defer, hdst]
  show wpOps P ops _ [] { a2 with defers := { target := .fn (.func g2) cap2, args := first2 } :: a2.defers } w2
  show rest.wp P _ { a2 with defers := { target := .fn (.func g2) cap2, args := first2 } :: a2.defers } w2
  have hs3 : Sim B0 w0 [{ target := .fn (.func g2) cap2, args := first2 }] fn.ntmps (Ha.size + n) β2 fin.T fin.H { a2 with defers := { target := .fn (.func g2) cap2, args := first2 } :: a2.defers } w2 :=
    ⟨hs2.rel, hs2.tr, hs2.nt, hs2.sz, by rw [hs2.df]⟩
  refine wp_mono (sim_C hcl hgd hm rest rest' _ _ ex T2 H2 β2 _ w2 h4 e2 hs3) ?_
  rintro x4 a4 w4 ⟨β4, le4, hx4, hs4⟩
  have main : ∀ u, u ≠ .run → ((u = .returning ∧ pv = .nilIface) ∨ ∃ v', u = .panicking [{ v := v', recovered := false }] ∧ VR β4 pv v') →
      Leaves P fn a4.tmps (fun e w' => ∃ β', EndR β' v e ∧ β.le β' ∧ WRel B0 w0 β' H' w') a4.defers u w4 := by
    intro u hur hu
    rw [hs4.df]
    have hinv : (invoke (.fn (.func g2) cap2) first2).run P w4 = .ok (.enter g2 (first2 ++ cap2)) w4 := by
      simp only [invoke]
      exact hok2 _ _
    refine leaves_cons hur hinv ?_
    refine (rcv_sim hcl hgd hm hfn2 hrcv q2 q3 hex2 e5 hs4.rel (gfa.mono le4) hu).mono ?_
    rintro e u' w' ⟨β5, v5, rfl, hset, le5, hR5⟩
    show Leaves P fn a4.tmps _ [] (settle u') w'
    rw [hset]
    simp only [evR, Option.map_eq_some_iff, Prod.mk.injEq] at e4
    obtain ⟨vs, hvs, rfl, rfl⟩ := e4
    have hs5 : Sim B0 w0 _ fn.ntmps 0 β5 T2 H3 a4 w' := ⟨hR5, hs4.tr.mono le5, hs4.nt, Nat.zero_le _, hs4.df⟩
    obtain ⟨v', hrun', hv'⟩ := results_run hs5 h5 hvs
    refine ⟨v', hrun', β5, ?_, Emb.le_trans le1 (Emb.le_trans le2 (Emb.le_trans le4 le5)), hR5⟩
    unfold EndR
    rw [vr_noPan hv']
    exact ⟨v', rfl, hv'⟩
  rcases hex with ⟨rfl, rfl⟩ | ⟨rfl, rfl⟩ | rfl
  · cases x4 <;> simp only [exOk] at hx4
    exact main .returning (by simp) (.inl ⟨rfl, rfl⟩)
  · cases x4 <;> simp only [exOk] at hx4
    exact main .returning (by simp) (.inl ⟨rfl, rfl⟩)
  · cases x4 <;> simp only [exOk] at hx4
    obtain ⟨v', rfl, hv⟩ := hx4
    exact main (.panicking [{ v := v', recovered := false }]) (by simp) (.inr ⟨v', rfl, hv⟩)

theorem sim_F (hm : P.follows .mixedOrders = true) {Γ : Nat → Option FnI} (hΓ : TabOk P Γ) {Tb : Bs → World → Prop} {ov : Known} (hov : OvOk P Tb ov) (hog : OvGood ov) (hG : P.globals.size ≤ B0.g) (htb : Tb B0 w0) : ∀ k, ClOkP P B0 w0 (evF Γ ov k) := by
  intro k
  induction k with
  | zero => exact ⟨hG, fun g args H v H' h => by simp [evF] at h⟩
  | succ k ih =>
    refine ⟨hG, ?_⟩
    intro g args H v H' h
    have hgd : ClGood (evF Γ ov k) := good_F hog.put hog.no k
    have hsize := (good_F (Γ := Γ) hog.put hog.no (k + 1)).size _ _ _ _ _ h
    simp only [evF] at h
    split at h
    · rename_i u n hu
      cases h
      obtain ⟨k1, k2, k3⟩ := hov _ _ _ _ _ hu
      refine ⟨k1, k2, fun β w args' hR ha => (k3 B0 w0 β w args' hG htb hR ha).mono ?_⟩
      rintro e w' ⟨β', v', rfl, h1, h2, h3⟩
      refine ⟨β', ?_, h1, h2⟩
      unfold EndR
      rw [vr_noPan h3]
      exact ⟨v', rfl, h3⟩
    unfold evB at h
    split at h
    · cases h
    rename_i F hF
    obtain ⟨fn, hfn, hcf⟩ := hΓ g F hF
    obtain ⟨hne, hk⟩ := cFn_spec hcf
    split at h
    · cases h
    rename_i hrecv
    rcases hk with hk | hk | ⟨c, c', r, hb, hc, hr, rfl⟩
    · obtain ⟨a0, id0, ops0, rest0, o0, k0, f0, f0', a0', l0, n0, rest0', r0, hb, _, _, _, _, _, _, _, _, _, _, _, hF0⟩ := dfrOf_spec hk
      refine ⟨callOk_of hfn hb hne, hsize, fun β w args' hR hargs => ?_⟩
      split at h
      · rename_i hd; rw [hF0] at hd; cases hd
      · rename_i c rest hd
        split at h
        case h_2 => cases h
        rename_i T1 H1 e1
        split at h
        case h_4 => cases h
        · rename_i T2 H2 e2
          split at h
          case h_2 => cases h
          rename_i H3 e3
          exact dfr_sim hm hΓ ih hgd hfn hk hd e1 e2 (.inl ⟨rfl, rfl⟩) e3 h hR hargs
        · rename_i T2 H2 e2
          split at h
          case h_2 => cases h
          rename_i H3 e3
          exact dfr_sim hm hΓ ih hgd hfn hk hd e1 e2 (.inr (.inl ⟨rfl, rfl⟩)) e3 h hR hargs
        · rename_i pv T2 H2 e2
          split at h
          case h_2 => cases h
          rename_i H3 e3
          exact dfr_sim hm hΓ ih hgd hfn hk hd e1 e2 (.inr (.inr rfl)) e3 h hR hargs
    · obtain ⟨_, _, _, _, _, _, _, _, _, _, _, _, _, _, _, _, _, _, _, _, _, rfl⟩ := rcvOf_spec hk
      cases hrecv
    · refine ⟨callOk_of hfn hb hne, hsize, fun β w args' hR hargs => calls_of_wp hfn hb ?_⟩
      have hl := hargs.1
      simp only [Array.length_toList] at hl
      have hs : Sim B0 w0 [] fn.ntmps H.size β (Tr.ofList args 0 .nil) H ⟨args' ++ Array.replicate (fn.ntmps - args'.size) undef, []⟩ w :=
        ⟨hR, entry_tr hargs _, by simp; omega, Nat.le_refl _, rfl⟩
      simp only at h
      have fin : ∀ ex T H1, evC (evF Γ ov k) k c' (Tr.ofList args 0 .nil) H = some (ex, T, H1) → (ex = .normal ∨ ex = .ret) → evR r T H1 = some (v, H') →
          c.wp P (bodyPost P fn fun e w' => ∃ β', EndR β' v e ∧ β.le β' ∧ WRel B0 w0 β' H' w') ⟨args' ++ Array.replicate (fn.ntmps - args'.size) undef, []⟩ w := by
        intro ex T H1 he hx hres
        refine wp_mono (sim_C ih hgd hm c c' _ H ex T H1 β _ w hc he hs) ?_
        rintro e' a' w' ⟨β', h2, h1, h3⟩
        simp only [evR, Option.map_eq_some_iff, Prod.mk.injEq] at hres
        obtain ⟨vs, hvs, rfl, rfl⟩ := hres
        obtain ⟨v', hrun, hv'⟩ := results_run h3 hr hvs
        have hpost : a'.defers = [] ∧ ∃ v0, (results fn a'.tmps).run P w' = .ok v0 w' ∧ ∃ β', EndR β' (packRes vs) (.returned v0) ∧ β.le β' ∧ WRel B0 w0 β' H1 w' :=
          ⟨h3.df, v', hrun, β', by unfold EndR; rw [vr_noPan hv']; exact ⟨v', rfl, hv'⟩, h2, h3.rel⟩
        rcases hx with rfl | rfl
        · cases e' <;> simp only [exOk] at h1; exact hpost
        · cases e' <;> simp only [exOk] at h1; exact hpost
      split at h
      · rename_i T H1 e; exact fin _ _ _ e (.inl rfl) h
      · rename_i T H1 e; exact fin _ _ _ e (.inr rfl) h
      · rename_i u T H1 e
        cases h
        refine wp_mono (sim_C ih hgd hm c c' _ H _ T H' β _ w hc e hs) ?_
        rintro e' a' w' ⟨β', h2, h1, h3⟩
        cases e' <;> simp only [exOk] at h1
        obtain ⟨v', rfl, hv⟩ := h1
        exact ⟨h3.df, β', ⟨v', rfl, hv⟩, h2, h3.rel⟩
      · cases h

/-! ### what is known of calls -/
def scal : Value → Bool
  | .bool _ | .int _ _ | .string _ => true
  | _ => false
def scalV : Value → Bool
  | .tuple vs => vs.all scal
  | v => scal v

theorem scal_eq {β : Emb} {v v' : Value} (h : scal v = true) (hv : VR β v v') : v' = v ∧ ∀ β', VR β' v v' := by
  cases hv <;> simp [scal, junk, opq] at h <;> exact ⟨rfl, fun β' => by first | exact .bool _ | exact .int _ _ | exact .str _⟩

theorem scalV_any {β : Emb} {v v' : Value} (h : scalV v = true) (hv : VR β v v') : ∀ β', VR β' v v' := by
  intro β'
  cases hv with
  | tuple c c' hc gc =>
    simp only [scalV] at h
    refine .tuple' ⟨by simpa using hc, fun i u hu => ?_⟩
    obtain ⟨u', h1, h2⟩ := (vrs_of_arr hc gc).2 i u hu
    refine ⟨u', h1, (scal_eq ?_ h2).2 β'⟩
    rw [Array.getElem?_toList] at hu
    have := Array.all_eq_true_iff_forall_mem.1 h u (Array.mem_of_getElem? hu)
    exact this
  | bool b => exact .bool b
  | int k n => exact .int k n
  | str s => exact .str s
  | _ => simp [scalV, scal, junk, opq] at h

theorem scalV_noPan {v : Value} (hv : scalV v = true) : isPan v = none := by
  cases hp : isPan v with
  | none => rfl
  | some u =>
    exfalso
    unfold isPan at hp
    split at hp
    · rename_i a
      split at hp
      · rename_i x hx
        simp only [scalV] at hv
        have := Array.all_eq_true_iff_forall_mem.1 hv (.chan (some 1)) (by rw [← Array.mem_toList_iff, hx]; simp)
        simp [scal] at this
      · cases hp
    · cases hp

theorem scals_any {β : Emb} {l l' : List Value} (h : l.all scal = true) (hl : VRs β l l') (β' : Emb) : VRs β' l l' :=
  ⟨hl.1, fun i v hv => let ⟨v', h1, h2⟩ := hl.2 i v hv; ⟨v', h1, (scal_eq (List.all_eq_true.1 h v (List.mem_of_getElem? hv)) h2).2 β'⟩⟩

/-- A heap of tables alone. -/
structure Tables (G : Nat) (Hg : Heap) : Prop where
  size : Hg.size = G
  ro : ∀ id ob, Hg.get id = some ob → id < G ∧ ∃ e cs, ob = .cells e true cs ∧ cs.all plain = true

theorem plain_leaf {v : Value} (h : plain v = true) : leafClosed v = true := by cases v <;> simp [plain] at h <;> rfl

theorem tables_rel {B0 : Bs} {w0 w : World} {β : Emb} {H Hg : Heap} {G : Nat} (R : WRel B0 w0 β H w) (ht : Tables G Hg) (hg : G ≤ B0.g) (hH : ∀ id ob, Hg.get id = some ob → H.get id = some ob) :
    WRel ⟨G, w.heap.size⟩ w (fun id => if id < G then β id else none) Hg w := by
  have bt : ∀ id l, (if id < G then β id else none) = some l → id < G ∧ β id = some l := fun id l h => by
    split at h
    · rename_i hlt; exact ⟨hlt, h⟩
    · cases h
  refine ⟨⟨fun id l h => by rw [ht.size]; exact (bt id l h).1, fun id h => ?_, fun id l e ro cs h h' => ?_, fun id l e cs h h' => ?_, fun id l e cs id' l' e' ro' cs' h h' => ?_,
    fun id l es c h h' => ?_, fun id l es c h h' => ?_, fun id l es c id' l' es' c' h h' => ?_, fun g hg' => ?_, fun b _ => rfl, Nat.le_refl _⟩, rfl, rfl, rfl⟩
  · obtain ⟨_, e, cs, h2, _⟩ := ht.ro id _ h; cases h2
  · obtain ⟨_, e2, cs2, h2, hp⟩ := ht.ro id _ h'
    cases h2
    obtain ⟨c, e', fz, q1, q2, q3, q4, q5⟩ := R.ob id l _ _ _ (bt id l h).2 (hH _ _ h')
    refine ⟨c, e', fz, q1, q2, q3, q4, fun i v hv => ?_⟩
    obtain ⟨v', r1, r2⟩ := q5 i v hv
    have hpv := List.all_eq_true.1 hp v (List.mem_of_getElem? hv)
    exact ⟨v', r1, by rw [plain_vr hpv r2]; exact .ofLeaf _ (plain_leaf hpv)⟩
  · obtain ⟨_, e, cs, h2, _⟩ := ht.ro id _ h'; cases h2
  · obtain ⟨_, e, cs, h2, _⟩ := ht.ro id _ h'; cases h2
  · obtain ⟨_, e, cs, h2, _⟩ := ht.ro id _ h'; cases h2
  · obtain ⟨_, e, cs, h2, _⟩ := ht.ro id _ h'; cases h2
  · obtain ⟨_, e, cs, h2, _⟩ := ht.ro id _ h'; cases h2
  · have hlt : g < G := hg'
    obtain ⟨n, hn⟩ := R.gl g (by omega)
    exact ⟨n, by rw [if_pos hlt]; exact hn⟩

/-- A call of which the tables alone tell the answer. -/
theorem known_closed {P : Program} (hm : P.follows .mixedOrders = true) {Γ : Nat → Option FnI} (hΓ : TabOk P Γ) {Tb : Bs → World → Prop} {ov : Known} (hov : OvOk P Tb0 ov) (hog : OvGood ov) {k f : Nat} {args : List Value} {v : Value} {Hg H' : Heap}
    (ht : Tables P.globals.size Hg) (h : evF Γ ov k f args Hg = some (v, H')) (ha : args.all scal = true) (hv : scalV v = true) {H : Heap} (hH : ∀ id ob, Hg.get id = some ob → H.get id = some ob) : KnownAt P Tb f args H v H.size := by
  obtain ⟨h1, _, _⟩ := (sim_F (B0 := ⟨P.globals.size, 0⟩) (w0 := default) hm hΓ hov hog (Nat.le_refl _) trivial k).c _ _ _ _ _ h
  refine ⟨h1, Nat.le_refl _, fun B0 w0 β w args' hG _ hR hargs => ?_⟩
  obtain ⟨_, _, hc⟩ := (sim_F (B0 := ⟨P.globals.size, w.heap.size⟩) (w0 := w) hm hΓ hov hog (Nat.le_refl _) trivial k).c _ _ _ _ _ h
  refine (hc _ w args' (tables_rel hR ht hG hH) (scals_any ha hargs _)).mono ?_
  rintro e w' ⟨β', he, _, hR'⟩
  have hnp : isPan v = none := scalV_noPan hv
  unfold EndR at he
  rw [hnp] at he
  obtain ⟨v', rfl, hvr⟩ := he
  refine ⟨β, v', rfl, Emb.le_refl β, ?_, scalV_any hv hvr β⟩
  have keep : ∀ b, b < w.heap.size → w'.heap[b]? = w.heap[b]? := hR'.keep
  have siz : w.heap.size ≤ w'.heap.size := hR'.siz
  refine ⟨⟨hR.dom, hR.pn, fun id l e ro cs g1 g2 => ?_, hR.wr, hR.inj, fun id l es c g1 g2 => ?_, hR.wm, hR.injm, hR.gl, fun b hb => ?_, Nat.le_trans hR.siz siz⟩, hR'.os.trans hR.os, hR'.tape.trans hR.tape, hR'.output.trans hR.output⟩
  · refine (hR.ob id l e ro cs g1 g2).heap fun o ho => ?_
    rw [keep _ (Array.getElem?_eq_some_iff.1 ho).1]; exact ho
  · refine (hR.mp id l es c g1 g2).heap fun o ho => ?_
    rw [keep _ (Array.getElem?_eq_some_iff.1 ho).1]; exact ho
  · have := hR.siz
    rw [keep b (by omega)]; exact hR.keep b hb

theorem ovNone {P : Program} {Tb : Bs → World → Prop} : OvOk P Tb fun _ _ _ => none := fun _ _ _ _ _ h => by cases h
theorem ovNoneGood : OvGood fun _ _ _ => none := ⟨(fun _ _ _ _ _ h => by cases h), (fun _ _ _ _ _ _ _ _ => rfl)⟩

end
end Go.Proofs.YtapkmhneneffdaaGreatDoor.Mx

/-! The text ZadO. -/
namespace Go.Proofs.YtapkmhneneffdaaGreatDoor.Mx
open Go

def isRow (w : World) (b : Nat) : Bool :=
  match w.heap[b]? with
  | some (.cells _ _ _) => true
  | _ => false

/-- A cell, or an argument of one cell, as the abstract machine sees it. -/
def tr1 (w : World) : Value → Value
  | .bool b => .bool b
  | .int k n => .int k n
  | .string s => .string s
  | .pointer none => .pointer none
  | .pointer (some ⟨b, o, none⟩) => if isRow w b then .pointer (some ⟨b, o, none⟩) else junk
  | .slice none 0 0 => .slice none 0 0
  | .slice (some _) 0 0 => .slice (some ⟨0, 0, some 1⟩) 0 0
  | .slice (some ⟨b, o, none⟩) len cap => if isRow w b ∧ len ≤ cap then .slice (some ⟨b, o, some 1⟩) len cap else junk
  | .map none => .map none
  | .nilFunc => .nilFunc
  | .nilIface => .nilIface
  | _ => junk

def trV (w : World) : Value → Value
  | .agg cs => .agg (cs.map (tr1 w))
  | v => tr1 w v

def obOf (w : World) : Obj → Ob
  | .cells c e _ => .cells e true (c.toList.map (tr1 w))
  | _ => .dead

def heapOf (w : World) : Heap := ⟨w.heap.size, Tr.ofList (w.heap.toList.map (obOf w)) 0 .nil⟩

def embOf (w : World) : Emb := fun b =>
  match w.heap[b]? with
  | some (.cells c _ _) => some ⟨b, 0, c.size⟩
  | some _ => some ⟨b, 0, 0⟩
  | none => none

theorem heapOf_get (w : World) (b : Nat) : (heapOf w).get b = (w.heap[b]?).map (obOf w) := by
  show (Tr.ofList (w.heap.toList.map (obOf w)) 0 .nil).get b = _
  rw [get_ofList]
  by_cases hb : b < w.heap.size
  · rw [if_pos (by simp; exact hb), Nat.sub_zero, List.getElem?_map, Array.getElem?_toList]
  · rw [if_neg (by simp; omega), Array.getElem?_eq_none (by omega)]
    rfl

theorem isRow_emb {w : World} {b : Nat} (h : isRow w b = true) : ∃ n, embOf w b = some ⟨b, 0, n⟩ := by
  unfold isRow at h
  unfold embOf
  cases hq : w.heap[b]? with
  | none => rw [hq] at h; cases h
  | some o => rw [hq] at h; cases o <;> first | exact ⟨_, rfl⟩ | cases h

theorem tr1_vr (w : World) (v : Value) : VR (embOf w) (tr1 w v) v := by
  unfold tr1
  split
  · exact .bool _
  · exact .int _ _
  · exact .str _
  · exact .nilp
  · split
    · rename_i b o h
      obtain ⟨n, hn⟩ := isRow_emb h
      have := VR.ptr (β := embOf w) b o ⟨b, 0, n⟩ hn
      simpa using this
    · exact .any _
  · exact .nils
  · exact .slice0 _ _ _ _
  · split
    · rename_i b o len cap _ h
      obtain ⟨n, hn⟩ := isRow_emb h.1
      have := VR.slice (β := embOf w) b o 1 len cap cap ⟨b, 0, n⟩ hn h.2 (Nat.le_refl _) (fun _ => rfl) (fun h => absurd rfl h)
      simpa using this
    · exact .any _
  · exact .nilm
  · exact .nilf
  · exact .nili
  · exact .any _

theorem trV_vr (w : World) (v : Value) : VR (embOf w) (trV w v) v := by
  unfold trV
  split
  · rename_i cs
    refine .agg' ⟨by simp, fun i u hu => ?_⟩
    simp only [Array.toList_map, List.getElem?_map] at hu
    cases hq : cs.toList[i]? with
    | none => rw [hq] at hu; cases hu
    | some x => rw [hq] at hu; cases hu; exact ⟨x, rfl, tr1_vr w x⟩
  · exact tr1_vr w v

theorem rel0 (w : World) {G : Nat} (hG : G ≤ w.heap.size) : WRel ⟨G, w.heap.size⟩ w (embOf w) (heapOf w) w := by
  have hget : ∀ id e ro cs, (heapOf w).get id = some (.cells e ro cs) → ∃ c fz, w.heap[id]? = some (.cells c e fz) ∧ ro = true ∧ cs = c.toList.map (tr1 w) := by
    intro id e ro cs h
    rw [heapOf_get] at h
    cases hq : w.heap[id]? with
    | none => rw [hq] at h; cases h
    | some o =>
      rw [hq] at h
      simp only [Option.map_some, Option.some.injEq] at h
      cases o <;> simp only [obOf] at h <;> cases h
      exact ⟨_, _, rfl, rfl, rfl⟩
  have hmap : ∀ id es c, (heapOf w).get id ≠ some (.map es c) := by
    intro id es c h
    rw [heapOf_get] at h
    cases hq : w.heap[id]? with
    | none => rw [hq] at h; cases h
    | some o => rw [hq] at h; cases o <;> simp [obOf] at h
  refine ⟨⟨fun id l h => ?_, fun id h => ?_, fun id l e ro cs h h' => ?_, fun id l e cs h h' => ?_, fun id l e cs id' l' e' ro' cs' h1 h2 => ?_, fun id l es c _ h => absurd h (hmap _ _ _), fun id l es c _ h => absurd h (hmap _ _ _),
    fun id l es c id' l' es' c' _ h => absurd h (hmap _ _ _), fun g hg => ?_, fun b _ => rfl, Nat.le_refl _⟩, rfl, rfl, rfl⟩
  rotate_right
  · have hg' : g < w.heap.size := Nat.lt_of_lt_of_le hg hG
    unfold embOf
    rw [Array.getElem?_eq_getElem hg']
    cases w.heap[g] <;> exact ⟨_, rfl⟩
  · unfold embOf at h
    split at h
    · rename_i c e fz hc; exact (Array.getElem?_eq_some_iff.1 hc).1
    · rename_i o _ hc; exact (Array.getElem?_eq_some_iff.1 hc).1
    · cases h
  · rw [heapOf_get] at h
    cases hq : w.heap[id]? with
    | none => rw [hq] at h; cases h
    | some o => rw [hq] at h; cases o <;> simp [obOf] at h
  · obtain ⟨c, fz, hc, rfl, rfl⟩ := hget _ _ _ _ h'
    have hl : l = ⟨id, 0, c.size⟩ := by
      unfold embOf at h; rw [hc] at h; exact (Option.some.inj h).symm
    subst hl
    refine ⟨c, _, fz, hc, (fun h => by cases h), by simp, by simp, fun i v hv => ?_⟩
    rw [List.getElem?_map] at hv
    cases hq : c.toList[i]? with
    | none => rw [hq] at hv; cases hv
    | some x =>
      rw [hq] at hv; cases hv
      rw [Array.getElem?_toList] at hq
      exact ⟨x, by simpa using hq, tr1_vr w x⟩
  · obtain ⟨c, fz, hc, h0, _⟩ := hget _ _ _ _ h'
    cases h0
  · obtain ⟨c, fz, hc, h0, _⟩ := hget _ _ _ _ h2
    cases h0

/-- A law that the abstract machine answers with true is answered with true by the model, and no elder memory turns. -/
theorem law_calls {P : Program} (hm : P.follows .mixedOrders = true) {Γ : Nat → Option FnI} (hΓ : TabOk P Γ) {Tb : Bs → World → Prop} {ov : Known} (hov : OvOk P Tb ov) (hog : OvGood ov) {f k : Nat} {args : Array Value} {W : World} (htb : Tb ⟨P.globals.size, W.heap.size⟩ W) (hG : P.globals.size ≤ W.heap.size) {H' : Heap}
    (h : evF Γ ov k f (args.toList.map (trV W)) (heapOf W) = some (.bool true, H')) : Calls P f args W fun e w' => e = .returned (.bool true) ∧ RowKit.Below W.heap.size W w' := by
  obtain ⟨_, hs, hc⟩ := (sim_F (B0 := ⟨P.globals.size, W.heap.size⟩) (w0 := W) hm hΓ hov hog (Nat.le_refl _) htb k).c _ _ _ _ _ h
  refine (hc (embOf W) W args (rel0 W hG) ⟨by simp, fun i v hv => ?_⟩).mono ?_
  · rw [List.getElem?_map] at hv
    cases hq : args.toList[i]? with
    | none => rw [hq] at hv; cases hv
    | some x => rw [hq] at hv; cases hv; exact ⟨x, rfl, trV_vr W x⟩
  · rintro e w' ⟨β', he, _, hR⟩
    obtain ⟨v', rfl, hv⟩ : ∃ v', e = .returned v' ∧ VR β' (.bool true) v' := he
    cases hv
    exact ⟨rfl, hR.os, hR.tape, hR.output, hR.siz, hR.keep⟩

/-! ### what is read of the memory at the call -/
theorem tr1_cell {w : World} {b o : Nat} {v : Value} (h : w.cell? ⟨b, o, none⟩ = some v) : ∃ e cs, (heapOf w).get b = some (.cells e true cs) ∧ cs[o]? = some (tr1 w v) ∧ isRow w b = true := by
  unfold World.cell? at h
  split at h
  · rename_i c e fz hc
    simp only [Option.isSome_none, Bool.false_eq_true, if_false] at h
    refine ⟨e, c.toList.map (tr1 w), by rw [heapOf_get, hc]; rfl, ?_, by unfold isRow; rw [hc]⟩
    rw [List.getElem?_map, Array.getElem?_toList, h]
    rfl
  · cases h

/-- What holds of all that a trie holds. -/
def AllT {α : Type} (Q : Nat → α → Prop) : Tr α → (Nat → Nat) → Prop
  | .nil, _ => True
  | .node v l r, φ => (∀ x, v = some x → Q (φ 0) x) ∧ AllT Q l (fun k => φ (2 * k + 1)) ∧ AllT Q r (fun k => φ (2 * k + 2))

theorem AllT.at {α : Type} {Q : Nat → α → Prop} : ∀ {t : Tr α} {φ : Nat → Nat}, AllT Q t φ → ∀ n x, t.get n = some x → Q (φ n) x
  | .nil, φ, _, n, x, h => by simp [Tr.get] at h
  | .node v l r, φ, ⟨h1, h2, h3⟩, n, x, h => by
    rcases nat_cases n with rfl | ⟨k, rfl⟩ | ⟨k, rfl⟩
    · rw [Tr.get_zero] at h; exact h1 x h
    · rw [Tr.get_odd] at h; exact AllT.at h2 k x h
    · rw [Tr.get_even] at h; exact AllT.at h3 k x h

end Go.Proofs.YtapkmhneneffdaaGreatDoor.Mx

/-! The text ZadX. -/
namespace Go.Proofs.YtapkmhneneffdaaGreatDoor.Mx
open Go

theorem tr1_plain (W : World) {v : Value} (h : plain v = true) : tr1 W v = v := by cases v <;> simp [plain] at h <;> rfl

theorem tabs_in {W : World} {G : Nat} {Hg : Heap} (ht : Tables G Hg) (hW : ∀ id e cs, Hg.get id = some (.cells e true cs) → ∃ c fz, W.heap[id]? = some (.cells c e fz) ∧ c.toList = cs) :
    ∀ id ob, Hg.get id = some ob → (heapOf W).get id = some ob := by
  intro id ob h
  obtain ⟨_, e, cs, rfl, hp⟩ := ht.ro id ob h
  obtain ⟨c, fz, h1, h2⟩ := hW id e cs h
  rw [heapOf_get, h1]
  simp only [Option.map_some, obOf]
  congr 2
  rw [h2]
  have : ∀ l : List Value, l.all plain = true → l.map (tr1 W) = l := by
    intro l
    induction l with
    | nil => intro _; rfl
    | cons v l ih =>
      intro hl
      simp only [List.all_cons, Bool.and_eq_true] at hl
      simp only [List.map_cons, tr1_plain W hl.1, ih hl.2]
  exact this cs hp

/-- The law's call, by the machine's run over the tables alone. -/
theorem law_closed {P : Program} (hm : P.follows .mixedOrders = true) {Γ : Nat → Option FnI} (hΓ : TabOk P Γ) {Tb : Bs → World → Prop} {ov : Known} (hov : OvOk P Tb ov) (hog : OvGood ov) {f k : Nat} {args : List Value} {args' : Array Value} {W : World} {Hg H' : Heap}
    (htb : Tb ⟨P.globals.size, W.heap.size⟩ W) (ht : Tables P.globals.size Hg) (hG : P.globals.size ≤ W.heap.size) (hW : ∀ id e cs, Hg.get id = some (.cells e true cs) → ∃ c fz, W.heap[id]? = some (.cells c e fz) ∧ c.toList = cs)
    (ha : ∀ β, VRs β args args'.toList) (h : evF Γ ov k f args Hg = some (.bool true, H')) : Calls P f args' W fun e w' => e = .returned (.bool true) ∧ RowKit.Below W.heap.size W w' := by
  obtain ⟨_, _, hc⟩ := (sim_F (B0 := ⟨P.globals.size, W.heap.size⟩) (w0 := W) hm hΓ hov hog (Nat.le_refl _) htb k).c _ _ _ _ _ h
  refine (hc _ W args' (tables_rel (rel0 W hG) ht (Nat.le_refl _) (tabs_in ht hW)) (ha _)).mono ?_
  rintro e w' ⟨β', he, _, hR⟩
  obtain ⟨v', rfl, hv⟩ : ∃ v', e = .returned v' ∧ VR β' (.bool true) v' := he
  cases hv
  exact ⟨rfl, hR.os, hR.tape, hR.output, hR.siz, hR.keep⟩

/-- What is known of a call that the tables of the memory tell. -/
theorem known_tabs {P : Program} (hm : P.follows .mixedOrders = true) {Γ : Nat → Option FnI} (hΓ : TabOk P Γ) {Tb : Bs → World → Prop} {k f : Nat} {args : List Value} {v : Value}
    (h : ∀ B0 w0, Tb B0 w0 → P.globals.size ≤ B0.b ∧ ∃ Hg H', Tables P.globals.size Hg ∧ evF Γ (fun _ _ _ => none) k f args Hg = some (v, H') ∧ ∀ id e cs, Hg.get id = some (.cells e true cs) → ∃ c fz, w0.heap[id]? = some (.cells c e fz) ∧ c.toList = cs)
    (hf : CallOk P f) (ha : args.all scal = true) (hv : scalV v = true) {H : Heap} : KnownAt P Tb f args H v H.size := by
  refine ⟨hf, Nat.le_refl _, fun B0 w0 β w args' hG htb hR hargs => ?_⟩
  obtain ⟨hb, Hg, H', ht, hev, hW⟩ := h B0 w0 htb
  obtain ⟨_, _, hc⟩ := (sim_F (B0 := ⟨P.globals.size, w.heap.size⟩) (w0 := w) hm hΓ ovNone ovNoneGood (Nat.le_refl _) trivial k (Tb := Tb0)).c _ _ _ _ _ hev
  have hGw : P.globals.size ≤ w.heap.size := Nat.le_trans hb hR.siz
  have hWw : ∀ id e cs, Hg.get id = some (.cells e true cs) → ∃ c fz, w.heap[id]? = some (.cells c e fz) ∧ c.toList = cs := fun id e cs hh => by
    obtain ⟨c, fz, g1, g2⟩ := hW id e cs hh
    have hid := (ht.ro id _ hh).1
    exact ⟨c, fz, by rw [hR.keep id (by omega)]; exact g1, g2⟩
  refine (hc _ w args' (tables_rel (rel0 w hGw) ht (Nat.le_refl _) (tabs_in ht hWw)) (scals_any ha hargs _)).mono ?_
  rintro e w' ⟨β', he, _, hR'⟩
  have hnp : isPan v = none := scalV_noPan hv
  unfold EndR at he
  rw [hnp] at he
  obtain ⟨v', rfl, hvr⟩ := he
  refine ⟨β, v', rfl, Emb.le_refl β, ?_, scalV_any hv hvr β⟩
  have keep : ∀ b, b < w.heap.size → w'.heap[b]? = w.heap[b]? := hR'.keep
  have siz : w.heap.size ≤ w'.heap.size := hR'.siz
  refine ⟨⟨hR.dom, hR.pn, fun id l e ro cs g1 g2 => ?_, hR.wr, hR.inj, fun id l es c g1 g2 => ?_, hR.wm, hR.injm, hR.gl, fun b hb => ?_, Nat.le_trans hR.siz siz⟩, hR'.os.trans hR.os, hR'.tape.trans hR.tape, hR'.output.trans hR.output⟩
  · refine (hR.ob id l e ro cs g1 g2).heap fun o ho => ?_
    rw [keep _ (Array.getElem?_eq_some_iff.1 ho).1]; exact ho
  · refine (hR.mp id l es c g1 g2).heap fun o ho => ?_
    rw [keep _ (Array.getElem?_eq_some_iff.1 ho).1]; exact ho
  · have := hR.siz
    rw [keep b (by omega)]; exact hR.keep b hb

end Go.Proofs.YtapkmhneneffdaaGreatDoor.Mx

/-! The text ZadZ. -/
namespace Go.Proofs.YtapkmhneneffdaaGreatDoor.Mx
open Go

/-- The first n parts of a code. -/
def cutL : Nat → Cd → Cd
  | 0, _ => .skip
  | n + 1, .seq a b => .seq a (cutL n b)
  | _ + 1, _ => .panic (.t 0)
/-- What comes behind them. -/
def cutR : Nat → Cd → Cd
  | 0, c => c
  | n + 1, .seq _ b => cutR n b
  | _ + 1, c => c

theorem evC_cut {cl : Nat → List Value → Heap → Option (Value × Heap)} {k : Nat} : ∀ (n : Nat) (c : Cd) (T : Tr Value) (H : Heap) (T1 : Tr Value) (H1 : Heap), evC cl k (cutL n c) T H = some (.normal, T1, H1) → evC cl k c T H = evC cl k (cutR n c) T1 H1
  | 0, c, T, H, T1, H1, h => by
    simp only [cutL, evC, Option.some.injEq, Prod.mk.injEq, true_and] at h
    obtain ⟨rfl, rfl⟩ := h
    rfl
  | n + 1, c, T, H, T1, H1, h => by
    have no : ∀ c, cutL (n + 1) c = .panic (.t 0) → evC cl k (cutL (n + 1) c) T H = some (.normal, T1, H1) → False := by
      intro c hc h
      rw [hc] at h
      simp only [evC] at h
      split at h <;> cases h
    cases c with
    | seq a b =>
      simp only [cutL, evC] at h
      simp only [cutR, evC]
      split at h
      · rename_i T' H' h1
        exact evC_cut n b T' H' T1 H1 h
      · rename_i hne
        exact absurd h (hne _ _)
    | _ => exact (no _ rfl h).elim

/-- A function's end, of a body without a deferred call. -/
def fnEnd (res : List Res) : Option (Ex × Tr Value × Heap) → Option (Value × Heap)
  | some (.normal, T, H) => evR res T H
  | some (.ret, T, H) => evR res T H
  | some (.pan v, _, H) => some (pan v, H)
  | _ => none
/-- The state behind the first n parts. -/
theorem evF_cut {Γ : Nat → Option FnI} {ov : Known} {k f n : Nat} {args : List Value} {H H1 : Heap} {T1 : Tr Value} {fn : FnI} (hf : Γ f = some fn) (hr : fn.recv = none) (hd : fn.dfr = none) (ho : ov f args H = none)
    (h : evC (evF Γ ov k) k (cutL n fn.body) (Tr.ofList args 0 .nil) H = some (.normal, T1, H1)) : evF Γ ov (k + 1) f args H = fnEnd fn.res (evC (evF Γ ov k) k (cutR n fn.body) T1 H1) := by
  simp only [evF, ho, evB, hf, hr, hd]
  rw [evC_cut n _ _ _ _ _ h]
  generalize evC (evF Γ ov k) k (cutR n fn.body) T1 H1 = r
  unfold fnEnd
  cases r with
  | none => rfl
  | some p =>
    obtain ⟨e, T, H'⟩ := p
    cases e <;> rfl
end Go.Proofs.YtapkmhneneffdaaGreatDoor.Mx
