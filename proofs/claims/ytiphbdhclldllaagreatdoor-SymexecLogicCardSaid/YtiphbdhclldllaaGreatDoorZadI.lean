/- One operation of a region. -/
import Derived.Test.YtiphbdhclldllaaGreatDoorZadT
set_option linter.unusedSimpArgs false
set_option linter.unusedVariables false
namespace Go.Proofs.YtiphbdhclldllaaGreatDoor.Mx
open Go

def TR (β : Emb) (T : Tr Value) (a : Act) : Prop := ∀ t, VR β (rd T t) (a.tmps.getD t undef)

theorem TR.mono {β β' : Emb} (hb : β.le β') {T : Tr Value} {a : Act} (h : TR β T a) : TR β' T a := fun t => (h t).mono hb

theorem TR.opd {P : Program} {β : Emb} {T : Tr Value} {a : Act} (h : TR β T a) (hg : ∀ g, g < P.globals.size → ∃ n, β g = some ⟨g, 0, n⟩) (x : Operand) (y : Opd) (hc : cOpd P x = some y) : VR β (y.ev T) (a.eval x) := by
  cases x with
  | tmp t => simp only [cOpd, Option.some.injEq] at hc; subst hc; exact h t
  | const v =>
    simp only [cOpd] at hc
    split at hc
    · cases hc; rename_i hv; exact .ofClosed β hv
    · cases hc
  | func f => simp only [cOpd, Option.some.injEq] at hc; subst hc; exact .func _ _ _ _ _ rfl rfl (fun i h => absurd h (by simp)) (fun i h => absurd h (by simp))
  | global g =>
    simp only [cOpd] at hc
    split at hc
    · rename_i hlt
      cases hc
      obtain ⟨n, hn⟩ := hg g hlt
      exact .ptr g 0 ⟨g, 0, n⟩ hn
    · cases hc

theorem TR.opds {P : Program} {β : Emb} {T : Tr Value} {a : Act} (h : TR β T a) (hg : ∀ g, g < P.globals.size → ∃ n, β g = some ⟨g, 0, n⟩) : ∀ (l : List Operand) (r : List Opd), cOpds P l = some r → VRs β (r.map (Opd.ev T)) (l.map a.eval) := by
  intro l
  induction l with
  | nil => intro r hc; simp [cOpds] at hc; subst hc; exact .nil β
  | cons x l ih =>
    intro r hc
    simp only [cOpds] at hc
    split at hc
    case h_2 => cases hc
    rename_i y r' h1 h2
    cases hc
    exact .cons (h.opd hg x y h1) (ih r' h2)

theorem TR.opt {P : Program} {β : Emb} {T : Tr Value} {a : Act} (h : TR β T a) (hg : ∀ g, g < P.globals.size → ∃ n, β g = some ⟨g, 0, n⟩) (x : Option Operand) (y : Option Opd) (hc : cOpt P x = some y) : VRo β (y.map (Opd.ev T)) (x.map a.eval) := by
  cases x with
  | none => simp [cOpt] at hc; subst hc; exact .inl ⟨rfl, rfl⟩
  | some x =>
    simp only [cOpt] at hc
    cases hx : cOpd P x with
    | none => rw [hx] at hc; cases hc
    | some y' => rw [hx] at hc; cases hc; exact .inr ⟨_, _, rfl, rfl, h.opd hg x y' hx⟩

theorem TR.put {β : Emb} {T : Tr Value} {a : Act} (h : TR β T a) {d : Option Nat} {v v' : Value} (hd : ∀ t, d = some t → t < a.tmps.size) (hv : VR β v v') : TR β (putT T d v) (a.put d v') := by
  cases d with
  | none => exact h
  | some d =>
    intro t
    have hlt := hd d rfl
    simp only [putT, Act.put, rd, Tr.get_set]
    by_cases e : d = t
    · subst e
      simpa [hlt] using hv
    · have := h t
      simp only [rd] at this
      simpa [e, Array.getElem?_setIfInBounds_ne e] using this

def CallOk (P : Program) (g : Nat) : Prop := ∀ args w, (callFunc g args).run P w = .ok (.enter g args) w

structure ClOk (P : Program) (B0 : Bs) (w0 : World) (cl : Nat → List Value → Heap → Option (Value × Heap)) : Prop where
  g : P.globals.size ≤ B0.g
  c : ∀ g args H v H', cl g args H = some (v, H') → CallOk P g ∧ H.size ≤ H'.size ∧ ∀ (β : Emb) (w : World) (args' : Array Value), WRel B0 w0 β H w → VRs β args args'.toList →
    Calls P g args' w (fun e w' => ∃ β' v', e = .returned v' ∧ β.le β' ∧ WRel B0 w0 β' H' w' ∧ VR β' v v')

section
variable {P : Program} {B0 : Bs} {w0 : World} {β : Emb} {H : Heap} {w : World} {T : Tr Value} {a : Act} {o : Oper} {v : Value} {H' : Heap} {next : Act → World → Prop} {Q : Exit → Act → World → Prop}

theorem of_good {s : Sem Value} (he : execOp a.eval o = (do pure (.value (← s)))) (hg : Good B0 w0 β H' v (s.run P w))
    (hn : ∀ β' v' w', β.le β' → WRel B0 w0 β' H' w' → VR β' v v' → next (a.put o.dst v') w') : o.wp P a w next Q := by
  obtain ⟨β', v', w', h1, h2, h3, h4⟩ := hg
  unfold Oper.wp
  rw [he, Sem.run_bind, h1]
  exact hn β' v' w' h2 h3 h4

theorem stuck_no {cl : Nat → List Value → Heap → Option (Value × Heap)} {b : Nat} {i : I} {r : Value × Heap} (hc : some I.stuck = some i) (hev : evI cl b T H i = some r) : False := by
  cases hc
  simp [evI] at hev

theorem of_unit {s : Sem Unit} (he : execOp a.eval o = (do s; pure .skip)) {w' : World} (h1 : s.run P w = .ok () w') (h2 : WRel B0 w0 β H' w')
    (hn : ∀ β' v' w', β.le β' → WRel B0 w0 β' H' w' → VR β' undef v' → next (a.put o.dst v') w') : o.wp P a w next Q := by
  unfold Oper.wp
  rw [he, Sem.run_bind, h1]
  exact hn β undef w' (Emb.le_refl β) h2 (.undef β)

theorem one_of {x : Opd} {args : Array Operand} (gas : VRs β ([x].map (Opd.ev T)) (args.toList.map a.eval)) : ∃ x', (args.map a.eval) = #[x'] ∧ VR β (x.ev T) x' := by
  have hl := gas.1
  simp at hl
  obtain ⟨x', hx'⟩ : ∃ x', args.toList.map a.eval = [x'] := by
    cases hq : args.toList with
    | nil => simp [← Array.length_toList, hq] at hl
    | cons y l =>
      cases l with
      | nil => exact ⟨_, rfl⟩
      | cons z l => simp [← Array.length_toList, hq] at hl
  refine ⟨x', by rw [← Array.toList_inj]; simpa using hx', ?_⟩
  obtain ⟨v', h1, h2⟩ := gas.2 0 _ rfl
  rw [hx'] at h1; simp at h1; subst h1; exact h2

theorem two_of {x y : Opd} {args : Array Operand} (gas : VRs β ([x, y].map (Opd.ev T)) (args.toList.map a.eval)) : ∃ x' y', (args.map a.eval) = #[x', y'] ∧ VR β (x.ev T) x' ∧ VR β (y.ev T) y' := by
  have hl := gas.1
  simp at hl
  obtain ⟨x', y', hx'⟩ : ∃ x' y', args.toList.map a.eval = [x', y'] := by
    cases hq : args.toList with
    | nil => simp [← Array.length_toList, hq] at hl
    | cons y l =>
      cases l with
      | nil => simp [← Array.length_toList, hq] at hl
      | cons z l =>
        cases l with
        | nil => exact ⟨_, _, rfl⟩
        | cons u l => simp [← Array.length_toList, hq] at hl
  refine ⟨x', y', by rw [← Array.toList_inj]; simpa using hx', ?_, ?_⟩
  · obtain ⟨v', h1, h2⟩ := gas.2 0 _ rfl
    rw [hx'] at h1; simp at h1; subst h1; exact h2
  · obtain ⟨v', h1, h2⟩ := gas.2 1 _ rfl
    rw [hx'] at h1; simp at h1; subst h1; exact h2

theorem mkif_sim {P : Program} {B0 : Bs} {w0 : World} {β : Emb} {H : Heap} {w : World} (R : WRel B0 w0 β H w) {t : TypeId} {d : TypeDesc} {x x' : Value} (hu : P.underlying t = some d) (hd : isIfD d = false) (hx : VR β x x') : Good B0 w0 β H (.iface t x) ((Instr.makeInterface t x').run P w) := by
  refine Good.same R (v' := .iface t x') ?_ (.iface t x x' hx)
  unfold Instr.makeInterface
  rw [Sem.run_bind, run_und hu, Result.andThen_ok]
  cases d <;> first | rfl | simp [isIfD] at hd

theorem tassert_sim {P : Program} {B0 : Bs} {w0 : World} {β : Emb} {H : Heap} {w : World} (R : WRel B0 w0 β H w) {t xt : TypeId} {d : TypeDesc} {z : Option Value} {ok : Bool} {x x' u : Value} (hu : P.underlying t = some d) (hd : isIfD d = false) (hx : VR β x x')
    (hz : (ok = true ∧ ∃ z', z = some z' ∧ zeroVal P t = some z') ∨ (ok = false ∧ z = none)) (hq : tassertV t z x = some u) : Good B0 w0 β H u ((Instr.typeAssert x' xt t ok).run P w) := by
  have zv : ∀ z', zeroVal P t = some z' → (zeroValue t).run P w = .ok z' w ∧ VR β z' z' := fun z' h => ⟨(zeroVal_run h w).1, .ofClosed β (zeroVal_run h w).2⟩
  have hnd : ∀ ms, d ≠ .interface ms := fun ms e => by subst e; simp [isIfD] at hd
  unfold tassertV at hq
  split at hq
  · rename_i u0 v0
    cases hx with
    | iface _ _ v' hv =>
    split at hq
    · rename_i e
      subst e
      cases hq
      rcases hz with ⟨rfl, z', rfl, hz⟩ | ⟨rfl, rfl⟩
      · refine Good.same R (v' := .tuple #[v', .bool true]) ?_ (.tuple' (.cons hv (.cons (.bool _) (.nil β))))
        unfold Instr.typeAssert
        simp only [Sem.run_bind, run_und hu, Result.andThen_ok]
        cases d <;> first | (exact absurd rfl (hnd _)) | simp
      · refine Good.same R (v' := v') ?_ hv
        unfold Instr.typeAssert
        simp only [Sem.run_bind, run_und hu, Result.andThen_ok]
        cases d <;> first | (exact absurd rfl (hnd _)) | simp
    · rename_i e
      rcases hz with ⟨rfl, z', rfl, hz⟩ | ⟨rfl, rfl⟩
      · cases hq
        obtain ⟨z1, z2⟩ := zv z' hz
        refine Good.same R (v' := .tuple #[z', .bool false]) ?_ (.tuple' (.cons z2 (.cons (.bool _) (.nil β))))
        unfold Instr.typeAssert
        simp only [Sem.run_bind, run_und hu, Result.andThen_ok]
        cases d <;> first | (exact absurd rfl (hnd _)) | simp [e, z1]
      · cases hq
  · cases hx
    rcases hz with ⟨rfl, z', rfl, hz⟩ | ⟨rfl, rfl⟩
    · cases hq
      obtain ⟨z1, z2⟩ := zv z' hz
      refine Good.same R (v' := .tuple #[z', .bool false]) ?_ (.tuple' (.cons z2 (.cons (.bool _) (.nil β))))
      unfold Instr.typeAssert
      simp only [Sem.run_bind, run_und hu, Result.andThen_ok]
      cases d <;> first | (exact absurd rfl (hnd _)) | simp [z1]
    · cases hq
  · cases hq

theorem isnil_sim {P : Program} {B0 : Bs} {w0 : World} {β : Emb} {H : Heap} {w : World} (R : WRel B0 w0 β H w) {op : BinOp} {t : TypeId} {ox oy : Operand} {x x' u : Value} {a : Act} (hif : isIfNil P op t oy = true) (hx : VR β x x') (hq : isnilV (isNeq op) x = some u) :
    Good B0 w0 β H u ((do eqGuard op t ox oy x' (a.eval oy); binOp op t x' (a.eval oy) : Sem Value).run P w) := by
  have key : ∃ d ms, (op = .eql ∨ op = .neq) ∧ oy = .const .nilIface ∧ P.underlying t = some d ∧ d = .interface ms := by
    unfold isIfNil at hif
    split at hif
    · split at hif
      · rename_i d hd
        cases d <;> simp [isIfD] at hif
        exact ⟨_, _, .inl rfl, rfl, hd, rfl⟩
      · cases hif
    · split at hif
      · rename_i d hd
        cases d <;> simp [isIfD] at hif
        exact ⟨_, _, .inr rfl, rfl, hd, rfl⟩
      · cases hif
    · cases hif
  obtain ⟨d, ms, hop, rfl, hu, rfl⟩ := key
  have e1 : (Op.equal t .nilIface .nilIface).run P w = .ok true w := by
    show (Op.equalIn (9999 + 1) t .nilIface .nilIface).run P w = _
    rw [Op.equalIn, Sem.run_bind, run_und hu]
    rfl
  have e2 : ∀ k v, (Op.equal t (.iface k v) .nilIface).run P w = .ok false w := by
    intro k v
    show (Op.equalIn (9999 + 1) t (.iface k v) .nilIface).run P w = _
    rw [Op.equalIn, Sem.run_bind, run_und hu]
    rfl
  unfold isnilV at hq
  split at hq
  · cases hx
    cases hq
    refine Good.same R (v' := .bool !(isNeq op)) ?_ (.bool _)
    rcases hop with rfl | rfl <;> simp [eqGuard, binOp, e1, e2, Act.eval, isNeq]
  · cases hx with
    | iface _ _ v' hv =>
    cases hq
    refine Good.same R (v' := .bool (isNeq op)) ?_ (.bool _)
    rcases hop with rfl | rfl <;> simp [eqGuard, binOp, e1, e2, Act.eval, isNeq]
  · cases hq

theorem sim_I {cl : Nat → List Value → Heap → Option (Value × Heap)} (hcl : ClOk P B0 w0 cl) (R : WRel B0 w0 β H w) (hT : TR β T a) {op : Op} (ho : o.op = op) {k b : Nat} {i : I} (hc : cI P k op = some i)
    (hev : evI cl b T H i = some (v, H')) (hb : i.allocs = true → b + k < H.size)
    (hn : ∀ β' v' w', β.le β' → WRel B0 w0 β' H' w' → VR β' v v' → next (a.put o.dst v') w') : o.wp P a w next Q := by
  have hgl : ∀ g, g < P.globals.size → ∃ n, β g = some ⟨g, 0, n⟩ := fun g hg => R.gl g (Nat.lt_of_lt_of_le hg hcl.g)
  have hρ := hT.opd hgl
  cases op <;> simp only [cI] at hc <;> try (first | (cases hc; done) | exact (stuck_no hc hev).elim)
  case move x =>
    cases hx : cOpd P x with
    | none => rw [hx] at hc; cases hc
    | some y => rw [hx] at hc; cases hc; simp only [evI] at hev; cases hev; unfold Oper.wp; simp only [execOp, ho]; exact hn β _ w (Emb.le_refl β) R (hρ x y hx)
  case assign x =>
    cases hx : cOpd P x with
    | none => rw [hx] at hc; cases hc
    | some y => rw [hx] at hc; cases hc; simp only [evI] at hev; cases hev; unfold Oper.wp; simp only [execOp, ho]; exact hn β _ w (Emb.le_refl β) R (hρ x y hx)
  case pick c x y =>
    split at hc
    case h_2 => cases hc
    rename_i c' x' y' h1 h2 h3
    cases hc
    simp only [evI] at hev
    split at hev
    case h_2 => cases hev
    rename_i t ht
    cases hev
    have g1 := hρ c c' h1
    rw [ht] at g1
    unfold Oper.wp
    simp only [execOp, ho, Sem.run_bind]
    cases hq : a.eval c <;> rw [hq] at g1 <;> cases g1
    simp only [asBool, Sem.run_pure, Result.andThen_ok]
    cases t
    · exact hn β _ w (Emb.le_refl β) R (hρ y y' h3)
    · exact hn β _ w (Emb.le_refl β) R (hρ x x' h2)
  case alloc e =>
    cases hz : zeroOf P e with
    | none => rw [hz] at hc; cases hc
    | some z =>
      rw [hz] at hc; cases hc
      simp only [evI] at hev
      cases hq : H.new (b + k) (.cells e false z) with
      | none => rw [hq] at hev; cases hev
      | some H1 => rw [hq] at hev; cases hev; exact of_good (by simp [execOp, ho]) (alloc_sim R hz hq (hb rfl)) hn
  case box e x =>
    cases hx : cOpd P x with
    | none => rw [hx] at hc; cases hc
    | some y =>
      rw [hx] at hc; cases hc
      simp only [evI] at hev
      split at hev
      case isFalse => cases hev
      rename_i hok
      cases hq : H.new (b + k) (.cells e false (y.ev T).cells.toList) with
      | none => rw [hq] at hev; cases hev
      | some H1 => rw [hq] at hev; cases hev; exact of_good (by simp [execOp, ho]) (box_sim R (hρ x y hx) hok hq (hb rfl)) hn
  case build t parts =>
    split at hc
    · rename_i z fields hz hu
      split at hc
      case h_2 => cases hc
      rename_i pl hp
      cases hps : cParts P (fun i => pl[i]?) parts.toList with
      | none => rw [hps] at hc; cases hc
      | some ps =>
        rw [hps] at hc; cases hc
        simp only [evI] at hev
        cases hf : fillP z.toArray (evParts T ps) with
        | none => rw [hf] at hev; cases hev
        | some cs => rw [hf] at hev; cases hev; exact of_good (by simp [execOp, ho]) (build_struct_sim R hρ hz hu hp hps hf) hn
    · rename_i z n e hz hu
      split at hc
      case h_2 => cases hc
      rename_i s hs
      cases hps : cParts P (fun i => some (i * s, s)) parts.toList with
      | none => rw [hps] at hc; cases hc
      | some ps =>
        rw [hps] at hc; cases hc
        simp only [evI] at hev
        cases hf : fillP z.toArray (evParts T ps) with
        | none => rw [hf] at hev; cases hev
        | some cs => rw [hf] at hev; cases hev; exact of_good (by simp [execOp, ho]) (build_arr_sim R hρ hz hu hs hps hf) hn
    · cases hc
  case buildSlice t len parts =>
    split at hc
    case h_2 => cases hc
    rename_i e hu
    split at hc
    case h_2 => cases hc
    rename_i s z hs hz
    split at hc
    case isFalse => cases hc
    rename_i hle
    cases hps : cParts P (fun i => some (i * s, s)) parts.toList with
    | none => rw [hps] at hc; cases hc
    | some ps =>
      rw [hps] at hc; cases hc
      simp only [evI] at hev
      split at hev
      case h_2 => cases hev
      rename_i cs hf
      cases hq : H.new (b + k) (.cells e false cs.toList) with
      | none => rw [hq] at hev; cases hev
      | some H1 => rw [hq] at hev; cases hev; exact of_good (by simp [execOp, ho]) (bslice_sim R hρ hu hs hz hle.1 hle.2 hps hf hq (hb rfl)) hn
  case load t x =>
    split at hc
    case h_2 => cases hc
    rename_i d n y hu hs hx
    cases hc
    simp only [evI] at hev
    cases hq : H.loadv (aggD d) n (y.ev T) with
    | none => rw [hq] at hev; cases hev
    | some u => rw [hq] at hev; cases hev; exact of_good (by simp [execOp, ho]) (load_sim R hu hs hq (hρ x y hx)) hn
  case store t x y =>
    split at hc
    case h_2 => cases hc
    rename_i n x' y' hs hx hy
    cases hc
    simp only [evI] at hev
    cases hq : H.storev n (x'.ev T) (y'.ev T) with
    | none => rw [hq] at hev; cases hev
    | some H1 =>
      rw [hq] at hev; cases hev
      obtain ⟨w', h1, h2⟩ := store_sim R hs hq (hρ x x' hx) (hρ y y' hy)
      unfold Oper.wp
      simp only [execOp, ho, Sem.run_bind, h1, Result.andThen_ok, Sem.run_pure]
      exact hn β undef w' (Emb.le_refl β) h2 (.undef β)
  case nilCheck x =>
    cases hx : cOpd P x with
    | none => rw [hx] at hc; cases hc
    | some y =>
      rw [hx] at hc; cases hc
      have g := hρ x y hx
      simp only [evI] at hev
      unfold Oper.wp
      simp only [execOp, ho]
      split at hev
      · rename_i ad hq
        cases hev
        rw [hq] at g
        cases hq2 : a.eval x <;> rw [hq2] at g <;> cases g
        exact hn β _ w (Emb.le_refl β) R (by rw [← hq, ← hq2]; exact hρ x y hx)
      · rename_i g' f c hq
        cases hev
        rw [hq] at g
        cases hq2 : a.eval x <;> rw [hq2] at g <;> cases g
        exact hn β _ w (Emb.le_refl β) R (by rw [← hq, ← hq2]; exact hρ x y hx)
      · cases hev
  case makeInterface t x =>
    split at hc
    case h_2 => exact (stuck_no hc hev).elim
    rename_i d x' hu hx
    split at hc
    · exact (stuck_no hc hev).elim
    rename_i hd
    cases hc
    simp only [evI] at hev
    cases hev
    exact of_good (s := Instr.makeInterface t (a.eval x)) (by simp [execOp, ho]) (mkif_sim R hu (by simpa using hd) (hρ x x' hx)) hn
  case typeAssert x xt t ok =>
    split at hc
    case h_2 => exact (stuck_no hc hev).elim
    rename_i d x' hu hx
    split at hc
    · exact (stuck_no hc hev).elim
    rename_i hd
    split at hc
    · rename_i hok
      subst hok
      split at hc
      case h_2 => exact (stuck_no hc hev).elim
      rename_i z hz
      cases hc
      simp only [evI] at hev
      cases hq : tassertV t (some z) (x'.ev T) with
      | none => rw [hq] at hev; cases hev
      | some u => rw [hq] at hev; cases hev; exact of_good (s := Instr.typeAssert (a.eval x) xt t true) (by simp [execOp, ho]) (tassert_sim (z := some z) R hu (by simpa using hd) (hρ x x' hx) (.inl ⟨rfl, z, rfl, hz⟩) hq) hn
    · rename_i hok
      cases hc
      simp only [evI] at hev
      cases hq : tassertV t none (x'.ev T) with
      | none => rw [hq] at hev; cases hev
      | some u =>
        have hok' : ok = false := by simpa using hok
        subst hok'
        rw [hq] at hev; cases hev; exact of_good (s := Instr.typeAssert (a.eval x) xt t false) (by simp [execOp, ho]) (tassert_sim (z := none) R hu (by simpa using hd) (hρ x x' hx) (.inr ⟨rfl, rfl⟩) hq) hn
  case binOp op t x y yt =>
    split at hc
    · rename_i hif
      cases hx : cOpd P x with
      | none => rw [hx] at hc; cases hc
      | some x' =>
        rw [hx] at hc; cases hc
        simp only [evI] at hev
        cases hq : isnilV (isNeq op) (x'.ev T) with
        | none => rw [hq] at hev; cases hev
        | some u => rw [hq] at hev; cases hev; exact of_good (s := do eqGuard op t x y (a.eval x) (a.eval y); binOp op t (a.eval x) (a.eval y)) (by simp [execOp, ho]) (isnil_sim (ox := x) R hif (hρ x x' hx) hq) hn
    split at hc
    case h_2 => cases hc
    rename_i x' y' hx hy
    cases hc
    simp only [evI] at hev
    cases hq : binV op (eqMode P t) (x'.ev T) (y'.ev T) with
    | none => rw [hq] at hev; cases hev
    | some u => rw [hq] at hev; cases hev; exact of_good (by simp [execOp, ho]) (bin_sim (ox := x) (oy := y) R hq (hρ x x' hx) (hρ y y' hy)) hn
  case unOp op t x =>
    cases hx : cOpd P x with
    | none => rw [hx] at hc; cases hc
    | some y =>
      rw [hx] at hc; cases hc
      simp only [evI] at hev
      cases hq : unV op (y.ev T) with
      | none => rw [hq] at hev; cases hev
      | some u => rw [hq] at hev; cases hev; exact of_good (by simp [execOp, ho]) (unary_sim R hq (hρ x y hx)) hn
  case convert s t x =>
    split at hc
    · rename_i d kk y hs ht hx
      cases hc
      have g := hρ x y hx
      simp only [evI] at hev
      split at hev
      case h_2 => cases hev
      rename_i kk0 n hq
      cases hev
      rw [hq] at g
      cases hq2 : a.eval x <;> rw [hq2] at g <;> cases g
      exact of_good (s := convert s t (.int kk0 n)) (by simp [execOp, ho, hq2]) (conv_sim R hs ht) hn
    · rename_i e y hs ht hx
      split at hc
      · rename_i he
        cases hc
        simp only [evI] at hev
        cases hq : H.b2s (y.ev T) with
        | none => rw [hq] at hev; cases hev
        | some u => rw [hq] at hev; cases hev; exact of_good (by simp [execOp, ho]) (b2s_sim R hs ht he (hρ x y hx) hq) hn
      · exact (stuck_no hc hev).elim
    · exact (stuck_no hc hev).elim
  case makeMap t r =>
    cases r with
    | some r => exact (stuck_no hc hev).elim
    | none =>
      cases hc
      simp only [evI] at hev
      cases hq : H.new (b + k) (.map [] 0) with
      | none => rw [hq] at hev; cases hev
      | some H1 => rw [hq] at hev; cases hev; exact of_good (by simp [execOp, ho]) (mkmap_sim (t := t) R hq (hb rfl)) hn
  case lookup t x ix ok =>
    split at hc
    case h_2 => exact (stuck_no hc hev).elim
    rename_i kt e x' i' hu hx hi
    split at hc
    case h_2 => exact (stuck_no hc hev).elim
    rename_i m z hm hz
    cases hc
    simp only [evI] at hev
    cases hq : H.lookup m z ok (x'.ev T) (i'.ev T) with
    | none => rw [hq] at hev; cases hev
    | some u => rw [hq] at hev; cases hev; exact of_good (by simp [execOp, ho]) (lookup_sim R hu hm hz (hρ x x' hx) (hρ ix i' hi) hq) hn
  case mapUpdate t x ix v =>
    split at hc
    case h_2 => exact (stuck_no hc hev).elim
    rename_i kt e x' i' v' hu hx hi hv
    split at hc
    case h_2 => exact (stuck_no hc hev).elim
    rename_i m hm
    cases hc
    simp only [evI] at hev
    cases hq : H.mapset m (x'.ev T) (i'.ev T) (v'.ev T) with
    | none => rw [hq] at hev; cases hev
    | some H1 =>
      rw [hq] at hev; cases hev
      obtain ⟨w', h1, h2⟩ := mapset_sim R hu hm (hρ x x' hx) (hρ ix i' hi) (hρ v v' hv) hq
      exact of_unit (by simp [execOp, ho]) h1 h2 hn
  case insert t x ix v =>
    split at hc
    case h_2 => exact (stuck_no hc hev).elim
    rename_i kt e x' i' v' hu hx hi hv
    split at hc
    case h_2 => exact (stuck_no hc hev).elim
    rename_i m hm
    cases hc
    simp only [evI] at hev
    cases hq : H.mapset m (x'.ev T) (i'.ev T) (v'.ev T) with
    | none => rw [hq] at hev; cases hev
    | some H1 =>
      rw [hq] at hev; cases hev
      obtain ⟨w', h1, h2⟩ := mapset_sim R hu hm (hρ x x' hx) (hρ ix i' hi) (hρ v v' hv) hq
      exact of_unit (by simp [execOp, ho]) h1 h2 hn
  case mapEntry t x ix =>
    split at hc
    case h_2 => exact (stuck_no hc hev).elim
    rename_i kt e x' i' hu hx hi
    split at hc
    case h_2 => exact (stuck_no hc hev).elim
    rename_i m z hm hz
    cases hc
    simp only [evI] at hev
    exact of_good (by simp [execOp, ho]) (mapentry_sim R hu hm hz (hρ x x' hx) (hρ ix i' hi) hev) hn
  case entryStore t x st v =>
    split at hc
    case h_2 => exact (stuck_no hc hev).elim
    rename_i x' st' v' hx hst hv
    cases hc
    simp only [evI] at hev
    cases hq : H.entryset (x'.ev T) (st'.ev T) (v'.ev T) with
    | none => rw [hq] at hev; cases hev
    | some H1 =>
      rw [hq] at hev; cases hev
      obtain ⟨w', h1, h2⟩ := entryset_sim (t := t) R (hρ x x' hx) (hρ st st' hst) (hρ v v' hv) hq
      exact of_unit (by simp [execOp, ho]) h1 h2 hn
  case makeFunc fn first captured =>
    split at hc
    case h_2 => cases hc
    rename_i f c hf hcap
    cases hc
    simp only [evI] at hev
    cases hev
    unfold Oper.wp
    simp only [execOp, ho, Instr.makeFunc, Sem.run_bind, Sem.run_pure, Result.andThen_ok]
    have g1 := hT.opds hgl _ _ hf
    have g2 := hT.opds hgl _ _ hcap
    have k1 := arr_of_vrs (c := (f.map (Opd.ev T)).toArray) (c' := first.map a.eval) (by simpa using g1)
    have k2 := arr_of_vrs (c := (c.map (Opd.ev T)).toArray) (c' := captured.map a.eval) (by simpa using g2)
    exact hn β _ w (Emb.le_refl β) R (.func _ _ _ _ _ k1.1 k2.1 k1.2 k2.2)
  case makeSlice t len cap =>
    split at hc
    case h_2 => cases hc
    rename_i e hu
    split at hc
    case h_2 => cases hc
    rename_i i z l c hi hz hl hcp
    split at hc
    case isFalse => cases hc
    rename_i hpos
    cases hc
    simp only [evI] at hev
    exact of_good (by simp [execOp, ho]) (mkslice_sim R hu hi hz hpos (hρ len l hl) (hρ cap c hcp) hev (hb rfl)) hn
  case slice t x lo hi mx =>
    split at hc
    · rename_i e hu
      split at hc
      case h_2 => cases hc
      rename_i s x' lo' hi' mx' hs hx hlo hhi hmx
      split at hc
      case isFalse => cases hc
      rename_i hcond
      cases hc
      simp only [evI] at hev
      cases hq : sliceV s (x'.ev T) (lo'.map (Opd.ev T)) (hi'.map (Opd.ev T)) (mx'.map (Opd.ev T)) with
      | none => rw [hq] at hev; cases hev
      | some u => rw [hq] at hev; cases hev; exact of_good (by simp [execOp, ho]) (slice_sim R hu hs hcond.1 (by simpa using hcond.2) (hρ x x' hx) (hT.opt hgl _ _ hlo) (hT.opt hgl _ _ hhi) (hT.opt hgl _ _ hmx) hq) hn
    · rename_i hu
      split at hc
      case h_2 => cases hc
      rename_i x' lo' hi' hx hlo hhi
      cases hc
      simp only [evI] at hev
      cases hq : strsliceV (x'.ev T) (lo'.map (Opd.ev T)) (hi'.map (Opd.ev T)) with
      | none => rw [hq] at hev; cases hev
      | some u => rw [hq] at hev; cases hev; exact of_good (by simp [execOp, ho]) (strslice_sim R hu (hρ x x' hx) (hT.opt hgl _ _ hlo) (hT.opt hgl _ _ hhi) hq) hn
    · rename_i n e hu
      split at hc
      case h_2 => exact (stuck_no hc hev).elim
      rename_i s x' lo' hi' hs hx hlo hhi
      split at hc
      case isFalse => cases hc
      cases hc
      simp only [evI] at hev
      cases hq : asliceV n s (x'.ev T) (lo'.map (Opd.ev T)) (hi'.map (Opd.ev T)) with
      | none => rw [hq] at hev; cases hev
      | some u => rw [hq] at hev; cases hev; exact of_good (by simp [execOp, ho]) (aslice_sim R hu hs (hρ x x' hx) (hT.opt hgl _ _ hlo) (hT.opt hgl _ _ hhi) hq) hn
    · exact (stuck_no hc hev).elim
  case fieldAddr t x f =>
    split at hc
    case h_2 => cases hc
    rename_i fields x' hu hx
    split at hc
    case h_2 => cases hc
    rename_i fl hf
    split at hc
    case h_2 => cases hc
    rename_i s hs
    split at hc
    case isFalse => cases hc
    rename_i hpos
    cases hc
    simp only [evI] at hev
    split at hev
    case h_2 => cases hev
    rename_i id off hq
    cases hev
    have g := hρ x x' hx
    rw [hq] at g
    exact of_good (by simp [execOp, ho]) (faddr_sim R hu hf hs hpos g) hn
  case field t x f =>
    split at hc
    case h_2 => cases hc
    rename_i fields x' hu hx
    split at hc
    case h_2 => cases hc
    rename_i fl hf
    split at hc
    case h_2 => cases hc
    rename_i s d hs hd
    cases hc
    simp only [evI] at hev
    split at hev
    case h_2 => cases hev
    rename_i cs hq
    have g := hρ x x' hx
    rw [hq] at g
    cases hp : partV (aggD d) cs fl.offset s with
    | none => rw [hp] at hev; cases hev
    | some u => rw [hp] at hev; cases hev; exact of_good (by simp [execOp, ho]) (field_sim R hu hf hs hd g hp) hn
  case indexAddr t x ix =>
    split at hc
    · rename_i e x' i' hu hx hi
      split at hc
      case h_2 => cases hc
      rename_i s hs
      cases hc
      simp only [evI] at hev
      cases hq : iaddrV s (x'.ev T) (i'.ev T) with
      | none => rw [hq] at hev; cases hev
      | some u => rw [hq] at hev; cases hev; exact of_good (by simp [execOp, ho]) (iaddr_sim R hu hs (hρ x x' hx) (hρ ix i' hi) hq) hn
    · rename_i n e x' i' hu hx hi
      split at hc
      case h_2 => cases hc
      rename_i s hs
      cases hc
      simp only [evI] at hev
      cases hq : aaddrV n s (x'.ev T) (i'.ev T) with
      | none => rw [hq] at hev; cases hev
      | some u => rw [hq] at hev; cases hev; exact of_good (by simp [execOp, ho]) (aaddr_sim R hu hs (hρ x x' hx) (hρ ix i' hi) hq) hn
    · cases hc
  case index t x ix =>
    split at hc
    · rename_i n e x' i' hu hx hi
      split at hc
      case h_2 => cases hc
      rename_i s d hs hd
      cases hc
      simp only [evI] at hev
      cases hq : aindexV (aggD d) n s (x'.ev T) (i'.ev T) with
      | none => rw [hq] at hev; cases hev
      | some u => rw [hq] at hev; cases hev; exact of_good (by simp [execOp, ho]) (aindex_sim R hu hs hd (hρ x x' hx) (hρ ix i' hi) hq) hn
    · rename_i x' i' hu hx hi
      cases hc
      simp only [evI] at hev
      cases hq : strindexV (x'.ev T) (i'.ev T) with
      | none => rw [hq] at hev; cases hev
      | some u => rw [hq] at hev; cases hev; exact of_good (by simp [execOp, ho]) (strindex_sim R hu (hρ x x' hx) (hρ ix i' hi) hq) hn
    · cases hc
  case extract x ix =>
    cases hx : cOpd P x with
    | none => rw [hx] at hc; cases hc
    | some y =>
      rw [hx] at hc; cases hc
      have g := hρ x y hx
      simp only [evI] at hev
      split at hev
      case h_2 => cases hev
      rename_i vs hq
      rw [hq] at g
      cases hq2 : vs[ix]? with
      | none => rw [hq2] at hev; cases hev
      | some u => rw [hq2] at hev; cases hev; exact of_good (by simp [execOp, ho]) (ext_sim R g hq2) hn
  case call c =>
    obtain ⟨callee, args, argTypes⟩ := c
    simp only at hc
    split at hc
    · -- a function's value
      rename_i f
      split at hc
      case h_2 => cases hc
      rename_i f' as hf has
      cases hc
      simp only [evI] at hev
      split at hev
      case h_2 => cases hev
      rename_i g first captured hq
      have gf := hρ f f' hf
      rw [hq] at gf
      have gas := hT.opds hgl _ _ has
      cases hq2 : a.eval f <;> rw [hq2] at gf <;> try (cases gf; done)
      rename_i fn2 first2 cap2
      cases gf with
      | func _ _ _ _ _ s1 s2 e1 e2 =>
      obtain ⟨hok, _, hcalls⟩ := hcl.c _ _ _ _ _ hev
      have hargs : VRs β (first.toList ++ as.map (Opd.ev T) ++ captured.toList) (first2 ++ args.map a.eval ++ cap2).toList := by
        simp only [Array.toList_append, Array.toList_map]
        exact ((vrs_of_arr s1 e1).append gas).append (vrs_of_arr s2 e2)
      have hrun : (execOp a.eval o).run P w = .ok (.enter g (first2 ++ args.map a.eval ++ cap2)) w := by
        simp only [execOp, ho, resolve, Deferred.ofValue, hq2, Sem.run_bind, Sem.run_pure, Result.andThen_ok, invoke]
        exact hok _ _
      unfold Oper.wp
      rw [hrun, Oper.upon_enter]
      refine (hcalls β w _ R hargs).mono ?_
      rintro e w' ⟨β', v', rfl, h1, h2, h3⟩
      exact hn β' v' w' h1 h2 h3
    · -- len
      split at hc
      case h_2 => cases hc
      rename_i t x ht has
      have gas := hT.opds hgl _ _ has
      have hone : ∃ x', (args.map a.eval) = #[x'] ∧ VR β (x.ev T) x' := by
        have hl := gas.1
        simp at hl
        obtain ⟨x', hx'⟩ : ∃ x', args.toList.map a.eval = [x'] := by
          cases hq : args.toList with
          | nil => simp [← Array.length_toList, hq] at hl
          | cons y l =>
            cases l with
            | nil => exact ⟨_, rfl⟩
            | cons z l => simp [← Array.length_toList, hq] at hl
        refine ⟨x', by rw [← Array.toList_inj]; simpa using hx', ?_⟩
        obtain ⟨v', h1, h2⟩ := gas.2 0 _ rfl
        rw [hx'] at h1; simp at h1; subst h1; exact h2
      obtain ⟨x', hx', hvr⟩ := hone
      split at hc
      · rename_i e hu
        cases hc
        simp only [evI] at hev
        split at hev
        case h_2 => cases hev
        rename_i ad n cp hq
        cases hev
        rw [hq] at hvr
        exact of_good (by simp [execOp, ho, resolve, invoke, builtin, hx']; rfl) (len_sim R ht hu hvr) hn
      · rename_i hu
        cases hc
        simp only [evI] at hev
        split at hev
        case h_2 => cases hev
        rename_i st hq
        cases hev
        rw [hq] at hvr
        exact of_good (by simp [execOp, ho, resolve, invoke, builtin, hx']; rfl) (strlen_sim R ht hu hvr) hn
      · rename_i n e hu
        cases hc
        simp only [evI] at hev
        cases hev
        refine of_good (s := Builtin.len_ argTypes o.type #[x']) (by simp [execOp, ho, resolve, invoke, builtin, hx']) (Good.same R (v' := .int .i64 n) ?_ (.int _ _)) hn
        simp [Builtin.len_, ht, run_und hu, goInt]
      · rename_i kt e hu
        cases hc
        simp only [evI] at hev
        cases hq : H.entries (x.ev T) with
        | none => rw [hq] at hev; cases hev
        | some p =>
          obtain ⟨es, c⟩ := p
          rw [hq] at hev; cases hev
          exact of_good (by simp [execOp, ho, resolve, invoke, builtin, hx']; rfl) (maplen_sim R ht hu hvr hq) hn
      · exact (stuck_no hc hev).elim
    · -- cap
      split at hc
      case h_2 => exact (stuck_no hc hev).elim
      rename_i t x ht has
      obtain ⟨x', hx', hvr⟩ := one_of (hT.opds hgl _ _ has)
      split at hc
      · rename_i e hu
        cases hc
        simp only [evI] at hev
        cases hq : capV (x.ev T) with
        | none => rw [hq] at hev; cases hev
        | some u => rw [hq] at hev; cases hev; exact of_good (s := Builtin.cap_ argTypes o.type #[x']) (by simp [execOp, ho, resolve, invoke, builtin, hx']) (cap_sim R ht hu hvr hq) hn
      · exact (stuck_no hc hev).elim
    · -- copy
      split at hc
      case h_2 => exact (stuck_no hc hev).elim
      rename_i t x y ht has
      obtain ⟨x', y', hxy, hvx, hvy⟩ := two_of (hT.opds hgl _ _ has)
      split at hc
      · rename_i e hu
        split at hc
        · rename_i n hs
          split at hc
          · cases hc
            simp only [evI] at hev
            exact of_good (s := Builtin.copy_ argTypes o.type #[x', y']) (by simp [execOp, ho, resolve, invoke, builtin, hxy]) (copy_sim R ht hu hs hvx hvy hev) hn
          · exact (stuck_no hc hev).elim
        · exact (stuck_no hc hev).elim
      · exact (stuck_no hc hev).elim
    · -- clear
      split at hc
      case h_2 => exact (stuck_no hc hev).elim
      rename_i t x ht has
      obtain ⟨x', hx', hvr⟩ := one_of (hT.opds hgl _ _ has)
      split at hc
      · rename_i e hu
        split at hc
        · rename_i n z hs hz
          split at hc
          · rename_i hpos
            cases hc
            simp only [evI] at hev
            cases hq : H.clear n z (x.ev T) with
            | none => rw [hq] at hev; cases hev
            | some H1 =>
              rw [hq] at hev; cases hev
              obtain ⟨w', h1, h2⟩ := clear_sim (ty := o.type) R ht hu hs hz hpos hvr hq
              exact of_good (s := Builtin.clear_ argTypes o.type #[x']) (by simp [execOp, ho, resolve, invoke, builtin, hx']) ⟨β, undef, w', h1, Emb.le_refl β, h2, .undef β⟩ hn
          · exact (stuck_no hc hev).elim
        · exact (stuck_no hc hev).elim
      · rename_i kt e hu
        cases hc
        simp only [evI] at hev
        cases hq : H.mapclear (x.ev T) with
        | none => rw [hq] at hev; cases hev
        | some H1 =>
          rw [hq] at hev; cases hev
          obtain ⟨w', h1, h2⟩ := mapclear_sim (ty := o.type) R ht hu hvr hq
          exact of_good (s := Builtin.clear_ argTypes o.type #[x']) (by simp [execOp, ho, resolve, invoke, builtin, hx']) ⟨β, undef, w', h1, Emb.le_refl β, h2, .undef β⟩ hn
      · exact (stuck_no hc hev).elim
    · -- delete
      split at hc
      case h_2 => exact (stuck_no hc hev).elim
      rename_i t x y ht has
      obtain ⟨x', y', hxy, hvx, hvy⟩ := two_of (hT.opds hgl _ _ has)
      split at hc
      · rename_i kt e hu
        split at hc
        · rename_i m hm
          cases hc
          simp only [evI] at hev
          cases hq : H.mapdel m (x.ev T) (y.ev T) with
          | none => rw [hq] at hev; cases hev
          | some H1 =>
            rw [hq] at hev; cases hev
            obtain ⟨w', h1, h2⟩ := mapdel_sim (ty := o.type) R ht hu hm hvx hvy hq
            exact of_good (s := Builtin.delete_ argTypes o.type #[x', y']) (by simp [execOp, ho, resolve, invoke, builtin, hxy]) ⟨β, undef, w', h1, Emb.le_refl β, h2, .undef β⟩ hn
        · exact (stuck_no hc hev).elim
      · exact (stuck_no hc hev).elim
    · -- append
      split at hc
      case h_2 => cases hc
      rename_i t u x y ht hu' has
      have gas := hT.opds hgl _ _ has
      have htwo : ∃ x' y', (args.map a.eval) = #[x', y'] ∧ VR β (x.ev T) x' ∧ VR β (y.ev T) y' := by
        have hl := gas.1
        simp at hl
        obtain ⟨x', y', hx'⟩ : ∃ x' y', args.toList.map a.eval = [x', y'] := by
          cases hq : args.toList with
          | nil => simp [← Array.length_toList, hq] at hl
          | cons y l =>
            cases l with
            | nil => simp [← Array.length_toList, hq] at hl
            | cons z l =>
              cases l with
              | nil => exact ⟨_, _, rfl⟩
              | cons u l => simp [← Array.length_toList, hq] at hl
        refine ⟨x', y', by rw [← Array.toList_inj]; simpa using hx', ?_, ?_⟩
        · obtain ⟨v', h1, h2⟩ := gas.2 0 _ rfl
          rw [hx'] at h1; simp at h1; subst h1; exact h2
        · obtain ⟨v', h1, h2⟩ := gas.2 1 _ rfl
          rw [hx'] at h1; simp at h1; subst h1; exact h2
      obtain ⟨x', y', hxy, hvx, hvy⟩ := htwo
      split at hc
      case h_2 => cases hc
      rename_i e d hu hd
      split at hc
      case h_2 => cases hc
      rename_i i z hi hz
      split at hc
      case isFalse => cases hc
      rename_i hcond
      cases hc
      simp only [evI] at hev
      exact of_good (by simp [execOp, ho, resolve, invoke, builtin, hxy]; rfl) (append_sim R ht hu' hu hd hcond.1 hi hz hcond.2.1 hcond.2.2 hvx hvy hev (hb rfl)) hn
    · -- max
      split at hc
      case h_2 => cases hc
      rename_i x y has
      have gas := hT.opds hgl _ _ has
      have htwo : ∃ x' y', (args.map a.eval) = #[x', y'] ∧ VR β (x.ev T) x' ∧ VR β (y.ev T) y' := by
        have hl := gas.1
        simp at hl
        obtain ⟨x', y', hx'⟩ : ∃ x' y', args.toList.map a.eval = [x', y'] := by
          cases hq : args.toList with
          | nil => simp [← Array.length_toList, hq] at hl
          | cons y l =>
            cases l with
            | nil => simp [← Array.length_toList, hq] at hl
            | cons z l =>
              cases l with
              | nil => exact ⟨_, _, rfl⟩
              | cons u l => simp [← Array.length_toList, hq] at hl
        refine ⟨x', y', by rw [← Array.toList_inj]; simpa using hx', ?_, ?_⟩
        · obtain ⟨v', h1, h2⟩ := gas.2 0 _ rfl
          rw [hx'] at h1; simp at h1; subst h1; exact h2
        · obtain ⟨v', h1, h2⟩ := gas.2 1 _ rfl
          rw [hx'] at h1; simp at h1; subst h1; exact h2
      obtain ⟨x', y', hxy, hvx, hvy⟩ := htwo
      cases hc
      simp only [evI] at hev
      cases hq : minmaxV true (x.ev T) (y.ev T) with
      | none => rw [hq] at hev; cases hev
      | some u =>
        rw [hq] at hev; cases hev
        exact of_good (s := Builtin.max_ argTypes o.type #[x', y']) (by simp [execOp, ho, resolve, invoke, builtin, hxy]) (by simpa using minmax_sim (ts := argTypes) (ty := o.type) R hvx hvy hq) hn
    · -- min
      split at hc
      case h_2 => cases hc
      rename_i x y has
      have gas := hT.opds hgl _ _ has
      have htwo : ∃ x' y', (args.map a.eval) = #[x', y'] ∧ VR β (x.ev T) x' ∧ VR β (y.ev T) y' := by
        have hl := gas.1
        simp at hl
        obtain ⟨x', y', hx'⟩ : ∃ x' y', args.toList.map a.eval = [x', y'] := by
          cases hq : args.toList with
          | nil => simp [← Array.length_toList, hq] at hl
          | cons y l =>
            cases l with
            | nil => simp [← Array.length_toList, hq] at hl
            | cons z l =>
              cases l with
              | nil => exact ⟨_, _, rfl⟩
              | cons u l => simp [← Array.length_toList, hq] at hl
        refine ⟨x', y', by rw [← Array.toList_inj]; simpa using hx', ?_, ?_⟩
        · obtain ⟨v', h1, h2⟩ := gas.2 0 _ rfl
          rw [hx'] at h1; simp at h1; subst h1; exact h2
        · obtain ⟨v', h1, h2⟩ := gas.2 1 _ rfl
          rw [hx'] at h1; simp at h1; subst h1; exact h2
      obtain ⟨x', y', hxy, hvx, hvy⟩ := htwo
      cases hc
      simp only [evI] at hev
      cases hq : minmaxV false (x.ev T) (y.ev T) with
      | none => rw [hq] at hev; cases hev
      | some u =>
        rw [hq] at hev; cases hev
        exact of_good (s := Builtin.min_ argTypes o.type #[x', y']) (by simp [execOp, ho, resolve, invoke, builtin, hxy]) (by simpa using minmax_sim (ts := argTypes) (ty := o.type) R hvx hvy hq) hn
    · exact (stuck_no hc hev).elim

end
end Go.Proofs.YtiphbdhclldllaaGreatDoor.Mx
