/- A part of the proof that the law answers true at every input: the texts ZahH; no conditions. -/
import Derived.Test.YtapkmhneneffdaaGreatDoorCnA
set_option linter.unusedSimpArgs false
set_option linter.unusedVariables false
set_option linter.constructorNameAsVariable false

/-! The text ZahH. -/
namespace Go.Proofs.YtapkmhneneffdaaGreatDoor.M3.T
open Go Go.Proofs.YtapkmhneneffdaaGreatDoor.Mx Go.Proofs.YtapkmhneneffdaaGreatDoor.M3
set_option maxRecDepth 10000
section
variable {G : Gl} {ov : Nat → List V → Option V}
theorem et {a b : Int} (h : eqI a b = true) : a = b := by simpa [eqI_eq] using h
theorem ef {a b : Int} (h : eqI a b = false) : a ≠ b := by simpa [eqI_eq] using h

theorem wide_c (t : Int) : Cal G ov enB 189 [eI t] (fun _ => True) := by
  refine con b_inj ok189 (t189 G _ _ t) ?_
  repeat' first | exact Ex.mk trivial | refine Ex.cond (fun h => ?_) (fun h => ?_)
theorem any_c (t : Int) : Cal G ov enB 188 [eI t] (fun _ => True) := by
  refine con b_inj ok188 (t188 G _ _ t) ?_
  repeat' first | exact Ex.mk trivial | refine Ex.cond (fun h => ?_) (fun h => ?_)
theorem integer_c (t : Int) : Cal G ov enB 187 [eI t] (fun _ => True) := by
  refine con b_inj ok187 (t187 G _ _ t) ?_
  exact Ex.cond (fun _ => Ex.mk trivial) fun _ => Ex.cal (wide_c t) fun _ _ => Ex.cond (fun _ => Ex.mk trivial) fun _ => Ex.mk trivial
abbrev enII : En := ⟨Int × Int, fun r => .tup [eI r.1, eI r.2]⟩
abbrev enIB : En := ⟨Int × Bool, fun r => .tup [eI r.1, V.b r.2]⟩
theorem eII_inj (a b : Int × Int) (h : enII.e a = enII.e b) : a = b := by
  obtain ⟨a1, a2⟩ := a; obtain ⟨b1, b2⟩ := b
  simp only [enII, eI, V.tup.injEq, List.cons.injEq, V.i.injEq, true_and, and_true] at h
  rw [h.1, h.2]
theorem eIB_inj (a b : Int × Bool) (h : enIB.e a = enIB.e b) : a = b := by
  obtain ⟨a1, a2⟩ := a; obtain ⟨b1, b2⟩ := b
  simp only [enIB, eI, V.tup.injEq, List.cons.injEq, V.i.injEq, V.b.injEq, true_and, and_true] at h
  rw [h.1, h.2]
theorem access_c (t : Int) : Cal G ov enII 129 [eI t] (fun _ => True) := by
  refine con eII_inj ok129 (t129 G _ _ t) ?_
  have mk : ∀ a b : Int, Ex enII.e (fun _ => True) (some (.tup [eI a, eI b])) := fun a b => ⟨(a, b), rfl, trivial⟩
  repeat' first | exact mk _ _ | refine Ex.cond (fun h => ?_) (fun h => ?_)

/-- A call names a function that is there. -/
abbrev IOk (m : LModule) (op sym : Int) : Prop := op = 30 → 0 ≤ sym ∧ sym.toNat < m.funcs.l.length

theorem count_c (i : LInstr) (m : LModule) (hO : IOk m i.op i.sym) : Cal G ov enIB 126 [eInstr i, eModule m] (fun r => r.2 = true → (i.op = 30 → ∀ g, m.funcs.l[i.sym.toNat]? = some g → r.1 = g.params.l.length) ∧ (i.op = 33 → r.1 = 1) ∧ (i.op ≠ 30 → r.1 ≤ 4)) := by
  refine con eIB_inj ok126 (t126 G _ _ i m) ?_
  have mk : ∀ (a : Int) (b : Bool) (n : Int), i.op = n → n ≠ 30 → (n = 33 → a = 1) → a ≤ 4 → Ex enIB.e (fun r => r.2 = true → (i.op = 30 → ∀ g, m.funcs.l[i.sym.toNat]? = some g → r.1 = g.params.l.length) ∧ (i.op = 33 → r.1 = 1) ∧ (i.op ≠ 30 → r.1 ≤ 4)) (some (.tup [eI a, .b b])) :=
    fun a b n h h' h3 h4 => ⟨(a, b), rfl, fun _ => ⟨fun h0 => absurd (h ▸ h0) h', fun h0 => h3 (h ▸ h0), fun _ => h4⟩⟩
  iterate 8 (refine Ex.cond (fun h => mk _ _ _ (et h) (by decide) (by decide) (by decide)) fun _ => ?_)
  iterate 3 (refine Ex.cond (fun h => mk _ _ _ (et h) (by decide) (by decide) (by decide)) fun _ => ?_)
  refine Ex.cond (fun h => mk _ _ _ (et h) (by decide) (by decide) (by decide)) fun h33 => Ex.cond (fun h => mk _ _ _ (et h) (by decide) (by decide) (by decide)) fun _ => Ex.cond (fun h => ?_) fun h30 => Ex.cond (fun h => ?_) fun _ => ?_
  · obtain ⟨a, b⟩ := hO (et h)
    refine Ex.bnd (hix eFunc_inj s5 a b) ⟨(_, _), rfl, fun _ => ⟨fun _ g hg => ?_, fun h3 => absurd (h3.symm.trans (et h)) (by decide), fun h3 => absurd (et h) h3⟩⟩
    rw [List.getElem?_eq_getElem b] at hg
    cases hg; simp
  · refine Ex.cond (fun h2 => mk _ _ _ (et h) (by decide) (fun h => by omega) (by have := et h2; omega)) fun _ => Ex.cond (fun h2 => mk _ _ _ (et h) (by decide) (fun h => by omega) (by have := et h2; omega)) fun _ => ⟨(_, _), rfl, fun hf => by cases hf⟩
  · exact ⟨(2, true), rfl, fun _ => ⟨fun h => absurd h (ef h30), fun h => absurd h (ef h33), fun _ => by decide⟩⟩

theorem result_c (i : LInstr) (m : LModule) (hO : IOk m i.op i.sym) : Cal G ov enB 127 [eInstr i, eModule m] (fun _ => True) := by
  refine con b_inj ok127 (t127 G _ _ i m) ?_
  have p8 : Ex V.b (fun _ => True) (k127_8 (K G ov n127) i.ty) := by
    refine Ex.pc ok127 (t127_8 G _ _ _) ?_
    repeat' first | exact Ex.mk trivial | refine Ex.cond (fun h => ?_) (fun h => ?_)
  have p7 : ∀ b, Ex V.b (fun _ => True) (k127_7 (K G ov n127) i m i.ty i.op b) := fun b => by
    refine Ex.pc ok127 (t127_7 G _ _ i m _ _ b) ?_
    refine Ex.cond (fun _ => ?_) fun _ => Ex.cond (fun h => ?_) fun _ => ?_
    · repeat' first | exact Ex.mk trivial | refine Ex.cond (fun h => ?_) (fun h => ?_)
    · obtain ⟨x, y⟩ := hO (et h)
      exact Ex.bnd (hix eFunc_inj s5 x y) (Ex.cond (fun _ => Ex.mk trivial) fun _ => Ex.mk trivial)
    · repeat' first | exact Ex.mk trivial | exact p8 | refine Ex.cond (fun h => ?_) (fun h => ?_)
  have p6 : ∀ b, Ex V.b (fun _ => True) (k127_6 (K G ov n127) i m i.ty i.op b) := fun b => by
    refine Ex.pc ok127 (t127_6 G _ _ i m _ _ b) ?_
    repeat' first | exact Ex.mk trivial | exact p7 _ | refine Ex.cal (access_c _) fun _ _ => ?_ | refine Ex.cond (fun h => ?_) (fun h => ?_)
  have p5 : ∀ b, Ex V.b (fun _ => True) (k127_5 (K G ov n127) i m i.ty i.op b) := fun b => by
    refine Ex.pc ok127 (t127_5 G _ _ i m _ _ b) ?_
    repeat' first | exact Ex.mk trivial | exact p6 _ | refine Ex.cal (wide_c _) fun _ _ => ?_ | refine Ex.cond (fun h => ?_) (fun h => ?_)
  have p4 : ∀ b, Ex V.b (fun _ => True) (k127_4 (K G ov n127) i m i.ty i.op b) := fun b => by
    refine Ex.pc ok127 (t127_4 G _ _ i m _ _ b) ?_
    repeat' first | exact Ex.mk trivial | exact p5 _ | refine Ex.cal (wide_c _) fun _ _ => ?_ | refine Ex.cond (fun h => ?_) (fun h => ?_)
  have p3 : ∀ b, Ex V.b (fun _ => True) (k127_3 (K G ov n127) i m i.ty i.op b) := fun b => by
    refine Ex.pc ok127 (t127_3 G _ _ i m _ _ b) ?_
    repeat' first | exact Ex.mk trivial | exact p4 _ | refine Ex.cal (integer_c _) fun _ _ => ?_ | refine Ex.cond (fun h => ?_) (fun h => ?_)
  have p2 : ∀ b, Ex V.b (fun _ => True) (k127_2 (K G ov n127) i m i.ty i.op b) := fun b => by
    refine Ex.pc ok127 (t127_2 G _ _ i m _ _ b) ?_
    repeat' first | exact Ex.mk trivial | exact p3 _ | refine Ex.cal (wide_c _) fun _ _ => ?_ | refine Ex.cond (fun h => ?_) (fun h => ?_)
  have p1 : ∀ b, Ex V.b (fun _ => True) (k127_1 (K G ov n127) i m i.ty i.op b) := fun b => by
    refine Ex.pc ok127 (t127_1 G _ _ i m _ _ b) ?_
    repeat' first | exact Ex.mk trivial | exact p2 _ | refine Ex.cal (any_c _) fun _ _ => ?_ | refine Ex.cond (fun h => ?_) (fun h => ?_)
  repeat' first | exact Ex.mk trivial | exact p1 _ | refine Ex.cal (integer_c _) fun _ _ => ?_ | refine Ex.cond (fun h => ?_) (fun h => ?_)

theorem operand_c (i : LInstr) (m : LModule) (hO : IOk m i.op i.sym) (k : Nat) (hk : i.op = 30 → ∀ g, m.funcs.l[i.sym.toNat]? = some g → k < g.params.l.length) (a b : Int) : Cal G ov enB 128 [eInstr i, eModule m, eI (k : Int), eI a, eI b] (fun _ => True) := by
  refine con b_inj ok128 (t128 G _ _ i m k a b) ?_
  refine Ex.cal (bits_c a) fun x _ => Ex.cal (bits_c i.ty) fun y _ => ?_
  have p3 : Ex V.b (fun _ => True) (k128_3 (K G ov n128) a i) := by
    refine Ex.pc ok128 (t128_3 G _ _ _ _) ?_
    repeat' first | exact Ex.mk trivial | refine Ex.cond (fun h => ?_) (fun h => ?_)
  have p2 : ∀ c, Ex V.b (fun _ => True) (k128_2 (K G ov n128) k a b i m x y i.op c) := fun c => by
    refine Ex.pc ok128 (t128_2 G _ _ k a b i m x y _ c) ?_
    have call : i.op = 30 → ∀ (p1 p2 p3 p4 p5 p6 : Opd) (H1 H2 : Hp), Ex V.b (fun _ => True) (bnd ((q0 G ov).h (ixH eFunc) (.iaddr 5 p1 p2) [S.enc eFunc m.funcs, eI i.sym] H1) fun n4 => bnd ((q0 G ov).h (ixH eI) (.iaddr 1 p3 p4) [S.enc eI n4.params, eI (k : Int)] H2) fun n5 => bif !(ltI n5 0) then (bif ltI n5 ((n4.regs.l.map eI).length : Int) then (bnd ((q0 G ov).h (ixH eI) (.iaddr 1 p5 p6) [S.enc eI n4.regs, eI n5] H2) fun n6 => bif eqI a n6 then (some (.b true)) else (some (.b false))) else (some (.b false))) else (some (.b false))) := by
      intro h p1 p2 p3 p4 p5 p6 H1 H2
      obtain ⟨u, v⟩ := hO h
      refine Ex.bnd (hix eFunc_inj s5 u v) (Ex.bnd (hixn eI_inj en1 (hk h _ (List.getElem?_eq_getElem v))) (Ex.cond (fun c1 => Ex.cond (fun c2 => ?_) fun _ => Ex.mk trivial) fun _ => Ex.mk trivial))
      simp [ltI_eq] at c1 c2
      exact Ex.bnd (hix eI_inj en1 c1 (by omega)) (Ex.cond (fun _ => Ex.mk trivial) fun _ => Ex.mk trivial)
    repeat' first
      | exact Ex.mk trivial
      | exact p3
      | refine Ex.cal (wide_c _) fun _ _ => ?_
      | refine Ex.cal (any_c _) fun _ _ => ?_
      | refine Ex.cal (access_c _) fun _ _ => ?_
      | exact call (et (by assumption)) _ _ _ _ _ _ _ _
      | refine Ex.cond (fun h => ?_) (fun h => ?_)
  have p1 : ∀ c, Ex V.b (fun _ => True) (k128_1 (K G ov n128) k a b i m x y i.op c) := fun c => by
    refine Ex.pc ok128 (t128_1 G _ _ k a b i m x y _ c) ?_
    repeat' first | exact Ex.mk trivial | exact p2 _ | refine Ex.cal (integer_c _) fun _ _ => ?_ | refine Ex.cond (fun h => ?_) (fun h => ?_)
  repeat' first | exact p1 _ | refine Ex.cond (fun h => ?_) (fun h => ?_)
end
end Go.Proofs.YtapkmhneneffdaaGreatDoor.M3.T
