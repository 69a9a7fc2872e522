/- A part of the proof that the law answers true at every input: the texts ZajB; no conditions. -/
import Derived.Test.YtapkmhneneffdaaGreatDoorMcE
import Derived.Test.YtapkmhneneffdaaGreatDoorCnD
set_option linter.unusedSimpArgs false
set_option linter.unusedVariables false
set_option linter.constructorNameAsVariable false

/-! The text ZajB. -/
namespace Go.Proofs.YtapkmhneneffdaaGreatDoor.M3.T
open Go Go.Proofs.YtapkmhneneffdaaGreatDoor.Mx Go.Proofs.YtapkmhneneffdaaGreatDoor.M3
set_option maxRecDepth 100000
def sel30 : Nat → Bool := fun f => ([4, 5, 27, 41] : List Nat).contains f
def no30 : Nat → Bool := ovd0
def sg30 : List (Nat × Sg) := [(4, .one enB), (5, .one enB), (27, .one ⟨LModule, eModule⟩), (41, .one enII)]
abbrev enM : En := ⟨LModule, eModule⟩
theorem law_tree (G : Gl) (q : Q) (m : LModule) (t n : Int) : topY G pu0 no30 cln0 sel30 (fun g as X _ κ => clQ q sg30 g as X κ) Γ 12 3 [eModule m, eI t, eI n] =
    bnd (q.c enB 4 [eModule m, .sl true []]) fun b => bif b then bnd (q.c enB 5 []) fun r => bif r then some (.b true) else some (.b false) else
      bnd (q.c enM 27 [eModule m]) fun m1 => bnd (q.c enM 27 [eModule m]) fun m2 =>
      bnd (q.c enII 41 [eI t]) fun _ => bnd (q.c enII 41 [eI t]) fun _ =>
      bnd (q.c enB 5 []) fun r => bif r then some (.b true) else some (.b false) := by
  kernel_rfl

theorem acc_c {G : Gl} {ov : Nat → List V → Option V} (t : Int) : Cal G ov enII 41 [eI t] (fun _ => True) := by
  refine con eII_inj ok41 (t41 G _ _ t) ?_
  repeat' first | (refine Ex.cond (fun _ => ?_) (fun _ => ?_)) | exact Ex.mk (a := (_, _)) trivial

/-- The law answers true. -/
theorem law_W {G : Gl} {ov : Nat → List V → Option V} (m : LModule) (t n : Int) (hB : BMod m) (hK : KMod m) (hov : ov 5 [] = some (.b true)) : w0 G ov 3 [eModule m, eI t, eI n] .emp = some (.b true, .emp) := by
  refine topY_W (tab := fun g as X _ κ => clQ (q0 G ov) sg30 g as X κ) (no := no30) (sel := sel30) (k := 12) (fun g as X _ _ _ κ κ' h => clR (sg := sg30) (st := []) g as X κ κ' h) (fun f h => h) rfl rfl rfl ?_
  rw [law_tree]
  have hw : (q0 G ov).c enB 5 [] = some true := call_eq pu0 (w0 G ov) b_inj rfl (W_known rfl hov)
  obtain ⟨b, h1, _⟩ := large_c (G := G) (ov := ov) m hB ⟨true, []⟩ (by simp)
  have h1 : (q0 G ov).c enB 4 [eModule m, .sl true []] = some b := h1
  obtain ⟨m1, h2, _⟩ := clone_c (G := G) (ov := ov) m hK
  obtain ⟨x, h3, _⟩ := acc_c (G := G) (ov := ov) t
  have h2 : (q0 G ov).c enM 27 [eModule m] = some m1 := h2
  cases b with
  | true => simp only [h1, hw, bnd, cond_true]
  | false => simp only [h1, h2, h3, hw, bnd, cond_true, cond_false]
end Go.Proofs.YtapkmhneneffdaaGreatDoor.M3.T
