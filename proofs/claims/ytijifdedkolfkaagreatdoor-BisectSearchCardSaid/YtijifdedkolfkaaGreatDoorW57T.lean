/- The law BisectSearch answers true at every input, and its argument reads as before; the tables are as the program's text lays them (a tied card); no other condition. -/
import Derived.Test.YtijifdedkolfkaaGreatDoorW57B
import Derived.Test.YtijifdedkolfkaaGreatDoorW57U
import Derived.Test.YtijifdedkolfkaaGreatDoorW57V
import Derived.Test.YtijifdedkolfkaaGreatDoorZacX
import Derived.Test.YtijifdedkolfkaaGreatDoorCards
import Derived.Test.YtijifdedkolfkaaGreatDoorTie
import Derived.Lib.LaidIn
import Derived.Lib.LaidTab
import Derived.Lib.LaidU8
import Derived.Deep.DeepHandedRow
import Derived.Deep.DeepWitnessRowRef
import Derived.ProofKit
import Derived.SizedLaws
import Derived.SevenTiedAt
import Derived.OpenShut
import Derived.Below
set_option linter.unusedSimpArgs false
set_option linter.unusedVariables false
namespace Go.Proofs.YtijifdedkolfkaaGreatDoor.Ab
open Go Go.Proofs.YtijifdedkolfkaaGreatDoor.Mac Go.ChangeShapes Go.WideShapes Go.ChangeAt Go.RowKit Go.Lib Go.Deep
set_option maxRecDepth 1000000

theorem own : ownKnob Tryz.prog.godebug = none := by kernel_rfl
theorem laidOut : laidOutB Tryz.prog = true := by kernel_rfl
theorem u4 : Tryz.prog.underlying 4 = some .bool := by kernel_rfl
theorem u22 : Tryz.prog.underlying 22 = some (.slice 4) := by kernel_rfl
theorem c4' : Tryz.prog.cellsOf 4 = 1 := by kernel_rfl
theorem p3 : Tryz.f3.params = #[22] := by kernel_rfl
theorem gsize : Tryz.prog.globals.size = 5 := by kernel_rfl

/-! ### the closed examples -/
theorem tabs0 : Mac.Tables Tryz.prog.globals.size (⟨5, .nil⟩ : Heap) := by
  rw [gsize]
  exact ⟨rfl, fun id ob h => by simp [Heap.get, Tr.get] at h⟩
theorem ovPut : OvGood ov := by
  refine ⟨fun f args H v n h => ?_, fun f args H j o h _ _ => ?_⟩
  · unfold ov at h ⊢
    split at h
    · rename_i hc
      cases h
      exact ⟨Nat.le_refl _, fun j o _ _ => by rw [if_pos hc]; rfl⟩
    · cases h
  · unfold ov at h ⊢
    split at h
    · cases h
    · rename_i hc; rw [if_neg hc]
theorem ovOk : OvOk Tryz.prog ov := by
  intro f args H v n h
  unfold ov at h
  split at h
  · rename_i hc
    cases h
    obtain ⟨rfl, ha⟩ := hc
    have ha' : args = [] := by simpa using ha
    subst ha'
    have hr := examples_true
    cases he : evF Γ (fun _ _ _ => none) 100 4 [] ⟨5, .nil⟩ with
    | none => rw [he] at hr; cases hr
    | some p =>
      obtain ⟨u, H'⟩ := p
      rw [he] at hr
      have hu : u = .bool true := by
        cases u <;> simp [isTrue] at hr
        rw [hr]
      subst hu
      exact known_closed mixed tab ovNone ovNoneGood tabs0 he rfl rfl (fun id ob h => by simp [Heap.get, Tr.get] at h)
  · cases h

/-! ### an input that fits -/
def valOf : DataW Unit → Value
  | .lit (.int k n) => .int k n
  | _ => undef
def rowOf : DataW Unit → Array Value
  | .agg l => (l.map valOf).toArray
  | _ => #[]
noncomputable def laidWorld (os : Os) : World :=
  let w0 := World.holding Tryz.prog os ⟨#[], #[], []⟩
  let put (h : Array Obj) (n : String) (cs : Array Value) : Array Obj := match Tryz.prog.globalNamed n with
    | some g => h.modify g fun
      | .cells _ t frozen => .cells cs t frozen
      | o => o
    | none => h
  let h1 := put w0.heap "math/bits.deBruijn32tab" (rowOf Rows.laid_math_bits_deBruijn32tab)
  let h2 := put h1 "math/bits.deBruijn64tab" (rowOf Rows.laid_math_bits_deBruijn64tab)
  let h3 := put h2 "burnish/intn.widths" (rowOf Rows.laid_burnish_intn_widths)
  let h4 := put h3 "internal/strconv.uint64pow10" (rowOf Rows.laid_internal_strconv_uint64pow10)
  let h5 := put h4 "burnish/validator.accepted" (rowOf Rows.laid_burnish_validator_accepted)
  { w0 with heap := h5 }
def wargs : Array Value := #[.slice none 0 0]
theorem laid_met (os : Os) (args : Array Value) : laidMet Tryz.prog Rows.bisectSearchRow.laid ((laidWorld os).forCall (fun _ _ => 0) ⟨#[], args, []⟩).memory :=
  (LaidIn.of_run (l := Rows.bisectSearchRow.laid) [0, 1, 2, 3, 4] 8 (by kernel_rfl) (by kernel_rfl) (by kernel_rfl) (by kernel_rfl)).met

noncomputable def nSpec : OpenSpec := OpenSpec.ofChange Rows.bisectSearchSpec

theorem witness_row (os : Os) {H : Type} (enc : TypeId × Value → H) :
    nSpec.preRow enc Tryz.prog Tryz.f3 Rows.bisectSearchRow.domain false Rows.bisectSearchRow.laid ((laidWorld os).forCall (fun _ _ => 0) ⟨#[], wargs, []⟩).memory wargs := by
  have hw : (DataW.whole enc Tryz.prog ((laidWorld os).forCall (fun _ _ => 0) ⟨#[], wargs, []⟩).memory Tryz.f3.params.toList nSpec.vars false wargs.toList 8).isSome = true := by kernel_rfl
  obtain ⟨x, hx⟩ := Option.isSome_iff_exists.1 hw
  exact OpenSpec.preRow_of_cond 8 hx (by kernel_rfl) (fun k hk => by cases hk) (by kernel_rfl) (laid_met os _)

theorem glob {W : World} (h : W.ShapedOpen Tryz.prog) (g : Nat) (hg : g < 5) (hr : (((begin Tryz.prog (fun _ _ => 0) default).world.heap[g]?).bind Obj.row?).isSome = true) : ∃ cs t, W.heap[g]? = some (.cells cs t) := by
  obtain ⟨⟨z, t⟩, hz⟩ := Option.isSome_iff_exists.1 hr
  obtain ⟨cs, h1, _⟩ := h.1 g z t (by rw [gsize]; exact hg) hz
  exact ⟨cs, t, h1⟩

theorem bools_of {H : Type} {enc : TypeId × Value → H} {W : World} {a : Option Addr} {l c : Nat} {d : DataW H} {ps : List MemPlace} (h : DataW.Trod enc Tryz.prog W 0 (fun _ => true) true 22 (.slice a l c) d ps) :
    ∃ (N : Nat) (B : Nat → Bool), RdB (heapOf W) (trV W (.slice a l c)) N B ∧ N ≤ 9223372036854775807 := by
  obtain ⟨fuel, hf⟩ := h
  rcases open_bools u22 u4 c4' hf with ⟨hcs, _⟩ | ⟨x, l', c', B, hcs, _, hl, hm, _, hcell⟩
  · simp [Value.cells] at hcs
    obtain ⟨rfl, rfl, rfl⟩ := hcs
    exact ⟨0, _, rdB_nil, by omega⟩
  · simp [Value.cells] at hcs
    obtain ⟨rfl, rfl, rfl⟩ := hcs
    have : maxLen ≤ 9223372036854775807 := by decide
    exact ⟨_, B, rdB_of hl hcell, by omega⟩

theorem search_lifted (os : Os) (started : os.Started) (H : Type) (enc : TypeId × Value → H) (F : Stop.Interp) :
    ReturnsInHanded {} Tryz.checked os 3 .any (nSpec.preRow enc Tryz.prog Tryz.f3 Rows.bisectSearchRow.domain false Rows.bisectSearchRow.laid) ((nSpec.at F).post enc Tryz.prog Tryz.f3 false true false false) := by
  refine returnsInHanded_of_row (C := Tryz.checked) (s := nSpec) own started (by kernel_rfl) Tryz.func3
    (witness_row_atRef (enc := enc) (C := Tryz.checked) false (laidWorld os) wargs rfl (by kernel_rfl) (by kernel_rfl) (by kernel_rfl) (witness_row os enc)) ?_
  intro W base args ds gs before hval0 hW _ _ _ hL hSh _
  have hval : ∀ (j : Nat) t v, Tryz.f3.params[j]? = some t → args[j]? = some v → Value.okWide Tryz.prog W .any base t v := hval0
  have hW' := hW
  obtain ⟨p, q, hA0, hV0, rfl, _, _⟩ := hW
  have hA : DataW.TrodAll enc Tryz.prog W 0 (fun _ => true) true Tryz.f3.params.toList args.toList ds p := hA0
  rw [p3] at hA hval
  obtain ⟨v0, vs0, d0, ds0, p0, q0, hargs, rfl, rfl, h0, r0⟩ := trodAll_cons hA
  obtain ⟨rfl, rfl, rfl⟩ := trodAll_nil r0
  obtain rfl : args = #[v0] := by cases args; simp_all
  obtain ⟨rfl, rfl⟩ := trodVars_none hV0
  obtain ⟨a0, len0, cap0, rfl⟩ := okWide_slice u22 (hval 0 22 v0 rfl rfl)
  have lt0 : ∀ x ∈ p0, x.block < W.heap.size := by obtain ⟨m, hm⟩ := h0; exact DataW.trod_lt m _ _ _ hm
  obtain ⟨_, _, h3⟩ := glob hSh 4 (by omega) (by kernel_rfl)
  have hG : Tryz.prog.globals.size ≤ W.heap.size := by rw [gsize]; have := (Array.getElem?_eq_some_iff.1 h3).1; omega
  obtain ⟨N, B, hR, hN⟩ := bools_of h0
  obtain ⟨H', hev⟩ := law_ev hR hN
  clear hA0 hval0
  refine (law_calls mixed tab ovOk ovPut hG (args := #[.slice a0 len0 cap0]) hev).mono fun e W' ⟨he, bel⟩ => ?_
  subst he
  exact ⟨_, rfl, _, _, _, [], _, [], hW', trodAll_mk1 (shut_bool u4 _), (trodAll_cons_mk (Below.trod laidOut (by kernel_rfl) (of_decide_eq_true (by kernel_rfl)) h0 bel lt0) trodAll_mk0), rfl, bel.frame _, fun h => by cases h⟩

theorem and2 {a b : Bool} (h : a = true) (h' : b = true) : (a && b) = true := by rw [h, h']; rfl
theorem closed : joinedFacts Tryz.prog 3 Tryz.f3 Rows.bisectSearchSpec Rows.bisectSearchRow = true := by
  unfold joinedFacts
  exact (and2 (and2 (and2 (and2 (and2 (and2 (and2 (and2 (and2 (and2 (and2 (and2 (and2 (and2 (and2 (and2 (and2 (and2 (and2 (and2 (and2 (and2 (and2 (and2 (and2 (and2 (and2 (and2 (and2 (and2 (and2 cf1 cf2) cf3) cf4) cf5) cf6) cf7) cf8) cf9) cf10) cf11) cf12) cf13) cf14) cf15) cf16) cf17) cf18) cf19) cf20) cf21) cf22) cf23) cf24) cf25) cf26) cf27) cf28) cf29) cf30) cf31) cf32)

theorem search_holds : Rows.BisectSearchSaid :=
  OpenClaim.holds_of_cond 3 Tryz.f3 rfl rfl rfl rfl rfl rfl rfl ⟨rfl, rfl, rfl, rfl, rfl⟩ rfl rfl rfl rfl rfl (by kernel_rfl) Tryz.func3 closed
    (of_decide_eq_true (by kernel_rfl)) (by unfold Func.isWrapper; rw [if_neg (of_decide_eq_false (by kernel_rfl))]; exact ⟨rfl, rfl⟩)
    (fun os started H enc _ F0 => by rw [OpenClaim.pre_eq_preRow]; exact search_lifted os started H enc F0)

theorem kwf : Rows.bisectSearchRow.wfByText (OpenSpec.ofChange Rows.bisectSearchSpec) = true := by kernel_rfl
theorem kmain : Tryz.pinned.checked.prog.mainIs = some (true, "2cdad635fec2a6a3bc9160ce85f778c829d1821d0d2834185c56504da4fbeff1".toList) := by kernel_rfl
theorem klooks : true = Tryz.pinned.checked.prog.looks [] := by kernel_rfl
theorem kstand : Tryz.pinned.checked.prog.wantsStandIn 22 = false := by kernel_rfl
theorem kgoes : false = Rows.bisectSearchRow.goesBy Tryz.pinned.checked.prog := by kernel_rfl
theorem kfn : Tryz.prog.funcNamed "burnish/burnishlaw57.BisectSearch" = some 3 := by kernel_rfl

/-- The law BisectSearch answers true at every input: the tied card. -/
theorem search_card : Rows.BisectSearchCardSaid :=
  Claim7.holds_tied_plain_at .later [] [.data, .data, .data, .data, .data] true (true, "2cdad635fec2a6a3bc9160ce85f778c829d1821d0d2834185c56504da4fbeff1") true
    search_holds (fun _ h => by cases h) kwf (fun _ h => by cases h) bisectSearch_row_tie rfl ⟨rfl, rfl⟩ kmain rfl
    (fun f fn hf hfn => by
      obtain rfl : f = 3 := Option.some.inj (kfn.symm.trans hf) |>.symm
      obtain rfl : fn = Tryz.f3 := (Option.some.inj (Tryz.func3.symm.trans hfn)).symm
      refine ⟨klooks, fun j t ht => ?_⟩
      rw [p3] at ht
      have h3 : t = 22 := by
        rcases j with _ | j
        · simpa using ht.symm
        · simp at ht
      subst h3
      exact kstand)
    kgoes

end Go.Proofs.YtijifdedkolfkaaGreatDoor.Ab
