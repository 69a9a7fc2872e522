/- The law SymexecLogic answers true at every input, and its arguments read as before; the tables are as the program's text lays them (a tied card); no other condition. -/
import Derived.Test.YtiphbdhclldllaaGreatDoorW31H
import Derived.Test.YtiphbdhclldllaaGreatDoorW31U
import Derived.Test.YtiphbdhclldllaaGreatDoorW31V
import Derived.Test.YtiphbdhclldllaaGreatDoorZadX
import Derived.Test.YtiphbdhclldllaaGreatDoorCards
import Derived.Test.YtiphbdhclldllaaGreatDoorTie
import Derived.Lib.LaidIn
import Derived.Lib.LaidTab
import Derived.Lib.LaidU8
import Derived.Deep.DeepHandedRow
import Derived.Deep.DeepWitnessRowRef
import Derived.ProofKit
import Derived.SizedLaws
import Derived.SevenTiedAt
import Derived.OpenShut
import Derived.Below
set_option linter.unusedSimpArgs false
set_option linter.unusedVariables false
namespace Go.Proofs.YtiphbdhclldllaaGreatDoor.Ab
open Go Go.Proofs.YtiphbdhclldllaaGreatDoor.Mx Go.ChangeShapes Go.WideShapes Go.ChangeAt Go.RowKit Go.Lib
set_option maxRecDepth 1000000

theorem own : ownKnob Tryz.prog.godebug = none := by kernel_rfl
theorem laidOut : laidOutB Tryz.prog = true := by kernel_rfl
theorem u2 : Tryz.prog.underlying 2 = some (.int .i64) := by kernel_rfl
theorem u3 : Tryz.prog.underlying 3 = some (.int .i64) := by kernel_rfl
theorem u4 : Tryz.prog.underlying 4 = some .bool := by kernel_rfl
theorem p3 : Tryz.f3.params = #[2, 2, 4, 3] := by kernel_rfl
theorem gsize : Tryz.prog.globals.size = 4 := by kernel_rfl

/-! ### an input that fits -/
def valOf : DataW Unit → Value
  | .lit (.int k n) => .int k n
  | _ => undef
def rowOf : DataW Unit → Array Value
  | .agg l => (l.map valOf).toArray
  | _ => #[]
noncomputable def laidWorld (os : Os) : World :=
  let w0 := World.holding Tryz.prog os ⟨#[], #[], []⟩
  let put (h : Array Obj) (g : Nat) (cs : Array Value) : Array Obj := h.modify g fun
    | .cells _ t frozen => .cells cs t frozen
    | o => o
  let h1 := put w0.heap 0 (rowOf Rows.laid_burnish_intn_widths)
  let h2 := put h1 1 (rowOf Rows.laid_internal_strconv_uint64pow10)
  let h3 := put h2 2 (rowOf Rows.laid_math_bits_deBruijn32tab)
  let h4 := put h3 3 (rowOf Rows.laid_math_bits_deBruijn64tab)
  { w0 with heap := h4 }
def wargs : Array Value := #[.int .i64 0, .int .i64 0, .bool false, .int .i64 0]
theorem laid_met (os : Os) (args : Array Value) : laidMet Tryz.prog Rows.symexecLogicRow.laid ((laidWorld os).forCall (fun _ _ => 0) ⟨#[], args, []⟩).memory :=
  (LaidIn.of_run (l := Rows.symexecLogicRow.laid) [0, 1, 2, 3] 8 (by kernel_rfl) (by kernel_rfl) (by kernel_rfl) (by kernel_rfl)).met

noncomputable def nSpec : OpenSpec := OpenSpec.ofChange Rows.symexecLogicSpec

theorem witness_row (os : Os) {H : Type} (enc : TypeId × Value → H) :
    nSpec.preRow enc Tryz.prog Tryz.f3 Rows.symexecLogicRow.domain false Rows.symexecLogicRow.laid ((laidWorld os).forCall (fun _ _ => 0) ⟨#[], wargs, []⟩).memory wargs := by
  have hw : (DataW.whole enc Tryz.prog ((laidWorld os).forCall (fun _ _ => 0) ⟨#[], wargs, []⟩).memory Tryz.f3.params.toList nSpec.vars false wargs.toList 8).isSome = true := by kernel_rfl
  obtain ⟨x, hx⟩ := Option.isSome_iff_exists.1 hw
  exact OpenSpec.preRow_of_cond 8 hx (by kernel_rfl) (fun k hk => by cases hk) (by kernel_rfl) (laid_met os _)

theorem glob {W : World} (h : W.ShapedOpen Tryz.prog) (g : Nat) (hg : g < 4) (hr : (((begin Tryz.prog (fun _ _ => 0) default).world.heap[g]?).bind Obj.row?).isSome = true) : ∃ cs t, W.heap[g]? = some (.cells cs t) := by
  obtain ⟨⟨z, t⟩, hz⟩ := Option.isSome_iff_exists.1 hr
  obtain ⟨cs, h1, _⟩ := h.1 g z t (by rw [gsize]; exact hg) hz
  exact ⟨cs, t, h1⟩

theorem tab_reads {W : World} {n : String} {g t e m : Nat} {k : IntKind} {zs : List Int} (hg : Tryz.prog.globalNamed n = some g) (hty : (Tryz.prog.globals[g]?).map (·.type) = some t) (ht : Tryz.prog.underlying t = some (.array m e)) (he : Tryz.prog.underlying e = some (.int k))
    (hce : Tryz.prog.cellsOf e = 1) (hct : Tryz.prog.cellsOf t = m) (h : VarReads Tryz.prog W n (tabData k zs)) : ∃ c ty fz, W.heap[g]? = some (.cells c ty fz) ∧ c.toList = zs.map fun z => Value.int k z := by
  obtain ⟨g', t', cs, fuel, p, hg', ht', hvar, hd⟩ := h
  obtain rfl := Option.some.inj (hg.symm.trans hg')
  obtain rfl := Option.some.inj (hty.symm.trans ht')
  have hcs := cells_of_tab ht he hce hct hd
  unfold World.var? at hvar
  rw [hg] at hvar
  simp only [Option.bind_some] at hvar
  split at hvar
  · rename_i c ty fz hc
    cases hvar
    exact ⟨_, ty, fz, hc, hcs⟩
  · cases hvar

theorem hgT (e0 e1 : TypeId) : Mx.Tables Tryz.prog.globals.size (Hg e0 e1) := by
  rw [gsize]
  refine ⟨rfl, fun id ob h => ?_⟩
  exact AllT.at (Q := fun id ob => id < 4 ∧ ∃ e cs, ob = .cells e true cs ∧ cs.all plain = true) (t := (Hg e0 e1).tr) (φ := fun n => n)
    ⟨(fun x h => by cases h; exact ⟨by decide, _, _, rfl, rfl⟩), ⟨(fun x h => by cases h; exact ⟨by decide, _, _, rfl, rfl⟩), trivial, trivial⟩, trivial⟩ id ob h

theorem tb_of {W : World} {c : Array Value} {ty : TypeId} {fz : Nat × Nat} (hc : W.heap[1]? = some (.cells c ty fz)) (he : c.toList = [1, 10, 100, 1000, 10000, 100000, 1000000, 10000000, 100000000, 1000000000, 10000000000, 100000000000, 1000000000000, 10000000000000, 100000000000000, 1000000000000000, 10000000000000000, 100000000000000000, 1000000000000000000, 10000000000000000000].map fun z => Value.int .u64 z) (h1 : 1 < W.heap.size) : Tb ⟨Tryz.prog.globals.size, W.heap.size⟩ W := by
  refine ⟨?_, h1⟩
  have hz : Lib.pow10Tab = [1, 10, 100, 1000, 10000, 100000, 1000000, 10000000, 100000000, 1000000000, 10000000000, 100000000000, 1000000000000, 10000000000000, 100000000000000, 1000000000000000, 10000000000000000, 100000000000000000, 1000000000000000000, 10000000000000000000] := by decide
  unfold Lib.TabIs World.var?
  rw [gpow, hz]
  simp only [Option.bind_some, hc]
  rw [← he]

theorem in64 (a : Int) (h : (Lit.int .i64 a).wf = true) : In64 a := by
  have h' : IntKind.i64.min ≤ a ∧ a ≤ IntKind.i64.max := by simpa [Lit.wf] using h
  have e1 : IntKind.i64.min = -9223372036854775808 := by decide
  have e2 : IntKind.i64.max = 9223372036854775807 := by decide
  rw [e1, e2] at h'
  exact h'

theorem logic_lifted (os : Os) (started : os.Started) (H : Type) (enc : TypeId × Value → H) (F : Stop.Interp) :
    ReturnsInHanded {} Tryz.checked os 3 .any (nSpec.preRow enc Tryz.prog Tryz.f3 Rows.symexecLogicRow.domain false Rows.symexecLogicRow.laid) ((nSpec.at F).post enc Tryz.prog Tryz.f3 false true false false) := by
  refine returnsInHanded_of_row (C := Tryz.checked) (s := nSpec) own started (by kernel_rfl) Tryz.func3
    (witness_row_atRef (enc := enc) (C := Tryz.checked) false (laidWorld os) wargs rfl (by kernel_rfl) (by kernel_rfl) (by kernel_rfl) (witness_row os enc)) ?_
  intro W base args ds gs before hval0 hW _ _ _ hL hSh _
  have hval : ∀ (j : Nat) t v, Tryz.f3.params[j]? = some t → args[j]? = some v → Value.okWide Tryz.prog W .any base t v := hval0
  have hW' := hW
  obtain ⟨p, q, hA0, hV0, rfl, _, _⟩ := hW
  have hA : DataW.TrodAll enc Tryz.prog W 0 (fun _ => true) true Tryz.f3.params.toList args.toList ds p := hA0
  rw [p3] at hA hval
  obtain ⟨v0, vs0, d0, ds0, p0, q0, hargs, rfl, rfl, h0, r0⟩ := trodAll_cons hA
  obtain ⟨v1, vs1, d1, ds1, p1, q1, rfl, rfl, rfl, h1, r1⟩ := trodAll_cons r0
  obtain ⟨v2, vs2, d2, ds2, p2, q2, rfl, rfl, rfl, h2, r2⟩ := trodAll_cons r1
  obtain ⟨v3, vs3, d3, ds3, p3', q3, rfl, rfl, rfl, h3, r3⟩ := trodAll_cons r2
  obtain ⟨rfl, rfl, rfl⟩ := trodAll_nil r3
  obtain rfl : args = #[v0, v1, v2, v3] := by cases args; simp_all
  obtain ⟨rfl, rfl⟩ := trodVars_none hV0
  obtain ⟨a0, rfl, rfl, rfl, w0⟩ := open_int u2 (hval 0 2 v0 rfl rfl) h0
  obtain ⟨a1, rfl, rfl, rfl, w1⟩ := open_int u2 (hval 1 2 v1 rfl rfl) h1
  obtain ⟨a2, rfl, rfl, rfl⟩ := open_bool u4 (hval 2 4 v2 rfl rfl) h2
  obtain ⟨a3, rfl, rfl, rfl, w3⟩ := open_int u3 (hval 3 3 v3 rfl rfl) h3
  obtain ⟨c0, t0, fz0, hc0, e0⟩ := tab_reads (W := W) (n := "burnish/intn.widths") (k := .i64) (zs := [0, 1, 8, 32, 64]) (by kernel_rfl : Tryz.prog.globalNamed _ = some 0) (t := 164) (by kernel_rfl) (e := 3) (m := 5) (by kernel_rfl) (by kernel_rfl) (by kernel_rfl) (by kernel_rfl) (Lib.laidMet.reads hL (.tail _ (.tail _ (.head _))))
  obtain ⟨c1, t1, fz1, hc1, e1⟩ := tab_reads (W := W) (n := "internal/strconv.uint64pow10") (k := .u64) (zs := [1, 10, 100, 1000, 10000, 100000, 1000000, 10000000, 100000000, 1000000000, 10000000000, 100000000000, 1000000000000, 10000000000000, 100000000000000, 1000000000000000, 10000000000000000, 100000000000000000, 1000000000000000000, 10000000000000000000]) (by kernel_rfl : Tryz.prog.globalNamed _ = some 1) (t := 349) (by kernel_rfl) (e := 142) (m := 20) (by kernel_rfl) (by kernel_rfl) (by kernel_rfl) (by kernel_rfl) (Lib.laidMet.reads hL (.tail _ (.tail _ (.tail _ (.head _)))))
  obtain ⟨_, _, hg3⟩ := glob hSh 3 (by omega) (by kernel_rfl)
  have hsz := (Array.getElem?_eq_some_iff.1 hg3).1
  have hG : Tryz.prog.globals.size ≤ W.heap.size := by rw [gsize]; omega
  obtain ⟨H', hev⟩ := law_run (e := a2) (in64 a0 w0) (in64 a1 w1) (in64 a3 w3) t0 t1
  have htw : ∀ id e cs, (Hg t0 t1).get id = some (.cells e true cs) → ∃ c fz, W.heap[id]? = some (.cells c e fz) ∧ c.toList = cs := fun id e cs h =>
    AllT.at (Q := fun id ob => ∀ e cs, ob = .cells e true cs → ∃ c fz, W.heap[id]? = some (.cells c e fz) ∧ c.toList = cs) (t := (Hg t0 t1).tr) (φ := fun n => n)
      ⟨(fun x h e cs hx => by cases h; cases hx; exact ⟨c0, fz0, hc0, e0⟩), ⟨(fun x h e cs hx => by cases h; cases hx; exact ⟨c1, fz1, hc1, e1⟩), trivial, trivial⟩, trivial⟩ id _ h e cs rfl
  clear hA0 hval0
  refine (law_closed mixed tab ovOk (M4.ovGood 92 178) (tb_of hc1 e1 (by omega)) (Hg := Hg t0 t1) (args := [.int .i64 a0, .int .i64 a1, .bool a2, .int .i64 a3]) (args' := #[.int .i64 a0, .int .i64 a1, .bool a2, .int .i64 a3]) (hgT t0 t1) hG htw (fun β => .cons (.int _ _) (.cons (.int _ _) (.cons (.bool _) (.cons (.int _ _) (.nil β))))) hev).mono fun e W' ⟨he, bel⟩ => ?_
  subst he
  exact ⟨_, rfl, _, _, _, [], _, [], hW', trodAll_mk1 (shut_bool u4 _), (trodAll_cons_mk (shut_int u2 w0) (trodAll_cons_mk (shut_int u2 w1) (trodAll_cons_mk (shut_bool u4 _) (trodAll_cons_mk (shut_int u3 w3) trodAll_mk0)))), rfl, bel.frame _, fun h => by cases h⟩

theorem and2 {a b : Bool} (h : a = true) (h' : b = true) : (a && b) = true := by rw [h, h']; rfl
theorem closed : joinedFacts Tryz.prog 3 Tryz.f3 Rows.symexecLogicSpec Rows.symexecLogicRow = true := by
  unfold joinedFacts
  exact (and2 (and2 (and2 (and2 (and2 (and2 (and2 (and2 (and2 (and2 (and2 (and2 (and2 (and2 (and2 (and2 (and2 (and2 (and2 (and2 (and2 (and2 (and2 (and2 (and2 (and2 (and2 (and2 (and2 (and2 (and2 cf1 cf2) cf3) cf4) cf5) cf6) cf7) cf8) cf9) cf10) cf11) cf12) cf13) cf14) cf15) cf16) cf17) cf18) cf19) cf20) cf21) cf22) cf23) cf24) cf25) cf26) cf27) cf28) cf29) cf30) cf31) cf32)

theorem logic_holds : Rows.SymexecLogicSaid :=
  OpenClaim.holds_of_cond 3 Tryz.f3 rfl rfl rfl rfl rfl rfl rfl ⟨rfl, rfl, rfl, rfl, rfl⟩ rfl rfl rfl rfl rfl (by kernel_rfl) Tryz.func3 closed
    (of_decide_eq_true (by kernel_rfl)) (by unfold Func.isWrapper; rw [if_neg (of_decide_eq_false (by kernel_rfl))]; exact ⟨rfl, rfl⟩)
    (fun os started H enc _ F0 => by rw [OpenClaim.pre_eq_preRow]; exact logic_lifted os started H enc F0)

theorem kwf : Rows.symexecLogicRow.wfByText (OpenSpec.ofChange Rows.symexecLogicSpec) = true := by kernel_rfl
theorem kmain : Tryz.pinned.checked.prog.mainIs = some (true, "171a9f3af20ef6bdb77530c9327a4a49872222bc83fdff7fce03ccb8a9ee051e".toList) := by kernel_rfl
theorem klooks : true = Tryz.pinned.checked.prog.looks [] := by kernel_rfl
theorem kstand2 : Tryz.pinned.checked.prog.wantsStandIn 2 = false := by kernel_rfl
theorem kstand3 : Tryz.pinned.checked.prog.wantsStandIn 3 = false := by kernel_rfl
theorem kstand4 : Tryz.pinned.checked.prog.wantsStandIn 4 = false := by kernel_rfl
theorem kgoes : false = Rows.symexecLogicRow.goesBy Tryz.pinned.checked.prog := by kernel_rfl
theorem kfn : Tryz.prog.funcNamed "burnish/burnishlaw31.SymexecLogic" = some 3 := by kernel_rfl

/-- The law SymexecLogic answers true at every input: the tied card. -/
theorem logic_card : Rows.SymexecLogicCardSaid :=
  Claim7.holds_tied_plain_at .later [] [.data, .data, .data, .data] true (true, "171a9f3af20ef6bdb77530c9327a4a49872222bc83fdff7fce03ccb8a9ee051e") true
    logic_holds (fun _ h => by cases h) kwf (fun _ h => by cases h) symexecLogic_row_tie rfl ⟨rfl, rfl⟩ kmain rfl
    (fun f fn hf hfn => by
      obtain rfl : f = 3 := Option.some.inj (kfn.symm.trans hf) |>.symm
      obtain rfl : fn = Tryz.f3 := (Option.some.inj (Tryz.func3.symm.trans hfn)).symm
      refine ⟨klooks, fun j t ht => ?_⟩
      rw [p3] at ht
      have ht2 : t = 2 ∨ t = 4 ∨ t = 3 := by
        rcases j with _ | _ | _ | _ | j
        · exact .inl (by simpa using ht.symm)
        · exact .inl (by simpa using ht.symm)
        · exact .inr (.inl (by simpa using ht.symm))
        · exact .inr (.inr (by simpa using ht.symm))
        · simp at ht
      rcases ht2 with rfl | rfl | rfl
      · exact kstand2
      · exact kstand4
      · exact kstand3)
    kgoes

end Go.Proofs.YtiphbdhclldllaaGreatDoor.Ab
