/- The law SymstateNil answers true at every input, and its arguments read as before; the tables are as the program's text lays them (a tied card); no other condition. -/
import Derived.Test.YtapkmhneneffdaaGreatDoorWkC
import Derived.Test.YtapkmhneneffdaaGreatDoorTbA
import Derived.Test.YtapkmhneneffdaaGreatDoorFcA
import Derived.Test.YtapkmhneneffdaaGreatDoorFcB
import Derived.Test.YtapkmhneneffdaaGreatDoorMxE
import Derived.Test.YtapkmhneneffdaaGreatDoorCnE
import Derived.Test.YtapkmhneneffdaaGreatDoorRdA
import Derived.Test.YtapkmhneneffdaaGreatDoorCards
import Derived.Test.YtapkmhneneffdaaGreatDoorTie
import Derived.Lib.LaidIn
import Derived.Lib.LaidTab
import Derived.Lib.LaidU8
import Derived.Deep.DeepHandedRow
import Derived.Deep.DeepWitnessRowRef
import Derived.ProofKit
import Derived.SizedLaws
import Derived.SevenTiedAt
import Derived.OpenShut
import Derived.Below
set_option linter.unusedSimpArgs false
set_option linter.unusedVariables false
set_option linter.constructorNameAsVariable false

/-! The text W30T. -/
namespace Go.Proofs.YtapkmhneneffdaaGreatDoor.Ab
open Go Go.Proofs.YtapkmhneneffdaaGreatDoor.Mx Go.Proofs.YtapkmhneneffdaaGreatDoor.M3 Go.ChangeShapes Go.WideShapes Go.ChangeAt Go.RowKit Go.Lib
set_option maxRecDepth 1000000

theorem own : ownKnob Tryz.prog.godebug = none := by kernel_rfl
theorem laidOut : laidOutB Tryz.prog = true := by kernel_rfl
theorem u3 : Tryz.prog.underlying 3 = some (.int .i64) := by kernel_rfl
theorem u26 : Tryz.prog.underlying 26 = some (.int .i64) := by kernel_rfl
theorem u4 : Tryz.prog.underlying 4 = some .bool := by kernel_rfl
def isSt : Option TypeDesc → Bool
  | some (.struct _) => true
  | _ => false
theorem u25 : ∃ fs, Tryz.prog.underlying 25 = some (.struct fs) := by
  have h : isSt (Tryz.prog.underlying 25) = true := by kernel_rfl
  unfold isSt at h
  split at h
  · rename_i fs hfs; exact ⟨fs, hfs⟩
  · cases h
theorem p3 : Tryz.f3.params = #[25, 26, 3] := by kernel_rfl
theorem gsize : Tryz.prog.globals.size = 4 := by kernel_rfl

/-! ### an input that fits -/
def valOf : DataW Unit → Value
  | .lit (.int k n) => .int k n
  | _ => undef
def rowOf : DataW Unit → Array Value
  | .agg l => (l.map valOf).toArray
  | _ => #[]
noncomputable def laidWorld (os : Os) : World :=
  let w0 := World.holding Tryz.prog os ⟨#[], #[], []⟩
  let put (h : Array Obj) (g : Nat) (cs : Array Value) : Array Obj := h.modify g fun
    | .cells _ t frozen => .cells cs t frozen
    | o => o
  let h1 := put w0.heap 0 (rowOf Rows.laid_burnish_intn_widths)
  let h2 := put h1 1 (rowOf Rows.laid_internal_strconv_uint64pow10)
  let h3 := put h2 2 (rowOf Rows.laid_math_bits_deBruijn32tab)
  let h4 := put h3 3 (rowOf Rows.laid_math_bits_deBruijn64tab)
  { w0 with heap := h4 }
def wargs : Array Value := #[.agg #[.slice none 0 0, .slice none 0 0], .int .i64 0, .int .i64 0]
theorem laid_met (os : Os) (args : Array Value) : laidMet Tryz.prog Rows.symstateNilRow.laid ((laidWorld os).forCall (fun _ _ => 0) ⟨#[], args, []⟩).memory :=
  (LaidIn.of_run (l := Rows.symstateNilRow.laid) [0, 1, 2, 3] 8 (by kernel_rfl) (by kernel_rfl) (by kernel_rfl) (by kernel_rfl)).met

noncomputable def nSpec : OpenSpec := OpenSpec.ofChange Rows.symstateNilSpec

theorem witness_row (os : Os) {H : Type} (enc : TypeId × Value → H) :
    nSpec.preRow enc Tryz.prog Tryz.f3 Rows.symstateNilRow.domain false Rows.symstateNilRow.laid ((laidWorld os).forCall (fun _ _ => 0) ⟨#[], wargs, []⟩).memory wargs := by
  have hw : (DataW.whole enc Tryz.prog ((laidWorld os).forCall (fun _ _ => 0) ⟨#[], wargs, []⟩).memory Tryz.f3.params.toList nSpec.vars false wargs.toList 8).isSome = true := by kernel_rfl
  obtain ⟨x, hx⟩ := Option.isSome_iff_exists.1 hw
  exact OpenSpec.preRow_of_cond 8 hx (by kernel_rfl) (fun k hk => by cases hk) (by kernel_rfl) (laid_met os _)

theorem glob {W : World} (h : W.ShapedOpen Tryz.prog) (g : Nat) (hg : g < 4) (hr : (((begin Tryz.prog (fun _ _ => 0) default).world.heap[g]?).bind Obj.row?).isSome = true) : ∃ cs t, W.heap[g]? = some (.cells cs t) := by
  obtain ⟨⟨z, t⟩, hz⟩ := Option.isSome_iff_exists.1 hr
  obtain ⟨cs, h1, _⟩ := h.1 g z t (by rw [gsize]; exact hg) hz
  exact ⟨cs, t, h1⟩

theorem tab_reads {W : World} {n : String} {g t e m : Nat} {k : IntKind} {zs : List Int} (hg : Tryz.prog.globalNamed n = some g) (hty : (Tryz.prog.globals[g]?).map (·.type) = some t) (ht : Tryz.prog.underlying t = some (.array m e)) (he : Tryz.prog.underlying e = some (.int k))
    (hce : Tryz.prog.cellsOf e = 1) (hct : Tryz.prog.cellsOf t = m) (h : VarReads Tryz.prog W n (tabData k zs)) : ∃ c ty fz, W.heap[g]? = some (.cells c ty fz) ∧ c.toList = zs.map fun z => Value.int k z := by
  obtain ⟨g', t', cs, fuel, p, hg', ht', hvar, hd⟩ := h
  obtain rfl := Option.some.inj (hg.symm.trans hg')
  obtain rfl := Option.some.inj (hty.symm.trans ht')
  have hcs := cells_of_tab ht he hce hct hd
  unfold World.var? at hvar
  rw [hg] at hvar
  simp only [Option.bind_some] at hvar
  split at hvar
  · rename_i c ty fz hc
    cases hvar
    exact ⟨_, ty, fz, hc, hcs⟩
  · cases hvar

/-! ### the layer's examples are known -/
theorem hgT (e0 e1 : TypeId) : Mx.Tables Tryz.prog.globals.size (Wk.Hg e0 e1) := by
  rw [gsize]
  refine ⟨rfl, fun id ob h => ?_⟩
  exact AllT.at (Q := fun id ob => id < 4 ∧ ∃ e cs, ob = Mx.Ob.cells e true cs ∧ cs.all plain = true) (t := (Wk.Hg e0 e1).tr) (φ := fun n => n)
    ⟨(fun x h => by cases h; exact ⟨by decide, _, _, rfl, rfl⟩), ⟨(fun x h => by cases h; exact ⟨by decide, _, _, rfl, rfl⟩), trivial, trivial⟩, trivial⟩ id ob h
def Tb30 (B0 : Bs) (w0 : World) : Prop := Tryz.prog.globals.size ≤ B0.b ∧ ∃ e0 e1, ∀ id e cs, (Wk.Hg e0 e1).get id = some (.cells e true cs) → ∃ c fz, w0.heap[id]? = some (.cells c e fz) ∧ c.toList = cs
def ov30 : Nat → List V → Option V := fun f l => bif Nat.beq f 5 && l.isEmpty then some (.b true) else none
def ov2 : Known := fun f l H => if f = 5 ∧ l.isEmpty = true then some (.bool true, H.size) else none
theorem works_run (e0 e1 : TypeId) : ∃ H', evF Wk.Γ (fun _ _ _ => none) 500 5 [] (Wk.Hg e0 e1) = some (.bool true, H') := by
  have hr := Wk.works_true e0 e1
  cases he : evF Wk.Γ (fun _ _ _ => none) 500 5 [] (Wk.Hg e0 e1) with
  | none => rw [he] at hr; cases hr
  | some p =>
    obtain ⟨u, H'⟩ := p
    rw [he] at hr
    have hu : u = .bool true := by
      cases u <;> simp [Wk.isTrue] at hr
      rw [hr]
    subst hu
    exact ⟨H', rfl⟩
theorem ovPut : OvGood ov2 := by
  refine ⟨fun f args H v n h => ?_, fun f args H j o h _ _ => ?_⟩
  · unfold ov2 at h ⊢
    split at h
    · rename_i hc
      cases h
      exact ⟨Nat.le_refl _, fun j o _ _ => by rw [if_pos hc]; rfl⟩
    · cases h
  · unfold ov2 at h ⊢
    split at h
    · cases h
    · rename_i hc; rw [if_neg hc]
theorem ovOk : OvOk Tryz.prog Tb30 ov2 := by
  intro f args H v n h
  unfold ov2 at h
  split at h
  · rename_i hc
    cases h
    obtain ⟨rfl, ha⟩ := hc
    have ha' : args = [] := by simpa using ha
    subst ha'
    obtain ⟨H0, h0⟩ := works_run 0 0
    obtain ⟨h1, _, _⟩ := (sim_F (B0 := ⟨Tryz.prog.globals.size, 0⟩) (w0 := default) (Tb := Tb0) Wk.mixed Wk.tab ovNone ovNoneGood (Nat.le_refl _) trivial 500).c _ _ _ _ _ h0
    refine known_tabs (k := 500) Wk.mixed Wk.tab (fun B0 w0 ht => ?_) h1 rfl rfl
    obtain ⟨hb, e0, e1, hW⟩ := ht
    obtain ⟨H1, hw⟩ := works_run e0 e1
    exact ⟨hb, Wk.Hg e0 e1, H1, hgT e0 e1, hw, hW⟩
  · cases h
theorem ovS : OvS T.ovd0 ov30 ov2 := by
  refine ⟨fun f args v hd h α Φ H as2 hr => ?_, fun f as2 H hd => ?_⟩
  · unfold ov30 at h
    cases hc : Nat.beq f 5 && args.isEmpty with
    | false => rw [hc] at h; cases h
    | true =>
      rw [hc] at h
      cases h
      simp only [Bool.and_eq_true] at hc
      obtain rfl := Nat.eq_of_beq_eq_true hc.1
      have ha : args = [] := by simpa using hc.2
      subst ha
      have h2 : as2 = [] := by
        have := hr.1
        cases as2 with
        | nil => rfl
        | cons a l => simp at this
      subst h2
      exact ⟨.bool true, H.size, rfl, Nat.le_refl _, .con (.b true), fun _ => rfl⟩
  · unfold ov2
    rw [if_neg]
    rintro ⟨rfl, _⟩
    cases hd
theorem clnOk : ClnOk T.cln0 T.Γ := by
  intro f hf
  have hm : f = 63 ∨ f = 64 ∨ f = 65 ∨ f = 72 ∨ f = 107 ∨ f = 108 ∨ f = 109 ∨ f = 110 := by simpa [T.cln0] using hf
  rcases hm with rfl | rfl | rfl | rfl | rfl | rfl | rfl | rfl
  · exact ⟨64, 5, 64, by kernel_rfl⟩
  · exact ⟨2, 1, 8, by kernel_rfl⟩
  · exact ⟨68, 5, 96, by kernel_rfl⟩
  · exact ⟨3, 1, 8, by kernel_rfl⟩
  · exact ⟨26, 1, 8, by kernel_rfl⟩
  · exact ⟨132, 7, 136, by kernel_rfl⟩
  · exact ⟨74, 8, 80, by kernel_rfl⟩
  · exact ⟨216, 2, 32, by kernel_rfl⟩
def gl0 : Gl := fun _ => none

theorem nil_lifted (os : Os) (started : os.Started) (H : Type) (enc : TypeId × Value → H) (F : Stop.Interp) :
    ReturnsInHanded {} Tryz.checked os 3 .any (nSpec.preRow enc Tryz.prog Tryz.f3 Rows.symstateNilRow.domain false Rows.symstateNilRow.laid) ((nSpec.at F).post enc Tryz.prog Tryz.f3 false true false false) := by
  refine returnsInHanded_of_row (C := Tryz.checked) (s := nSpec) own started (by kernel_rfl) Tryz.func3
    (witness_row_atRef (enc := enc) (C := Tryz.checked) false (laidWorld os) wargs rfl (by kernel_rfl) (by kernel_rfl) (by kernel_rfl) (witness_row os enc)) ?_
  intro W base args ds gs before hval0 hW _ _ hwt0 hL hSh _
  have hval : ∀ (j : Nat) t v, Tryz.f3.params[j]? = some t → args[j]? = some v → Value.okWide Tryz.prog W .any base t v := hval0
  have hwt : (DataW.weightsEach Tryz.prog (Tryz.f3.params.toList ++ nSpec.bare.plain.varTypes Tryz.prog) (ds ++ gs)).all (· ≤ reachBytes) = true := hwt0
  have hW' := hW
  obtain ⟨p, q, hA0, hV0, rfl, _, _⟩ := hW
  have hA : DataW.TrodAll enc Tryz.prog W 0 (fun _ => true) true Tryz.f3.params.toList args.toList ds p := hA0
  rw [p3] at hA hval hwt
  obtain ⟨v0, vs0, d0, ds0, p0, q0, hargs, rfl, rfl, h0, r0⟩ := trodAll_cons hA
  obtain ⟨v1, vs1, d1, ds1, p1, q1, rfl, rfl, rfl, h1, r1⟩ := trodAll_cons r0
  obtain ⟨v2, vs2, d2, ds2, p2, q2, rfl, rfl, rfl, h2, r2⟩ := trodAll_cons r1
  obtain ⟨rfl, rfl, rfl⟩ := trodAll_nil r2
  obtain rfl : args = #[v0, v1, v2] := by cases args; simp_all
  obtain ⟨rfl, rfl⟩ := trodVars_none hV0
  have hw0 : (DataW.weights Tryz.prog 25 d0).all (· ≤ reachBytes) = true := by
    simp only [List.cons_append, DataW.weightsEach, List.all_append, Bool.and_eq_true] at hwt
    exact hwt.1
  obtain ⟨fs, hfs⟩ := u25
  obtain ⟨cs, rfl, _⟩ := okWide_struct hfs (hval 0 25 v0 rfl rfl)
  obtain ⟨a1, rfl, rfl, rfl, w1⟩ := open_int u26 (hval 1 26 v1 rfl rfl) h1
  obtain ⟨a2, rfl, rfl, rfl, w2⟩ := open_int u3 (hval 2 3 v2 rfl rfl) h2
  have lt0 : ∀ x ∈ p0, x.block < W.heap.size := by obtain ⟨m, hm⟩ := h0; exact DataW.trod_lt m _ _ _ hm
  obtain ⟨m, hm, hr⟩ := arg_agg td25 (fun _ => rfl) h0 hw0
  obtain ⟨c0, t0, fz0, hc0, e0⟩ := tab_reads (W := W) (n := "burnish/intn.widths") (k := .i64) (zs := [0, 1, 8, 32, 64]) (by kernel_rfl : Tryz.prog.globalNamed _ = some 0) (t := 200) (by kernel_rfl) (e := 3) (m := 5) (by kernel_rfl) (by kernel_rfl) (by kernel_rfl) (by kernel_rfl) (Lib.laidMet.reads hL (.tail _ (.tail _ (.head _))))
  obtain ⟨c1, t1, fz1, hc1, e1⟩ := tab_reads (W := W) (n := "internal/strconv.uint64pow10") (k := .u64) (zs := [1, 10, 100, 1000, 10000, 100000, 1000000, 10000000, 100000000, 1000000000, 10000000000, 100000000000, 1000000000000, 10000000000000, 100000000000000, 1000000000000000, 10000000000000000, 100000000000000000, 1000000000000000000, 10000000000000000000]) (by kernel_rfl : Tryz.prog.globalNamed _ = some 1) (t := 325) (by kernel_rfl) (e := 204) (m := 20) (by kernel_rfl) (by kernel_rfl) (by kernel_rfl) (by kernel_rfl) (Lib.laidMet.reads hL (.tail _ (.tail _ (.tail _ (.head _)))))
  obtain ⟨_, _, hg3⟩ := glob hSh 3 (by omega) (by kernel_rfl)
  have hsz := (Array.getElem?_eq_some_iff.1 hg3).1
  have hG : Tryz.prog.globals.size ≤ W.heap.size := by rw [gsize]; omega
  have htw : ∀ id e cs, (Wk.Hg t0 t1).get id = some (.cells e true cs) → ∃ c fz, W.heap[id]? = some (.cells c e fz) ∧ c.toList = cs := fun id e cs h =>
    AllT.at (Q := fun id ob => ∀ e cs, ob = Mx.Ob.cells e true cs → ∃ c fz, W.heap[id]? = some (.cells c e fz) ∧ c.toList = cs) (t := (Wk.Hg t0 t1).tr) (φ := fun n => n)
      ⟨(fun x h e cs hx => by cases h; cases hx; exact ⟨c0, fz0, hc0, e0⟩), ⟨(fun x h e cs hx => by cases h; cases hx; exact ⟨c1, fz1, hc1, e1⟩), trivial, trivial⟩, trivial⟩ id _ h e cs rfl
  have hlaw := T.law_W (G := gl0) (ov := ov30) m a1 a2 (bm_of hm) (km_of hm) rfl
  clear hA0 hval0 hwt0
  refine (law3 Wk.mixed tabM ovOk ovPut ovS clnOk okM («as» := [eModule m, eI a1, eI a2]) (args := #[.agg cs, .int .i64 a1, .int .i64 a2]) (W := W) (X' := .emp) rfl hlaw ⟨hG, t0, t1, htw⟩ hG (fun n v h => by cases h)
    (.cons hr (.cons (.con (.i _ _)) (.cons (.con (.i _ _)) (.nil _ _))))).mono fun e W' ⟨he, bel⟩ => ?_
  subst he
  exact ⟨_, rfl, _, _, _, [], _, [], hW', trodAll_mk1 (shut_bool u4 _), (trodAll_cons_mk (Below.trod laidOut (by kernel_rfl) (of_decide_eq_true (by kernel_rfl)) h0 bel lt0) (trodAll_cons_mk (shut_int u26 w1) (trodAll_cons_mk (shut_int u3 w2) trodAll_mk0))), rfl, bel.frame _, fun h => by cases h⟩

theorem and2 {a b : Bool} (h : a = true) (h' : b = true) : (a && b) = true := by rw [h, h']; rfl
theorem closed : joinedFacts Tryz.prog 3 Tryz.f3 Rows.symstateNilSpec Rows.symstateNilRow = true := by
  unfold joinedFacts
  exact (and2 (and2 (and2 (and2 (and2 (and2 (and2 (and2 (and2 (and2 (and2 (and2 (and2 (and2 (and2 (and2 (and2 (and2 (and2 (and2 (and2 (and2 (and2 (and2 (and2 (and2 (and2 (and2 (and2 (and2 (and2 cf1 cf2) cf3) cf4) cf5) cf6) cf7) cf8) cf9) cf10) cf11) cf12) cf13) cf14) cf15) cf16) cf17) cf18) cf19) cf20) cf21) cf22) cf23) cf24) cf25) cf26) cf27) cf28) cf29) cf30) cf31) cf32)

theorem nil_holds : Rows.SymstateNilSaid :=
  OpenClaim.holds_of_cond 3 Tryz.f3 rfl rfl rfl rfl rfl rfl rfl ⟨rfl, rfl, rfl, rfl, rfl⟩ rfl rfl rfl rfl rfl (by kernel_rfl) Tryz.func3 closed
    (of_decide_eq_true (by kernel_rfl)) (by unfold Func.isWrapper; rw [if_neg (of_decide_eq_false (by kernel_rfl))]; exact ⟨rfl, rfl⟩)
    (fun os started H enc _ F0 => by rw [OpenClaim.pre_eq_preRow]; exact nil_lifted os started H enc F0)

theorem kwf : Rows.symstateNilRow.wfByText (OpenSpec.ofChange Rows.symstateNilSpec) = true := by kernel_rfl
theorem kmain : Tryz.pinned.checked.prog.mainIs = some (true, "5e3033c6071f632e5fa872b266b3aedfb476e59048b510c790311c4d80b2810a".toList) := by kernel_rfl
theorem klooks : true = Tryz.pinned.checked.prog.looks [] := by kernel_rfl
theorem kstand25 : Tryz.pinned.checked.prog.wantsStandIn 25 = false := by kernel_rfl
theorem kstand3 : Tryz.pinned.checked.prog.wantsStandIn 3 = false := by kernel_rfl
theorem kstand26 : Tryz.pinned.checked.prog.wantsStandIn 26 = false := by kernel_rfl
theorem kgoes : false = Rows.symstateNilRow.goesBy Tryz.pinned.checked.prog := by kernel_rfl
theorem kfn : Tryz.prog.funcNamed "burnish/burnishlaw30.SymstateNil" = some 3 := by kernel_rfl

/-- The law SymstateNil answers true at every input: the tied card. -/
theorem nil_card : Rows.SymstateNilCardSaid :=
  Claim7.holds_tied_plain_at .later [] [.data, .data, .data, .data] true (true, "5e3033c6071f632e5fa872b266b3aedfb476e59048b510c790311c4d80b2810a") true
    nil_holds (fun _ h => by cases h) kwf (fun _ h => by cases h) symstateNil_row_tie rfl ⟨rfl, rfl⟩ kmain rfl
    (fun f fn hf hfn => by
      obtain rfl : f = 3 := Option.some.inj (kfn.symm.trans hf) |>.symm
      obtain rfl : fn = Tryz.f3 := (Option.some.inj (Tryz.func3.symm.trans hfn)).symm
      refine ⟨klooks, fun j t ht => ?_⟩
      rw [p3] at ht
      have ht2 : t = 25 ∨ t = 26 ∨ t = 3 := by
        rcases j with _ | _ | _ | j
        · exact .inl (by simpa using ht.symm)
        · exact .inr (.inl (by simpa using ht.symm))
        · exact .inr (.inr (by simpa using ht.symm))
        · simp at ht
      rcases ht2 with rfl | rfl | rfl
      · exact kstand25
      · exact kstand26
      · exact kstand3)
    kgoes

end Go.Proofs.YtapkmhneneffdaaGreatDoor.Ab
