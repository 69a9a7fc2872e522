/- The law TermNone answers true at every input, and its arguments read as before; the tables are as the program's text lays them (a tied card); no other condition. -/
import Derived.Test.YtmlgalhkpenohaaGreatDoorW29N
import Derived.Test.YtmlgalhkpenohaaGreatDoorZacX
import Derived.Test.YtmlgalhkpenohaaGreatDoorCards
import Derived.Test.YtmlgalhkpenohaaGreatDoorTie
import Derived.Lib.LaidIn
import Derived.Lib.LaidTab
import Derived.Lib.LaidU8
import Derived.Deep.DeepHandedRow
import Derived.Deep.DeepWitnessRowRef
import Derived.ProofKit
import Derived.SizedLaws
import Derived.SevenTiedAt
import Derived.OpenShut
import Derived.Below
set_option linter.unusedSimpArgs false
set_option linter.unusedVariables false
namespace Go.Proofs.YtmlgalhkpenohaaGreatDoor.Ab
open Go Go.Proofs.YtmlgalhkpenohaaGreatDoor.Mac Go.ChangeShapes Go.WideShapes Go.ChangeAt Go.RowKit Go.Lib
set_option maxRecDepth 1000000

theorem own : ownKnob Tryz.prog.godebug = none := by kernel_rfl
theorem laidOut : laidOutB Tryz.prog = true := by kernel_rfl
theorem u3 : Tryz.prog.underlying 3 = some (.int .i64) := by kernel_rfl
theorem u4 : Tryz.prog.underlying 4 = some .bool := by kernel_rfl
theorem p5 : Tryz.f5.params = #[26, 3] := by kernel_rfl
theorem gsize : Tryz.prog.globals.size = 4 := by kernel_rfl
theorem cel26 : Tryz.prog.cellsOf 26 = 8 := by kernel_rfl
noncomputable def und26 : Option (Array Field) := match Tryz.prog.underlying 26 with | some (.struct fs) => some fs | _ => none
theorem s26 : und26.isSome = true := by kernel_rfl
theorem u26 : ∃ fs, Tryz.prog.underlying 26 = some (.struct fs) := by
  have h := s26
  unfold und26 at h
  split at h
  · rename_i fs hfs; exact ⟨fs, hfs⟩
  · cases h

/-! ### an input that fits -/
def valOf : DataW Unit → Value
  | .lit (.int k n) => .int k n
  | _ => undef
def rowOf : DataW Unit → Array Value
  | .agg l => (l.map valOf).toArray
  | _ => #[]
noncomputable def laidWorld (os : Os) : World :=
  let w0 := World.holding Tryz.prog os ⟨#[], #[], []⟩
  let put (h : Array Obj) (g : Nat) (cs : Array Value) : Array Obj := h.modify g fun
    | .cells _ t frozen => .cells cs t frozen
    | o => o
  let h1 := put w0.heap 0 (rowOf Rows.laid_burnish_intn_widths)
  let h2 := put h1 1 (rowOf Rows.laid_internal_strconv_uint64pow10)
  let h3 := put h2 2 (rowOf Rows.laid_math_bits_deBruijn32tab)
  let h4 := put h3 3 (rowOf Rows.laid_math_bits_deBruijn64tab)
  { w0 with heap := h4 }
def wargs : Array Value := #[.agg #[.int .i64 0, .int .i64 0, .int .i64 0, .slice none 0 0, .int .i64 0, .int .i64 0, .int .i64 0, .bool false], .int .i64 0]
theorem laid_met (os : Os) (args : Array Value) : laidMet Tryz.prog Rows.termNoneRow.laid ((laidWorld os).forCall (fun _ _ => 0) ⟨#[], args, []⟩).memory :=
  (LaidIn.of_run (l := Rows.termNoneRow.laid) [0, 1, 2, 3] 8 (by kernel_rfl) (by kernel_rfl) (by kernel_rfl) (by kernel_rfl)).met

noncomputable def nSpec : OpenSpec := OpenSpec.ofChange Rows.termNoneSpec

theorem witness_row (os : Os) {H : Type} (enc : TypeId × Value → H) :
    nSpec.preRow enc Tryz.prog Tryz.f5 Rows.termNoneRow.domain false Rows.termNoneRow.laid ((laidWorld os).forCall (fun _ _ => 0) ⟨#[], wargs, []⟩).memory wargs := by
  have hw : (DataW.whole enc Tryz.prog ((laidWorld os).forCall (fun _ _ => 0) ⟨#[], wargs, []⟩).memory Tryz.f5.params.toList nSpec.vars false wargs.toList 8).isSome = true := by kernel_rfl
  obtain ⟨x, hx⟩ := Option.isSome_iff_exists.1 hw
  exact OpenSpec.preRow_of_cond 8 hx (by kernel_rfl) (fun k hk => by cases hk) (by kernel_rfl) (laid_met os _)

/-! ### what is read of the world -/
theorem one_okWide {W : World} {base : Nat} {u : TypeId} {v : Value} (h : Cell.okWide Tryz.prog W .any base u v) : v.oneCell' = true := by
  cases v with
  | agg cs => unfold Cell.okWide at h; split at h <;> first | (rename_i e; cases e; done) | (unfold Cell.ok at h; split at h <;> first | (exact h.elim) | (rename_i e; cases e; done) | simp_all)
  | tuple cs => unfold Cell.okWide at h; split at h <;> first | (rename_i e; cases e; done) | (unfold Cell.ok at h; split at h <;> first | (exact h.elim) | (rename_i e; cases e; done) | simp_all)
  | _ => rfl

theorem opq_of {W : World} {base : Nat} {v : Value} (h : Value.okWide Tryz.prog W .any base 26 v) : ∃ cs, v = .agg cs ∧ ∀ β, VR β iOpq v := by
  obtain ⟨fs, hu⟩ := u26
  unfold Value.okWide at h
  rw [hu] at h
  obtain ⟨cs, rfl, hs, ts, _, _, hc⟩ := h
  rw [cel26] at hs
  refine ⟨cs, rfl, fun β => .agg _ _ (by simp [hs]) fun i hi hi' => ?_⟩
  obtain ⟨u, _, hok⟩ := hc i cs[i] (by simp [hi'])
  have : (#[opq, opq, opq, opq, opq, opq, opq, opq] : Array Value)[i] = opq := by
    have hi2 : i < 8 := by simpa using hi
    match i, hi2 with
    | 0, _ | 1, _ | 2, _ | 3, _ | 4, _ | 5, _ | 6, _ | 7, _ => rfl
  rw [this]
  exact .opq _ (one_okWide hok)

theorem glob {W : World} (h : W.ShapedOpen Tryz.prog) (g : Nat) (hg : g < 4) (hr : (((begin Tryz.prog (fun _ _ => 0) default).world.heap[g]?).bind Obj.row?).isSome = true) : ∃ cs t, W.heap[g]? = some (.cells cs t) := by
  obtain ⟨⟨z, t⟩, hz⟩ := Option.isSome_iff_exists.1 hr
  obtain ⟨cs, h1, _⟩ := h.1 g z t (by rw [gsize]; exact hg) hz
  exact ⟨cs, t, h1⟩

theorem tab_reads {W : World} {n : String} {g t e m : Nat} {k : IntKind} {zs : List Int} (hg : Tryz.prog.globalNamed n = some g) (hty : (Tryz.prog.globals[g]?).map (·.type) = some t) (ht : Tryz.prog.underlying t = some (.array m e)) (he : Tryz.prog.underlying e = some (.int k))
    (hce : Tryz.prog.cellsOf e = 1) (hct : Tryz.prog.cellsOf t = m) (h : VarReads Tryz.prog W n (tabData k zs)) : ∃ c ty fz, W.heap[g]? = some (.cells c ty fz) ∧ c.toList = zs.map fun z => Value.int k z := by
  obtain ⟨g', t', cs, fuel, p, hg', ht', hvar, hd⟩ := h
  obtain rfl := Option.some.inj (hg.symm.trans hg')
  obtain rfl := Option.some.inj (hty.symm.trans ht')
  have hcs := cells_of_tab ht he hce hct hd
  unfold World.var? at hvar
  rw [hg] at hvar
  simp only [Option.bind_some] at hvar
  split at hvar
  · rename_i c ty fz hc
    cases hvar
    exact ⟨_, ty, fz, hc, hcs⟩
  · cases hvar

theorem hgT (e0 e1 : TypeId) : Mac.Tables Tryz.prog.globals.size (Hg e0 e1) := by
  rw [gsize]
  refine ⟨rfl, fun id ob h => ?_⟩
  exact AllT.at (Q := fun id ob => id < 4 ∧ ∃ e cs, ob = .cells e true cs ∧ cs.all plain = true) (t := (Hg e0 e1).tr) (φ := fun n => n)
    ⟨(fun x h => by cases h; exact ⟨by decide, _, _, rfl, rfl⟩), ⟨(fun x h => by cases h; exact ⟨by decide, _, _, rfl, rfl⟩), trivial, trivial⟩, trivial⟩ id ob h

theorem none_lifted (os : Os) (started : os.Started) (H : Type) (enc : TypeId × Value → H) (F : Stop.Interp) :
    ReturnsInHanded {} Tryz.checked os 5 .any (nSpec.preRow enc Tryz.prog Tryz.f5 Rows.termNoneRow.domain false Rows.termNoneRow.laid) ((nSpec.at F).post enc Tryz.prog Tryz.f5 false true false false) := by
  refine returnsInHanded_of_row (C := Tryz.checked) (s := nSpec) own started (by kernel_rfl) Tryz.func5
    (witness_row_atRef (enc := enc) (C := Tryz.checked) false (laidWorld os) wargs rfl (by kernel_rfl) (by kernel_rfl) (by kernel_rfl) (witness_row os enc)) ?_
  intro W base args ds gs before hval0 hW _ _ _ hL hSh _
  have hval : ∀ (j : Nat) t v, Tryz.f5.params[j]? = some t → args[j]? = some v → Value.okWide Tryz.prog W .any base t v := hval0
  have hW' := hW
  obtain ⟨p, q, hA0, hV0, rfl, _, _⟩ := hW
  have hA : DataW.TrodAll enc Tryz.prog W 0 (fun _ => true) true Tryz.f5.params.toList args.toList ds p := hA0
  rw [p5] at hA hval
  obtain ⟨v0, vs0, d0, ds0, p0, q0, hargs, rfl, rfl, h0, r0⟩ := trodAll_cons hA
  obtain ⟨v1, vs1, d1, ds1, p1, q1, rfl, rfl, rfl, h1, r1⟩ := trodAll_cons r0
  obtain ⟨rfl, rfl, rfl⟩ := trodAll_nil r1
  obtain rfl : args = #[v0, v1] := by cases args; simp_all
  obtain ⟨rfl, rfl⟩ := trodVars_none hV0
  obtain ⟨a1, rfl, rfl, rfl, w1⟩ := open_int u3 (hval 1 3 v1 rfl rfl) h1
  obtain ⟨cs0, hv0, hq0⟩ := opq_of (hval 0 26 v0 rfl rfl)
  have lt0 : ∀ x ∈ p0, x.block < W.heap.size := by obtain ⟨m, hm⟩ := h0; exact DataW.trod_lt m _ _ _ hm
  obtain ⟨c0, t0, fz0, hc0, e0⟩ := tab_reads (W := W) (n := "burnish/intn.widths") (k := .i64) (zs := [0, 1, 8, 32, 64]) (by kernel_rfl : Tryz.prog.globalNamed _ = some 0) (t := 178) (by kernel_rfl) (e := 3) (m := 5) (by kernel_rfl) (by kernel_rfl) (by kernel_rfl) (by kernel_rfl) (Lib.laidMet.reads hL (.tail _ (.tail _ (.head _))))
  obtain ⟨c1, t1, fz1, hc1, e1⟩ := tab_reads (W := W) (n := "internal/strconv.uint64pow10") (k := .u64) (zs := [1, 10, 100, 1000, 10000, 100000, 1000000, 10000000, 100000000, 1000000000, 10000000000, 100000000000, 1000000000000, 10000000000000, 100000000000000, 1000000000000000, 10000000000000000, 100000000000000000, 1000000000000000000, 10000000000000000000]) (by kernel_rfl : Tryz.prog.globalNamed _ = some 1) (t := 303) (by kernel_rfl) (e := 145) (m := 20) (by kernel_rfl) (by kernel_rfl) (by kernel_rfl) (by kernel_rfl) (Lib.laidMet.reads hL (.tail _ (.tail _ (.tail _ (.head _)))))
  obtain ⟨_, _, h3⟩ := glob hSh 3 (by omega) (by kernel_rfl)
  have hG : Tryz.prog.globals.size ≤ W.heap.size := by rw [gsize]; have := (Array.getElem?_eq_some_iff.1 h3).1; omega
  obtain ⟨H', hev⟩ := none_all t0 t1 a1
  have htw : ∀ id e cs, (Hg t0 t1).get id = some (.cells e true cs) → ∃ c fz, W.heap[id]? = some (.cells c e fz) ∧ c.toList = cs := fun id e cs h =>
    AllT.at (Q := fun id ob => ∀ e cs, ob = .cells e true cs → ∃ c fz, W.heap[id]? = some (.cells c e fz) ∧ c.toList = cs) (t := (Hg t0 t1).tr) (φ := fun n => n)
      ⟨(fun x h e cs hx => by cases h; cases hx; exact ⟨c0, fz0, hc0, e0⟩), ⟨(fun x h e cs hx => by cases h; cases hx; exact ⟨c1, fz1, hc1, e1⟩), trivial, trivial⟩, trivial⟩ id _ h e cs rfl
  clear hA0 hval0
  refine (law_closed mixed tab ovNone ovNoneGood (Hg := Hg t0 t1) (args := [iOpq, .int .i64 a1]) (args' := #[v0, .int .i64 a1]) (hgT t0 t1) hG htw (fun β => .cons (hq0 β) (.cons (.int _ _) (.nil β))) hev).mono fun e W' ⟨he, bel⟩ => ?_
  subst he
  exact ⟨_, rfl, _, _, _, [], _, [], hW', trodAll_mk1 (shut_bool u4 _), (trodAll_cons_mk (Below.trod laidOut (by kernel_rfl) (of_decide_eq_true (by kernel_rfl)) h0 bel lt0) (trodAll_cons_mk (shut_int u3 w1) trodAll_mk0)), rfl, bel.frame _, fun h => by cases h⟩

theorem none_holds : Rows.TermNoneSaid :=
  OpenClaim.holds_of_cond 5 Tryz.f5 rfl rfl rfl rfl rfl rfl rfl ⟨rfl, rfl, rfl, rfl, rfl⟩ rfl rfl rfl rfl rfl (by kernel_rfl) Tryz.func5 (by kernel_rfl)
    (of_decide_eq_true (by kernel_rfl)) (by unfold Func.isWrapper; rw [if_neg (of_decide_eq_false (by kernel_rfl))]; exact ⟨rfl, rfl⟩)
    (fun os started H enc _ F0 => by rw [OpenClaim.pre_eq_preRow]; exact none_lifted os started H enc F0)

/-- The law TermNone answers true at every input: the tied card. -/
theorem none_card : Rows.TermNoneCardSaid :=
  Claim7.holds_tied_plain_at .later [] [.data, .data, .data, .data] true (true, "b9ed65448969e4ef1c4e0adc6f982763af7dee8cd2914906f7ca30fb41e17f2c") false
    none_holds (fun _ h => by cases h) (by kernel_rfl) (fun _ h => by cases h) termNone_row_tie rfl ⟨rfl, rfl⟩ (by kernel_rfl) rfl
    (fun f fn hf hfn => by
      obtain rfl : f = 5 := Option.some.inj ((show Tryz.prog.funcNamed "burnish/burnishlaw29.TermNone" = some 5 by kernel_rfl).symm.trans hf) |>.symm
      obtain rfl : fn = Tryz.f5 := (Option.some.inj (Tryz.func5.symm.trans hfn)).symm
      refine ⟨by kernel_rfl, fun j t ht => ?_⟩
      rw [p5] at ht
      have h3 : t = 26 ∨ t = 3 := by
        rcases j with _ | _ | j
        · exact .inl (by simpa using ht.symm)
        · exact .inr (by simpa using ht.symm)
        · simp at ht
      rcases h3 with rfl | rfl
      · exact (show Tryz.prog.wantsStandIn 26 = false by kernel_rfl)
      · exact (show Tryz.prog.wantsStandIn 3 = false by kernel_rfl))
    (by kernel_rfl)


end Go.Proofs.YtmlgalhkpenohaaGreatDoor.Ab
