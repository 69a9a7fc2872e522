/- A part of the proof that the law answers true at every input: the text W05T0; no conditions. -/
import Derived.Test.YtmgkdnncjapejaaW05B
import Derived.Test.YtmgkdnncjapejaaRows
set_option linter.unusedSimpArgs false
set_option linter.unusedVariables false
namespace Go.Proofs.Ytmgkdnncjapejaa.Ab
open Go Go.Proofs.Ytmgkdnncjapejaa.Abs Go.Proofs.Ytmgkdnncjapejaa.Abs.W05 Go.ChangeShapes Go.WideShapes Go.ChangeAt Go.RowKit
set_option maxRecDepth 100000

theorem own : ownKnob Try.prog.godebug = none := by kernel_rfl
theorem laidOut : laidOutB Try.prog = true := by kernel_rfl
theorem u3 : Try.prog.underlying 3 = some (.int .i64) := by kernel_rfl
theorem u4 : Try.prog.underlying 4 = some .bool := by kernel_rfl
theorem u5 : Try.prog.underlying 5 = some (.int .u8) := by kernel_rfl
theorem u22 : Try.prog.underlying 22 = some (.slice 45) := by kernel_rfl
theorem u30 : Try.prog.underlying 30 = some (.slice 3) := by kernel_rfl
theorem c45 : Try.prog.cellsOf 45 = 2 := by kernel_rfl
theorem c3' : Try.prog.cellsOf 3 = 1 := by kernel_rfl
theorem u45 : (match Try.prog.underlying 45 with | some (.struct fs) => fs.toList.map (fun f => (f.type, f.offset)) | _ => []) = [(3, 0), (3, 1)] := by kernel_rfl

theorem act_cells {H : Type} {enc : TypeId × Value → H} {w : World} {base : Nat} {held : Bool} (n : Nat) (cs : List Value) (y : DataW H × List MemPlace) (h : DataW.trod enc Try.prog w base (fun _ => true) held n 45 cs = some y) :
    ∃ a b, cs = [.int .i64 a, .int .i64 b] ∧ y.1 = .agg [.lit (.int .i64 a), .lit (.int .i64 b)] := by
  have hu := u45
  split at hu
  · rename_i fs hfs
    obtain ⟨xs, m, rfl, rfl, hl, hx, hf⟩ := DataW.trod_struct hfs h
    rw [c45] at hl
    obtain ⟨v, v', rfl⟩ : ∃ v v', cs = [v, v'] := by
      match cs, hl with
      | [v, v'], _ => exact ⟨v, v', rfl⟩
    obtain ⟨f0, f1, hfl⟩ : ∃ f0 f1, fs.toList = [f0, f1] := by
      have := congrArg List.length hu
      simp at this
      rw [← Array.length_toList] at this
      cases hq : fs.toList with
      | nil => rw [hq] at this; simp at this
      | cons f0 t => cases t with
        | nil => rw [hq] at this; simp at this
        | cons f1 t => cases t with
          | nil => exact ⟨f0, f1, rfl⟩
          | cons f2 t => rw [hq] at this; simp at this
    have e0 : fs[0]? = some f0 := by rw [← Array.getElem?_toList, hfl]; rfl
    have e1 : fs[1]? = some f1 := by rw [← Array.getElem?_toList, hfl]; rfl
    rw [hfl] at hu
    simp only [List.map_cons, List.map_nil, List.cons.injEq, Prod.mk.injEq, and_true] at hu
    obtain ⟨⟨t0, o0⟩, t1, o1⟩ := hu
    have g0 := hf 0 f0 e0
    have g1 := hf 1 f1 e1
    rw [t0, o0, c3'] at g0
    rw [t1, o1, c3'] at g1
    have hxl : xs.length = 2 := by rw [hx]; have := congrArg List.length hfl; simpa using this
    obtain ⟨x0, x1, rfl⟩ : ∃ x0 x1, xs = [x0, x1] := by
      match xs, hxl with
      | [x0, x1], _ => exact ⟨x0, x1, rfl⟩
    obtain ⟨a, ha, rfl, _⟩ := DataW.trod_int u3 g0
    obtain ⟨b, hb, rfl, _⟩ := DataW.trod_int u3 g1
    simp at ha hb
    subst ha hb
    exact ⟨a, b, rfl, rfl⟩
  · cases hu

theorem acts_of {H : Type} {enc : TypeId × Value → H} {W : World} {a : Option Addr} {l c : Nat} {d : DataW H} {ps : List MemPlace} (h : DataW.Trod enc Try.prog W 0 (fun _ => true) true 22 (.slice a l c) d ps) : RdT (heapOf W) (trV W (.slice a l c)) l [] := by
  obtain ⟨fuel, hf⟩ := h
  rcases open_pairs u22 c45 act_cells hf with hcs | ⟨x, l', c', zs, hcs, hl, hz, hcell⟩
  · simp [Value.cells] at hcs
    obtain ⟨rfl, rfl, rfl⟩ := hcs
    exact .inl ⟨.inl rfl, rfl⟩
  · simp [Value.cells] at hcs
    obtain ⟨rfl, rfl, rfl⟩ := hcs
    exact rdT_of hl hz hcell
theorem ints_of {H : Type} {enc : TypeId × Value → H} {W : World} {a : Option Addr} {l c : Nat} {d : DataW H} {ps : List MemPlace} (h : DataW.Trod enc Try.prog W 0 (fun _ => true) true 30 (.slice a l c) d ps) : ∃ zs, RdA (heapOf W) (trV W (.slice a l c)) zs := by
  obtain ⟨fuel, hf⟩ := h
  rcases open_ints u30 u3 c3' hf with ⟨hcs, _⟩ | ⟨x, l', c', zs, hcs, _, hl, hm, hz, _, hcell, hwz⟩
  · simp [Value.cells] at hcs
    obtain ⟨rfl, rfl, rfl⟩ := hcs
    exact ⟨[], .inl ⟨.inl rfl, rfl⟩⟩
  · simp [Value.cells] at hcs
    obtain ⟨rfl, rfl, rfl⟩ := hcs
    exact ⟨zs.take _, rdA_of hl (by simpa using hz) hcell⟩

theorem works_run : (evF Γ (fun _ _ _ => none) 40 8 [] ⟨0, .nil⟩).map (·.1) = some (.bool true) := by kernel_rfl
theorem ovOk : OvOk Try.prog ov := by
  intro f args H v n h
  unfold ov at h
  split at h
  · cases h
    have hr := works_run
    cases he : evF Γ (fun _ _ _ => none) 40 8 [] ⟨0, .nil⟩ with
    | none => rw [he] at hr; cases hr
    | some p =>
      obtain ⟨v, H'⟩ := p
      rw [he] at hr
      simp only [Option.map_some, Option.some.injEq] at hr
      subst hr
      exact known_closed mixed tab ovNone he rfl rfl H
  · cases h

end Go.Proofs.Ytmgkdnncjapejaa.Ab
