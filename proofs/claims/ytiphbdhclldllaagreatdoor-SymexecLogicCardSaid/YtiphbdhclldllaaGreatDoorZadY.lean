/- What is known of a call from the model's own contract: plain arguments, a plain answer, new memory alone. -/
import Derived.Test.YtiphbdhclldllaaGreatDoorZadX
set_option linter.unusedSimpArgs false
set_option linter.unusedVariables false
namespace Go.Proofs.YtiphbdhclldllaaGreatDoor.Mx
open Go

theorem known_pure {P : Program} {Tb : Bs → World → Prop} {f : Nat} {args : List Value} {v : Value} (hc : CallOk P f) (ha : args.all scal = true) (hv : scalV v = true)
    (h : ∀ (B0 : Bs) (w0 w : World), P.globals.size ≤ B0.g → Tb B0 w0 → (∀ b, b < B0.b → w.heap[b]? = w0.heap[b]?) → B0.b ≤ w.heap.size → Calls P f args.toArray w fun e w' => e = .returned v ∧ RowKit.Below w.heap.size w w') (H : Heap) : KnownAt P Tb f args H v H.size := by
  refine ⟨hc, Nat.le_refl _, fun B0 w0 β w args' hG htb hR hargs => ?_⟩
  have hw := h B0 w0 w hG htb hR.keep hR.siz
  have e : args' = args.toArray := by
    apply Array.ext'
    have hl := hargs.1
    apply List.ext_getElem?
    intro i
    cases hi : args[i]? with
    | none =>
      have : args.length ≤ i := List.getElem?_eq_none_iff.1 hi
      rw [List.getElem?_eq_none (by omega)]
    | some x =>
      obtain ⟨x', h1, h2⟩ := hargs.2 i x hi
      rw [h1, (scal_eq (List.all_eq_true.1 ha x (List.mem_of_getElem? hi)) h2).1]
  subst e
  refine hw.mono ?_
  rintro e w' ⟨rfl, hb⟩
  obtain ⟨hos, htape, hout, siz, keep⟩ := hb
  refine ⟨β, v, rfl, Emb.le_refl β, ?_, ?_⟩
  · refine ⟨⟨hR.dom, hR.pn, fun id l e ro cs g1 g2 => ?_, hR.wr, hR.inj, fun id l es c g1 g2 => ?_, hR.wm, hR.injm, hR.gl, fun b hb => ?_, Nat.le_trans hR.siz siz⟩, hos.trans hR.os, htape.trans hR.tape, hout.trans hR.output⟩
    · refine (hR.ob id l e ro cs g1 g2).heap fun o ho => ?_
      rw [keep _ (Array.getElem?_eq_some_iff.1 ho).1]; exact ho
    · refine (hR.mp id l es c g1 g2).heap fun o ho => ?_
      rw [keep _ (Array.getElem?_eq_some_iff.1 ho).1]; exact ho
    · have := hR.siz
      rw [keep b (by omega)]; exact hR.keep b hb
  · cases v <;> first | (simp [scalV, scal] at hv; done) | skip
    · exact .bool _
    · exact .int _ _
    · exact .str _
    · rename_i vs
      simp only [scalV] at hv
      refine .tuple' ⟨rfl, fun i u hu => ⟨u, hu, ?_⟩⟩
      have hu' := Array.all_eq_true_iff_forall_mem.1 hv u (Array.mem_of_getElem? (by rw [← Array.getElem?_toList]; exact hu))
      cases u <;> simp [scal] at hu' <;> first | exact .bool _ | exact .int _ _ | exact .str _
end Go.Proofs.YtiphbdhclldllaaGreatDoor.Mx
