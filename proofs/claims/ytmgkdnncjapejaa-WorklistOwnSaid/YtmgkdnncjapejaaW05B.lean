/- A part of the proof that the law answers true at every input: the text W05B; no conditions. -/
import Derived.Test.YtmgkdnncjapejaaW05A
import Derived.ChangeSlices
import Derived.WalkKit
import Derived.ProofKit
import Derived.OpenShut
import Derived.ChangeOld
import Derived.Below
import Derived.SizedLaws
set_option linter.unusedSimpArgs false
set_option linter.unusedVariables false
namespace Go.Proofs.Ytmgkdnncjapejaa.Ab
open Go Go.Proofs.Ytmgkdnncjapejaa.Abs Go.Proofs.Ytmgkdnncjapejaa.Abs.W05
set_option maxRecDepth 100000
set_option maxHeartbeats 4000000

theorem tr_slice0 (W : World) (x : Addr) : trV W (.slice (some x) 0 0) = .slice (some ⟨0, 0, some 1⟩) 0 0 := rfl
theorem tr_slice {W : World} {b o l c : Nat} (hc : c ≠ 0) (hb : isRow W b = true) (hl : l ≤ c) : trV W (.slice (some ⟨b, o, none⟩) l c) = .slice (some ⟨b, o, some 1⟩) l c := by
  obtain ⟨c, rfl⟩ : ∃ j, c = j + 1 := ⟨c - 1, by omega⟩
  simp [trV, tr1, hb, hl]
theorem cell_spot {W : World} {x : Addr} {v : Value} (h : W.cell? x = some v) : x = ⟨x.block, x.off, none⟩ := by
  unfold World.cell? at h
  split at h
  · split at h
    · cases h
    · rename_i hs
      cases x with
      | mk b o s => cases s with
        | none => rfl
        | some s => simp at hs
  · cases h
theorem add_mk (b o i : Nat) : (⟨b, o, none⟩ : Addr).add i = ⟨b, o + i, none⟩ := by
  unfold Addr.add
  split
  · subst_vars; rfl
  · rfl
/-- A cell of an argument's row, on the abstract machine. -/
theorem heap_cell {W : World} {b e : Nat} {r : Bool} {cs : List Value} (hg : (heapOf W).get b = some (.cells e r cs)) {i : Nat} {n : Int} (h : W.cell? ⟨b, i, none⟩ = some (.int .i64 n)) : cs[i]? = some (Value.int .i64 (n)) := by
  obtain ⟨e', cs', h1, h2, _⟩ := tr1_cell h
  rw [hg] at h1
  cases h1
  exact h2
theorem heap_lt {W : World} {b : Nat} {o : Ob} (h : (heapOf W).get b = some o) : b < (heapOf W).size := by
  rw [heapOf_get] at h
  cases hq : W.heap[b]? with
  | none => rw [hq] at h; cases h
  | some x => exact (Array.getElem?_eq_some_iff.1 hq).1

/-- A row of integers among the arguments. -/
theorem rdA_of {W : World} {x : Addr} {l c : Nat} {zs : List Int} (hl : l ≤ c) (hz : zs.length = c) (hcell : ∀ i, i < zs.length → W.cell? (x.add i) = some (.int .i64 (zs.getD i 0))) : RdA (heapOf W) (trV W (.slice (some x) l c)) (zs.take l) := by
  by_cases hc : c = 0
  · subst hc
    have : l = 0 := by omega
    subst this
    exact .inl ⟨.inr rfl, by simp⟩
  · have h0 := hcell 0 (by omega)
    have hx : x = ⟨x.block, x.off, none⟩ := cell_spot (by simpa [Addr.add] using h0)
    generalize x.block = b at hx
    generalize x.off = o at hx
    subst hx
    rw [add_mk] at h0
    obtain ⟨e, cs, h1, _, h3⟩ := tr1_cell h0
    have hce : ∀ i, i < zs.length → cs[o + i]? = some (Value.int .i64 (zs.getD i 0)) := fun i hi => heap_cell h1 (by rw [← add_mk]; exact hcell i hi)
    have hcl : o + zs.length ≤ cs.length := by
      have := hce (zs.length - 1) (by omega)
      have := (List.getElem?_eq_some_iff.1 this).1
      omega
    have tl : (zs.take l).length = l := by simp; omega
    refine .inr ⟨b, o, 1, c, e, true, cs, ?_, by omega, .inr rfl, h1, heap_lt h1, by omega, fun i hi => ?_⟩
    · rw [tl, tr_slice hc h3 hl]
    · rw [tl] at hi
      rw [g_take hi]; exact hce i (by omega)

/-- A row of acts among the arguments. -/
theorem rdT_of {W : World} {x : Addr} {l c : Nat} {zs : List (Int × Int)} (hl : l ≤ c) (hz : zs.length = c) (hcell : ∀ i, i < zs.length → W.cell? (x.add (i * 2)) = some (.int .i64 (zs.getD i (0, 0)).1) ∧ W.cell? ((x.add (i * 2)).add 1) = some (.int .i64 (zs.getD i (0, 0)).2)) :
    RdT (heapOf W) (trV W (.slice (some x) l c)) l [] := by
  by_cases hc : c = 0
  · subst hc
    have : l = 0 := by omega
    subst this
    exact .inl ⟨.inr rfl, rfl⟩
  · have h0 := (hcell 0 (by omega)).1
    have hx : x = ⟨x.block, x.off, none⟩ := cell_spot (by simpa [Addr.add] using h0)
    generalize x.block = b at hx
    generalize x.off = o at hx
    subst hx
    rw [add_mk] at h0
    obtain ⟨e, cs, h1, _, h3⟩ := tr1_cell h0
    refine .inr ⟨b, o, 1, c, e, true, cs, tr_slice hc h3 hl, h1, heap_lt h1, by simp, fun i hi => ?_⟩
    obtain ⟨c1, c2⟩ := hcell i (by omega)
    rw [add_mk] at c1 c2
    rw [add_mk] at c2
    have d1 := heap_cell h1 c1
    have d2 := heap_cell h1 c2
    have hlen := (List.getElem?_eq_some_iff.1 d2).1
    refine ⟨by omega, (zs.getD i (0, 0)).1, (zs.getD i (0, 0)).2, ?_⟩
    apply List.ext_getElem?
    intro j
    rcases j with _ | _ | j
    · rw [List.getElem?_take, if_pos (by omega), List.getElem?_drop, Nat.add_zero, d1]; rfl
    · rw [List.getElem?_take, if_pos (by omega), List.getElem?_drop, Nat.zero_add, d2]; rfl
    · rw [List.getElem?_take, if_neg (by omega)]; rfl

section
variable {H : Type} {enc : TypeId × Value → H} {P : Program} {w : World} {base : Nat} {held : Bool}

def pairOf (y : DataW H × List MemPlace) : Int × Int := match y.1 with | .agg [.lit (.int _ a), .lit (.int _ b)] => (a, b) | _ => (0, 0)

/-- A slice of structs of two integers, opened. -/
theorem open_pairs {t e : TypeId} {fuel : Nat} {cs : List Value} {x : DataW H × List MemPlace} (ht : P.underlying t = some (.slice e)) (hc : P.cellsOf e = 2)
    (hel : ∀ n cs y, DataW.trod enc P w base (fun _ => true) held n e cs = some y → ∃ a b, cs = [.int .i64 a, .int .i64 b] ∧ y.1 = .agg [.lit (.int .i64 a), .lit (.int .i64 b)])
    (h : DataW.trod enc P w base (fun _ => true) held fuel t cs = some x) :
    cs = [.slice none 0 0] ∨ ∃ (a : Addr) (len cap : Nat) (zs : List (Int × Int)), cs = [.slice (some a) len cap] ∧ len ≤ cap ∧ zs.length = cap ∧
      ∀ i, i < zs.length → w.cell? (a.add (i * 2)) = some (.int .i64 (zs.getD i (0, 0)).1) ∧ w.cell? ((a.add (i * 2)).add 1) = some (.int .i64 (zs.getD i (0, 0)).2) := by
  rcases DataW.trod_slice ht h with h0 | ⟨a, len, cap, elems, rest, n, _, rfl, rfl, hb, hl, hm, hlen, hel1, hsp, hns⟩
  · exact Or.inl h0.1
  right
  obtain ⟨hrl, hr⟩ := hsp rfl
  refine ⟨a, len, cap, (elems ++ rest).map pairOf, rfl, hl, by simp; omega, fun i hi => ?_⟩
  simp only [List.length_map, List.length_append] at hi
  obtain ⟨y, hy⟩ : ∃ y, (elems ++ rest)[i]? = some y := ⟨_, List.getElem?_eq_getElem (by simp; omega)⟩
  have hb' : (w.cells? base (a.add (i * P.cellsOf e)) (P.cellsOf e)).bind (DataW.trod enc P w base (fun _ => true) held n e) = some y := by
    by_cases hi : i < len
    · rw [hel1 i hi, ← hy, List.getElem?_append_left (by omega)]
    · have := hr (i - len) (by omega)
      rw [show len + (i - len) = i by omega] at this
      rw [this, ← hy, List.getElem?_append_right (by omega), hlen]
  rw [hc, Option.bind_eq_some_iff] at hb'
  obtain ⟨cs', hcs, hy'⟩ := hb'
  obtain ⟨p, q, rfl, hyp⟩ := hel _ _ _ hy'
  obtain ⟨_, _, hcell⟩ := World.cells?_some hcs
  have hz : ((elems ++ rest).map pairOf).getD i (0, 0) = (p, q) := by
    simp only [List.getD_eq_getElem?_getD, List.getElem?_map, hy, Option.map_some, Option.getD_some, pairOf, hyp]
  rw [hz]
  have c0 := hcell 0 (by omega)
  have c1 := hcell 1 (by omega)
  refine ⟨by simpa [Addr.add] using c0, by simpa using c1⟩
end

end Go.Proofs.Ytmgkdnncjapejaa.Ab
