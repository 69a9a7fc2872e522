/- Single operations: what the abstract machine does, the model does. -/
import Derived.Test.YtiphbdhclldllaaGreatDoorZadC
set_option linter.unusedSimpArgs false
set_option linter.unusedVariables false
namespace Go.Proofs.YtiphbdhclldllaaGreatDoor.Mx
open Go

theorem run_sizeOfT {P : Program} {t n : Nat} (h : sizeOfT P t = some n) (w : World) : (sizeOf t).run P w = .ok n w := by
  unfold sizeOfT at h
  cases hi : P.info? t with
  | none => simp [hi] at h
  | some i => simp [hi] at h; subst h; simp [sizeOf, typeInfo, hi]

theorem run_und {P : Program} {t : Nat} {d : TypeDesc} (h : P.underlying t = some d) (w : World) : (underlying t).run P w = .ok d w := by
  simp [underlying, h]

theorem run_isAggD {P : Program} {t : Nat} {d : TypeDesc} (h : P.underlying t = some d) (w : World) : (isAgg t).run P w = .ok (aggD d) w := by
  simp only [isAgg, Sem.run_bind, run_und h, Result.andThen_ok]
  cases d <;> rfl

theorem cell_of {w : World} {b o : Nat} {c : Array Value} {e : TypeId} {fz : Nat × Nat} (h : w.heap[b]? = some (.cells c e fz)) : w.cell? ⟨b, o, none⟩ = c[o]? := by
  simp [World.cell?, h]

theorem add_none (b o k : Nat) : (⟨b, o, none⟩ : Addr).add k = ⟨b, o + k, none⟩ := by
  unfold Addr.add
  split
  · rename_i h; simp [h]
  · rfl

def Good (B0 : Bs) (w0 : World) (β : Emb) (H' : Heap) (v : Value) (r : Result Value) : Prop :=
  ∃ β' v' w', r = .ok v' w' ∧ β.le β' ∧ WRel B0 w0 β' H' w' ∧ VR β' v v'

section
variable {P : Program} {B0 : Bs} {w0 : World} {β : Emb} {H : Heap} {w : World}

theorem Good.same {β : Emb} {v v' : Value} {r : Result Value} (R : WRel B0 w0 β H w) (hr : r = .ok v' w) (hv : VR β v v') : Good B0 w0 β H v r :=
  ⟨β, v', w, hr, Emb.le_refl β, R, hv⟩

theorem vrs_range {β : Emb} {l : Loc} {c : Array Value} {cs : List Value} (h : ∀ (i : Nat) (v : Value), cs[i]? = some v → ∃ v', c[l.o + i]? = some v' ∧ VR β v v')
    (off n : Nat) (hn : off + n ≤ cs.length) (hc : l.o + cs.length ≤ c.size) : VRs β ((cs.drop off).take n) ((c.toList.drop (l.o + off)).take n) := by
  refine ⟨by simp; omega, fun i v hv => ?_⟩
  rw [List.getElem?_take] at hv ⊢
  split at hv
  · rename_i hi
    rw [if_pos hi]
    rw [List.getElem?_drop] at hv ⊢
    obtain ⟨v', h1, h2⟩ := h _ v hv
    exact ⟨v', by rw [Array.getElem?_toList, Nat.add_assoc]; exact h1, h2⟩
  · simp at hv

theorem load_sim' (R : WRel B0 w0 β H w) {t n : Nat} {d : TypeDesc} (hu : P.underlying t = some d) (hs : sizeOfT P t = some n) {a a' v : Value}
    (hv : H.loadv (aggD d) n a = some v) (ha : VR β a a') : ∃ v', (Instr.loadAt t a').run P w = .ok v' w ∧ VR β v v' := by
  unfold Heap.loadv at hv
  split at hv
  case h_2 => cases hv
  rename_i id off
  cases ha with
  | ptr _ _ l hl =>
  split at hv
  case h_2 => cases hv
  rename_i e ro cs hg
  obtain ⟨c, e', fz, h1, h2, h3, h4, h5⟩ := R.ob id l e ro cs hl hg
  cases hd : aggD d with
  | true =>
    rw [hd] at hv
    simp only [if_true] at hv
    split at hv
    case isFalse => cases hv
    rename_i hle
    cases hv
    have hlen : ((c.toList.drop (l.o + off)).take n).length = n := by simp; omega
    have hld := run_loadCells_list (P := P) w ⟨l.b, l.o + off, none⟩ ((c.toList.drop (l.o + off)).take n) (fun j v hj => by
      rw [add_none, cell_of h1]
      rw [List.getElem?_take] at hj
      split at hj
      · rw [List.getElem?_drop, Array.getElem?_toList] at hj; exact hj
      · cases hj)
    rw [hlen] at hld
    refine ⟨.agg ((c.toList.drop (l.o + off)).take n).toArray, ?_, .agg' (by simpa using vrs_range h5 off n hle (by omega))⟩
    simp [Instr.loadAt, Instr.sureAddr, loadVar, run_isAggD hu, hd, run_sizeOfT hs, hld]
  | false =>
    rw [hd] at hv
    simp only [Bool.false_eq_true, if_false] at hv
    obtain ⟨v', g1, g2⟩ := h5 off v hv
    refine ⟨v', ?_, g2⟩
    simp [Instr.loadAt, Instr.sureAddr, loadVar, run_isAggD hu, hd, cell_of h1, g1]

theorem load_sim (R : WRel B0 w0 β H w) {t n : Nat} {d : TypeDesc} (hu : P.underlying t = some d) (hs : sizeOfT P t = some n) {a a' v : Value}
    (hv : H.loadv (aggD d) n a = some v) (ha : VR β a a') : Good B0 w0 β H v ((Instr.loadAt t a').run P w) := by
  obtain ⟨v', h1, h2⟩ := load_sim' (P := P) R hu hs hv ha
  exact Good.same R h1 h2

theorem getElem?_setRange (cs : List Value) (off : Nat) (vs : List Value) (h : off + vs.length ≤ cs.length) (i : Nat) :
    (setRange cs off vs)[i]? = if off ≤ i ∧ i < off + vs.length then vs[i - off]? else cs[i]? := by
  unfold setRange
  by_cases h1 : i < off
  · have : ¬ (off ≤ i ∧ i < off + vs.length) := by omega
    rw [if_neg this, List.append_assoc, List.getElem?_append_left (by simp; omega), List.getElem?_take, if_pos h1]
  · by_cases h2 : i < off + vs.length
    · rw [if_pos ⟨by omega, h2⟩, List.append_assoc, List.getElem?_append_right (by simp; omega), List.getElem?_append_left (by simp; omega)]
      congr 1
      simp; omega
    · have : ¬ (off ≤ i ∧ i < off + vs.length) := by omega
      rw [if_neg this, List.getElem?_append_right (by simp; omega), List.getElem?_drop]
      congr 1
      simp; omega

theorem length_setRange (cs : List Value) (off : Nat) (vs : List Value) (h : off + vs.length ≤ cs.length) : (setRange cs off vs).length = cs.length := by
  unfold setRange; simp; omega

/-- The cells of a block with a range written. -/
def blockPut (c : Array Value) (o : Nat) (vs : List Value) : Array Value := (c.toList.take o ++ vs ++ c.toList.drop (o + vs.length)).toArray

theorem blockPut_eq (c : Array Value) (o : Nat) (vs : List Value) : blockPut c o vs = (setRange c.toList o vs).toArray := rfl

theorem setRow_heap' (w : World) (g : Nat) (c : Array Value) (e : TypeId) (h : ∃ c0, w.heap[g]? = some (.cells c0 e (0, 0))) : (w.setRow g c).heap = w.heap.setIfInBounds g (.cells c e (0, 0)) := by
  obtain ⟨c0, h⟩ := h
  have hlt : g < w.heap.size := (Array.getElem?_eq_some_iff.1 h).1
  have hget : w.heap[g] = .cells c0 e (0, 0) := (Array.getElem?_eq_some_iff.1 h).2
  apply Array.ext_getElem?
  intro i
  simp only [World.setRow, Array.getElem?_modify, Array.getElem?_setIfInBounds]
  by_cases hi : g = i
  · subst hi; simp [hlt, hget]
  · simp [hi]

theorem write_sim (R : WRel B0 w0 β H w) {id : Nat} {l : Loc} {e : TypeId} {cs : List Value} (hb : β id = some l) (hg : H.get id = some (.cells e false cs))
    {off : Nat} {vs vs' : List Value} (hvs : VRs β vs vs') (hone : vs.all okCell = true) (hle : off + vs.length ≤ cs.length) :
    ∃ w', (storeCells ⟨l.b, l.o + off, none⟩ vs' 0).run P w = .ok () w' ∧ WRel B0 w0 β (H.put id (.cells e false (setRange cs off vs))) w' := by
  obtain ⟨c, e', fz, h1, h2, h3, h4, h5⟩ := R.ob id l e false cs hb hg
  have hfz := h2 rfl
  subst hfz
  have hl := hvs.1
  refine ⟨_, run_storeCells_at P l.b (l.o + off) e' vs' 0 c w h1 (by omega) (hvs.allOne hone), ⟨?_, R.os, R.tape, R.output⟩⟩
  rw [setRow_heap' w l.b _ e' ⟨c, h1⟩]
  simp only [Nat.add_zero]
  change Rel B0 w0.heap β _ (w.heap.setIfInBounds l.b (.cells (setRange c.toList (l.o + off) vs').toArray e' (0, 0)))
  have hr : l.o + off + vs'.length ≤ c.toList.length := by simp; omega
  refine R.toRel.write hb hg _ e' (fun c0 e0 fz0 hh => ?_) (by rw [length_setRange _ _ _ hle]; exact h3) (fun i v hv => ?_)
  · rw [h1] at hh; cases hh
    simp [length_setRange _ _ _ hr]
  · rw [getElem?_setRange _ _ _ hle] at hv
    rw [List.getElem?_toArray, getElem?_setRange _ _ _ hr]
    split at hv
    · rename_i hi
      obtain ⟨v', g1, g2⟩ := hvs.2 _ v hv
      refine ⟨v', ?_, g2⟩
      rw [if_pos (by omega), show l.o + i - (l.o + off) = i - off by omega]; exact g1
    · rename_i hi
      obtain ⟨v', g1, g2⟩ := h5 i v hv
      refine ⟨v', ?_, g2⟩
      rw [if_neg (by omega), Array.getElem?_toList]; exact g1

theorem store_sim (R : WRel B0 w0 β H w) {t n : Nat} (hs : sizeOfT P t = some n) {a a' x x' : Value} {H' : Heap}
    (hv : H.storev n a x = some H') (ha : VR β a a') (hx : VR β x x') : ∃ w', (Instr.storeAt t a' x').run P w = .ok () w' ∧ WRel B0 w0 β H' w' := by
  unfold Heap.storev at hv
  split at hv
  case h_2 => cases hv
  rename_i id off
  cases ha with
  | ptr _ _ l hl =>
  split at hv
  case h_2 => cases hv
  rename_i e cs hg
  split at hv
  case isFalse => cases hv
  rename_i hc
  obtain ⟨hsz, hone, hle⟩ := hc
  cases hv
  have hxc := hx.cells hone
  have hszl : x.cells.toList.length = n := by simpa using hsz
  obtain ⟨w', h1, h2⟩ := write_sim (P := P) R hl hg hxc hone (off := off) (by omega)
  refine ⟨w', ?_, h2⟩
  have hs' : x'.cells.size = n := by have := hxc.1; simp at this; omega
  simp [Instr.storeAt, Instr.sureAddr, storeVar, run_sizeOfT hs, hs', h1]

theorem zeroOf_spec {t : Nat} {z : List Value} (h : zeroOf P t = some z) : ∃ i zv, P.info? t = some i ∧ i.zero = some zv ∧ zv.cells.toList = z ∧ z.length = i.size ∧ z.all leafClosed = true := by
  unfold zeroOf at h
  split at h
  case h_2 => cases h
  rename_i i hi
  split at h
  case h_2 => cases h
  rename_i zv hz
  split at h
  case isFalse => cases h
  rename_i hc
  cases h
  exact ⟨i, zv, hi, hz, rfl, by simpa using hc.1, by simpa using hc.2⟩

theorem run_zero {t : Nat} {i : TypeInfo} {zv : Value} (hi : P.info? t = some i) (hz : i.zero = some zv) (w : World) : (zeroValue t).run P w = .ok zv w := by
  simp [zeroValue, typeInfo, hi, hz]

/-- A new row: its pointer. -/
theorem new_sim (R : WRel B0 w0 β H w) {id : Nat} {H' : Heap} {e t : TypeId} {cs cs' : List Value} (hn : H.new id (.cells e false cs) = some H') (hid : id < H.size)
    {c : Array Value} (hc : c.toList = cs') (hcs : VRs β cs (cs'.take cs.length)) (hlen : cs.length ≤ cs'.length) :
    β.le (β.upd id ⟨w.heap.size, 0, c.size⟩) ∧ Rel B0 w0.heap (β.upd id ⟨w.heap.size, 0, c.size⟩) H' (w.heap.push (.cells c t (0, 0))) := by
  refine R.toRel.new hn hid c t (fun i v hv => ?_) (by have : c.size = cs'.length := (by rw [← hc]; simp); omega)
  obtain ⟨v', h1, h2⟩ := hcs.2 i v hv
  refine ⟨v', ?_, h2⟩
  rw [List.getElem?_take] at h1
  split at h1
  · rw [← Array.getElem?_toList, hc]; exact h1
  · cases h1

theorem upd_self (β : Emb) (id : Nat) (l : Loc) : β.upd id l id = some l := by simp [Emb.upd]

theorem alloc_sim (R : WRel B0 w0 β H w) {id : Nat} {H' : Heap} {e : TypeId} {z : List Value} (hz : zeroOf P e = some z) (hn : H.new id (.cells e false z) = some H') (hid : id < H.size) :
    Good B0 w0 β H' (.pointer (some ⟨id, 0, none⟩)) ((Instr.alloc e true (.tuple #[])).run P w) := by
  obtain ⟨i, zv, hi, hz1, hz2, hz3, hz4⟩ := zeroOf_spec hz
  obtain ⟨le, R'⟩ := new_sim R (t := e) hn hid (c := zv.cells) hz2 (by rw [List.take_length]; exact .ofLeaf β hz4) (Nat.le_refl _)
  refine ⟨_, .pointer (some ⟨w.heap.size, 0, none⟩), { w with heap := w.heap.push (.cells zv.cells e) }, ?_, le, ⟨R', R.os, R.tape, R.output⟩, ?_⟩
  · simp [Instr.alloc, run_zero hi hz1, newVar, newRow]
  · exact .ptr id 0 ⟨w.heap.size, 0, zv.cells.size⟩ (upd_self _ _ _)

theorem box_sim (R : WRel B0 w0 β H w) {id : Nat} {H' : Heap} {e : TypeId} {x x' : Value} (hx : VR β x x') (hok : okAll x = true) (hn : H.new id (.cells e false x.cells.toList) = some H') (hid : id < H.size) :
    Good B0 w0 β H' (.pointer (some ⟨id, 0, none⟩)) ((Instr.box e x').run P w) := by
  have hc := hx.cells hok
  obtain ⟨le, R'⟩ := new_sim R (t := e) hn hid (c := x'.cells) rfl (by rw [hc.1, List.take_length]; exact hc) (by rw [hc.1]; exact Nat.le_refl _)
  refine ⟨_, .pointer (some ⟨w.heap.size, 0, none⟩), { w with heap := w.heap.push (.cells x'.cells e) }, ?_, le, ⟨R', R.os, R.tape, R.output⟩, ?_⟩
  · simp [Instr.box, newVar, newRow]
  · exact .ptr id 0 ⟨w.heap.size, 0, x'.cells.size⟩ (upd_self _ _ _)

end
end Go.Proofs.YtiphbdhclldllaaGreatDoor.Mx
