/- Words for stepping through the abstract machine's code. -/
import Derived.Test.YtijifdedkolfkaaGreatDoorZacO
set_option linter.unusedSimpArgs false
set_option linter.unusedVariables false
namespace Go.Proofs.YtijifdedkolfkaaGreatDoor.Mac
open Go

theorem rd_set (T : Tr Value) (d n : Nat) (v : Value) : rd (T.set d v) n = if d = n then v else rd T n := by
  simp only [rd, Tr.get_set]
  split <;> rfl
theorem isCall_mv (x : Opd) : (I.mv x).isCall = false := rfl
theorem isCall_pick (c a b : Opd) : (I.pick c a b).isCall = false := rfl
theorem isCall_alloc (k : Nat) (elem : TypeId) (zero : List Value) : (I.alloc k elem zero).isCall = false := rfl
theorem isCall_box (k : Nat) (elem : TypeId) (x : Opd) : (I.box k elem x).isCall = false := rfl
theorem isCall_build (zero : List Value) (parts : List (Nat × Nat × Opd)) : (I.build zero parts).isCall = false := rfl
theorem isCall_bslice (k : Nat) (elem : TypeId) (esz len : Nat) (zero : List Value) (parts : List (Nat × Nat × Opd)) : (I.bslice k elem esz len zero parts).isCall = false := rfl
theorem isCall_load (agg : Bool) (n : Nat) (a : Opd) : (I.load agg n a).isCall = false := rfl
theorem isCall_store (n : Nat) (a x : Opd) : (I.store n a x).isCall = false := rfl
theorem isCall_nilchk (x : Opd) : (I.nilchk x).isCall = false := rfl
theorem isCall_bin (op : BinOp) (m : EqM) (x y : Opd) : (I.bin op m x y).isCall = false := rfl
theorem isCall_un (op : UnOp) (x : Opd) : (I.un op x).isCall = false := rfl
theorem isCall_conv (k : IntKind) (x : Opd) : (I.conv k x).isCall = false := rfl
theorem isCall_mkfn (fn : Fn) (first captured : List Opd) : (I.mkfn fn first captured).isCall = false := rfl
theorem isCall_mkslice (k : Nat) (elem : TypeId) (esz bytes : Nat) (zero : List Value) (len cap : Opd) : (I.mkslice k elem esz bytes zero len cap).isCall = false := rfl
theorem isCall_slice (esz : Nat) (x : Opd) (lo hi mx : Option Opd) : (I.slice esz x lo hi mx).isCall = false := rfl
theorem isCall_strslice (x : Opd) (lo hi : Option Opd) : (I.strslice x lo hi).isCall = false := rfl
theorem isCall_faddr (off : Nat) (x : Opd) : (I.faddr off x).isCall = false := rfl
theorem isCall_field (agg : Bool) (off n : Nat) (x : Opd) : (I.field agg off n x).isCall = false := rfl
theorem isCall_iaddr (esz : Nat) (x i : Opd) : (I.iaddr esz x i).isCall = false := rfl
theorem isCall_aaddr (len esz : Nat) (x i : Opd) : (I.aaddr len esz x i).isCall = false := rfl
theorem isCall_aindex (agg : Bool) (len esz : Nat) (x i : Opd) : (I.aindex agg len esz x i).isCall = false := rfl
theorem isCall_strindex (x i : Opd) : (I.strindex x i).isCall = false := rfl
theorem isCall_ext (i : Nat) (x : Opd) : (I.ext i x).isCall = false := rfl
theorem isCall_len (x : Opd) : (I.len x).isCall = false := rfl
theorem isCall_strlen (x : Opd) : (I.strlen x).isCall = false := rfl
theorem isCall_const (v : Value) : (I.const v).isCall = false := rfl
theorem isCall_append (k : Nat) (elem : TypeId) (esz bytes : Nat) (pure : Bool) (x y : Opd) : (I.append k elem esz bytes pure x y).isCall = false := rfl
theorem isCall_minmax (max : Bool) (x y : Opd) : (I.minmax max x y).isCall = false := rfl
theorem isCall_copy (esz : Nat) (x y : Opd) : (I.copy esz x y).isCall = false := rfl

theorem rd_nil (n : Nat) : rd .nil n = undef := rfl

variable {cl : Nat → List Value → Heap → Option (Value × Heap)}
theorem evSeq_nil {b : Nat} {s : St} : evSeq cl b [] s = some s := rfl
theorem evSeq_o (b idx d : Nat) (i : I) (l : List Ins) (T : Tr Value) (H : Heap) (log : Tr Lg) :
    evSeq cl b (o idx d i :: l) ⟨T, H, log⟩ = match evI cl b T H i with | some (v, H') => evSeq cl b l ⟨T.set d v, H', log⟩ | none => none := by
  simp only [evSeq, evIns, evW, Ins.wanted, lg]
  cases evI cl b T H i with
  | none => rfl
  | some p => obtain ⟨v, H1⟩ := p; simp [chkOk, putT]
theorem evSeq_ox (b idx : Nat) (i : I) (l : List Ins) (T : Tr Value) (H : Heap) (log : Tr Lg) :
    evSeq cl b (ox idx i :: l) ⟨T, H, log⟩ = match evI cl b T H i with | some (_, H') => evSeq cl b l ⟨T, H', log⟩ | none => none := by
  simp only [evSeq, evIns, evW, Ins.wanted, lg]
  cases evI cl b T H i with
  | none => rfl
  | some p => obtain ⟨v, H1⟩ := p; simp [chkOk, putT]
/-- Guarded. -/
theorem evSeq_og (b idx d g : Nat) (w : Bool) (i : I) (l : List Ins) (T : Tr Value) (H : Heap) (log : Tr Lg) :
    evSeq cl b (og idx d g w i :: l) ⟨T, H, log⟩ = match rd T g with
      | .bool t => bif t == w then (match evI cl b T H i with | some (v, H') => evSeq cl b l ⟨T.set d v, H', log⟩ | none => none)
                   else evSeq cl b l ⟨T.set d undef, H, log⟩
      | .tuple vs => if vs.size = 0 then evSeq cl b l ⟨T.set d undef, H, log⟩ else none
      | _ => none := by
  simp only [evSeq, evIns, evW, Ins.wanted, lg]
  cases rd T g <;> simp only []
  case bool t =>
    cases t == w
    · simp [putT]
    · simp only [cond_true]
      cases evI cl b T H i with
      | none => rfl
      | some p => obtain ⟨v, H1⟩ := p; simp [chkOk, putT]
  case tuple vs =>
    by_cases h : vs.size = 0
    · simp only [h, if_true]; simp [putT]
    · simp only [h, if_false]

theorem isCall_call (f : Opd) (as : List Opd) : (I.call f as).isCall = true := rfl
theorem ext_zero (H : Heap) : Heap.ext 0 H = H := rfl
theorem ext_old {n : Nat} {H : Heap} {i : Nat} (h : i < H.size) : (Heap.ext n H).get i = H.get i := by
  rw [Heap.get_ext, if_neg (by omega)]
theorem ext_new {n : Nat} {H : Heap} {k : Nat} (h : k < n) : (Heap.ext n H).get (H.size + k) = some .pend := by
  rw [Heap.get_ext, if_pos (by omega)]
theorem ext_new0 {n : Nat} {H : Heap} (h : 0 < n) : (Heap.ext n H).get H.size = some .pend := by
  rw [Heap.get_ext, if_pos (by omega)]

/-! ### code, but for loops -/
theorem evC_skip (cl : Nat → List Value → Heap → Option (Value × Heap)) (n : Nat) (T : Tr Value) (H : Heap) : evC cl n .skip T H = some (.normal, T, H) := rfl
theorem evC_region (cl : Nat → List Value → Heap → Option (Value × Heap)) (n na : Nat) (ops : List Ins) (T : Tr Value) (H : Heap) : evC cl n (.region na ops) T H = match evSeq cl H.size ops ⟨T, Heap.ext na H, .nil⟩ with
    | some s => some (.normal, s.T, s.H)
    | none => none := rfl
theorem evC_seq (cl : Nat → List Value → Heap → Option (Value × Heap)) (n : Nat) (a b : Cd) (T : Tr Value) (H : Heap) : evC cl n (.seq a b) T H = match evC cl n a T H with
    | some (.normal, T, H) => evC cl n b T H
    | r => r := rfl
theorem evC_cond (cl : Nat → List Value → Heap → Option (Value × Heap)) (n : Nat) (c : Opd) (a b : Cd) (T : Tr Value) (H : Heap) : evC cl n (.cond c a b) T H = match c.ev T with
    | .bool t => bif t then evC cl n a T H else evC cl n b T H
    | _ => none := rfl
theorem evC_block (cl : Nat → List Value → Heap → Option (Value × Heap)) (n id : Nat) (c : Cd) (T : Tr Value) (H : Heap) : evC cl n (.block id c) T H = match evC cl n c T H with
    | some (.exit id', T, H) => bif id' == id then some (.normal, T, H) else some (.exit id', T, H)
    | r => r := rfl
theorem evC_exit (cl : Nat → List Value → Heap → Option (Value × Heap)) (n id : Nat) (T : Tr Value) (H : Heap) : evC cl n (.exit id) T H = some (.exit id, T, H) := rfl
theorem evC_ret (cl : Nat → List Value → Heap → Option (Value × Heap)) (n : Nat) (T : Tr Value) (H : Heap) : evC cl n .ret T H = some (.ret, T, H) := rfl

/-- What one round of a loop must come to. -/
def Round (I : Nat → Tr Value → Heap → Prop) (Post : Ex → Tr Value → Heap → Prop) (m : Nat) : Ex × Tr Value × Heap → Prop
  | (.normal, T, H) => ∃ m', m' < m ∧ I m' T H
  | (e, T, H) => Post e T H

/-- A loop with an invariant and a measure. -/
theorem loop_run {cl : Nat → List Value → Heap → Option (Value × Heap)} {n : Nat} {c : Cd} (I : Nat → Tr Value → Heap → Prop) (Post : Ex → Tr Value → Heap → Prop)
    (step : ∀ m T H, I m T H → ∃ r, evC cl n c T H = some r ∧ Round I Post m r) :
    ∀ m T H, I m T H → m < n → ∃ e T' H', evC cl n (.loop c) T H = some (e, T', H') ∧ e ≠ .normal ∧ Post e T' H' := by
  have key : ∀ j m T H, I m T H → m < j → ∃ e T' H', iter (fun T H => evC cl n c T H) j T H = some (e, T', H') ∧ e ≠ .normal ∧ Post e T' H' := by
    intro j
    induction j with
    | zero => intro m T H _ h; omega
    | succ j ih =>
      intro m T H hI hm
      obtain ⟨⟨e, T', H'⟩, h2, h3⟩ := step m T H hI
      cases e with
      | normal =>
        obtain ⟨m', h1, h3⟩ := h3
        obtain ⟨e, T2, H2, g1, g2, g3⟩ := ih m' T' H' h3 (by omega)
        exact ⟨e, T2, H2, by simp only [iter, h2]; exact g1, g2, g3⟩
      | exit i => exact ⟨.exit i, T', H', by simp only [iter, h2], by simp, h3⟩
      | ret => exact ⟨.ret, T', H', by simp only [iter, h2], by simp, h3⟩
  exact fun m T H hI hm => key n m T H hI hm

theorem cells_int (k : IntKind) (n : Int) : (Value.int k n).cells = #[.int k n] := rfl
theorem cells_bool (b : Bool) : (Value.bool b).cells = #[.bool b] := rfl
theorem cells_string (b : ByteArray) : (Value.string b).cells = #[.string b] := rfl
theorem cells_pointer (b : Option Addr) : (Value.pointer b).cells = #[.pointer b] := rfl
theorem cells_slice (b : Option Addr) (n c : Nat) : (Value.slice b n c).cells = #[.slice b n c] := rfl
theorem cells_func (f : Fn) (a c : Array Value) : (Value.func f a c).cells = #[.func f a c] := rfl
theorem cells_nilFunc : Value.nilFunc.cells = #[.nilFunc] := rfl
theorem cells_agg (c : Array Value) : (Value.agg c).cells = c := rfl
theorem ok_int (k : IntKind) (n : Int) : okAll (.int k n) = true := rfl
theorem ok_bool (b : Bool) : okAll (.bool b) = true := rfl
theorem ok_string (b : ByteArray) : okAll (.string b) = true := rfl
theorem ok_pointer (b : Option Addr) : okAll (.pointer b) = true := rfl
theorem ok_slice (b : Option Addr) (n c : Nat) : okAll (.slice b n c) = true := rfl
theorem ok_func (f : Fn) (a c : Array Value) : okAll (.func f a c) = true := rfl
theorem ok_nilFunc : okAll .nilFunc = true := rfl
theorem ok_agg (c : Array Value) : okAll (.agg c) = c.toList.all okCell := rfl
theorem size_one (v : Value) : #[v].size = 1 := rfl
theorem toList_one (v : Value) : #[v].toList = [v] := rfl
theorem setRange_one (cs : List Value) (o : Nat) (v : Value) (h : o + 1 ≤ cs.length) : setRange cs o [v] = cs.set o v := by
  apply List.ext_getElem?
  intro i
  rw [getElem?_setRange _ _ _ h, List.getElem?_set]
  by_cases e : o = i
  · subst e; simp; omega
  · have : ¬ (o ≤ i ∧ i < o + [v].length) := by simp; omega
    rw [if_neg this, if_neg e]

end Go.Proofs.YtijifdedkolfkaaGreatDoor.Mac
