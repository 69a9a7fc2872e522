/- The relation between the abstract machine's values and heaps and the model's. -/
import Derived.Test.YtiphbdhclldllaaGreatDoorZadB
import Derived.WalkKit
set_option linter.unusedSimpArgs false
set_option linter.unusedVariables false
namespace Go.Proofs.YtiphbdhclldllaaGreatDoor.Mx
open Go

structure Loc where
  b : Nat
  o : Nat
  n : Nat

/-- The memory at the call: so many globals, so many objects. -/
structure Bs where
  g : Nat
  b : Nat

abbrev Emb := Nat → Option Loc

inductive VR (β : Emb) : Value → Value → Prop
  | bool (b : Bool) : VR β (.bool b) (.bool b)
  | int (k : IntKind) (n : Int) : VR β (.int k n) (.int k n)
  | str (s : ByteArray) : VR β (.string s) (.string s)
  | nilp : VR β (.pointer none) (.pointer none)
  | ptr (id off : Nat) (l : Loc) (h : β id = some l) : VR β (.pointer (some ⟨id, off, none⟩)) (.pointer (some ⟨l.b, l.o + off, none⟩))
  | nils : VR β (.slice none 0 0) (.slice none 0 0)
  | slice (id off m len cap cap' : Nat) (l : Loc) (h : β id = some l) (h1 : len ≤ cap) (h2 : cap ≤ cap') (h3 : m % 2 = 1 → cap' = cap) (h4 : m / 2 ≠ 0 → off + cap' * (m / 2) ≤ l.n) :
      VR β (.slice (some ⟨id, off, some m⟩) len cap) (.slice (some ⟨l.b, l.o + off, none⟩) len cap')
  | slice0 (id off m : Nat) (A : Addr) : VR β (.slice (some ⟨id, off, some m⟩) 0 0) (.slice (some A) 0 0)
  | nilm : VR β (.map none) (.map none)
  | mapr (id : Nat) (l : Loc) (h : β id = some l) : VR β (.map (some id)) (.map (some l.b))
  | any (v : Value) : VR β junk v
  | opq (v : Value) (h : v.oneCell' = true) : VR β opq v
  | nilf : VR β .nilFunc .nilFunc
  | nili : VR β .nilIface .nilIface
  | iface (t : TypeId) (v v' : Value) (h : VR β v v') : VR β (.iface t v) (.iface t v')
  | func (fn : Fn) (f c f' c' : Array Value) (hf : f.size = f'.size) (hc : c.size = c'.size) (gf : ∀ i (h : i < f.size) (h' : i < f'.size), VR β f[i] f'[i])
      (gc : ∀ i (h : i < c.size) (h' : i < c'.size), VR β c[i] c'[i]) : VR β (.func fn f c) (.func fn f' c')
  | agg (c c' : Array Value) (hc : c.size = c'.size) (gc : ∀ i (h : i < c.size) (h' : i < c'.size), VR β c[i] c'[i]) : VR β (.agg c) (.agg c')
  | tuple (c c' : Array Value) (hc : c.size = c'.size) (gc : ∀ i (h : i < c.size) (h' : i < c'.size), VR β c[i] c'[i]) : VR β (.tuple c) (.tuple c')

def VRs (β : Emb) (l l' : List Value) : Prop := l.length = l'.length ∧ ∀ (i : Nat) (v : Value), l[i]? = some v → ∃ v', l'[i]? = some v' ∧ VR β v v'

def Emb.le (β β' : Emb) : Prop := ∀ id l, β id = some l → β' id = some l

theorem Emb.le_refl (β : Emb) : β.le β := fun _ _ h => h
theorem Emb.le_trans {a b c : Emb} (h : a.le b) (h' : b.le c) : a.le c := fun _ _ g => h' _ _ (h _ _ g)

theorem VR.mono {β β' : Emb} (hb : β.le β') {v v' : Value} (h : VR β v v') : VR β' v v' := by
  induction h with
  | bool b => exact .bool b
  | int k n => exact .int k n
  | str s => exact .str s
  | nilp => exact .nilp
  | ptr id off l h => exact .ptr id off l (hb _ _ h)
  | nils => exact .nils
  | slice id off m len cap cap' l h h1 h2 h3 h4 => exact .slice id off m len cap cap' l (hb _ _ h) h1 h2 h3 h4
  | slice0 id off m A => exact .slice0 id off m A
  | nilm => exact .nilm
  | mapr id l h => exact .mapr id l (hb _ _ h)
  | any v => exact .any v
  | opq v h => exact .opq v h
  | nilf => exact .nilf
  | nili => exact .nili
  | iface t v v' _ ih => exact .iface t v v' ih
  | func fn f c f' c' hf hc _ _ i1 i2 => exact .func fn f c f' c' hf hc i1 i2
  | agg c c' hc _ ih => exact .agg c c' hc ih
  | tuple c c' hc _ ih => exact .tuple c c' hc ih

theorem VRs.mono {β β' : Emb} (hb : β.le β') {l l' : List Value} (h : VRs β l l') : VRs β' l l' :=
  ⟨h.1, fun i v hv => let ⟨v', h1, h2⟩ := h.2 i v hv; ⟨v', h1, h2.mono hb⟩⟩

theorem VRs.nil (β : Emb) : VRs β [] [] := ⟨rfl, fun i v h => by simp at h⟩
theorem VRs.cons {β : Emb} {v v' : Value} {l l' : List Value} (h : VR β v v') (hl : VRs β l l') : VRs β (v :: l) (v' :: l') := by
  refine ⟨by simp [hl.1], fun i u hu => ?_⟩
  cases i with
  | zero => simp at hu; subst hu; exact ⟨v', by simp, h⟩
  | succ i => simp at hu; obtain ⟨u', h1, h2⟩ := hl.2 i u hu; exact ⟨u', by simpa using h1, h2⟩
theorem VRs.append {β : Emb} {a a' b b' : List Value} (h : VRs β a a') (h' : VRs β b b') : VRs β (a ++ b) (a' ++ b') := by
  refine ⟨by simp [h.1, h'.1], fun i u hu => ?_⟩
  by_cases hi : i < a.length
  · rw [List.getElem?_append_left hi] at hu
    obtain ⟨u', h1, h2⟩ := h.2 i u hu
    exact ⟨u', by rw [List.getElem?_append_left (h.1 ▸ hi)]; exact h1, h2⟩
  · rw [List.getElem?_append_right (by omega)] at hu
    obtain ⟨u', h1, h2⟩ := h'.2 _ u hu
    exact ⟨u', by rw [List.getElem?_append_right (by have := h.1; omega), ← h.1]; exact h1, h2⟩
theorem VRs.take {β : Emb} {a a' : List Value} (h : VRs β a a') (n : Nat) : VRs β (a.take n) (a'.take n) := by
  refine ⟨by simp [h.1], fun i u hu => ?_⟩
  rw [List.getElem?_take] at hu
  split at hu
  · rename_i hi
    obtain ⟨u', h1, h2⟩ := h.2 i u hu
    exact ⟨u', by rw [List.getElem?_take, if_pos hi]; exact h1, h2⟩
  · simp at hu
theorem VRs.drop {β : Emb} {a a' : List Value} (h : VRs β a a') (n : Nat) : VRs β (a.drop n) (a'.drop n) := by
  refine ⟨by simp [h.1], fun i u hu => ?_⟩
  rw [List.getElem?_drop] at hu
  obtain ⟨u', h1, h2⟩ := h.2 _ u hu
  exact ⟨u', by rw [List.getElem?_drop]; exact h1, h2⟩

theorem vrs_of_arr {β : Emb} {c c' : Array Value} (hc : c.size = c'.size) (gc : ∀ i (h : i < c.size) (h' : i < c'.size), VR β c[i] c'[i]) : VRs β c.toList c'.toList := by
  refine ⟨by simpa using hc, fun i v hv => ?_⟩
  rw [Array.getElem?_toList] at hv
  obtain ⟨hi, rfl⟩ := Array.getElem?_eq_some_iff.1 hv
  exact ⟨c'[i]'(hc ▸ hi), by rw [Array.getElem?_toList]; exact Array.getElem?_eq_some_iff.2 ⟨hc ▸ hi, rfl⟩, gc i hi (hc ▸ hi)⟩
theorem arr_of_vrs {β : Emb} {c c' : Array Value} (h : VRs β c.toList c'.toList) : c.size = c'.size ∧ ∀ i (h : i < c.size) (h' : i < c'.size), VR β c[i] c'[i] := by
  refine ⟨by simpa using h.1, fun i hi hi' => ?_⟩
  obtain ⟨v', h1, h2⟩ := h.2 i c[i] (by rw [Array.getElem?_toList]; exact Array.getElem?_eq_some_iff.2 ⟨hi, rfl⟩)
  rw [Array.getElem?_toList] at h1
  obtain ⟨_, rfl⟩ := Array.getElem?_eq_some_iff.1 h1
  exact h2
theorem VR.agg' {β : Emb} {c c' : Array Value} (h : VRs β c.toList c'.toList) : VR β (.agg c) (.agg c') := .agg _ _ (arr_of_vrs h).1 (arr_of_vrs h).2
theorem VR.tuple' {β : Emb} {c c' : Array Value} (h : VRs β c.toList c'.toList) : VR β (.tuple c) (.tuple c') := .tuple _ _ (arr_of_vrs h).1 (arr_of_vrs h).2
theorem VR.undef (β : Emb) : VR β undef undef := .tuple _ _ rfl (fun i h => absurd h (by simp))

theorem VR.cells {β : Emb} {v v' : Value} (h : VR β v v') (ho : okAll v = true) : VRs β v.cells.toList v'.cells.toList := by
  cases h with
  | agg c c' hc gc => exact vrs_of_arr hc gc
  | tuple c c' hc gc => simp [okAll, Value.cells, okCell] at ho
  | any v => simp [okAll, junk, Value.cells, okCell] at ho
  | opq v hv =>
    have : v'.cells = #[v'] := by cases v' <;> first | rfl | simp [Value.oneCell'] at hv
    rw [this]
    exact .cons (.opq v' hv) (.nil β)
  | func fn f c f' c' hf hc gf gc => exact .cons (.func fn f c f' c' hf hc gf gc) (.nil β)
  | bool b => exact .cons (.bool b) (.nil β)
  | int k n => exact .cons (.int k n) (.nil β)
  | str s => exact .cons (.str s) (.nil β)
  | nilp => exact .cons .nilp (.nil β)
  | ptr id off l h => exact .cons (.ptr id off l h) (.nil β)
  | nils => exact .cons .nils (.nil β)
  | slice id off m len cap cap' l h h1 h2 h3 h4 => exact .cons (.slice id off m len cap cap' l h h1 h2 h3 h4) (.nil β)
  | slice0 id off m A => exact .cons (.slice0 id off m A) (.nil β)
  | nilm => exact .cons .nilm (.nil β)
  | mapr id l h => exact .cons (.mapr id l h) (.nil β)
  | nilf => exact .cons .nilf (.nil β)
  | nili => exact .cons .nili (.nil β)
  | iface t v v' h => exact .cons (.iface t v v' h) (.nil β)

theorem VR.one {β : Emb} {v v' : Value} (h : VR β v v') (ho : okCell v = true) : v'.oneCell' = true := by
  cases h <;> first | rfl | assumption | simp [okCell, junk] at ho

theorem VRs.allOne {β : Emb} {l l' : List Value} (h : VRs β l l') (ho : l.all okCell = true) : ∀ v ∈ l', v.oneCell' = true := by
  intro v hv
  obtain ⟨i, hi, rfl⟩ := List.mem_iff_getElem.1 hv
  obtain ⟨v', h1, h2⟩ := h.2 i (l[i]'(h.1 ▸ hi)) (List.getElem?_eq_getElem _)
  rw [List.getElem?_eq_getElem hi] at h1
  have h1 : l'[i] = v' := by simpa using h1
  rw [h1]
  exact h2.one (List.all_eq_true.1 ho _ (List.getElem_mem _))

theorem VR.ofLeaf (β : Emb) {v : Value} (h : leafClosed v = true) : VR β v v := by
  cases v <;> simp [leafClosed] at h <;> first | exact .bool _ | exact .int _ _ | exact .str _ | exact .nilf | exact .nili | skip
  case pointer a => cases a <;> simp at h; exact .nilp
  case slice a l c =>
    cases a with
    | some a => simp at h
    | none => cases l <;> cases c <;> simp at h; exact .nils
  case map a => cases a <;> simp at h; exact .nilm

theorem VRs.ofLeaf (β : Emb) {l : List Value} (h : l.all leafClosed = true) : VRs β l l :=
  ⟨rfl, fun i v hv => ⟨v, hv, .ofLeaf β (List.all_eq_true.1 h v (List.mem_of_getElem? hv))⟩⟩

theorem VR.ofClosed (β : Emb) {v : Value} (h : closedV v = true) : VR β v v := by
  cases v <;> simp only [closedV] at h <;> first
    | exact .ofLeaf β h
    | exact .agg' (.ofLeaf β (by simpa using h))
    | exact .tuple' (.ofLeaf β (by simpa using h))

/-! ### heaps -/
def ObR (β : Emb) (hp : Array Obj) (l : Loc) (ro : Bool) (cs : List Value) : Prop :=
  ∃ c e fz, hp[l.b]? = some (.cells c e fz) ∧ (ro = false → fz = (0, 0)) ∧ cs.length ≤ l.n ∧ l.o + l.n ≤ c.size ∧
    ∀ (i : Nat) (v : Value), cs[i]? = some v → ∃ v', c[l.o + i]? = some v' ∧ VR β v v'

theorem ObR.mono {β β' : Emb} (hb : β.le β') {hp : Array Obj} {l : Loc} {ro : Bool} {cs : List Value} (h : ObR β hp l ro cs) : ObR β' hp l ro cs := by
  obtain ⟨c, e, fz, h1, h2, h3, h4, h5⟩ := h
  exact ⟨c, e, fz, h1, h2, h3, h4, fun i v hv => let ⟨v', g1, g2⟩ := h5 i v hv; ⟨v', g1, g2.mono hb⟩⟩

theorem ObR.heap {β : Emb} {hp hp' : Array Obj} {l : Loc} {ro : Bool} {cs : List Value} (h : ObR β hp l ro cs) (he : ∀ o, hp[l.b]? = some o → hp'[l.b]? = some o) : ObR β hp' l ro cs := by
  obtain ⟨c, e, fz, h1, h2, h3, h4, h5⟩ := h
  exact ⟨c, e, fz, he _ h1, h2, h3, h4, h5⟩

/-- A key: plain, or of plain cells. -/
def keyAny : Value → Bool
  | .agg cs => cs.toList.all plain
  | k => plain k

def EntR (β : Emb) (e : Value × Value × Nat) (e' : MapEntry) : Prop := keyAny e.1 = true ∧ e'.key = e.1 ∧ VR β e.2.1 e'.val ∧ e'.born = e.2.2

def MapR (β : Emb) (hp : Array Obj) (l : Loc) (es : Entries) (c : Nat) : Prop :=
  ∃ es', hp[l.b]? = some (.map es' c) ∧ es'.size = es.length ∧ ∀ (i : Nat) e, es[i]? = some e → ∃ e', es'[i]? = some e' ∧ EntR β e e'

theorem MapR.mono {β β' : Emb} (hb : β.le β') {hp : Array Obj} {l : Loc} {es : Entries} {c : Nat} (h : MapR β hp l es c) : MapR β' hp l es c := by
  obtain ⟨es', h1, h2, h3⟩ := h
  exact ⟨es', h1, h2, fun i e he => let ⟨e', g1, g2, g3, g4, g5⟩ := h3 i e he; ⟨e', g1, g2, g3, g4.mono hb, g5⟩⟩

theorem MapR.heap {β : Emb} {hp hp' : Array Obj} {l : Loc} {es : Entries} {c : Nat} (h : MapR β hp l es c) (he : ∀ o, hp[l.b]? = some o → hp'[l.b]? = some o) : MapR β hp' l es c := by
  obtain ⟨es', h1, h2, h3⟩ := h
  exact ⟨es', he _ h1, h2, h3⟩

structure Rel (B0 : Bs) (hp0 : Array Obj) (β : Emb) (H : Heap) (hp : Array Obj) : Prop where
  dom : ∀ id l, β id = some l → id < H.size
  pn : ∀ id, H.get id = some .pend → β id = none
  ob : ∀ id l e ro cs, β id = some l → H.get id = some (.cells e ro cs) → ObR β hp l ro cs
  wr : ∀ id l e cs, β id = some l → H.get id = some (.cells e false cs) → B0.b ≤ l.b
  inj : ∀ id l e cs id' l' e' ro' cs', β id = some l → H.get id = some (.cells e false cs) → β id' = some l' → H.get id' = some (.cells e' ro' cs') → id ≠ id' → l'.b ≠ l.b
  mp : ∀ id l es c, β id = some l → H.get id = some (.map es c) → MapR β hp l es c
  wm : ∀ id l es c, β id = some l → H.get id = some (.map es c) → B0.b ≤ l.b
  injm : ∀ id l es c id' l' es' c', β id = some l → H.get id = some (.map es c) → β id' = some l' → H.get id' = some (.map es' c') → id ≠ id' → l'.b ≠ l.b
  gl : ∀ g, g < B0.g → ∃ n, β g = some ⟨g, 0, n⟩
  keep : ∀ b, b < B0.b → hp[b]? = hp0[b]?
  siz : B0.b ≤ hp.size

section
variable {B0 : Bs} {hp0 : Array Obj} {β : Emb} {H : Heap} {hp : Array Obj}

theorem Rel.ext (R : Rel B0 hp0 β H hp) (n : Nat) : Rel B0 hp0 β (Heap.ext n H) hp := by
  have g : ∀ id l, β id = some l → (Heap.ext n H).get id = H.get id := fun id l h => by
    have := R.dom id l h
    rw [Heap.get_ext, if_neg (by omega)]
  refine ⟨fun id l h => by rw [Heap.size_ext]; have := R.dom id l h; omega, fun id h => ?_, fun id l e ro cs h h' => R.ob id l e ro cs h (by rw [← g id l h]; exact h'), fun id l e cs h h' => R.wr id l e cs h (by rw [← g id l h]; exact h'),
    fun id l e cs id' l' e' ro' cs' h1 h2 h3 h4 => R.inj id l e cs id' l' e' ro' cs' h1 (by rw [← g id l h1]; exact h2) h3 (by rw [← g id' l' h3]; exact h4),
    fun id l es c h h' => R.mp id l es c h (by rw [← g id l h]; exact h'), fun id l es c h h' => R.wm id l es c h (by rw [← g id l h]; exact h'),
    fun id l es c id' l' es' c' h1 h2 h3 h4 => R.injm id l es c id' l' es' c' h1 (by rw [← g id l h1]; exact h2) h3 (by rw [← g id' l' h3]; exact h4), R.gl, R.keep, R.siz⟩
  cases hb : β id with
  | none => rfl
  | some l => rw [g id l hb] at h; rw [R.pn id h] at hb; cases hb

def Emb.upd (β : Emb) (id : Nat) (l : Loc) : Emb := fun i => if i = id then some l else β i

theorem Emb.le_upd {β : Emb} {id : Nat} (l : Loc) (h : β id = none) : β.le (β.upd id l) := by
  intro i l' hi
  unfold Emb.upd
  split
  · rename_i e; subst e; rw [h] at hi; cases hi
  · exact hi

/-- A new object at a pending number. -/
theorem Rel.new (R : Rel B0 hp0 β H hp) {id : Nat} {H' : Heap} {e : TypeId} {cs : List Value} (hn : H.new id (.cells e false cs) = some H') (hid : id < H.size)
    (c : Array Value) (t : TypeId) (hc : ∀ (i : Nat) (v : Value), cs[i]? = some v → ∃ v', c[i]? = some v' ∧ VR β v v') (hl : cs.length ≤ c.size) :
    β.le (β.upd id ⟨hp.size, 0, c.size⟩) ∧ Rel B0 hp0 (β.upd id ⟨hp.size, 0, c.size⟩) H' (hp.push (.cells c t (0, 0))) := by
  have hp' : H.get id = some .pend ∧ H' = H.put id (.cells e false cs) := by
    unfold Heap.new at hn
    split at hn <;> simp_all
  obtain ⟨hpe, rfl⟩ := hp'
  have hb : β id = none := R.pn id hpe
  have le := Emb.le_upd (β := β) ⟨hp.size, 0, c.size⟩ hb
  have old : ∀ i l, β i = some l → i ≠ id := fun i l h e => by subst e; rw [hb] at h; cases h
  have blk : ∀ i l e' ro' cs', β i = some l → H.get i = some (.cells e' ro' cs') → l.b < hp.size := fun i l e' ro' cs' h h' => by
    obtain ⟨c', _, _, h1, _⟩ := R.ob i l e' ro' cs' h h'
    exact (Array.getElem?_eq_some_iff.1 h1).1
  have psh : ∀ (b : Nat) o, hp[b]? = some o → (hp.push (.cells c t (0, 0)))[b]? = some o := fun b o ho => by
    have hlt := (Array.getElem?_eq_some_iff.1 ho).1
    rw [Array.getElem?_push_lt hlt]
    simpa [Array.getElem?_eq_getElem hlt] using ho
  have mt : ∀ i es k, (H.put id (.cells e false cs)).get i = some (.map es k) → i ≠ id ∧ H.get i = some (.map es k) := fun i es k h => by
    rw [Heap.get_put] at h
    split at h
    · cases h
    · rename_i hne; exact ⟨fun e => hne e.symm, h⟩
  have bt : ∀ i l, i ≠ id → β.upd id ⟨hp.size, 0, c.size⟩ i = some l → β i = some l := fun i l hne h => by
    unfold Emb.upd at h
    rw [if_neg hne] at h; exact h
  refine ⟨le, ⟨fun i l h => ?_, fun i h => ?_, fun i l e' ro cs' h h' => ?_, fun i l e' cs' h h' => ?_, fun i l e' cs' j l' e'' ro'' cs'' h1 h2 h3 h4 hne => ?_,
    fun i l es k h h' => ((R.mp i l es k (bt i l (mt _ _ _ h').1 h) (mt _ _ _ h').2).mono le).heap (psh _),
    fun i l es k h h' => R.wm i l es k (bt i l (mt _ _ _ h').1 h) (mt _ _ _ h').2,
    fun i l es k j l' es' k' h1 h2 h3 h4 hne => R.injm i l es k j l' es' k' (bt i l (mt _ _ _ h2).1 h1) (mt _ _ _ h2).2 (bt j l' (mt _ _ _ h4).1 h3) (mt _ _ _ h4).2 hne,
    fun g hg => let ⟨n, hn⟩ := R.gl g hg; ⟨n, le _ _ hn⟩,
    fun b hb' => ?_, by have := R.siz; simp; omega⟩⟩
  · rw [Heap.size_put]
    unfold Emb.upd at h
    split at h
    · rename_i e; subst e; exact hid
    · exact R.dom i l h
  · rw [Heap.get_put] at h
    split at h
    · cases h
    · rename_i hne; unfold Emb.upd; rw [if_neg (fun e => hne e.symm)]; exact R.pn i h
  · rw [Heap.get_put] at h'
    unfold Emb.upd at h
    split at h
    · rename_i e; subst e; rw [if_pos rfl] at h'; cases h'; cases h
      exact ⟨c, t, (0, 0), by simp, fun _ => rfl, hl, by simp, fun j v hv => let ⟨v', g1, g2⟩ := hc j v hv; ⟨v', by simpa using g1, g2.mono le⟩⟩
    · rename_i hne; rw [if_neg (fun e => hne e.symm)] at h'
      exact ((R.ob i l e' ro cs' h h').mono le).heap (fun o ho => by
        have hlt := (Array.getElem?_eq_some_iff.1 ho).1
        rw [Array.getElem?_push_lt hlt]
        exact (Array.getElem?_eq_getElem hlt).symm.trans ho |> fun h => by simpa [Array.getElem?_eq_getElem hlt] using h)
  · rw [Heap.get_put] at h'
    unfold Emb.upd at h
    split at h
    · cases h; exact R.siz
    · rename_i hne; rw [if_neg (fun e => hne e.symm)] at h'; exact R.wr i l e' cs' h h'
  · rw [Heap.get_put] at h2 h4
    unfold Emb.upd at h1 h3
    split at h1
    · rename_i ei; cases h1
      have hj : j ≠ id := fun e => hne (ei.trans e.symm)
      rw [if_neg hj] at h3
      rw [if_neg (fun e => hj e.symm)] at h4
      have := blk j l' _ _ _ h3 h4
      show l'.b ≠ hp.size
      omega
    · rename_i hi
      rw [if_neg (fun e => hi e.symm)] at h2
      split at h3
      · cases h3
        have := blk i l _ _ _ h1 h2
        show hp.size ≠ l.b
        omega
      · rename_i hj
        rw [if_neg (fun e => hj e.symm)] at h4
        exact R.inj i l e' cs' j l' e'' ro'' cs'' h1 h2 h3 h4 hne
  · have := R.siz
    rw [← R.keep b hb', Array.getElem?_push_lt (by omega)]
    exact (Array.getElem?_eq_getElem (by omega)).symm

/-- An object is given up. -/
theorem Rel.kill (R : Rel B0 hp0 β H hp) (id : Nat) : Rel B0 hp0 β (H.put id .dead) hp := by
  have g : ∀ i e ro cs, (H.put id .dead).get i = some (.cells e ro cs) → H.get i = some (.cells e ro cs) := fun i e ro cs h => by
    rw [Heap.get_put] at h
    split at h
    · cases h
    · exact h
  have gm : ∀ i es k, (H.put id .dead).get i = some (.map es k) → H.get i = some (.map es k) := fun i es k h => by
    rw [Heap.get_put] at h
    split at h
    · cases h
    · exact h
  refine ⟨R.dom, fun i h => ?_, fun i l e ro cs h h' => R.ob i l e ro cs h (g _ _ _ _ h'), fun i l e cs h h' => R.wr i l e cs h (g _ _ _ _ h'),
    fun i l e cs j l' e' ro' cs' h1 h2 h3 h4 => R.inj i l e cs j l' e' ro' cs' h1 (g _ _ _ _ h2) h3 (g _ _ _ _ h4),
    fun i l es k h h' => R.mp i l es k h (gm _ _ _ h'), fun i l es k h h' => R.wm i l es k h (gm _ _ _ h'),
    fun i l es k j l' es' k' h1 h2 h3 h4 => R.injm i l es k j l' es' k' h1 (gm _ _ _ h2) h3 (gm _ _ _ h4), R.gl, R.keep, R.siz⟩
  rw [Heap.get_put] at h
  split at h
  · cases h
  · exact R.pn i h

/-- An object's cells are written anew: the block's cells in the range of the object are related to the new ones. -/
theorem Rel.write (R : Rel B0 hp0 β H hp) {id : Nat} {l : Loc} {e : TypeId} {cs cs2 : List Value} (hb : β id = some l) (hg : H.get id = some (.cells e false cs))
    (c2 : Array Value) (t : TypeId) (hsz : ∀ c e' fz, hp[l.b]? = some (.cells c e' fz) → c2.size = c.size) (hl : cs2.length ≤ l.n)
    (hc : ∀ (i : Nat) (v : Value), cs2[i]? = some v → ∃ v', c2[l.o + i]? = some v' ∧ VR β v v') :
    Rel B0 hp0 β (H.put id (.cells e false cs2)) (hp.setIfInBounds l.b (.cells c2 t (0, 0))) := by
  obtain ⟨c, e0, fz, g1, g2, g3, g4, g5⟩ := R.ob id l e false cs hb hg
  have hlt : l.b < hp.size := (Array.getElem?_eq_some_iff.1 g1).1
  have mt : ∀ i es k, (H.put id (.cells e false cs2)).get i = some (.map es k) → H.get i = some (.map es k) := fun i es k h => by
    rw [Heap.get_put] at h
    split at h
    · cases h
    · exact h
  refine ⟨fun i l' h => by rw [Heap.size_put]; exact R.dom i l' h, fun i h => ?_, fun i l' e' ro' cs' h h' => ?_, fun i l' e' cs' h h' => ?_, fun i l1 e1 cs1 j l2 e2 ro2 cs3 h1 h2 h3 h4 hne => ?_,
    fun i l' es k h h' => ?mp, fun i l' es k h h' => R.wm i l' es k h (mt _ _ _ h'),
    fun i l es k j l' es' k' h1 h2 h3 h4 => R.injm i l es k j l' es' k' h1 (mt _ _ _ h2) h3 (mt _ _ _ h4), R.gl, fun b hb' => ?_, by simpa using R.siz⟩
  case mp =>
    obtain ⟨es', m1, m2, m3⟩ := R.mp i l' es k h (mt _ _ _ h')
    have hne : l.b ≠ l'.b := fun e => by rw [e, m1] at g1; cases g1
    exact ⟨es', by rw [Array.getElem?_setIfInBounds, if_neg hne]; exact m1, m2, m3⟩
  · rw [Heap.get_put] at h
    split at h
    · cases h
    · exact R.pn i h
  · rw [Heap.get_put] at h'
    split at h'
    · rename_i ei; subst ei; cases h'
      rw [hb] at h; cases h
      exact ⟨c2, t, (0, 0), by rw [Array.getElem?_setIfInBounds, if_pos rfl, if_pos hlt], fun _ => rfl, hl, by rw [hsz c e0 fz g1]; exact g4, hc⟩
    · rename_i hne
      refine (R.ob i l' e' ro' cs' h h').heap fun o ho => ?_
      have := R.inj id l e cs i l' e' ro' cs' hb hg h h' hne
      rw [Array.getElem?_setIfInBounds, if_neg (fun e => this e.symm)]; exact ho
  · rw [Heap.get_put] at h'
    split at h'
    · rename_i ei; subst ei; exact R.wr id l' e cs h hg
    · exact R.wr i l' e' cs' h h'
  · rw [Heap.get_put] at h2 h4
    have q : ∀ (x : Nat) (ex : TypeId) (rx : Bool) (cx : List Value), (if id = x then some (Ob.cells e false cs2) else H.get x) = some (.cells ex rx cx) → ∃ ey cy, H.get x = some (.cells ey rx cy) := by
      intro x ex rx cx hx
      split at hx
      · rename_i ei; subst ei; cases hx; exact ⟨e, cs, hg⟩
      · exact ⟨_, _, hx⟩
    obtain ⟨ey, cy, k2⟩ := q _ _ _ _ h2
    obtain ⟨ez, cz, k4⟩ := q _ _ _ _ h4
    exact R.inj i l1 ey cy j l2 ez ro2 cz h1 k2 h3 k4 hne
  · have := R.wr id l e cs hb hg
    rw [Array.getElem?_setIfInBounds, if_neg (by omega)]; exact R.keep b hb'

/-- A new object in the place of an elder one, further on in its block; the elder one is given up. -/
theorem Rel.moved (R : Rel B0 hp0 β H hp) {id o off : Nat} {l : Loc} {e e2 : TypeId} {cs cs2 : List Value} {H' : Heap} (hb : β o = some l) (hg : H.get o = some (.cells e false cs))
    (hn : H.new id (.cells e2 false cs2) = some H') (hid : id < H.size) (hoff : off + cs2.length ≤ l.n)
    (c2 : Array Value) (t : TypeId) (hsz : ∀ c e' fz, hp[l.b]? = some (.cells c e' fz) → c2.size = c.size)
    (hc : ∀ (i : Nat) (v : Value), cs2[i]? = some v → ∃ v', c2[l.o + off + i]? = some v' ∧ VR β v v') :
    β.le (β.upd id ⟨l.b, l.o + off, l.n - off⟩) ∧ Rel B0 hp0 (β.upd id ⟨l.b, l.o + off, l.n - off⟩) (H'.put o .dead) (hp.setIfInBounds l.b (.cells c2 t (0, 0))) := by
  obtain ⟨c, e0, fz, g1, g2, g3, g4, g5⟩ := R.ob o l e false cs hb hg
  have hlt : l.b < hp.size := (Array.getElem?_eq_some_iff.1 g1).1
  have hp' : H.get id = some .pend ∧ H' = H.put id (.cells e2 false cs2) := by
    unfold Heap.new at hn
    split at hn <;> simp_all
  obtain ⟨hpe, rfl⟩ := hp'
  have hbn : β id = none := R.pn id hpe
  have le := Emb.le_upd (β := β) ⟨l.b, l.o + off, l.n - off⟩ hbn
  have hoid : o ≠ id := fun e => by subst e; rw [hbn] at hb; cases hb
  have gt : ∀ i e' ro' cs', ((H.put id (.cells e2 false cs2)).put o .dead).get i = some (.cells e' ro' cs') → i ≠ o ∧ (i = id ∧ ro' = false ∧ cs' = cs2 ∨ i ≠ id ∧ H.get i = some (.cells e' ro' cs')) := by
    intro i e' ro' cs' h
    rw [Heap.get_put] at h
    split at h
    · cases h
    · rename_i h1
      rw [Heap.get_put] at h
      split at h
      · rename_i h2; cases h; exact ⟨fun e => h1 e.symm, .inl ⟨h2.symm, rfl, rfl⟩⟩
      · rename_i h2; exact ⟨fun e => h1 e.symm, .inr ⟨fun e => h2 e.symm, h⟩⟩
  have bt : ∀ i l', β.upd id ⟨l.b, l.o + off, l.n - off⟩ i = some l' → i = id ∧ l' = ⟨l.b, l.o + off, l.n - off⟩ ∨ i ≠ id ∧ β i = some l' := by
    intro i l' h
    unfold Emb.upd at h
    split at h
    · rename_i e; cases h; exact .inl ⟨e, rfl⟩
    · rename_i e; exact .inr ⟨e, h⟩
  have mt : ∀ i es k, ((H.put id (.cells e2 false cs2)).put o .dead).get i = some (.map es k) → i ≠ id ∧ H.get i = some (.map es k) := fun i es k h => by
    rw [Heap.get_put] at h
    split at h
    · cases h
    · rw [Heap.get_put] at h
      split at h
      · cases h
      · rename_i hne; exact ⟨fun e => hne e.symm, h⟩
  have bm : ∀ i l', i ≠ id → β.upd id ⟨l.b, l.o + off, l.n - off⟩ i = some l' → β i = some l' := fun i l' hne h => by
    unfold Emb.upd at h
    rw [if_neg hne] at h; exact h
  refine ⟨le, ⟨fun i l' h => ?_, fun i h => ?_, fun i l' e' ro' cs' h h' => ?_, fun i l' e' cs' h h' => ?_, fun i l1 e1 cs1 j l2 e3 ro3 cs3 h1 h2 h3 h4 hne => ?_,
    fun i l' es k h h' => ?mp, fun i l' es k h h' => R.wm i l' es k (bm i l' (mt _ _ _ h').1 h) (mt _ _ _ h').2,
    fun i l es k j l' es' k' h1 h2 h3 h4 hne => R.injm i l es k j l' es' k' (bm i l (mt _ _ _ h2).1 h1) (mt _ _ _ h2).2 (bm j l' (mt _ _ _ h4).1 h3) (mt _ _ _ h4).2 hne,
    fun g hg => let ⟨n, hn⟩ := R.gl g hg; ⟨n, le _ _ hn⟩, fun b hb' => ?_, by simpa using R.siz⟩⟩
  case mp =>
    obtain ⟨es', m1, m2, m3⟩ := (R.mp i l' es k (bm i l' (mt _ _ _ h').1 h) (mt _ _ _ h').2).mono le
    have hne : l.b ≠ l'.b := fun e => by rw [e, m1] at g1; cases g1
    exact ⟨es', by rw [Array.getElem?_setIfInBounds, if_neg hne]; exact m1, m2, m3⟩
  · rw [Heap.size_put, Heap.size_put]
    rcases bt i l' h with ⟨rfl, _⟩ | ⟨_, h⟩
    · exact hid
    · exact R.dom i l' h
  · rw [Heap.get_put] at h
    split at h
    · cases h
    · rw [Heap.get_put] at h
      split at h
      · cases h
      · rename_i h1 h2; unfold Emb.upd; rw [if_neg (fun e => h2 e.symm)]; exact R.pn i h
  · obtain ⟨hio, hh⟩ := gt i e' ro' cs' h'
    rcases hh with ⟨rfl, rfl, rfl⟩ | ⟨hne, hh⟩
    · rcases bt _ l' h with ⟨_, rfl⟩ | ⟨hx, _⟩
      · exact ⟨c2, t, (0, 0), by rw [Array.getElem?_setIfInBounds, if_pos rfl, if_pos hlt], fun _ => rfl, by show cs'.length ≤ l.n - off; omega, by have := hsz c e0 fz g1; show l.o + off + (l.n - off) ≤ c2.size; omega,
          fun j v hv => let ⟨v', k1, k2⟩ := hc j v hv; ⟨v', k1, k2.mono le⟩⟩
      · exact absurd rfl hx
    · rcases bt i l' h with ⟨rfl, _⟩ | ⟨_, h⟩
      · exact absurd rfl hne
      · refine ((R.ob i l' e' ro' cs' h hh).mono le).heap fun ob ho => ?_
        have := R.inj o l e cs i l' e' ro' cs' hb hg h hh (fun e => hio e.symm)
        rw [Array.getElem?_setIfInBounds, if_neg (fun e => this e.symm)]; exact ho
  · obtain ⟨hio, hh⟩ := gt i e' false cs' h'
    have w := R.wr o l e cs hb hg
    rcases bt i l' h with ⟨rfl, rfl⟩ | ⟨hx, h⟩
    · exact w
    · rcases hh with ⟨rfl, _⟩ | ⟨_, hh⟩
      · exact absurd rfl hx
      · exact R.wr i l' e' cs' h hh
  · obtain ⟨hio, hi⟩ := gt i e1 false cs1 h2
    obtain ⟨hjo, hj⟩ := gt j e3 ro3 cs3 h4
    rcases bt i l1 h1 with ⟨ei, rfl⟩ | ⟨hx, k1⟩
    · rcases bt j l2 h3 with ⟨ej, rfl⟩ | ⟨hy, k3⟩
      · exact absurd (ei.trans ej.symm) hne
      · rcases hj with ⟨ej, _⟩ | ⟨_, hj⟩
        · exact absurd ej hy
        · exact R.inj o l e cs j l2 e3 ro3 cs3 hb hg k3 hj (fun e => hjo e.symm)
    · rcases hi with ⟨ei, _⟩ | ⟨_, hi⟩
      · exact absurd ei hx
      · rcases bt j l2 h3 with ⟨ej, rfl⟩ | ⟨hy, k3⟩
        · exact fun e => R.inj i l1 e1 cs1 o l _ false cs k1 hi hb hg hio e
        · rcases hj with ⟨ej, _⟩ | ⟨_, hj⟩
          · exact absurd ej hy
          · exact R.inj i l1 e1 cs1 j l2 e3 ro3 cs3 k1 hi k3 hj hne
  · have := R.wr o l e cs hb hg
    rw [Array.getElem?_setIfInBounds, if_neg (by omega)]; exact R.keep b hb'

/-- A new map at a pending number. -/
theorem Rel.newMap (R : Rel B0 hp0 β H hp) {id : Nat} {H' : Heap} (hn : H.new id (.map [] 0) = some H') (hid : id < H.size) :
    β.le (β.upd id ⟨hp.size, 0, 0⟩) ∧ Rel B0 hp0 (β.upd id ⟨hp.size, 0, 0⟩) H' (hp.push (.map #[] 0)) := by
  have hp' : H.get id = some .pend ∧ H' = H.put id (.map [] 0) := by
    unfold Heap.new at hn
    split at hn <;> simp_all
  obtain ⟨hpe, rfl⟩ := hp'
  have hb : β id = none := R.pn id hpe
  have le := Emb.le_upd (β := β) ⟨hp.size, 0, 0⟩ hb
  have psh : ∀ (b : Nat) o, hp[b]? = some o → (hp.push (.map #[] 0))[b]? = some o := fun b o ho => by
    have hlt := (Array.getElem?_eq_some_iff.1 ho).1
    rw [Array.getElem?_push_lt hlt]
    simpa [Array.getElem?_eq_getElem hlt] using ho
  have bt : ∀ i l, i ≠ id → β.upd id ⟨hp.size, 0, 0⟩ i = some l → β i = some l := fun i l hne h => by
    unfold Emb.upd at h
    rw [if_neg hne] at h; exact h
  have ct : ∀ i e ro cs, (H.put id (.map [] 0)).get i = some (.cells e ro cs) → i ≠ id ∧ H.get i = some (.cells e ro cs) := fun i e ro cs h => by
    rw [Heap.get_put] at h
    split at h
    · cases h
    · rename_i hne; exact ⟨fun e => hne e.symm, h⟩
  have mt : ∀ i es k, (H.put id (.map [] 0)).get i = some (.map es k) → (i = id ∧ es = [] ∧ k = 0) ∨ (i ≠ id ∧ H.get i = some (.map es k)) := fun i es k h => by
    rw [Heap.get_put] at h
    split at h
    · rename_i e; cases h; exact .inl ⟨e.symm, rfl, rfl⟩
    · rename_i hne; exact .inr ⟨fun e => hne e.symm, h⟩
  have us : β.upd id ⟨hp.size, 0, 0⟩ id = some ⟨hp.size, 0, 0⟩ := by simp [Emb.upd]
  have blk : ∀ i l es k, β i = some l → H.get i = some (.map es k) → l.b < hp.size := fun i l es k h h' => by
    obtain ⟨_, h1, _⟩ := R.mp i l es k h h'
    exact (Array.getElem?_eq_some_iff.1 h1).1
  refine ⟨le, ⟨fun i l h => ?_, fun i h => ?_, fun i l e ro cs h h' => ((R.ob i l e ro cs (bt i l (ct _ _ _ _ h').1 h) (ct _ _ _ _ h').2).mono le).heap (psh _),
    fun i l e cs h h' => R.wr i l e cs (bt i l (ct _ _ _ _ h').1 h) (ct _ _ _ _ h').2,
    fun i l e cs j l' e' ro' cs' h1 h2 h3 h4 hne => R.inj i l e cs j l' e' ro' cs' (bt i l (ct _ _ _ _ h2).1 h1) (ct _ _ _ _ h2).2 (bt j l' (ct _ _ _ _ h4).1 h3) (ct _ _ _ _ h4).2 hne,
    fun i l es k h h' => ?_, fun i l es k h h' => ?_, fun i l es k j l' es' k' h1 h2 h3 h4 hne => ?_, fun g hg => let ⟨n, hn⟩ := R.gl g hg; ⟨n, le _ _ hn⟩, fun b hb' => ?_, by have := R.siz; simp; omega⟩⟩
  · rw [Heap.size_put]
    by_cases e : i = id
    · subst e; exact hid
    · exact R.dom i l (bt i l e h)
  · rw [Heap.get_put] at h
    split at h
    · cases h
    · rename_i hne; unfold Emb.upd; rw [if_neg (fun e => hne e.symm)]; exact R.pn i h
  · rcases mt _ _ _ h' with ⟨rfl, rfl, rfl⟩ | ⟨hne, h''⟩
    · rw [us] at h; cases h
      exact ⟨#[], by simp, rfl, fun i e he => by simp at he⟩
    · exact ((R.mp i l es k (bt i l hne h) h'').mono le).heap (psh _)
  · rcases mt _ _ _ h' with ⟨rfl, rfl, rfl⟩ | ⟨hne, h''⟩
    · rw [us] at h; cases h; exact R.siz
    · exact R.wm i l es k (bt i l hne h) h''
  · rcases mt _ _ _ h2 with ⟨e1, _, _⟩ | ⟨hi, g2⟩
    · rw [e1, us] at h1; cases h1
      rcases mt _ _ _ h4 with ⟨e2, _, _⟩ | ⟨hj, g4⟩
      · exact absurd (e1.trans e2.symm) hne
      · have := blk _ _ _ _ (bt j l' hj h3) g4
        show l'.b ≠ hp.size
        omega
    · rcases mt _ _ _ h4 with ⟨e2, _, _⟩ | ⟨hj, g4⟩
      · rw [e2, us] at h3; cases h3
        have := blk _ _ _ _ (bt i l hi h1) g2
        show hp.size ≠ l.b
        omega
      · exact R.injm i l es k j l' es' k' (bt i l hi h1) g2 (bt j l' hj h3) g4 hne
  · have := R.siz
    rw [← R.keep b hb', Array.getElem?_push_lt (by omega)]
    exact (Array.getElem?_eq_getElem (by omega)).symm

/-- A map's entries are written anew. -/
theorem Rel.setMap (R : Rel B0 hp0 β H hp) {id : Nat} {l : Loc} {es es2 : Entries} {c c2 : Nat} (hb : β id = some l) (hg : H.get id = some (.map es c)) {es' : Array MapEntry}
    (hsz : es'.size = es2.length) (hes : ∀ (i : Nat) e, es2[i]? = some e → ∃ e', es'[i]? = some e' ∧ EntR β e e') :
    Rel B0 hp0 β (H.put id (.map es2 c2)) (hp.setIfInBounds l.b (.map es' c2)) := by
  obtain ⟨es0, g1, _, _⟩ := R.mp id l es c hb hg
  have hlt : l.b < hp.size := (Array.getElem?_eq_some_iff.1 g1).1
  have ct : ∀ i e ro cs, (H.put id (.map es2 c2)).get i = some (.cells e ro cs) → H.get i = some (.cells e ro cs) := fun i e ro cs h => by
    rw [Heap.get_put] at h
    split at h
    · cases h
    · exact h
  have mt : ∀ i es3 k, (H.put id (.map es2 c2)).get i = some (.map es3 k) → (i = id ∧ es3 = es2 ∧ k = c2) ∨ (i ≠ id ∧ H.get i = some (.map es3 k)) := fun i es3 k h => by
    rw [Heap.get_put] at h
    split at h
    · rename_i e; cases h; exact .inl ⟨e.symm, rfl, rfl⟩
    · rename_i hne; exact .inr ⟨fun e => hne e.symm, h⟩
  have old : ∀ i es3 k, (H.put id (.map es2 c2)).get i = some (.map es3 k) → ∃ es4 k4, H.get i = some (.map es4 k4) := fun i es3 k h => by
    rcases mt _ _ _ h with ⟨rfl, _, _⟩ | ⟨_, h⟩
    · exact ⟨_, _, hg⟩
    · exact ⟨_, _, h⟩
  refine ⟨fun i l' h => by rw [Heap.size_put]; exact R.dom i l' h, fun i h => ?_, fun i l' e ro cs h h' => ?_, fun i l' e cs h h' => R.wr i l' e cs h (ct _ _ _ _ h'),
    fun i l1 e cs j l2 e' ro' cs' h1 h2 h3 h4 => R.inj i l1 e cs j l2 e' ro' cs' h1 (ct _ _ _ _ h2) h3 (ct _ _ _ _ h4), fun i l' es3 k h h' => ?_,
    fun i l' es3 k h h' => let ⟨_, _, g⟩ := old _ _ _ h'; R.wm i l' _ _ h g,
    fun i l1 es3 k j l2 es4 k' h1 h2 h3 h4 hne => let ⟨_, _, g⟩ := old _ _ _ h2; let ⟨_, _, g'⟩ := old _ _ _ h4; R.injm i l1 _ _ j l2 _ _ h1 g h3 g' hne, R.gl, fun b hb' => ?_, by simpa using R.siz⟩
  · rw [Heap.get_put] at h
    split at h
    · cases h
    · exact R.pn i h
  · obtain ⟨cc, e', fz, q1, q2, q3, q4, q5⟩ := R.ob i l' e ro cs h (ct _ _ _ _ h')
    have hne : l.b ≠ l'.b := fun e => by rw [e, q1] at g1; cases g1
    exact ⟨cc, e', fz, by rw [Array.getElem?_setIfInBounds, if_neg hne]; exact q1, q2, q3, q4, q5⟩
  · rcases mt _ _ _ h' with ⟨rfl, rfl, rfl⟩ | ⟨hne, h''⟩
    · rw [hb] at h; cases h
      exact ⟨es', by rw [Array.getElem?_setIfInBounds, if_pos rfl, if_pos hlt], hsz, hes⟩
    · obtain ⟨es0, q1, q2, q3⟩ := R.mp i l' es3 k h h''
      have := R.injm id l es c i l' es3 k hb hg h h'' (fun e => hne e.symm)
      exact ⟨es0, by rw [Array.getElem?_setIfInBounds, if_neg (fun e => this e.symm)]; exact q1, q2, q3⟩
  · have := R.wm id l es c hb hg
    rw [Array.getElem?_setIfInBounds, if_neg (by omega)]; exact R.keep b hb'
end

/-- The relation, and the streams as they were. -/
structure WRel (B0 : Bs) (w0 : World) (β : Emb) (H : Heap) (w : World) : Prop extends Rel B0 w0.heap β H w.heap where
  os : w.os = w0.os
  tape : w.tape = w0.tape
  output : w.output = w0.output

end Go.Proofs.YtiphbdhclldllaaGreatDoor.Mx
