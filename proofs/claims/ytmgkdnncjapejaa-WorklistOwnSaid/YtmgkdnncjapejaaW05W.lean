/- A part of the proof that the law answers true at every input: the text W05W; no conditions. -/
import Derived.Test.YtmgkdnncjapejaaW05V
set_option linter.unusedSimpArgs false
set_option linter.unusedVariables false
namespace Go.Proofs.Ytmgkdnncjapejaa.Ab
open Go Go.Proofs.Ytmgkdnncjapejaa.Abs Go.Proofs.Ytmgkdnncjapejaa.Abs.W05
set_option maxRecDepth 100000

def LessG (X : Abs.Heap) (fv : Value) (r : List Int) (p o : Nat) : Prop :=
  fv = .func (.func 24) #[] #[.pointer (some ⟨p, 0, none⟩)] ∧ ∃ e rr sv, X.get p = some (.cells e rr [sv]) ∧ ((sv = .slice none 0 0 ∧ r = []) ∨ ∃ off m cap e r' cs, sv = .slice (some ⟨o, off, some m⟩) r.length cap ∧ X.get o = some (.cells e r' cs) ∧ ∀ i, i < r.length → cs[off + i]? = some (Value.int .i64 (g r i)))
theorem LessG.at {X : Abs.Heap} {fv : Value} {r : List Int} {p o : Nat} {fp : List Nat} (h : LessG X fv r p o) (hp : p < X.size) (ho : o < X.size) (hp2 : p ∉ fp) (ho2 : o ∉ fp) : LessAt X fv r fp := by
  obtain ⟨h1, e, rr, sv, h2, h3⟩ := h
  refine ⟨p, e, rr, sv, h1, h2, hp, hp2, ?_⟩
  rcases h3 with h3 | ⟨off, m, cap, e, r', cs, h4, h5, h6⟩
  · exact .inl h3
  · exact .inr ⟨o, off, m, cap, e, r', cs, h4, h5, ho, ho2, h6⟩
theorem LessG.fr {X Y : Abs.Heap} {fv : Value} {r : List Int} {p o : Nat} (h : LessG X fv r p o) (hp : Y.get p = X.get p) (ho : Y.get o = X.get o) : LessG Y fv r p o := by
  obtain ⟨h1, e, rr, sv, h2, h3⟩ := h
  refine ⟨h1, e, rr, sv, by rw [hp]; exact h2, ?_⟩
  rcases h3 with h3 | ⟨off, m, cap, e, r', cs, h4, h5, h6⟩
  · exact .inl h3
  · exact .inr ⟨off, m, cap, e, r', cs, h4, by rw [ho]; exact h5, h6⟩

/-- How a queue chooses: by arrival, or by the ranks that it keeps in objects p and o. -/
def Ranks (H : Abs.Heap) (al fp : List Nat) (fv : Value) (N : Nat) (l : List Int) : Option (List Int) → Prop
  | none => fv = .nilFunc
  | some r => r.length = N ∧ Heap (ltR r) l ∧ ∃ p o, p ∈ al ∧ o ∈ al ∧ p ∉ fp ∧ o ∉ fp ∧ LessG H fv r p o

structure QB (H : Abs.Heap) (al fp : List Nat) (q h : Nat) (hs : List Bool) (l : List Int) (lv fv : Value) (ro : Option (List Int)) (N : Nat) : Prop where
  qm : QM H fp q h hs l lv fv
  sub : ∀ x ∈ fp, x ∈ al
  lal : ∀ x ∈ al, x < H.size
  hn : hs.length = N
  inn : ∀ x ∈ l, 0 ≤ x ∧ x < (N : Int)
  nd : l.Nodup
  hl : ∀ i, i < N → hs.getD i false = decide ((i : Int) ∈ l)
  rk : Ranks H al fp fv N l ro

/-- The program's queue at q holds l; all of its objects are among al. -/
def QS (H : Abs.Heap) (al : List Nat) (q : Nat) (l : List Int) (ro : Option (List Int)) (N : Nat) : Prop :=
  ∃ fp h hs lv fv, QB H al fp q h hs l lv fv ro N

/-- The new objects, and none besides. -/
def Grow (H : Abs.Heap) (al al' : List Nat) : Prop := ∀ x ∈ al', x ∈ al ∨ H.size ≤ x

theorem Grow.refl (H : Abs.Heap) (al : List Nat) : Grow H al al := fun _ h => .inl h

theorem QM.fr {H Y : Abs.Heap} {fp : List Nat} {q h : Nat} {hs : List Bool} {l : List Int} {lv fv : Value} (Q : QM H fp q h hs l lv fv) (hs' : H.size ≤ Y.size) (he : ∀ x ∈ fp, Y.get x = H.get x) : QM Y fp q h hs l lv fv := by
  obtain ⟨qo, ho, ls, qf, hf, qh, lt⟩ := Q
  refine ⟨by rw [he _ qf]; exact qo, by rw [he _ hf]; exact ho, ?_, qf, hf, qh, fun x hx => Nat.lt_of_lt_of_le (lt x hx) hs'⟩
  rcases ls with ls | ⟨o, off, m, cap, e, cs, h1, h2, h3, h4, h5, h6, h7, h8⟩
  · exact .inl ls
  · exact .inr ⟨o, off, m, cap, e, cs, h1, h2, h3, by rw [he _ h7]; exact h4, h5, h6, h7, h8⟩
theorem Ranks.fr {H Y : Abs.Heap} {al fp : List Nat} {fv : Value} {N : Nat} {l : List Int} {ro : Option (List Int)} (R : Ranks H al fp fv N l ro) (he : ∀ x ∈ al, Y.get x = H.get x) : Ranks Y al fp fv N l ro := by
  cases ro with
  | none => exact R
  | some r =>
    obtain ⟨h1, h2, p, o, h3, h4, h5, h6, h7⟩ := R
    exact ⟨h1, h2, p, o, h3, h4, h5, h6, h7.fr (he _ h3) (he _ h4)⟩
theorem QS.fr {H Y : Abs.Heap} {al gp : List Nat} {q : Nat} {l : List Int} {ro : Option (List Int)} {N : Nat} (Q : QS H al q l ro N) (hf : Fr gp H Y) (hd : ∀ x ∈ al, x ∉ gp) : QS Y al q l ro N := by
  obtain ⟨fp, h, hs, lv, fv, Q⟩ := Q
  have he : ∀ x ∈ al, Y.get x = H.get x := fun x hx => hf.2 x (Q.lal x hx) (hd x hx)
  exact ⟨fp, h, hs, lv, fv, Q.qm.fr hf.1 (fun x hx => he x (Q.sub x hx)), Q.sub, fun x hx => Nat.lt_of_lt_of_le (Q.lal x hx) hf.1, Q.hn, Q.inn, Q.nd, Q.hl, Q.rk.fr he⟩

theorem fill_one (x : Int) : fillP [(Value.int .i64 (0))].toArray [(0, 1, (Value.int .i64 (x)))] = some #[(Value.int .i64 (x))] := rfl
theorem parts_one (T : Tr Value) (a b : Nat) (o : Opd) : evParts T [(a, b, o)] = [(a, b, o.ev T)] := rfl
theorem new_pend {H : Abs.Heap} {id : Nat} {o : Ob} (h : H.get id = some .pend) : H.new id o = some (H.put id o) := by simp [Heap.new, h]

theorem qm_push {H : Abs.Heap} {fp : List Nat} {q h : Nat} {hs : List Bool} {l : List Int} {lv fv : Value} (Q : QM H fp q h hs l lv fv) {x : Int} (h0 : 0 ≤ x) (h1 : x < hs.length) (hsmall : l.length < 100000)
    {H1 X : Abs.Heap} (e1 : H1 = H.put h (.cells 4 false (setRange (hs.map Value.bool) x.toNat [.bool true]))) (eX : X = (Heap.ext 2 H1).put H1.size (.cells 3 false [(Value.int .i64 (x))])) :
    ∃ X' lv' b cp, X.append (H1.size + 1) 3 1 8 false lv (.slice (some ⟨H1.size, 0, some 3⟩) 1 1) = some (lv', X') ∧ okAll lv' = true ∧ lv'.cells = #[lv'] ∧ lv' = .slice (some b) (l ++ [x]).length cp ∧
      X'.get q = H.get q ∧ QM (X'.put q (.cells 43 false (setRange [.bool true, .slice (some ⟨h, 0, some 3⟩) hs.length hs.length, lv, fv] 2 [lv']))) ((H1.size + 1) :: fp) q h (hs.set x.toNat true) (l ++ [x]) lv' fv ∧
      Fr fp H (X'.put q (.cells 43 false (setRange [.bool true, .slice (some ⟨h, 0, some 3⟩) hs.length hs.length, lv, fv] 2 [lv']))) := by
  have sz : H1.size = H.size := by rw [e1]; rfl
  obtain ⟨qo, ho, ls, qf, hf, qh, lt⟩ := Q
  have lq := lt _ qf
  have lh := lt _ hf
  have hX : ∀ i, i < H.size → X.get i = H1.get i := fun i hi => by
    rw [eX, Heap.get_put, if_neg (by omega), ext_old (by omega)]
  have hX1 : ∀ i, i < H.size → i ≠ h → X.get i = H.get i := fun i hi hne => by
    rw [hX i hi, e1, Heap.get_put, if_neg (fun e => hne e.symm)]
  have szX : X.size = H.size + 2 := by rw [eX, Heap.size_put, Heap.size_ext, sz]
  have hb : X.get H1.size = some (.cells 3 false [(Value.int .i64 (x))]) := by rw [eX, Heap.get_put, if_pos rfl]
  have hid : X.get (H1.size + 1) = some .pend := by rw [eX, Heap.get_put, if_neg (by omega), ext_new (by omega)]
  have ls' : (lv = .slice none 0 0 ∧ l = []) ∨ ∃ o off m cap e cs, lv = .slice (some ⟨o, off, some m⟩) l.length cap ∧ (m = 2 ∨ m = 3) ∧ l.length ≤ cap ∧ X.get o = some (.cells e false cs) ∧ off + cap ≤ cs.length ∧
      (∀ i, i < l.length → cs[off + i]? = some (Value.int .i64 (g l i))) ∧ (o ∈ fp ∧ o ≠ q ∧ o ≠ h) := by
    rcases ls with ls | ⟨o, off, m, cap, e, cs, h1, h2, h3, h4, h5, h6, h7, h8, h9⟩
    · exact .inl ls
    · exact .inr ⟨o, off, m, cap, e, cs, h1, h2, h3, by rw [hX1 o (lt o h7) h9]; exact h4, h5, h6, h7, h8, h9⟩
  obtain ⟨X', lv', a1, a2, a3, a4, ⟨o, off, m, cap, e, cs, b1, b2, b3, b4, b5, b6, b7⟩, a6⟩ := append_one (P := fun o => o ∈ fp ∧ o ≠ q ∧ o ≠ h) ls' hb hid (Nat.le_of_lt hsmall)
  have hq' : X'.get q = H.get q := by rw [a6 q (fun c => c.2.1 rfl) (by omega), hX1 q lq qh]
  have hh' : X'.get h = X.get h := a6 h (fun c => c.2.2 rfl) (by omega)
  have onq : o ≠ q := by
    rcases b7 with c | c
    · exact c.2.1
    · omega
  have onh : o ≠ h := by
    rcases b7 with c | c
    · exact c.2.2
    · omega
  refine ⟨X', lv', ⟨o, off, some m⟩, cap, a1, a3, a4, b1, hq', ⟨?_, ?_, .inr ⟨o, off, m, cap, e, cs, b1, b2, b3, ?_, b5, b6, ?_, onq, onh⟩, List.mem_cons_of_mem _ qf, List.mem_cons_of_mem _ hf, qh, fun y hy => ?_⟩, ?_, fun i hi hne => ?_⟩
  · rw [Heap.get_put, if_pos rfl, List.length_set]; rfl
  · rw [Heap.get_put, if_neg qh, hh', hX h lh, e1, Heap.get_put, if_pos rfl, setRange_one _ _ _ (by simp; omega), List.map_set]
  · rw [Heap.get_put, if_neg (fun e => onq e.symm)]; exact b4
  · rcases b7 with c | c
    · exact List.mem_cons_of_mem _ c.1
    · rw [c]; exact List.mem_cons_self ..
  · rw [Heap.size_put, a2, szX]
    rcases List.mem_cons.1 hy with rfl | hy
    · omega
    · have := lt y hy; omega
  · rw [Heap.size_put, a2, szX]; omega
  · rw [Heap.get_put, if_neg (fun e : q = i => hne (e ▸ qf)), a6 i (fun c => hne c.1) (by omega), hX1 i hi (fun e : i = h => hne (e ▸ hf))]

end Go.Proofs.Ytmgkdnncjapejaa.Ab
