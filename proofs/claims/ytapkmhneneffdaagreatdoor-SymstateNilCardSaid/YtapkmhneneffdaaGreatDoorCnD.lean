/- A part of the proof that the law answers true at every input: the texts ZahL, ZahM, ZahN, ZahO, ZahP, ZahQ; no conditions. -/
import Derived.Test.YtapkmhneneffdaaGreatDoorCnC
import Derived.Test.YtapkmhneneffdaaGreatDoorCoC
set_option linter.unusedSimpArgs false
set_option linter.unusedVariables false
set_option linter.constructorNameAsVariable false

/-! The text ZahL. -/
namespace Go.Proofs.YtapkmhneneffdaaGreatDoor.M3.T
open Go Go.Proofs.YtapkmhneneffdaaGreatDoor.Mx Go.Proofs.YtapkmhneneffdaaGreatDoor.M3
set_option maxRecDepth 10000
section
variable {G : Gl} {ov : Nat → List V → Option V}

theorem conC {e : En} {Q : e.α → Prop} (he : ∀ a b, e.e a = e.e b → a = b) {g : Nat} {fn : Fn3} (ok : FOkC g fn) {as : List V} (hc : cl0 (cln0 g) as = false) {sg : List (Nat × Sg)} {st : List (Nat × Tg)} {en : Option En} {t : Option V}
    (ht : stS G (q0 G ov) sg st en (K G ov fn) fn as = t) (h : Ex e.e Q t) : Cal G ov e g as Q := by
  obtain ⟨a, h1, h2⟩ := h
  exact ⟨a, call_eq pu0 (w0 G ov) he ok.p (W_st ok.p ok.o hc fn ok.f ok.r ok.d ok.n (ht.trans h1)), h2⟩

/-- A row of its own that grows by a slice that is not empty. -/
theorem happN {α : Type} {e : α → V} (he : ∀ a b, e a = e b → a = b) {k ty esz bytes : Nat} {pure : Bool} (hs : ∀ a, (e a).cells.length = esz) {p q : Opd} {x : S α} (hne : x.l ≠ []) (hl : x.l.length * bytes ≤ 2 ^ 47) (hl2 : x.l.length ≤ 2 ^ 46) :
    (q0 G ov).h2 idH (apH esz e) (.append k ty esz bytes pure p q) [.sr 0 0 0 0 true, S.enc e x] ⟨1, 0, [true], [some (0, .arr esz [])]⟩ = some (.inr x.l) := by
  refine op2_eq pu0 (w0 G ov) (fun a b hab => ?_) ?_
  · rcases a with a | a <;> rcases b with b | b
    · rfl
    · exfalso
      have h1 : V.sr 0 0 0 0 true = V.sr 0 1 0 b.length false := congrArg Prod.fst hab
      exact absurd (V.sr.inj h1).2.2.2.2 (by decide)
    · exfalso
      have h1 : V.sr 0 1 0 a.length false = V.sr 0 0 0 0 true := congrArg Prod.fst hab
      exact absurd (V.sr.inj h1).2.2.2.2 (by decide)
    · have hab2 : [some (1, Ob.arr esz (a.map e))] = [some (1, Ob.arr esz (b.map e))] := congrArg (fun r : V × Hp => r.2.obs) hab
      simp only [List.cons.injEq, Option.some.injEq, Prod.mk.injEq, true_and, Ob.arr.injEq, and_true] at hab2
      rw [map_inj he hab2]
  · have row : ∀ H : Hp, H.row esz (S.enc e x) = some (x.l.map e) := fun H => by simp only [S.enc, Hp.row, allE_map hs, if_true]
    have hne2 : (x.l.map e).isEmpty = false := by simp [hne]
    have hat : (⟨1, 0, [true], [some (0, .arr esz [])]⟩ : Hp).at 0 0 = some (.arr esz []) := rfl
    simp only [opR, Hp.append, row, hat, hne2, Bool.false_eq_true, if_false]
    rw [if_pos ⟨trivial, by simp, fun _ => trivial, by simpa using hl, by simpa using hl2⟩]
    simp [bnd, apH, Hp.move, Hp.flV, S.enc]

theorem snL_flat {H : Hp} {f : Nat} : ∀ (l : List V), (∀ v ∈ l, snap H f v = some (v, [])) → snL (snap H f) l = some (l, [])
  | [], _ => rfl
  | v :: l, h => by simp only [snL, h v (.head _), snL_flat l (fun w hw => h w (.tail _ hw)), List.nil_append]
theorem snap_sr {H : Hp} {f slot st len esz : Nat} {ex : Bool} {es : List V} (hat : H.at slot st = some (.arr esz es)) (hl : len = es.length) (h : ∀ v ∈ es, snap H f v = some (v, [])) : snap H (f + 1) (.sr slot st 0 len ex) = some (.sl ex es, [slot]) := by
  subst hl
  have e : (es.drop 0).take es.length = es := by simp
  unfold snap
  simp only [hat, Nat.zero_add, Nat.le_refl, if_true, e, snL_flat es h, Option.map_some]
theorem snap_int {H : Hp} {f : Nat} (n : Int) : snap H (f + 1) (eI n) = some (eI n, []) := rfl

theorem heqn {α : Type} {e : α → V} {s : S α} (hne : s.l ≠ []) {a : Opd} {H : Hp} : (q0 G ov).h (vlH V.b) (.bin .eql .slc a (.c (.slice none 0 0))) [S.enc e s, .sl true []] H = some false := by
  refine op_eq pu0 (w0 G ov) (fun a b hab => b_inj _ _ (congrArg Prod.fst hab)) ?_
  obtain ⟨ex, l⟩ := s
  cases l with
  | nil => exact absurd rfl hne
  | cons x l => rfl

theorem clone_int64 (s : S Int) (h : s.l.length ≤ 2 ^ 44) : Cal G ov ⟨S Int, S.enc eI⟩ 64 [S.enc eI s] (fun t => t.l = s.l) := by
  by_cases hn : s.l = []
  · refine ⟨⟨true, []⟩, call_eq pu0 (w0 G ov) (enc_inj eI_inj) ok64.p ?_, hn.symm⟩
    have : S.enc eI s = .sl s.ex [] := by simp [S.enc, hn]
    rw [this]
    exact W_clone ok64.o rfl
  · refine conC (enc_inj eI_inj) ok64 (by obtain ⟨ex, l⟩ := s; cases l with | nil => exact absurd rfl hn | cons a l => rfl) (t64 G _ _ s) ?_
    have e1 := happN (G := G) (ov := ov) (k := 1) (ty := 2) (bytes := 8) (pure := false) (p := .t 5) (q := .t 6) eI_inj en1 hn (by omega) (by omega)
    have e2 := heqn (G := G) (ov := ov) (e := eI) (a := .t 3) (H := .emp) hn
    refine Ex.bnd e2 (Ex.bnd e1 ?_)
    refine Ex.bnd (snp_eq (s := [0]) pu0 (w0 G ov) (enc_inj eI_inj) (a := ⟨false, s.l⟩) ?_) (Ex.mk rfl)
    exact snap_sr (f := 11) rfl (by simp) (fun v hv => by obtain ⟨n, _, rfl⟩ := List.mem_map.1 hv; exact snap_int n)
theorem clone_int (s : S Int) (h : s.l.length ≤ 2 ^ 44) : Cal G ov ⟨S Int, S.enc eI⟩ 72 [S.enc eI s] (fun t => t.l = s.l) := by
  by_cases hn : s.l = []
  · refine ⟨⟨true, []⟩, call_eq pu0 (w0 G ov) (enc_inj eI_inj) ok72.p ?_, hn.symm⟩
    have : S.enc eI s = .sl s.ex [] := by simp [S.enc, hn]
    rw [this]
    exact W_clone ok72.o rfl
  · refine conC (enc_inj eI_inj) ok72 (by obtain ⟨ex, l⟩ := s; cases l with | nil => exact absurd rfl hn | cons a l => rfl) (t72 G _ _ s) ?_
    have e1 := happN (G := G) (ov := ov) (k := 1) (ty := 3) (bytes := 8) (pure := false) (p := .t 5) (q := .t 6) eI_inj en1 hn (by omega) (by omega)
    have e2 := heqn (G := G) (ov := ov) (e := eI) (a := .t 3) (H := .emp) hn
    refine Ex.bnd e2 (Ex.bnd e1 ?_)
    refine Ex.bnd (snp_eq (s := [0]) pu0 (w0 G ov) (enc_inj eI_inj) (a := ⟨false, s.l⟩) ?_) (Ex.mk rfl)
    exact snap_sr (f := 11) rfl (by simp) (fun v hv => by obtain ⟨n, _, rfl⟩ := List.mem_map.1 hv; exact snap_int n)
theorem clone_type (s : S Int) (h : s.l.length ≤ 2 ^ 44) : Cal G ov ⟨S Int, S.enc eI⟩ 107 [S.enc eI s] (fun t => t.l = s.l) := by
  by_cases hn : s.l = []
  · refine ⟨⟨true, []⟩, call_eq pu0 (w0 G ov) (enc_inj eI_inj) ok107.p ?_, hn.symm⟩
    have : S.enc eI s = .sl s.ex [] := by simp [S.enc, hn]
    rw [this]
    exact W_clone ok107.o rfl
  · refine conC (enc_inj eI_inj) ok107 (by obtain ⟨ex, l⟩ := s; cases l with | nil => exact absurd rfl hn | cons a l => rfl) (t107 G _ _ s) ?_
    have e1 := happN (G := G) (ov := ov) (k := 1) (ty := 26) (bytes := 8) (pure := false) (p := .t 5) (q := .t 6) eI_inj en1 hn (by omega) (by omega)
    have e2 := heqn (G := G) (ov := ov) (e := eI) (a := .t 3) (H := .emp) hn
    refine Ex.bnd e2 (Ex.bnd e1 ?_)
    refine Ex.bnd (snp_eq (s := [0]) pu0 (w0 G ov) (enc_inj eI_inj) (a := ⟨false, s.l⟩) ?_) (Ex.mk rfl)
    exact snap_sr (f := 11) rfl (by simp) (fun v hv => by obtain ⟨n, _, rfl⟩ := List.mem_map.1 hv; exact snap_int n)
/-- Clones that are written afterwards. -/
theorem clone_instr (s : S LInstr) (h : s.l.length * 80 ≤ 2 ^ 47) : (s.l = [] ∧ (q0 G ov).l2 L109v0r0 L109v0r1 109 [S.enc eInstr s] .emp = some (.inl ())) ∨
    (s.l ≠ [] ∧ (q0 G ov).l2 L109v0r0 L109v0r1 109 [S.enc eInstr s] .emp = some (.inr (s.l, false))) := by
  have inj : ∀ a b : Unit ⊕ (List LInstr × Bool), Sum.elim (L109v0r0).res (L109v0r1).res a = Sum.elim (L109v0r0).res (L109v0r1).res b → a = b := by
    intro a b hab
    rcases a with a | ⟨a, x⟩ <;> rcases b with b | ⟨b, y⟩
    · rfl
    · exact V.noConfusion (congrArg Prod.fst hab)
    · exact V.noConfusion (congrArg Prod.fst hab)
    · have h1 : V.sr 0 0 0 a.length x = V.sr 0 0 0 b.length y := congrArg Prod.fst hab
      have h2 : [some (0, Ob.arr 8 (a.map eInstr))] = [some (0, Ob.arr 8 (b.map eInstr))] := congrArg (fun r : V × Hp => r.2.obs) hab
      simp only [List.cons.injEq, Option.some.injEq, Prod.mk.injEq, true_and, Ob.arr.injEq, and_true] at h2
      rw [map_inj eInstr_inj h2, (V.sr.inj h1).2.2.2.2]
  by_cases hn : s.l = []
  · refine .inl ⟨hn, lc_eq inj rfl ?_⟩
    have : S.enc eInstr s = .sl s.ex [] := by simp [S.enc, hn]
    have hw : w0 G ov 109 [.sl s.ex []] .emp = some (.sl true [], .emp) := W_clone ok109.o rfl
    rw [this, hw]
    rfl
  · refine .inr ⟨hn, ?_⟩
    have e1 := happN (G := G) (ov := ov) (k := 1) (ty := 74) (bytes := 80) (pure := false) (p := .t 5) (q := .t 6) eInstr_inj s8 hn h (by omega)
    have e2 := heqn (G := G) (ov := ov) (e := eInstr) (a := .t 3) (H := .emp) hn
    have hx : ∃ a, (q0 G ov).l2 L109v0r0 L109v0r1 109 [S.enc eInstr s] .emp = some a ∧ a = (Sum.inr (s.l, false) : Unit ⊕ (List LInstr × Bool)) := by
      refine conL inj ok109 (X := .emp) (by obtain ⟨ex, l⟩ := s; cases l with | nil => exact absurd rfl hn | cons a l => rfl) (t109v0 G _ _ s) ?_
      refine Ex.bnd e2 (Ex.bnd e1 ?_)
      exact ⟨(Sum.inr (s.l, false) : Unit ⊕ (List LInstr × Bool)), rfl, rfl⟩
    obtain ⟨a, h1, rfl⟩ := hx
    exact h1
/-- Clones that are written afterwards. -/
theorem clone_edge (s : S LEdge) (h : s.l.length * 32 ≤ 2 ^ 47) : (s.l = [] ∧ (q0 G ov).l2 L110v0r0 L110v0r1 110 [S.enc eEdge s] .emp = some (.inl ())) ∨
    (s.l ≠ [] ∧ (q0 G ov).l2 L110v0r0 L110v0r1 110 [S.enc eEdge s] .emp = some (.inr (s.l, false))) := by
  have inj : ∀ a b : Unit ⊕ (List LEdge × Bool), Sum.elim (L110v0r0).res (L110v0r1).res a = Sum.elim (L110v0r0).res (L110v0r1).res b → a = b := by
    intro a b hab
    rcases a with a | ⟨a, x⟩ <;> rcases b with b | ⟨b, y⟩
    · rfl
    · exact V.noConfusion (congrArg Prod.fst hab)
    · exact V.noConfusion (congrArg Prod.fst hab)
    · have h1 : V.sr 0 0 0 a.length x = V.sr 0 0 0 b.length y := congrArg Prod.fst hab
      have h2 : [some (0, Ob.arr 2 (a.map eEdge))] = [some (0, Ob.arr 2 (b.map eEdge))] := congrArg (fun r : V × Hp => r.2.obs) hab
      simp only [List.cons.injEq, Option.some.injEq, Prod.mk.injEq, true_and, Ob.arr.injEq, and_true] at h2
      rw [map_inj eEdge_inj h2, (V.sr.inj h1).2.2.2.2]
  by_cases hn : s.l = []
  · refine .inl ⟨hn, lc_eq inj rfl ?_⟩
    have : S.enc eEdge s = .sl s.ex [] := by simp [S.enc, hn]
    have hw : w0 G ov 110 [.sl s.ex []] .emp = some (.sl true [], .emp) := W_clone ok110.o rfl
    rw [this, hw]
    rfl
  · refine .inr ⟨hn, ?_⟩
    have e1 := happN (G := G) (ov := ov) (k := 1) (ty := 216) (bytes := 32) (pure := false) (p := .t 5) (q := .t 6) eEdge_inj s2 hn h (by omega)
    have e2 := heqn (G := G) (ov := ov) (e := eEdge) (a := .t 3) (H := .emp) hn
    have hx : ∃ a, (q0 G ov).l2 L110v0r0 L110v0r1 110 [S.enc eEdge s] .emp = some a ∧ a = (Sum.inr (s.l, false) : Unit ⊕ (List LEdge × Bool)) := by
      refine conL inj ok110 (X := .emp) (by obtain ⟨ex, l⟩ := s; cases l with | nil => exact absurd rfl hn | cons a l => rfl) (t110v0 G _ _ s) ?_
      refine Ex.bnd e2 (Ex.bnd e1 ?_)
      exact ⟨(Sum.inr (s.l, false) : Unit ⊕ (List LEdge × Bool)), rfl, rfl⟩
    obtain ⟨a, h1, rfl⟩ := hx
    exact h1
/-- Clones that are written afterwards. -/
theorem clone_block (s : S LBlock) (h : s.l.length * 136 ≤ 2 ^ 47) : (s.l = [] ∧ (q0 G ov).l2 L108v0r0 L108v0r1 108 [S.enc eBlock s] .emp = some (.inl ())) ∨
    (s.l ≠ [] ∧ (q0 G ov).l2 L108v0r0 L108v0r1 108 [S.enc eBlock s] .emp = some (.inr (s.l, false))) := by
  have inj : ∀ a b : Unit ⊕ (List LBlock × Bool), Sum.elim (L108v0r0).res (L108v0r1).res a = Sum.elim (L108v0r0).res (L108v0r1).res b → a = b := by
    intro a b hab
    rcases a with a | ⟨a, x⟩ <;> rcases b with b | ⟨b, y⟩
    · rfl
    · exact V.noConfusion (congrArg Prod.fst hab)
    · exact V.noConfusion (congrArg Prod.fst hab)
    · have h1 : V.sr 0 0 0 a.length x = V.sr 0 0 0 b.length y := congrArg Prod.fst hab
      have h2 : [some (0, Ob.arr 7 (a.map eBlock))] = [some (0, Ob.arr 7 (b.map eBlock))] := congrArg (fun r : V × Hp => r.2.obs) hab
      simp only [List.cons.injEq, Option.some.injEq, Prod.mk.injEq, true_and, Ob.arr.injEq, and_true] at h2
      rw [map_inj eBlock_inj h2, (V.sr.inj h1).2.2.2.2]
  by_cases hn : s.l = []
  · refine .inl ⟨hn, lc_eq inj rfl ?_⟩
    have : S.enc eBlock s = .sl s.ex [] := by simp [S.enc, hn]
    have hw : w0 G ov 108 [.sl s.ex []] .emp = some (.sl true [], .emp) := W_clone ok108.o rfl
    rw [this, hw]
    rfl
  · refine .inr ⟨hn, ?_⟩
    have e1 := happN (G := G) (ov := ov) (k := 1) (ty := 132) (bytes := 136) (pure := false) (p := .t 5) (q := .t 6) eBlock_inj s7 hn h (by omega)
    have e2 := heqn (G := G) (ov := ov) (e := eBlock) (a := .t 3) (H := .emp) hn
    have hx : ∃ a, (q0 G ov).l2 L108v0r0 L108v0r1 108 [S.enc eBlock s] .emp = some a ∧ a = (Sum.inr (s.l, false) : Unit ⊕ (List LBlock × Bool)) := by
      refine conL inj ok108 (X := .emp) (by obtain ⟨ex, l⟩ := s; cases l with | nil => exact absurd rfl hn | cons a l => rfl) (t108v0 G _ _ s) ?_
      refine Ex.bnd e2 (Ex.bnd e1 ?_)
      exact ⟨(Sum.inr (s.l, false) : Unit ⊕ (List LBlock × Bool)), rfl, rfl⟩
    obtain ⟨a, h1, rfl⟩ := hx
    exact h1
/-- Clones that are written afterwards. -/
theorem clone_func (s : S LFunc) (h : s.l.length * 96 ≤ 2 ^ 47) : (s.l = [] ∧ (q0 G ov).l2 L65v0r0 L65v0r1 65 [S.enc eFunc s] .emp = some (.inl ())) ∨
    (s.l ≠ [] ∧ (q0 G ov).l2 L65v0r0 L65v0r1 65 [S.enc eFunc s] .emp = some (.inr (s.l, false))) := by
  have inj : ∀ a b : Unit ⊕ (List LFunc × Bool), Sum.elim (L65v0r0).res (L65v0r1).res a = Sum.elim (L65v0r0).res (L65v0r1).res b → a = b := by
    intro a b hab
    rcases a with a | ⟨a, x⟩ <;> rcases b with b | ⟨b, y⟩
    · rfl
    · exact V.noConfusion (congrArg Prod.fst hab)
    · exact V.noConfusion (congrArg Prod.fst hab)
    · have h1 : V.sr 0 0 0 a.length x = V.sr 0 0 0 b.length y := congrArg Prod.fst hab
      have h2 : [some (0, Ob.arr 5 (a.map eFunc))] = [some (0, Ob.arr 5 (b.map eFunc))] := congrArg (fun r : V × Hp => r.2.obs) hab
      simp only [List.cons.injEq, Option.some.injEq, Prod.mk.injEq, true_and, Ob.arr.injEq, and_true] at h2
      rw [map_inj eFunc_inj h2, (V.sr.inj h1).2.2.2.2]
  by_cases hn : s.l = []
  · refine .inl ⟨hn, lc_eq inj rfl ?_⟩
    have : S.enc eFunc s = .sl s.ex [] := by simp [S.enc, hn]
    have hw : w0 G ov 65 [.sl s.ex []] .emp = some (.sl true [], .emp) := W_clone ok65.o rfl
    rw [this, hw]
    rfl
  · refine .inr ⟨hn, ?_⟩
    have e1 := happN (G := G) (ov := ov) (k := 1) (ty := 68) (bytes := 96) (pure := false) (p := .t 5) (q := .t 6) eFunc_inj s5 hn h (by omega)
    have e2 := heqn (G := G) (ov := ov) (e := eFunc) (a := .t 3) (H := .emp) hn
    have hx : ∃ a, (q0 G ov).l2 L65v0r0 L65v0r1 65 [S.enc eFunc s] .emp = some a ∧ a = (Sum.inr (s.l, false) : Unit ⊕ (List LFunc × Bool)) := by
      refine conL inj ok65 (X := .emp) (by obtain ⟨ex, l⟩ := s; cases l with | nil => exact absurd rfl hn | cons a l => rfl) (t65v0 G _ _ s) ?_
      refine Ex.bnd e2 (Ex.bnd e1 ?_)
      exact ⟨(Sum.inr (s.l, false) : Unit ⊕ (List LFunc × Bool)), rfl, rfl⟩
    obtain ⟨a, h1, rfl⟩ := hx
    exact h1
/-- Clones that are written afterwards. -/
theorem clone_global (s : S LGlobal) (h : s.l.length * 64 ≤ 2 ^ 47) : (s.l = [] ∧ (q0 G ov).l2 L63v0r0 L63v0r1 63 [S.enc eGlobal s] .emp = some (.inl ())) ∨
    (s.l ≠ [] ∧ (q0 G ov).l2 L63v0r0 L63v0r1 63 [S.enc eGlobal s] .emp = some (.inr (s.l, false))) := by
  have inj : ∀ a b : Unit ⊕ (List LGlobal × Bool), Sum.elim (L63v0r0).res (L63v0r1).res a = Sum.elim (L63v0r0).res (L63v0r1).res b → a = b := by
    intro a b hab
    rcases a with a | ⟨a, x⟩ <;> rcases b with b | ⟨b, y⟩
    · rfl
    · exact V.noConfusion (congrArg Prod.fst hab)
    · exact V.noConfusion (congrArg Prod.fst hab)
    · have h1 : V.sr 0 0 0 a.length x = V.sr 0 0 0 b.length y := congrArg Prod.fst hab
      have h2 : [some (0, Ob.arr 5 (a.map eGlobal))] = [some (0, Ob.arr 5 (b.map eGlobal))] := congrArg (fun r : V × Hp => r.2.obs) hab
      simp only [List.cons.injEq, Option.some.injEq, Prod.mk.injEq, true_and, Ob.arr.injEq, and_true] at h2
      rw [map_inj eGlobal_inj h2, (V.sr.inj h1).2.2.2.2]
  by_cases hn : s.l = []
  · refine .inl ⟨hn, lc_eq inj rfl ?_⟩
    have : S.enc eGlobal s = .sl s.ex [] := by simp [S.enc, hn]
    have hw : w0 G ov 63 [.sl s.ex []] .emp = some (.sl true [], .emp) := W_clone ok63.o rfl
    rw [this, hw]
    rfl
  · refine .inr ⟨hn, ?_⟩
    have e1 := happN (G := G) (ov := ov) (k := 1) (ty := 64) (bytes := 64) (pure := false) (p := .t 5) (q := .t 6) eGlobal_inj s5g hn h (by omega)
    have e2 := heqn (G := G) (ov := ov) (e := eGlobal) (a := .t 3) (H := .emp) hn
    have hx : ∃ a, (q0 G ov).l2 L63v0r0 L63v0r1 63 [S.enc eGlobal s] .emp = some a ∧ a = (Sum.inr (s.l, false) : Unit ⊕ (List LGlobal × Bool)) := by
      refine conL inj ok63 (X := .emp) (by obtain ⟨ex, l⟩ := s; cases l with | nil => exact absurd rfl hn | cons a l => rfl) (t63v0 G _ _ s) ?_
      refine Ex.bnd e2 (Ex.bnd e1 ?_)
      exact ⟨(Sum.inr (s.l, false) : Unit ⊕ (List LGlobal × Bool)), rfl, rfl⟩
    obtain ⟨a, h1, rfl⟩ := hx
    exact h1
end
end Go.Proofs.YtapkmhneneffdaaGreatDoor.M3.T

/-! The text ZahM. -/
namespace Go.Proofs.YtapkmhneneffdaaGreatDoor.M3.T
open Go Go.Proofs.YtapkmhneneffdaaGreatDoor.Mx Go.Proofs.YtapkmhneneffdaaGreatDoor.M3
set_option maxRecDepth 10000

/-! ### what does not change: all but the flags of slices -/
def cS {α : Type} (c : α → α) (s : S α) : S α := ⟨true, s.l.map c⟩
def cN (s : S Int) : S Int := ⟨true, s.l⟩
def cE (e : LEdge) : LEdge := ⟨e.block, cN e.args⟩
def cI (i : LInstr) : LInstr := { i with args := cN i.args }
def cT (t : LTerm) : LTerm := ⟨t.kind, cN t.args, cN t.cases, cS cE t.succs, t.sym⟩
def cB (b : LBlock) : LBlock := ⟨cN b.params, cS cI b.instrs, cT b.term⟩
def cF (f : LFunc) : LFunc := ⟨f.name, cN f.params, f.result, cN f.regs, cS cB f.blocks⟩
def cG (g : LGlobal) : LGlobal := { g with init := cN g.init }
def cM (m : LModule) : LModule := ⟨cS cG m.globals, cS cF m.funcs⟩

section
variable {G : Gl} {ov : Nat → List V → Option V}

/-! ### typed rows -/
theorem hfl {α β : Type} {e : α → V} {e' : β → V} (he : ∀ a b, e' a = e' b → a = b) {esz off : Nat} {p : Opd} {l : List α} {slot st : Nat} {H : Hp} {k : Nat} {x : β} (hat : H.at slot st = some (.arr esz (l.map e))) (hk : k < l.length) (hx : sub false off 1 (e l[k]) = some (e' x)) :
    (q0 G ov).h (vlH e') (.load false 1 p) [.pr slot st k off] H = some x := by
  refine op_eq pu0 (w0 G ov) (fun a b hab => he _ _ (congrArg Prod.fst hab)) ?_
  simp only [opR, Hp.load, hat, List.getElem?_map, List.getElem?_eq_getElem hk, Option.map_some, hx, bnd, vlH]
theorem hfw {α β : Type} {e : α → V} {e' : β → V} (he : ∀ a b, e' a = e' b → a = b) {esz off n : Nat} {p : Opd} {l : List α} {slot st : Nat} {H : Hp} {k : Nat} {x : β} (hat : H.at slot st = some (.arr esz (l.map e))) (hk : k < l.length) (hx : sub true off n (e l[k]) = some (e' x)) :
    (q0 G ov).h (vlH e') (.load true n p) [.pr slot st k off] H = some x := by
  refine op_eq pu0 (w0 G ov) (fun a b hab => he _ _ (congrArg Prod.fst hab)) ?_
  simp only [opR, Hp.load, hat, List.getElem?_map, List.getElem?_eq_getElem hk, Option.map_some, hx, bnd, vlH]
theorem at_lt {H : Hp} {slot st : Nat} {ob : Ob} (h : H.at slot st = some ob) : slot < H.obs.length := by
  unfold Hp.at at h
  split at h
  · rename_i hs; exact (List.getElem?_eq_some_iff.1 hs).1
  · cases h
theorem hst {α : Type} {e : α → V} (he : ∀ a b, e a = e b → a = b) {esz off n : Nat} {p q : Opd} {l : List α} {slot st : Nat} {H : Hp} {k : Nat} {v : V} {x : α} (hat : H.at slot st = some (.arr esz (l.map e))) (hk : k < l.length) (hc : v.cells.length = n) (ho : v.cells.all okC = true) (hn : v.cells.all noRef0 = true) (hx : upd (e l[k]) off v.cells = some (e x)) :
    (q0 G ov).h (stH esz e) (.store n p q) [.pr slot st k off, v] H = some (l.set k x) := by
  refine op_eq pu0 (w0 G ov) (fun a b hab => ?_) ?_
  · have h2 : (H.obs.set slot (some (st, .arr esz (a.map e)))) = H.obs.set slot (some (st, .arr esz (b.map e))) := congrArg (fun r : V × Hp => r.2.obs) hab
    have h3 := congrArg (fun l : Obs => l[slot]?) h2
    simp only [List.getElem?_set, at_lt hat, if_true, Option.some.injEq, Prod.mk.injEq, true_and, Ob.arr.injEq] at h3
    exact map_inj he h3
  · simp only [opR, Hp.store, hat, List.getElem?_map, List.getElem?_eq_getElem hk, Option.map_some, hc, ho, hn, and_self, if_true, hx, bnd, stH, List.map_set]

/-! ### raw rows -/
theorem rst {n : Nat} {a b : Opd} {p v : V} {H H' : Hp} (h : H.store n p v = some H') : (q0 G ov).h hpH (.store n a b) [p, v] H = some H' :=
  op_eq pu0 (w0 G ov) (fun a b hab => congrArg Prod.snd hab) (by simp only [opR, h, bnd, hpH])
theorem rld {α : Type} {e : α → V} (he : ∀ a b, e a = e b → a = b) {agg : Bool} {n : Nat} {a : Opd} {p : V} {H : Hp} {x : α} (h : H.load agg n p = some (e x)) : (q0 G ov).h (vlH e) (.load agg n a) [p] H = some x :=
  op_eq pu0 (w0 G ov) (fun a b hab => he _ _ (congrArg Prod.fst hab)) (by simp only [opR, h, bnd, vlH])
theorem sl_inj (a b : Bool × List V) (h : V.sl a.1 a.2 = V.sl b.1 b.2) : a = b := by
  obtain ⟨h1, h2⟩ := V.sl.inj h
  exact Prod.ext h1 h2
theorem sr_inj (a b : Nat × Nat × Nat × Nat × Bool) (h : V.sr a.1 a.2.1 a.2.2.1 a.2.2.2.1 a.2.2.2.2 = V.sr b.1 b.2.1 b.2.2.1 b.2.2.2.1 b.2.2.2.2) : a = b := by
  obtain ⟨h1, h2, h3, h4, h5⟩ := V.sr.inj h
  exact Prod.ext h1 (Prod.ext h2 (Prod.ext h3 (Prod.ext h4 h5)))
theorem rsr {n : Nat} {a : Opd} {p : V} {H : Hp} {s st off len : Nat} {ex : Bool} (h : H.load false n p = some (.sr s st off len ex)) : (q0 G ov).h srH (.load false n a) [p] H = some (s, st, off, len, ex) :=
  op_eq pu0 (w0 G ov) (fun a b hab => sr_inj _ _ (congrArg Prod.fst hab)) (by simp only [opR, h, bnd, srH])
theorem rs2_inj (vs : List V) (H : Hp) (a b : (Nat × Nat × Nat × Nat × Bool) ⊕ Bool) (hab : Sum.elim (srH.res vs H) (n0H.res vs H) a = Sum.elim (srH.res vs H) (n0H.res vs H) b) : a = b := by
  rcases a with a | a <;> rcases b with b | b
  · exact congrArg _ (sr_inj _ _ (congrArg Prod.fst hab))
  · exact V.noConfusion (congrArg Prod.fst hab)
  · exact V.noConfusion (congrArg Prod.fst hab)
  · exact congrArg _ (V.sl.inj (congrArg Prod.fst hab)).1
theorem rs2l {n : Nat} {a : Opd} {p : V} {H : Hp} {s st off len : Nat} {ex : Bool} (h : H.load false n p = some (.sr s st off len ex)) : (q0 G ov).h2 srH n0H (.load false n a) [p] H = some (.inl (s, st, off, len, ex)) :=
  op2_eq pu0 (w0 G ov) (rs2_inj _ _) (by simp only [opR, h, bnd]; rfl)
theorem rs2r {n : Nat} {a : Opd} {p : V} {H : Hp} {ex : Bool} (h : H.load false n p = some (.sl ex [])) : (q0 G ov).h2 srH n0H (.load false n a) [p] H = some (.inr ex) :=
  op2_eq pu0 (w0 G ov) (rs2_inj _ _) (by simp only [opR, h, bnd]; rfl)
theorem ria {esz : Nat} {a b : Opd} {H : Hp} {s st len : Nat} {ex : Bool} {k : Nat} {es : List V} (hat : H.at s st = some (.arr esz es)) (hk : k < len) : (q0 G ov).h prH (.iaddr esz a b) [.sr s st 0 len ex, eI (k : Int)] H = some (s, st, k) := by
  refine op_eq pu0 (w0 G ov) (fun a b hab => ?_) ?_
  · obtain ⟨h1, h2, h3, _⟩ := V.pr.inj (congrArg Prod.fst hab)
    exact Prod.ext h1 (Prod.ext h2 h3)
  · have : (0 : Int) ≤ k ∧ (k : Int) < (len : Nat) := by omega
    simp only [opR, iaddr3, eI, this, and_self, if_true, hat, bnd, prH, Int.toNat_natCast, Nat.zero_add]

/-- The heap of CloneFunc: the function twice, its blocks, and what is new. -/
abbrev hB (c e : Nat) (fl : List Bool) (fv gv : V) (rows : List V) (rest : Obs) : Hp := ⟨c, e, fl, some (0, .arr 5 [fv]) :: some (1, .arr 5 [gv]) :: some (2, .arr 7 rows) :: rest⟩
variable {c e : Nat} {fl : List Bool} {fv gv : V} {rows : List V} {rest : Obs}
theorem ldB {i off : Nat} {l : List V} {v : V} (h : rows[i]? = some (.agg l)) (hv : l[off]? = some v) : (hB c e fl fv gv rows rest).load false 1 (.pr 2 2 i off) = some v := by
  have hat : (hB c e fl fv gv rows rest).at 2 2 = some (.arr 7 rows) := rfl
  simp only [Hp.load, hat, h, sub, Bool.false_eq_true, if_false, V.cells, hv]
theorem stB {i off : Nat} {l : List V} {x : V} (h : rows[i]? = some (.agg l)) (ho : off + 1 ≤ l.length) (h1 : l.length ≠ 1) (hx : x.cells = [x]) (hk : okC x = true) : (hB c e fl fv gv rows rest).store 1 (.pr 2 2 i off) x = some (hB (c + 1) e (setP fl 2 (getP fl 2 && noRef0 x)) fv gv (rows.set i (.agg (setR l off [x]))) rest) := by
  have hat : (hB c e fl fv gv rows rest).at 2 2 = some (.arr 7 rows) := rfl
  have hne : ¬ (off = 0 ∧ [x].length = l.length) := by simp; omega
  simp only [Hp.store, hat, hx, h, upd, List.all_cons, List.all_nil, Bool.and_true, hk, and_self, if_true, List.length_cons, List.length_nil, Nat.zero_add]
  rw [if_neg (by simp; omega), if_pos (by omega)]
  rfl
end
end Go.Proofs.YtapkmhneneffdaaGreatDoor.M3.T

/-! The text ZahN. -/
namespace Go.Proofs.YtapkmhneneffdaaGreatDoor.M3.T
open Go Go.Proofs.YtapkmhneneffdaaGreatDoor.Mx Go.Proofs.YtapkmhneneffdaaGreatDoor.M3
set_option maxRecDepth 10000
abbrev N66 := n66
section
variable {G : Gl} {ov : Nat → List V → Option V}

/-! ### the heap anew -/
theorem ren1_map {α : Type} {e : α → V} {ρ : Rn} {esz : Nat} {l : List α} {i : Nat} {v v' : V} (he : ∀ a, ren1 ρ (e a) = e a ∧ (e a).cells.all okC = true) (h1 : ren1 ρ v = v') (h2 : v'.cells.all okC = true) :
    renOb ρ false (.arr esz ((l.map e).set i v)) = some (.arr esz ((l.map e).set i v')) := by
  have e1 : ((l.map e).set i v).map (ren1 ρ) = (l.map e).set i v' := by
    rw [List.map_set, List.map_map, h1]
    congr 1
    exact List.map_congr_left fun a _ => (he a).1
  have e2 : ((l.map e).set i v').all (fun v => v.cells.all okC) = true := by
    rw [List.all_eq_true]
    intro x hx
    rcases List.mem_or_eq_of_mem_set hx with h | h
    · obtain ⟨a, _, rfl⟩ := List.mem_map.1 h
      exact (he a).2
    · subst h; exact h2
  simp only [renOb, cond_false, e1, e2, cond_true]
theorem eb_ren (ρ : Rn) (b : LBlock) : ren1 ρ (eBlock b) = eBlock b ∧ (eBlock b).cells.all okC = true := ⟨rfl, rfl⟩

variable {nm : ByteArray} {ps rg : S Int} {res : Int} {n : Nat} {ex : Bool}
abbrev fvO (nm : ByteArray) (ps : S Int) (res : Int) (rg : S Int) (n : Nat) (ex : Bool) : V := .agg [.s nm, S.enc eI ps, eI res, S.enc eI rg, .sr 2 2 0 n ex]
abbrev gvO : V := .agg [.s ⟨#[]⟩, .sl true [], eI 0, .sl true [], .sl true []]
theorem canS0 (s st : Nat) : canS 0 s st = s := by
  unfold canS
  have : Nat.blt s 0 = false := by cases s <;> rfl
  rw [this, Bool.and_false, cond_false, Nat.zero_add]
/-- Four objects, the third with a place. -/
theorem can4 {c e : Nat} {rows rows' : List V} {st3 : Nat} {o3 : Ob}
    (h : renOb (canρ 0 (hB c e [false, true, false, true] (fvO nm ps res rg n ex) gvO rows [some (st3, o3)])) false (.arr 7 rows) = some (.arr 7 rows')) :
    (hB c e [false, true, false, true] (fvO nm ps res rg n ex) gvO rows [some (st3, o3)]).can 0 = hB 4 0 [false, true, false, true] (fvO nm ps res rg n ex) gvO rows' [some (3, o3)] := by
  have e1 : (hB c e [false, true, false, true] (fvO nm ps res rg n ex) gvO rows [some (st3, o3)]).can 0 = ⟨4, 0, [false, true, false, true], [some (0, .arr 5 [fvO nm ps res rg n ex]), some (1, .arr 5 [gvO]), (renOb (canρ 0 (hB c e [false, true, false, true] (fvO nm ps res rg n ex) gvO rows [some (st3, o3)])) false (.arr 7 rows)).map fun ob => (2, ob), some (canS 0 3 st3, o3)]⟩ := rfl
  rw [e1, h, canS0]
  rfl

/-! ### what is read by content -/
theorem snap_agg {H : Hp} {f : Nat} {l l' : List V} {s : List Nat} (h : snL (snap H f) l = some (l', s)) : snap H (f + 1) (.agg l) = some (.agg l', s) := by
  unfold snap
  simp only [h, Option.map_some]
theorem snL_cons {H : Hp} {f : Nat} {v v' : V} {s s' : List Nat} {l l' : List V} (h : snap H f v = some (v', s)) (hl : snL (snap H f) l = some (l', s')) : snL (snap H f) (v :: l) = some (v' :: l', s ++ s') := by
  simp only [snL, h, hl]
theorem all_rows {α : Type} {e : α → V} (he : ∀ a, (e a).cells.all noRef0 = true) (l : List α) : (l.map e).all (fun v => v.cells.all noRef0) = true := by
  rw [List.all_eq_true]
  intro x hx
  obtain ⟨a, _, rfl⟩ := List.mem_map.1 hx
  exact he a
theorem set_map {α : Type} {e : α → V} {l : List α} {i : Nat} {v : V} {a : α} (h : v = e a) (w : V) : ((l.map e).set i w).set i v = (l.set i a).map e := by
  rw [h, List.set_set, List.map_set]
/-- An element's cells, at rest. -/
theorem finB {c e : Nat} {fl : List Bool} {fv gv : V} {bs : List LBlock} {i : Nat} {v : V} {rest : Obs} {s : List Nat} {b : LBlock} (hi : i < bs.length)
    (hs : snap (hB c e fl fv gv ((bs.map eBlock).set i v) rest) deep v = some (eBlock b, s)) (hc : s.contains 2 = false)
    (hd : ((hB c e fl fv gv ((bs.map eBlock).set i v) rest).frz s).obs = [some (0, .arr 5 [fv]), some (1, .arr 5 [gv]), some (2, .arr 7 ((bs.map eBlock).set i v))]) :
    (hB c e fl fv gv ((bs.map eBlock).set i v) rest).fin 2 2 i = some (hB c (e + 1) (setP fl 2 true) fv gv ((bs.set i b).map eBlock) []) := by
  have hat : (hB c e fl fv gv ((bs.map eBlock).set i v) rest).at 2 2 = some (.arr 7 ((bs.map eBlock).set i v)) := rfl
  have hg : ((bs.map eBlock).set i v)[i]? = some v := by simp [hi]
  have hr : ((bs.map eBlock).set i v).set i (eBlock b) = (bs.set i b).map eBlock := set_map rfl v
  unfold Hp.fin
  simp only [hat, hg, hs, hc, cond_false, hd, hr, all_rows (e := eBlock) (fun a => rfl)]
  rfl
end

/-! ### rows -/
theorem load_row {α : Type} {e : α → V} {H : Hp} {slot st esz off k : Nat} {l : List α} {v : V} (hat : H.at slot st = some (.arr esz (l.map e))) (hk : k < l.length) (hx : sub false off 1 (e l[k]) = some v) : H.load false 1 (.pr slot st k off) = some v := by
  simp only [Hp.load, hat, List.getElem?_map, List.getElem?_eq_getElem hk, Option.map_some, hx]
theorem store_row {α : Type} {e : α → V} {H : Hp} {slot st esz off n k : Nat} {l : List α} {v : V} {x : α} (hat : H.at slot st = some (.arr esz (l.map e))) (hk : k < l.length) (hc : v.cells.length = n) (ho : v.cells.all okC = true) (hx : upd (e l[k]) off v.cells = some (e x)) :
    H.store n (.pr slot st k off) v = some (H.put slot st (.arr esz ((l.set k x).map e)) (v.cells.all noRef0)) := by
  simp only [Hp.store, hat, List.getElem?_map, List.getElem?_eq_getElem hk, Option.map_some, hc, ho, and_self, if_true, hx, List.map_set]

/-! ### the loop over the successors -/
section
variable {G : Gl} {ov : Nat → List V → Option V} {nm : ByteArray} {ps rg : S Int} {res : Int} {n : Nat} {ex : Bool}
noncomputable abbrev Head (G : Gl) (ov : Nat → List V → Option V) (nm : ByteArray) (ps : S Int) (res : Int) (rg : S Int) (n : Nat) (ex : Bool) (bs : List LBlock) (i : Nat) : Option V := k66_2 (K G ov N66) nm ps res rg 0 n ex ⟨#[]⟩ 0 bs (n : Int) (i : Int)

theorem cE_len {es es' : List LEdge} (h : es'.map cE = es.map cE) : es'.length = es.length := by simpa using congrArg List.length h
theorem cE_args {es es' : List LEdge} (h : es'.map cE = es.map cE) (hb : ∀ e ∈ es, B44 e.args) : ∀ e ∈ es', B44 e.args := by
  intro e he
  have : cE e ∈ es.map cE := by rw [← h]; exact List.mem_map_of_mem he
  obtain ⟨e', h1, h2⟩ := List.mem_map.1 this
  have h3 : (cE e').args.l = (cE e).args.l := congrArg (fun x : LEdge => x.args.l) h2
  have h3 : e'.args.l = e.args.l := h3
  have := hb e' h1
  unfold B44 at this ⊢
  rw [← h3]; exact this
theorem cE_set {es es' : List LEdge} {k : Nat} {r : S Int} (h : es'.map cE = es.map cE) (hk : k < es'.length) (hr : r.l = es'[k].args.l) : (es'.set k ⟨es'[k].block, r⟩).map cE = es.map cE := by
  rw [List.map_set, ← h]
  have : cE ⟨es'[k].block, r⟩ = (es'.map cE)[k]'(by simpa using hk) := by simp [cE, cN, hr]
  rw [this, List.set_getElem_self]

/-- Behind the loop over the successors: the next block. -/
theorem loopC {Q : LFunc → Prop} {bs : List LBlock} {i : Nat} (hn : n = bs.length) (hn44 : n ≤ 2 ^ 44) (hi : i < bs.length) {p a c : S Int} {is : S LInstr} {kd sy : Int} {m : Nat} {ex2 : Bool} {es0 : List LEdge} (hm : m = es0.length) (hb : ∀ e ∈ es0, B44 e.args) (hm44 : m ≤ 2 ^ 44)
    (next : ∀ es : List LEdge, es.map cE = es0.map cE → Ex eFunc Q (Head G ov nm ps res rg n ex (bs.set i ⟨p, is, ⟨kd, a, c, ⟨ex2, es⟩, sy⟩⟩) (i + 1))) :
    ∀ (d k : Nat) (es : List LEdge), k + d = m → es.map cE = es0.map cE →
      Ex eFunc Q (k66_4 (K G ov N66) 0 0 0 0 1 1 0 0 2 2 i 2 (n : Int) (i : Int) (m : Int) (k : Int) [false, true, false, true]
        [some (0, .arr 5 [fvO nm ps res rg n ex]), some (1, .arr 5 [gvO]), some (2, .arr 7 ((bs.map eBlock).set i (.agg [eInts p, S.enc eInstr is, eI kd, eInts a, eInts c, .sr 3 3 0 m ex2, eI sy]))), some (3, .arr 2 (es.map eEdge))]) := by
  have hw : ∀ k : Nat, k < 2 ^ 44 → IntKind.wrap .i64 ((k : Int) + 1) = ((k + 1 : Nat) : Int) := fun k h => wrapS h
  have hr5 : ∀ {v : V}, ((bs.map eBlock).set i v)[i]? = some v := fun {v} => by simp [hi]
  intro d
  induction d with
  | zero =>
    intro k es hk he
    refine Ex.pc ok66 (t66_4 G _ _ _ _ _ _ _ _ _ _ _ _ _ _ _ _ _ _ _ _) ?_
    refine Ex.cond (fun h => ?_) fun _ => ?_
    · simp [ltI_eq] at h; omega
    have hes : es.length = m := by rw [cE_len he, hm]
    refine Ex.bnd (finB (s := [3]) (b := ⟨p, is, ⟨kd, a, c, ⟨ex2, es⟩, sy⟩⟩) hi ?_ rfl rfl) ?_
    · refine snap_agg (f := 11) ?_
      refine snL_cons (s := []) rfl (snL_cons (s := []) rfl (snL_cons (s := []) rfl (snL_cons (s := []) rfl (snL_cons (s := []) rfl (snL_cons (s := [3]) (v' := S.enc eEdge ⟨ex2, es⟩) ?_ (snL_cons (s := []) rfl rfl))))))
      refine snap_sr (f := 10) (es := es.map eEdge) (esz := 2) rfl (by simp [hes]) (fun v hv => ?_)
      obtain ⟨e, _, rfl⟩ := List.mem_map.1 hv
      rfl
    rw [hw i (by omega)]
    exact next es he
  | succ d ih =>
    intro k es hk he
    have hes : es.length = m := by rw [cE_len he, hm]
    have hkl : k < es.length := by omega
    refine Ex.pc ok66 (t66_4 G _ _ _ _ _ _ _ _ _ _ _ _ _ _ _ _ _ _ _ _) ?_
    refine Ex.cond (fun h => ?_) fun h => ?_
    · refine Ex.bnd (rsr (ldB hr5 rfl)) (Ex.bnd (ria (es := es.map eEdge) rfl (by show k < m; omega)) ?_)
      refine Ex.bnd (rld sl_inj (x := (es[k].args.ex, es[k].args.l.map eI)) ?_) ?_
      · exact load_row (H := hB 4 0 _ _ _ _ _) rfl hkl rfl
      refine Ex.cal (clone_int es[k].args (cE_args he hb _ (List.getElem_mem hkl))) fun r hr => ?_
      refine Ex.bnd (rsr (ldB hr5 rfl)) (Ex.bnd (ria (es := es.map eEdge) rfl (by show k < m; omega)) ?_)
      refine Ex.bnd (rst (H' := hB 5 1 [false, true, false, true] (fvO nm ps res rg n ex) gvO ((bs.map eBlock).set i (.agg [eInts p, S.enc eInstr is, eI kd, eInts a, eInts c, .sr 3 3 0 m ex2, eI sy])) [some (3, .arr 2 ((es.set k ⟨es[k].block, r⟩).map eEdge))]) ?_) ?_
      · exact store_row (e := eEdge) (off := 1) (v := S.enc eI r) (H := hB 4 1 _ _ _ _ _) (x := ⟨es[k].block, r⟩) rfl hkl rfl rfl rfl
      show Ex eFunc Q (K G ov N66 _ _ (Hp.can _ 0))
      rw [can4 (ren1_map (eb_ren _) rfl rfl), hw k (by omega)]
      exact ih (k + 1) _ (by omega) (cE_set he hkl hr)
    · simp [ltI_eq] at h; omega
end
end Go.Proofs.YtapkmhneneffdaaGreatDoor.M3.T

/-! The text ZahO. -/
namespace Go.Proofs.YtapkmhneneffdaaGreatDoor.M3.T
open Go Go.Proofs.YtapkmhneneffdaaGreatDoor.Mx Go.Proofs.YtapkmhneneffdaaGreatDoor.M3
set_option maxRecDepth 10000
section
variable {G : Gl} {ov : Nat → List V → Option V} {nm : ByteArray} {ps rg : S Int} {res : Int} {n : Nat} {ex : Bool}

theorem load_blk {α : Type} {e : α → V} {H : Hp} {slot st esz off k : Nat} {l : List α} {a : α} {v : V} (hat : H.at slot st = some (.arr esz ((l.set k a).map e))) (hk : k < l.length) (hx : sub false off 1 (e a) = some v) : H.load false 1 (.pr slot st k off) = some v :=
  load_row hat (by simpa using hk) (by rw [List.getElem_set_self]; exact hx)
theorem store_blk {α : Type} {e : α → V} {H : Hp} {slot st esz off n k : Nat} {l : List α} {a : α} {v : V} {x : α} (hat : H.at slot st = some (.arr esz ((l.set k a).map e))) (hk : k < l.length) (hc : v.cells.length = n) (ho : v.cells.all okC = true) (hx : upd (e a) off v.cells = some (e x)) :
    H.store n (.pr slot st k off) v = some (H.put slot st (.arr esz ((l.set k x).map e)) (v.cells.all noRef0)) := by
  have h := store_row (x := x) hat (by simpa using hk) hc ho (by rw [List.getElem_set_self]; exact hx)
  rw [List.set_set] at h
  exact h
theorem rows_blk (bs : List LBlock) (i : Nat) (b : LBlock) (v : V) : ((bs.set i b).map eBlock).set i v = (bs.map eBlock).set i v := by
  rw [List.map_set, List.set_set]

/-- Behind the loop over the instructions. -/
theorem phaseB {Q : LFunc → Prop} {bs : List LBlock} {i c : Nat} {fl : List Bool} (hc : (c = 4 ∧ fl = [false, true, true, true]) ∨ (c = 3 ∧ fl = [false, true, true])) (hn : n = bs.length) (hn44 : n ≤ 2 ^ 44) (hi : i < bs.length)
    {p a0 c0 : S Int} {is : S LInstr} {s0 : S LEdge} {kd sy : Int} (ha : B44 a0) (hc0 : B44 c0) (hs : s0.l.length * 32 ≤ 2 ^ 47) (hb : ∀ e ∈ s0.l, B44 e.args)
    (next : ∀ (a c : S Int) (s : S LEdge), a.l = a0.l → c.l = c0.l → s.l.map cE = s0.l.map cE → Ex eFunc Q (Head G ov nm ps res rg n ex (bs.set i ⟨p, is, ⟨kd, a, c, s, sy⟩⟩) (i + 1))) :
    Ex eFunc Q (treeB (q0 G ov) (K G ov N66) 0 0 0 0 1 1 0 0 2 2 i 0 (n : Int) (i : Int) (hB c 1 fl (fvO nm ps res rg n ex) gvO ((bs.set i ⟨p, is, ⟨kd, a0, c0, s0, sy⟩⟩).map eBlock) [])) := by
  unfold treeB
  rcases hc with ⟨rfl, rfl⟩ | ⟨rfl, rfl⟩
  · refine Ex.bnd (rld sl_inj (x := (a0.ex, a0.l.map eI)) (load_blk (e := eBlock) rfl hi rfl)) ?_
    refine Ex.cal (clone_int a0 ha) fun a ea => ?_
    refine Ex.bnd (rld sl_inj (x := (c0.ex, c0.l.map eI)) (load_blk (e := eBlock) rfl hi rfl)) ?_
    refine Ex.cal (clone_int64 c0 hc0) fun c ec => ?_
    refine Ex.bnd (rld sl_inj (x := (s0.ex, s0.l.map eEdge)) (load_blk (e := eBlock) rfl hi rfl)) ?_
    rcases clone_edge (G := G) (ov := ov) s0 hs with ⟨hs0, hq⟩ | ⟨hs0, hq⟩
    · refine Ex.bnd hq ?_
      refine Ex.bnd (rst (H' := hB _ 4 [false, true, true] (fvO nm ps res rg n ex) gvO ((bs.set i ⟨p, is, ⟨kd, a, c0, s0, sy⟩⟩).map eBlock) []) (store_blk (e := eBlock) (off := 3) (v := S.enc eI a) (H := hB _ 4 [false, true, true] _ _ _ _) (x := ⟨p, is, ⟨kd, a, c0, s0, sy⟩⟩) rfl hi rfl rfl rfl)) ?_
      refine Ex.bnd (rst (H' := hB _ 4 [false, true, true] (fvO nm ps res rg n ex) gvO ((bs.set i ⟨p, is, ⟨kd, a, c, s0, sy⟩⟩).map eBlock) []) (store_blk (e := eBlock) (off := 4) (v := S.enc eI c) (H := hB _ 4 [false, true, true] _ _ _ _) (x := ⟨p, is, ⟨kd, a, c, s0, sy⟩⟩) rfl hi rfl rfl rfl)) ?_
      refine Ex.bnd (rst (H' := hB _ 4 [false, true, true] (fvO nm ps res rg n ex) gvO ((bs.set i ⟨p, is, ⟨kd, a, c, ⟨true, []⟩, sy⟩⟩).map eBlock) []) (store_blk (e := eBlock) (off := 5) (v := .sl true []) (H := hB _ 4 [false, true, true] _ _ _ _) (x := ⟨p, is, ⟨kd, a, c, ⟨true, []⟩, sy⟩⟩) rfl hi rfl rfl rfl)) ?_
      refine Ex.bnd (rs2r (ex := true) (load_blk (e := eBlock) rfl hi rfl)) ?_
      refine Ex.pc ok66 (t66_4z G _ _ 0 0 0 0 1 1 0 0 2 2 i 2 _ _ _ _ [false, true, true] [some (0, .arr 5 [fvO nm ps res rg n ex]), some (1, .arr 5 [gvO]), some (2, .arr 7 ((bs.set i ⟨p, is, ⟨kd, a, c, ⟨true, []⟩, sy⟩⟩).map eBlock))]) ?_
      refine Ex.cond (fun h => ?_) fun _ => ?_
      · simp [ltI_eq] at h
      have hset : (bs.map eBlock).set i (eBlock ⟨p, is, ⟨kd, a, c, ⟨true, []⟩, sy⟩⟩) = (bs.set i ⟨p, is, ⟨kd, a, c, ⟨true, []⟩, sy⟩⟩).map eBlock := List.map_set.symm
      rw [← hset]
      refine Ex.bnd (finB (c := 3) (e := 0) (fl := [false, true, true]) (s := []) (b := ⟨p, is, ⟨kd, a, c, ⟨true, []⟩, sy⟩⟩) hi rfl rfl rfl) ?_
      have hw : IntKind.wrap .i64 ((i : Int) + 1) = ((i + 1 : Nat) : Int) := wrapS (by omega)
      rw [hw]
      exact next a c ⟨true, []⟩ ea ec (by rw [hs0])
    · refine Ex.bnd hq ?_
      refine Ex.bnd (rst (H' := hB 7 4 [false, true, true, true] (fvO nm ps res rg n ex) gvO ((bs.set i ⟨p, is, ⟨kd, a, c0, s0, sy⟩⟩).map eBlock) [some (5, .arr 2 (s0.l.map eEdge))]) (store_blk (e := eBlock) (off := 3) (v := S.enc eI a) (H := hB 6 4 [false, true, true, true] (fvO nm ps res rg n ex) gvO ((bs.set i ⟨p, is, ⟨kd, a0, c0, s0, sy⟩⟩).map eBlock) [some (5, .arr 2 (s0.l.map eEdge))]) (x := ⟨p, is, ⟨kd, a, c0, s0, sy⟩⟩) rfl hi rfl rfl rfl)) ?_
      refine Ex.bnd (rst (H' := hB 8 4 [false, true, true, true] (fvO nm ps res rg n ex) gvO ((bs.set i ⟨p, is, ⟨kd, a, c, s0, sy⟩⟩).map eBlock) [some (5, .arr 2 (s0.l.map eEdge))]) (store_blk (e := eBlock) (off := 4) (v := S.enc eI c) (H := hB 7 4 [false, true, true, true] (fvO nm ps res rg n ex) gvO ((bs.set i ⟨p, is, ⟨kd, a, c0, s0, sy⟩⟩).map eBlock) [some (5, .arr 2 (s0.l.map eEdge))]) (x := ⟨p, is, ⟨kd, a, c, s0, sy⟩⟩) rfl hi rfl rfl rfl)) ?_
      have hr : ∀ {v : V}, ((bs.map eBlock).set i v)[i]? = some v := fun {v} => by simp [hi]
      refine Ex.bnd (rst (H' := hB 9 4 [false, true, false, true] (fvO nm ps res rg n ex) gvO (((bs.set i ⟨p, is, ⟨kd, a, c, s0, sy⟩⟩).map eBlock).set i (.agg [eInts p, S.enc eInstr is, eI kd, eInts a, eInts c, .sr 3 5 0 s0.l.length false, eI sy])) [some (5, .arr 2 (s0.l.map eEdge))])
        (stB (i := i) (off := 5) (l := [eInts p, S.enc eInstr is, eI kd, eInts a, eInts c, S.enc eEdge s0, eI sy]) (by rw [List.map_set]; exact hr) (by simp) (by simp) rfl rfl)) ?_
      rw [rows_blk]
      refine Ex.bnd (rs2l (s := 3) (st := 5) (off := 0) (len := s0.l.length) (ex := false) (ldB (i := i) (l := [eInts p, S.enc eInstr is, eI kd, eInts a, eInts c, .sr 3 5 0 s0.l.length false, eI sy]) hr rfl)) ?_
      show Ex eFunc Q (K G ov N66 _ _ (Hp.can _ 0))
      rw [can4 (ren1_map (eb_ren _) rfl rfl)]
      exact loopC hn hn44 hi rfl hb (by omega) (fun es he => next a c ⟨false, es⟩ ea ec he) s0.l.length 0 s0.l (by omega) rfl
  · refine Ex.bnd (rld sl_inj (x := (a0.ex, a0.l.map eI)) (load_blk (e := eBlock) rfl hi rfl)) ?_
    refine Ex.cal (clone_int a0 ha) fun a ea => ?_
    refine Ex.bnd (rld sl_inj (x := (c0.ex, c0.l.map eI)) (load_blk (e := eBlock) rfl hi rfl)) ?_
    refine Ex.cal (clone_int64 c0 hc0) fun c ec => ?_
    refine Ex.bnd (rld sl_inj (x := (s0.ex, s0.l.map eEdge)) (load_blk (e := eBlock) rfl hi rfl)) ?_
    rcases clone_edge (G := G) (ov := ov) s0 hs with ⟨hs0, hq⟩ | ⟨hs0, hq⟩
    · refine Ex.bnd hq ?_
      refine Ex.bnd (rst (H' := hB _ 4 [false, true, true] (fvO nm ps res rg n ex) gvO ((bs.set i ⟨p, is, ⟨kd, a, c0, s0, sy⟩⟩).map eBlock) []) (store_blk (e := eBlock) (off := 3) (v := S.enc eI a) (H := hB _ 4 [false, true, true] _ _ _ _) (x := ⟨p, is, ⟨kd, a, c0, s0, sy⟩⟩) rfl hi rfl rfl rfl)) ?_
      refine Ex.bnd (rst (H' := hB _ 4 [false, true, true] (fvO nm ps res rg n ex) gvO ((bs.set i ⟨p, is, ⟨kd, a, c, s0, sy⟩⟩).map eBlock) []) (store_blk (e := eBlock) (off := 4) (v := S.enc eI c) (H := hB _ 4 [false, true, true] _ _ _ _) (x := ⟨p, is, ⟨kd, a, c, s0, sy⟩⟩) rfl hi rfl rfl rfl)) ?_
      refine Ex.bnd (rst (H' := hB _ 4 [false, true, true] (fvO nm ps res rg n ex) gvO ((bs.set i ⟨p, is, ⟨kd, a, c, ⟨true, []⟩, sy⟩⟩).map eBlock) []) (store_blk (e := eBlock) (off := 5) (v := .sl true []) (H := hB _ 4 [false, true, true] _ _ _ _) (x := ⟨p, is, ⟨kd, a, c, ⟨true, []⟩, sy⟩⟩) rfl hi rfl rfl rfl)) ?_
      refine Ex.bnd (rs2r (ex := true) (load_blk (e := eBlock) rfl hi rfl)) ?_
      refine Ex.pc ok66 (t66_4z G _ _ 0 0 0 0 1 1 0 0 2 2 i 2 _ _ _ _ [false, true, true] [some (0, .arr 5 [fvO nm ps res rg n ex]), some (1, .arr 5 [gvO]), some (2, .arr 7 ((bs.set i ⟨p, is, ⟨kd, a, c, ⟨true, []⟩, sy⟩⟩).map eBlock))]) ?_
      refine Ex.cond (fun h => ?_) fun _ => ?_
      · simp [ltI_eq] at h
      have hset : (bs.map eBlock).set i (eBlock ⟨p, is, ⟨kd, a, c, ⟨true, []⟩, sy⟩⟩) = (bs.set i ⟨p, is, ⟨kd, a, c, ⟨true, []⟩, sy⟩⟩).map eBlock := List.map_set.symm
      rw [← hset]
      refine Ex.bnd (finB (c := 3) (e := 0) (fl := [false, true, true]) (s := []) (b := ⟨p, is, ⟨kd, a, c, ⟨true, []⟩, sy⟩⟩) hi rfl rfl rfl) ?_
      have hw : IntKind.wrap .i64 ((i : Int) + 1) = ((i + 1 : Nat) : Int) := wrapS (by omega)
      rw [hw]
      exact next a c ⟨true, []⟩ ea ec (by rw [hs0])
    · refine Ex.bnd hq ?_
      refine Ex.bnd (rst (H' := hB 6 4 [false, true, true, true] (fvO nm ps res rg n ex) gvO ((bs.set i ⟨p, is, ⟨kd, a, c0, s0, sy⟩⟩).map eBlock) [some (4, .arr 2 (s0.l.map eEdge))]) (store_blk (e := eBlock) (off := 3) (v := S.enc eI a) (H := hB 5 4 [false, true, true, true] (fvO nm ps res rg n ex) gvO ((bs.set i ⟨p, is, ⟨kd, a0, c0, s0, sy⟩⟩).map eBlock) [some (4, .arr 2 (s0.l.map eEdge))]) (x := ⟨p, is, ⟨kd, a, c0, s0, sy⟩⟩) rfl hi rfl rfl rfl)) ?_
      refine Ex.bnd (rst (H' := hB 7 4 [false, true, true, true] (fvO nm ps res rg n ex) gvO ((bs.set i ⟨p, is, ⟨kd, a, c, s0, sy⟩⟩).map eBlock) [some (4, .arr 2 (s0.l.map eEdge))]) (store_blk (e := eBlock) (off := 4) (v := S.enc eI c) (H := hB 6 4 [false, true, true, true] (fvO nm ps res rg n ex) gvO ((bs.set i ⟨p, is, ⟨kd, a, c0, s0, sy⟩⟩).map eBlock) [some (4, .arr 2 (s0.l.map eEdge))]) (x := ⟨p, is, ⟨kd, a, c, s0, sy⟩⟩) rfl hi rfl rfl rfl)) ?_
      have hr : ∀ {v : V}, ((bs.map eBlock).set i v)[i]? = some v := fun {v} => by simp [hi]
      refine Ex.bnd (rst (H' := hB 8 4 [false, true, false, true] (fvO nm ps res rg n ex) gvO (((bs.set i ⟨p, is, ⟨kd, a, c, s0, sy⟩⟩).map eBlock).set i (.agg [eInts p, S.enc eInstr is, eI kd, eInts a, eInts c, .sr 3 4 0 s0.l.length false, eI sy])) [some (4, .arr 2 (s0.l.map eEdge))])
        (stB (i := i) (off := 5) (l := [eInts p, S.enc eInstr is, eI kd, eInts a, eInts c, S.enc eEdge s0, eI sy]) (by rw [List.map_set]; exact hr) (by simp) (by simp) rfl rfl)) ?_
      rw [rows_blk]
      refine Ex.bnd (rs2l (s := 3) (st := 4) (off := 0) (len := s0.l.length) (ex := false) (ldB (i := i) (l := [eInts p, S.enc eInstr is, eI kd, eInts a, eInts c, .sr 3 4 0 s0.l.length false, eI sy]) hr rfl)) ?_
      show Ex eFunc Q (K G ov N66 _ _ (Hp.can _ 0))
      rw [can4 (ren1_map (eb_ren _) rfl rfl)]
      exact loopC hn hn44 hi rfl hb (by omega) (fun es he => next a c ⟨false, es⟩ ea ec he) s0.l.length 0 s0.l (by omega) rfl
end
end Go.Proofs.YtapkmhneneffdaaGreatDoor.M3.T

/-! The text ZahP. -/
namespace Go.Proofs.YtapkmhneneffdaaGreatDoor.M3.T
open Go Go.Proofs.YtapkmhneneffdaaGreatDoor.Mx Go.Proofs.YtapkmhneneffdaaGreatDoor.M3
set_option maxRecDepth 10000
section
variable {G : Gl} {ov : Nat → List V → Option V} {nm : ByteArray} {ps rg : S Int} {res : Int} {n : Nat} {ex : Bool}

theorem cI_len {es es' : List LInstr} (h : es'.map cI = es.map cI) : es'.length = es.length := by simpa using congrArg List.length h
theorem cI_args {es es' : List LInstr} (h : es'.map cI = es.map cI) (hb : ∀ e ∈ es, B44 e.args) : ∀ e ∈ es', B44 e.args := by
  intro e he
  have : cI e ∈ es.map cI := by rw [← h]; exact List.mem_map_of_mem he
  obtain ⟨e', h1, h2⟩ := List.mem_map.1 this
  have h3 : (cI e').args.l = (cI e).args.l := congrArg (fun x : LInstr => x.args.l) h2
  have h3 : e'.args.l = e.args.l := h3
  have := hb e' h1
  unfold B44 at this ⊢
  rw [← h3]; exact this
theorem cI_set {es es' : List LInstr} {k : Nat} {r : S Int} (h : es'.map cI = es.map cI) (hk : k < es'.length) (hr : r.l = es'[k].args.l) : (es'.set k { es'[k] with args := r }).map cI = es.map cI := by
  rw [List.map_set, ← h]
  have : cI { es'[k] with args := r } = (es'.map cI)[k]'(by simpa using hk) := by simp [cI, cN, hr]
  rw [this, List.set_getElem_self]

theorem loopA {Q : LFunc → Prop} {bs : List LBlock} {i : Nat} (hn : n = bs.length) (hn44 : n ≤ 2 ^ 44) (hi : i < bs.length) {p a0 c0 : S Int} {s0 : S LEdge} {kd sy : Int} {m : Nat} {ex2 : Bool} {is0 : List LInstr} (hm : m = is0.length) (hb : ∀ e ∈ is0, B44 e.args) (hm44 : m ≤ 2 ^ 44)
    (ha : B44 a0) (hc0 : B44 c0) (hs : s0.l.length * 32 ≤ 2 ^ 47) (hbs : ∀ e ∈ s0.l, B44 e.args)
    (next : ∀ (is : List LInstr) (a c : S Int) (s : S LEdge), is.map cI = is0.map cI → a.l = a0.l → c.l = c0.l → s.l.map cE = s0.l.map cE → Ex eFunc Q (Head G ov nm ps res rg n ex (bs.set i ⟨p, ⟨ex2, is⟩, ⟨kd, a, c, s, sy⟩⟩) (i + 1))) :
    ∀ (d k : Nat) (is : List LInstr), k + d = m → is.map cI = is0.map cI →
      Ex eFunc Q (k66_3 (K G ov N66) 0 0 0 0 1 1 0 0 2 2 i 0 (n : Int) (i : Int) (m : Int) (k : Int) [false, true, false, true]
        [some (0, .arr 5 [fvO nm ps res rg n ex]), some (1, .arr 5 [gvO]), some (2, .arr 7 ((bs.map eBlock).set i (.agg [eInts p, .sr 3 3 0 m ex2, eI kd, eInts a0, eInts c0, S.enc eEdge s0, eI sy]))), some (3, .arr 8 (is.map eInstr))]) := by
  have hw : ∀ k : Nat, k < 2 ^ 44 → IntKind.wrap .i64 ((k : Int) + 1) = ((k + 1 : Nat) : Int) := fun k h => wrapS h
  have hr5 : ∀ {v : V}, ((bs.map eBlock).set i v)[i]? = some v := fun {v} => by simp [hi]
  intro d
  induction d with
  | zero =>
    intro k is hk he
    refine Ex.pc ok66 (t66_3 G _ _ _ _ _ _ _ _ _ _ _ _ _ _ _ _ _ _ _ _) ?_
    refine Ex.cond (fun h => ?_) fun _ => ?_
    · simp [ltI_eq] at h; omega
    have hes : is.length = m := by rw [cI_len he, hm]
    refine Ex.bnd (finB (s := [3]) (b := ⟨p, ⟨ex2, is⟩, ⟨kd, a0, c0, s0, sy⟩⟩) hi ?_ rfl rfl) ?_
    · refine snap_agg (f := 11) ?_
      refine snL_cons (s := []) rfl (snL_cons (s := [3]) (v' := S.enc eInstr ⟨ex2, is⟩) ?_ (snL_cons (s := []) rfl (snL_cons (s := []) rfl (snL_cons (s := []) rfl (snL_cons (s := []) rfl (snL_cons (s := []) rfl rfl))))))
      refine snap_sr (f := 10) (es := is.map eInstr) (esz := 8) rfl (by simp [hes]) (fun v hv => ?_)
      obtain ⟨e, _, rfl⟩ := List.mem_map.1 hv
      rfl
    exact phaseB (.inl ⟨rfl, rfl⟩) hn hn44 hi ha hc0 hs hbs fun a c s h1 h2 h3 => next is a c s he h1 h2 h3
  | succ d ih =>
    intro k is hk he
    have hes : is.length = m := by rw [cI_len he, hm]
    have hkl : k < is.length := by omega
    refine Ex.pc ok66 (t66_3 G _ _ _ _ _ _ _ _ _ _ _ _ _ _ _ _ _ _ _ _) ?_
    refine Ex.cond (fun h => ?_) fun h => ?_
    · refine Ex.bnd (rsr (ldB hr5 rfl)) (Ex.bnd (ria (es := is.map eInstr) rfl (by show k < m; omega)) ?_)
      refine Ex.bnd (rld sl_inj (x := (is[k].args.ex, is[k].args.l.map eI)) ?_) ?_
      · exact load_row (H := hB 4 0 _ _ _ _ _) rfl hkl rfl
      refine Ex.cal (clone_int is[k].args (cI_args he hb _ (List.getElem_mem hkl))) fun r hr => ?_
      refine Ex.bnd (rsr (ldB hr5 rfl)) (Ex.bnd (ria (es := is.map eInstr) rfl (by show k < m; omega)) ?_)
      refine Ex.bnd (rst (H' := hB 5 1 [false, true, false, true] (fvO nm ps res rg n ex) gvO ((bs.map eBlock).set i (.agg [eInts p, .sr 3 3 0 m ex2, eI kd, eInts a0, eInts c0, S.enc eEdge s0, eI sy])) [some (3, .arr 8 ((is.set k { is[k] with args := r }).map eInstr))]) ?_) ?_
      · exact store_row (e := eInstr) (off := 3) (v := S.enc eI r) (H := hB 4 1 _ _ _ _ _) (x := { is[k] with args := r }) rfl hkl rfl rfl rfl
      show Ex eFunc Q (K G ov N66 _ _ (Hp.can _ 0))
      rw [can4 (ren1_map (eb_ren _) rfl rfl), hw k (by omega)]
      exact ih (k + 1) _ (by omega) (cI_set he hkl hr)
    · simp [ltI_eq] at h; omega

/-- Bounds of a block's parts. -/
structure KBlock (b : LBlock) : Prop where
  params : B44 b.params
  instrs : b.instrs.l.length * 80 ≤ 2 ^ 47
  ins : ∀ i ∈ b.instrs.l, B44 i.args
  args : B44 b.term.args
  cases : B44 b.term.cases
  succs : b.term.succs.l.length * 32 ≤ 2 ^ 47
  edges : ∀ e ∈ b.term.succs.l, B44 e.args
theorem set_self' {bs : List LBlock} {i : Nat} (hi : i < bs.length) : bs.map eBlock = (bs.set i bs[i]).map eBlock := by rw [List.set_getElem_self]

theorem blk_eta (b : LBlock) : (⟨b.params, b.instrs, ⟨b.term.kind, b.term.args, b.term.cases, b.term.succs, b.term.sym⟩⟩ : LBlock) = b := rfl

/-- One block. -/
theorem iterO {Q : LFunc → Prop} {bs : List LBlock} {i : Nat} (hn : n = bs.length) (hn44 : n ≤ 2 ^ 44) (hi : i < bs.length) (hb : KBlock bs[i])
    (next : ∀ b : LBlock, cB b = cB bs[i] → Ex eFunc Q (Head G ov nm ps res rg n ex (bs.set i b) (i + 1))) : Ex eFunc Q (Head G ov nm ps res rg n ex bs i) := by
  refine Ex.pc ok66 (t66_2 G _ _ nm ps res rg 0 n ex ⟨#[]⟩ 0 bs n i) ?_
  refine Ex.cond (fun _ => ?_) fun h => ?_
  · subst hn
    refine Ex.bnd (hri (e := eBlock) rfl hi) ?_
    refine Ex.bnd (hfl (e := eBlock) (enc_inj eI_inj) (x := bs[i].params) rfl hi rfl) ?_
    refine Ex.cal (clone_int bs[i].params hb.params) fun p hp => ?_
    refine Ex.bnd (hfl (e := eBlock) (enc_inj eInstr_inj) (x := bs[i].instrs) rfl hi rfl) ?_
    have fin' : ∀ (is : S LInstr) (a c : S Int) (s : S LEdge), is.l.map cI = bs[i].instrs.l.map cI → a.l = bs[i].term.args.l → c.l = bs[i].term.cases.l → s.l.map cE = bs[i].term.succs.l.map cE → cB ⟨p, is, ⟨bs[i].term.kind, a, c, s, bs[i].term.sym⟩⟩ = cB bs[i] := by
      intro is a c s h1 h2 h3 h4
      simp only [cB, cT, cN, cS, h1, h2, h3, h4, hp]
    rcases clone_instr (G := G) (ov := ov) bs[i].instrs hb.instrs with ⟨hs0, hq⟩ | ⟨hs0, hq⟩
    · refine Ex.bnd hq ?_
      refine Ex.bnd (rst (H' := hB 5 2 [false, true, true] (fvO nm ps res rg bs.length ex) gvO ((bs.set i ⟨p, bs[i].instrs, bs[i].term⟩).map eBlock) []) (store_row (e := eBlock) (off := 0) (v := S.enc eI p) (H := hB 4 2 [false, true, true] (fvO nm ps res rg bs.length ex) gvO (bs.map eBlock) []) (x := ⟨p, bs[i].instrs, bs[i].term⟩) rfl hi rfl rfl rfl)) ?_
      refine Ex.bnd (rst (H' := hB 6 2 [false, true, true] (fvO nm ps res rg bs.length ex) gvO ((bs.set i ⟨p, ⟨true, []⟩, bs[i].term⟩).map eBlock) []) (store_blk (e := eBlock) (off := 1) (v := .sl true []) (H := hB 5 2 [false, true, true] (fvO nm ps res rg bs.length ex) gvO ((bs.set i ⟨p, bs[i].instrs, bs[i].term⟩).map eBlock) []) (x := ⟨p, ⟨true, []⟩, bs[i].term⟩) rfl hi rfl rfl rfl)) ?_
      refine Ex.bnd (rs2r (ex := true) (load_blk (e := eBlock) rfl hi rfl)) ?_
      refine Ex.pc ok66 (t66_3z G _ _ 0 0 0 0 1 1 0 0 2 2 i 0 _ _ _ _ [false, true, true] [some (0, .arr 5 [fvO nm ps res rg bs.length ex]), some (1, .arr 5 [gvO]), some (2, .arr 7 ((bs.set i ⟨p, ⟨true, []⟩, bs[i].term⟩).map eBlock))]) ?_
      refine Ex.cond (fun h => ?_) fun _ => ?_
      · simp [ltI_eq] at h
      have hset : (bs.map eBlock).set i (eBlock ⟨p, ⟨true, []⟩, bs[i].term⟩) = (bs.set i ⟨p, ⟨true, []⟩, bs[i].term⟩).map eBlock := List.map_set.symm
      rw [← hset]
      refine Ex.bnd (finB (c := 3) (e := 0) (fl := [false, true, true]) (s := []) (b := ⟨p, ⟨true, []⟩, bs[i].term⟩) hi rfl rfl rfl) ?_
      exact phaseB (.inr ⟨rfl, rfl⟩) rfl hn44 hi hb.args hb.cases hb.succs hb.edges fun a c s h1 h2 h3 => next _ (fin' ⟨true, []⟩ a c s (by rw [hs0]) h1 h2 h3)
    · refine Ex.bnd hq ?_
      have hr : ∀ {v : V}, ((bs.map eBlock).set i v)[i]? = some v := fun {v} => by simp [hi]
      refine Ex.bnd (rst (H' := hB 6 2 [false, true, true, true] (fvO nm ps res rg bs.length ex) gvO ((bs.set i ⟨p, bs[i].instrs, bs[i].term⟩).map eBlock) [some (4, .arr 8 (bs[i].instrs.l.map eInstr))]) (store_row (e := eBlock) (off := 0) (v := S.enc eI p) (H := hB 5 2 [false, true, true, true] (fvO nm ps res rg bs.length ex) gvO (bs.map eBlock) [some (4, .arr 8 (bs[i].instrs.l.map eInstr))]) (x := ⟨p, bs[i].instrs, bs[i].term⟩) rfl hi rfl rfl rfl)) ?_
      refine Ex.bnd (rst (H' := hB 7 2 [false, true, false, true] (fvO nm ps res rg bs.length ex) gvO (((bs.set i ⟨p, bs[i].instrs, bs[i].term⟩).map eBlock).set i (.agg [eInts p, .sr 3 4 0 bs[i].instrs.l.length false, eI bs[i].term.kind, eInts bs[i].term.args, eInts bs[i].term.cases, S.enc eEdge bs[i].term.succs, eI bs[i].term.sym])) [some (4, .arr 8 (bs[i].instrs.l.map eInstr))])
        (stB (i := i) (off := 1) (l := [eInts p, S.enc eInstr bs[i].instrs, eI bs[i].term.kind, eInts bs[i].term.args, eInts bs[i].term.cases, S.enc eEdge bs[i].term.succs, eI bs[i].term.sym]) (by rw [List.map_set]; exact hr) (by simp) (by simp) rfl rfl)) ?_
      rw [rows_blk]
      refine Ex.bnd (rs2l (s := 3) (st := 4) (off := 0) (len := bs[i].instrs.l.length) (ex := false) (ldB (i := i) (l := [eInts p, .sr 3 4 0 bs[i].instrs.l.length false, eI bs[i].term.kind, eInts bs[i].term.args, eInts bs[i].term.cases, S.enc eEdge bs[i].term.succs, eI bs[i].term.sym]) hr rfl)) ?_
      show Ex eFunc Q (K G ov N66 _ _ (Hp.can _ 0))
      rw [can4 (ren1_map (eb_ren _) rfl rfl)]
      have hl := hb.instrs
      exact loopA rfl hn44 hi rfl hb.ins (by omega) hb.args hb.cases hb.succs hb.edges (fun is a c s h0 h1 h2 h3 => next _ (fin' ⟨false, is⟩ a c s h0 h1 h2 h3)) bs[i].instrs.l.length 0 bs[i].instrs.l (by omega) rfl
  · simp [ltI_eq] at h; omega

structure KFunc (f : LFunc) : Prop where
  params : B44 f.params
  regs : B44 f.regs
  blocks : f.blocks.l.length * 136 ≤ 2 ^ 47
  all : ∀ b ∈ f.blocks.l, KBlock b
theorem kb_of {b b' : LBlock} (h : cB b' = cB b) (hb : KBlock b) : KBlock b' := by
  have h1 : (cB b').params.l = (cB b).params.l := by rw [h]
  have h2 : (cB b').instrs.l = (cB b).instrs.l := by rw [h]
  have h3 : (cB b').term.args.l = (cB b).term.args.l := by rw [h]
  have h4 : (cB b').term.cases.l = (cB b).term.cases.l := by rw [h]
  have h5 : (cB b').term.succs.l = (cB b).term.succs.l := by rw [h]
  have h1 : b'.params.l = b.params.l := h1
  have h2 : b'.instrs.l.map cI = b.instrs.l.map cI := h2
  have h3 : b'.term.args.l = b.term.args.l := h3
  have h4 : b'.term.cases.l = b.term.cases.l := h4
  have h5 : b'.term.succs.l.map cE = b.term.succs.l.map cE := h5
  refine ⟨?_, ?_, cI_args h2 hb.ins, ?_, ?_, ?_, cE_args h5 hb.edges⟩
  · have := hb.params; unfold B44 at this ⊢; rw [h1]; exact this
  · rw [cI_len h2]; exact hb.instrs
  · have := hb.args; unfold B44 at this ⊢; rw [h3]; exact this
  · have := hb.cases; unfold B44 at this ⊢; rw [h4]; exact this
  · rw [cE_len h5]; exact hb.succs
theorem kb_all {bs bs0 : List LBlock} (h : bs.map cB = bs0.map cB) (hb : ∀ b ∈ bs0, KBlock b) : ∀ b ∈ bs, KBlock b := by
  intro b hm
  have : cB b ∈ bs0.map cB := by rw [← h]; exact List.mem_map_of_mem hm
  obtain ⟨b', h1, h2⟩ := List.mem_map.1 this
  exact kb_of h2.symm (hb b' h1)

theorem cloneFunc_c (f : LFunc) (hf : KFunc f) : Cal G ov ⟨LFunc, eFunc⟩ 66 [eFunc f] (fun g => cF g = cF f) := by
  refine con eFunc_inj ok66 (t66 G _ _ f) ?_
  refine Ex.cal (clone_int f.params hf.params) fun ps hp => ?_
  refine Ex.cal (clone_type f.regs hf.regs) fun rg hr => ?_
  rcases clone_block (G := G) (ov := ov) f.blocks hf.blocks with ⟨hs0, hq⟩ | ⟨hs0, hq⟩
  · refine Ex.bnd hq ?_
    refine Ex.pc ok66 (t66_1 G _ _ _ _ _ _ _ _ _ _) ?_
    refine Ex.cond (fun h => ?_) fun _ => ?_
    · simp [ltI_eq] at h
    refine Ex.bnd (snp_eq (s := []) pu0 (w0 G ov) eFunc_inj (a := ⟨f.name, ps, f.result, rg, ⟨true, []⟩⟩) rfl) (Ex.mk ?_)
    simp [cF, cN, cS, hp, hr, hs0]
  · refine Ex.bnd hq ?_
    have hl := hf.blocks
    have main : ∀ (d i : Nat) (bs : List LBlock), i + d = f.blocks.l.length → bs.map cB = f.blocks.l.map cB → Ex eFunc (fun g => cF g = cF f) (Head G ov f.name ps f.result rg f.blocks.l.length false bs i) := by
      intro d
      induction d with
      | zero =>
        intro i bs hi he
        have hlen : bs.length = f.blocks.l.length := by simpa using congrArg List.length he
        refine Ex.pc ok66 (t66_2 G _ _ f.name ps f.result rg 0 _ false ⟨#[]⟩ 0 bs _ i) ?_
        refine Ex.cond (fun h => ?_) fun _ => ?_
        · simp [ltI_eq] at h; omega
        refine Ex.bnd (snp_eq (s := [2]) pu0 (w0 G ov) eFunc_inj (a := ⟨f.name, ps, f.result, rg, ⟨false, bs⟩⟩) ?_) (Ex.mk ?_)
        · refine snap_agg (f := 11) ?_
          refine snL_cons (s := []) rfl (snL_cons (s := []) rfl (snL_cons (s := []) rfl (snL_cons (s := []) rfl (snL_cons (s := [2]) (v' := S.enc eBlock ⟨false, bs⟩) ?_ rfl))))
          refine snap_sr (f := 10) (es := bs.map eBlock) (esz := 7) rfl (by simp [hlen]) (fun v hv => ?_)
          obtain ⟨e, _, rfl⟩ := List.mem_map.1 hv
          rfl
        · simp [cF, cN, cS, hp, hr, he]
      | succ d ih =>
        intro i bs hi he
        have hlen : bs.length = f.blocks.l.length := by simpa using congrArg List.length he
        have hil : i < bs.length := by omega
        refine iterO hlen.symm (by omega) hil (kb_all he hf.all _ (List.getElem_mem hil)) fun b hb => ih (i + 1) _ (by omega) ?_
        rw [List.map_set, hb, ← he]
        have : cB bs[i] = (bs.map cB)[i]'(by simpa using hil) := by simp
        rw [this, List.set_getElem_self]
    exact main f.blocks.l.length 0 f.blocks.l (by omega) rfl
end
end Go.Proofs.YtapkmhneneffdaaGreatDoor.M3.T

/-! The text ZahQ. -/
namespace Go.Proofs.YtapkmhneneffdaaGreatDoor.M3.T
open Go Go.Proofs.YtapkmhneneffdaaGreatDoor.Mx Go.Proofs.YtapkmhneneffdaaGreatDoor.M3
set_option maxRecDepth 10000
abbrev N27 := n27
structure KMod (m : LModule) : Prop where
  globals : m.globals.l.length * 64 ≤ 2 ^ 47
  inits : ∀ g ∈ m.globals.l, B44 g.init
  funcs : m.funcs.l.length * 96 ≤ 2 ^ 47
  all : ∀ f ∈ m.funcs.l, KFunc f
section
variable {G : Gl} {ov : Nat → List V → Option V}

theorem eModule_inj (a b : LModule) (h : eModule a = eModule b) : a = b := by
  cases a; cases b
  simp only [eModule, V.agg.injEq, List.cons.injEq, and_true] at h
  rw [enc_inj eGlobal_inj _ _ h.1, enc_inj eFunc_inj _ _ h.2]
theorem cG_set {es es' : List LGlobal} {k : Nat} {r : S Int} (h : es'.map cG = es.map cG) (hk : k < es'.length) (hr : r.l = es'[k].init.l) : (es'.set k { es'[k] with init := r }).map cG = es.map cG := by
  rw [List.map_set, ← h]
  have : cG { es'[k] with init := r } = (es'.map cG)[k]'(by simpa using hk) := by simp [cG, cN, hr]
  rw [this, List.set_getElem_self]
theorem cG_args {es es' : List LGlobal} (h : es'.map cG = es.map cG) (hb : ∀ e ∈ es, B44 e.init) : ∀ e ∈ es', B44 e.init := by
  intro e he
  have : cG e ∈ es.map cG := by rw [← h]; exact List.mem_map_of_mem he
  obtain ⟨e', h1, h2⟩ := List.mem_map.1 this
  have h3 : (cG e').init.l = (cG e).init.l := congrArg (fun x : LGlobal => x.init.l) h2
  have h3 : e'.init.l = e.init.l := h3
  have := hb e' h1
  unfold B44 at this ⊢
  rw [← h3]; exact this
theorem kf_of {f f' : LFunc} (h : cF f' = cF f) (hb : KFunc f) : KFunc f' := by
  have h1 : (cF f').params.l = (cF f).params.l := by rw [h]
  have h2 : (cF f').regs.l = (cF f).regs.l := by rw [h]
  have h3 : (cF f').blocks.l = (cF f).blocks.l := by rw [h]
  have h1 : f'.params.l = f.params.l := h1
  have h2 : f'.regs.l = f.regs.l := h2
  have h3 : f'.blocks.l.map cB = f.blocks.l.map cB := h3
  have h4 : f'.blocks.l.length = f.blocks.l.length := by simpa using congrArg List.length h3
  refine ⟨?_, ?_, ?_, kb_all h3 hb.all⟩
  · have := hb.params; unfold B44 at this ⊢; rw [h1]; exact this
  · have := hb.regs; unfold B44 at this ⊢; rw [h2]; exact this
  · rw [h4]; exact hb.blocks
theorem kf_all {bs bs0 : List LFunc} (h : bs.map cF = bs0.map cF) (hb : ∀ b ∈ bs0, KFunc b) : ∀ b ∈ bs, KFunc b := by
  intro b hm
  have : cF b ∈ bs0.map cF := by rw [← h]; exact List.mem_map_of_mem hm
  obtain ⟨b', h1, h2⟩ := List.mem_map.1 this
  exact kf_of h2.symm (hb b' h1)
theorem cF_set {es es' : List LFunc} {k : Nat} {r : LFunc} (h : es'.map cF = es.map cF) (hk : k < es'.length) (hr : cF r = cF es'[k]) : (es'.set k r).map cF = es.map cF := by
  rw [List.map_set, hr, ← h]
  have : cF es'[k] = (es'.map cF)[k]'(by simpa using hk) := by simp
  rw [this, List.set_getElem_self]

/-- The functions, no globals. -/
theorem loop4 {m : LModule} (hm : KMod m) (hg : m.globals.l = []) : ∀ (d i : Nat) (fs : List LFunc), i + d = m.funcs.l.length → fs.map cF = m.funcs.l.map cF →
    Ex eModule (fun x => cM x = cM m) (k27_4 (K G ov N27) 0 m.funcs.l.length false fs (m.funcs.l.length : Int) (i : Int)) := by
  have hl := hm.funcs
  intro d
  induction d with
  | zero =>
    intro i fs hi he
    have hlen : fs.length = m.funcs.l.length := by simpa using congrArg List.length he
    refine Ex.pc ok27 (t27_4 G _ _ _ _ _ _ _ _) ?_
    refine Ex.cond (fun h => ?_) fun _ => ?_
    · simp [ltI_eq] at h; omega
    refine Ex.bnd (snp_eq (s := [2]) pu0 (w0 G ov) eModule_inj (a := ⟨⟨true, []⟩, ⟨false, fs⟩⟩) ?_) (Ex.mk ?_)
    · refine snap_agg (f := 11) ?_
      refine snL_cons (s := []) rfl (snL_cons (s := [2]) (v' := S.enc eFunc ⟨false, fs⟩) ?_ rfl)
      refine snap_sr (f := 10) (es := fs.map eFunc) (esz := 5) rfl (by simp [hlen]) (fun v hv => ?_)
      obtain ⟨e, _, rfl⟩ := List.mem_map.1 hv
      rfl
    · simp [cM, cS, he, hg]
  | succ d ih =>
    intro i fs hi he
    have hlen : fs.length = m.funcs.l.length := by simpa using congrArg List.length he
    have hil : i < fs.length := by omega
    refine Ex.pc ok27 (t27_4 G _ _ _ _ _ _ _ _) ?_
    refine Ex.cond (fun _ => ?_) fun h => ?_
    · rw [← hlen]
      refine Ex.bnd (hri (e := eFunc) rfl hil) ?_
      refine Ex.bnd (hfw (e := eFunc) eFunc_inj (x := fs[i]) rfl hil rfl) ?_
      refine Ex.cal (cloneFunc_c fs[i] (kf_all he hm.all _ (List.getElem_mem hil))) fun r hr => ?_
      refine Ex.bnd (hri (e := eFunc) rfl hil) ?_
      refine Ex.bnd (hst (e := eFunc) eFunc_inj (x := r) rfl hil rfl rfl rfl rfl) ?_
      rw [wrapS (by omega), hlen]
      exact ih (i + 1) _ (by omega) (cF_set he hil hr)
    · simp [ltI_eq] at h; omega

/-- The functions behind the globals. -/
theorem loop6 {m : LModule} (hm : KMod m) {gs : List LGlobal} (hg : gs.map cG = m.globals.l.map cG) : ∀ (d i : Nat) (fs : List LFunc), i + d = m.funcs.l.length → fs.map cF = m.funcs.l.map cF →
    Ex eModule (fun x => cM x = cM m) (k27_6 (K G ov N27) 0 m.globals.l.length false 0 m.funcs.l.length false gs fs (m.funcs.l.length : Int) (i : Int)) := by
  have hl := hm.funcs
  have hgl : gs.length = m.globals.l.length := by simpa using congrArg List.length hg
  intro d
  induction d with
  | zero =>
    intro i fs hi he
    have hlen : fs.length = m.funcs.l.length := by simpa using congrArg List.length he
    refine Ex.pc ok27 (t27_6 G _ _ _ _ _ _ _ _ _ _ _ _) ?_
    refine Ex.cond (fun h => ?_) fun _ => ?_
    · simp [ltI_eq] at h; omega
    refine Ex.bnd (snp_eq (s := [2, 3]) pu0 (w0 G ov) eModule_inj (a := ⟨⟨false, gs⟩, ⟨false, fs⟩⟩) ?_) (Ex.mk ?_)
    · refine snap_agg (f := 11) ?_
      refine snL_cons (s := [2]) (v' := S.enc eGlobal ⟨false, gs⟩) ?_ (snL_cons (s := [3]) (v' := S.enc eFunc ⟨false, fs⟩) ?_ rfl)
      · refine snap_sr (f := 10) (es := gs.map eGlobal) (esz := 5) rfl (by simp [hgl]) (fun v hv => ?_)
        obtain ⟨e, _, rfl⟩ := List.mem_map.1 hv
        rfl
      · refine snap_sr (f := 10) (es := fs.map eFunc) (esz := 5) rfl (by simp [hlen]) (fun v hv => ?_)
        obtain ⟨e, _, rfl⟩ := List.mem_map.1 hv
        rfl
    · simp [cM, cS, he, hg]
  | succ d ih =>
    intro i fs hi he
    have hlen : fs.length = m.funcs.l.length := by simpa using congrArg List.length he
    have hil : i < fs.length := by omega
    refine Ex.pc ok27 (t27_6 G _ _ _ _ _ _ _ _ _ _ _ _) ?_
    refine Ex.cond (fun _ => ?_) fun h => ?_
    · rw [← hlen]
      refine Ex.bnd (hri (e := eFunc) rfl hil) ?_
      refine Ex.bnd (hfw (e := eFunc) eFunc_inj (x := fs[i]) rfl hil rfl) ?_
      refine Ex.cal (cloneFunc_c fs[i] (kf_all he hm.all _ (List.getElem_mem hil))) fun r hr => ?_
      refine Ex.bnd (hri (e := eFunc) rfl hil) ?_
      refine Ex.bnd (hst (e := eFunc) eFunc_inj (x := r) rfl hil rfl rfl rfl rfl) ?_
      rw [wrapS (by omega), hlen]
      exact ih (i + 1) _ (by omega) (cF_set he hil hr)
    · simp [ltI_eq] at h; omega

/-- The globals. -/
theorem loop2 {m : LModule} (hm : KMod m) : ∀ (d i : Nat) (gs : List LGlobal), i + d = m.globals.l.length → gs.map cG = m.globals.l.map cG →
    Ex eModule (fun x => cM x = cM m) (k27_2 (K G ov N27) 0 m.globals.l.length false m.funcs gs (m.globals.l.length : Int) (i : Int)) := by
  have hl := hm.globals
  intro d
  induction d with
  | zero =>
    intro i gs hi he
    have hlen : gs.length = m.globals.l.length := by simpa using congrArg List.length he
    refine Ex.pc ok27 (t27_2 G _ _ _ _ _ _ _ _ _) ?_
    refine Ex.cond (fun h => ?_) fun _ => ?_
    · simp [ltI_eq] at h; omega
    rcases clone_func (G := G) (ov := ov) m.funcs hm.funcs with ⟨hs0, hq⟩ | ⟨hs0, hq⟩
    · refine Ex.bnd hq ?_
      refine Ex.pc ok27 (t27_5 G _ _ _ _ _ _ _ _) ?_
      refine Ex.cond (fun h => ?_) fun _ => ?_
      · simp [ltI_eq] at h
      refine Ex.bnd (snp_eq (s := [2]) pu0 (w0 G ov) eModule_inj (a := ⟨⟨false, gs⟩, ⟨true, []⟩⟩) ?_) (Ex.mk ?_)
      · refine snap_agg (f := 11) ?_
        refine snL_cons (s := [2]) (v' := S.enc eGlobal ⟨false, gs⟩) ?_ (snL_cons (s := []) rfl rfl)
        refine snap_sr (f := 10) (es := gs.map eGlobal) (esz := 5) rfl (by simp [hlen]) (fun v hv => ?_)
        obtain ⟨e, _, rfl⟩ := List.mem_map.1 hv
        rfl
      · simp [cM, cS, he, hs0]
    · exact Ex.bnd hq (loop6 hm he m.funcs.l.length 0 m.funcs.l (by omega) rfl)
  | succ d ih =>
    intro i gs hi he
    have hlen : gs.length = m.globals.l.length := by simpa using congrArg List.length he
    have hil : i < gs.length := by omega
    refine Ex.pc ok27 (t27_2 G _ _ _ _ _ _ _ _ _) ?_
    refine Ex.cond (fun _ => ?_) fun h => ?_
    · rw [← hlen]
      refine Ex.bnd (hri (e := eGlobal) rfl hil) ?_
      refine Ex.bnd (hfl (e := eGlobal) (enc_inj eI_inj) (x := gs[i].init) rfl hil rfl) ?_
      refine Ex.cal (clone_int64 gs[i].init (cG_args he hm.inits _ (List.getElem_mem hil))) fun r hr => ?_
      refine Ex.bnd (hri (e := eGlobal) rfl hil) ?_
      refine Ex.bnd (hst (e := eGlobal) eGlobal_inj (x := { gs[i] with init := r }) rfl hil rfl rfl rfl rfl) ?_
      rw [wrapS (by omega), hlen]
      exact ih (i + 1) _ (by omega) (cG_set he hil hr)
    · simp [ltI_eq] at h; omega

theorem clone_c (m : LModule) (hm : KMod m) : Cal G ov ⟨LModule, eModule⟩ 27 [eModule m] (fun x => cM x = cM m) := by
  refine con eModule_inj ok27 (t27 G _ _ m) ?_
  rcases clone_global (G := G) (ov := ov) m.globals hm.globals with ⟨hs0, hq⟩ | ⟨hs0, hq⟩
  · refine Ex.bnd hq ?_
    refine Ex.pc ok27 (t27_1 G _ _ _ _ _) ?_
    refine Ex.cond (fun h => ?_) fun _ => ?_
    · simp [ltI_eq] at h
    rcases clone_func (G := G) (ov := ov) m.funcs hm.funcs with ⟨hs1, hq1⟩ | ⟨hs1, hq1⟩
    · refine Ex.bnd hq1 ?_
      refine Ex.pc ok27 (t27_3 G _ _ _ _) ?_
      refine Ex.cond (fun h => ?_) fun _ => ?_
      · simp [ltI_eq] at h
      refine Ex.bnd (snp_eq (s := []) pu0 (w0 G ov) eModule_inj (a := ⟨⟨true, []⟩, ⟨true, []⟩⟩) rfl) (Ex.mk ?_)
      simp [cM, cS, hs0, hs1]
    · exact Ex.bnd hq1 (loop4 hm hs0 m.funcs.l.length 0 m.funcs.l (by omega) rfl)
  · exact Ex.bnd hq (loop2 hm m.globals.l.length 0 m.globals.l (by omega) rfl)
end
end Go.Proofs.YtapkmhneneffdaaGreatDoor.M3.T
