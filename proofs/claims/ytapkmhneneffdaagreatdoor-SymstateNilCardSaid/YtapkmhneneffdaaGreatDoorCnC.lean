/- A part of the proof that the law answers true at every input: the texts ZahI, ZahJ, ZahK; no conditions. -/
import Derived.Test.YtapkmhneneffdaaGreatDoorCnB
set_option linter.unusedSimpArgs false
set_option linter.unusedVariables false
set_option linter.constructorNameAsVariable false

/-! The text ZahI. -/
namespace Go.Proofs.YtapkmhneneffdaaGreatDoor.M3.T
open Go Go.Proofs.YtapkmhneneffdaaGreatDoor.Mx Go.Proofs.YtapkmhneneffdaaGreatDoor.M3
set_option maxRecDepth 10000
section
variable {G : Gl} {ov : Nat → List V → Option V}

theorem allE_map {α : Type} {e : α → V} {esz : Nat} (hs : ∀ a, (e a).cells.length = esz) (l : List α) : allE esz (l.map e) = true := by
  unfold allE
  rw [List.all_map, List.all_eq_true]
  intro a _
  simp [hs a]
theorem lt_ff {a b : Bool} (h : a = true) (h' : b = false) : a = b → False := by rw [h, h']; intro h; cases h

/-- A row grows by what may be nothing. -/
theorem happ2 {α : Type} {e : α → V} (he : ∀ a b, e a = e b → a = b) {k ty esz bytes : Nat} {pure : Bool} (hs : ∀ a, (e a).cells.length = esz) (hb : bytes ≤ 65536) {p q : Opd} {l : List α} {x : S α} {slot st : Nat} {ex : Bool} {H : Hp} (hat : H.at slot st = some (.arr esz (l.map e))) (hx : ex = true) (hl : l.length + x.l.length ≤ 2 ^ 30) :
    (x.l = [] ∧ (q0 G ov).h2 idH (apH esz e) (.append k ty esz bytes pure p q) [.sr slot st 0 l.length ex, S.enc e x] H = some (.inl ())) ∨ (q0 G ov).h2 idH (apH esz e) (.append k ty esz bytes pure p q) [.sr slot st 0 l.length ex, S.enc e x] H = some (.inr (l ++ x.l)) := by
  have inj : ∀ (a b : Unit ⊕ List α), Sum.elim (idH.res [.sr slot st 0 l.length ex, S.enc e x] H) ((apH esz e).res [.sr slot st 0 l.length ex, S.enc e x] H) a = Sum.elim (idH.res [.sr slot st 0 l.length ex, S.enc e x] H) ((apH esz e).res [.sr slot st 0 l.length ex, S.enc e x] H) b → a = b := by
    intro a b hab
    rcases a with a | a <;> rcases b with b | b
    · rfl
    · exfalso
      have h1 : V.sr slot st 0 l.length ex = V.sr slot H.clock 0 b.length false := congrArg Prod.fst hab
      rw [hx] at h1
      exact absurd (V.sr.inj h1).2.2.2.2 (by decide)
    · exfalso
      have h1 : V.sr slot H.clock 0 a.length false = V.sr slot st 0 l.length ex := congrArg Prod.fst hab
      rw [hx] at h1
      exact absurd (V.sr.inj h1).2.2.2.2 (by decide)
    · have hab2 : H.obs.set slot (some (H.clock, .arr esz (a.map e))) = H.obs.set slot (some (H.clock, .arr esz (b.map e))) := congrArg (fun r : V × Hp => r.2.obs) hab
      have hlt : slot < H.obs.length := by
        unfold Hp.at at hat
        split at hat
        · rename_i hh; exact (List.getElem?_eq_some_iff.1 hh).1
        · cases hat
      have := congrArg (fun o => o[slot]?) hab2
      simp only [List.getElem?_set_self hlt, Option.some.injEq, Prod.mk.injEq, true_and, Ob.arr.injEq] at this
      rw [map_inj he this]
  have row : H.row esz (S.enc e x) = some (x.l.map e) := by simp only [S.enc, Hp.row, allE_map hs, if_true]
  by_cases hn : x.l = []
  · refine .inl ⟨hn, op2_eq pu0 (w0 G ov) inj ?_⟩
    simp only [opR, Hp.append, row, hat, hn, List.map_nil, List.isEmpty_nil, if_true, bnd, idH, Sum.elim_inl]
  · refine .inr (op2_eq pu0 (w0 G ov) inj ?_)
    have hne : (x.l.map e).isEmpty = false := by simp [hn]
    have hb1 : (l.length + x.l.length) * bytes ≤ 2 ^ 47 := Nat.le_trans (Nat.mul_le_mul hl hb) (by decide)
    have hb2 : l.length + x.l.length ≤ 2 ^ 46 := Nat.le_trans hl (by decide)
    simp only [opR, Hp.append, row, hat, hne, Bool.false_eq_true, if_false, List.length_map, Nat.zero_add, Nat.le_refl, hx, hb1, hb2, and_self, imp_self, implies_true, if_true, bnd, apH, Sum.elim_inr, List.drop_zero, List.length_append, List.map_append, true_and]
    rw [List.take_of_length_le (by simp)]
/-- A place in a row. -/
theorem hri {α : Type} {e : α → V} {esz : Nat} {p q : Opd} {l : List α} {slot st : Nat} {ex : Bool} {H : Hp} {k : Nat} (hat : H.at slot st = some (.arr esz (l.map e))) (hk : k < l.length) : (q0 G ov).h riH (.iaddr esz p q) [.sr slot st 0 l.length ex, eI (k : Int)] H = some k := by
  refine op_eq pu0 (w0 G ov) (fun a b hab => by have := congrArg Prod.fst hab; exact (V.pr.inj this).2.2.1) ?_
  simp only [opR, iaddr3, eI, hat, riH]
  rw [if_pos (by omega)]
  simp [bnd]
/-- A plain element of a row. -/
theorem hld {α : Type} {e : α → V} (he : ∀ a b, e a = e b → a = b) (hs : ∀ a, (e a).cells = [e a]) {esz : Nat} {p : Opd} {l : List α} {slot st : Nat} {H : Hp} {k : Nat} (hat : H.at slot st = some (.arr esz (l.map e))) (hk : k < l.length) : (q0 G ov).h (vlH e) (.load false 1 p) [.pr slot st k 0] H = some l[k] := by
  refine op_eq pu0 (w0 G ov) (fun a b hab => by simp only [vlH, Prod.mk.injEq, and_true] at hab; exact he _ _ hab) ?_
  simp only [opR, Hp.load, hat, vlH, List.getElem?_map, List.getElem?_eq_getElem hk, Option.map_some, sub, hs]
  rfl

/-- The heap behind the copy of the operands. -/
abbrev hR (l : List Int) : Hp := ⟨1, 0, [true], [some (0, .arr 1 (l.map eI))]⟩

theorem check_c (i : LInstr) (f : LFunc) (m : LModule) (hm : ∀ g ∈ m.funcs.l, g.params.l.length ≤ 6) (hB : B44 i.args) : Cal G ov enI 89 [eInstr i, eFunc f, eModule m] (fun _ => True) := by
  refine con eI_inj ok89 (t89 G _ _ i f m) ?_
  -- behind the operands
  have p14 : ∀ y b, Ex eI (fun _ => True) (k89_14 (K G ov n89) y b) := fun y b => by
    refine Ex.pc ok89 (t89_14 G _ _ y b) ?_
    exact Ex.cond (fun _ => Ex.mk trivial) fun _ => Ex.mk trivial
  have p9 : ArgsOk f i.args → (i.op = 33 → i.args.l.length = 1) → ∀ y, Ex eI (fun _ => True) (k89_9 (K G ov n89) y i f) := by
    intro hA h33 y
    have p13 : Ex eI (fun _ => True) (k89_13 (K G ov n89) y i f) := by
      refine Ex.pc ok89 (t89_13 G _ _ y i f) ?_
      refine Ex.cond (fun h => Ex.cond (fun _ => p14 _ _) fun _ => Ex.cond (fun _ => p14 _ _) fun _ => Ex.cond (fun _ => ?_) fun _ => p14 _ _) fun _ => p14 _ _
      have h1 := h33 (et h)
      obtain ⟨a, b⟩ := hA 0 (by omega)
      exact Ex.bnd (hixn (k := 0) eI_inj en1 (by omega)) (Ex.bnd (hix eI_inj en1 a (by omega)) (Ex.cond (fun _ => p14 _ _) fun _ => p14 _ _))
    have p12 : ∀ b, Ex eI (fun _ => True) (k89_12 (K G ov n89) y i f b) := fun b => by
      refine Ex.pc ok89 (t89_12 G _ _ y i f b) ?_
      exact Ex.cond (fun _ => Ex.mk trivial) fun _ => p13
    have p11 : Ex eI (fun _ => True) (k89_11 (K G ov n89) y i f) := by
      refine Ex.pc ok89 (t89_11 G _ _ y i f) ?_
      repeat' first | exact p12 _ | refine Ex.cal (wrap_c _ _) fun _ _ => ?_ | refine Ex.cond (fun h => ?_) (fun h => ?_)
    have p10 : ∀ b, Ex eI (fun _ => True) (k89_10 (K G ov n89) y i f b) := fun b => by
      refine Ex.pc ok89 (t89_10 G _ _ y i f b) ?_
      exact Ex.cond (fun _ => Ex.mk trivial) fun _ => p11
    refine Ex.pc ok89 (t89_9 G _ _ y i f) ?_
    refine Ex.cal (access_c _) fun _ _ => ?_
    repeat' first | exact p10 _ | refine Ex.cond (fun h => ?_) (fun h => ?_)
  -- the operands' types
  have p7 : ArgsOk f i.args → (i.op = 33 → i.args.l.length = 1) → IOk m i.op i.sym → (i.op = 30 → ∀ g, m.funcs.l[i.sym.toNat]? = some g → i.args.l.length = g.params.l.length) → i.dst < f.regs.l.length → ∀ y x, Ex eI (fun _ => True) (k89_7 (K G ov n89) y i f m x i.args ((i.args.l.map eI).length : Int) 0) := by
    intro hA h33 hO h30 hD y x
    have p8 : ∀ b, Ex eI (fun _ => True) (k89_8 (K G ov n89) y i f b) := fun b => by
      refine Ex.pc ok89 (t89_8 G _ _ y i f b) ?_
      exact Ex.cond (fun _ => Ex.mk trivial) fun _ => p9 hA h33 y
    have dst : ∀ (a b : Opd) (H : Hp), ltI i.dst 0 = false → ∃ n, (q0 G ov).h (ixH eI) (.iaddr 1 a b) [S.enc eI f.regs, eI i.dst] H = some n ∧ True := fun a b H h => by
      simp [ltI_eq] at h
      exact ⟨_, hix eI_inj en1 h (by omega), trivial⟩
    refine Ex.range (I := fun _ => True) i.args.l.length (fun k => k89_7 (K G ov n89) y i f m x i.args ((i.args.l.map eI).length : Int) (k : Int)) trivial (fun k hk _ ih => ?_) (fun _ => ?_)
    · refine Ex.pc ok89 (t89_7 G _ _ y i f m x i.args _ _) ?_
      rw [wrapS (by omega)]
      refine Ex.cond (fun _ => ?_) fun h => ?_
      · obtain ⟨a0, a1⟩ := hA k hk
        obtain ⟨b0, b1⟩ := hA 0 (by omega)
        exact Ex.bnd (hixn eI_inj en1 hk) (Ex.bnd (hix eI_inj en1 a0 (by omega)) (Ex.bnd (hixn (k := 0) eI_inj en1 (by omega)) (Ex.bnd (hix eI_inj en1 b0 (by omega)) (Ex.cal (operand_c i m hO k (fun h g hg => by have := h30 h g hg; omega) _ _) fun _ _ => Ex.cond (fun _ => ih trivial) fun _ => Ex.mk trivial))))
      · simp [ltI_eq] at h; omega
    · refine Ex.pc ok89 (t89_7 G _ _ y i f m x i.args _ _) ?_
      refine Ex.cond (fun h => ?_) fun _ => ?_
      · simp [ltI_eq] at h
      · repeat' first
          | exact p8 _
          | exact Ex.mk trivial
          | (refine Ex.cal (dst _ _ _ (by simpa using (by assumption : (!(ltI i.dst 0)) = true))) fun _ _ => ?_)
          | refine Ex.cond (fun h => ?_) (fun h => ?_)
  -- the loop over the copy
  have p6 : (i.op = 33 → i.args.l.length = 1) → IOk m i.op i.sym → (i.op = 30 → ∀ g, m.funcs.l[i.sym.toNat]? = some g → i.args.l.length = g.params.l.length) → ∀ x b, Ex eI (fun _ => True) (k89_6 (K G ov n89) i.args.l i f m x b (i.args.l.length : Int) 0) := by
    intro h33 hO h30 x b
    refine Ex.range (I := fun k => ∀ j (h : j < i.args.l.length), j < k → 0 ≤ i.args.l[j] ∧ i.args.l[j] < f.regs.l.length) i.args.l.length (fun k => k89_6 (K G ov n89) i.args.l i f m x b (i.args.l.length : Int) (k : Int)) (fun _ _ h => by omega) (fun k hk hi ih => ?_) (fun hi => ?_)
    · refine Ex.pc ok89 (t89_6 G _ _ i.args.l i f m x b _ _) ?_
      rw [wrapS (by omega)]
      refine Ex.cond (fun _ => Ex.bnd (hri (e := eI) rfl hk) (Ex.bnd (hld eI_inj (fun _ => rfl) rfl hk) (Ex.cond (fun _ => Ex.mk trivial) fun c1 => Ex.cond (fun _ => Ex.mk trivial) fun c2 => ih fun j hj hjk => ?_))) fun h => ?_
      · simp [ltI_eq] at c1 c2
        by_cases e : j = k
        · subst e; exact ⟨c1, c2⟩
        · exact hi j hj (by omega)
      · simp [ltI_eq] at h; omega
    · refine Ex.pc ok89 (t89_6 G _ _ i.args.l i f m x b _ _) ?_
      have hA : ArgsOk f i.args := fun j h => hi j h h
      refine Ex.cond (fun h => ?_) fun _ => ?_
      · simp [ltI_eq] at h
      · have cont : i.dst < f.regs.l.length → Ex eI (fun _ => True) (bnd ((q0 G ov).c enB 127 [eInstr i, eModule m]) fun r => bif r then (k89_7 (K G ov n89) i.args.l i f m x i.args ((i.args.l.map eI).length : Int) 0) else (some (eI 9))) := fun hD => Ex.cal (result_c i m hO) fun _ _ => Ex.cond (fun _ => p7 hA h33 hO h30 hD _ _) fun _ => Ex.mk trivial
        refine Ex.cond (fun _ => Ex.mk trivial) fun _ => Ex.cond (fun _ => Ex.mk trivial) fun h => cont ?_
        simp [ltI_eq] at h; omega
  have p5 : IOk m i.op i.sym → ∀ x, Ex eI (fun _ => True) (k89_5 (K G ov n89) i f m x) := by
    intro hO x
    refine Ex.pc ok89 (t89_5 G _ _ i f m x) ?_
    refine Ex.cal (count_c i m hO) fun r hr => Ex.cond (fun h => Ex.cond (fun _ => Ex.mk trivial) fun hc => ?_) fun _ => Ex.mk trivial
    obtain ⟨r30, r33, r4⟩ := hr h
    simp [eqI_eq] at hc
    have h30 : i.op = 30 → ∀ g, m.funcs.l[i.sym.toNat]? = some g → i.args.l.length = g.params.l.length := fun h g hg => by have := r30 h g hg; omega
    have h33 : i.op = 33 → i.args.l.length = 1 := fun h => by have := r33 h; omega
    have hl : i.args.l.length ≤ 6 := by
      by_cases h : i.op = 30
      · obtain ⟨a, b⟩ := hO h
        have := h30 h _ (List.getElem?_eq_getElem b)
        have := hm _ (List.getElem_mem b)
        omega
      · have := r4 h; omega
    rcases happ2 (G := G) (ov := ov) (e := eI) eI_inj (esz := 1) en1 (bytes := 8) (by decide) (l := []) (x := i.args) (slot := 0) (st := 0) (ex := true) (H := ⟨1, 0, [true], [some (0, .arr 1 [])]⟩) (k := 1) (ty := 3) (pure := false) (p := .t 137) (q := .t 139) rfl rfl (by simp; omega) with ⟨hn, ha⟩ | ha
    · refine Ex.bnd ha ?_
      have := p6 h33 hO h30 x true
      rw [hn] at this
      exact this
    · refine Ex.bnd ha ?_
      exact p6 h33 hO h30 x false
  have p4 : ∀ b x, (b = false → IOk m i.op i.sym) → Ex eI (fun _ => True) (k89_4 (K G ov n89) i f m x b) := fun b x hb => by
    refine Ex.pc ok89 (t89_4 G _ _ i f m x b) ?_
    exact Ex.cond (fun _ => Ex.mk trivial) fun h => p5 (hb h) x
  have p3 : ∀ x, Ex eI (fun _ => True) (k89_3 (K G ov n89) i f m x) := fun x => by
    refine Ex.pc ok89 (t89_3 G _ _ i f m x) ?_
    have t4 : Ex eI (fun _ => True) (k89_4 (K G ov n89) i f m x true) := p4 true x (fun h => by cases h)
    have in30 : Ex eI (fun _ => True) (bif eqI i.op 30 then (bif ltI i.sym 0 then (k89_4 (K G ov n89) i f m x true) else (bif !(ltI i.sym ((m.funcs.l.map eFunc).length : Int)) then (k89_4 (K G ov n89) i f m x true) else (k89_4 (K G ov n89) i f m x false))) else (k89_4 (K G ov n89) i f m x false)) := by
      refine Ex.cond (fun _ => Ex.cond (fun _ => t4) fun h1 => Ex.cond (fun _ => t4) fun h2 => p4 _ _ fun _ _ => ?_) fun h => p4 _ _ fun _ h' => absurd h' (ef h)
      simp [ltI_eq] at h1 h2; omega
    exact Ex.cond (fun _ => Ex.cond (fun _ => t4) fun _ => Ex.cond (fun _ => t4) fun _ => in30) fun _ => in30
  have p2 : ∀ x b, Ex eI (fun _ => True) (k89_2 (K G ov n89) i f m x b) := fun x b => by
    refine Ex.pc ok89 (t89_2 G _ _ i f m x b) ?_
    exact Ex.cond (fun _ => Ex.mk trivial) fun _ => p3 x
  have p1 : ∀ x b, Ex eI (fun _ => True) (k89_1 (K G ov n89) i f m x b) := fun x b => by
    refine Ex.pc ok89 (t89_1 G _ _ i f m x b) ?_
    repeat' first | exact p2 _ _ | refine Ex.cond (fun h => ?_) (fun h => ?_)
  repeat' first | exact Ex.mk trivial | exact p1 _ _ | refine Ex.cond (fun h => ?_) (fun h => ?_)
end
end Go.Proofs.YtapkmhneneffdaaGreatDoor.M3.T

/-! The text ZahJ. -/
namespace Go.Proofs.YtapkmhneneffdaaGreatDoor.M3.T
open Go Go.Proofs.YtapkmhneneffdaaGreatDoor.Mx Go.Proofs.YtapkmhneneffdaaGreatDoor.M3
set_option maxRecDepth 10000
section
variable {G : Gl} {ov : Nat → List V → Option V}

/-- The edges of a function lead to its blocks. -/
def EOk (f : LFunc) : Prop := ∀ b ∈ f.blocks.l, ∀ e ∈ b.term.succs.l, 0 < e.block ∧ e.block < f.blocks.l.length
/-- Small enough. -/
def FOk2 (f : LFunc) : Prop := 0 < f.blocks.l.length ∧ f.blocks.l.length ≤ 400 ∧ EOk f

theorem body_c (m : LModule) (j : Nat) (hj : j < m.funcs.l.length) (hB : BMod m) (hm : ∀ g ∈ m.funcs.l, g.params.l.length ≤ 6) : Cal G ov enD 50 [eModule m, eI (j : Int)] (fun d => d.code = 0 → FOk2 m.funcs.l[j]) := by
  refine con eDiag_inj ok50 (t50 G _ _ m j) ?_
  refine Ex.bnd (hixn eFunc_inj s5 hj) ?_
  obtain ⟨f, hf⟩ : ∃ f, f = m.funcs.l[j] := ⟨_, rfl⟩
  rw [← hf]
  have hF : BFunc f := hB.all f (by rw [hf]; exact List.getElem_mem hj)
  have hb := hF.blocks
  have bad : ∀ (a b c d e : Int), a ≠ 0 → Ex eDiag (fun d : LDiag => d.code = 0 → FOk2 f) (bnd ((q0 G ov).c enD 85 [eI a, eI b, eI c, eI d, eI e]) fun r => some (eDiag r)) := fun a b c d e ha => Ex.cal (diag_c a b c d e) fun x hx => Ex.mk fun h => absurd h (by rw [hx]; exact ha)
  -- a block
  have two : 0 < f.blocks.l.length → f.blocks.l.length ≤ 400 → Ex eDiag (fun d : LDiag => d.code = 0 → FOk2 f) (k50_2 (K G ov n50) 0 0 0 0 0 j m f f.blocks ((f.blocks.l.map eBlock).length : Int) 0) := by
    intro hpos h400
    refine Ex.range (I := fun k => ∀ q (h : q < f.blocks.l.length), q < k → ∀ e ∈ f.blocks.l[q].term.succs.l, 0 < e.block ∧ e.block < f.blocks.l.length) f.blocks.l.length (fun k => k50_2 (K G ov n50) 0 0 0 0 0 j m f f.blocks ((f.blocks.l.map eBlock).length : Int) (k : Int)) (fun _ _ h => by omega) (fun k hk hi ih => ?_) (fun hi => ?_)
    · refine Ex.pc ok50 (t50_2 G _ _ 0 0 0 0 0 j m f f.blocks _ _) ?_
      refine Ex.cond (fun _ => Ex.bnd (hixn eBlock_inj s7 hk) ?_) fun h => ?_
      · obtain ⟨b, hbb⟩ : ∃ b, b = f.blocks.l[k] := ⟨_, rfl⟩
        rw [← hbb]
        have hBk : BBlock b := hF.all b (by rw [hbb]; exact List.getElem_mem hk)
        have hin := hBk.instrs
        have three : Ex eDiag (fun d : LDiag => d.code = 0 → FOk2 f) (k50_3 (K G ov n50) 0 0 0 0 0 j m f k b f.blocks ((f.blocks.l.map eBlock).length : Int) k b.instrs ((b.instrs.l.map eInstr).length : Int) 0) := by
          have fin : Ex eDiag (fun d : LDiag => d.code = 0 → FOk2 f) (bnd ((q0 G ov).c enI 90 [eModule m, eFunc f, eTerm b.term]) fun r4 => bif !(eqI r4 0) then (bnd ((q0 G ov).c enD 85 [eI r4, eI 2, eI (j : Int), eI (k : Int), eI ((b.instrs.l.map eInstr).length : Int)]) fun r5 => some (eDiag r5)) else (k50_2 (K G ov n50) 0 0 0 0 0 j m f f.blocks ((f.blocks.l.map eBlock).length : Int) (IntKind.wrap .i64 ((k : Int) + 1)))) := by
            refine Ex.cal (terminator_c m f b.term hF hBk.term) fun n hn => Ex.cond (fun h => bad _ _ _ _ _ (by simpa [eqI_eq] using h)) fun h => ?_
            rw [wrapS (by omega)]
            refine ih fun q hq hqk => ?_
            by_cases e : q = k
            · subst e; rw [← hbb]; exact hn (by simpa [eqI_eq] using h)
            · exact hi q hq (by omega)
          refine Ex.range (I := fun _ => True) b.instrs.l.length (fun n => k50_3 (K G ov n50) 0 0 0 0 0 j m f k b f.blocks ((f.blocks.l.map eBlock).length : Int) k b.instrs ((b.instrs.l.map eInstr).length : Int) (n : Int)) trivial (fun n hn _ ih' => ?_) (fun _ => ?_)
          · refine Ex.pc ok50 (t50_3 G _ _ 0 0 0 0 0 j m f k b f.blocks _ k b.instrs _ _) ?_
            rw [wrapS (k := n) (by omega)]
            exact Ex.cond (fun _ => Ex.bnd (hixn eInstr_inj s8 hn) (Ex.cal (check_c _ f m hm (hBk.ins _ (List.getElem_mem hn))) fun r _ => Ex.cond (fun h => bad _ _ _ _ _ (by simpa [eqI_eq] using h)) fun _ => ih' trivial)) fun _ => fin
          · refine Ex.pc ok50 (t50_3 G _ _ 0 0 0 0 0 j m f k b f.blocks _ k b.instrs _ _) ?_
            refine Ex.cond (fun h => ?_) fun _ => fin
            simp [ltI_eq] at h
        have par : Ex eDiag (fun d : LDiag => d.code = 0 → FOk2 f) (bnd ((q0 G ov).c enI 88 [eFunc f, S.enc eI b.params]) fun r => bif !(eqI r 0) then (bnd ((q0 G ov).c enD 85 [eI r, eI 2, eI (j : Int), eI (k : Int), eI (-1)]) fun r => some (eDiag r)) else (k50_3 (K G ov n50) 0 0 0 0 0 j m f k b f.blocks ((f.blocks.l.map eBlock).length : Int) k b.instrs ((b.instrs.l.map eInstr).length : Int) 0)) :=
          Ex.cal (params_c f b.params hBk.params) fun r _ => Ex.cond (fun h => bad _ _ _ _ _ (by simpa [eqI_eq] using h)) fun _ => three
        exact Ex.cond (fun _ => Ex.cond (fun _ => bad _ _ _ _ _ (by decide)) fun _ => par) fun _ => par
      · simp [ltI_eq] at h; omega
    · refine Ex.pc ok50 (t50_2 G _ _ 0 0 0 0 0 j m f f.blocks _ _) ?_
      refine Ex.cond (fun h => ?_) fun _ => ⟨⟨0, 0, 0, 0, 0⟩, rfl, fun _ => ⟨hpos, h400, fun b hbb e he => ?_⟩⟩
      · simp [ltI_eq] at h
      · obtain ⟨q, hq, rfl⟩ := List.getElem_of_mem hbb
        exact hi q hq hq e he
  -- the numbers of instructions
  have one : ∀ (d k : Nat) (n : Int), k + d = f.blocks.l.length → Ex eDiag (fun d : LDiag => d.code = 0 → FOk2 f) (k50_1 (K G ov n50) 0 0 0 0 0 j m f n f.blocks ((f.blocks.l.map eBlock).length : Int) (k : Int)) := by
    intro d
    induction d with
    | zero =>
      intro k n hk
      refine Ex.pc ok50 (t50_1 G _ _ 0 0 0 0 0 j m f n f.blocks _ _) ?_
      refine Ex.cond (fun h => ?_) fun _ => Ex.cond (fun _ => bad _ _ _ _ _ (by decide)) fun h1 => Ex.cond (fun _ => bad _ _ _ _ _ (by decide)) fun h2 => Ex.cond (fun _ => bad _ _ _ _ _ (by decide)) fun _ => two ?_ ?_
      · simp [ltI_eq] at h; omega
      · simp [eqI_eq] at h1; exact List.length_pos_iff.2 h1
      · simp [ltI_eq] at h2; omega
    | succ d ih =>
      intro k n hk
      refine Ex.pc ok50 (t50_1 G _ _ 0 0 0 0 0 j m f n f.blocks _ _) ?_
      rw [wrapS (by omega)]
      refine Ex.cond (fun _ => Ex.bnd (hixn eBlock_inj s7 (k := k) (by omega)) (ih (k + 1) _ (by omega))) fun h => ?_
      simp [ltI_eq] at h; omega
  exact one f.blocks.l.length 0 0 (by omega)

/-- What is known of a module that is accepted. -/
def MOk (m : LModule) : Prop := (∀ g ∈ m.funcs.l, g.params.l.length ≤ 6) ∧ ∀ f ∈ m.funcs.l, FOk2 f
theorem module_c (m : LModule) (hB : BMod m) : Cal G ov enD 20 [eModule m] (fun d => d.code = 0 → MOk m) := by
  have hf := hB.funcs
  refine con eDiag_inj ok20 (t20 G _ _ m) ?_
  refine Ex.cal (heads_c m hB) fun d hd => ?_
  have main : ∀ (r k : Nat) (d : LDiag), k + r = m.funcs.l.length → (d.code = 0 → (∀ g ∈ m.funcs.l, g.params.l.length ≤ 6) ∧ ∀ q (h : q < m.funcs.l.length), q < k → FOk2 m.funcs.l[q]) → Ex eDiag (fun d : LDiag => d.code = 0 → MOk m) (k20_1 (K G ov n20) d 0 0 0 0 0 m ((m.funcs.l.map eFunc).length : Int) (k : Int)) := by
    intro r
    induction r with
    | zero =>
      intro k d hk hd
      refine Ex.pc ok20 (t20_1 G _ _ d 0 0 0 0 0 m _ _) ?_
      refine Ex.cond (fun h => ?_) fun _ => Ex.mk fun h => ?_
      · simp [ltI_eq] at h; omega
      · obtain ⟨h1, h2⟩ := hd h
        refine ⟨h1, fun f hf => ?_⟩
        obtain ⟨q, hq, rfl⟩ := List.getElem_of_mem hf
        exact h2 q hq (by omega)
    | succ r ih =>
      intro k d hk hd
      refine Ex.pc ok20 (t20_1 G _ _ d 0 0 0 0 0 m _ _) ?_
      rw [wrapS (by omega)]
      refine Ex.cond (fun _ => Ex.cond (fun h => Ex.mk fun h' => absurd h' (by simpa [eqI_eq] using h)) fun h => ?_) fun h => ?_
      · obtain ⟨h1, h2⟩ := hd (by simpa [eqI_eq] using h)
        refine Ex.cal (body_c m k (by omega) hB h1) fun d' hd' => ih (k + 1) d' (by omega) fun h0 => ⟨h1, fun q hq hqk => ?_⟩
        by_cases e : q = k
        · subst e; exact hd' h0
        · exact h2 q hq (by omega)
      · simp [ltI_eq] at h; omega
  exact main m.funcs.l.length 0 d (by omega) fun h => ⟨hd h, fun q hq h' => by omega⟩
end
end Go.Proofs.YtapkmhneneffdaaGreatDoor.M3.T

/-! The text ZahK. -/
namespace Go.Proofs.YtapkmhneneffdaaGreatDoor.M3.T
open Go Go.Proofs.YtapkmhneneffdaaGreatDoor.Mx Go.Proofs.YtapkmhneneffdaaGreatDoor.M3
set_option maxRecDepth 10000
section
variable {G : Gl} {ov : Nat → List V → Option V}

def fsize (f : LFunc) : Nat := f.blocks.l.length + (f.blocks.l.map fun b => b.instrs.l.length).sum
theorem sum_take (l : List LBlock) (k : Nat) (h : k < l.length) : ((l.take (k + 1)).map fun b => b.instrs.l.length).sum = ((l.take k).map fun b => b.instrs.l.length).sum + l[k].instrs.l.length := by
  rw [List.take_add_one, List.getElem?_eq_getElem h, List.map_append, List.sum_append]
  simp only [Option.toList, List.map_cons, List.map_nil, List.sum_cons, List.sum_nil, Nat.add_zero]
theorem sum_le (l : List LBlock) (hl : ∀ b ∈ l, BBlock b) : (l.map fun b => b.instrs.l.length).sum ≤ l.length * 2 ^ 44 := by
  induction l with
  | nil => simp
  | cons b l ih =>
    have h1 := (hl b (.head _)).instrs
    have h2 := ih fun b hb => hl b (.tail _ hb)
    simp only [List.map_cons, List.sum_cons, List.length_cons]
    unfold B44 at h1
    omega
theorem size_c (f : LFunc) (hB : BFunc f) (hn : f.blocks.l.length ≤ 400) : Cal G ov enI 21 [eFunc f] (fun n => n = (fsize f : Int)) := by
  have hb := hB.all
  refine con eI_inj ok21 (t21 G _ _ f) ?_
  let acc : Nat → Int := fun k => ((f.blocks.l.length + ((f.blocks.l.take k).map fun b => b.instrs.l.length).sum : Nat) : Int)
  have h0 : ((f.blocks.l.map eBlock).length : Int) = acc 0 := by simp [acc]
  have main := Ex.range (f := eI) (Q := fun n => n = (fsize f : Int)) (I := fun _ => True) f.blocks.l.length (fun k => k21_1 (K G ov n21) (acc k) f.blocks ((f.blocks.l.map eBlock).length : Int) (k : Int)) trivial (fun k hk _ ih => ?_) (fun _ => ?_)
  · rw [← h0] at main; exact main
  · refine Ex.pc ok21 (t21_1 G _ _ _ f.blocks _ _) ?_
    rw [wrapS (by omega)]
    refine Ex.cond (fun _ => Ex.bnd (hixn eBlock_inj s7 hk) ?_) fun h => ?_
    · have e : IntKind.wrap .i64 (acc k + ((f.blocks.l[k].instrs.l.map eInstr).length : Int)) = acc (k + 1) := by
        have h1 := sum_take f.blocks.l k hk
        have h2 := sum_le (f.blocks.l.take (k + 1)) fun b h => hb b (List.mem_of_mem_take h)
        have h3 : (f.blocks.l.take (k + 1)).length ≤ 400 := by rw [List.length_take]; omega
        have h4 : (f.blocks.l.take (k + 1)).length * 2 ^ 44 ≤ 400 * 2 ^ 44 := Nat.mul_le_mul_right _ h3
        simp only [acc, List.length_map]
        rw [wrap64 (by omega) (by omega)]
        omega
      rw [e]
      exact ih trivial
    · simp [ltI_eq] at h; omega
  · refine Ex.pc ok21 (t21_1 G _ _ _ f.blocks _ _) ?_
    refine Ex.cond (fun h => ?_) fun _ => Ex.mk (by simp only [acc, fsize, List.take_length])
    simp [ltI_eq] at h

/-- What is known of a module that is not too large. -/
structure Small30 (m : LModule) : Prop where
  ok : MOk m
  globals : m.globals.l.length ≤ 8
  funcs : m.funcs.l.length ≤ 3
  len : ∀ g ∈ m.globals.l, g.len ≤ 16
  size : ∀ f ∈ m.funcs.l, fsize f ≤ 20
theorem large_c (m : LModule) (hB : BMod m) (l : S (S LSteps)) (hl : l.l.length ≤ 2 ^ 44) : Cal G ov enB 4 [eModule m, S.enc (S.enc eSteps) l] (fun b => b = false → Small30 m) := by
  have hg := hB.globals
  have hf := hB.funcs
  refine con b_inj ok4 (t4 G _ _ m l) ?_
  refine Ex.cond (fun _ => Ex.mk (by intro h; cases h)) fun h1 => Ex.cond (fun _ => Ex.mk (by intro h; cases h)) fun h2 => Ex.cal (module_c m hB) fun d hd => Ex.cond (fun _ => Ex.mk (by intro h; cases h)) fun h3 => ?_
  have hok : MOk m := hd (by simpa [eqI_eq] using h3)
  have c1 : m.globals.l.length ≤ 8 := by simp [ltI_eq] at h1; omega
  have c2 : m.funcs.l.length ≤ 3 := by simp [ltI_eq] at h2; omega
  refine Ex.range (I := fun k => ∀ j (h : j < m.globals.l.length), j < k → m.globals.l[j].len ≤ 16) m.globals.l.length (fun k => k4_1 (K G ov n4) l m false m.globals ((m.globals.l.map eGlobal).length : Int) (k : Int)) (fun _ _ h => by omega) (fun k hk hi ih => ?_) (fun hi => ?_)
  · refine Ex.pc ok4 (t4_1 G _ _ l m false m.globals _ _) ?_
    rw [wrapS (by omega)]
    refine Ex.cond (fun _ => Ex.bnd (hixn eGlobal_inj s5g hk) (Ex.cond (fun _ => Ex.mk (by intro h; cases h)) fun h => ih fun j hj hjk => ?_)) fun h => ?_
    · by_cases e : j = k
      · subst e; simp [ltI_eq] at h; exact h
      · exact hi j hj (by omega)
    · simp [ltI_eq] at h; omega
  refine Ex.pc ok4 (t4_1 G _ _ l m false m.globals _ _) ?_
  refine Ex.cond (fun h => ?_) fun _ => ?_
  · simp [ltI_eq] at h
  refine Ex.range (I := fun k => ∀ j (h : j < m.funcs.l.length), j < k → fsize m.funcs.l[j] ≤ 20) m.funcs.l.length (fun k => k4_2 (K G ov n4) l false m.funcs ((m.funcs.l.map eFunc).length : Int) (k : Int)) (fun _ _ h => by omega) (fun k hk hi2 ih => ?_) (fun hi2 => ?_)
  · refine Ex.pc ok4 (t4_2 G _ _ l false m.funcs _ _) ?_
    rw [wrapS (by omega)]
    refine Ex.cond (fun _ => Ex.bnd (hixn eFunc_inj s5 hk) (Ex.cal (size_c _ (hB.all _ (List.getElem_mem hk)) (hok.2 _ (List.getElem_mem hk)).2.1) fun n hn => Ex.cond (fun _ => Ex.mk (by intro h; cases h)) fun h => ih fun j hj hjk => ?_)) fun h => ?_
    · by_cases e : j = k
      · subst e; subst hn; simp [ltI_eq] at h; omega
      · exact hi2 j hj (by omega)
    · simp [ltI_eq] at h; omega
  refine Ex.pc ok4 (t4_2 G _ _ l false m.funcs _ _) ?_
  refine Ex.cond (fun h => ?_) fun _ => ?_
  · simp [ltI_eq] at h
  have hs : Small30 m := by
    refine ⟨hok, c1, c2, fun g hg => ?_, fun f hf => ?_⟩
    · obtain ⟨j, hj, rfl⟩ := List.getElem_of_mem hg
      exact hi j hj hj
    · obtain ⟨j, hj, rfl⟩ := List.getElem_of_mem hf
      exact hi2 j hj hj
  have last : ∀ (r k : Nat) (n : Int), k + r = l.l.length → Ex V.b (fun b => b = false → Small30 m) (k4_3 (K G ov n4) false n l ((l.l.map (S.enc eSteps)).length : Int) (k : Int)) := by
    intro r
    induction r with
    | zero =>
      intro k n hk
      refine Ex.pc ok4 (t4_3 G _ _ false n l _ _) ?_
      refine Ex.cond (fun h => ?_) fun _ => Ex.cond (fun _ => Ex.mk fun _ => hs) fun _ => Ex.mk fun _ => hs
      simp [ltI_eq] at h; omega
    | succ r ih =>
      intro k n hk
      refine Ex.pc ok4 (t4_3 G _ _ false n l _ _) ?_
      rw [wrapS (by omega)]
      refine Ex.cond (fun _ => Ex.bnd (hixn (enc_inj fun a b h => ?_) (fun _ => rfl) (k := k) (by omega)) (Ex.cond (fun _ => Ex.mk fun _ => hs) fun _ => ih (k + 1) _ (by omega))) fun h => ?_
      · cases a; cases b
        simp only [eSteps, eI, V.agg.injEq, List.cons.injEq, and_true, V.i.injEq, true_and] at h
        obtain ⟨h1, h2, h3, h4, h5⟩ := h
        rw [h1, h2, h3, h4, h5]
      · simp [ltI_eq] at h; omega
  exact last l.l.length 0 0 (by omega)
end
end Go.Proofs.YtapkmhneneffdaaGreatDoor.M3.T
