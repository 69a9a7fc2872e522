/- A part of the proof that the law answers true at every input: the texts ZahD, ZahE, ZahF, ZahG; no conditions. -/
import Derived.Test.YtapkmhneneffdaaGreatDoorCoB
set_option linter.unusedSimpArgs false
set_option linter.unusedVariables false
set_option linter.constructorNameAsVariable false

/-! The text ZahD. -/
namespace Go.Proofs.YtapkmhneneffdaaGreatDoor.M3.T
open Go Go.Proofs.YtapkmhneneffdaaGreatDoor.Mx Go.Proofs.YtapkmhneneffdaaGreatDoor.M3

/-! ### typed data are told by their values -/
theorem enc_inj {α : Type} {e : α → V} (he : ∀ a b, e a = e b → a = b) (s s' : S α) (h : s.enc e = s'.enc e) : s = s' := by
  cases s; cases s'
  simp only [S.enc, V.sl.injEq] at h
  rw [h.1, map_inj he h.2]
theorem eI_inj (a b : Int) (h : eI a = eI b) : a = b := by simpa [eI] using h
theorem iK_inj (k : IntKind) (a b : Int) (h : V.i k a = V.i k b) : a = b := by simpa using h
theorem b_inj (a b : Bool) (h : V.b a = V.b b) : a = b := by simpa using h
theorem s_inj (a b : ByteArray) (h : V.s a = V.s b) : a = b := by simpa using h
theorem eInts_inj (a b : S Int) (h : eInts a = eInts b) : a = b := enc_inj eI_inj _ _ h
theorem eEdge_inj (a b : LEdge) (h : eEdge a = eEdge b) : a = b := by
  cases a; cases b
  simp only [eEdge, V.agg.injEq, List.cons.injEq, and_true] at h
  rw [eI_inj _ _ h.1, eInts_inj _ _ h.2]
theorem eInstr_inj (a b : LInstr) (h : eInstr a = eInstr b) : a = b := by
  cases a; cases b
  simp only [eInstr, eI, V.agg.injEq, List.cons.injEq, and_true, V.i.injEq, true_and, V.b.injEq] at h
  obtain ⟨h1, h2, h3, h4, h5, h6, h7, h8⟩ := h
  rw [h1, h2, h3, eInts_inj _ _ h4, h5, h6, h7, h8]
theorem eBlock_inj (a b : LBlock) (h : eBlock a = eBlock b) : a = b := by
  obtain ⟨p, i, ⟨k, ar, c, s, y⟩⟩ := a; obtain ⟨p', i', ⟨k', ar', c', s', y'⟩⟩ := b
  simp only [eBlock, V.agg.injEq, List.cons.injEq, and_true] at h
  obtain ⟨h1, h2, h3, h4, h5, h6, h7⟩ := h
  rw [eInts_inj _ _ h1, enc_inj eInstr_inj _ _ h2, eI_inj _ _ h3, eInts_inj _ _ h4, eInts_inj _ _ h5, enc_inj eEdge_inj _ _ h6, eI_inj _ _ h7]
theorem eFunc_inj (a b : LFunc) (h : eFunc a = eFunc b) : a = b := by
  cases a; cases b
  simp only [eFunc, V.agg.injEq, List.cons.injEq, and_true, V.s.injEq] at h
  obtain ⟨h1, h2, h3, h4, h5⟩ := h
  rw [h1, eInts_inj _ _ h2, eI_inj _ _ h3, eInts_inj _ _ h4, enc_inj eBlock_inj _ _ h5]
theorem eGlobal_inj (a b : LGlobal) (h : eGlobal a = eGlobal b) : a = b := by
  cases a; cases b
  simp only [eGlobal, eI, V.agg.injEq, List.cons.injEq, and_true, V.i.injEq, true_and, V.b.injEq, V.s.injEq] at h
  obtain ⟨h1, h2, h3, h4, h5⟩ := h
  rw [h1, h2, h3, eInts_inj _ _ h4, h5]
theorem eDiag_inj (a b : LDiag) (h : eDiag a = eDiag b) : a = b := by
  cases a; cases b
  simp only [eDiag, eI, V.agg.injEq, List.cons.injEq, and_true, V.i.injEq, true_and] at h
  obtain ⟨h1, h2, h3, h4, h5⟩ := h
  rw [h1, h2, h3, h4, h5]

/-! ### it answers, and so -/
def Ex {α ω : Type} (f : α → ω) (Q : α → Prop) (x : Option ω) : Prop := ∃ a, x = some (f a) ∧ Q a
section
variable {α ω : Type} {f : α → ω} {Q : α → Prop}
theorem Ex.cond {c : Bool} {x y : Option ω} (h : c = true → Ex f Q x) (h' : c = false → Ex f Q y) : Ex f Q (bif c then x else y) := by
  cases c with
  | true => exact h rfl
  | false => exact h' rfl
theorem Ex.bnd {β : Type} {x : Option β} {a : β} {k : β → Option ω} (h : x = some a) (h' : Ex f Q (k a)) : Ex f Q (M3.bnd x k) := by
  rw [h]; exact h'
/-- A call of which something is known. -/
theorem Ex.cal {β : Type} {P : β → Prop} {x : Option β} {k : β → Option ω} (h : ∃ a, x = some a ∧ P a) (h' : ∀ a, P a → Ex f Q (k a)) : Ex f Q (M3.bnd x k) := by
  obtain ⟨a, h1, h2⟩ := h
  rw [h1]; exact h' a h2
theorem Ex.mk {a : α} (h : Q a) : Ex f Q (some (f a)) := ⟨a, rfl, h⟩
theorem Ex.mono {Q' : α → Prop} {x : Option ω} (h : Ex f Q x) (hq : ∀ a, Q a → Q' a) : Ex f Q' x := by
  obtain ⟨a, h1, h2⟩ := h
  exact ⟨a, h1, hq a h2⟩
/-- A loop over a row. -/
theorem Ex.range {I : Nat → Prop} (n : Nat) (K : Nat → Option ω) (h0 : I 0) (step : ∀ k, k < n → I k → (I (k + 1) → Ex f Q (K (k + 1))) → Ex f Q (K k)) (last : I n → Ex f Q (K n)) : Ex f Q (K 0) := by
  have main : ∀ (m k : Nat), k + m = n → I k → Ex f Q (K k) := by
    intro m
    induction m with
    | zero => intro k hk hi; have : k = n := by omega
              subst this; exact last hi
    | succ m ih => intro k hk hi; exact step k (by omega) hi (fun hi' => ih (k + 1) (by omega) hi')
  exact main n 0 (by omega) h0
end

section
variable {G : Gl} {ov : Nat → List V → Option V}
noncomputable abbrev w0 (G : Gl) (ov : Nat → List V → Option V) : Cl3 := W G pu0 ovd0 cln0 ov Γ
noncomputable abbrev q0 (G : Gl) (ov : Nat → List V → Option V) : Q := qR pu0 (w0 G ov)
noncomputable abbrev K (G : Gl) (ov : Nat → List V → Option V) (fn : Fn3) : Tl V := pcR G (call3 pu0 (w0 G ov)) fn

/-- A call answers, and so. -/
abbrev Cal (G : Gl) (ov : Nat → List V → Option V) (e : En) (g : Nat) (as : List V) (Q : e.α → Prop) : Prop := ∃ a, (q0 G ov).c e g as = some a ∧ Q a

theorem con {e : En} {Q : e.α → Prop} (he : ∀ a b, e.e a = e.e b → a = b) {g : Nat} {fn : Fn3} (ok : FOk g fn) {as : List V} {sg : List (Nat × Sg)} {st : List (Nat × Tg)} {en : Option En} {t : Option V}
    (ht : stS G (q0 G ov) sg st en (K G ov fn) fn as = t) (h : Ex e.e Q t) : Cal G ov e g as Q := by
  obtain ⟨a, h1, h2⟩ := h
  refine ⟨a, call_eq pu0 (w0 G ov) he ok.p (W_st ok.p ok.o ?_ fn ok.f ok.r ok.d ok.n (ht.trans h1)), h2⟩
  rw [ok.c]; unfold cl0; split <;> rfl
theorem Ex.pc {α : Type} {f : α → V} {Q : α → Prop} {g : Nat} {fn : Fn3} (ok : FOk g fn) {sg : List (Nat × Sg)} {st : List (Nat × Tg)} {en : Option En} {ts : List Nat} {vs : List V} {H : Hp} {t : Option V}
    (ht : pcS G (q0 G ov) sg st en (K G ov fn) fn ts vs H = t) (h : Ex f Q t) : Ex f Q (K G ov fn ts vs H) := by
  obtain ⟨a, h1, h2⟩ := h
  exact ⟨a, piece ok.n (ht.trans h1), h2⟩

/-! ### functions that write -/
noncomputable abbrev KL (G : Gl) (ov : Nat → List V → Option V) (n : Nat) (fn : Fn3) : Tl (V × Hp) := pcRL G n (call3 pu0 (w0 G ov)) fn
theorem conL {α : Type} {res : α → V × Hp} {Q : α → Prop} (he : ∀ a b, res a = res b → a = b) {g : Nat} {fn : Fn3} (ok : FOkL g fn) {as : List V} {X : Hp} (hc : cl0 (cln0 g) as = false) {sg : List (Nat × Sg)} {st : List (Nat × Tg)} {t : Option (V × Hp)}
    (ht : stSL G (q0 G ov) sg st X.obs.length (KL G ov X.obs.length fn) fn as X = t) (h : Ex res Q t) : ∃ a, (q0 G ov).lc α res g as X = some a ∧ Q a := by
  obtain ⟨a, h1, h2⟩ := h
  exact ⟨a, lc_eq he ok.p (W_stL ok.p ok.o hc fn ok.f ok.r ok.d ok.n (ht.trans h1)), h2⟩
theorem Ex.pcL {α : Type} {f : α → V × Hp} {Q : α → Prop} {g n : Nat} {fn : Fn3} (ok : FOkL g fn) {sg : List (Nat × Sg)} {st : List (Nat × Tg)} {ts : List Nat} {vs : List V} {H : Hp} {t : Option (V × Hp)}
    (ht : pcSL G (q0 G ov) sg st n (KL G ov n fn) fn ts vs H = t) (h : Ex f Q t) : Ex f Q (KL G ov n fn ts vs H) := by
  obtain ⟨a, h1, h2⟩ := h
  exact ⟨a, pieceL ok.n (ht.trans h1), h2⟩

/-! ### operations -/
theorem wrapS {k : Nat} (h : k < 2 ^ 44) : IntKind.wrap .i64 ((k : Int) + 1) = ((k + 1 : Nat) : Int) := by
  rw [Int.natCast_add]; exact wrap64 (by omega) (by have := h; omega)
theorem hix {α : Type} {e : α → V} (he : ∀ a b, e a = e b → a = b) {esz : Nat} (hs : ∀ a, (e a).cells.length = esz) {a b : Opd} {s : S α} {i : Int} {H : Hp} (h0 : 0 ≤ i) (h : i.toNat < s.l.length) : (q0 G ov).h (ixH e) (.iaddr esz a b) [S.enc e s, eI i] H = some s.l[i.toNat] := by
  refine op_eq pu0 (w0 G ov) (fun a b hab => he _ _ (by simpa [ixH] using hab)) ?_
  simp only [opR, ixH, S.enc, eI, iaddr3, h0, if_true, List.getElem?_map, List.getElem?_eq_getElem h, Option.map_some, hs, bnd]
theorem hixn {α : Type} {e : α → V} (he : ∀ a b, e a = e b → a = b) {esz : Nat} (hs : ∀ a, (e a).cells.length = esz) {a b : Opd} {s : S α} {k : Nat} {H : Hp} (h : k < s.l.length) : (q0 G ov).h (ixH e) (.iaddr esz a b) [S.enc e s, eI (k : Int)] H = some s.l[k] :=
  hix he hs (Int.natCast_nonneg k) (by simpa using h)
theorem hch {s : ByteArray} {i : Int} {a b : Opd} {H : Hp} (h0 : 0 ≤ i) (h : i.toNat < s.size) : (q0 G ov).h (vlH (V.i .u8)) (.strindex a b) [.s s, eI i] H = some ((s[i.toNat].toNat : Nat) : Int) := by
  refine op_eq pu0 (w0 G ov) (fun a b hab => by simp only [vlH, Prod.mk.injEq, and_true] at hab; exact iK_inj _ _ _ hab) ?_
  have : s[i.toNat]? = some s[i.toNat] := by simp [h]
  simp only [opR, vlH, eI, strindex3, strindexV, h0, if_true, this, Option.map_some, Option.bind_some, ofS, bnd]
/-- The first part of a slice. -/
theorem hpre {α : Type} {e : α → V} (he : ∀ a b, e a = e b → a = b) {esz : Nat} (hs : ∀ a, (e a).cells.length = esz) {x y : Opd} {s : S α} {i : Int} {H : Hp} (h0 : 0 ≤ i) (h : i ≤ s.l.length) :
    ∃ t : S α, (q0 G ov).h (vlH (S.enc e)) (.slice esz x none (some y) none) [S.enc e s, eI i] H = some t ∧ t.l = s.l.take i.toNat := by
  refine ⟨⟨s.ex && (i == (s.l.length : Int)), s.l.take i.toNat⟩, op_eq pu0 (w0 G ov) (fun a b hab => ?_) ?_, rfl⟩
  · simp only [vlH, Prod.mk.injEq, and_true] at hab; exact enc_inj he _ _ hab
  · have hall : allE esz (s.l.map e) = true := by
      unfold allE
      rw [List.all_map, List.all_eq_true]
      intro a _
      simp [hs a]
    simp only [opR, vlH, S.enc, eI, slice3, hall, if_true, optI, List.length_map, Int.le_refl, h0, h, and_self, bnd, List.drop_zero, Int.toNat_zero, Nat.sub_zero, List.map_take]
theorem rem_eq {x y : Int} (hy : y ≠ 0) {a b : Opd} {H : Hp} : ∃ m : Int, (q0 G ov).h (vlH (V.i .u64)) (.bin .rem (.lf .i) a b) [.i .u64 x, .i .u64 y] H = some m := by
  have : ∃ n, bin3 .rem (.lf .i) (.i .u64 x) (.i .u64 y) = some (.i .u64 n) := by
    simp [bin3, binV, intBin, hy, ofS]
  obtain ⟨n, hn⟩ := this
  refine ⟨n, op_eq pu0 (w0 G ov) (fun a b hab => by simp only [vlH, Prod.mk.injEq, and_true] at hab; exact iK_inj _ _ _ hab) ?_⟩
  simp only [opR, vlH, binK, hn, bnd]
end
end Go.Proofs.YtapkmhneneffdaaGreatDoor.M3.T

/-! The text ZahE. -/
namespace Go.Proofs.YtapkmhneneffdaaGreatDoor.M3.T
open Go Go.Proofs.YtapkmhneneffdaaGreatDoor.Mx Go.Proofs.YtapkmhneneffdaaGreatDoor.M3
set_option maxRecDepth 10000

abbrev enB : En := ⟨Bool, V.b⟩
abbrev enI : En := ⟨Int, eI⟩
abbrev enD : En := ⟨LDiag, eDiag⟩
section
variable {G : Gl} {ov : Nat → List V → Option V}
theorem en1 (n : Int) : (eI n).cells.length = 1 := rfl

/-! ### small ones -/
theorem reg_c (f : LFunc) (r : Int) : Cal G ov enB 125 [eFunc f, eI r] (fun b => b = true ↔ 0 ≤ r ∧ r < f.regs.l.length) := by
  refine con b_inj ok125 (t125 G _ _ f r) ?_
  refine Ex.cond (fun h => Ex.cond (fun h' => Ex.mk ?_) fun h' => Ex.mk ?_) fun h => Ex.mk ?_ <;> simp [ltI_eq, List.length_map] at * <;> omega
theorem isInt_c (t : Int) : Cal G ov enB 186 [eI t] (fun _ => True) := by
  refine con b_inj ok186 (t186 G _ _ t) ?_
  repeat' first | exact Ex.mk trivial | refine Ex.cond (fun h => ?_) (fun h => ?_)
theorem cell_c (t : Int) : Cal G ov enB 122 [eI t] (fun _ => True) := by
  refine con b_inj ok122 (t122 G _ _ t) ?_
  repeat' first | exact Ex.mk trivial | refine Ex.cond (fun h => ?_) (fun h => ?_)
theorem value_c (t : Int) : Cal G ov enB 124 [eI t] (fun _ => True) := by
  refine con b_inj ok124 (t124 G _ _ t) ?_
  repeat' first | exact Ex.mk trivial | refine Ex.cond (fun h => ?_) (fun h => ?_)
theorem bits_c (t : Int) : Cal G ov enI 190 [eI t] (fun _ => True) := by
  refine con eI_inj ok190 (t190 G _ _ t) ?_
  repeat' first | exact Ex.mk trivial | refine Ex.cond (fun h => ?_) (fun h => ?_)
theorem uns_c (t n : Int) : Cal G ov ⟨Int, V.i .u64⟩ 191 [eI t, eI n] (fun _ => True) := by
  refine con (iK_inj _) ok191 (t191 G _ _ t n) ?_
  have rem : ∀ (y : Int), y ≠ 0 → ∀ (x : Int) (a b : Opd) (H : Hp), ∃ m : Int, (q0 G ov).h (vlH (V.i .u64)) (.bin .rem (.lf .i) a b) [.i .u64 x, .i .u64 y] H = some m ∧ True := fun y hy x a b H => by
    obtain ⟨m, h⟩ := rem_eq (G := G) (ov := ov) (x := x) hy (a := a) (b := b) (H := H); exact ⟨m, h, trivial⟩
  refine Ex.cal (bits_c t) fun b _ => ?_
  refine Ex.cond (fun h => ?_) (fun h => Ex.cond (fun h => ?_) (fun h => Ex.cond (fun h => ?_) (fun h => Ex.cond (fun h => Ex.mk trivial) (fun h => Ex.mk trivial))))
  · exact Ex.cal (rem 2 (by decide) _ _ _ _) fun m _ => Ex.mk trivial
  · exact Ex.cal (rem 256 (by decide) _ _ _ _) fun m _ => Ex.mk trivial
  · exact Ex.cal (rem 4294967296 (by decide) _ _ _ _) fun m _ => Ex.mk trivial
theorem wrap_c (t n : Int) : Cal G ov enI 130 [eI t, eI n] (fun _ => True) := by
  refine con eI_inj ok130 (t130 G _ _ t n) ?_
  refine Ex.cal (uns_c t n) fun u _ => Ex.cal (bits_c t) fun b _ => ?_
  repeat' first | exact Ex.mk trivial | refine Ex.cond (fun h => ?_) (fun h => ?_)
theorem fits_c (t n : Int) : Cal G ov enB 123 [eI t, eI n] (fun _ => True) := by
  refine con b_inj ok123 (t123 G _ _ t n) ?_
  refine Ex.cal (isInt_c t) fun b _ => Ex.cond (fun h => Ex.cal (wrap_c t n) fun m _ => ?_) (fun h => Ex.mk trivial)
  repeat' first | exact Ex.mk trivial | refine Ex.cond (fun h => ?_) (fun h => ?_)

theorem index_c (s : S Int) (x : Int) (hl : s.l.length ≤ 2 ^ 44) : Cal G ov enI 135 [S.enc eI s, eI x] (fun _ => True) := by
  refine con eI_inj ok135 (t135 G _ _ s x) ?_
  refine Ex.range (I := fun _ => True) s.l.length (fun k => k135_1 (K G ov n135) s x 0 ((s.l.map eI).length : Int) (k : Int)) trivial (fun k hk _ ih => ?_) (fun _ => ?_)
  · refine Ex.pc ok135 (t135_1 G _ _ s x 0 _ _) ?_
    rw [wrapS (by omega)]
    exact Ex.cond (fun _ => Ex.bnd (hixn eI_inj en1 hk) (Ex.cond (fun _ => Ex.mk trivial) fun _ => ih trivial)) (fun _ => Ex.mk trivial)
  · refine Ex.pc ok135 (t135_1 G _ _ s x 0 _ _) ?_
    refine Ex.cond (fun h => ?_) (fun _ => Ex.mk trivial)
    simp [ltI_eq] at h
theorem contains_c (s : S Int) (x : Int) (hl : s.l.length ≤ 2 ^ 44) : Cal G ov enB 91 [S.enc eI s, eI x] (fun _ => True) := by
  refine con b_inj ok91 (t91 G _ _ s x) ?_
  exact Ex.cal (index_c s x hl) fun _ _ => Ex.cond (fun _ => Ex.mk trivial) fun _ => Ex.mk trivial
theorem index64_c (s : S Int) (x : Int) (hl : s.l.length ≤ 2 ^ 44) : Cal G ov enI 222 [S.enc eI s, eI x] (fun _ => True) := by
  refine con eI_inj ok222 (t222 G _ _ s x) ?_
  refine Ex.range (I := fun _ => True) s.l.length (fun k => k222_1 (K G ov n222) s x 0 ((s.l.map eI).length : Int) (k : Int)) trivial (fun k hk _ ih => ?_) (fun _ => ?_)
  · refine Ex.pc ok222 (t222_1 G _ _ s x 0 _ _) ?_
    rw [wrapS (by omega)]
    exact Ex.cond (fun _ => Ex.bnd (hixn eI_inj en1 hk) (Ex.cond (fun _ => Ex.mk trivial) fun _ => ih trivial)) (fun _ => Ex.mk trivial)
  · refine Ex.pc ok222 (t222_1 G _ _ s x 0 _ _) ?_
    refine Ex.cond (fun h => ?_) (fun _ => Ex.mk trivial)
    simp [ltI_eq] at h
theorem contains64_c (s : S Int) (x : Int) (hl : s.l.length ≤ 2 ^ 44) : Cal G ov enB 192 [S.enc eI s, eI x] (fun _ => True) := by
  refine con b_inj ok192 (t192 G _ _ s x) ?_
  exact Ex.cal (index64_c s x hl) fun _ _ => Ex.cond (fun _ => Ex.mk trivial) fun _ => Ex.mk trivial

/-! ### names -/
theorem letter_c (c : Int) : Cal G ov enB 220 [.i .u8 c] (fun _ => True) := by
  refine con b_inj ok220 (t220 G _ _ c) ?_
  repeat' first | exact Ex.mk trivial | refine Ex.cond (fun h => ?_) (fun h => ?_)
theorem digit_c (c : Int) : Cal G ov enB 247 [.i .u8 c] (fun _ => True) := by
  refine con b_inj ok247 (t247 G _ _ c) ?_
  repeat' first | exact Ex.mk trivial | refine Ex.cond (fun h => ?_) (fun h => ?_)
theorem end_c (s : ByteArray) (b : Bool) (hl : s.size ≤ 2 ^ 44) : Cal G ov enI 221 [.s s, eI 0, .b b] (fun _ => True) := by
  refine con eI_inj ok221 (t221 G _ _ s 0 b) ?_
  refine Ex.range (I := fun _ => True) s.size (fun k => k221_1 (K G ov n221) s (k : Int) b) trivial (fun k hk _ ih => ?_) (fun _ => ?_)
  · refine Ex.pc ok221 (t221_1 G _ _ s _ b) ?_
    rw [wrapS (by omega)]
    have ch : ∀ (a b : Opd) (H : Hp), ∃ c : Int, (q0 G ov).h (vlH (V.i .u8)) (.strindex a b) [.s s, eI (k : Int)] H = some c ∧ True := fun a b H => ⟨_, hch (Int.natCast_nonneg k) (by simpa using hk), trivial⟩
    refine Ex.cond (fun _ => Ex.cal (ch _ _ _) fun c _ => Ex.cal (digit_c c) fun _ _ => Ex.cond (fun _ => ih trivial) fun _ => Ex.cond (fun _ => Ex.cal (ch _ _ _) fun c _ => Ex.cal (letter_c c) fun _ _ => Ex.cond (fun _ => ih trivial) fun _ => Ex.mk trivial) fun _ => Ex.mk trivial) fun _ => Ex.mk trivial
  · refine Ex.pc ok221 (t221_1 G _ _ s _ b) ?_
    refine Ex.cond (fun h => ?_) (fun _ => Ex.mk trivial)
    simp [ltI_eq] at h
theorem IsIdent_c (s : ByteArray) : Cal G ov enB 185 [.s s] (fun _ => True) := by
  refine con b_inj ok185 (t185 G _ _ s) ?_
  refine Ex.cond (fun h1 => Ex.cond (fun h2 => ?_) fun _ => Ex.mk trivial) fun _ => Ex.mk trivial
  simp [ltI_eq] at h1 h2
  have ch : ∀ (a b : Opd) (H : Hp), ∃ c : Int, (q0 G ov).h (vlH (V.i .u8)) (.strindex a b) [.s s, eI 0] H = some c ∧ True := fun a b H => ⟨_, hch (by decide) (by simp; omega), trivial⟩
  refine Ex.cal (ch _ _ _) fun c _ => Ex.cal (letter_c c) fun _ _ => Ex.cond (fun _ => Ex.cal (end_c s true (by omega)) fun _ _ => Ex.cond (fun _ => Ex.mk trivial) fun _ => Ex.mk trivial) fun _ => Ex.mk trivial
theorem ident_c (s : ByteArray) : Cal G ov enB 121 [.s s] (fun _ => True) := by
  refine con b_inj ok121 (t121 G _ _ s) ?_
  exact Ex.cond (fun _ => Ex.cal (IsIdent_c s) fun _ _ => Ex.cond (fun _ => Ex.mk trivial) fun _ => Ex.mk trivial) fun _ => Ex.mk trivial

/-! ### bounds -/
abbrev B44 {α : Type} (s : S α) : Prop := s.l.length ≤ 2 ^ 44
structure BTerm (t : LTerm) : Prop where
  args : B44 t.args
  cases : B44 t.cases
  succs : B44 t.succs
  edges : ∀ e ∈ t.succs.l, B44 e.args
structure BBlock (b : LBlock) : Prop where
  params : B44 b.params
  instrs : B44 b.instrs
  ins : ∀ i ∈ b.instrs.l, B44 i.args
  term : BTerm b.term
structure BFunc (f : LFunc) : Prop where
  params : B44 f.params
  regs : B44 f.regs
  blocks : B44 f.blocks
  all : ∀ b ∈ f.blocks.l, BBlock b
structure BMod (m : LModule) : Prop where
  globals : B44 m.globals
  inits : ∀ g ∈ m.globals.l, B44 g.init
  funcs : B44 m.funcs
  all : ∀ f ∈ m.funcs.l, BFunc f

theorem s8 (i : LInstr) : (eInstr i).cells.length = 8 := rfl
theorem s7 (b : LBlock) : (eBlock b).cells.length = 7 := rfl
theorem s5 (f : LFunc) : (eFunc f).cells.length = 5 := rfl
theorem s5g (g : LGlobal) : (eGlobal g).cells.length = 5 := rfl
theorem s2 (e : LEdge) : (eEdge e).cells.length = 2 := rfl

/-! ### heads -/
theorem params_c (f : LFunc) (l : S Int) (hl : B44 l) : Cal G ov enI 88 [eFunc f, S.enc eI l] (fun n => n = 0 → ∀ r ∈ l.l, 0 ≤ r ∧ r < f.regs.l.length) := by
  refine con eI_inj ok88 (t88 G _ _ f l) ?_
  refine Ex.range (I := fun k => ∀ j (h : j < l.l.length), j < k → 0 ≤ l.l[j] ∧ l.l[j] < f.regs.l.length) l.l.length (fun k => k88_1 (K G ov n88) l f 0 l ((l.l.map eI).length : Int) (k : Int)) (fun _ _ h => by omega) (fun k hk hi ih => ?_) (fun hi => ?_)
  · refine Ex.pc ok88 (t88_1 G _ _ l f 0 l _ _) ?_
    rw [wrapS (by omega)]
    refine Ex.cond (fun _ => Ex.bnd (hixn eI_inj en1 hk) (Ex.cal (reg_c f l.l[k]) fun b hb => Ex.cond (fun h => ?_) fun _ => Ex.mk (by intro h; cases h))) (fun h => ?_)
    · obtain ⟨t, ht, htl⟩ := hpre (G := G) (ov := ov) eI_inj en1 (s := l) (i := (k : Int)) (Int.natCast_nonneg k) (by omega) (x := .t 18) (y := .t 19) (H := .emp)
      refine Ex.bnd ht (Ex.cal (contains_c t _ (by rw [htl]; simp; omega)) fun c _ => Ex.cond (fun _ => Ex.mk (by intro h; cases h)) fun _ => ih fun j hj hjk => ?_)
      by_cases e : j = k
      · subst e; exact hb.1 h
      · exact hi j hj (by omega)
    · simp [ltI_eq] at h; omega
  · refine Ex.pc ok88 (t88_1 G _ _ l f 0 l _ _) ?_
    refine Ex.cond (fun h => ?_) (fun _ => Ex.mk fun _ r hr => ?_)
    · simp [ltI_eq] at h
    · obtain ⟨j, hj, rfl⟩ := List.getElem_of_mem hr
      exact hi j hj hj
end
end Go.Proofs.YtapkmhneneffdaaGreatDoor.M3.T

/-! The text ZahF. -/
namespace Go.Proofs.YtapkmhneneffdaaGreatDoor.M3.T
open Go Go.Proofs.YtapkmhneneffdaaGreatDoor.Mx Go.Proofs.YtapkmhneneffdaaGreatDoor.M3
set_option maxRecDepth 10000
section
variable {G : Gl} {ov : Nat → List V → Option V}

theorem global_c (m : LModule) (i : Nat) (hm : BMod m) (hi : i < m.globals.l.length) : Cal G ov enI 86 [eModule m, eI (i : Int)] (fun _ => True) := by
  have hg := hm.globals
  refine con eI_inj ok86 (t86 G _ _ m i) ?_
  refine Ex.bnd (hixn eGlobal_inj s5g hi) ?_
  obtain ⟨g, hgg⟩ : ∃ g, g = m.globals.l[i] := ⟨_, rfl⟩
  have hgi : B44 g.init := hm.inits g (by rw [hgg]; exact List.getElem_mem hi)
  rw [← hgg]
  refine Ex.cal (ident_c g.name) fun _ _ => Ex.cond (fun _ => ?_) fun _ => Ex.mk trivial
  refine Ex.cal (hpre eGlobal_inj s5g (Int.natCast_nonneg i) (by omega)) fun t htl => ?_
  have htn : t.l.length ≤ 2 ^ 44 := by rw [htl]; simp; omega
  have fin : Ex eI (fun _ => True) (k86_2 (K G ov n86) 0 g g.init ((g.init.l.map eI).length : Int) 0) := by
    refine Ex.range (I := fun _ => True) g.init.l.length (fun k => k86_2 (K G ov n86) 0 g g.init ((g.init.l.map eI).length : Int) (k : Int)) trivial (fun k hk _ ih => ?_) (fun _ => ?_)
    · refine Ex.pc ok86 (t86_2 G _ _ 0 g g.init _ _) ?_
      rw [wrapS (by omega)]
      exact Ex.cond (fun _ => Ex.bnd (hixn eI_inj en1 hk) (Ex.cal (fits_c _ _) fun _ _ => Ex.cond (fun _ => ih trivial) fun _ => Ex.mk trivial)) fun _ => Ex.mk trivial
    · refine Ex.pc ok86 (t86_2 G _ _ 0 g g.init _ _) ?_
      refine Ex.cond (fun h => ?_) fun _ => Ex.mk trivial
      simp [ltI_eq] at h
  have rest : Ex eI (fun _ => True) (bnd ((q0 G ov).c enB 122 [(eI g.elem)]) fun r2 => bif r2 then (bif ltI g.len 1 then (some (eI 10)) else (bif ltI 256 g.len then (some (eI 10)) else (bif ltI g.len ((g.init.l.map eI).length : Int) then (some (eI 5)) else (bif eqI g.elem 5 then (bif ltI 0 ((g.init.l.map eI).length : Int) then (some (eI 9)) else (k86_2 (K G ov n86) 0 g g.init ((g.init.l.map eI).length : Int) 0)) else (k86_2 (K G ov n86) 0 g g.init ((g.init.l.map eI).length : Int) 0))))) else (some (eI 9))) := by
    refine Ex.cal (cell_c _) fun _ _ => ?_
    repeat' first | exact Ex.mk trivial | exact fin | refine Ex.cond (fun h => ?_) (fun h => ?_)
  refine Ex.range (I := fun _ => True) t.l.length (fun k => k86_1 (K G ov n86) 0 g t ((t.l.map eGlobal).length : Int) (k : Int)) trivial (fun k hk _ ih => ?_) (fun _ => ?_)
  · refine Ex.pc ok86 (t86_1 G _ _ 0 g t _ _) ?_
    rw [wrapS (by omega)]
    exact Ex.cond (fun _ => Ex.bnd (hixn eGlobal_inj s5g hk) (Ex.cond (fun _ => Ex.mk trivial) fun _ => ih trivial)) fun _ => rest
  · refine Ex.pc ok86 (t86_1 G _ _ 0 g t _ _) ?_
    refine Ex.cond (fun h => ?_) fun _ => rest
    simp [ltI_eq] at h

theorem signature_c (m : LModule) (i : Nat) (hm : BMod m) (hi : i < m.funcs.l.length) : Cal G ov enI 87 [eModule m, eI (i : Int)] (fun n => n = 0 → m.funcs.l[i].params.l.length ≤ 6) := by
  have hf := hm.funcs
  refine con eI_inj ok87 (t87 G _ _ m i) ?_
  refine Ex.bnd (hixn eFunc_inj s5 hi) ?_
  obtain ⟨g, hgg⟩ : ∃ g, g = m.funcs.l[i] := ⟨_, rfl⟩
  have hgi : BFunc g := hm.all g (by rw [hgg]; exact List.getElem_mem hi)
  have hr := hgi.regs
  rw [← hgg]
  refine Ex.cal (ident_c g.name) fun _ _ => Ex.cond (fun _ => ?_) fun _ => Ex.mk (by intro h; cases h)
  refine Ex.cal (hpre eFunc_inj s5 (Int.natCast_nonneg i) (by omega)) fun t htl => ?_
  have htn : t.l.length ≤ 2 ^ 44 := by rw [htl]; simp; omega
  have fin : g.params.l.length ≤ 6 → Ex eI (fun n : Int => n = 0 → g.params.l.length ≤ 6) (k87_2 (K G ov n87) 0 g g.regs ((g.regs.l.map eI).length : Int) 0) := by
    intro h6
    refine Ex.range (I := fun _ => True) g.regs.l.length (fun k => k87_2 (K G ov n87) 0 g g.regs ((g.regs.l.map eI).length : Int) (k : Int)) trivial (fun k hk _ ih => ?_) (fun _ => ?_)
    · refine Ex.pc ok87 (t87_2 G _ _ 0 g g.regs _ _) ?_
      rw [wrapS (by omega)]
      exact Ex.cond (fun _ => Ex.bnd (hixn eI_inj en1 hk) (Ex.cal (value_c _) fun _ _ => Ex.cond (fun _ => ih trivial) fun _ => Ex.mk fun _ => h6)) fun _ => Ex.cal (params_c g g.params hgi.params) fun n _ => Ex.mk fun _ => h6
    · refine Ex.pc ok87 (t87_2 G _ _ 0 g g.regs _ _) ?_
      refine Ex.cond (fun h => ?_) fun _ => Ex.cal (params_c g g.params hgi.params) fun n _ => Ex.mk fun _ => h6
      simp [ltI_eq] at h
  have rest : Ex eI (fun n : Int => n = 0 → g.params.l.length ≤ 6) (bif ltI 6 ((g.params.l.map eI).length : Int) then (some (eI 11)) else (bif ltI 4000 ((g.regs.l.map eI).length : Int) then (some (eI 11)) else (k87_2 (K G ov n87) 0 g g.regs ((g.regs.l.map eI).length : Int) 0))) := by
    refine Ex.cond (fun _ => Ex.mk (by intro h; cases h)) fun h => Ex.cond (fun _ => Ex.mk (by intro h; cases h)) fun _ => fin ?_
    simp [ltI_eq] at h; omega
  refine Ex.range (I := fun _ => True) t.l.length (fun k => k87_1 (K G ov n87) 0 g t ((t.l.map eFunc).length : Int) (k : Int)) trivial (fun k hk _ ih => ?_) (fun _ => ?_)
  · refine Ex.pc ok87 (t87_1 G _ _ 0 g t _ _) ?_
    rw [wrapS (by omega)]
    refine Ex.cond (fun _ => Ex.bnd (hixn eFunc_inj s5 hk) (Ex.cond (fun _ => Ex.mk (by intro h; cases h)) fun _ => ih trivial)) fun h => ?_
    simp [ltI_eq] at h; omega
  · refine Ex.pc ok87 (t87_1 G _ _ 0 g t _ _) ?_
    refine Ex.cond (fun h => ?_) fun _ => Ex.cond (fun _ => Ex.cal (value_c _) fun _ _ => Ex.cond (fun _ => rest) fun _ => Ex.mk (by intro h; cases h)) fun _ => rest
    simp [ltI_eq] at h

theorem diag_c (a b c d e : Int) : Cal G ov enD 85 [eI a, eI b, eI c, eI d, eI e] (fun x => x = (⟨a, b, c, d, e⟩ : LDiag)) :=
  con eDiag_inj ok85 (t85 G _ _ a b c d e) ⟨⟨a, b, c, d, e⟩, rfl, rfl⟩

theorem heads_c (m : LModule) (hm : BMod m) : Cal G ov enD 49 [eModule m] (fun d => d.code = 0 → ∀ f ∈ m.funcs.l, f.params.l.length ≤ 6) := by
  have hg := hm.globals
  have hf := hm.funcs
  have bad : ∀ {Q : LDiag → Prop} (a b c d e : Int), a ≠ 0 → (∀ x, x.code ≠ 0 → Q x) → Ex eDiag Q (bnd ((q0 G ov).c enD 85 [eI a, eI b, eI c, eI d, eI e]) fun r => some (eDiag r)) := fun a b c d e ha hq => Ex.cal (diag_c a b c d e) fun x hx => Ex.mk (hq x (by rw [hx]; exact ha))
  refine con eDiag_inj ok49 (t49 G _ _ m) ?_
  have two : Ex eDiag (fun d => d.code = 0 → ∀ f ∈ m.funcs.l, f.params.l.length ≤ 6) (k49_2 (K G ov n49) 0 0 0 0 0 m ((m.funcs.l.map eFunc).length : Int) 0) := by
    refine Ex.range (I := fun k => ∀ j (h : j < m.funcs.l.length), j < k → m.funcs.l[j].params.l.length ≤ 6) m.funcs.l.length (fun k => k49_2 (K G ov n49) 0 0 0 0 0 m ((m.funcs.l.map eFunc).length : Int) (k : Int)) (fun _ _ h => by omega) (fun k hk hi ih => ?_) (fun hi => ?_)
    · refine Ex.pc ok49 (t49_2 G _ _ 0 0 0 0 0 m _ _) ?_
      rw [wrapS (by omega)]
      refine Ex.cond (fun _ => Ex.cal (signature_c m k hm hk) fun n hn => Ex.cond (fun h => bad _ _ _ _ _ (by simpa [eqI_eq] using h) (fun x hx h => absurd h hx)) fun h => ih fun j hj hjk => ?_) fun h => ?_
      · by_cases e : j = k
        · subst e; exact hn (by simpa [eqI_eq] using h)
        · exact hi j hj (by omega)
      · simp [ltI_eq] at h; omega
    · refine Ex.pc ok49 (t49_2 G _ _ 0 0 0 0 0 m _ _) ?_
      refine Ex.cond (fun h => ?_) fun _ => ⟨⟨0, 0, 0, 0, 0⟩, rfl, fun _ f hf => ?_⟩
      · simp [ltI_eq] at h
      · obtain ⟨j, hj, rfl⟩ := List.getElem_of_mem hf
        exact hi j hj hj
  refine Ex.cond (fun _ => bad _ _ _ _ _ (by decide) (fun x hx h => absurd h hx)) fun _ => ?_
  refine Ex.range (I := fun _ => True) m.globals.l.length (fun k => k49_1 (K G ov n49) 0 0 0 0 0 m ((m.globals.l.map eGlobal).length : Int) (k : Int)) trivial (fun k hk _ ih => ?_) (fun _ => ?_)
  · refine Ex.pc ok49 (t49_1 G _ _ 0 0 0 0 0 m _ _) ?_
    rw [wrapS (by omega)]
    exact Ex.cond (fun _ => Ex.cal (global_c m k hm hk) fun n _ => Ex.cond (fun h => bad _ _ _ _ _ (by simpa [eqI_eq] using h) (fun x hx h => absurd h hx)) fun _ => ih trivial) fun _ => Ex.cond (fun _ => bad _ _ _ _ _ (by decide) (fun x hx h => absurd h hx)) fun _ => two
  · refine Ex.pc ok49 (t49_1 G _ _ 0 0 0 0 0 m _ _) ?_
    refine Ex.cond (fun h => ?_) fun _ => Ex.cond (fun _ => bad _ _ _ _ _ (by decide) (fun x hx h => absurd h hx)) fun _ => two
    simp [ltI_eq] at h

/-! ### terminators -/
theorem edge_c (f : LFunc) (e : LEdge) (hf : BFunc f) (he : B44 e.args) : Cal G ov enI 134 [eFunc f, eEdge e] (fun n => n = 0 → 0 < e.block ∧ e.block < f.blocks.l.length) := by
  refine con eI_inj ok134 (t134 G _ _ f e) ?_
  refine Ex.cond (fun _ => Ex.mk (by intro h; cases h)) fun h0 => Ex.cond (fun _ => Ex.mk (by intro h; cases h)) fun h1 => Ex.cond (fun _ => Ex.mk (by intro h; cases h)) fun h2 => ?_
  simp [ltI_eq, eqI_eq] at h0 h1 h2
  refine Ex.bnd (hix eBlock_inj s7 h0 (by omega)) ?_
  obtain ⟨b, hb⟩ : ∃ b, b = f.blocks.l[e.block.toNat] := ⟨_, rfl⟩
  rw [← hb]
  refine Ex.cond (fun _ => Ex.mk (by intro h; cases h)) fun h3 => Ex.cond (fun _ => Ex.mk (by intro h; cases h)) fun h4 => ?_
  simp [ltI_eq] at h3 h4
  have ok : ∀ n : Int, n = 0 → 0 < e.block ∧ e.block < f.blocks.l.length := fun _ _ => by omega
  refine Ex.range (I := fun _ => True) e.args.l.length (fun k => k134_1 (K G ov n134) f 0 b.params e.args ((e.args.l.map eI).length : Int) (k : Int)) trivial (fun k hk _ ih => ?_) (fun _ => ?_)
  · refine Ex.pc ok134 (t134_1 G _ _ f 0 b.params e.args _ _) ?_
    rw [wrapS (by omega)]
    refine Ex.cond (fun _ => Ex.bnd (hixn eI_inj en1 hk) (Ex.cal (reg_c f _) fun r hr => Ex.cond (fun h => ?_) fun _ => Ex.mk (ok _))) fun _ => Ex.mk (ok _)
    refine Ex.bnd (hixn eI_inj en1 (k := k) (by omega)) (Ex.cal (reg_c f _) fun r' hr' => Ex.cond (fun h' => ?_) fun _ => Ex.mk (ok _))
    have q1 := hr.1 h
    have q2 := hr'.1 h'
    exact Ex.bnd (hix eI_inj en1 q1.1 (by omega)) (Ex.bnd (hixn eI_inj en1 (k := k) (by omega)) (Ex.bnd (hix eI_inj en1 q2.1 (by omega)) (Ex.cond (fun _ => Ex.mk (ok _)) fun _ => ih trivial)))
  · refine Ex.pc ok134 (t134_1 G _ _ f 0 b.params e.args _ _) ?_
    refine Ex.cond (fun h => ?_) fun _ => Ex.mk (ok _)
    simp [ltI_eq] at h
end
end Go.Proofs.YtapkmhneneffdaaGreatDoor.M3.T

/-! The text ZahG. -/
namespace Go.Proofs.YtapkmhneneffdaaGreatDoor.M3.T
open Go Go.Proofs.YtapkmhneneffdaaGreatDoor.Mx Go.Proofs.YtapkmhneneffdaaGreatDoor.M3
set_option maxRecDepth 10000
section
variable {G : Gl} {ov : Nat → List V → Option V}

/-- A terminator's arguments are registers. -/
def ArgsOk (f : LFunc) (l : S Int) : Prop := ∀ j (h : j < l.l.length), 0 ≤ l.l[j] ∧ l.l[j] < f.regs.l.length

theorem cases_c (f : LFunc) (t : LTerm) (hl : B44 t.cases) (ha : ArgsOk f t.args) (h3 : t.kind = 3 → t.args.l.length = 1) : Cal G ov enI 133 [eFunc f, eTerm t] (fun _ => True) := by
  refine con eI_inj ok133 (t133 G _ _ f t) ?_
  refine Ex.range (I := fun _ => True) t.cases.l.length (fun k => k133_1 (K G ov n133) f t 0 t.cases ((t.cases.l.map eI).length : Int) (k : Int)) trivial (fun k hk _ ih => ?_) (fun _ => ?_)
  · refine Ex.pc ok133 (t133_1 G _ _ f t 0 t.cases _ _) ?_
    rw [wrapS (by omega)]
    have pre : ∀ (a b : Opd) (H : Hp), ∃ s : S Int, (q0 G ov).h (vlH (S.enc eI)) (.slice 1 a none (some b) none) [S.enc eI t.cases, eI (k : Int)] H = some s ∧ s.l.length ≤ 2 ^ 44 := fun a b H => by
      obtain ⟨s, h1, h2⟩ := hpre (G := G) (ov := ov) eI_inj en1 (s := t.cases) (Int.natCast_nonneg k) (by omega) (x := a) (y := b) (H := H)
      exact ⟨s, h1, by rw [h2]; simp; omega⟩
    have dup : ∀ (x : Int) (s : S Int), s.l.length ≤ 2 ^ 44 → Ex eI (fun _ => True) (bnd ((q0 G ov).c enB 192 [S.enc eI s, eI x]) fun r => bif r then (some (eI 7)) else (k133_1 (K G ov n133) f t 0 t.cases ((t.cases.l.map eI).length : Int) ((k + 1 : Nat) : Int))) := fun x s hs => Ex.cal (contains64_c s x hs) fun _ _ => Ex.cond (fun _ => Ex.mk trivial) fun _ => ih trivial
    refine Ex.cond (fun _ => Ex.bnd (hixn eI_inj en1 hk) ?_) fun _ => Ex.mk trivial
    have rest : ∀ x, Ex eI (fun _ => True) x → Ex eI (fun _ => True) x := fun x h => h
    refine Ex.cond (fun h => ?_) (fun _ => ?_)
    · have h1 := h3 (by simpa [eqI_eq] using h)
      obtain ⟨a, b⟩ := ha 0 (by omega)
      refine Ex.bnd (hixn (k := 0) eI_inj en1 (by omega)) (Ex.bnd (hix eI_inj en1 a (by omega)) (Ex.cal (fits_c _ _) fun _ _ => ?_))
      repeat' first | exact Ex.mk trivial | exact Ex.cal (pre _ _ _) fun s hs => dup _ s hs | refine Ex.cond (fun h => ?_) (fun h => ?_)
    · repeat' first | exact Ex.mk trivial | exact Ex.cal (pre _ _ _) fun s hs => dup _ s hs | refine Ex.cond (fun h => ?_) (fun h => ?_)
  · refine Ex.pc ok133 (t133_1 G _ _ f t 0 t.cases _ _) ?_
    refine Ex.cond (fun h => ?_) fun _ => Ex.mk trivial
    simp [ltI_eq] at h

theorem typed_c (m : LModule) (f : LFunc) (t : LTerm) (i : Nat) (y : Int) (h6 : t.kind ≠ 2 → t.kind ≠ 3 → t.kind ≠ 4 → 0 ≤ t.sym ∧ ∃ h : t.sym.toNat < m.funcs.l.length, i < m.funcs.l[t.sym.toNat].params.l.length) : Cal G ov enB 132 [eModule m, eFunc f, eTerm t, eI (i : Int), eI y] (fun _ => True) := by
  refine con b_inj ok132 (t132 G _ _ m f t i y) ?_
  refine Ex.cond (fun _ => ?_) fun h2 => Ex.cond (fun _ => ?_) fun h3 => Ex.cond (fun _ => ?_) fun h4 => ?_
  · repeat' first | exact Ex.mk trivial | refine Ex.cond (fun h => ?_) (fun h => ?_)
  · repeat' first | exact Ex.mk trivial | refine Ex.cond (fun h => ?_) (fun h => ?_)
  · repeat' first | exact Ex.mk trivial | refine Ex.cond (fun h => ?_) (fun h => ?_)
  · simp [eqI_eq] at h2 h3 h4
    obtain ⟨a, b, c⟩ := h6 h2 h3 h4
    refine Ex.bnd (hix eFunc_inj s5 a b) (Ex.bnd (hixn eI_inj en1 c) (Ex.cal (reg_c _ _) fun r hr => Ex.cond (fun h => ?_) fun _ => Ex.mk trivial))
    have q := hr.1 h
    refine Ex.bnd (hixn eI_inj en1 c) (Ex.bnd (hix eI_inj en1 q.1 (by omega)) ?_)
    repeat' first | exact Ex.mk trivial | refine Ex.cond (fun h => ?_) (fun h => ?_)

theorem shape_c (m : LModule) (f : LFunc) (t : LTerm) (h6 : t.kind ≠ 1 → t.kind ≠ 2 → t.kind ≠ 3 → t.kind ≠ 4 → t.kind ≠ 5 → 0 ≤ t.sym ∧ t.sym.toNat < m.funcs.l.length) : Cal G ov enB 131 [eModule m, eFunc f, eTerm t] (fun b => b = true → (t.kind = 3 → t.args.l.length = 1) ∧ (t.kind = 1 → t.args.l.length = 0) ∧ (t.kind = 5 → t.args.l.length = 0) ∧ (t.kind = 6 → ∀ g, m.funcs.l[t.sym.toNat]? = some g → t.args.l.length = g.params.l.length)) := by
  refine con b_inj ok131 (t131 G _ _ m f t) ?_
  have no : ∀ {Q : Bool → Prop}, (∀ b, b = false → Q b) → Ex V.b Q (some (.b false)) := fun h => Ex.mk (h _ rfl)
  have fl : ∀ b : Bool, b = false → b = true → (t.kind = 3 → t.args.l.length = 1) ∧ (t.kind = 1 → t.args.l.length = 0) ∧ (t.kind = 5 → t.args.l.length = 0) ∧ (t.kind = 6 → ∀ g, m.funcs.l[t.sym.toNat]? = some g → t.args.l.length = g.params.l.length) := fun b h h' => by rw [h] at h'; cases h'
  have last : t.kind ≠ 1 → t.kind ≠ 2 → t.kind ≠ 3 → t.kind ≠ 4 → t.kind ≠ 5 → ∀ (a b : Opd) (H : Hp) , Ex V.b (fun b => b = true → (t.kind = 3 → t.args.l.length = 1) ∧ (t.kind = 1 → t.args.l.length = 0) ∧ (t.kind = 5 → t.args.l.length = 0) ∧ (t.kind = 6 → ∀ g, m.funcs.l[t.sym.toNat]? = some g → t.args.l.length = g.params.l.length)) (bnd ((q0 G ov).h (ixH eFunc) (.iaddr 5 a b) [S.enc eFunc m.funcs, eI t.sym] H) fun n1 => bif eqI ((t.args.l.map eI).length : Int) ((n1.params.l.map eI).length : Int) then (bif eqI ((t.cases.l.map eI).length : Int) 0 then (bif eqI ((t.succs.l.map eEdge).length : Int) 0 then (some (.b true)) else (some (.b false))) else (some (.b false))) else (some (.b false))) := by
    intro a1 a2 a3 a4 a5 a b H
    obtain ⟨x, y⟩ := h6 a1 a2 a3 a4 a5
    refine Ex.bnd (hix eFunc_inj s5 x y) (Ex.cond (fun h => Ex.cond (fun _ => Ex.cond (fun _ => Ex.mk fun _ => ⟨fun h => absurd h a3, fun h => absurd h a1, fun h => absurd h a5, fun _ g hg => ?_⟩) fun _ => no fl) fun _ => no fl) fun _ => no fl)
    rw [List.getElem?_eq_getElem y] at hg
    cases hg
    have := h
    simp [eqI_eq] at this
    omega
  have et : ∀ {a b : Int}, eqI a b = true → a = b := fun h => by simpa [eqI_eq] using h
  have ef : ∀ {a b : Int}, eqI a b = false → a ≠ b := fun h => by simpa [eqI_eq] using h
  have len : ∀ {n : Nat} {l : List Int}, eqI ((l.map eI).length : Int) (n : Int) = true → l.length = n := fun h => by have := et h; simp at this; omega
  have yes : ∀ (P3 : t.kind = 3 → t.args.l.length = 1) (P1 : t.kind = 1 → t.args.l.length = 0) (P5 : t.kind = 5 → t.args.l.length = 0), t.kind ≠ 6 → Ex V.b (fun b => b = true → (t.kind = 3 → t.args.l.length = 1) ∧ (t.kind = 1 → t.args.l.length = 0) ∧ (t.kind = 5 → t.args.l.length = 0) ∧ (t.kind = 6 → ∀ g, m.funcs.l[t.sym.toNat]? = some g → t.args.l.length = g.params.l.length)) (some (.b true)) := fun P3 P1 P5 h => Ex.mk fun _ => ⟨P3, P1, P5, fun h' => absurd h' h⟩
  refine Ex.cond (fun _ => Ex.cond (fun _ => no fl) fun _ => ?_) fun _ => ?_
  all_goals
    refine Ex.cond (fun k1 => ?_) fun k1 => Ex.cond (fun k2 => ?_) fun k2 => Ex.cond (fun k3 => ?_) fun k3 => Ex.cond (fun k4 => ?_) fun k4 => Ex.cond (fun k5 => ?_) fun k5 => last (ef k1) (ef k2) (ef k3) (ef k4) (ef k5) _ _ _
    · have k1 := et k1
      exact Ex.cond (fun h => Ex.cond (fun _ => Ex.cond (fun _ => yes (fun h => by omega) (fun _ => len (n := 0) h) (fun h => by omega) (by omega)) fun _ => no fl) fun _ => no fl) fun _ => no fl
    · have k2 := et k2
      exact Ex.cond (fun h => Ex.cond (fun _ => Ex.cond (fun _ => yes (fun h => by omega) (fun h => by omega) (fun h => by omega) (by omega)) fun _ => no fl) fun _ => no fl) fun _ => no fl
    · have k3 := et k3
      exact Ex.cond (fun h => Ex.cond (fun _ => yes (fun _ => len (n := 1) h) (fun h => by omega) (fun h => by omega) (by omega)) fun _ => no fl) fun _ => no fl
    · have k4 := et k4
      exact Ex.cond (fun _ => Ex.cond (fun h => Ex.cond (fun _ => Ex.cond (fun _ => yes (fun h => by omega) (fun h => by omega) (fun h => by omega) (by omega)) fun _ => no fl) fun _ => no fl) fun _ => no fl) fun _ => Ex.cond (fun h => Ex.cond (fun _ => Ex.cond (fun _ => yes (fun h => by omega) (fun h => by omega) (fun h => by omega) (by omega)) fun _ => no fl) fun _ => no fl) fun _ => no fl
    · have k5 := et k5
      exact Ex.cond (fun h => Ex.cond (fun _ => Ex.cond (fun _ => yes (fun h => by omega) (fun h => by omega) (fun _ => len (n := 0) h) (by omega)) fun _ => no fl) fun _ => no fl) fun _ => no fl

theorem terminator_c (m : LModule) (f : LFunc) (t : LTerm) (hf : BFunc f) (ht : BTerm t) : Cal G ov enI 90 [eModule m, eFunc f, eTerm t] (fun n => n = 0 → ∀ e ∈ t.succs.l, 0 < e.block ∧ e.block < f.blocks.l.length) := by
  have et : ∀ {a b : Int}, eqI a b = true → a = b := fun h => by simpa [eqI_eq] using h
  have ef : ∀ {a b : Int}, eqI a b = false → a ≠ b := fun h => by simpa [eqI_eq] using h
  have hs := ht.succs
  have ha := ht.args
  have no : ∀ n : Int, n ≠ 0 → Ex eI (fun n : Int => n = 0 → ∀ e ∈ t.succs.l, 0 < e.block ∧ e.block < f.blocks.l.length) (some (eI n)) := fun n hn => Ex.mk fun h => absurd h hn
  refine con eI_inj ok90 (t90 G _ _ m f t) ?_
  -- the edges
  have two : ∀ a : Int, Ex eI (fun n : Int => n = 0 → ∀ e ∈ t.succs.l, 0 < e.block ∧ e.block < f.blocks.l.length) (k90_2 (K G ov n90) f a t.succs ((t.succs.l.map eEdge).length : Int) 0) := by
    intro a
    refine Ex.range (I := fun k => ∀ j (h : j < t.succs.l.length), j < k → 0 < t.succs.l[j].block ∧ t.succs.l[j].block < f.blocks.l.length) t.succs.l.length (fun k => k90_2 (K G ov n90) f a t.succs ((t.succs.l.map eEdge).length : Int) (k : Int)) (fun _ _ h => by omega) (fun k hk hi ih => ?_) (fun hi => ?_)
    · refine Ex.pc ok90 (t90_2 G _ _ f a t.succs _ _) ?_
      rw [wrapS (by omega)]
      refine Ex.cond (fun _ => Ex.bnd (hixn eEdge_inj s2 hk) (Ex.cal (edge_c f _ hf (ht.edges _ (List.getElem_mem hk))) fun n hn => Ex.cond (fun h => no _ (by simpa [eqI_eq] using h)) fun h => ih fun j hj hjk => ?_)) fun h => ?_
      · by_cases e : j = k
        · subst e; exact hn (by simpa [eqI_eq] using h)
        · exact hi j hj (by omega)
      · simp [ltI_eq] at h; omega
    · refine Ex.pc ok90 (t90_2 G _ _ f a t.succs _ _) ?_
      refine Ex.cond (fun h => ?_) fun _ => Ex.mk fun _ e he => ?_
      · simp [ltI_eq] at h
      · obtain ⟨j, hj, rfl⟩ := List.getElem_of_mem he
        exact hi j hj hj
  -- the arguments
  have one : (t.kind = 6 → 0 ≤ t.sym ∧ t.sym.toNat < m.funcs.l.length) → (1 ≤ t.kind ∧ t.kind ≤ 6) → ((t.kind = 3 → t.args.l.length = 1) ∧ (t.kind = 1 → t.args.l.length = 0) ∧ (t.kind = 5 → t.args.l.length = 0) ∧ (t.kind = 6 → ∀ g, m.funcs.l[t.sym.toNat]? = some g → t.args.l.length = g.params.l.length)) → Ex eI (fun n : Int => n = 0 → ∀ e ∈ t.succs.l, 0 < e.block ∧ e.block < f.blocks.l.length) (k90_1 (K G ov n90) m f t 0 t.args ((t.args.l.map eI).length : Int) 0) := by
    intro h6 hk ⟨g3, g1, g5, g6⟩
    have rest : ArgsOk f t.args → Ex eI (fun n : Int => n = 0 → ∀ e ∈ t.succs.l, 0 < e.block ∧ e.block < f.blocks.l.length) (bnd ((q0 G ov).c enI 133 [eFunc f, eTerm t]) fun r7 => bif !(eqI r7 0) then (some (eI r7)) else (k90_2 (K G ov n90) f 0 t.succs ((t.succs.l.map eEdge).length : Int) 0)) := by
      intro hA
      exact Ex.cal (cases_c f t ht.cases hA g3) fun n _ => Ex.cond (fun h => no _ (by simpa [eqI_eq] using h)) fun _ => two 0
    refine Ex.range (I := fun k => ∀ j (h : j < t.args.l.length), j < k → 0 ≤ t.args.l[j] ∧ t.args.l[j] < f.regs.l.length) t.args.l.length (fun k => k90_1 (K G ov n90) m f t 0 t.args ((t.args.l.map eI).length : Int) (k : Int)) (fun _ _ h => by omega) (fun k hk' hi ih => ?_) (fun hi => ?_)
    · refine Ex.pc ok90 (t90_1 G _ _ m f t 0 t.args _ _) ?_
      rw [wrapS (by omega)]
      refine Ex.cond (fun _ => Ex.bnd (hixn eI_inj en1 hk') (Ex.cal (reg_c f _) fun r hr => Ex.cond (fun h => ?_) fun _ => no _ (by decide))) fun h => ?_
      · have q := hr.1 h
        refine Ex.bnd (hix eI_inj en1 q.1 (by omega)) (Ex.cal (typed_c m f t k _ fun a2 a3 a4 => ?_) fun r _ => Ex.cond (fun _ => ih fun j hj hjk => ?_) fun _ => no _ (by decide))
        · by_cases e6 : t.kind = 6
          · obtain ⟨x, y⟩ := h6 e6
            exact ⟨x, y, by have := g6 e6 _ (List.getElem?_eq_getElem y); omega⟩
          · exfalso
            have : t.kind = 1 ∨ t.kind = 5 := by omega
            rcases this with e | e
            · have := g1 e; omega
            · have := g5 e; omega
        · by_cases e : j = k
          · subst e; exact q
          · exact hi j hj (by omega)
      · simp [ltI_eq] at h; omega
    · refine Ex.pc ok90 (t90_1 G _ _ m f t 0 t.args _ _) ?_
      have hA : ArgsOk f t.args := fun j h => hi j h h
      refine Ex.cond (fun h => ?_) fun _ => Ex.cond (fun h => ?_) fun _ => rest hA
      · simp [ltI_eq] at h
      · obtain ⟨x, y⟩ := h6 (et h)
        exact Ex.bnd (hix eFunc_inj s5 x y) (Ex.cond (fun _ => no _ (by decide)) fun _ => rest hA)
  refine Ex.cond (fun _ => no _ (by decide)) fun h1 => Ex.cond (fun _ => no _ (by decide)) fun h2 => ?_
  have hk : 1 ≤ t.kind ∧ t.kind ≤ 6 := by simp [ltI_eq] at h1 h2; omega
  have sh : (t.kind = 6 → 0 ≤ t.sym ∧ t.sym.toNat < m.funcs.l.length) → Ex eI (fun n : Int => n = 0 → ∀ e ∈ t.succs.l, 0 < e.block ∧ e.block < f.blocks.l.length) (bnd ((q0 G ov).c enB 131 [eModule m, eFunc f, eTerm t]) fun r => bif r then (k90_1 (K G ov n90) m f t 0 t.args ((t.args.l.map eI).length : Int) 0) else (some (eI 3))) := fun h6 =>
    Ex.cal (shape_c m f t fun a1 a2 a3 a4 a5 => h6 (by omega)) fun b hb => Ex.cond (fun h => one h6 hk (hb h)) fun _ => no _ (by decide)
  refine Ex.cond (fun h => Ex.cond (fun _ => no _ (by decide)) fun h3 => Ex.cond (fun _ => no _ (by decide)) fun h4 => ?_) fun h => ?_
  · have hs : t.kind = 6 → 0 ≤ t.sym ∧ t.sym.toNat < m.funcs.l.length := fun _ => by simp [ltI_eq] at h3 h4; omega
    exact Ex.cond (fun _ => Ex.cond (fun _ => no _ (by decide)) fun _ => sh hs) fun _ => sh hs
  · have hs : t.kind = 6 → 0 ≤ t.sym ∧ t.sym.toNat < m.funcs.l.length := fun e => absurd e (ef h)
    exact Ex.cond (fun _ => Ex.cond (fun _ => no _ (by decide)) fun _ => sh hs) fun _ => sh hs
end
end Go.Proofs.YtapkmhneneffdaaGreatDoor.M3.T
