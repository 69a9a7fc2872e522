/- What the fast machine's values mean on the second machine; views, temporaries, memory. -/
import Derived.Test.YtiphbdhclldllaaGreatDoorZagC
set_option linter.unusedSimpArgs false
set_option linter.unusedVariables false
namespace Go.Proofs.YtiphbdhclldllaaGreatDoor.M4
open Go Go.Proofs.YtiphbdhclldllaaGreatDoor.Mx

/-- What the tokens stand for: numbers, and their digits. -/
structure Vl where
  n : Nat → Int
  d : Nat → List UInt8

def dr (W : Vl) (g : Nat) (x : X) (v : Value) (vs : List Value) : Value :=
  match g with
  | 0 => .tuple vs.toArray
  | 1 => .pointer none
  | 2 => .slice none 0 0
  | 3 => .map none
  | 4 => match x with
    | .p _ id => .map (some id)
    | _ => opq
  | 5 => match x with
    | .p l n => .string ⟨(byt l n).toArray⟩
    | _ => opq
  | 6 => match vs with
    | .int _ g :: .agg a :: .agg b :: _ => .func (.func g.toNat) a b
    | _ => opq
  | 7 => .nilFunc
  | 8 => .nilIface
  | 9 => match vs with
    | .int _ t :: v :: _ => .iface t.toNat v
    | _ => opq
  | 10 => junk
  | 11 => opq
  | 12 => match x with
    | .p k i => .int (kOf k) ((kOf k).wrap (W.n i))
    | _ => opq
  | 13 => match x with
    | .c (.p l n) (.p _ i) => .string ⟨(byt l n ++ W.d i).toArray⟩
    | _ => opq
  | 14 => pan v
  | _ => junk

def dx (W : Vl) : X → Value × List Value
  | .p k n => (.int (kOf k) (.ofNat n), [])
  | .m k n => (.int (kOf k) (.negSucc n), [])
  | .b t => (.bool t, [])
  | .pt id off => (.pointer (some ⟨id, off, none⟩), [])
  | .sl id off mk l c => (.slice (some ⟨id, off, some mk⟩) l c, [])
  | .ag l => (.agg (dx W l).2.toArray, [])
  | .e => (undef, [])
  | .c x l => (junk, (dx W x).1 :: (dx W l).2)
  | .r g x => (dr W g x (dx W x).1 (dx W x).2, [])
def dec (W : Vl) (x : X) : Value := (dx W x).1
def decs (W : Vl) (x : X) : List Value := (dx W x).2

section
variable {W : Vl}
theorem dec_p (k n) : dec W (.p k n) = .int (kOf k) (.ofNat n) := rfl
theorem dec_m (k n) : dec W (.m k n) = .int (kOf k) (.negSucc n) := rfl
theorem dec_b (t) : dec W (.b t) = .bool t := rfl
theorem dec_pt (i o) : dec W (.pt i o) = .pointer (some ⟨i, o, none⟩) := rfl
theorem dec_sl (i o m l c) : dec W (.sl i o m l c) = .slice (some ⟨i, o, some m⟩) l c := rfl
theorem dec_ag (l) : dec W (.ag l) = .agg (decs W l).toArray := rfl
theorem dec_e : dec W .e = undef := rfl
theorem dec_c (x l) : dec W (.c x l) = junk := rfl
theorem dec_r (g x) : dec W (.r g x) = dr W g x (dec W x) (decs W x) := rfl
theorem decs_e : decs W .e = [] := rfl
theorem decs_c (x l) : decs W (.c x l) = dec W x :: decs W l := rfl

theorem force_eq (x : X) (k : X → Bool) : force x k = k x := by cases x <;> rfl
theorem nat_eq (n : Nat) (k : Nat → Bool) : nat n k = k n := by cases n <;> rfl
theorem and4_eq (a b : Bool) : and4 a b = (a && b) := by cases a <;> rfl
theorem and4_ok {a b : Bool} (h : and4 a b = true) : a = true ∧ b = true := by rw [and4_eq, Bool.and_eq_true] at h; exact h
theorem if_ok {c a b : Bool} (h : Bool.rec (motive := fun _ => Bool) a b c = true) : (c = true ∧ b = true) ∨ (c = false ∧ a = true) := by
  cases c <;> first | exact .inr ⟨rfl, h⟩ | exact .inl ⟨rfl, h⟩
theorem if_t {c b : Bool} (h : Bool.rec (motive := fun _ => Bool) false b c = true) : c = true ∧ b = true := by
  cases c <;> first | exact absurd h Bool.false_ne_true | exact ⟨rfl, h⟩
theorem if_f {c a : Bool} (h : Bool.rec (motive := fun _ => Bool) a false c = true) : c = false ∧ a = true := by
  cases c <;> first | exact ⟨rfl, h⟩ | exact absurd h Bool.false_ne_true
theorem pos_ok {n : Nat} {r : Bool} (h : pos n r = true) : 0 < n ∧ r = true := by
  cases n <;> first | exact absurd h Bool.false_ne_true | exact ⟨Nat.succ_pos _, h⟩

theorem viewP_ok {x : X} {k : Nat → Nat → Bool} {no : Bool} (h : viewP x k no = true) : (∃ a n, x = .p a n ∧ k a n = true) ∨ ((∀ a n, x ≠ .p a n) ∧ no = true) := by
  cases x
  case p a n => exact .inl ⟨a, n, rfl, h⟩
  all_goals exact .inr ⟨fun _ _ e => X.noConfusion e, h⟩
theorem viewP_f {x : X} {k : Nat → Nat → Bool} (h : viewP x k false = true) : ∃ a n, x = .p a n ∧ k a n = true := by
  rcases viewP_ok h with h | ⟨_, h⟩
  · exact h
  · cases h
theorem viewB_ok {x : X} {t f : Bool} (h : viewB x t f = true) : (x = .b true ∧ t = true) ∨ (x = .b false ∧ f = true) := by
  cases x
  case b b => cases b <;> first | exact .inr ⟨rfl, h⟩ | exact .inl ⟨rfl, h⟩
  all_goals exact absurd h Bool.false_ne_true
theorem viewPt_ok {x : X} {k : Nat → Nat → Bool} (h : viewPt x k = true) : ∃ a n, x = .pt a n ∧ k a n = true := by
  cases x
  case pt a n => exact ⟨a, n, rfl, h⟩
  all_goals exact absurd h Bool.false_ne_true
theorem viewSl_ok {x : X} {k : Nat → Nat → Nat → Nat → Nat → Bool} {nl : Bool} (h : viewSl x k nl = true) : (∃ i o m l c, x = .sl i o m l c ∧ k i o m l c = true) ∨ (∃ y, x = .r 2 y ∧ nl = true) := by
  cases x
  case sl i o m l c => exact .inl ⟨i, o, m, l, c, rfl, h⟩
  case r g y =>
    obtain ⟨h1, h2⟩ := if_t h
    exact .inr ⟨y, by rw [Nat.eq_of_beq_eq_true h1], h2⟩
  all_goals exact absurd h Bool.false_ne_true
theorem viewAg_ok {x : X} {k : X → Bool} (h : viewAg x k = true) : ∃ l, x = .ag l ∧ k l = true := by
  cases x
  case ag l => exact ⟨l, rfl, h⟩
  all_goals exact absurd h Bool.false_ne_true
theorem viewR_ok {x : X} {g : Nat} {k : X → Bool} {no : Bool} (h : viewR x g k no = true) : (∃ y, x = .r g y ∧ k y = true) ∨ ((∀ y, x ≠ .r g y) ∧ no = true) := by
  cases x
  case r g' y =>
    rcases if_ok (c := Nat.beq g' g) h with ⟨h1, h2⟩ | ⟨h1, h2⟩
    · have := Nat.eq_of_beq_eq_true h1
      subst this
      exact .inl ⟨y, rfl, h2⟩
    · refine .inr ⟨fun y' e => ?_, h2⟩
      cases e
      rw [Nat.beq_refl] at h1
      cases h1
  all_goals exact .inr ⟨fun _ e => X.noConfusion e, h⟩
theorem viewR_f {x : X} {g : Nat} {k : X → Bool} (h : viewR x g k false = true) : ∃ y, x = .r g y ∧ k y = true := by
  rcases viewR_ok h with h | ⟨_, h⟩
  · exact h
  · cases h
theorem consX_ok {l : X} {k : X → X → Bool} (h : consX l k = true) : ∃ x r, l = .c x r ∧ k x r = true := by
  cases l
  case c x r => exact ⟨x, r, rfl, h⟩
  all_goals exact absurd h Bool.false_ne_true
theorem headX_ok {l : X} {k : X → Bool} (h : headX l k = true) : ∃ x r, l = .c x r ∧ k x = true := by
  cases l
  case c x r => exact ⟨x, r, rfl, h⟩
  all_goals exact absurd h Bool.false_ne_true
theorem viewF_ok {x : X} {k : Nat → X → X → Bool} (h : viewF x k = true) : ∃ y g u v, x = .r 6 y ∧ dec W x = .func (.func g) (decs W u).toArray (decs W v).toArray ∧ k g u v = true := by
  obtain ⟨y, rfl, h⟩ := viewR_f h
  obtain ⟨a, y, rfl, h⟩ := consX_ok h
  obtain ⟨kk, g, rfl, h⟩ := viewP_f h
  obtain ⟨u, y, rfl, h⟩ := consX_ok h
  obtain ⟨u, rfl, h⟩ := viewAg_ok h
  obtain ⟨v, y, rfl, h⟩ := headX_ok h
  obtain ⟨v, rfl, h⟩ := viewAg_ok h
  exact ⟨_, g, u, v, rfl, rfl, h⟩

/-! ### temporaries -/
def gv : List D → E → X
  | _, .nil => .e
  | [], .nd x _ _ _ _ => x
  | .d0 :: p, .nd _ a _ _ _ => gv p a
  | .d1 :: p, .nd _ _ b _ _ => gv p b
  | .d2 :: p, .nd _ _ _ c _ => gv p c
  | .d3 :: p, .nd _ _ _ _ d => gv p d
theorem gv_nil (p : List D) : gv p .nil = .e := by cases p <;> rfl
theorem getp_eq : ∀ (p : List D) (e : E), Bx.rec (motive := fun _ => _) (fun f => f) (getp p) e = gv p e
  | [], .nil => rfl
  | [], .nd _ _ _ _ _ => rfl
  | .d0 :: p, .nil => rfl
  | .d1 :: p, .nil => rfl
  | .d2 :: p, .nil => rfl
  | .d3 :: p, .nil => rfl
  | .d0 :: p, .nd _ a _ _ _ => getp_eq p a
  | .d1 :: p, .nd _ _ b _ _ => getp_eq p b
  | .d2 :: p, .nd _ _ _ c _ => getp_eq p c
  | .d3 :: p, .nd _ _ _ _ d => getp_eq p d
theorem setp_ok : ∀ (p : List D) (e : E) (x : X) (k : E → Bool), Bx.rec (motive := fun _ => _) (fun f => f) (setp p) e x k = true → ∃ e', k e' = true ∧ ∀ q, gv q e' = if q = p then x else gv q e
  | [], .nil, x, k, h => ⟨_, h, fun q => by cases q with | nil => (first | rfl | simp [gv]) | cons d q => (cases d <;> simp [gv, gv_nil])⟩
  | [], .nd _ _ _ _ _, x, k, h => ⟨_, h, fun q => by cases q with | nil => (first | rfl | simp [gv]) | cons d q => (cases d <;> simp [gv])⟩
  | .d0 :: p, .nil, x, k, h => by
    obtain ⟨e', h1, h2⟩ := setp_ok p .nil x _ h
    exact ⟨_, h1, fun q => by cases q with | nil => (first | rfl | simp [gv]) | cons d q => (cases d <;> simp [gv, gv_nil, h2])⟩
  | .d1 :: p, .nil, x, k, h => by
    obtain ⟨e', h1, h2⟩ := setp_ok p .nil x _ h
    exact ⟨_, h1, fun q => by cases q with | nil => (first | rfl | simp [gv]) | cons d q => (cases d <;> simp [gv, gv_nil, h2])⟩
  | .d2 :: p, .nil, x, k, h => by
    obtain ⟨e', h1, h2⟩ := setp_ok p .nil x _ h
    exact ⟨_, h1, fun q => by cases q with | nil => (first | rfl | simp [gv]) | cons d q => (cases d <;> simp [gv, gv_nil, h2])⟩
  | .d3 :: p, .nil, x, k, h => by
    obtain ⟨e', h1, h2⟩ := setp_ok p .nil x _ h
    exact ⟨_, h1, fun q => by cases q with | nil => (first | rfl | simp [gv]) | cons d q => (cases d <;> simp [gv, gv_nil, h2])⟩
  | .d0 :: p, .nd _ a _ _ _, x, k, h => by
    obtain ⟨e', h1, h2⟩ := setp_ok p a x _ h
    exact ⟨_, h1, fun q => by cases q with | nil => (first | rfl | simp [gv]) | cons d q => (cases d <;> simp [gv, h2])⟩
  | .d1 :: p, .nd _ _ b _ _, x, k, h => by
    obtain ⟨e', h1, h2⟩ := setp_ok p b x _ h
    exact ⟨_, h1, fun q => by cases q with | nil => (first | rfl | simp [gv]) | cons d q => (cases d <;> simp [gv, h2])⟩
  | .d2 :: p, .nd _ _ _ c _, x, k, h => by
    obtain ⟨e', h1, h2⟩ := setp_ok p c x _ h
    exact ⟨_, h1, fun q => by cases q with | nil => (first | rfl | simp [gv]) | cons d q => (cases d <;> simp [gv, h2])⟩
  | .d3 :: p, .nd _ _ _ _ d, x, k, h => by
    obtain ⟨e', h1, h2⟩ := setp_ok p d x _ h
    exact ⟨_, h1, fun q => by cases q with | nil => (first | rfl | simp [gv]) | cons d q => (cases d <;> simp [gv, h2])⟩

def codeD : D → Nat
  | .d0 => 0 | .d1 => 1 | .d2 => 2 | .d3 => 3
def unpath : List D → Nat
  | [] => 0
  | d :: p => 4 * unpath p + codeD d + 1
theorem codeD_digit {n : Nat} (h : n < 4) : codeD (digit n) = n := by
  rcases n with _ | _ | _ | _ | n
  all_goals first | rfl | omega
theorem unpathF : ∀ (f n : Nat), n < f → unpath (pathF f n) = n
  | 0, n, h => by omega
  | f + 1, 0, _ => rfl
  | f + 1, n + 1, h => by
    simp only [pathF, unpath]
    rw [unpathF f (n / 4) (by omega), codeD_digit (by omega)]
    omega
theorem path_inj {n m : Nat} (h : path n = path m) : n = m := by
  have := congrArg unpath h
  unfold path at this
  rwa [unpathF _ _ (by omega), unpathF _ _ (by omega)] at this

def TR (W : Vl) (T4 : E) (T : Tr Value) : Prop := ∀ n, rd T n = dec W (gv (path n) T4)
theorem TR.get {T4 : E} {T : Tr Value} (h : TR W T4 T) (n : Nat) : dec W (Bx.rec (motive := fun _ => _) (fun f => f) (getT n) T4) = rd T n := by rw [h n]; unfold getT; rw [getp_eq]
theorem TR.nil : TR W .nil .nil := fun n => by rw [gv_nil]; rfl
theorem setT_ok {T4 : E} {T : Tr Value} (h : TR W T4 T) {n : Nat} {x : X} {k : E → Bool} (hk : Bx.rec (motive := fun _ => _) (fun f => f) (setT n) T4 x k = true) : ∃ T4', k T4' = true ∧ TR W T4' (T.set n (dec W x)) := by
  unfold setT at hk
  obtain ⟨e', h1, h2⟩ := setp_ok _ _ _ _ hk
  refine ⟨e', h1, fun m => ?_⟩
  rw [h2]
  unfold rd
  rw [Tr.get_set]
  by_cases hm : n = m
  · subst hm; rw [if_pos rfl, if_pos rfl]; rfl
  · rw [if_neg hm, if_neg (fun e => hm (path_inj e).symm)]; exact h m

/-! ### memory -/
theorem F.get_nil (n : Nat) : F.get .nil n = .no := rfl
theorem F.get_zero (o a b c d) : F.get (.nd o a b c d) 0 = o := rfl
def sel4 (a b c d : F) (i : Nat) : F := match i with | 0 => a | 1 => b | 2 => c | _ => d
theorem F.get_succ (o a b c d) (n : Nat) : F.get (.nd o a b c d) (n + 1) = F.get (sel4 a b c d (n % 4)) (n / 4) := by
  have h : F.get (.nd o a b c d) (n + 1) = Nat.rec (motive := fun _ => O) (F.get a (n / 4)) (fun d' _ => Nat.rec (motive := fun _ => O) (F.get b (n / 4)) (fun d' _ => Nat.rec (motive := fun _ => O) (F.get c (n / 4)) (fun _ _ => F.get d (n / 4)) d') d') (n % 4) := rfl
  rw [h]
  rcases n % 4 with _ | _ | _ | _ <;> rfl
theorem F.set_ok : ∀ (fuel : Nat) (f : F) (n : Nat) (o : O) (k : F → Bool), F.set fuel f n o k = true → ∃ f', k f' = true ∧ ∀ m, f'.get m = if m = n then o else f.get m
  | 0, _, _, _, _, h => absurd h Bool.false_ne_true
  | fuel + 1, f, 0, o, k, h => by
    cases f with
    | nil => exact ⟨_, h, fun m => by cases m with | zero => rfl | succ m => (rw [F.get_succ, if_neg (by omega)]; rcases m % 4 with _ | _ | _ | _ <;> rfl)⟩
    | nd x a b c d => exact ⟨_, h, fun m => by cases m with | zero => rfl | succ m => (rw [F.get_succ, F.get_succ, if_neg (by omega)])⟩
  | fuel + 1, .nil, n + 1, o, k, h => by
    have h' : Nat.rec (motive := fun _ => Bool) (F.set fuel .nil (n / 4) o fun f' => k (.nd .no f' .nil .nil .nil)) (fun d _ => Nat.rec (motive := fun _ => Bool) (F.set fuel .nil (n / 4) o fun f' => k (.nd .no .nil f' .nil .nil)) (fun d _ => Nat.rec (motive := fun _ => Bool) (F.set fuel .nil (n / 4) o fun f' => k (.nd .no .nil .nil f' .nil)) (fun _ _ => F.set fuel .nil (n / 4) o fun f' => k (.nd .no .nil .nil .nil f')) d) d) (n % 4) = true := h
    have key : ∀ (f' : F) (i : Nat), i = n % 4 → (∀ m, f'.get m = if m = n / 4 then o else F.get .nil m) → ∀ (g : F), (∀ j q, (match g with | .nil => O.no | .nd _ a b c d => F.get (sel4 a b c d (j % 4)) q) = if j % 4 = i then f'.get q else .no) → (∃ a b c d, g = .nd .no a b c d) → ∀ m, g.get m = if m = n + 1 then o else F.get .nil m := by
      rintro f' i hi hf g hg ⟨a, b, c, d, rfl⟩ m
      rcases m with _ | m
      · rw [if_neg (by omega)]; rfl
      · rw [F.get_succ]
        have := hg m (m / 4)
        simp only at this
        rw [this, F.get_nil]
        by_cases hm : m % 4 = i
        · rw [if_pos hm, hf, F.get_nil]
          by_cases h2 : m / 4 = n / 4
          · rw [if_pos h2, if_pos (by omega)]
          · rw [if_neg h2, if_neg (by omega)]
        · rw [if_neg hm, if_neg (by omega)]
    have hlt : n % 4 < 4 := Nat.mod_lt _ (by omega)
    generalize hi : n % 4 = i at h' key hlt
    rcases i with _ | _ | _ | _ | i
    · obtain ⟨f', h1, h2⟩ := F.set_ok fuel _ _ _ _ h'
      refine ⟨_, h1, key f' 0 rfl h2 _ (fun j q => ?_) ⟨_, _, _, _, rfl⟩⟩
      have : j % 4 < 4 := Nat.mod_lt _ (by omega)
      rcases hj : j % 4 with _ | _ | _ | _ | j' <;> simp [sel4, F.get_nil]
    · obtain ⟨f', h1, h2⟩ := F.set_ok fuel _ _ _ _ h'
      refine ⟨_, h1, key f' 1 rfl h2 _ (fun j q => ?_) ⟨_, _, _, _, rfl⟩⟩
      have : j % 4 < 4 := Nat.mod_lt _ (by omega)
      rcases hj : j % 4 with _ | _ | _ | _ | j' <;> simp [sel4, F.get_nil]
    · obtain ⟨f', h1, h2⟩ := F.set_ok fuel _ _ _ _ h'
      refine ⟨_, h1, key f' 2 rfl h2 _ (fun j q => ?_) ⟨_, _, _, _, rfl⟩⟩
      have : j % 4 < 4 := Nat.mod_lt _ (by omega)
      rcases hj : j % 4 with _ | _ | _ | _ | j' <;> simp [sel4, F.get_nil]
    · obtain ⟨f', h1, h2⟩ := F.set_ok fuel _ _ _ _ h'
      refine ⟨_, h1, key f' 3 rfl h2 _ (fun j q => ?_) ⟨_, _, _, _, rfl⟩⟩
      have : j % 4 < 4 := Nat.mod_lt _ (by omega)
      rcases hj : j % 4 with _ | _ | _ | _ | j' <;> simp [sel4, F.get_nil]
      omega
    · omega
  | fuel + 1, .nd y a b c d, n + 1, o, k, h => by
    have h' : Nat.rec (motive := fun _ => Bool) (F.set fuel a (n / 4) o fun f' => k (.nd y f' b c d)) (fun g _ => Nat.rec (motive := fun _ => Bool) (F.set fuel b (n / 4) o fun f' => k (.nd y a f' c d)) (fun g _ => Nat.rec (motive := fun _ => Bool) (F.set fuel c (n / 4) o fun f' => k (.nd y a b f' d)) (fun _ _ => F.set fuel d (n / 4) o fun f' => k (.nd y a b c f')) g) g) (n % 4) = true := h
    have key : ∀ (f' : F) (i : Nat), i = n % 4 → (∀ m, f'.get m = if m = n / 4 then o else (sel4 a b c d i).get m) → ∀ (a' b' c' d' : F), (∀ j q, F.get (sel4 a' b' c' d' (j % 4)) q = if j % 4 = i then f'.get q else F.get (sel4 a b c d (j % 4)) q) → ∀ m, (F.nd y a' b' c' d').get m = if m = n + 1 then o else F.get (.nd y a b c d) m := by
      intro f' i hi hf a' b' c' d' hg m
      rcases m with _ | m
      · rw [if_neg (by omega)]; rfl
      · rw [F.get_succ, F.get_succ, hg]
        by_cases hm : m % 4 = i
        · rw [if_pos hm, hf]
          by_cases h2 : m / 4 = n / 4
          · rw [if_pos h2, if_pos (by omega)]
          · rw [if_neg h2, if_neg (by omega), hm]
        · rw [if_neg hm, if_neg (by omega)]
    have hlt : n % 4 < 4 := Nat.mod_lt _ (by omega)
    generalize hi : n % 4 = i at h' key hlt
    rcases i with _ | _ | _ | _ | i
    · obtain ⟨f', h1, h2⟩ := F.set_ok fuel _ _ _ _ h'
      refine ⟨_, h1, key f' 0 rfl h2 _ _ _ _ (fun j q => ?_)⟩
      have : j % 4 < 4 := Nat.mod_lt _ (by omega)
      rcases hj : j % 4 with _ | _ | _ | _ | j' <;> simp [sel4]
    · obtain ⟨f', h1, h2⟩ := F.set_ok fuel _ _ _ _ h'
      refine ⟨_, h1, key f' 1 rfl h2 _ _ _ _ (fun j q => ?_)⟩
      have : j % 4 < 4 := Nat.mod_lt _ (by omega)
      rcases hj : j % 4 with _ | _ | _ | _ | j' <;> simp [sel4]
    · obtain ⟨f', h1, h2⟩ := F.set_ok fuel _ _ _ _ h'
      refine ⟨_, h1, key f' 2 rfl h2 _ _ _ _ (fun j q => ?_)⟩
      have : j % 4 < 4 := Nat.mod_lt _ (by omega)
      rcases hj : j % 4 with _ | _ | _ | _ | j' <;> simp [sel4]
    · obtain ⟨f', h1, h2⟩ := F.set_ok fuel _ _ _ _ h'
      refine ⟨_, h1, key f' 3 rfl h2 _ _ _ _ (fun j q => ?_)⟩
      have : j % 4 < 4 := Nat.mod_lt _ (by omega)
      rcases hj : j % 4 with _ | _ | _ | _ | j' <;> simp [sel4]
      omega
    · omega
end
end Go.Proofs.YtiphbdhclldllaaGreatDoor.M4
