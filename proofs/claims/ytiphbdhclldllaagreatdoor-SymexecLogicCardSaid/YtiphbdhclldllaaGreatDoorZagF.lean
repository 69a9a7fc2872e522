/- Operations on values. -/
import Derived.Test.YtiphbdhclldllaaGreatDoorZagE
import Derived.Laws.Strings
set_option linter.unusedSimpArgs false
set_option linter.unusedVariables false
namespace Go.Proofs.YtiphbdhclldllaaGreatDoor.M4
open Go Go.Proofs.YtiphbdhclldllaaGreatDoor.Mx

/-- What is told of tokens is so. -/
structure TkOk (Q : Tk) (W : Vl) : Prop where
  lo : ∀ i, -9223372036854775808 ≤ W.n i
  hi : ∀ i, W.n i ≤ 9223372036854775807
  tt : ∀ i j b, Q.tt i j = some b → decide (W.n i = W.n j) = b
  tl : ∀ i m b, Q.tl i m = some b → decide (W.n i = m) = b
  ne : ∀ i, W.d i ≠ []
  dg : ∀ i b, b ∈ W.d i → 48 ≤ b.toNat ∧ b.toNat ≤ 57

section
variable {W : Vl} {Q : Tk}

theorem wrap64 {n : Int} (h0 : -9223372036854775808 ≤ n) (h1 : n ≤ 9223372036854775807) : IntKind.i64.wrap n = n := by
  show (let m := n % (2 ^ 64 : Int); if true && m ≥ (2 ^ 63 : Int) then m - (2 ^ 64 : Int) else m) = n
  simp only [Bool.true_and, decide_eq_true_eq]
  split <;> omega
theorem wrapu64 (n : Int) : IntKind.u64.wrap n = n % 18446744073709551616 := by
  show (let m := n % (2 ^ 64 : Int); if false && m ≥ (2 ^ 63 : Int) then m - (2 ^ 64 : Int) else m) = _
  simp
theorem kEq_ok {a b : Nat} (h : Nat.beq a b = true) : a = b := Nat.eq_of_beq_eq_true h
theorem is64_ok {k : Nat} (h : is64 k = true) : k = 0 ∨ k = 7 := by
  unfold is64 at h
  rw [Bool.or_eq_true] at h
  exact h.imp kEq_ok kEq_ok

theorem binV_m {op : BinOp} {m : EqM} (h1 : op ≠ .eql) (h2 : op ≠ .neq) (x y : Value) : binV op m x y = binV op .no x y := by
  cases op <;> first | exact absurd rfl h1 | exact absurd rfl h2 | (cases x <;> first | rfl | (cases y <;> rfl))

theorem addX_ok {m : EqM} {x y : X} {k : X → Bool} (h : addX x y k = true) : ∃ z, binV .add m (dec W x) (dec W y) = some (dec W z) ∧ k z = true := by
  have slow : lift2 (binV .add .no) x y k = true → ∃ z, binV .add m (dec W x) (dec W y) = some (dec W z) ∧ k z = true := fun h => by
    obtain ⟨z, h1, h2⟩ := lift2_ok (W := W) h
    exact ⟨z, by rw [binV_m (by decide) (by decide)]; exact h1, h2⟩
  rcases viewP_ok h with ⟨a, n, rfl, g1⟩ | ⟨_, g1⟩
  · rcases viewP_ok g1 with ⟨b, n', rfl, g2⟩ | ⟨_, g2⟩
    · rcases if_ok g2 with ⟨h1, g3⟩ | ⟨_, g3⟩
      · obtain ⟨h1, h2⟩ := and4_ok h1
        have h1 := kEq_ok h1
        have h2 : n + n' ≤ 9223372036854775807 := Nat.le_of_ble_eq_true h2
        have ea : a = 0 := by have : a + b = 0 := h1; omega
        have eb : b = 0 := by have : a + b = 0 := h1; omega
        subst ea; subst eb
        rw [nat_eq] at g3
        refine ⟨_, ?_, g3⟩
        show some (Value.int .i64 (IntKind.i64.wrap ((n : Int) + (n' : Int)))) = _
        rw [wrap64 (by omega) (by omega)]
        rfl
      · exact slow g3
    · exact slow g2
  · exact slow g1
theorem subX_ok {m : EqM} {x y : X} {k : X → Bool} (h : subX x y k = true) : ∃ z, binV .sub m (dec W x) (dec W y) = some (dec W z) ∧ k z = true := by
  have slow : lift2 (binV .sub .no) x y k = true → ∃ z, binV .sub m (dec W x) (dec W y) = some (dec W z) ∧ k z = true := fun h => by
    obtain ⟨z, h1, h2⟩ := lift2_ok (W := W) h
    exact ⟨z, by rw [binV_m (by decide) (by decide)]; exact h1, h2⟩
  rcases viewP_ok h with ⟨a, n, rfl, g1⟩ | ⟨_, g1⟩
  · rcases viewP_ok g1 with ⟨b, n', rfl, g2⟩ | ⟨_, g2⟩
    · rcases if_ok g2 with ⟨h1, g3⟩ | ⟨_, g3⟩
      · obtain ⟨h1, h2⟩ := and4_ok h1
        obtain ⟨h2, h3⟩ := and4_ok h2
        have h1 := kEq_ok h1
        have h2 : n' ≤ n := Nat.le_of_ble_eq_true h2
        have h3 : n ≤ 9223372036854775807 := Nat.le_of_ble_eq_true h3
        have ea : a = 0 := by have : a + b = 0 := h1; omega
        have eb : b = 0 := by have : a + b = 0 := h1; omega
        subst ea; subst eb
        rw [nat_eq] at g3
        refine ⟨_, ?_, g3⟩
        show some (Value.int .i64 (IntKind.i64.wrap ((n : Int) - (n' : Int)))) = some (Value.int .i64 (Int.ofNat (n - n')))
        rw [wrap64 (by omega) (by omega)]
        have : ((n : Int) - (n' : Int)) = Int.ofNat (n - n') := by simp only [Int.ofNat_eq_natCast]; omega
        rw [this]
      · exact slow g3
    · exact slow g2
  · exact slow g1

theorem ltI_nat (n m : Nat) : ltI (.ofNat n) (.ofNat m) = Nat.ble (Nat.succ n) m := rfl
theorem ltX_ok {op : BinOp} {m : EqM} (hop : op = .lss ∨ op = .geq) {x y : X} {k : X → Bool} (h : ltX op x y (.b (match op with | .lss => true | _ => false)) (.b (match op with | .lss => false | _ => true)) k = true) : ∃ z, binV op m (dec W x) (dec W y) = some (dec W z) ∧ k z = true := by
  have slow : lift2 (binV op .no) x y k = true → ∃ z, binV op m (dec W x) (dec W y) = some (dec W z) ∧ k z = true := fun h => by
    obtain ⟨z, h1, h2⟩ := lift2_ok (W := W) h
    exact ⟨z, by rw [binV_m (by rcases hop with rfl | rfl <;> decide) (by rcases hop with rfl | rfl <;> decide)]; exact h1, h2⟩
  rcases viewP_ok h with ⟨a, n, rfl, g1⟩ | ⟨_, g1⟩
  · rcases viewP_ok g1 with ⟨b, n', rfl, g2⟩ | ⟨_, g2⟩
    · obtain ⟨h1, g3⟩ := if_t g2
      have := kEq_ok h1; subst this
      rcases if_ok g3 with ⟨h1, g4⟩ | ⟨h1, g4⟩
      · refine ⟨_, ?_, g4⟩
        rcases hop with rfl | rfl
        · show (if kOf a = kOf a then intBin .lss (kOf a) (.ofNat n) (.ofNat n') else none) = _
          rw [if_pos rfl]
          show some (Value.bool (ltI _ _)) = _
          rw [ltI_nat, h1]; rfl
        · show (if kOf a = kOf a then intBin .geq (kOf a) (.ofNat n) (.ofNat n') else none) = _
          rw [if_pos rfl]
          show some (Value.bool !(ltI _ _)) = _
          rw [ltI_nat, h1]; rfl
      · refine ⟨_, ?_, g4⟩
        rcases hop with rfl | rfl
        · show (if kOf a = kOf a then intBin .lss (kOf a) (.ofNat n) (.ofNat n') else none) = _
          rw [if_pos rfl]
          show some (Value.bool (ltI _ _)) = _
          rw [ltI_nat, h1]; rfl
        · show (if kOf a = kOf a then intBin .geq (kOf a) (.ofNat n) (.ofNat n') else none) = _
          rw [if_pos rfl]
          show some (Value.bool !(ltI _ _)) = _
          rw [ltI_nat, h1]; rfl
    · exact slow g2
  · exact slow g1
theorem ltG_ok {op : BinOp} {m : EqM} (hop : op = .gtr ∨ op = .leq) {x y : X} {k : X → Bool} (h : binX.ltG op x y (.b (match op with | .gtr => true | _ => false)) (.b (match op with | .gtr => false | _ => true)) k = true) : ∃ z, binV op m (dec W x) (dec W y) = some (dec W z) ∧ k z = true := by
  have slow : lift2 (binV op .no) x y k = true → ∃ z, binV op m (dec W x) (dec W y) = some (dec W z) ∧ k z = true := fun h => by
    obtain ⟨z, h1, h2⟩ := lift2_ok (W := W) h
    exact ⟨z, by rw [binV_m (by rcases hop with rfl | rfl <;> decide) (by rcases hop with rfl | rfl <;> decide)]; exact h1, h2⟩
  rcases viewP_ok h with ⟨a, n, rfl, g1⟩ | ⟨_, g1⟩
  · rcases viewP_ok g1 with ⟨b, n', rfl, g2⟩ | ⟨_, g2⟩
    · obtain ⟨h1, g3⟩ := if_t g2
      have := kEq_ok h1; subst this
      rcases if_ok g3 with ⟨h1, g4⟩ | ⟨h1, g4⟩
      · refine ⟨_, ?_, g4⟩
        rcases hop with rfl | rfl
        · show (if kOf a = kOf a then intBin .gtr (kOf a) (.ofNat n) (.ofNat n') else none) = _
          rw [if_pos rfl]
          show some (Value.bool (ltI _ _)) = _
          rw [ltI_nat, h1]; rfl
        · show (if kOf a = kOf a then intBin .leq (kOf a) (.ofNat n) (.ofNat n') else none) = _
          rw [if_pos rfl]
          show some (Value.bool !(ltI _ _)) = _
          rw [ltI_nat, h1]; rfl
      · refine ⟨_, ?_, g4⟩
        rcases hop with rfl | rfl
        · show (if kOf a = kOf a then intBin .gtr (kOf a) (.ofNat n) (.ofNat n') else none) = _
          rw [if_pos rfl]
          show some (Value.bool (ltI _ _)) = _
          rw [ltI_nat, h1]; rfl
        · show (if kOf a = kOf a then intBin .leq (kOf a) (.ofNat n) (.ofNat n') else none) = _
          rw [if_pos rfl]
          show some (Value.bool !(ltI _ _)) = _
          rw [ltI_nat, h1]; rfl
    · exact slow g2
  · exact slow g1

/-! ### strings -/
theorem byt_len : ∀ (l n : Nat), (byt l n).length = l
  | 0, _ => rfl
  | l + 1, n => by simp [byt, byt_len l]
theorem byt_split : ∀ (b a n : Nat), byt (a + b) n = byt a (n / 256 ^ b) ++ byt b n
  | 0, a, n => by simp [byt]
  | b + 1, a, n => by
    show byt (a + b + 1) n = _
    simp only [byt]
    rw [byt_split b a (n / 256), Nat.div_div_eq_div_mul, ← Nat.pow_succ', List.append_assoc]
theorem ofNat_inj {a b : Nat} (ha : a < 256) (hb : b < 256) (h : UInt8.ofNat a = UInt8.ofNat b) : a = b := by
  have := congrArg UInt8.toNat h
  rw [UInt8.toNat_ofNat', UInt8.toNat_ofNat', Nat.mod_eq_of_lt ha, Nat.mod_eq_of_lt hb] at this
  exact this
theorem byt_eq : ∀ (l n n' : Nat), byt l n = byt l n' ↔ n % 256 ^ l = n' % 256 ^ l
  | 0, n, n' => by simp [byt, Nat.mod_one]
  | l + 1, n, n' => by
    have e : 256 ^ (l + 1) = 256 * 256 ^ l := Nat.pow_succ'
    rw [e, Nat.mod_mul, Nat.mod_mul]
    simp only [byt]
    constructor
    · intro h
      have h1 := List.append_inj' h rfl
      have h2 := (byt_eq l _ _).1 h1.1
      have h3 := ofNat_inj (Nat.mod_lt _ (by omega)) (Nat.mod_lt _ (by omega)) (List.cons.inj h1.2).1
      rw [h2, h3]
    · intro h
      have a1 : n % 256 < 256 := Nat.mod_lt _ (by omega)
      have a2 : n' % 256 < 256 := Nat.mod_lt _ (by omega)
      generalize hp : n / 256 % 256 ^ l = p at h
      generalize hq : n' / 256 % 256 ^ l = q at h
      have h3 : n % 256 = n' % 256 := by omega
      have h4 : p = q := by omega
      rw [h3, (byt_eq l _ _).2 (hp.trans (h4.trans hq.symm))]
theorem strEq_true {l n l' n' : Nat} (h : strEq l n l' n' = true) : byt l n = byt l' n' := by
  obtain ⟨h1, h2⟩ := and4_ok h
  have := kEq_ok h1; subst this
  exact (byt_eq l n n').2 (kEq_ok h2)
theorem strEq_false {l n l' n' : Nat} (h : strEq l n l' n' = false) : byt l n ≠ byt l' n' := by
  intro e
  have hl := congrArg List.length e
  rw [byt_len, byt_len] at hl
  subst hl
  have h2 := (byt_eq l n n').1 e
  have h3 : Nat.beq (Nat.mod n (Nat.pow 256 l)) (Nat.mod n' (Nat.pow 256 l)) = true := by
    have : Nat.mod n (Nat.pow 256 l) = Nat.mod n' (Nat.pow 256 l) := h2
    rw [this]; exact Nat.beq_refl _
  unfold strEq at h
  rw [and4_eq, Nat.beq_refl, h3] at h
  cases h
theorem nonDig_ok : ∀ {l n : Nat}, nonDig l n = true → ∃ b ∈ byt l n, ¬ (48 ≤ b.toNat ∧ b.toNat ≤ 57)
  | 0, n, h => absurd h Bool.false_ne_true
  | l + 1, n, h => by
    have h' : Bool.rec (motive := fun _ => Bool) true (nonDig l (n / 256)) (isDig (n % 256)) = true := h
    rcases if_ok h' with ⟨_, h2⟩ | ⟨h1, _⟩
    · obtain ⟨b, hb, hd⟩ := nonDig_ok h2
      exact ⟨b, by simp [byt, hb], hd⟩
    · refine ⟨UInt8.ofNat (n % 256), by simp [byt], fun hd => ?_⟩
      rw [UInt8.toNat_ofNat', Nat.mod_eq_of_lt (Nat.mod_lt _ (by omega))] at hd
      unfold isDig at h1
      rw [and4_eq, Nat.ble_eq_true_of_le hd.1, Nat.ble_eq_true_of_le hd.2] at h1
      cases h1
theorem noTail_ok (hQ : TkOk Q W) {l n l' n' : Nat} (h : noTail l n l' n' = true) (i : Nat) : byt l' n' ≠ byt l n ++ W.d i := by
  intro e
  have hlen := congrArg List.length e
  rw [List.length_append, byt_len, byt_len] at hlen
  have hd : 0 < (W.d i).length := List.length_pos_iff.2 (hQ.ne i)
  have hlt : l < l' := by omega
  unfold noTail at h
  rw [show Nat.ble (Nat.succ l) l' = true from Nat.ble_eq_true_of_le hlt] at h
  have h' : Bool.rec (motive := fun _ => Bool) true (nonDig (l' - l) n') (Nat.beq (n % 256 ^ l) (n' / 256 ^ (l' - l) % 256 ^ l)) = true := h
  have es := byt_split (l' - l) l n'
  rw [show l + (l' - l) = l' by omega] at es
  rw [es] at e
  have e2 := List.append_inj e (by rw [byt_len, byt_len])
  rcases if_ok h' with ⟨_, h2⟩ | ⟨h1, _⟩
  · obtain ⟨b, hb, hnd⟩ := nonDig_ok h2
    rw [e2.2] at hb
    exact hnd (hQ.dg i b hb)
  · have := (byt_eq l _ _).1 e2.1
    rw [this, Nat.beq_refl] at h1
    cases h1

theorem bytes_beq (l l' : List UInt8) : ((⟨l.toArray⟩ : ByteArray) == ⟨l'.toArray⟩) = (l == l') := by
  show ByteArray.beq _ _ = _
  unfold ByteArray.beq
  show (l.toArray == l'.toArray) = _
  simp
theorem bytes_list (l : List UInt8) : (⟨l.toArray⟩ : ByteArray).toList = l := by rw [ByteArray.toList_eq]

/-! ### comparing -/
def pk (b t f : Bool) : Bool := bif b then t else f
theorem opt2_ok {o : Option Bool} {t f : Bool} (h : opt2 o t f = true) : ∃ b, o = some b ∧ pk b t f = true := by
  unfold opt2 at h
  split at h
  · exact ⟨true, rfl, h⟩
  · exact ⟨false, rfl, h⟩
  · cases h
theorem leafSlow_ok (hQ : TkOk Q W) {x y : X} {b : Bool} (h : leafX.leafSlow Q x y = some b) : leafEq .i (dec W x) (dec W y) = some b := by
  unfold leafX.leafSlow at h
  split at h
  · rename_i a n b' m
    cases hk : Nat.beq a b' <;> rw [hk] at h
    · cases h
    · have := kEq_ok hk; subst this
      cases h
      show (if kOf a = kOf a then some ((Int.negSucc n) == (Int.negSucc m)) else none) = _
      rw [if_pos rfl]
      congr 1
      rw [Bool.eq_iff_iff, beq_iff_eq, Nat.beq_eq]
      exact ⟨fun e => Int.negSucc.inj e, fun e => by rw [e]⟩
  · rename_i a n b' m
    cases hk : Nat.beq a b' <;> rw [hk] at h
    · cases h
    · have := kEq_ok hk; subst this
      cases h
      show (if kOf a = kOf a then some ((Int.ofNat n) == (Int.negSucc m)) else none) = _
      rw [if_pos rfl]; rfl
  · rename_i a n b' m
    cases hk : Nat.beq a b' <;> rw [hk] at h
    · cases h
    · have := kEq_ok hk; subst this
      cases h
      show (if kOf a = kOf a then some ((Int.negSucc n) == (Int.ofNat m)) else none) = _
      rw [if_pos rfl]; rfl
  · rename_i g a i g' b' j
    cases hk : (Nat.beq g 12 && Nat.beq g' 12 && Nat.beq a b' && is64 a) <;> rw [hk] at h
    · cases h
    · simp only [Bool.and_eq_true] at hk
      obtain ⟨⟨⟨h1, h2⟩, h3⟩, h4⟩ := hk
      have := kEq_ok h1; subst this
      have := kEq_ok h2; subst this
      have := kEq_ok h3; subst this
      have ht := hQ.tt _ _ _ h
      show (if kOf a = kOf a then some ((kOf a).wrap (W.n i) == (kOf a).wrap (W.n j)) else none) = _
      rw [if_pos rfl, ← ht]
      congr 1
      rw [Bool.eq_iff_iff, beq_iff_eq, decide_eq_true_eq]
      have a1 := hQ.lo i; have a2 := hQ.hi i; have a3 := hQ.lo j; have a4 := hQ.hi j
      rcases is64_ok h4 with rfl | rfl
      · show IntKind.i64.wrap _ = IntKind.i64.wrap _ ↔ _
        rw [wrap64 a1 a2, wrap64 a3 a4]
      · show IntKind.u64.wrap _ = IntKind.u64.wrap _ ↔ _
        rw [wrapu64, wrapu64]; omega
  · rename_i g a i b' m
    cases hk : (Nat.beq g 12 && Nat.beq a b' && is64 a && Nat.ble m 9223372036854775807) <;> rw [hk] at h
    · cases h
    · simp only [Bool.and_eq_true] at hk
      obtain ⟨⟨⟨h1, h3⟩, h4⟩, h5⟩ := hk
      have := kEq_ok h1; subst this
      have := kEq_ok h3; subst this
      have h5 := Nat.le_of_ble_eq_true h5
      have ht := hQ.tl _ _ _ h
      show (if kOf a = kOf a then some ((kOf a).wrap (W.n i) == Int.ofNat m) else none) = _
      rw [if_pos rfl, ← ht]
      congr 1
      rw [Bool.eq_iff_iff, beq_iff_eq, decide_eq_true_eq]
      have a1 := hQ.lo i; have a2 := hQ.hi i
      rcases is64_ok h4 with rfl | rfl
      · show IntKind.i64.wrap _ = _ ↔ _
        rw [wrap64 a1 a2]
      · show IntKind.u64.wrap _ = _ ↔ _
        rw [wrapu64]; simp only [Int.ofNat_eq_natCast]; omega
  · rename_i b' m g a i
    cases hk : (Nat.beq g 12 && Nat.beq a b' && is64 a && Nat.ble m 9223372036854775807) <;> rw [hk] at h
    · cases h
    · simp only [Bool.and_eq_true] at hk
      obtain ⟨⟨⟨h1, h3⟩, h4⟩, h5⟩ := hk
      have := kEq_ok h1; subst this
      have := kEq_ok h3; subst this
      have h5 := Nat.le_of_ble_eq_true h5
      have ht := hQ.tl _ _ _ h
      show (if kOf a = kOf a then some (Int.ofNat m == (kOf a).wrap (W.n i)) else none) = _
      rw [if_pos rfl, ← ht]
      congr 1
      rw [Bool.eq_iff_iff, beq_iff_eq, decide_eq_true_eq]
      have a1 := hQ.lo i; have a2 := hQ.hi i
      rcases is64_ok h4 with rfl | rfl
      · show _ = IntKind.i64.wrap _ ↔ _
        rw [wrap64 a1 a2]
        exact ⟨Eq.symm, Eq.symm⟩
      · show _ = IntKind.u64.wrap _ ↔ _
        rw [wrapu64]; simp only [Int.ofNat_eq_natCast]; omega
  · cases h
theorem tail_ok (hQ : TkOk Q W) {y : X} {l n : Nat} {f : Bool} (h : leafX.tail y l n f = true) : (∃ s, dec W y = .string s ∧ ((⟨(byt l n).toArray⟩ : ByteArray) == s) = false ∧ (s == (⟨(byt l n).toArray⟩ : ByteArray)) = false) ∧ f = true := by
  obtain ⟨v, rfl, h⟩ := viewR_f h
  obtain ⟨u, z, rfl, h⟩ := consX_ok h
  obtain ⟨b, i, rfl, h⟩ := viewP_f h
  obtain ⟨a, m, rfl, h⟩ := viewP_f h
  obtain ⟨h1, h2⟩ := if_t h
  have hn := noTail_ok hQ h1 i
  refine ⟨⟨_, rfl, ?_, ?_⟩, h2⟩
  · rw [bytes_beq, Bool.eq_false_iff]
    intro e
    exact hn (eq_of_beq e)
  · rw [bytes_beq, Bool.eq_false_iff]
    intro e
    exact hn (eq_of_beq e).symm
theorem leafX_ok (hQ : TkOk Q W) {k : LK} {x y : X} {t f : Bool} (h : leafX Q k x y t f = true) : ∃ b, leafEq k (dec W x) (dec W y) = some b ∧ pk b t f = true := by
  cases k
  · rcases viewB_ok h with ⟨rfl, h⟩ | ⟨rfl, h⟩
    · rcases viewB_ok h with ⟨rfl, h⟩ | ⟨rfl, h⟩
      · exact ⟨true, rfl, h⟩
      · exact ⟨false, rfl, h⟩
    · rcases viewB_ok h with ⟨rfl, h⟩ | ⟨rfl, h⟩
      · exact ⟨false, rfl, h⟩
      · exact ⟨true, rfl, h⟩
  · have slow : opt2 (leafX.leafSlow Q x y) t f = true → ∃ b, leafEq .i (dec W x) (dec W y) = some b ∧ pk b t f = true := fun h => by
      obtain ⟨b, h1, h2⟩ := opt2_ok h
      exact ⟨b, leafSlow_ok hQ h1, h2⟩
    rcases viewP_ok h with ⟨a, n, rfl, g1⟩ | ⟨_, g1⟩
    · rcases viewP_ok g1 with ⟨b, m, rfl, g2⟩ | ⟨_, g2⟩
      · obtain ⟨h1, g3⟩ := if_t g2
        have e := kEq_ok h1
        subst e
        refine ⟨Nat.beq n m, ?_, ?_⟩
        · show (if kOf a = kOf a then some (Int.ofNat n == Int.ofNat m) else none) = _
          rw [if_pos rfl]
          congr 1
          rw [Bool.eq_iff_iff, beq_iff_eq, Nat.beq_eq]
          exact ⟨fun e => Int.ofNat.inj e, fun e => by rw [e]⟩
        · have g3' : Bool.rec (motive := fun _ => Bool) f t (Nat.beq n m) = true := g3
          rcases if_ok g3' with ⟨h2, g4⟩ | ⟨h2, g4⟩ <;> rw [h2] <;> exact g4
      · exact slow g2
    · exact slow g1
  · rcases viewR_ok h with ⟨u, rfl, g1⟩ | ⟨_, g1⟩
    · obtain ⟨a, m, rfl, g2⟩ := viewP_f g1
      rcases viewR_ok g2 with ⟨v, rfl, g3⟩ | ⟨_, g3⟩
      · obtain ⟨b, m', rfl, g4⟩ := viewP_f g3
        have g4' : Bool.rec (motive := fun _ => Bool) f t (strEq a m b m') = true := g4
        refine ⟨strEq a m b m', ?_, ?_⟩
        · show some ((⟨(byt a m).toArray⟩ : ByteArray) == ⟨(byt b m').toArray⟩) = _
          rw [bytes_beq]
          congr 1
          cases hs : strEq a m b m'
          · rw [Bool.eq_false_iff]; exact fun e => strEq_false hs (eq_of_beq e)
          · rw [strEq_true hs]; exact beq_self_eq_true _
        · rcases if_ok g4' with ⟨h2, g5⟩ | ⟨h2, g5⟩ <;> rw [h2] <;> exact g5
      · obtain ⟨⟨s, h1, h2, h3⟩, h4⟩ := tail_ok (W := W) hQ g3
        refine ⟨false, ?_, h4⟩
        rw [h1]
        show some ((⟨(byt a m).toArray⟩ : ByteArray) == s) = _
        rw [h2]
    · obtain ⟨u, rfl, g2⟩ := viewR_f g1
      obtain ⟨a, m, rfl, g3⟩ := viewP_f g2
      obtain ⟨⟨s, h1, h2, h3⟩, h4⟩ := tail_ok (W := W) hQ g3
      refine ⟨false, ?_, h4⟩
      rw [h1]
      show some (s == (⟨(byt a m).toArray⟩ : ByteArray)) = _
      rw [h3]
theorem cellsEqX_ok (hQ : TkOk Q W) : ∀ {ks : List LK} {x y : X} {t f : Bool}, cellsEqX Q ks x y t f = true → (decs W x).length = ks.length → (decs W y).length = ks.length → ∃ b, cellsEq ks (decs W x) (decs W y) = some b ∧ pk b t f = true
  | [], x, y, t, f, h, _, _ => ⟨true, by cases decs W x <;> rfl, h⟩
  | k :: ks, x, y, t, f, h, hx, hy => by
    obtain ⟨a, x, rfl, h⟩ := consX_ok h
    obtain ⟨b, y, rfl, h⟩ := consX_ok h
    obtain ⟨r, h1, h2⟩ := leafX_ok hQ h
    rw [decs_c, decs_c]
    rw [decs_c, List.length_cons, List.length_cons] at hx hy
    simp only [cellsEq, h1]
    cases r
    · exact ⟨false, rfl, h2⟩
    · exact cellsEqX_ok hQ (ks := ks) h2 (by omega) (by omega)
theorem lenX_ok : ∀ {n : Nat} {l : X}, lenX l n = true → (decs W l).length = n
  | 0, l, h => by
    cases l
    case e => rfl
    all_goals exact absurd h Bool.false_ne_true
  | n + 1, l, h => by
    obtain ⟨x, l, rfl, h⟩ := consX_ok h
    rw [decs_c, List.length_cons, lenX_ok (n := n) h]
theorem llen_eq (l : List LK) : llen l = l.length := by
  induction l with
  | nil => rfl
  | cons k l ih => show Nat.succ (llen l) = _; rw [ih]; rfl
theorem nilEq1_ok {x y : X} {b : Bool} (h : nilEq 1 isPt x y = some b) : Mx.ptrEq (dec W x) (dec W y) = some b := by
  unfold nilEq at h
  split at h
  · rename_i a u b' v
    cases hk : (Nat.beq a 1 && Nat.beq b' 1) <;> rw [hk] at h
    · cases h
    · simp only [Bool.and_eq_true] at hk
      have := kEq_ok hk.1; subst this
      have := kEq_ok hk.2; subst this
      cases h; rfl
  · rename_i a u _
    cases hk : (Nat.beq a 1 && isPt y) <;> rw [hk] at h
    · cases h
    · simp only [Bool.and_eq_true] at hk
      have := kEq_ok hk.1; subst this
      cases y <;> first | (cases hk.2; done) | skip
      cases h; rfl
  · rename_i b' v _
    cases hk : (Nat.beq b' 1 && isPt x) <;> rw [hk] at h
    · cases h
    · simp only [Bool.and_eq_true] at hk
      have := kEq_ok hk.1; subst this
      cases x <;> first | (cases hk.2; done) | skip
      cases h; rfl
  · cases h
theorem nilEq2_ok {x y : X} {b : Bool} (h : nilEq 2 isSl x y = some b) : Mx.slcEq (dec W x) (dec W y) = some b := by
  unfold nilEq at h
  split at h
  · rename_i a u b' v
    cases hk : (Nat.beq a 2 && Nat.beq b' 2) <;> rw [hk] at h
    · cases h
    · simp only [Bool.and_eq_true] at hk
      have := kEq_ok hk.1; subst this
      have := kEq_ok hk.2; subst this
      cases h; rfl
  · rename_i a u _
    cases hk : (Nat.beq a 2 && isSl y) <;> rw [hk] at h
    · cases h
    · simp only [Bool.and_eq_true] at hk
      have := kEq_ok hk.1; subst this
      cases y <;> first | (cases hk.2; done) | skip
      cases h; rfl
  · rename_i b' v _
    cases hk : (Nat.beq b' 2 && isSl x) <;> rw [hk] at h
    · cases h
    · simp only [Bool.and_eq_true] at hk
      have := kEq_ok hk.1; subst this
      cases x <;> first | (cases hk.2; done) | skip
      cases h; rfl
  · cases h
theorem fnOk_ok {y : X} (h : fnEq.fnOk y = true) : ∃ g a c, dec W (.r 6 y) = .func g a c := by
  unfold fnEq.fnOk at h
  split at h
  · exact ⟨_, _, _, rfl⟩
  · cases h
theorem fnEq_ok {x y : X} {b : Bool} (h : fnEq x y = some b) : Mx.fncEq (dec W x) (dec W y) = some b := by
  unfold fnEq at h
  split at h
  · rename_i a u b' v
    cases h1 : (Nat.beq a 7 && Nat.beq b' 7) <;> rw [h1] at h
    · cases h2 : (Nat.beq a 7 && Nat.beq b' 6 && fnEq.fnOk v) <;> rw [h2] at h
      · cases h3 : (Nat.beq a 6 && fnEq.fnOk u && Nat.beq b' 7) <;> rw [h3] at h
        · cases h
        · simp only [Bool.and_eq_true] at h3
          have := kEq_ok h3.1.1; subst this
          have := kEq_ok h3.2; subst this
          obtain ⟨g, a, c, e⟩ := fnOk_ok (W := W) h3.1.2
          cases h
          rw [e]; rfl
      · simp only [Bool.and_eq_true] at h2
        have := kEq_ok h2.1.1; subst this
        have := kEq_ok h2.1.2; subst this
        obtain ⟨g, a, c, e⟩ := fnOk_ok (W := W) h2.2
        cases h
        rw [e]; rfl
    · simp only [Bool.and_eq_true] at h1
      have := kEq_ok h1.1; subst this
      have := kEq_ok h1.2; subst this
      cases h; rfl
  · cases h
theorem mpEq_ok {x y : X} {b : Bool} (h : mpEq x y = some b) : Mx.mapEq (dec W x) (dec W y) = some b := by
  have ok : ∀ {y : X}, mpEq.mpOk y = true → ∃ i, dec W (.r 4 y) = .map (some i) := by
    intro y h
    unfold mpEq.mpOk at h
    split at h
    · exact ⟨_, rfl⟩
    · cases h
  unfold mpEq at h
  split at h
  · rename_i a u b' v
    cases h1 : (Nat.beq a 3 && Nat.beq b' 3) <;> rw [h1] at h
    · cases h2 : (Nat.beq a 3 && Nat.beq b' 4 && mpEq.mpOk v) <;> rw [h2] at h
      · cases h3 : (Nat.beq a 4 && mpEq.mpOk u && Nat.beq b' 3) <;> rw [h3] at h
        · cases h
        · simp only [Bool.and_eq_true] at h3
          have := kEq_ok h3.1.1; subst this
          have := kEq_ok h3.2; subst this
          obtain ⟨i, e⟩ := ok h3.1.2
          cases h
          rw [e]; rfl
      · simp only [Bool.and_eq_true] at h2
        have := kEq_ok h2.1.1; subst this
        have := kEq_ok h2.1.2; subst this
        obtain ⟨i, e⟩ := ok h2.2
        cases h
        rw [e]; rfl
    · simp only [Bool.and_eq_true] at h1
      have := kEq_ok h1.1; subst this
      have := kEq_ok h1.2; subst this
      cases h; rfl
  · cases h
theorem eqX_ok (hQ : TkOk Q W) {m : EqM} {x y : X} {t f : Bool} (h : eqX Q m x y t f = true) : ∃ b, eqBy m (dec W x) (dec W y) = some b ∧ pk b t f = true := by
  cases m with
  | lf k => exact leafX_ok hQ h
  | ptr => obtain ⟨b, h1, h2⟩ := opt2_ok h; exact ⟨b, nilEq1_ok h1, h2⟩
  | slc => obtain ⟨b, h1, h2⟩ := opt2_ok h; exact ⟨b, nilEq2_ok h1, h2⟩
  | fnc => obtain ⟨b, h1, h2⟩ := opt2_ok h; exact ⟨b, fnEq_ok h1, h2⟩
  | no => exact absurd h Bool.false_ne_true
  | cells l =>
    obtain ⟨a, rfl, h⟩ := viewAg_ok h
    obtain ⟨c, rfl, h⟩ := viewAg_ok h
    obtain ⟨h1, h⟩ := and4_ok h
    obtain ⟨h2, h⟩ := and4_ok h
    have l1 := lenX_ok (W := W) h1
    have l2 := lenX_ok (W := W) h2
    rw [llen_eq] at l1 l2
    obtain ⟨b, h3, h4⟩ := cellsEqX_ok (W := W) hQ h l1 l2
    refine ⟨b, ?_, h4⟩
    show (if (decs W a).toArray.size = l.length ∧ (decs W c).toArray.size = l.length then cellsEq l (decs W a).toArray.toList (decs W c).toArray.toList else none) = _
    rw [if_pos ⟨by simpa using l1, by simpa using l2⟩]
    exact h3
  | mp => obtain ⟨b, h1, h2⟩ := opt2_ok h; exact ⟨b, mpEq_ok h1, h2⟩

theorem leaf_bin {k : LK} {x y : Value} {b : Bool} (h : leafEq k x y = some b) : ∀ m, (k = .b → m = .lf .b) → binV .eql m x y = some (.bool b) ∧ binV .neq m x y = some (.bool !b) := by
  intro m hm
  cases k
  · rw [hm rfl]
    cases x <;> first | (cases h; done) | skip
    cases y <;> first | (cases h; done) | skip
    cases h
    exact ⟨rfl, rfl⟩
  · cases x <;> first | (cases h; done) | skip
    cases y <;> first | (cases h; done) | skip
    rename_i k1 n1 k2 n2
    simp only [leafEq] at h
    split at h
    · rename_i hk
      subst hk
      cases h
      refine ⟨?_, ?_⟩
      · show (if k1 = k1 then intBin .eql k1 n1 n2 else none) = _
        rw [if_pos rfl]
        show some (Value.bool (eqI _ _)) = _
        rw [eqI_eq]
      · show (if k1 = k1 then intBin .neq k1 n1 n2 else none) = _
        rw [if_pos rfl]
        show some (Value.bool !(eqI _ _)) = _
        rw [eqI_eq]
    · cases h
  · cases x <;> first | (cases h; done) | skip
    cases y <;> first | (cases h; done) | skip
    rename_i s1 s2
    cases h
    have e : (s1 == s2) = (s1.toList == s2.toList) := by
      rw [ByteArray.toList_eq, ByteArray.toList_eq]
      show ByteArray.beq _ _ = _
      unfold ByteArray.beq
      rw [Bool.eq_iff_iff, beq_iff_eq, beq_iff_eq]
      exact ⟨fun e => by rw [e], fun e => Array.toList_inj.1 e⟩
    refine ⟨?_, ?_⟩
    · show some (Value.bool (s1.toList == s2.toList)) = _
      rw [e]
    · show some (Value.bool !(s1.toList == s2.toList)) = _
      rw [e]

theorem notNum_ok {x : X} {r : Bool} (h : binX.notNum x r = true) : (∀ k n, dec W x ≠ .int k n) ∧ (∀ s, dec W x ≠ .string s) ∧ r = true := by
  cases x
  case r g y =>
    obtain ⟨h1, h2⟩ := if_f h
    simp only [Bool.or_eq_false_iff] at h1
    obtain ⟨⟨g5, g12⟩, g13⟩ := h1
    rw [dec_r]
    refine ⟨fun k n e => ?_, fun s e => ?_, h2⟩
    · rcases g with _ | _ | _ | _ | _ | _ | _ | _ | _ | _ | _ | _ | _ | _ | _ | g
      all_goals first | (cases g5; done) | (cases g12; done) | (cases g13; done) | skip
      all_goals (simp only [dr] at e; first | (cases e; done) | (split at e <;> cases e))
    · rcases g with _ | _ | _ | _ | _ | _ | _ | _ | _ | _ | _ | _ | _ | _ | _ | g
      all_goals first | (cases g5; done) | (cases g12; done) | (cases g13; done) | skip
      all_goals (simp only [dr] at e; first | (cases e; done) | (split at e <;> cases e))
  all_goals first
    | exact absurd h Bool.false_ne_true
    | exact ⟨(fun _ _ e => by cases e), (fun _ e => by cases e), h⟩
theorem eqBy_bin {m : EqM} {x y : Value} (h1 : ∀ k n, x ≠ .int k n) (h2 : ∀ s, x ≠ .string s) : binV .eql m x y = (eqBy m x y).map .bool ∧ binV .neq m x y = (eqBy m x y).map fun b => .bool !b := by
  cases x <;> first | exact absurd rfl (h1 _ _) | exact absurd rfl (h2 _) | exact ⟨rfl, rfl⟩
theorem byt_cat (l n l' n' : Nat) (h : n' < 256 ^ l') : byt (l + l') (n * 256 ^ l' + n') = byt l n ++ byt l' n' := by
  have hp : 0 < 256 ^ l' := Nat.pow_pos (by omega)
  rw [byt_split]
  have e1 : (n * 256 ^ l' + n') / 256 ^ l' = n := by
    rw [Nat.mul_comm, Nat.mul_add_div hp, Nat.div_eq_of_lt h, Nat.add_zero]
  rw [e1, (byt_eq l' _ n').2 (by rw [Nat.mul_comm, Nat.mul_add_mod])]
theorem catX_ok {m : EqM} {x y : X} {k : X → Bool} (hd : ∀ i, (W.d i).length ≤ 100) (h : catX x y k = true) : ∃ z, binV .add m (dec W x) (dec W y) = some (dec W z) ∧ k z = true := by
  have str : ∀ a b : List UInt8, a.length + b.length ≤ 4611686018427387904 + 100 → binV .add m (.string ⟨a.toArray⟩) (.string ⟨b.toArray⟩) = some (.string ⟨(a ++ b).toArray⟩) := by
    intro a b hl
    show (if (((⟨a.toArray⟩ : ByteArray).size + (⟨b.toArray⟩ : ByteArray).size : Nat) : Int) ≤ 9223372036854775807 then some (Value.string (⟨a.toArray⟩ ++ ⟨b.toArray⟩)) else none) = _
    have h1 : (⟨a.toArray⟩ : ByteArray).size = a.length := by show a.toArray.size = _; simp
    have h2 : (⟨b.toArray⟩ : ByteArray).size = b.length := by show b.toArray.size = _; simp
    rw [h1, h2, if_pos (by omega)]
    refine congrArg (fun b => some (Value.string b)) (ByteArray.ext ?_)
    rw [ByteArray.data_append]
    simp
  obtain ⟨u, e1, g1⟩ := viewR_f h
  obtain ⟨l, n, e2, g2⟩ := viewP_f g1
  clear h g1
  subst e2
  subst e1
  rcases viewR_ok g2 with ⟨v, e3, g3⟩ | ⟨_, g3⟩
  · obtain ⟨l', n', e4, g4⟩ := viewP_f g3
    clear g2 g3
    subst e4
    subst e3
    obtain ⟨h1, g5⟩ := if_t g4
    rw [nat_eq, nat_eq] at g5
    obtain ⟨h2, g⟩ := and4_ok g5
    have h1 : l + l' ≤ 4611686018427387904 := Nat.le_of_ble_eq_true h1
    have h2 : n' < 256 ^ l' := Nat.le_of_ble_eq_true h2
    refine ⟨_, ?_, g⟩
    show binV .add m (.string ⟨(byt l n).toArray⟩) (.string ⟨(byt l' n').toArray⟩) = some (.string ⟨(byt (l + l') (n * 256 ^ l' + n')).toArray⟩)
    rw [str _ _ (by rw [byt_len, byt_len]; omega), byt_cat _ _ _ _ h2]
  · clear g2
    obtain ⟨v, e3, g4⟩ := viewR_f g3
    obtain ⟨w, z, e4, g5⟩ := consX_ok g4
    obtain ⟨l', n', e5, g6⟩ := viewP_f g5
    obtain ⟨h1, g7⟩ := if_t g6
    rw [nat_eq, nat_eq] at g7
    obtain ⟨h2, g8⟩ := and4_ok g7
    obtain ⟨b, i, e6, g⟩ := viewP_f g8
    clear g3 g4 g5 g6 g7 g8
    subst e6
    subst e5
    subst e4
    subst e3
    have h1 : l + l' ≤ 4611686018427387904 := Nat.le_of_ble_eq_true h1
    have h2 : n' < 256 ^ l' := Nat.le_of_ble_eq_true h2
    refine ⟨_, ?_, g⟩
    show binV .add m (.string ⟨(byt l n).toArray⟩) (.string ⟨(byt l' n' ++ W.d i).toArray⟩) = some (.string ⟨(byt (l + l') (n * 256 ^ l' + n') ++ W.d i).toArray⟩)
    have := hd i
    rw [str _ _ (by rw [List.length_append, byt_len, byt_len]; omega), byt_cat _ _ _ _ h2, List.append_assoc]
theorem binX_ok (hQ : TkOk Q W) (hd : ∀ i, (W.d i).length ≤ 100) {op : BinOp} {m : EqM} {x y : X} {k : X → Bool} (h : Bx.rec (motive := fun _ => _) (fun f => f) (binX Q op m) x y k = true) : ∃ z, binV op m (dec W x) (dec W y) = some (dec W z) ∧ k z = true := by
  have sh : ∀ op, op ≠ .eql → op ≠ .neq → binX.shX op x y k = true → ∃ z, binV op m (dec W x) (dec W y) = some (dec W z) ∧ k z = true := by
    intro op ho1 ho2 h
    rcases viewR_ok h with ⟨u, e0, h⟩ | ⟨_, h⟩
    · obtain ⟨a, i, e1, g1⟩ := viewP_f h
      obtain ⟨b, n, e2, g2⟩ := viewP_f g1
      clear h g1
      subst e2
      subst e1
      subst e0
      obtain ⟨h0, g⟩ := and4_ok g2
      obtain ⟨h1, h00⟩ := and4_ok h0
      obtain ⟨h2, h3⟩ := and4_ok h00
      clear g2 h0 h00
      have e3 := kEq_ok h2
      clear h2
      subst e3
      refine ⟨_, ?_, g⟩
      have a1 := hQ.lo i; have a2 := hQ.hi i
      have ww : (kOf a).wrap ((kOf a).wrap (W.n i)) = (kOf a).wrap (W.n i) := by
        rcases is64_ok h1 with rfl | rfl
        · show IntKind.i64.wrap (IntKind.i64.wrap _) = IntKind.i64.wrap _
          rw [wrap64 a1 a2, wrap64 a1 a2]
        · show IntKind.u64.wrap (IntKind.u64.wrap _) = IntKind.u64.wrap _
          rw [wrapu64, wrapu64]; omega
      cases op <;> first | (cases h3; done) | skip
      · show (if (Int.ofNat 0) < 0 then none else some (Value.int (kOf a) ((kOf a).wrap ((kOf a).wrap (W.n i) * 2 ^ min (Int.ofNat 0).toNat (kOf a).bits)))) = some (Value.int (kOf a) ((kOf a).wrap (W.n i)))
        rw [if_neg (by decide)]
        have : min (Int.ofNat 0).toNat (kOf a).bits = 0 := by simp
        rw [this, Int.pow_zero, Int.mul_one, ww]
      · show (if (Int.ofNat 0) < 0 then none else some (Value.int (kOf a) (((kOf a).wrap (W.n i)).fdiv (2 ^ min (Int.ofNat 0).toNat (kOf a).bits)))) = some (Value.int (kOf a) ((kOf a).wrap (W.n i)))
        rw [if_neg (by decide)]
        have : min (Int.ofNat 0).toNat (kOf a).bits = 0 := by simp
        rw [this, Int.pow_zero, Int.fdiv_one]
    · obtain ⟨z, h1, h2⟩ := lift2_ok (W := W) h
      exact ⟨z, by rw [binV_m ho1 ho2]; exact h1, h2⟩
  have eq : ∀ t f, eqX Q m x y (k (.b t)) (k (.b f)) = true → (∀ k n, dec W x ≠ .int k n) → (∀ s, dec W x ≠ .string s) → ∃ b, eqBy m (dec W x) (dec W y) = some b ∧ k (.b (bif b then t else f)) = true := by
    intro t f h _ _
    obtain ⟨b, h1, h2⟩ := eqX_ok hQ h
    exact ⟨b, h1, by cases b <;> exact h2⟩
  cases op
  case add =>
    rcases viewR_ok h with ⟨u, _, h⟩ | ⟨_, h⟩
    · exact catX_ok hd h
    · exact addX_ok h
  case sub => exact subX_ok h
  case eql =>
    cases m
    case lf lk =>
      cases lk
      case i =>
        obtain ⟨b, h1, h2⟩ := leafX_ok (k := .i) hQ h
        exact ⟨.b b, by rw [(leaf_bin h1 _ (fun e => by cases e)).1]; rfl, by cases b <;> exact h2⟩
      case s =>
        obtain ⟨b, h1, h2⟩ := leafX_ok (k := .s) hQ h
        exact ⟨.b b, by rw [(leaf_bin h1 _ (fun e => by cases e)).1]; rfl, by cases b <;> exact h2⟩
      case b =>
        obtain ⟨n1, n2, h⟩ := notNum_ok (W := W) h
        obtain ⟨b, h1, h2⟩ := eq _ _ h n1 n2
        exact ⟨_, by rw [(eqBy_bin n1 n2).1, h1]; cases b <;> rfl, h2⟩
    all_goals
      obtain ⟨n1, n2, h⟩ := notNum_ok (W := W) h
      obtain ⟨b, h1, h2⟩ := eq _ _ h n1 n2
      exact ⟨_, by rw [(eqBy_bin n1 n2).1, h1]; cases b <;> rfl, h2⟩
  case neq =>
    cases m
    case lf lk =>
      cases lk
      case i =>
        obtain ⟨b, h1, h2⟩ := leafX_ok (k := .i) hQ h
        exact ⟨.b !b, by rw [(leaf_bin h1 _ (fun e => by cases e)).2]; rfl, by cases b <;> exact h2⟩
      case s =>
        obtain ⟨b, h1, h2⟩ := leafX_ok (k := .s) hQ h
        exact ⟨.b !b, by rw [(leaf_bin h1 _ (fun e => by cases e)).2]; rfl, by cases b <;> exact h2⟩
      case b =>
        obtain ⟨n1, n2, h⟩ := notNum_ok (W := W) h
        obtain ⟨b, h1, h2⟩ := eq _ _ h n1 n2
        exact ⟨_, by rw [(eqBy_bin n1 n2).2, h1]; cases b <;> rfl, h2⟩
    all_goals
      obtain ⟨n1, n2, h⟩ := notNum_ok (W := W) h
      obtain ⟨b, h1, h2⟩ := eq _ _ h n1 n2
      exact ⟨_, by rw [(eqBy_bin n1 n2).2, h1]; cases b <;> rfl, h2⟩
  case lss => exact ltX_ok (.inl rfl) h
  case geq => exact ltX_ok (.inr rfl) h
  case gtr => exact ltG_ok (.inl rfl) h
  case leq => exact ltG_ok (.inr rfl) h
  all_goals exact sh _ (by decide) (by decide) h
end
end Go.Proofs.YtiphbdhclldllaaGreatDoor.M4
