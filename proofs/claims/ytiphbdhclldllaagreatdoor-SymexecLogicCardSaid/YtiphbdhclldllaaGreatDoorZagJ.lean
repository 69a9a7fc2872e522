/- Decimal numerals and identifiers as answers that are known; a law's call by the fast machine's run. -/
import Derived.Test.YtiphbdhclldllaaGreatDoorZagI
import Derived.Test.YtiphbdhclldllaaGreatDoorZadY
import Derived.Lib.ItoaNum
set_option linter.unusedSimpArgs false
set_option linter.unusedVariables false
namespace Go.Proofs.YtiphbdhclldllaaGreatDoor.M4
open Go Go.Proofs.YtiphbdhclldllaaGreatDoor.Mx

/-! ### numerals -/
noncomputable def digX (fuel n : Nat) (k : Nat → Nat → Bool) : Bool :=
  Nat.rec (motive := fun _ => Nat → (Nat → Nat → Bool) → Bool) (fun _ _ => false) (fun _ ih n k => Bool.rec (motive := fun _ => Bool) (ih (Nat.div n 10) fun l v => nat (Nat.add (Nat.mul v 256) (Nat.add 48 (Nat.mod n 10))) fun v => k (Nat.succ l) v) (k 1 (Nat.add 48 n)) (Nat.ble n 9)) fuel n k
theorem dig_ok : ∀ {fuel n : Nat} {k : Nat → Nat → Bool}, digX fuel n k = true → ∃ l v, byt l v = Lib.decDigits n ∧ k l v = true
  | 0, _, _, h => absurd h Bool.false_ne_true
  | fuel + 1, n, k, h => by
    rcases if_ok (c := Nat.ble n 9) h with ⟨h1, g⟩ | ⟨h1, g⟩
    · have h1 : n ≤ 9 := Nat.le_of_ble_eq_true h1
      refine ⟨1, 48 + n, ?_, g⟩
      rw [Lib.decDigits, dif_pos (by omega)]
      show [] ++ [UInt8.ofNat ((48 + n) % 256)] = _
      rw [Nat.mod_eq_of_lt (by omega)]; rfl
    · have h1 : ¬ n ≤ 9 := by intro e; rw [show Nat.ble n 9 = true from Nat.ble_eq_true_of_le e] at h1; cases h1
      obtain ⟨l, v, h2, g2⟩ := dig_ok (fuel := fuel) (n := n / 10) (k := fun l v => nat (Nat.add (Nat.mul v 256) (Nat.add 48 (Nat.mod n 10))) fun v => k (Nat.succ l) v) g
      rw [nat_eq] at g2
      refine ⟨l + 1, v * 256 + (48 + n % 10), ?_, g2⟩
      rw [Lib.decDigits, dif_neg (by omega), ← h2]
      have e1 : (v * 256 + (48 + n % 10)) / 256 = v := by omega
      have e2 : (v * 256 + (48 + n % 10)) % 256 = 48 + n % 10 := by omega
      show byt l ((v * 256 + (48 + n % 10)) / 256) ++ [UInt8.ofNat ((v * 256 + (48 + n % 10)) % 256)] = _
      rw [e1, e2]
theorem dig_ne (n : Nat) : Lib.decDigits n ≠ [] := by
  rw [Lib.decDigits]
  split <;> simp
theorem dig_dig (n : Nat) : ∀ b ∈ Lib.decDigits n, 48 ≤ b.toNat ∧ b.toNat ≤ 57 := by
  induction n using Nat.strongRecOn with
  | ind n ih =>
    rw [Lib.decDigits]
    split
    · intro b hb
      rw [List.mem_singleton] at hb
      subst hb
      rw [UInt8.toNat_ofNat', Nat.mod_eq_of_lt (by omega)]
      omega
    · intro b hb
      rw [List.mem_append, List.mem_singleton] at hb
      rcases hb with hb | rfl
      · exact ih (n / 10) (by omega) b hb
      · rw [UInt8.toNat_ofNat', Nat.mod_eq_of_lt (by omega)]
        omega
theorem dig_len : ∀ (k n : Nat), n < 10 ^ (k + 1) → (Lib.decDigits n).length ≤ k + 1
  | 0, n, h => by
    rw [Lib.decDigits, dif_pos (by simpa using h)]
    simp
  | k + 1, n, h => by
    rw [Lib.decDigits]
    split
    · simp
    · rw [List.length_append, List.length_singleton]
      have := dig_len k (n / 10) (by rw [Nat.pow_succ] at h; omega)
      omega

/-! ### identifiers -/
def wordB (b : Nat) : Bool := (Nat.ble 65 b && Nat.ble b 90) || (Nat.ble 97 b && Nat.ble b 122) || Nat.beq b 95 || (Nat.ble 48 b && Nat.ble b 57)
def digitB (b : Nat) : Bool := Nat.ble 48 b && Nat.ble b 57
/-- lexer.IsIdent's answer. -/
def isIdent (l : List UInt8) : Bool :=
  match l with
  | [] => false
  | b :: r => !(digitB b.toNat) && wordB b.toNat && r.all (fun b => wordB b.toNat) && Nat.ble (b :: r).length 24
def identX (l n : Nat) : Bool := isIdent (byt l n)

/-- What is known: numerals (strconv.FormatUint, function fu) and identifiers (lexer.IsIdent, function fi). -/
def ov (fu fi : Nat) : Known := fun f args H =>
  if f = fu then match args with
    | [.int .u64 v, .int .i64 b] => if 0 ≤ v ∧ v < 18446744073709551616 ∧ b = 10 then some (.string ⟨(Lib.decDigits v.toNat).toArray⟩, H.size) else none
    | _ => none
  else if f = fi then match args with
    | [.string s] => some (.bool (isIdent s.data.toList), H.size)
    | _ => none
  else none
noncomputable def ov4 (fu fi : Nat) : Nat → X → H → K → Bool → Bool := fun f as h k no =>
  Bool.rec (motive := fun _ => Bool)
    (Bool.rec (motive := fun _ => Bool) no
      (consX as fun x l => and4 (lenX l 0) (viewR x 5 (fun y => viewP y (fun l n => Bool.rec (motive := fun _ => Bool) (k (.b false) h) (k (.b true) h) (identX l n)) false) false)) (Nat.beq f fi))
    (consX as fun x l => consX l fun y l => and4 (lenX l 0) (viewP y (fun a b => and4 (Nat.beq a 0) (and4 (Nat.beq b 10)
      (viewP x (fun c v => and4 (Nat.beq c 7) (and4 (Nat.ble v 18446744073709551615) (digX 30 v fun l n => k (.r 5 (.p l n)) h)))
        (viewR x 12 (fun u => viewP u (fun c i => and4 (Nat.beq c 7) (k (.r 13 (.c (.p 0 0) (.p 0 i))) h)) false) false)))) false)) (Nat.beq f fu)
theorem upto_self (Hp : Heap) : Hp.upto Hp.size = Hp := rfl
theorem ovR {W : Vl} {Q : Tk} (hW : ∀ i, W.d i = Lib.decDigits (IntKind.u64.wrap (W.n i)).toNat) {fu fi : Nat} : OvR W (ov4 fu fi) (ov fu fi) := by
  intro f as h Hp k no hr hk
  rcases if_ok (c := Nat.beq f fu) hk with ⟨h1, g⟩ | ⟨h1, g⟩
  · have e := kEq_ok h1
    subst e
    obtain ⟨x, l, rfl, g1⟩ := consX_ok g
    obtain ⟨y, l, rfl, g2⟩ := consX_ok g1
    obtain ⟨h2, g3⟩ := and4_ok g2
    have h2 := lenX_ok (W := W) h2
    have h2 : decs W l = [] := List.eq_nil_of_length_eq_zero h2
    obtain ⟨a, b, e3, g4⟩ := viewP_f g3
    obtain ⟨h3, g5⟩ := and4_ok g4
    obtain ⟨h4, g6⟩ := and4_ok g5
    have ea := kEq_ok h3
    have eb := kEq_ok h4
    subst ea
    subst eb
    left
    rcases viewP_ok g6 with ⟨c, v, e4, g7⟩ | ⟨_, g7⟩
    · obtain ⟨h5, g8⟩ := and4_ok g7
      obtain ⟨h6, g9⟩ := and4_ok g8
      have ec := kEq_ok h5
      have h6 : v ≤ 18446744073709551615 := Nat.le_of_ble_eq_true h6
      obtain ⟨l', n', h7, g10⟩ := dig_ok g9
      refine ⟨_, h, Hp.size, ?_, by rw [upto_self]; exact hr, g10⟩
      subst e4
      subst e3
      subst ec
      rw [decs_c, decs_c, h2]
      show (if f = f then (if 0 ≤ (Int.ofNat v) ∧ (Int.ofNat v) < 18446744073709551616 ∧ (Int.ofNat 10) = 10 then some (Value.string ⟨(Lib.decDigits (Int.ofNat v).toNat).toArray⟩, Hp.size) else none) else _) = some (Value.string ⟨(byt l' n').toArray⟩, Hp.size)
      rw [if_pos rfl, if_pos ⟨Int.natCast_nonneg v, by simp only [Int.ofNat_eq_natCast]; omega, rfl⟩, h7]
      rfl
    · obtain ⟨u, e5, g8⟩ := viewR_f g7
      obtain ⟨c, i, e6, g9⟩ := viewP_f g8
      obtain ⟨h5, g10⟩ := and4_ok g9
      have ec := kEq_ok h5
      refine ⟨_, h, Hp.size, ?_, by rw [upto_self]; exact hr, g10⟩
      subst ec
      subst e6
      subst e5
      subst e3
      rw [decs_c, decs_c, h2]
      show (if f = f then (if 0 ≤ IntKind.u64.wrap (W.n i) ∧ IntKind.u64.wrap (W.n i) < 18446744073709551616 ∧ (Int.ofNat 10) = 10 then some (Value.string ⟨(Lib.decDigits (IntKind.u64.wrap (W.n i)).toNat).toArray⟩, Hp.size) else none) else _) = some (Value.string ⟨(byt 0 0 ++ W.d i).toArray⟩, Hp.size)
      rw [if_pos rfl, if_pos ⟨by rw [wrapu64]; omega, by rw [wrapu64]; omega, rfl⟩, ← hW]
      rfl
  · have hne : f ≠ fu := by intro e; rw [e, Nat.beq_refl] at h1; cases h1
    rcases if_ok (c := Nat.beq f fi) g with ⟨h2, g1⟩ | ⟨h2, g1⟩
    · have e := kEq_ok h2
      subst e
      obtain ⟨x, l, rfl, g2⟩ := consX_ok g1
      obtain ⟨h3, g3⟩ := and4_ok g2
      have h3 : decs W l = [] := List.eq_nil_of_length_eq_zero (lenX_ok (W := W) h3)
      obtain ⟨y, rfl, g4⟩ := viewR_f g3
      obtain ⟨a, n, rfl, g5⟩ := viewP_f g4
      left
      have e4 : ov fu f f (decs W (.c (.r 5 (.p a n)) l)) Hp = some (.bool (identX a n), Hp.size) := by
        rw [decs_c, h3]
        show (if f = fu then _ else if f = f then some (Value.bool (isIdent (byt a n)), Hp.size) else none) = _
        rw [if_neg hne, if_pos rfl]
        rfl
      rcases if_ok (c := identX a n) g5 with ⟨h4, g6⟩ | ⟨h4, g6⟩
      · exact ⟨_, h, Hp.size, by rw [e4, h4]; rfl, by rw [upto_self]; exact hr, g6⟩
      · exact ⟨_, h, Hp.size, by rw [e4, h4]; rfl, by rw [upto_self]; exact hr, g6⟩
    · right
      have hne2 : f ≠ fi := by intro e; rw [e, Nat.beq_refl] at h2; cases h2
      refine ⟨?_, g1⟩
      unfold ov
      rw [if_neg hne, if_neg hne2]
theorem ovGood (fu fi : Nat) : OvGood (ov fu fi) := by
  have e : ∀ f args (H : Heap) j o, ov fu fi f args (H.put j o) = ov fu fi f args H := fun _ _ _ _ _ => rfl
  refine ⟨fun f args H v n h => ⟨?_, fun j o _ _ => by rw [e]; exact h⟩, fun f args H j o h _ _ => by rw [e]; exact h⟩
  unfold ov at h
  split at h
  · split at h
    · split at h
      · cases h; exact Nat.le_refl _
      · cases h
    · cases h
  · split at h
    · split at h
      · cases h; exact Nat.le_refl _
      · cases h
    · cases h

/-- A heap of tables alone, laid out. -/
noncomputable def isTrue (x : X) : Bool := viewB x true false
theorem isTrue_ok {W : Vl} {x : X} (h : isTrue x = true) : dec W x = .bool true := by
  rcases viewB_ok h with ⟨rfl, _⟩ | ⟨_, h⟩
  · rfl
  · cases h
/-- The law's run on the fast machine is the second machine's. -/
theorem run_ok {W : Vl} {Q : Tk} (hQ : TkOk Q W) (hd : ∀ i, (W.d i).length ≤ 100) (hW : ∀ i, W.d i = Lib.decDigits (IntKind.u64.wrap (W.n i)).toNat) {Γ : Nat → Option FnI} {fu fi m f : Nat} {as : X} {h : H} {Hp : Heap} (hr : HR W h Hp)
    (hk : callF Q Γ (ov4 fu fi) m f as h (fun x _ => isTrue x) = true) : ∃ H', evF Γ (ov fu fi) m f (decs W as) Hp = some (.bool true, H') := by
  obtain ⟨x, h', Hp', h1, _, h2⟩ := callF_ok hQ hd (ovR (Q := Q) hW) m f as h Hp _ hr hk
  exact ⟨Hp', by rw [h1, isTrue_ok h2]⟩
end Go.Proofs.YtiphbdhclldllaaGreatDoor.M4
