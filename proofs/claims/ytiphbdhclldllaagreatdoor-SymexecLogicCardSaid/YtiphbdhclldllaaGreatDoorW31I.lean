/- lexer.IsIdent, at the model itself. -/
import Derived.Test.YtiphbdhclldllaaGreatDoorProg
import Derived.Test.YtiphbdhclldllaaGreatDoorZagJ
import Derived.Tactics
import Derived.Tactics2
import Derived.StillTactics
import Derived.Laws.RangeString
import Derived.Laws.RangeAny
import Derived.Laws.Strings
import Derived.Laws.Strings2
import Derived.Laws.Strings3
import Derived.Laws.World
import Derived.Laws.Unary
import Derived.Laws.Small
import Derived.Scope
import Derived.FnLit
import Derived.LoopTactic
import Derived.WalkKit
import Derived.BigCall
set_option linter.unusedSimpArgs false
set_option linter.unusedVariables false
namespace Go.Proofs.YtiphbdhclldllaaGreatDoor.Ab
open Go
set_option maxRecDepth 1000000

theorem letter_calls (b : Nat) (hb : b < 256) (w : World) : Calls Tryz.prog 275 #[.int .u8 b] w fun e w' => e = .returned (.bool (decide (65 ≤ b ∧ b ≤ 90 ∨ 97 ≤ b ∧ b ≤ 122 ∨ b = 95))) ∧ w' = w := by
  go_enter Tryz.func275, Tryz.ntmps275
  go_wp2
  all_goals
    go_ret
    refine ⟨congrArg (fun b => Ending.returned (Value.bool b)) ?_, rfl⟩
    rw [Bool.eq_iff_iff]
    simp
    omega
theorem digit_calls (b : Nat) (hb : b < 256) (w : World) : Calls Tryz.prog 245 #[.int .u8 b] w fun e w' => e = .returned (.bool (decide (48 ≤ b ∧ b ≤ 57))) ∧ w' = w := by
  go_enter Tryz.func245, Tryz.ntmps245
  go_wp2
  all_goals
    go_ret
    refine ⟨congrArg (fun b => Ending.returned (Value.bool b)) ?_, rfl⟩
    rw [Bool.eq_iff_iff]
    simp
    omega
theorem word_calls (b : Nat) (hb : b < 256) (w : World) : Calls Tryz.prog 244 #[.int .u8 b] w fun e w' => e = .returned (.bool (decide ((65 ≤ b ∧ b ≤ 90 ∨ 97 ≤ b ∧ b ≤ 122 ∨ b = 95) ∨ 48 ≤ b ∧ b ≤ 57))) ∧ w' = w := by
  go_enter Tryz.func244, Tryz.ntmps244
  go_wp2_with (first
    | (go_at_call 275; refine (letter_calls b hb _).mono ?_; rintro e w' ⟨rfl, rfl⟩)
    | (go_at_call 245; refine (digit_calls b hb _).mono ?_; rintro e w' ⟨rfl, rfl⟩))
  all_goals
    go_ret
    refine ⟨congrArg (fun b => Ending.returned (Value.bool b)) ?_, rfl⟩
    rw [Bool.eq_iff_iff]
    simp
    omega
abbrev wordP (b : Nat) : Prop := (65 ≤ b ∧ b ≤ 90 ∨ 97 ≤ b ∧ b ≤ 122 ∨ b = 95) ∨ 48 ≤ b ∧ b ≤ 57
abbrev digP (b : Nat) : Prop := 48 ≤ b ∧ b ≤ 57
def okTo (s : ByteArray) (pos : Nat) : Prop := ∀ (j : Nat) (hj : j < s.size), j < pos → wordP (s[j]'hj).toNat ∧ (j = 0 → ¬ digP (s[j]'hj).toNat)

theorem wordB_iff (b : Nat) : M4.wordB b = true ↔ wordP b := by
  unfold M4.wordB wordP
  simp only [Bool.or_eq_true, Bool.and_eq_true, Nat.ble_eq, Nat.beq_eq]
  omega
theorem digitB_iff (b : Nat) : M4.digitB b = true ↔ digP b := by
  unfold M4.digitB digP
  simp only [Bool.and_eq_true, Nat.ble_eq]
theorem isIdent_iff (l : List UInt8) : M4.isIdent l = true ↔ l ≠ [] ∧ l.length ≤ 24 ∧ ∀ (j : Nat) (hj : j < l.length), wordP (l[j]'hj).toNat ∧ (j = 0 → ¬ digP (l[j]'hj).toNat) := by
  cases l with
  | nil => simp [M4.isIdent]
  | cons b r =>
    unfold M4.isIdent
    simp only [Bool.and_eq_true, Bool.not_eq_true', Nat.ble_eq, List.all_eq_true, wordB_iff]
    constructor
    · rintro ⟨⟨⟨h1, h2⟩, h3⟩, h4⟩
      refine ⟨by simp, h4, fun j hj => ?_⟩
      cases j with
      | zero => exact ⟨h2, fun _ hd => by have e := (digitB_iff b.toNat).2 hd; rw [e] at h1; cases h1⟩
      | succ j => exact ⟨h3 _ (List.getElem_mem _), fun h => by omega⟩
    · rintro ⟨_, h2, h3⟩
      refine ⟨⟨⟨?_, (h3 0 (by simp)).1⟩, fun x hx => ?_⟩, h2⟩
      · rw [← Bool.not_eq_true]
        intro hd
        exact (h3 0 (by simp)).2 rfl ((digitB_iff _).1 hd)
      · obtain ⟨j, hj, rfl⟩ := List.mem_iff_getElem.1 hx
        exact (h3 (j + 1) (by simp; omega)).1
theorem ident_no (s : ByteArray) (pos : Nat) (hp : pos < s.size) (h : ¬ wordP (s[pos]'hp).toNat ∨ pos = 0 ∧ digP (s[pos]'hp).toNat) : M4.isIdent s.data.toList = false := by
  rw [← Bool.not_eq_true]
  intro hi
  have h2 := ((isIdent_iff _).1 hi).2.2 pos (by rw [Array.length_toList]; exact hp)
  have e : (s.data.toList[pos]'(by rw [Array.length_toList]; exact hp)) = s[pos]'hp := rfl
  rw [e] at h2
  rcases h with h | ⟨h0, h⟩
  · exact h h2.1
  · exact h2.2 h0 h
theorem ident_end (s : ByteArray) (pos : Nat) (hp : ¬ pos < s.size) (hok : okTo s pos) : M4.isIdent s.data.toList = decide (s.size ≠ 0 ∧ s.size ≤ 24) := by
  rw [Bool.eq_iff_iff, isIdent_iff, decide_eq_true_eq]
  have hl : s.data.toList.length = s.size := by rw [Array.length_toList]; rfl
  constructor
  · rintro ⟨h1, h2, _⟩
    exact ⟨fun e => h1 (List.eq_nil_of_length_eq_zero (by omega)), by omega⟩
  · rintro ⟨h1, h2⟩
    refine ⟨fun e => h1 (by rw [← hl, e]; rfl), by omega, fun j hj => ?_⟩
    have hj' : j < s.size := by omega
    exact hok j hj' (by omega)
theorem okTo_succ {s : ByteArray} {pos : Nat} (hok : okTo s pos) (hp : pos < s.size) (h1 : wordP (s[pos]'hp).toNat) (h2 : pos = 0 → ¬ digP (s[pos]'hp).toNat) : okTo s (pos + 1) := by
  intro j hj hlt
  by_cases e : j = pos
  · subst e; exact ⟨h1, h2⟩
  · exact hok j hj (by omega)

theorem ident_calls (s : ByteArray) (w : World) : Calls Tryz.prog 178 #[.string s] w fun e w' => e = .returned (.bool (M4.isIdent s.data.toList)) ∧ ∃ pos, w' = w.iter s pos := by
  go_enter Tryz.func178, Tryz.ntmps178
  go_wp2
  go_loopw [2] (fun n w' => ∃ (pos : Nat), w' = w.iter s pos ∧ n = .bool false ∧ pos ≤ s.size ∧ okTo s pos) (fun _ w' => s.size - w'.iterPos w.heap.size)
  case atStart => exact ⟨0, rfl, rfl, Nat.zero_le _, fun j hj h => by omega⟩
  case round =>
    obtain ⟨pos, rfl, rfl, hle, hok⟩ := hrel
    by_cases hp : pos < s.size
    · have hno := ident_no s pos hp
      have hsucc := okTo_succ hok hp
      by_cases ha : (s[pos]'hp).toNat < 128
      · have hnx : ∀ ty, (Instr.next (.pointer (some ⟨w.heap.size, 0, none⟩)) true ty).run Tryz.prog (w.iter s pos) = _ := fun ty => run_next_ascii w s pos ty hp ha
        have hb := (s[pos]'hp).toNat_lt
        generalize hc : (s[pos]'hp).toNat = c at hnx ha hb hno hsucc
        go_wp2_with (first
          | (go_at_call 244; refine (word_calls c hb _).mono ?_; rintro e w' ⟨rfl, rfl⟩)
          | (go_at_call 245; refine (digit_calls c hb _).mono ?_; rintro e w' ⟨rfl, rfl⟩))
        all_goals first
          | (go_ret
             refine ⟨?_, _, rfl⟩
             rw [hno (by simp at *; omega)]
             first | done | rfl)
          | (go_roundw
             case rel => exact ⟨_, rfl, rfl, by omega, hsucc (by simp at *; omega) (by simp at *; omega)⟩
             case measure => simp; omega)
          | exact ⟨⟨_, rfl, rfl, by omega, hsucc (by simp at *; omega) (by simp at *; omega)⟩, by simp; omega⟩
          | (obtain rfl : pos = 0 := by assumption
             exact ⟨⟨1, rfl, rfl, by omega, hsucc (by simp at *; omega) (by simp at *; omega)⟩, by simp; omega⟩)
      · have hd := decode_high s pos hp (by omega)
        have hnx : ∀ ty, (Instr.next (.pointer (some ⟨w.heap.size, 0, none⟩)) true ty).run Tryz.prog (w.iter s pos) = _ := fun ty => run_next_any w s pos ty hp
        generalize (Utf8.decode s pos).1 = c at hnx hd
        go_wp2
        all_goals first
          | (go_ret
             refine ⟨?_, _, rfl⟩
             rw [hno (by unfold wordP; omega)]
             first | done | rfl)
    · have hnx : ∀ ty, (Instr.next (.pointer (some ⟨w.heap.size, 0, none⟩)) true ty).run Tryz.prog (w.iter s pos) = _ := fun ty => run_next_end w s pos ty hp
      have hemp : s.toList = [] ↔ s.size = 0 := by
        rw [ByteArray.toList_eq]
        have : s.data.toList.length = s.size := by rw [Array.length_toList]; rfl
        exact ⟨fun e => by rw [← this, e]; rfl, fun e => List.eq_nil_of_length_eq_zero (by omega)⟩
      go_wp2
      all_goals first
        | (go_ret
           refine ⟨?_, _, rfl⟩
           rw [ident_end s pos hp hok]
           refine congrArg (fun b => Ending.returned (Value.bool b)) ?_
           show _ = _
           rw [Bool.eq_iff_iff]
           simp [hemp] at *
           first | done | omega)
        | (have he : s = ByteArray.empty := by assumption
           subst he
           go_ret
           exact ⟨rfl, pos, rfl⟩)
end Go.Proofs.YtiphbdhclldllaaGreatDoor.Ab
