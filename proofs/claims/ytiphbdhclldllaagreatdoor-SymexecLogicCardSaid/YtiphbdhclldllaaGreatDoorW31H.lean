/- The law's run, on the second machine; what is known of the two functions. -/
import Derived.Test.YtiphbdhclldllaaGreatDoorW31E
import Derived.Test.YtiphbdhclldllaaGreatDoorW31G
import Derived.Test.YtiphbdhclldllaaGreatDoorW31I
import Derived.Test.YtiphbdhclldllaaGreatDoorW31F
import Derived.Lib.LaidTab
import Derived.Lib.AppendIntMem
set_option linter.unusedSimpArgs false
set_option linter.unusedVariables false
namespace Go.Proofs.YtiphbdhclldllaaGreatDoor.Ab
open Go Go.Proofs.YtiphbdhclldllaaGreatDoor.Mx Go.Proofs.YtiphbdhclldllaaGreatDoor.M4
set_option maxRecDepth 1000000

def tab0 : List Value := [.int .i64 0, .int .i64 1, .int .i64 8, .int .i64 32, .int .i64 64]
def tab1 : List Value := p10.map fun (n : Nat) => .int .u64 (n : Int)
def Hg (e0 e1 : TypeId) : Heap := ⟨4, .node (some (.cells e0 true tab0)) (.node (some (.cells e1 true tab1)) .nil .nil) .nil⟩
theorem decs_pw (W : Vl) : ∀ l : List Nat, decs W (l.foldr (fun n x => X.c (.p 7 n) x) .e) = l.map fun (n : Nat) => Value.int .u64 (n : Int)
  | [] => rfl
  | n :: l => by
    rw [List.foldr_cons, decs_c, decs_pw W l]
    rfl
theorem fleaf (o : O) (n : Nat) : (F.nd o .nil .nil .nil .nil).get n = if n = 0 then o else .no := by
  cases n with
  | zero => rfl
  | succ n =>
    rw [F.get_succ, if_neg (by omega)]
    rcases n % 4 with _ | _ | _ | _ <;> rfl
theorem hr0 (W : Vl) (e0 e1 : TypeId) : HR W (h0 e0 e1) (Hg e0 e1) := by
  have out : ∀ id, 4 ≤ id → (F.nd (.cells e0 true wid) (.nd (.cells e1 true pwX) .nil .nil .nil .nil) (.nd .nope .nil .nil .nil .nil) (.nd .nope .nil .nil .nil .nil) .nil).get id = .no := by
    intro id hid
    obtain ⟨m, rfl⟩ : ∃ m, id = m + 1 := ⟨id - 1, by omega⟩
    rw [F.get_succ]
    rcases hm : m % 4 with _ | _ | _ | _ | k
    · show (F.nd _ .nil .nil .nil .nil).get _ = _
      rw [fleaf, if_neg (by omega)]
    · show (F.nd _ .nil .nil .nil .nil).get _ = _
      rw [fleaf, if_neg (by omega)]
    · show (F.nd _ .nil .nil .nil .nil).get _ = _
      rw [fleaf, if_neg (by omega)]
    · rfl
    · rfl
  refine ⟨rfl, fun id => ?_, out⟩
  have hg : ∀ id, (Hg e0 e1).get id = if id = 0 then some (.cells e0 true tab0) else if id = 1 then some (.cells e1 true tab1) else none := by
    intro id
    show (Tr.node (some (Ob.cells e0 true tab0)) (.node (some (.cells e1 true tab1)) .nil .nil) .nil).get id = _
    rcases nat_cases id with rfl | ⟨k, rfl⟩ | ⟨k, rfl⟩
    · rfl
    · rw [Tr.get_odd, if_neg (by omega)]
      rcases nat_cases k with rfl | ⟨j, rfl⟩ | ⟨j, rfl⟩
      · rfl
      · rw [Tr.get_odd, if_neg (by omega)]; rfl
      · rw [Tr.get_even, if_neg (by omega)]; rfl
    · rw [Tr.get_even, if_neg (by omega), if_neg (by omega)]; rfl
  rw [hg]
  by_cases h4 : 4 ≤ id
  · rw [out id h4, if_neg (by omega), if_neg (by omega)]
    have : ¬ id < 4 := by omega
    simp [decO, this]
  · match id, h4 with
    | 0, _ => rfl
    | 1, _ =>
      show some (Ob.cells e1 true tab1) = some (.cells e1 true (decs W pwX))
      unfold pwX tab1
      rw [decs_pw]
    | 2, _ => rfl
    | 3, _ => rfl
    | k + 4, h => exact absurd (by omega) h

/-- What the tokens stand for. -/
def Wv (n k id : Int) : Vl := ⟨fun i => match i with | 0 => n | 1 => k | 2 => id | _ => 0, fun i => Lib.decDigits (IntKind.u64.wrap (match i with | 0 => n | 1 => k | 2 => id | _ => 0)).toNat⟩
theorem wv_d (n k id : Int) (i : Nat) : (Wv n k id).d i = Lib.decDigits (IntKind.u64.wrap ((Wv n k id).n i)).toNat := rfl
theorem wv_len (n k id : Int) (i : Nat) : ((Wv n k id).d i).length ≤ 100 := by
  rw [wv_d]
  have hp : (10 : Nat) ^ (19 + 1) = 100000000000000000000 := by decide
  have hu : (IntKind.u64.wrap ((Wv n k id).n i)).toNat < 18446744073709551616 := by rw [wrapu64]; omega
  have h := dig_len 19 (IntKind.u64.wrap ((Wv n k id).n i)).toNat (by rw [hp]; omega)
  omega
abbrev In64 (n : Int) : Prop := -9223372036854775808 ≤ n ∧ n ≤ 9223372036854775807
theorem tkOk {Q : Tk} {n k id : Int} (hn : In64 n) (hk : In64 k) (hi : In64 id) (h1 : ∀ i j b, Q.tt i j = some b → decide ((Wv n k id).n i = (Wv n k id).n j) = b) (h2 : ∀ i m b, Q.tl i m = some b → decide ((Wv n k id).n i = m) = b) : TkOk Q (Wv n k id) := by
  have r : ∀ i, In64 ((Wv n k id).n i) := fun i => match i with
    | 0 => hn
    | 1 => hk
    | 2 => hi
    | _ + 3 => ⟨(by show (-9223372036854775808 : Int) ≤ 0; decide), (by show (0 : Int) ≤ 9223372036854775807; decide)⟩
  exact ⟨fun i => (r i).1, fun i => (r i).2, h1, h2, fun i => by rw [wv_d]; exact dig_ne _, fun i b hb => by rw [wv_d] at hb; exact dig_dig _ b hb⟩
theorem dec_tk (n k id : Int) (i : Nat) (h : In64 ((Wv n k id).n i)) : dec (Wv n k id) (tk i) = .int .i64 ((Wv n k id).n i) := by
  show Value.int .i64 (IntKind.i64.wrap ((Wv n k id).n i)) = _
  rw [wrap64 h.1 h.2]
theorem evA : ∀ (e : Bool) (e0 e1 : TypeId), run QA (.p 0 0) (.p 0 0) e e0 e1 = true
  | false, e0, e1 => evA0 e0 e1
  | true, e0, e1 => evA1 e0 e1
theorem evB : ∀ (e : Bool) (e0 e1 : TypeId), run QB (.p 0 0) (tk 1) e e0 e1 = true
  | false, e0, e1 => evB0 e0 e1
  | true, e0, e1 => evB1 e0 e1
theorem evC : ∀ (e : Bool) (e0 e1 : TypeId), run QC (tk 0) (tk 0) e e0 e1 = true
  | false, e0, e1 => evC0 e0 e1
  | true, e0, e1 => evC1 e0 e1
theorem evD : ∀ (e : Bool) (e0 e1 : TypeId), run QD (tk 0) (tk 1) e e0 e1 = true
  | false, e0, e1 => evD0 e0 e1
  | true, e0, e1 => evD1 e0 e1
theorem law_run {n k id : Int} {e : Bool} (hn : In64 n) (hk : In64 k) (hi : In64 id) (e0 e1 : TypeId) : ∃ H', evF Γ (ov 92 178) 10000 3 [.int .i64 n, .int .i64 k, .bool e, .int .i64 id] (Hg e0 e1) = some (.bool true, H') := by
  have go : ∀ (Q : Tk) (x y : X), TkOk Q (Wv n k id) → run Q x y e e0 e1 = true → dec (Wv n k id) x = .int .i64 n → dec (Wv n k id) y = .int .i64 k → ∃ H', evF Γ (ov 92 178) 10000 3 [.int .i64 n, .int .i64 k, .bool e, .int .i64 id] (Hg e0 e1) = some (.bool true, H') := by
    intro Q x y hQ hr hx hy
    obtain ⟨H', h⟩ := run_ok hQ (wv_len n k id) (wv_d n k id) (hr0 (Wv n k id) e0 e1) hr
    refine ⟨H', ?_⟩
    have ed : decs (Wv n k id) (.c x (.c y (.c (.b e) (.c (tk 2) .e)))) = [.int .i64 n, .int .i64 k, .bool e, .int .i64 id] := by
      rw [decs_c, decs_c, decs_c, decs_c, hx, hy, dec_tk n k id 2 hi]
      rfl
    rw [ed] at h
    exact h
  by_cases h0 : n = 0
  · by_cases hk0 : k = 0
    · have Q0 : TkOk QA (Wv n k id) := tkOk hn hk hi (fun i j b h => by
        unfold QA at h
        simp only at h
        split at h <;> first | (cases h; simp) | cases h) (fun i m b h => by cases h)
      exact go QA (.p 0 0) (.p 0 0) Q0 (evA e e0 e1) (by rw [h0]; rfl) (by rw [hk0]; rfl)
    · have Q0 : TkOk QB (Wv n k id) := tkOk hn hk hi (fun i j b h => by
        unfold QB at h
        simp only at h
        split at h <;> first | (cases h; simp) | cases h) (fun i m b h => by
        unfold QB at h
        simp only at h
        split at h
        · cases h; simpa [Wv] using hk0
        · cases h)
      exact go QB (.p 0 0) (tk 1) Q0 (evB e e0 e1) (by rw [h0]; rfl) (dec_tk n k id 1 hk)
  · by_cases hnk : n = k
    · have Q0 : TkOk QC (Wv n k id) := tkOk hn hk hi (fun i j b h => by
        unfold QC at h
        simp only at h
        split at h <;> first | (cases h; simp) | cases h) (fun i m b h => by
        unfold QC at h
        simp only at h
        split at h
        · cases h; simpa [Wv] using h0
        · cases h)
      exact go QC (tk 0) (tk 0) Q0 (evC e e0 e1) (dec_tk n k id 0 hn) (by rw [dec_tk n k id 0 hn, ← hnk]; rfl)
    · have Q0 : TkOk QD (Wv n k id) := tkOk hn hk hi (fun i j b h => by
        unfold QD at h
        simp only at h
        split at h
        · cases h; simp
        · cases h; simp
        · cases h; simp
        · cases h; simpa [Wv] using hnk
        · cases h; simpa [Wv] using fun e => hnk e.symm
        · cases h) (fun i m b h => by
        unfold QD at h
        simp only at h
        split at h
        · cases h; simpa [Wv] using h0
        · cases h)
      exact go QD (tk 0) (tk 1) Q0 (evD e e0 e1) (dec_tk n k id 0 hn) (dec_tk n k id 1 hk)

/-! ### what is known of the two functions -/
def Tb : Bs → World → Prop := fun B0 w0 => Lib.TabIs Tryz.prog w0 "internal/strconv.uint64pow10" .u64 Lib.pow10Tab ∧ 1 < B0.b
theorem gpow : Tryz.prog.globalNamed "internal/strconv.uint64pow10" = some 1 := by kernel_rfl
theorem ok92 : CallOk Tryz.prog 92 := callOk_of Tryz.func92 rfl (by decide)
theorem ok178 : CallOk Tryz.prog 178 := callOk_of Tryz.func178 rfl (by decide)
theorem ovOk : OvOk Tryz.prog Tb (ov 92 178) := by
  intro f args H v n h
  unfold ov at h
  split at h
  · rename_i hf
    subst hf
    split at h
    · rename_i x b
      split at h
      · rename_i hc
        obtain ⟨hx0, hx1, rfl⟩ := hc
        cases h
        obtain ⟨u, rfl⟩ : ∃ u : Nat, x = u := ⟨x.toNat, by omega⟩
        refine known_pure ok92 rfl rfl (fun B0 w0 w _ htb keep _ => ?_) H
        have ht : Lib.TabIs Tryz.prog w "internal/strconv.uint64pow10" .u64 Lib.pow10Tab := by
          have h1 := htb.1
          unfold Lib.TabIs World.var? at h1 ⊢
          rw [gpow] at h1 ⊢
          simp only [Option.bind_some] at h1 ⊢
          rw [keep 1 htb.2]
          exact h1
        refine (fmtUint u (by omega) w ht).mono ?_
        rintro e w' ⟨rfl, k, os, rfl⟩
        exact ⟨rfl, Lib.below_grow _ w (Nat.le_refl _) k os⟩
      · cases h
    · cases h
  · split at h
    · rename_i hf
      subst hf
      split at h
      · rename_i s
        cases h
        refine known_pure ok178 rfl rfl (fun B0 w0 w _ _ _ _ => (ident_calls s w).mono ?_) H
        rintro e w' ⟨rfl, pos, rfl⟩
        refine ⟨rfl, rfl, rfl, rfl, ?_, fun k hk => ?_⟩
        · show w.heap.size ≤ (w.heap.push _).size
          simp
        · show (w.heap.push _)[k]? = w.heap[k]?
          rw [Array.getElem?_push_lt hk, Array.getElem?_eq_getElem hk]
      · cases h
    · cases h
end Go.Proofs.YtiphbdhclldllaaGreatDoor.Ab
