/- Heaps in lists of integers, by any total order: plain mathematics. -/
import Derived.Test.YtmgkdnncjapejaaZabQ
set_option linter.unusedSimpArgs false
set_option linter.unusedVariables false
namespace Go.Proofs.Ytmgkdnncjapejaa.Abs.W05

def g (l : List Int) (i : Nat) : Int := l.getD i 0
def sw (l : List Int) (i j : Nat) : List Int := (l.set i (g l j)).set j (g l i)

theorem g_eq {l : List Int} {i : Nat} (h : i < l.length) : l[i]? = some (g l i) := by
  simp [g, h]
theorem g_get {l : List Int} {i : Nat} (h : i < l.length) : l[i] = g l i := by
  simp [g, h]
theorem sw_len (l : List Int) (i j : Nat) : (sw l i j).length = l.length := by simp [sw]
theorem g_sw {l : List Int} {i j : Nat} (hi : i < l.length) (hj : j < l.length) (k : Nat) : g (sw l i j) k = if k = j then g l i else if k = i then g l j else g l k := by
  unfold sw
  by_cases h1 : k = j
  · subst h1; simp [g, hj]
  · by_cases h2 : k = i
    · subst h2
      have : ¬ j = k := fun e => h1 e.symm
      simp [g, hi, h1, this, List.getElem?_set]
    · have a : ¬ j = k := fun e => h1 e.symm
      have b : ¬ i = k := fun e => h2 e.symm
      simp [g, h1, h2, List.getElem?_set, a, b]

theorem sw_perm {l : List Int} {i j : Nat} (hi : i < l.length) (hj : j < l.length) : (sw l i j).Perm l := by
  rw [List.perm_iff_count]
  intro a
  unfold sw
  rw [List.count_set (by simpa using hj), List.count_set hi]
  have e1 : (l.set i (g l j))[j]'(by simpa using hj) = if i = j then g l j else g l j := by
    rw [List.getElem_set]; simp [g_get hj]
  have e2 : l[i] = g l i := g_get hi
  simp only [e1, e2, ite_self]
  have c1 : (g l i == a) = true → 0 < l.count a := fun h => by
    rw [List.count_pos_iff]; simp at h; rw [← h, ← e2]; exact List.getElem_mem _
  split <;> split <;> simp_all <;> omega

/-- A strict total order. -/
structure Ord (lt : Int → Int → Bool) : Prop where
  irr : ∀ a, lt a a = false
  asy : ∀ a b, lt a b = true → lt b a = false
  tr : ∀ a b c, lt a b = true → lt b c = true → lt a c = true
  tot : ∀ a b, lt a b = false → lt b a = false → a = b

theorem Ord.le {lt : Int → Int → Bool} (h : Ord lt) {a b c : Int} (h1 : lt b a = false) (h2 : lt c b = false) : lt c a = false := by
  cases e : lt c a with
  | false => rfl
  | true =>
    by_cases hab : lt a b = true
    · rw [h.tr c a b e hab] at h2; cases h2
    · have : a = b := h.tot a b (by simpa using hab) h1
      subst this; rw [e] at h2; cases h2

def Heap (lt : Int → Int → Bool) (l : List Int) : Prop := ∀ j, 0 < j → j < l.length → lt (g l j) (g l ((j - 1) / 2)) = false
/-- A heap, but that element i may be too small for its place. -/
def UpH (lt : Int → Int → Bool) (l : List Int) (i : Nat) : Prop :=
  (∀ j, 0 < j → j < l.length → j ≠ i → lt (g l j) (g l ((j - 1) / 2)) = false) ∧ (∀ j, j < l.length → 0 < j → (j - 1) / 2 = i → 0 < i → lt (g l j) (g l ((i - 1) / 2)) = false)
/-- A heap, but that element i may be too great for its place. -/
def DnH (lt : Int → Int → Bool) (l : List Int) (i : Nat) : Prop :=
  (∀ j, 0 < j → j < l.length → (j - 1) / 2 ≠ i → lt (g l j) (g l ((j - 1) / 2)) = false) ∧ (∀ j, j < l.length → 0 < j → (j - 1) / 2 = i → 0 < i → lt (g l j) (g l ((i - 1) / 2)) = false)

variable {lt : Int → Int → Bool}

theorem g_append_left {l : List Int} {x : Int} {i : Nat} (h : i < l.length) : g (l ++ [x]) i = g l i := by
  simp [g, List.getElem?_append_left h]
theorem g_append_last {l : List Int} {x : Int} : g (l ++ [x]) l.length = x := by simp [g]

theorem up_start {l : List Int} (h : Heap lt l) (x : Int) : UpH lt (l ++ [x]) l.length := by
  refine ⟨fun j h0 hj hne => ?_, fun j hj h0 hp hi => ?_⟩
  · simp at hj
    rw [g_append_left (by omega), g_append_left (by omega)]
    exact h j h0 (by omega)
  · simp at hj; omega

theorem up_done {l : List Int} {i : Nat} (h : UpH lt l i) (hi : i = 0 ∨ lt (g l i) (g l ((i - 1) / 2)) = false) : Heap lt l := by
  intro j h0 hj
  by_cases e : j = i
  · subst e
    rcases hi with hi | hi
    · omega
    · exact hi
  · exact h.1 j h0 hj e

theorem up_step (ho : Ord lt) {l : List Int} {i : Nat} (h : UpH lt l i) (hi : i < l.length) (h0 : 0 < i) (hlt : lt (g l i) (g l ((i - 1) / 2)) = true) : UpH lt (sw l i ((i - 1) / 2)) ((i - 1) / 2) := by
  have hp : (i - 1) / 2 < l.length := by omega
  refine ⟨fun j j0 hj hne => ?_, fun j hj j0 hpar hi0 => ?_⟩
  · rw [sw_len] at hj
    rw [g_sw hi hp, g_sw hi hp]
    rw [if_neg hne]
    by_cases e : j = i
    · subst e
      rw [if_pos rfl, if_pos rfl]
      exact ho.asy _ _ hlt
    · rw [if_neg e]
      by_cases e2 : (j - 1) / 2 = (i - 1) / 2
      · rw [if_pos e2]
        have h1 := h.1 j j0 hj e
        rw [e2] at h1
        exact ho.le (ho.asy _ _ hlt) h1
      · rw [if_neg e2]
        by_cases e3 : (j - 1) / 2 = i
        · rw [if_pos e3]
          exact h.2 j hj j0 e3 h0
        · rw [if_neg e3]
          exact h.1 j j0 hj e
  · rw [sw_len] at hj
    have hpp : ((i - 1) / 2 - 1) / 2 < l.length := by omega
    rw [g_sw hi hp, g_sw hi hp]
    have n1 : ¬ j = (i - 1) / 2 := by omega
    have n2 : ¬ ((i - 1) / 2 - 1) / 2 = (i - 1) / 2 := by omega
    have n3 : ¬ ((i - 1) / 2 - 1) / 2 = i := by omega
    rw [if_neg n1, if_neg n2, if_neg n3]
    have hpar2 := h.1 ((i - 1) / 2) hi0 hp (by omega)
    by_cases e : j = i
    · subst e
      rw [if_pos rfl]
      exact hpar2
    · rw [if_neg e]
      have h1 := h.1 j j0 hj e
      rw [hpar] at h1
      exact ho.le hpar2 h1

theorem heap_root (ho : Ord lt) {l : List Int} (h : Heap lt l) : ∀ (n j : Nat), j ≤ n → j < l.length → lt (g l j) (g l 0) = false := by
  intro n
  induction n with
  | zero => intro j hj hl; have : j = 0 := by omega
            subst this; exact ho.irr _
  | succ n ih =>
    intro j hj hl
    by_cases h0 : j = 0
    · subst h0; exact ho.irr _
    · exact ho.le (ih ((j - 1) / 2) (by omega) (by omega)) (h j (by omega) hl)

/-- The last element in the place of the first, and taken off. -/
theorem dn_start {l : List Int} (h : Heap lt l) (hl : 0 < l.length) : DnH lt ((sw l 0 (l.length - 1)).take (l.length - 1)) 0 := by
  have hlen : ((sw l 0 (l.length - 1)).take (l.length - 1)).length = l.length - 1 := by simp [sw_len]
  have hg : ∀ j, j < l.length - 1 → j ≠ 0 → g ((sw l 0 (l.length - 1)).take (l.length - 1)) j = g l j := by
    intro j hj h0
    have : g ((sw l 0 (l.length - 1)).take (l.length - 1)) j = g (sw l 0 (l.length - 1)) j := by
      simp [g, List.getElem?_take, hj]
    rw [this, g_sw (by omega) (by omega), if_neg (by omega), if_neg h0]
  refine ⟨fun j j0 hj hne => ?_, fun j hj j0 hp h0 => by omega⟩
  rw [hlen] at hj
  rw [hg j hj (by omega), hg _ (by omega) hne]
  exact h j j0 (by omega)

theorem dn_done {l : List Int} {i : Nat} (h : DnH lt l i) (h1 : 2 * i + 1 < l.length → lt (g l (2 * i + 1)) (g l i) = false) (h2 : 2 * i + 2 < l.length → lt (g l (2 * i + 2)) (g l i) = false) : Heap lt l := by
  intro j j0 hj
  by_cases e : (j - 1) / 2 = i
  · rw [e]
    have : j = 2 * i + 1 ∨ j = 2 * i + 2 := by omega
    rcases this with rfl | rfl
    · exact h1 hj
    · exact h2 hj
  · exact h.1 j j0 hj e

/-- c is a child of i, smaller than i, and not greater than the other child. -/
theorem dn_step (ho : Ord lt) {l : List Int} {i c : Nat} (h : DnH lt l i) (hc : c < l.length) (hci : c = 2 * i + 1 ∨ c = 2 * i + 2) (hlt : lt (g l c) (g l i) = true)
    (hoth : ∀ j, j < l.length → (j = 2 * i + 1 ∨ j = 2 * i + 2) → lt (g l j) (g l c) = false) : DnH lt (sw l i c) c := by
  have hi : i < l.length := by omega
  refine ⟨fun j j0 hj hne => ?_, fun j hj j0 hp h0 => ?_⟩
  · rw [sw_len] at hj
    rw [g_sw hi hc, g_sw hi hc]
    by_cases e : j = c
    · rw [if_pos e]
      have hpc : (j - 1) / 2 = i := by omega
      rw [if_neg (by omega), if_pos hpc]
      exact ho.asy _ _ hlt
    · rw [if_neg e]
      by_cases e2 : j = i
      · rw [if_pos e2, if_neg (by omega), if_neg (by omega)]
        subst e2
        exact h.2 c hc (by omega) (by omega) j0
      · rw [if_neg e2, if_neg hne]
        by_cases e3 : (j - 1) / 2 = i
        · rw [if_pos e3]
          exact hoth j hj (by omega)
        · rw [if_neg e3]
          exact h.1 j j0 hj e3
  · rw [sw_len] at hj
    rw [g_sw hi hc, g_sw hi hc]
    rw [if_neg (by omega), if_neg (by omega)]
    have hpc : (c - 1) / 2 = i := by omega
    rw [hpc, if_neg (by omega), if_pos rfl]
    have := h.1 j j0 hj (by omega)
    rw [hp] at this
    exact this

end Go.Proofs.Ytmgkdnncjapejaa.Abs.W05
