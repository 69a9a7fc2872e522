/- Memory, lists of cells, single values. -/
import Derived.Test.YtiphbdhclldllaaGreatDoorZagD
set_option linter.unusedSimpArgs false
set_option linter.unusedVariables false
namespace Go.Proofs.YtiphbdhclldllaaGreatDoor.M4
open Go Go.Proofs.YtiphbdhclldllaaGreatDoor.Mx

def ent (v : Value) : Value × Value × Nat :=
  match v with
  | .agg a => match a.toList with
    | k :: v :: .int _ b :: _ => (k, v, b.toNat)
    | _ => (junk, junk, 0)
  | _ => (junk, junk, 0)
def decO (W : Vl) (p : Bool) : O → Option Ob
  | .no => bif p then some .pend else none
  | .nope => none
  | .dead => some .dead
  | .cells el ro cs => some (.cells el ro (decs W cs))
  | .map es c => some (.map ((decs W es).map ent) c)
def HR (W : Vl) : H → Heap → Prop
  | .mk n f, Hp => Hp.size = n ∧ (∀ id, Hp.get id = decO W (decide (id < n)) (f.get id)) ∧ ∀ id, n ≤ id → f.get id = .no

section
variable {W : Vl}
theorem row_ok {h : H} {Hp : Heap} (hr : HR W h Hp) {id : Nat} {k : Nat → Bool → X → Bool} (hk : H.row h id k = true) : ∃ el ro cs, Hp.get id = some (.cells el ro (decs W cs)) ∧ k el ro cs = true := by
  cases h with | mk n f => ?_
  obtain ⟨_, h2, _⟩ := hr
  unfold H.row at hk
  have e : H.get (.mk n f) id = f.get id := rfl
  rw [e] at hk
  rw [h2 id]
  cases ho : f.get id <;> rw [ho] at hk <;> first | exact absurd hk Bool.false_ne_true | exact ⟨_, _, _, rfl, hk⟩
theorem mapRow_ok {h : H} {Hp : Heap} (hr : HR W h Hp) {id : Nat} {k : X → Nat → Bool} (hk : mapRow h id k = true) : ∃ es c, Hp.get id = some (.map ((decs W es).map ent) c) ∧ k es c = true := by
  cases h with | mk n f => ?_
  obtain ⟨_, h2, _⟩ := hr
  unfold mapRow at hk
  have e : H.get (.mk n f) id = f.get id := rfl
  rw [e] at hk
  rw [h2 id]
  cases ho : f.get id <;> rw [ho] at hk <;> first | exact absurd hk Bool.false_ne_true | exact ⟨_, _, rfl, hk⟩
theorem put_in {n : Nat} {f : F} {Hp : Heap} (hr : HR W (.mk n f) Hp) {id : Nat} (hlt : id < n) {o : O} {ob : Ob} (ho : ∀ p, decO W p o = some ob) {k : H → Bool} (hk : H.put (.mk n f) id o k = true) : ∃ h', k h' = true ∧ HR W h' (Hp.put id ob) := by
  obtain ⟨h1, h2, h5⟩ := hr
  have hk' : F.set 60 f id o (fun f' => k (.mk n f')) = true := hk
  obtain ⟨f', h3, h4⟩ := F.set_ok _ _ _ _ _ hk'
  refine ⟨_, h3, h1, fun i => ?_, fun i hi => ?_⟩
  · rw [Heap.get_put, h4]
    by_cases hi : id = i
    · subst hi; rw [if_pos rfl, if_pos rfl, ho]
    · rw [if_neg hi, if_neg (fun e => hi e.symm)]; exact h2 i
  · rw [h4, if_neg (by omega)]; exact h5 i hi
theorem put_ok {h : H} {Hp : Heap} (hr : HR W h Hp) {id : Nat} {o : O} {ob : Ob} (ho : ∀ p, decO W p o = some ob) {k : H → Bool} (hk : H.put h id o k = true) (hex : Hp.get id ≠ none) : ∃ h', k h' = true ∧ HR W h' (Hp.put id ob) := by
  cases h with | mk n f => ?_
  have hlt : id < n := by
    obtain ⟨h1, h2, h5⟩ := hr
    apply Classical.byContradiction
    intro hn
    apply hex
    rw [h2 id, h5 id (by omega)]
    simp [decO, hn]
  exact put_in hr hlt ho hk
theorem new_ok {h : H} {Hp : Heap} (hr : HR W h Hp) {id : Nat} {o : O} {ob : Ob} (ho : ∀ p, decO W p o = some ob) {k : H → Bool} (hk : H.new h id o k = true) : ∃ h', k h' = true ∧ Hp.new id ob = some (Hp.put id ob) ∧ HR W h' (Hp.put id ob) := by
  cases h with | mk n f => ?_
  have hr' := hr
  obtain ⟨h1, h2, _⟩ := hr
  have hk' : O.rec (motive := fun _ => Bool) (Bool.rec (motive := fun _ => Bool) false (H.put (.mk n f) id o k) (Nat.ble (Nat.succ id) n)) false false (fun _ _ _ => false) (fun _ _ => false) (f.get id) = true := hk
  cases hg : f.get id <;> rw [hg] at hk' <;> try exact absurd hk' Bool.false_ne_true
  obtain ⟨hlt, hp⟩ := if_t hk'
  have hlt : id < n := Nat.le_of_ble_eq_true hlt
  obtain ⟨h', h5, h6⟩ := put_in hr' hlt ho hp
  refine ⟨h', h5, ?_, h6⟩
  unfold Heap.new
  rw [h2 id, hg]
  simp [decO, hlt]
theorem ext_ok {h : H} {Hp : Heap} (hr : HR W h Hp) {na : Nat} {k : Nat → H → Bool} (hk : regX h na k = true) : ∃ h', HR W h' (Heap.ext na Hp) ∧ k Hp.size h' = true := by
  cases h with | mk n f => ?_
  obtain ⟨h1, h2, h3⟩ := hr
  have hk' : nat (n + na) (fun m => k n (.mk m f)) = true := hk
  rw [nat_eq] at hk'
  refine ⟨.mk (n + na) f, ⟨by rw [Heap.size_ext, h1], fun i => ?_, fun i hi => h3 i (by omega)⟩, by rw [h1]; exact hk'⟩
  rw [Heap.get_ext, h1]
  by_cases hi : n ≤ i ∧ i < n + na
  · rw [if_pos hi, h3 i hi.1]
    simp [decO, hi.2]
  · rw [if_neg hi, h2 i]
    by_cases hn : i < n
    · have : i < n + na := by omega
      simp [hn, this]
    · have h4 : ¬ i < n + na := by omega
      rw [h3 i (by omega)]
      simp [decO, hn, h4]

/-! ### lists of cells -/
theorem decs_drop : ∀ (n : Nat) (l : X), decs W (dropX n l) = (decs W l).drop n
  | 0, l => rfl
  | n + 1, l => by
    cases l
    case c x l => exact decs_drop n l
    all_goals first | rfl | (show ([] : List Value) = List.drop (n + 1) []; simp)
theorem nth_ok {cs : X} {off : Nat} {k : X → Bool} (h : headX (dropX off cs) k = true) : ∃ x, (decs W cs)[off]? = some (dec W x) ∧ k x = true := by
  obtain ⟨x, r, e, hk⟩ := headX_ok h
  have := decs_drop (W := W) off cs
  rw [e, decs_c] at this
  refine ⟨x, ?_, hk⟩
  have h2 : ((decs W cs).drop off)[0]? = some (dec W x) := by rw [← this]; rfl
  simpa using h2
theorem take_ok : ∀ {n : Nat} {l : X} {k : X → X → Bool}, takeX n l k = true → ∃ a b, k a b = true ∧ decs W l = decs W a ++ decs W b ∧ (decs W a).length = n
  | 0, l, k, h => ⟨.e, l, h, rfl, rfl⟩
  | n + 1, l, k, h => by
    obtain ⟨x, r, rfl, h⟩ := consX_ok h
    obtain ⟨a, b, h1, h2, h3⟩ := take_ok (n := n) h
    exact ⟨_, b, h1, by rw [decs_c, decs_c, h2]; rfl, by rw [decs_c, List.length_cons, h3]⟩
theorem take_drop {n off : Nat} {cs : X} {k : X → X → Bool} (hn : 0 < n) (h : takeX n (dropX off cs) k = true) : ∃ a b, k a b = true ∧ off + n ≤ (decs W cs).length ∧ ((decs W cs).drop off).take n = decs W a := by
  obtain ⟨a, b, h1, h2, h3⟩ := take_ok (W := W) h
  rw [decs_drop] at h2
  have hl := congrArg List.length h2
  rw [List.length_drop, List.length_append, h3] at hl
  refine ⟨a, b, h1, by omega, ?_⟩
  rw [h2, List.take_left' h3]
theorem app_ok : ∀ {a b : X} {k : X → Bool}, appX a b k = true → ∃ l, k l = true ∧ decs W l = decs W a ++ decs W b := by
  intro a
  induction a with
  | e => intro b k h; exact ⟨b, h, rfl⟩
  | c x l _ ih =>
    intro b k h
    obtain ⟨l', h1, h2⟩ := ih (k := fun l => k (.c x l)) h
    exact ⟨_, h1, by rw [decs_c, decs_c, h2]; rfl⟩
  | _ => intro b k h; exact absurd h Bool.false_ne_true
theorem okX_ok {x : X} (h : okX x = true) : okCell (dec W x) = true := by
  cases x
  case r g x =>
    obtain ⟨h1, h⟩ := if_t h
    obtain ⟨h2, h⟩ := if_t h
    obtain ⟨h3, _⟩ := if_f h
    have g1 := Nat.le_of_ble_eq_true h1
    have g2 := Nat.le_of_ble_eq_true h2
    rw [dec_r]
    rcases g with _ | _ | _ | _ | _ | _ | _ | _ | _ | _ | _ | _ | _ | _ | g
    all_goals first | omega | (cases h3; done) | skip
    all_goals (simp only [dr]; first | rfl | (split <;> first | rfl | (split <;> rfl)))
  all_goals first | rfl | exact absurd h Bool.false_ne_true
theorem okL_ok : ∀ {l : X} {n : Nat} {k : Nat → Bool}, okL l n k = true → (decs W l).all okCell = true ∧ k (n + (decs W l).length) = true := by
  intro l
  induction l with
  | e => intro n k h; exact ⟨rfl, h⟩
  | c x l _ ih =>
    intro n k h
    obtain ⟨h1, h2⟩ := and4_ok h
    obtain ⟨h3, h4⟩ := ih h2
    refine ⟨by rw [decs_c, List.all_cons, okX_ok h1, h3]; rfl, ?_⟩
    rw [decs_c, List.length_cons]
    have : n + ((decs W l).length + 1) = n.succ + (decs W l).length := by omega
    rw [this]; exact h4
  | _ => intro n k h; exact absurd h Bool.false_ne_true
theorem dr_cells (g : Nat) (x : X) (v : Value) (vs : List Value) : (dr W g x v vs).cells = #[dr W g x v vs] := by
  rcases g with _ | _ | _ | _ | _ | _ | _ | _ | _ | _ | _ | _ | _ | _ | _ | g
  all_goals (simp only [dr]; first | rfl | (split <;> first | rfl | (split <;> rfl)))
theorem cells_ok {x : X} {k : X → Bool} (h : cellsX x k = true) : ∃ vs, k vs = true ∧ decs W vs = (dec W x).cells.toList := by
  cases x
  case r g x => exact ⟨_, h, by rw [dec_r, dr_cells]; rfl⟩
  case e => exact absurd h Bool.false_ne_true
  case c x l => exact absurd h Bool.false_ne_true
  all_goals exact ⟨_, h, rfl⟩
theorem over_ok : ∀ {vs l : X} {k : X → Bool}, overX vs l k = true → ∃ l', k l' = true ∧ decs W l' = decs W vs ++ (decs W l).drop (decs W vs).length ∧ (decs W vs).length ≤ (decs W l).length := by
  intro vs
  induction vs with
  | e => intro l k h; exact ⟨l, h, rfl, Nat.zero_le _⟩
  | c x v _ ih =>
    intro l k h
    obtain ⟨y, l, rfl, h⟩ := consX_ok h
    obtain ⟨l', h1, h2, h3⟩ := ih (k := fun l => k (.c x l)) h
    exact ⟨_, h1, by rw [decs_c, decs_c, h2, decs_c]; rfl, by rw [decs_c, decs_c, List.length_cons, List.length_cons]; omega⟩
  | _ => intro l k h; exact absurd h Bool.false_ne_true
theorem put_cells : ∀ {off : Nat} {vs l : X} {k : X → Bool}, putX off vs l k = true → ∃ l', k l' = true ∧ decs W l' = setRange (decs W l) off (decs W vs) ∧ off + (decs W vs).length ≤ (decs W l).length
  | 0, vs, l, k, h => by
    obtain ⟨l', h1, h2, h3⟩ := over_ok (W := W) (k := k) h
    exact ⟨l', h1, by rw [h2]; simp [setRange], by omega⟩
  | off + 1, vs, l, k, h => by
    obtain ⟨x, l, rfl, h⟩ := consX_ok h
    obtain ⟨l', h1, h2, h3⟩ := put_cells (off := off) (k := fun l => k (.c x l)) h
    refine ⟨_, h1, ?_, by rw [decs_c, List.length_cons]; omega⟩
    rw [decs_c, decs_c, h2]
    have : off + 1 + (decs W vs).length = (off + (decs W vs).length) + 1 := by omega
    simp [setRange, this]

/-! ### single values -/
theorem kOf_kN (k : IntKind) : kOf (kN k) = k := by cases k <;> rfl
theorem byt_ofBytes : ∀ (l : List UInt8) (a : Nat), byt l.length (l.foldl (fun n b => n * 256 + b.toNat) a) = l := by
  intro l
  induction hn : l.length generalizing l with
  | zero => intro a; cases l with | nil => rfl | cons b l => cases hn
  | succ n ih =>
    intro a
    have hne : l ≠ [] := by intro e; subst e; cases hn
    obtain ⟨l', b, rfl⟩ : ∃ l' b, l = l' ++ [b] := ⟨l.dropLast, l.getLast hne, (List.dropLast_concat_getLast hne).symm⟩
    have hl : l'.length = n := by simp at hn; exact hn
    rw [List.foldl_append]
    simp only [List.foldl_cons, List.foldl_nil, byt]
    have hb : b.toNat < 256 := b.toNat_lt
    have e1 : (l'.foldl (fun n b => n * 256 + b.toNat) a * 256 + b.toNat) / 256 = l'.foldl (fun n b => n * 256 + b.toNat) a := by omega
    have e2 : (l'.foldl (fun n b => n * 256 + b.toNat) a * 256 + b.toNat) % 256 = b.toNat := by omega
    rw [e1, e2, ih l' hl a, UInt8.ofNat_toNat]
theorem encL0_ok {v : Value} {x : X} (h : encL0 v = some x) : dec W x = v := by
  unfold encL0 at h
  split at h
  all_goals first | (cases h; done) | skip
  all_goals (cases h)
  case h_2 k n => rw [dec_p, kOf_kN]
  case h_3 k n => rw [dec_m, kOf_kN]
  case h_4 s =>
    rw [dec_r]
    show Value.string ⟨(byt s.data.toList.length (ofBytes s.data.toList)).toArray⟩ = _
    unfold ofBytes
    rw [byt_ofBytes]
  all_goals rfl
theorem encLs_ok : ∀ {l : List Value} {x : X}, encLs l = some x → decs W x = l
  | [], x, h => by cases h; rfl
  | v :: l, x, h => by
    unfold encLs at h
    split at h
    · rename_i a b h1 h2
      cases h
      rw [decs_c, encL0_ok h1, encLs_ok h2]
    · cases h
theorem enc_ok {v : Value} {x : X} (h : enc v = some x) : dec W x = v := by
  unfold enc at h
  split at h
  · rename_i cs
    cases he : encLs cs.toList with
    | none => rw [he] at h; cases h
    | some y => rw [he] at h; cases h; rw [dec_ag, encLs_ok he]
  · rename_i cs
    cases he : encLs cs.toList with
    | none => rw [he] at h; cases h
    | some y =>
      rw [he] at h; cases h; rw [dec_r]
      show Value.tuple (decs W y).toArray = _
      rw [encLs_ok he]
  · exact encL0_ok h
theorem d0L_ok {x : X} {v : Value} (h : d0L x = some v) : dec W x = v := by
  unfold d0L at h
  split at h
  all_goals first | (cases h; rfl) | cases h
theorem d0Ls_ok : ∀ {x : X} {l : List Value}, d0Ls x = some l → decs W x = l := by
  intro x
  induction x with
  | e => intro l h; cases h; rfl
  | c x y _ ih =>
    intro l h
    simp only [d0Ls] at h
    split at h
    · rename_i v vs h1 h2
      cases h
      rw [decs_c, d0L_ok h1, ih h2]
    · cases h
  | _ => intro l h; cases h
theorem d0_ok {x : X} {v : Value} (h : d0 x = some v) : dec W x = v := by
  unfold d0 at h
  split at h
  · rename_i l
    cases he : d0Ls l with
    | none => rw [he] at h; cases h
    | some y => rw [he] at h; cases h; rw [dec_ag, d0Ls_ok he]
  · exact d0L_ok h
theorem lift3_ok {o : Option Value} {k : X → Bool} (h : lift3 o k = true) : ∃ z, o = some (dec W z) ∧ k z = true := by
  unfold lift3 at h
  split at h
  · split at h
    · rename_i z hz
      exact ⟨z, by rw [enc_ok hz], h⟩
    · cases h
  · cases h
theorem lift1_ok {f : Value → Option Value} {x : X} {k : X → Bool} (h : lift1 f x k = true) : ∃ z, f (dec W x) = some (dec W z) ∧ k z = true := by
  unfold lift1 at h
  split at h
  · rename_i a ha
    rw [d0_ok ha]
    exact lift3_ok (W := W) (o := f a) (k := k) (by unfold lift3; exact h)
  · cases h
theorem lift2_ok {f : Value → Value → Option Value} {x y : X} {k : X → Bool} (h : lift2 f x y k = true) : ∃ z, f (dec W x) (dec W y) = some (dec W z) ∧ k z = true := by
  unfold lift2 at h
  split at h
  · rename_i a ha
    rw [d0_ok ha]
    exact lift1_ok h
  · cases h
end
end Go.Proofs.YtiphbdhclldllaaGreatDoor.M4
