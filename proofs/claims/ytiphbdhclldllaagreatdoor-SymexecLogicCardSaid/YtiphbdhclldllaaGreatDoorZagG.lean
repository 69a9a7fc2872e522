/- Operations on memory; one operation. -/
import Derived.Test.YtiphbdhclldllaaGreatDoorZagF
set_option linter.unusedSimpArgs false
set_option linter.unusedVariables false
namespace Go.Proofs.YtiphbdhclldllaaGreatDoor.M4
open Go Go.Proofs.YtiphbdhclldllaaGreatDoor.Mx

section
variable {W : Vl} {Q : Tk} {T4 : E} {T : Tr Value} {h : H} {Hp : Heap}

theorem ro_ok (ht : TR W T4 T) {o : Opd} {k : X → Bool} (hk : Bx.rec (motive := fun _ => _) (fun f => f) (ro o) T4 k = true) : ∃ x, o.ev T = dec W x ∧ k x = true := by
  cases o with
  | t n => exact ⟨_, (ht.get n).symm, hk⟩
  | f g => exact ⟨_, rfl, hk⟩
  | gl n => exact ⟨_, rfl, hk⟩
  | c v =>
    simp only [ro] at hk
    cases he : enc v with
    | none => rw [he] at hk; cases hk
    | some x => rw [he] at hk; exact ⟨x, (enc_ok he).symm, hk⟩
theorem rol_ok (ht : TR W T4 T) : ∀ {os : List Opd} {k : X → Bool}, Bx.rec (motive := fun _ => _) (fun f => f) (rol os) T4 k = true → ∃ l, os.map (Opd.ev T) = decs W l ∧ k l = true
  | [], k, hk => ⟨_, rfl, hk⟩
  | o :: os, k, hk => by
    obtain ⟨x, h1, h2⟩ := ro_ok ht (o := o) (k := fun x => force x fun x => Bx.rec (motive := fun _ => _) (fun f => f) (rol os) T4 fun l => k (.c x l)) hk
    rw [force_eq] at h2
    obtain ⟨l, h3, h4⟩ := rol_ok ht h2
    exact ⟨_, by rw [List.map_cons, h1, h3, decs_c], h4⟩
theorem rop_ok (ht : TR W T4 T) {o : Option Opd} {k : Option X → Bool} (hk : Bx.rec (motive := fun _ => _) (fun f => f) (rop o) T4 k = true) : ∃ x, o.map (Opd.ev T) = x.map (dec W) ∧ k x = true := by
  cases o with
  | none => exact ⟨none, rfl, hk⟩
  | some o =>
    obtain ⟨x, h1, h2⟩ := ro_ok ht (o := o) (k := fun x => k (some x)) hk
    exact ⟨some x, by rw [Option.map_some, h1]; rfl, h2⟩
theorem optD_ok {x : Option X} {a : Option Value} (h : optD x = some a) : x.map (dec W) = a := by
  cases x with
  | none => cases h; rfl
  | some x =>
    simp only [optD] at h
    cases hd : d0 x with
    | none => rw [hd] at h; cases h
    | some v => rw [hd] at h; cases h; rw [Option.map_some, d0_ok hd]

theorem load_ok (hr : HR W h Hp) {agg : Bool} {n : Nat} {a : X} {k : X → Bool} (hk : loadX agg n a h k = true) : ∃ x, Hp.loadv agg n (dec W a) = some (dec W x) ∧ k x = true := by
  obtain ⟨id, off, rfl, g1⟩ := viewPt_ok hk
  obtain ⟨el, ro, cs, h1, g2⟩ := row_ok hr g1
  have e : Hp.loadv agg n (dec W (.pt id off)) = (if agg then (if off + n ≤ (decs W cs).length then some (.agg (((decs W cs).drop off).take n).toArray) else none) else (decs W cs)[off]?) := by
    show (match Hp.get id with | some (.cells _ _ cs) => if agg then (if off + n ≤ cs.length then some (Value.agg ((cs.drop off).take n).toArray) else none) else cs[off]? | _ => none) = _
    rw [h1]
  rw [e]
  cases agg
  · obtain ⟨x, h2, g3⟩ := nth_ok (W := W) (k := fun x => force x k) g2
    rw [force_eq] at g3
    exact ⟨x, h2, g3⟩
  · obtain ⟨hn, g3⟩ := pos_ok g2
    obtain ⟨l, b, g4, h2, h3⟩ := take_drop (W := W) hn g3
    refine ⟨_, ?_, g4⟩
    rw [if_pos rfl, if_pos h2, h3]; rfl
theorem store_ok (hr : HR W h Hp) {n : Nat} {a x : X} {k : H → Bool} (hk : storeX n a x h k = true) : ∃ h' Hp', Hp.storev n (dec W a) (dec W x) = some Hp' ∧ HR W h' Hp' ∧ k h' = true := by
  obtain ⟨id, off, rfl, g1⟩ := viewPt_ok hk
  obtain ⟨el, ro, cs, h1, g2⟩ := row_ok hr g1
  obtain ⟨h2, g3⟩ := if_f (c := ro) g2
  subst h2
  obtain ⟨vs, g4, h3⟩ := cells_ok (W := W) g3
  obtain ⟨h4, g5⟩ := okL_ok (W := W) g4
  obtain ⟨h5, g6⟩ := and4_ok g5
  have h5 := kEq_ok h5
  rw [Nat.zero_add] at h5
  obtain ⟨cs', g7, h6, h7⟩ := put_cells (W := W) g6
  obtain ⟨h', g8, h8⟩ := put_ok hr (ob := .cells el false (decs W cs')) (fun _ => rfl) g7 (by rw [h1]; simp)
  refine ⟨h', _, ?_, h8, g8⟩
  show (match Hp.get id with | some (.cells e false cs) => if (dec W x).cells.size = n ∧ okAll (dec W x) = true ∧ off + n ≤ cs.length then some (Hp.put id (.cells e false (setRange cs off (dec W x).cells.toList))) else none | _ => none) = _
  rw [h1]
  have hs : (dec W x).cells.size = n := by rw [← Array.length_toList, ← h3]; exact h5
  have ho : okAll (dec W x) = true := by unfold okAll; rw [← h3]; exact h4
  simp only
  rw [if_pos ⟨hs, ho, by omega⟩, ← h3, h6]
theorem rowX_ok (hr : HR W h Hp) {esz : Nat} (he : 0 < esz) {x : X} {k : Nat → X → Bool} (hk : rowX h esz x k = true) : ∃ n cs, Hp.row esz (dec W x) = some (n, decs W cs) ∧ (decs W cs).length = n * esz ∧ k n cs = true := by
  rcases viewSl_ok hk with ⟨id, off, mk, len, cap, rfl, g1⟩ | ⟨y, rfl, g1⟩
  · cases len with
    | zero => exact ⟨0, .e, rfl, by simp [decs_e], g1⟩
    | succ l =>
      obtain ⟨el, ro, cs, h1, g2⟩ := row_ok hr g1
      have hp : 0 < (l + 1) * esz := Nat.mul_pos (Nat.succ_pos l) he
      obtain ⟨c, b, g3, h2, h3⟩ := take_drop (W := W) hp g2
      refine ⟨l + 1, c, ?_, ?_, g3⟩
      · show (if l + 1 = 0 then some (0, []) else match Hp.get id with | some (.cells _ _ cs) => if off + (l + 1) * esz ≤ cs.length then some (l + 1, (cs.drop off).take ((l + 1) * esz)) else none | _ => none) = _
        rw [if_neg (Nat.succ_ne_zero l), h1]
        simp only
        rw [if_pos h2, h3]
      · rw [← h3, List.length_take, List.length_drop]; omega
  · exact ⟨0, .e, rfl, by simp [decs_e], g1⟩
theorem ge_ok : ∀ {n : Nat} {l : X}, geX n l = true → n ≤ (decs W l).length
  | 0, l, h => Nat.zero_le _
  | n + 1, l, h => by
    obtain ⟨x, r, rfl, g⟩ := consX_ok h
    have := ge_ok (n := n) g
    rw [decs_c, List.length_cons]; omega
theorem new_map {id : Nat} {ob : Ob} (h : Hp.new id ob = some (Hp.put id ob)) {β : Type} (f : Heap → β) : (Hp.new id ob).map f = some (f (Hp.put id ob)) := by rw [h]; rfl
theorem append_ok (hr : HR W h Hp) {b i el esz bytes : Nat} {pure : Bool} {x y : X} {k : X → H → Bool} (hk : appendX b i el esz bytes pure x y h k = true) : ∃ z h' Hp', Hp.append (b + i) el esz bytes pure (dec W x) (dec W y) = some (dec W z, Hp') ∧ HR W h' Hp' ∧ k z h' = true := by
  obtain ⟨he, g1⟩ := pos_ok hk
  obtain ⟨n, new, h1, hl1, g2⟩ := rowX_ok hr he g1
  have ap : ∀ x', Hp.append (b + i) el esz bytes pure x' (dec W y) = (match x' with
    | .slice none 0 0 =>
      if n = 0 then some (.slice none 0 0, Hp) else
      if n * bytes ≤ 2 ^ 46 ∧ n ≤ 2 ^ 46 then (Hp.new (b + i) (.cells el false (decs W new))).map fun H => (.slice (some ⟨b + i, 0, some (2 * esz)⟩) n n, H) else none
    | .slice (some ⟨o, off, some ek⟩) len cap =>
      if n = 0 then some (x', Hp) else
      if ek / 2 ≠ esz ∧ ek ≠ 1 ∧ ¬(len = 0 ∧ cap = 0 ∧ ek % 2 = 1) then none else
      if len + n ≤ cap then
        if pure then none else
        match Hp.get o with
        | some (.cells e false cs) =>
          if off + (len + n) * esz ≤ cs.length ∧ (decs W new).all okCell = true then some (.slice (some ⟨o, off, some ek⟩) (len + n) cap, Hp.put o (.cells e false (setRange cs (off + len * esz) (decs W new)))) else none
        | _ => none
      else
        match Hp.row esz x' with
        | none => none
        | some (_, old) =>
          if (len + n) * bytes ≤ 2 ^ 46 ∧ len + n ≤ 2 ^ 46 then
            if ek % 2 = 1 then (Hp.new (b + i) (.cells el false (old ++ decs W new))).map fun H => (.slice (some ⟨b + i, 0, some (2 * esz)⟩) (len + n) (len + n), H)
            else if pure then none else
              match Hp.get o with
              | some (.cells _ false cs) =>
                if (decs W new).all okCell = true ∧ off + len * esz ≤ cs.length then
                  (Hp.new (b + i) (.cells el false (old ++ decs W new))).map fun H => (.slice (some ⟨b + i, 0, some (2 * esz)⟩) (len + n) (len + n), H.put o .dead) else none
              | _ => none
          else none
    | _ => none) := by
    intro x'
    unfold Heap.append
    rw [h1]
    rfl
  rw [ap]
  rcases viewSl_ok g2 with ⟨o, off, ek, len, cap, rfl, g3⟩ | ⟨u, rfl, g3⟩
  · rw [dec_sl]
    simp only
    cases n with
    | zero => exact ⟨_, h, Hp, by rw [if_pos rfl, dec_sl], hr, g3⟩
    | succ n' =>
      obtain ⟨h2, g4⟩ := if_t g3
      have hek : ¬ (ek / 2 ≠ esz ∧ ek ≠ 1 ∧ ¬(len = 0 ∧ cap = 0 ∧ ek % 2 = 1)) := by
        have h2' : Bool.rec (motive := fun _ => Bool) (Nat.beq ek 1) true (Nat.beq (ek / 2) esz) = true := h2
        rcases if_ok h2' with ⟨h3, _⟩ | ⟨_, h3⟩
        · have := kEq_ok h3; omega
        · have := kEq_ok h3; omega
      rw [if_neg (Nat.succ_ne_zero n'), if_neg hek]
      have g4' := g4
      rcases if_ok (c := Nat.ble (Nat.add len (n' + 1)) cap) g4 with ⟨h3, g5⟩ | ⟨h3, g5⟩
      · have h3 : len + (n' + 1) ≤ cap := Nat.le_of_ble_eq_true h3
        rw [if_pos h3]
        obtain ⟨hp, g6⟩ := if_f (c := pure) g5
        subst hp
        rw [if_neg (by decide)]
        obtain ⟨h4, g7⟩ := okL_ok (W := W) g6
        obtain ⟨el', ro, cs, h5, g8⟩ := row_ok hr g7
        obtain ⟨hro, g9⟩ := if_f (c := ro) g8
        subst hro
        obtain ⟨cs', g10, h6, h7⟩ := put_cells (W := W) g9
        rw [nat_eq] at g10
        obtain ⟨h', g11, h8⟩ := put_ok hr (ob := .cells el' false (decs W cs')) (fun _ => rfl) g10 (by rw [h5]; simp)
        refine ⟨_, h', _, ?_, h8, g11⟩
        rw [h5]
        simp only
        have e2 : (len + (n' + 1)) * esz = len * esz + (n' + 1) * esz := Nat.add_mul _ _ _
        have h7' : off + len * esz + (decs W new).length ≤ (decs W cs).length := h7
        rw [if_pos ⟨by rw [e2]; omega, h4⟩, h6]
        rfl
      · have h3 : ¬ (len + (n' + 1) ≤ cap) := by intro e; rw [show Nat.ble (Nat.add len (n' + 1)) cap = true from Nat.ble_eq_true_of_le e] at h3; cases h3
        rw [if_neg h3]
        obtain ⟨n2, old, h4, _, g6⟩ := rowX_ok hr he g5
        rw [dec_sl] at h4
        rw [h4]
        simp only
        obtain ⟨h5, g7⟩ := if_t g6
        obtain ⟨h5, h6⟩ := and4_ok h5
        have h5 : (len + (n' + 1)) * bytes ≤ 70368744177664 := Nat.le_of_ble_eq_true h5
        have h6 : len + (n' + 1) ≤ 70368744177664 := Nat.le_of_ble_eq_true h6
        rw [if_pos ⟨h5, h6⟩]
        obtain ⟨cs, g8, h7⟩ := app_ok (W := W) g7
        rw [nat_eq] at g8
        rcases if_ok (c := Nat.beq (Nat.mod ek 2) 1) g8 with ⟨h8, g9⟩ | ⟨h8, g9⟩
        · have h8 : ek % 2 = 1 := kEq_ok h8
          rw [if_pos h8]
          obtain ⟨h', g10, h9, h10⟩ := new_ok hr (ob := .cells el false (decs W cs)) (fun _ => rfl) g9
          rw [← h7]
          refine ⟨_, h', _, new_map h9 _, h10, g10⟩
        · have h8 : ¬ ek % 2 = 1 := by intro e; rw [show Nat.beq (Nat.mod ek 2) 1 = true from (by show Nat.beq (ek % 2) 1 = true; rw [e]; rfl)] at h8; cases h8
          rw [if_neg h8]
          obtain ⟨hp, g10⟩ := if_f (c := pure) g9
          subst hp
          rw [if_neg (by decide)]
          obtain ⟨h9, g11⟩ := okL_ok (W := W) g10
          obtain ⟨el', ro, cs', h10, g12⟩ := row_ok hr g11
          obtain ⟨hro, g13⟩ := if_f (c := ro) g12
          subst hro
          obtain ⟨h11, g14⟩ := and4_ok g13
          have h11 := ge_ok (W := W) h11
          obtain ⟨h', g15, h12, h13⟩ := new_ok hr (ob := .cells el false (decs W cs)) (fun _ => rfl) g14
          obtain ⟨h2', g16, h14⟩ := put_ok h13 (ob := .dead) (fun _ => rfl) g15 (by rw [Heap.get_put, h10]; split <;> simp)
          rw [h10]
          simp only
          rw [if_pos ⟨h9, h11⟩, ← h7]
          exact ⟨_, h2', _, new_map h12 _, h14, g16⟩
  · show ∃ z h' Hp', (if n = 0 then some (Value.slice none 0 0, Hp) else if n * bytes ≤ 2 ^ 46 ∧ n ≤ 2 ^ 46 then (Hp.new (b + i) (.cells el false (decs W new))).map fun H => (Value.slice (some ⟨b + i, 0, some (2 * esz)⟩) n n, H) else none) = some (dec W z, Hp') ∧ HR W h' Hp' ∧ k z h' = true
    cases n with
    | zero => exact ⟨_, h, Hp, by rw [if_pos rfl]; rfl, hr, g3⟩
    | succ n' =>
      obtain ⟨h2, g4⟩ := and4_ok g3
      obtain ⟨h2, h3⟩ := and4_ok h2
      have h2 : (n' + 1) * bytes ≤ 70368744177664 := Nat.le_of_ble_eq_true h2
      have h3 : n' + 1 ≤ 70368744177664 := Nat.le_of_ble_eq_true h3
      rw [if_neg (Nat.succ_ne_zero n'), if_pos ⟨h2, h3⟩]
      obtain ⟨h', g5, h4, h5⟩ := new_ok hr (ob := .cells el false (decs W new)) (fun _ => rfl) g4
      exact ⟨_, h', _, new_map h4 _, h5, g5⟩
theorem iaddr_ok {esz : Nat} {x i : X} {k : X → Bool} (hk : iaddrX esz x i k = true) : ∃ z, iaddrV esz (dec W x) (dec W i) = some (dec W z) ∧ k z = true := by
  rcases viewSl_ok hk with ⟨id, off, mk, len, cap, rfl, g1⟩ | ⟨y, rfl, g1⟩
  · obtain ⟨a, n, rfl, g2⟩ := viewP_f g1
    obtain ⟨h1, g3⟩ := if_t g2
    rw [nat_eq] at g3
    have h1 : n < len := Nat.le_of_ble_eq_true h1
    refine ⟨_, ?_, g3⟩
    show (if 0 ≤ Int.ofNat n ∧ Int.ofNat n < (len : Int) then some (Value.pointer (some ⟨id, off + (Int.ofNat n).toNat * esz, none⟩)) else none) = _
    rw [if_pos ⟨Int.natCast_nonneg n, by simp only [Int.ofNat_eq_natCast]; omega⟩]
    rfl
  · cases g1
theorem aaddr_ok {len esz : Nat} {x i : X} {k : X → Bool} (hk : aaddrX len esz x i k = true) : ∃ z, aaddrV len esz (dec W x) (dec W i) = some (dec W z) ∧ k z = true := by
  obtain ⟨id, off, rfl, g1⟩ := viewPt_ok hk
  obtain ⟨a, n, rfl, g2⟩ := viewP_f g1
  obtain ⟨h1, g3⟩ := if_t g2
  rw [nat_eq] at g3
  have h1 : n < len := Nat.le_of_ble_eq_true h1
  refine ⟨_, ?_, g3⟩
  show (if 0 ≤ Int.ofNat n ∧ Int.ofNat n < (len : Int) then some (Value.pointer (some ⟨id, off + (Int.ofNat n).toNat * esz, none⟩)) else none) = _
  rw [if_pos ⟨Int.natCast_nonneg n, by simp only [Int.ofNat_eq_natCast]; omega⟩]
  rfl
theorem part_ok {agg : Bool} {l : X} {off n : Nat} {k : X → Bool} (hk : partX agg l off n k = true) : ∃ z, partV agg (decs W l).toArray off n = some (dec W z) ∧ k z = true := by
  cases agg
  · obtain ⟨x, h2, g3⟩ := nth_ok (W := W) (k := fun x => force x k) hk
    rw [force_eq] at g3
    refine ⟨x, ?_, g3⟩
    show (decs W l).toArray[off]? = _
    simpa using h2
  · obtain ⟨hn, g3⟩ := pos_ok hk
    obtain ⟨c, b, g4, h2, h3⟩ := take_drop (W := W) hn g3
    refine ⟨_, ?_, g4⟩
    show some (Value.agg ((decs W l).toArray.extract off (off + n))) = _
    rw [dec_ag, ← h3]
    congr 2
    apply Array.ext'
    rw [Array.toList_extract, List.extract_eq_take_drop]
    simp
theorem aindex_ok {agg : Bool} {len esz : Nat} {x i : X} {k : X → Bool} (hk : aindexX agg len esz x i k = true) : ∃ z, aindexV agg len esz (dec W x) (dec W i) = some (dec W z) ∧ k z = true := by
  obtain ⟨l, rfl, g1⟩ := viewAg_ok hk
  obtain ⟨a, n, rfl, g2⟩ := viewP_f g1
  obtain ⟨h1, g3⟩ := if_t g2
  have h1 : n < len := Nat.le_of_ble_eq_true h1
  obtain ⟨z, h2, g4⟩ := part_ok (W := W) g3
  refine ⟨z, ?_, g4⟩
  show (if 0 ≤ Int.ofNat n ∧ Int.ofNat n < (len : Int) then partV agg (decs W l).toArray ((Int.ofNat n).toNat * esz) esz else none) = _
  rw [if_pos ⟨Int.natCast_nonneg n, by simp only [Int.ofNat_eq_natCast]; omega⟩]
  exact h2

theorem fold_setR (off : Nat) : ∀ (vs : List Value) (k : Nat) (c : Array Value),
    ((vs.zipIdx k).foldl (fun cs (p : Value × Nat) => cs.setIfInBounds (off + p.2) p.1) c).size = c.size ∧
    ∀ i : Nat, ((vs.zipIdx k).foldl (fun cs (p : Value × Nat) => cs.setIfInBounds (off + p.2) p.1) c)[i]? = if off + k ≤ i ∧ i < off + k + vs.length ∧ i < c.size then vs[i - (off + k)]? else c[i]?
  | [], k, c => ⟨rfl, fun i => by rw [if_neg (by simp; omega)]; rfl⟩
  | v :: vs, k, c => by
    simp only [List.zipIdx_cons, List.foldl_cons]
    obtain ⟨h1, h2⟩ := fold_setR off vs (k + 1) (c.setIfInBounds (off + k) v)
    refine ⟨by rw [h1, Array.size_setIfInBounds], fun i => ?_⟩
    rw [h2, Array.size_setIfInBounds, List.length_cons]
    by_cases hi : i < c.size
    · by_cases h3 : off + (k + 1) ≤ i ∧ i < off + (k + 1) + vs.length
      · rw [if_pos ⟨h3.1, h3.2, hi⟩, if_pos ⟨by omega, by omega, hi⟩]
        have : i - (off + k) = (i - (off + (k + 1))) + 1 := by omega
        rw [this, List.getElem?_cons_succ]
      · rw [if_neg (by omega), Array.getElem?_setIfInBounds]
        by_cases h4 : off + k = i
        · rw [if_pos h4, if_pos (show off + k < c.size by omega), if_pos ⟨by omega, by omega, hi⟩]
          have : i - (off + k) = 0 := by omega
          rw [this]; rfl
        · rw [if_neg h4, if_neg (by omega)]
    · rw [if_neg (by omega), if_neg (by omega), Array.getElem?_setIfInBounds]
      by_cases h4 : off + k = i
      · rw [if_pos h4, if_neg (show ¬ off + k < c.size by omega), Array.getElem?_eq_none (by omega)]
      · rw [if_neg h4]
theorem setRange_get (cs : List Value) (off : Nat) (vs : List Value) (h : off + vs.length ≤ cs.length) (i : Nat) : (setRange cs off vs)[i]? = if off ≤ i ∧ i < off + vs.length then vs[i - off]? else cs[i]? := by
  unfold setRange
  by_cases h1 : i < off
  · rw [if_neg (by omega), List.getElem?_append_left (by simp; omega), List.getElem?_append_left (by simp; omega), List.getElem?_take, if_pos h1]
  · by_cases h2 : i < off + vs.length
    · rw [if_pos ⟨by omega, h2⟩, List.getElem?_append_left (by simp; omega), List.getElem?_append_right (by simp; omega)]
      congr 1
      simp; omega
    · rw [if_neg (by omega), List.getElem?_append_right (by simp; omega), List.getElem?_drop]
      congr 1
      simp; omega
theorem fill_ok (ht : TR W T4 T) : ∀ {ps : List (Nat × Nat × Opd)} {z : X} {k : X → Bool}, Bx.rec (motive := fun _ => _) (fun f => f) (fillX .nil ps) T4 z k = true → ∃ z', fillP (decs W z).toArray (evParts T ps) = some (decs W z').toArray ∧ k z' = true
  | [], z, k, hk => ⟨z, rfl, hk⟩
  | (off, size, o) :: ps, z, k, hk => by
    obtain ⟨x, h1, g1⟩ := ro_ok ht (o := o) (k := fun x => cellsX x fun vs => okL vs 0 fun m => and4 (Nat.beq m size) (putX off vs z fun z => Bx.rec (motive := fun _ => _) (fun f => f) (fillX .nil ps) T4 z k)) hk
    obtain ⟨vs, g2, h2⟩ := cells_ok (W := W) g1
    obtain ⟨h3, g3⟩ := okL_ok (W := W) g2
    obtain ⟨h4, g4⟩ := and4_ok g3
    have h4 := kEq_ok h4
    rw [Nat.zero_add] at h4
    obtain ⟨z', g5, h5, h6⟩ := put_cells (W := W) g4
    obtain ⟨z2, h7, g6⟩ := fill_ok ht g5
    refine ⟨z2, ?_, g6⟩
    show fillP (decs W z).toArray ((off, size, o.ev T) :: evParts T ps) = _
    rw [h1]
    have hs : (dec W x).cells.size = size := by rw [← Array.length_toList, ← h2]; exact h4
    have ho : okAll (dec W x) = true := by unfold okAll; rw [← h2]; exact h3
    have hz : (decs W z).toArray.size = (decs W z).length := by simp
    unfold fillP
    rw [if_neg (by
      simp only [Bool.or_eq_true, decide_eq_true_eq, not_or]
      refine ⟨⟨?_, ?_⟩, ?_⟩
      · simp [hs]
      · rw [hs, hz]; omega
      · rw [ho]; decide)]
    have e : (dec W x).cells.zipIdx.foldl (fun cs (p : Value × Nat) => cs.setIfInBounds (off + p.2) p.1) (decs W z).toArray = (decs W z').toArray := by
      rw [← Array.foldl_toList, Array.toList_zipIdx, ← h2]
      obtain ⟨f1, f2⟩ := fold_setR off (decs W vs) 0 (decs W z).toArray
      apply Array.ext_getElem?
      intro i
      rw [f2, h5]
      have hg : (setRange (decs W z) off (decs W vs)).toArray[i]? = (setRange (decs W z) off (decs W vs))[i]? := by simp
      rw [hg, setRange_get _ _ _ h6, hz]
      by_cases h8 : off ≤ i ∧ i < off + (decs W vs).length
      · rw [if_pos h8, if_pos ⟨by omega, by omega, by omega⟩]; rfl
      · rw [if_neg h8, if_neg (by omega)]; simp
    exact e ▸ h7
theorem rep_ok : ∀ {n : Nat} {z : X} {k : X → Bool}, repX n z k = true → ∃ l, decs W l = (List.replicate n (decs W z)).flatten ∧ k l = true
  | 0, z, k, hk => ⟨.e, rfl, hk⟩
  | n + 1, z, k, hk => by
    obtain ⟨l, h1, g1⟩ := rep_ok (n := n) (k := fun l => appX z l k) hk
    obtain ⟨l', g2, h2⟩ := app_ok (W := W) g1
    exact ⟨l', by rw [h2, h1, List.replicate_succ, List.flatten_cons], g2⟩
theorem mkslice_ok (hr : HR W h Hp) {b i el esz bytes : Nat} {z len cap : X} {k : X → H → Bool} (hk : mksliceX b i el esz bytes z len cap h k = true) : ∃ x h' Hp', Hp.mkslice (b + i) el esz bytes (decs W z) (dec W len) (dec W cap) = some (dec W x, Hp') ∧ HR W h' Hp' ∧ k x h' = true := by
  obtain ⟨a, l, rfl, g1⟩ := viewP_f hk
  obtain ⟨a', c, rfl, g2⟩ := viewP_f g1
  obtain ⟨h1, g3⟩ := and4_ok g2
  obtain ⟨h1, h2⟩ := and4_ok h1
  obtain ⟨h2, h3⟩ := and4_ok h2
  have h1 : l ≤ c := Nat.le_of_ble_eq_true h1
  have h2 : c ≤ 70368744177664 := Nat.le_of_ble_eq_true h2
  have h3 : c * bytes ≤ 70368744177664 := Nat.le_of_ble_eq_true h3
  obtain ⟨cs, h4, g4⟩ := rep_ok (W := W) g3
  obtain ⟨h', g5, h5, h6⟩ := new_ok hr (ob := .cells el false (decs W cs)) (fun _ => rfl) g4
  refine ⟨_, h', _, ?_, h6, g5⟩
  show (if 0 ≤ Int.ofNat l ∧ Int.ofNat l ≤ Int.ofNat c ∧ Int.ofNat c ≤ 2 ^ 46 ∧ Int.ofNat c * (bytes : Int) ≤ 2 ^ 46 then (Hp.new (b + i) (.cells el false (List.replicate (Int.ofNat c).toNat (decs W z)).flatten)).map fun H => (Value.slice (some ⟨b + i, 0, some (2 * esz + 1)⟩) (Int.ofNat l).toNat (Int.ofNat c).toNat, H) else none) = _
  have h3' : (c : Int) * (bytes : Int) ≤ 70368744177664 := by
    have : ((c * bytes : Nat) : Int) ≤ 70368744177664 := by omega
    rwa [Int.natCast_mul] at this
  rw [if_pos ⟨Int.natCast_nonneg l, by simp only [Int.ofNat_eq_natCast]; omega, by simp only [Int.ofNat_eq_natCast]; omega, h3'⟩]
  have e : (Int.ofNat c).toNat = c := rfl
  rw [e, ← h4]
  exact new_map h5 _
theorem clear_ok (hr : HR W h Hp) {esz : Nat} {z x : X} {k : H → Bool} (hk : clearX esz z x h k = true) : ∃ h' Hp', Hp.clear esz (decs W z) (dec W x) = some Hp' ∧ HR W h' Hp' ∧ k h' = true := by
  rcases viewSl_ok hk with ⟨o, off, mk, len, cap, rfl, g1⟩ | ⟨y, rfl, g1⟩
  · cases len with
    | zero => exact ⟨h, Hp, rfl, hr, g1⟩
    | succ l =>
      obtain ⟨el, ro, cs, h1, g2⟩ := row_ok hr g1
      obtain ⟨hro, g3⟩ := if_f (c := ro) g2
      subst hro
      obtain ⟨h2, g4⟩ := and4_ok g3
      have h2 := lenX_ok (W := W) h2
      obtain ⟨vs, h3, g5⟩ := rep_ok (W := W) g4
      obtain ⟨cs', g6, h4, h5⟩ := put_cells (W := W) g5
      obtain ⟨h', g7, h6⟩ := put_ok hr (ob := .cells el false (decs W cs')) (fun _ => rfl) g6 (by rw [h1]; simp)
      have hl : (decs W vs).length = (l + 1) * esz := by
        rw [h3, List.length_flatten, List.map_replicate, List.sum_replicate_nat, h2]
      refine ⟨h', _, ?_, h6, g7⟩
      show (if l + 1 = 0 then some Hp else match Hp.get o with | some (.cells e false cs) => if (decs W z).length = esz ∧ off + (l + 1) * esz ≤ cs.length then some (Hp.put o (.cells e false (setRange cs off (List.replicate (l + 1) (decs W z)).flatten))) else none | _ => none) = _
      rw [if_neg (Nat.succ_ne_zero l), h1]
      simp only
      rw [if_pos ⟨h2, by omega⟩, ← h3, h4]
  · exact ⟨h, Hp, rfl, hr, g1⟩
end
end Go.Proofs.YtiphbdhclldllaaGreatDoor.M4
