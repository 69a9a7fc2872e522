/- Maps, bytes; one operation. -/
import Derived.Test.YtiphbdhclldllaaGreatDoorZagG
set_option linter.unusedSimpArgs false
set_option linter.unusedVariables false
namespace Go.Proofs.YtiphbdhclldllaaGreatDoor.M4
open Go Go.Proofs.YtiphbdhclldllaaGreatDoor.Mx

section
variable {W : Vl} {Q : Tk} {T4 : E} {T : Tr Value} {h : H} {Hp : Heap}

theorem plain_ok {k : LK} {x : X} (hk : plainX k x = true) : kindOk k (dec W x) = true := by
  cases k
  · rcases viewB_ok hk with ⟨rfl, _⟩ | ⟨rfl, _⟩ <;> rfl
  · rcases viewP_ok hk with ⟨a, n, rfl, _⟩ | ⟨_, g1⟩
    · rfl
    · rcases viewR_ok g1 with ⟨y, rfl, g2⟩ | ⟨_, g2⟩
      · unfold plainX.tokOk at g2
        split at g2
        · rename_i g a n e
          cases e
          rfl
        · cases g2
      · unfold plainX.isM at g2
        split at g2
        · rfl
        · cases g2
  · rcases viewR_ok hk with ⟨y, rfl, g1⟩ | ⟨_, g1⟩
    · obtain ⟨a, n, rfl, _⟩ := viewP_f g1
      rfl
    · obtain ⟨y, rfl, g2⟩ := viewR_f g1
      obtain ⟨u, v, rfl, g3⟩ := consX_ok g2
      obtain ⟨a, n, rfl, g4⟩ := viewP_f g3
      obtain ⟨b, m, rfl, g5⟩ := viewP_f g4
      rfl
theorem plains_ok : ∀ {ks : List LK} {l : X}, plainsX ks l = true → kindsOk ks (decs W l) = true
  | [], l, hk => by
    have := lenX_ok (W := W) (n := 0) hk
    rw [List.eq_nil_of_length_eq_zero this]; rfl
  | k :: ks, l, hk => by
    obtain ⟨x, l, rfl, g⟩ := consX_ok hk
    obtain ⟨h1, h2⟩ := and4_ok g
    rw [decs_c]
    simp only [kindsOk, plain_ok h1, plains_ok (ks := ks) h2, Bool.and_self]
theorem key_ok {m : EqM} {x : X} (hk : keyX m x = true) : keyOk m (dec W x) = true := by
  cases m
  case lf k => exact plain_ok hk
  case cells l =>
    obtain ⟨a, rfl, g⟩ := viewAg_ok hk
    exact plains_ok g
  all_goals exact absurd hk Bool.false_ne_true
theorem find_ok (hQ : TkOk Q W) {m : EqM} {key : X} {yes : Nat → X → X → Bool} {no : Bool} : ∀ {es : X} {i : Nat},
    X.rec (motive := fun _ => Nat → Bool) (fun _ _ _ => false) (fun _ _ _ => false) (fun _ _ => false) (fun _ _ _ => false) (fun _ _ _ _ _ _ => false) (fun _ _ _ => false) (fun _ => no)
    (fun a _ _ ih i => viewAg a fun a => consX a fun k' a => consX a fun v a => headX a fun b => viewP b (fun _ _ => eqX Q m key k' (yes i v b) (ih (Nat.succ i))) false) (fun _ _ _ _ => false) es i = true →
    (∃ n v b bn, findE m (dec W key) ((decs W es).map ent) i = some (some (n, dec W v, bn)) ∧ yes (n) v b = true ∧ i ≤ n ∧ n < i + (decs W es).length) ∨ (findE m (dec W key) ((decs W es).map ent) i = some none ∧ no = true) := by
  intro es
  induction es with
  | e => intro i hk; exact .inr ⟨rfl, hk⟩
  | c a l _ ih =>
    intro i hk
    obtain ⟨a, rfl, g1⟩ := viewAg_ok hk
    obtain ⟨k', a, rfl, g2⟩ := consX_ok g1
    obtain ⟨v, a, rfl, g3⟩ := consX_ok g2
    obtain ⟨b, a, rfl, g4⟩ := headX_ok g3
    obtain ⟨bk, bn, rfl, g5⟩ := viewP_f g4
    obtain ⟨t, h1, h2⟩ := eqX_ok hQ g5
    have e : ent (dec W (.ag (.c k' (.c v (.c (.p bk bn) a))))) = (dec W k', dec W v, bn) := rfl
    rw [decs_c, List.map_cons, e]
    simp only [findE, h1]
    cases t
    · simp only
      rcases ih (i := i + 1) h2 with ⟨n, v', b', bn', f1, f2, f3, f4⟩ | f
      · exact .inl ⟨n, v', b', bn', f1, f2, by omega, by rw [List.length_cons]; omega⟩
      · exact .inr f
    · exact .inl ⟨i, v, _, bn, rfl, h2, Nat.le_refl _, by rw [List.length_cons]; omega⟩
  | _ => intro i hk; exact absurd hk Bool.false_ne_true
theorem findX_ok (hQ : TkOk Q W) {m : EqM} {key es : X} {yes : Nat → X → X → Bool} {no : Bool} (hk : findX Q m key es yes no = true) :
    (∃ n v b bn, findE m (dec W key) ((decs W es).map ent) 0 = some (some (n, dec W v, bn)) ∧ yes n v b = true) ∨ (findE m (dec W key) ((decs W es).map ent) 0 = some none ∧ no = true) := by
  rcases find_ok hQ hk with ⟨n, v, b, bn, f1, f2, _, _⟩ | f
  · exact .inl ⟨n, v, b, bn, f1, f2⟩
  · exact .inr f
theorem entries_ok (hr : HR W h Hp) {x : X} {k : X → Nat → Bool} (hk : entriesX h x k = true) : ∃ es c, Hp.entries (dec W x) = some ((decs W es).map ent, c) ∧ k es c = true := by
  rcases viewR_ok hk with ⟨y, rfl, g1⟩ | ⟨_, g1⟩
  · exact ⟨.e, 0, rfl, g1⟩
  · obtain ⟨y, rfl, g2⟩ := viewR_f g1
    obtain ⟨a, id, rfl, g3⟩ := viewP_f g2
    obtain ⟨es, c, h1, g4⟩ := mapRow_ok hr g3
    refine ⟨es, c, ?_, g4⟩
    show (match Hp.get id with | some (.map es c) => some (es, c) | _ => none) = _
    rw [h1]
theorem lookup_ok (hQ : TkOk Q W) (hr : HR W h Hp) {m : EqM} {zero : X} {ok : Bool} {x i : X} {k : X → Bool} (hk : lookupX Q m zero ok x i h k = true) : ∃ z, Hp.lookup m (dec W zero) ok (dec W x) (dec W i) = some (dec W z) ∧ k z = true := by
  obtain ⟨h1, g1⟩ := and4_ok hk
  obtain ⟨es, c, h2, g2⟩ := entries_ok hr g1
  unfold Heap.lookup
  rw [if_pos (key_ok h1), h2]
  simp only
  rcases findX_ok hQ g2 with ⟨n, v, b, bn, f1, g3⟩ | ⟨f1, g3⟩
  · rw [f1]
    rcases if_ok (c := ok) g3 with ⟨rfl, g4⟩ | ⟨rfl, g4⟩
    · exact ⟨_, rfl, g4⟩
    · exact ⟨_, rfl, g4⟩
  · rw [f1]
    rcases if_ok (c := ok) g3 with ⟨rfl, g4⟩ | ⟨rfl, g4⟩
    · exact ⟨_, rfl, g4⟩
    · exact ⟨_, rfl, g4⟩
theorem setV_ok {v : X} : ∀ {n : Nat} {es : X} {k : X → Bool}, mapsetX.setV n es v k = true → ∃ es', (decs W es').map ent = setVal ((decs W es).map ent) n (dec W v) ∧ k es' = true
  | 0, es, k, hk => by
    obtain ⟨a, es, rfl, g0⟩ := consX_ok hk
    obtain ⟨a, rfl, g1⟩ := viewAg_ok g0
    obtain ⟨k', a, rfl, g2⟩ := consX_ok g1
    obtain ⟨u, a, rfl, g3⟩ := consX_ok g2
    obtain ⟨b, a, rfl, g4⟩ := headX_ok g3
    obtain ⟨bk, bn, rfl, g5⟩ := viewP_f g4
    rw [force_eq] at g5
    exact ⟨_, rfl, g5⟩
  | n + 1, es, k, hk => by
    obtain ⟨a, es, rfl, g0⟩ := consX_ok hk
    obtain ⟨es', h1, g1⟩ := setV_ok (n := n) (k := fun es => k (.c a es)) g0
    exact ⟨_, by rw [decs_c, decs_c, List.map_cons, List.map_cons, h1]; rfl, g1⟩
theorem mapset_ok (hQ : TkOk Q W) (hr : HR W h Hp) {m : EqM} {x i v : X} {k : H → Bool} (hk : mapsetX Q m x i v h k = true) : ∃ h' Hp', Hp.mapset m (dec W x) (dec W i) (dec W v) = some Hp' ∧ HR W h' Hp' ∧ k h' = true := by
  obtain ⟨h1, g1⟩ := and4_ok hk
  obtain ⟨y, rfl, g2⟩ := viewR_f g1
  obtain ⟨a, id, rfl, g3⟩ := viewP_f g2
  obtain ⟨es, c, h2, g4⟩ := mapRow_ok hr g3
  have e : Hp.mapset m (dec W (.r 4 (.p a id))) (dec W i) (dec W v) = (match findE m (dec W i) ((decs W es).map ent) 0 with
        | some (some (n, _, _)) => some (Hp.put id (.map (setVal ((decs W es).map ent) n (dec W v)) c))
        | some none => some (Hp.put id (.map ((decs W es).map ent ++ [(dec W i, dec W v, c)]) (c + 1)))
        | none => none) := by
    show (if keyOk m (dec W i) then match Hp.get id with | some (.map es c) => _ | _ => none else none) = _
    rw [if_pos (key_ok h1), h2]
    rfl
  rw [e]
  rcases findX_ok hQ g4 with ⟨n, u, b, bn, f1, g5⟩ | ⟨f1, g5⟩
  · rw [f1]
    obtain ⟨es', h3, g6⟩ := setV_ok (W := W) g5
    obtain ⟨h', g7, h4⟩ := put_ok hr (ob := .map ((decs W es').map ent) c) (fun _ => rfl) g6 (by rw [h2]; simp)
    exact ⟨h', _, by simp only; rw [h3], h4, g7⟩
  · rw [f1, ] 
    rw [force_eq, force_eq] at g5
    obtain ⟨es', g6, h3⟩ := app_ok (W := W) g5
    obtain ⟨h', g7, h4⟩ := put_ok hr (ob := .map ((decs W es').map ent) (c + 1)) (fun _ => rfl) g6 (by rw [h2]; simp)
    refine ⟨h', _, ?_, h4, g7⟩
    simp only
    rw [h3, List.map_append]
    rfl
theorem length_ok : ∀ {l : X} {k : Nat → Bool}, lengthX l k = true → k (decs W l).length = true := by
  intro l
  induction l with
  | e => intro k hk; exact hk
  | c x l _ ih => intro k hk; exact ih (k := fun n => k (Nat.succ n)) hk
  | _ => intro k hk; exact absurd hk Bool.false_ne_true
theorem pack_ok : ∀ {l : X} {n v : Nat} {k : Nat → Nat → Bool}, packX l n v k = true → ∃ bs v', bytesOf (decs W l) = some bs ∧ byt (n + bs.length) v' = byt n v ++ bs ∧ k (n + bs.length) v' = true := by
  intro l
  induction l with
  | e => intro n v k hk; exact ⟨[], v, rfl, by simp, hk⟩
  | c x l _ ih =>
    intro n v k hk
    obtain ⟨a, d, rfl, g1⟩ := viewP_f hk
    obtain ⟨h1, g2⟩ := and4_ok g1
    obtain ⟨h2, g3⟩ := and4_ok g2
    have e := kEq_ok h1
    subst e
    have h2 : d < 256 := Nat.le_of_ble_eq_true h2
    rw [nat_eq] at g3
    obtain ⟨bs, v', h3, h4, g4⟩ := ih (n := n + 1) g3
    refine ⟨UInt8.ofNat d :: bs, v', ?_, ?_, ?_⟩
    · rw [decs_c]
      show (bytesOf (decs W l)).map (fun r => UInt8.ofNat (Int.ofNat d).toNat :: r) = _
      rw [h3]; rfl
    · rw [List.length_cons, show n + (bs.length + 1) = n + 1 + bs.length by omega, h4]
      have e1 : (v * 256 + d) / 256 = v := by omega
      have e2 : (v * 256 + d) % 256 = d := by omega
      show byt n ((v * 256 + d) / 256) ++ [UInt8.ofNat ((v * 256 + d) % 256)] ++ bs = _
      rw [e1, e2, List.append_assoc]; rfl
    · rw [List.length_cons, show n + (bs.length + 1) = n + 1 + bs.length by omega]; exact g4
  | _ => intro n v k hk; exact absurd hk Bool.false_ne_true
theorem b2s_ok (hr : HR W h Hp) {x : X} {k : X → Bool} (hk : b2sX x h k = true) : ∃ z, Hp.b2s (dec W x) = some (dec W z) ∧ k z = true := by
  have hk0 := hk
  obtain ⟨n, cs, h1, _, g1⟩ := rowX_ok hr (by omega) hk
  obtain ⟨bs, v', h2, h3, g2⟩ := pack_ok (W := W) g1
  refine ⟨_, ?_, g2⟩
  have e : dec W (.r 5 (.p (0 + bs.length) v')) = .string ⟨bs.toArray⟩ := by
    show Value.string ⟨(byt (0 + bs.length) v').toArray⟩ = _
    rw [h3]; rfl
  rw [e]
  rcases viewSl_ok hk0 with ⟨id, off, mk, len, cap, rfl, _⟩ | ⟨y, rfl, _⟩
  · show (match Hp.row 1 (dec W (.sl id off mk len cap)) with | some (_, cs) => (bytesOf cs).map fun (l : List UInt8) => Value.string ⟨l.toArray⟩ | none => none) = _
    rw [h1]
    simp only
    rw [h2]; rfl
  · have : Hp.row 1 (dec W (.r 2 y)) = some (0, []) := rfl
    rw [this] at h1
    have e2 : decs W cs = [] := (Prod.mk.inj (Option.some.inj h1)).2.symm
    rw [e2] at h2
    cases h2
    rfl
theorem conv_ok (hQ : TkOk Q W) {k' : IntKind} {x : X} {k : X → Bool} (hk : convX k' x k = true) : ∃ z, (match dec W x with | .int _ n => some (Value.int k' (k'.wrap n)) | _ => none) = some (dec W z) ∧ k z = true := by
  unfold convX at hk
  split at hk
  · rename_i a i
    cases hc : (is64 a && is64 (kN k')) <;> rw [hc] at hk
    · cases hk
    · simp only [Bool.and_eq_true] at hc
      refine ⟨_, ?_, hk⟩
      show some (Value.int k' (k'.wrap ((kOf a).wrap (W.n i)))) = some (Value.int (kOf (kN k')) ((kOf (kN k')).wrap (W.n i)))
      rw [kOf_kN]
      have a1 := hQ.lo i; have a2 := hQ.hi i
      have hk' : k' = .i64 ∨ k' = .u64 := by
        rcases is64_ok hc.2 with e | e <;> (cases k' <;> first | (cases e; done) | simp)
      rcases is64_ok hc.1 with rfl | rfl <;> rcases hk' with rfl | rfl
      · show some (Value.int .i64 (IntKind.i64.wrap (IntKind.i64.wrap (W.n i)))) = _
        rw [wrap64 a1 a2, wrap64 a1 a2]
      · show some (Value.int .u64 (IntKind.u64.wrap (IntKind.i64.wrap (W.n i)))) = _
        rw [wrap64 a1 a2]
      · show some (Value.int .i64 (IntKind.i64.wrap (IntKind.u64.wrap (W.n i)))) = _
        congr 2
        show (let m := IntKind.u64.wrap (W.n i) % (2 ^ 64 : Int); if true && m ≥ (2 ^ 63 : Int) then m - (2 ^ 64 : Int) else m) = _
        rw [wrapu64, wrap64 a1 a2]
        simp only [Bool.true_and, decide_eq_true_eq]
        split <;> omega
      · show some (Value.int .u64 (IntKind.u64.wrap (IntKind.u64.wrap (W.n i)))) = _
        congr 2
        show IntKind.u64.wrap (IntKind.u64.wrap (W.n i)) = IntKind.u64.wrap (W.n i)
        rw [wrapu64, wrapu64]; omega
  · obtain ⟨z, h1, h2⟩ := lift1_ok (W := W) hk
    exact ⟨z, h1, h2⟩
theorem un_ok {op : UnOp} {x : X} {k : X → Bool} (hk : unX op x k = true) : ∃ z, unV op (dec W x) = some (dec W z) ∧ k z = true := by
  cases op
  case not =>
    rcases viewB_ok hk with ⟨rfl, g⟩ | ⟨rfl, g⟩
    · exact ⟨_, rfl, g⟩
    · exact ⟨_, rfl, g⟩
  all_goals exact lift1_ok hk
theorem slice_ok {esz : Nat} {x : X} {lo hi mx : Option X} {k : X → Bool} (hk : sliceX esz x lo hi mx k = true) : ∃ z, sliceV esz (dec W x) (lo.map (dec W)) (hi.map (dec W)) (mx.map (dec W)) = some (dec W z) ∧ k z = true := by
  unfold sliceX at hk
  split at hk
  · rename_i v a b c h1 h2 h3 h4
    rw [d0_ok h1, optD_ok h2, optD_ok h3, optD_ok h4]
    exact lift3_ok hk
  · cases hk
theorem strslice_ok {x : X} {lo hi : Option X} {k : X → Bool} (hk : strsliceX x lo hi k = true) : ∃ z, strsliceV (dec W x) (lo.map (dec W)) (hi.map (dec W)) = some (dec W z) ∧ k z = true := by
  unfold strsliceX at hk
  split at hk
  · rename_i v a b h1 h2 h3
    rw [d0_ok h1, optD_ok h2, optD_ok h3]
    exact lift3_ok hk
  · cases hk
theorem aslice_ok {n esz : Nat} {x : X} {lo hi : Option X} {k : X → Bool} (hk : asliceX n esz x lo hi k = true) : ∃ z, asliceV n esz (dec W x) (lo.map (dec W)) (hi.map (dec W)) = some (dec W z) ∧ k z = true := by
  unfold asliceX at hk
  split at hk
  · rename_i v a b h1 h2 h3
    rw [d0_ok h1, optD_ok h2, optD_ok h3]
    exact lift3_ok hk
  · cases hk
theorem encLB_ok {l : List Value} {f : X → Bx (Nat → E → H → K → Bool)} {b : Nat} {k : K} (hk : Bx.rec (motive := fun _ => _) (fun f => f) (encLB l f) b T4 h k = true) : ∃ z, decs W z = l ∧ Bx.rec (motive := fun _ => _) (fun f => f) (f z) b T4 h k = true := by
  unfold encLB at hk
  cases he : encLs l with
  | none => rw [he] at hk; cases hk
  | some z => rw [he] at hk; exact ⟨z, encLs_ok he, hk⟩
theorem nil_ok {x : X} {k : X → Bool} (hk : evX.nilX x k = true) : ((∃ a, dec W x = .pointer (some a)) ∨ (∃ g f c, dec W x = .func (.func g) f c)) ∧ k x = true := by
  cases x
  case pt a n => exact ⟨.inl ⟨_, rfl⟩, hk⟩
  case r g y =>
    obtain ⟨y', g', u, v, e, h1, h2⟩ := viewF_ok (W := W) hk
    exact ⟨.inr ⟨_, _, _, h1⟩, h2⟩
  all_goals exact absurd hk Bool.false_ne_true
theorem zip_arr {W : Vl} (l : X) : (decs W l).toArray.toList = decs W l := rfl

/-- One operation, but for calls. -/
theorem evX_ok (hQ : TkOk Q W) (hd : ∀ i, (W.d i).length ≤ 100) (ht : TR W T4 T) (hr : HR W h Hp) {cl : Nat → List Value → Heap → Option (Value × Heap)} {b : Nat} {i : I} {k : K} (hk : Bx.rec (motive := fun _ => _) (fun f => f) (evX Q i) b T4 h k = true) :
    ∃ x h' Hp', evI cl b T Hp i = some (dec W x, Hp') ∧ HR W h' Hp' ∧ k x h' = true := by
  cases i with
  | mv x =>
    obtain ⟨z, h1, g⟩ := ro_ok ht hk
    rw [force_eq] at g
    exact ⟨z, h, Hp, by simp only [evI, h1], hr, g⟩
  | const v =>
    obtain ⟨z, h1, g⟩ := ro_ok ht (o := .c v) (k := fun z => k z h) hk
    exact ⟨z, h, Hp, by simp only [evI]; rw [← h1]; rfl, hr, g⟩
  | pick c x y =>
    obtain ⟨z1, h1, g1⟩ := ro_ok ht hk
    obtain ⟨z2, h2, g2⟩ := ro_ok ht g1
    obtain ⟨z3, h3, g3⟩ := ro_ok ht g2
    rcases viewB_ok g3 with ⟨rfl, g⟩ | ⟨rfl, g⟩
    · rw [force_eq] at g
      exact ⟨z2, h, Hp, by simp only [evI, h1, h2, dec_b, cond_true], hr, g⟩
    · rw [force_eq] at g
      exact ⟨z3, h, Hp, by simp only [evI, h1, h3, dec_b, cond_false], hr, g⟩
  | alloc i el zero =>
    obtain ⟨z, h1, g1⟩ := encLB_ok (W := W) hk
    obtain ⟨h', g2, h2, h3⟩ := new_ok hr (ob := .cells el false (decs W z)) (fun _ => rfl) g1
    exact ⟨_, h', _, by simp only [evI]; rw [← h1]; exact new_map h2 _, h3, g2⟩
  | box i el x =>
    obtain ⟨z, h1, g1⟩ := ro_ok ht hk
    obtain ⟨vs, g2, h2⟩ := cells_ok (W := W) g1
    obtain ⟨h3, g3⟩ := okL_ok (W := W) g2
    obtain ⟨h', g4, h4, h5⟩ := new_ok hr (ob := .cells el false (decs W vs)) (fun _ => rfl) g3
    refine ⟨_, h', _, ?_, h5, g4⟩
    simp only [evI, h1]
    have ho : okAll (dec W z) = true := by unfold okAll; rw [← h2]; exact h3
    rw [if_pos ho, ← h2]
    exact new_map h4 _
  | build zero ps =>
    obtain ⟨z, h1, g1⟩ := encLB_ok (W := W) hk
    obtain ⟨z', h2, g2⟩ := fill_ok ht g1
    exact ⟨_, h, Hp, by simp only [evI]; rw [← h1, h2]; rfl, hr, g2⟩
  | bslice i el esz len zero ps =>
    obtain ⟨z, h1, g1⟩ := encLB_ok (W := W) hk
    obtain ⟨z', h2, g2⟩ := fill_ok ht g1
    obtain ⟨h', g3, h3, h4⟩ := new_ok hr (ob := .cells el false (decs W z')) (fun _ => rfl) g2
    refine ⟨_, h', _, ?_, h4, g3⟩
    simp only [evI]
    rw [← h1, h2]
    exact new_map h3 _
  | load agg n a =>
    obtain ⟨z, h1, g1⟩ := ro_ok ht hk
    obtain ⟨x, h2, g2⟩ := load_ok hr g1
    exact ⟨x, h, Hp, by simp only [evI, h1, h2, Option.map_some], hr, g2⟩
  | store n a x =>
    obtain ⟨z1, h1, g1⟩ := ro_ok ht hk
    obtain ⟨z2, h2, g2⟩ := ro_ok ht g1
    obtain ⟨h', Hp', h3, h4, g3⟩ := store_ok hr g2
    exact ⟨_, h', Hp', by simp only [evI, h1, h2, h3, Option.map_some]; rfl, h4, g3⟩
  | nilchk x =>
    obtain ⟨z, h1, g1⟩ := ro_ok ht hk
    obtain ⟨h2, g2⟩ := nil_ok (W := W) g1
    refine ⟨z, h, Hp, ?_, hr, g2⟩
    simp only [evI, h1]
    rcases h2 with ⟨a, e⟩ | ⟨g, f, c, e⟩ <;> rw [e]
  | bin op m x y =>
    obtain ⟨z1, h1, g1⟩ := ro_ok ht hk
    obtain ⟨z2, h2, g2⟩ := ro_ok ht g1
    obtain ⟨z, h3, g3⟩ := binX_ok hQ hd g2
    exact ⟨z, h, Hp, by simp only [evI, h1, h2, h3, Option.map_some], hr, g3⟩
  | un op x =>
    obtain ⟨z1, h1, g1⟩ := ro_ok ht hk
    obtain ⟨z, h3, g3⟩ := un_ok (W := W) g1
    exact ⟨z, h, Hp, by simp only [evI, h1, h3, Option.map_some], hr, g3⟩
  | conv k' x =>
    obtain ⟨z1, h1, g1⟩ := ro_ok ht hk
    obtain ⟨z, h3, g3⟩ := conv_ok hQ g1
    refine ⟨z, h, Hp, ?_, hr, g3⟩
    simp only [evI, h1]
    revert h3
    split
    · rename_i heq; intro h3; rw [heq, ← Option.some.inj h3]
    · intro h3; cases h3
  | mkfn fn first captured =>
    cases fn with
    | func g =>
      obtain ⟨z1, h1, g1⟩ := rol_ok ht hk
      obtain ⟨z2, h2, g2⟩ := rol_ok ht g1
      exact ⟨_, h, Hp, by simp only [evI, h1, h2]; rfl, hr, g2⟩
    | _ => exact absurd hk Bool.false_ne_true
  | mkslice i el esz bytes zero len cap =>
    obtain ⟨z, h0, g0⟩ := encLB_ok (W := W) hk
    obtain ⟨z1, h1, g1⟩ := ro_ok ht g0
    obtain ⟨z2, h2, g2⟩ := ro_ok ht g1
    obtain ⟨x, h', Hp', h3, h4, g3⟩ := mkslice_ok hr g2
    exact ⟨x, h', Hp', by simp only [evI, h1, h2]; rw [← h0]; exact h3, h4, g3⟩
  | slice esz x lo hi mx =>
    obtain ⟨z1, h1, g1⟩ := ro_ok ht hk
    obtain ⟨z2, h2, g2⟩ := rop_ok ht g1
    obtain ⟨z3, h3, g3⟩ := rop_ok ht g2
    obtain ⟨z4, h4, g4⟩ := rop_ok ht g3
    obtain ⟨z, h5, g5⟩ := slice_ok (W := W) g4
    exact ⟨z, h, Hp, by simp only [evI, h1, h2, h3, h4, h5, Option.map_some], hr, g5⟩
  | strslice x lo hi =>
    obtain ⟨z1, h1, g1⟩ := ro_ok ht hk
    obtain ⟨z2, h2, g2⟩ := rop_ok ht g1
    obtain ⟨z3, h3, g3⟩ := rop_ok ht g2
    obtain ⟨z, h5, g5⟩ := strslice_ok (W := W) g3
    exact ⟨z, h, Hp, by simp only [evI, h1, h2, h3, h5, Option.map_some], hr, g5⟩
  | faddr off x =>
    obtain ⟨z1, h1, g1⟩ := ro_ok ht hk
    obtain ⟨id, o, rfl, g2⟩ := viewPt_ok g1
    rw [nat_eq] at g2
    exact ⟨_, h, Hp, by simp only [evI, h1, dec_pt]; rfl, hr, g2⟩
  | field agg off n x =>
    obtain ⟨z1, h1, g1⟩ := ro_ok ht hk
    obtain ⟨l, rfl, g2⟩ := viewAg_ok g1
    obtain ⟨z, h2, g3⟩ := part_ok (W := W) g2
    exact ⟨z, h, Hp, by simp only [evI, h1, dec_ag, h2, Option.map_some], hr, g3⟩
  | iaddr esz x i =>
    obtain ⟨z1, h1, g1⟩ := ro_ok ht hk
    obtain ⟨z2, h2, g2⟩ := ro_ok ht g1
    obtain ⟨z, h3, g3⟩ := iaddr_ok (W := W) g2
    exact ⟨z, h, Hp, by simp only [evI, h1, h2, h3, Option.map_some], hr, g3⟩
  | aaddr len esz x i =>
    obtain ⟨z1, h1, g1⟩ := ro_ok ht hk
    obtain ⟨z2, h2, g2⟩ := ro_ok ht g1
    obtain ⟨z, h3, g3⟩ := aaddr_ok (W := W) g2
    exact ⟨z, h, Hp, by simp only [evI, h1, h2, h3, Option.map_some], hr, g3⟩
  | aindex agg len esz x i =>
    obtain ⟨z1, h1, g1⟩ := ro_ok ht hk
    obtain ⟨z2, h2, g2⟩ := ro_ok ht g1
    obtain ⟨z, h3, g3⟩ := aindex_ok (W := W) g2
    exact ⟨z, h, Hp, by simp only [evI, h1, h2, h3, Option.map_some], hr, g3⟩
  | strindex x i =>
    obtain ⟨z1, h1, g1⟩ := ro_ok ht hk
    obtain ⟨z2, h2, g2⟩ := ro_ok ht g1
    obtain ⟨z, h3, g3⟩ := lift2_ok (W := W) g2
    exact ⟨z, h, Hp, by simp only [evI, h1, h2, h3, Option.map_some], hr, g3⟩
  | ext i x =>
    obtain ⟨z1, h1, g1⟩ := ro_ok ht hk
    obtain ⟨l, rfl, g2⟩ := viewR_f g1
    obtain ⟨z, h2, g3⟩ := nth_ok (W := W) (k := fun x => force x fun x => k x h) g2
    rw [force_eq] at g3
    refine ⟨z, h, Hp, ?_, hr, g3⟩
    simp only [evI, h1]
    show ((decs W l).toArray[i]?).map (fun v => (v, Hp)) = _
    have : (decs W l).toArray[i]? = some (dec W z) := by simpa using h2
    rw [this]; rfl
  | len x =>
    obtain ⟨z1, h1, g1⟩ := ro_ok ht hk
    rcases viewSl_ok g1 with ⟨id, off, mk, len, cap, rfl, g2⟩ | ⟨y, rfl, g2⟩
    · exact ⟨_, h, Hp, by simp only [evI, h1, dec_sl]; rfl, hr, g2⟩
    · exact ⟨_, h, Hp, by simp only [evI, h1]; rfl, hr, g2⟩
  | strlen x =>
    obtain ⟨z1, h1, g1⟩ := ro_ok ht hk
    obtain ⟨y, rfl, g2⟩ := viewR_f g1
    obtain ⟨l, n, rfl, g3⟩ := viewP_f g2
    refine ⟨_, h, Hp, ?_, hr, g3⟩
    simp only [evI, h1]
    show some (Value.int .i64 (((byt l n).toArray.size : Nat) : Int), Hp) = some (Value.int .i64 (Int.ofNat l), Hp)
    rw [List.size_toArray, byt_len]; rfl
  | append i el esz bytes pure x y =>
    obtain ⟨z1, h1, g1⟩ := ro_ok ht hk
    obtain ⟨z2, h2, g2⟩ := ro_ok ht g1
    obtain ⟨z, h', Hp', h3, h4, g3⟩ := append_ok hr g2
    exact ⟨z, h', Hp', by simp only [evI, h1, h2]; exact h3, h4, g3⟩
  | minmax max x y =>
    obtain ⟨z1, h1, g1⟩ := ro_ok ht hk
    obtain ⟨z2, h2, g2⟩ := ro_ok ht g1
    obtain ⟨z, h3, g3⟩ := lift2_ok (W := W) g2
    exact ⟨z, h, Hp, by simp only [evI, h1, h2, h3, Option.map_some], hr, g3⟩
  | mkmap i =>
    obtain ⟨h', g1, h1, h2⟩ := new_ok hr (ob := .map [] 0) (fun _ => rfl) hk
    exact ⟨_, h', _, by simp only [evI]; exact new_map h1 _, h2, g1⟩
  | lookup m zero ok x i =>
    simp only [evX] at hk
    cases he : enc zero with
    | none => rw [he] at hk; cases hk
    | some zz =>
      rw [he] at hk
      obtain ⟨z1, h1, g1⟩ := ro_ok ht hk
      obtain ⟨z2, h2, g2⟩ := ro_ok ht g1
      obtain ⟨z, h3, g3⟩ := lookup_ok hQ hr g2
      rw [enc_ok he] at h3
      exact ⟨z, h, Hp, by simp only [evI, h1, h2, h3, Option.map_some], hr, g3⟩
  | mapset m x i v =>
    obtain ⟨z1, h1, g1⟩ := ro_ok ht hk
    obtain ⟨z2, h2, g2⟩ := ro_ok ht g1
    obtain ⟨z3, h3, g3⟩ := ro_ok ht g2
    obtain ⟨h', Hp', h4, h5, g4⟩ := mapset_ok hQ hr g3
    exact ⟨_, h', Hp', by simp only [evI, h1, h2, h3, h4, Option.map_some]; rfl, h5, g4⟩
  | maplen x =>
    obtain ⟨z1, h1, g1⟩ := ro_ok ht hk
    obtain ⟨es, c, h2, g2⟩ := entries_ok hr g1
    have g3 := length_ok (W := W) g2
    refine ⟨_, h, Hp, ?_, hr, g3⟩
    simp only [evI, h1, h2, Option.map_some, List.length_map]; rfl
  | cap x =>
    obtain ⟨z1, h1, g1⟩ := ro_ok ht hk
    obtain ⟨z, h3, g3⟩ := lift1_ok (W := W) g1
    exact ⟨z, h, Hp, by simp only [evI, h1, h3, Option.map_some], hr, g3⟩
  | aslice n esz x lo hi =>
    obtain ⟨z1, h1, g1⟩ := ro_ok ht hk
    obtain ⟨z2, h2, g2⟩ := rop_ok ht g1
    obtain ⟨z3, h3, g3⟩ := rop_ok ht g2
    obtain ⟨z, h5, g5⟩ := aslice_ok (W := W) g3
    exact ⟨z, h, Hp, by simp only [evI, h1, h2, h3, h5, Option.map_some], hr, g5⟩
  | b2s x =>
    obtain ⟨z1, h1, g1⟩ := ro_ok ht hk
    obtain ⟨z, h3, g3⟩ := b2s_ok hr g1
    exact ⟨z, h, Hp, by simp only [evI, h1, h3, Option.map_some], hr, g3⟩
  | mkif t x =>
    obtain ⟨z1, h1, g1⟩ := ro_ok ht hk
    exact ⟨_, h, Hp, by simp only [evI, h1]; rfl, hr, g1⟩
  | tassert t z x =>
    cases z with
    | none =>
      obtain ⟨z1, h1, g1⟩ := ro_ok ht hk
      obtain ⟨y, rfl, g2⟩ := viewR_f g1
      obtain ⟨u, y, rfl, g3⟩ := consX_ok g2
      obtain ⟨a, t', rfl, g4⟩ := viewP_f g3
      obtain ⟨v, y, rfl, g5⟩ := headX_ok g4
      obtain ⟨h2, g6⟩ := and4_ok g5
      have e := kEq_ok h2
      subst e
      refine ⟨v, h, Hp, ?_, hr, g6⟩
      simp only [evI, h1]
      show (if t' = t' then some (dec W v) else none).map (fun v => (v, Hp)) = _
      rw [if_pos rfl]; rfl
    | some z =>
      simp only [evX] at hk
      cases he : enc z with
      | none => rw [he] at hk; cases hk
      | some zz =>
        rw [he] at hk
        obtain ⟨z1, h1, g1⟩ := ro_ok ht hk
        have hz := enc_ok (W := W) he
        rcases viewR_ok g1 with ⟨y, rfl, g2⟩ | ⟨_, g2⟩
        · obtain ⟨u, y, rfl, g3⟩ := consX_ok g2
          obtain ⟨a, t', rfl, g4⟩ := viewP_f g3
          obtain ⟨v, y, rfl, g5⟩ := headX_ok g4
          rcases if_ok (c := Nat.beq t' t) g5 with ⟨h2, g6⟩ | ⟨h2, g6⟩
          · have e := kEq_ok h2
            subst e
            refine ⟨_, h, Hp, ?_, hr, g6⟩
            simp only [evI, h1]
            show (if t' = t' then some (Value.tuple #[dec W v, .bool true]) else _).map (fun v => (v, Hp)) = _
            rw [if_pos rfl]; rfl
          · have e : ¬ t' = t := by intro e; rw [e, Nat.beq_refl] at h2; cases h2
            refine ⟨_, h, Hp, ?_, hr, g6⟩
            simp only [evI, h1]
            show (if t' = t then some (Value.tuple #[dec W v, .bool true]) else some (Value.tuple #[z, .bool false])).map (fun v => (v, Hp)) = _
            rw [if_neg e, ← hz]; rfl
        · obtain ⟨y, rfl, g3⟩ := viewR_f g2
          refine ⟨_, h, Hp, ?_, hr, g3⟩
          simp only [evI, h1]
          show (some (Value.tuple #[z, .bool false])).map (fun v => (v, Hp)) = _
          rw [← hz]; rfl
  | clear esz zero x =>
    obtain ⟨z, h0, g0⟩ := encLB_ok (W := W) hk
    obtain ⟨z1, h1, g1⟩ := ro_ok ht g0
    obtain ⟨h', Hp', h2, h3, g2⟩ := clear_ok hr g1
    exact ⟨_, h', Hp', by simp only [evI, h1]; rw [← h0, h2]; rfl, h3, g2⟩
  | isnil neg x =>
    obtain ⟨z1, h1, g1⟩ := ro_ok ht hk
    rcases viewR_ok g1 with ⟨y, rfl, g2⟩ | ⟨_, g2⟩
    · refine ⟨_, h, Hp, ?_, hr, g2⟩
      simp only [evI, h1]
      cases neg <;> rfl
    · obtain ⟨y, rfl, g3⟩ := viewR_f g2
      obtain ⟨u, y, rfl, g4⟩ := consX_ok g3
      obtain ⟨a, t', rfl, g5⟩ := viewP_f g4
      obtain ⟨v, y, rfl, g6⟩ := headX_ok g5
      exact ⟨_, h, Hp, by simp only [evI, h1]; rfl, hr, g6⟩
  | _ => exact absurd hk Bool.false_ne_true
end
end Go.Proofs.YtiphbdhclldllaaGreatDoor.M4
