/- Regions of an open order; code; functions. -/
import Derived.Test.YtiphbdhclldllaaGreatDoorZadL
set_option linter.unusedSimpArgs false
set_option linter.unusedVariables false
namespace Go.Proofs.YtiphbdhclldllaaGreatDoor.Mx
open Go

def direct (o : Oper) : List Nat := o.after.toList.filterMap fun e => if Region.binds .any e then some e.on else none

theorem mem_direct {o : Oper} {d : Nat} : d ∈ direct o ↔ ∃ e ∈ o.after, Region.binds .any e = true ∧ e.on = d := by
  unfold direct
  rw [List.mem_filterMap]
  constructor
  · rintro ⟨e, he, h⟩
    split at h
    · rename_i hb; cases h; exact ⟨e, by simpa using he, hb, rfl⟩
    · cases h
  · rintro ⟨e, he, hb, rfl⟩
    exact ⟨e, by simpa using he, by simp [hb]⟩

theorem before_spec : ∀ (l : List Oper) (acc : List (List Nat)),
    (∀ j, j < acc.length → (before acc l).getD j [] = acc.getD j []) ∧
    ∀ j o, l[j]? = some o → (∀ d ∈ direct o, d ∈ (before acc l).getD (acc.length + j) []) ∧
      ∀ e ∈ (before acc l).getD (acc.length + j) [], e ∈ direct o ∨ ∃ d ∈ direct o, e ∈ (before acc l).getD d [] := by
  intro l
  induction l with
  | nil => intro acc; exact ⟨fun j _ => rfl, fun j o h => by simp at h⟩
  | cons o l ih =>
    intro acc
    have hstep : before acc (o :: l) = before (acc ++ [(direct o ++ (direct o).flatMap fun d => acc.getD d []).eraseDups]) l := rfl
    obtain ⟨h1, h2⟩ := ih (acc ++ [(direct o ++ (direct o).flatMap fun d => acc.getD d []).eraseDups])
    rw [hstep]
    have hold : ∀ j, j < acc.length → (before (acc ++ [(direct o ++ (direct o).flatMap fun d => acc.getD d []).eraseDups]) l).getD j [] = acc.getD j [] := fun j hj => by
      rw [h1 j (by simp; omega)]
      simp [List.getD, List.getElem?_append_left hj]
    refine ⟨hold, fun j o' ho => ?_⟩
    cases j with
    | zero =>
      simp at ho; subst ho
      have hcur : (before (acc ++ [(direct o ++ (direct o).flatMap fun d => acc.getD d []).eraseDups]) l).getD (acc.length + 0) [] = (direct o ++ (direct o).flatMap fun d => acc.getD d []).eraseDups := by
        rw [h1 _ (by simp)]
        simp [List.getD]
      rw [hcur]
      refine ⟨fun d hd => by rw [List.mem_eraseDups]; exact List.mem_append_left _ hd, fun e he => ?_⟩
      rw [List.mem_eraseDups] at he
      rcases List.mem_append.1 he with he | he
      · exact .inl he
      · obtain ⟨d, hd, hed⟩ := List.mem_flatMap.1 he
        refine .inr ⟨d, hd, ?_⟩
        by_cases hlt : d < acc.length
        · rw [hold d hlt]; exact hed
        · rw [List.getD, List.getElem?_eq_none (by omega)] at hed; simp at hed
    | succ j =>
      simp at ho
      have := h2 j o' ho
      simp only [List.length_append, List.length_cons, List.length_nil] at this
      rw [show acc.length + (j + 1) = acc.length + (0 + 1) + j by omega]
      exact this

def Ordered (bef : List (List Nat)) (y x : Ins) : Prop := x.idx ∉ bef.getD y.idx [] ∧ y.idx ≠ x.idx ∧ (y.idx ∈ bef.getD x.idx [] ∨ comm y x = true)

theorem orderOk_spec {bef : List (List Nat)} : ∀ {l : List Ins}, orderOk bef l = true → l.Pairwise (Ordered bef) ∧ ∀ y ∈ l, y.idx ∉ bef.getD y.idx [] := by
  intro l
  induction l with
  | nil => intro _; exact ⟨.nil, by simp⟩
  | cons y l ih =>
    intro h
    simp only [orderOk, Bool.and_eq_true, List.all_eq_true] at h
    obtain ⟨⟨h1, h2⟩, h3⟩ := h
    obtain ⟨k1, k2⟩ := ih h3
    refine ⟨.cons (fun x hx => ?_) k1, fun z hz => ?_⟩
    · have := h2 x hx
      simp only [Bool.and_eq_true, Bool.or_eq_true, Bool.not_eq_true', bne_iff_ne, List.contains_iff_mem] at this
      refine ⟨by simpa using this.1.1, this.1.2, this.2⟩
    · rcases List.mem_cons.1 hz with rfl | hz
      · simpa using h1
      · exact k2 z hz

section
variable {P : Program} {B0 : Bs} {w0 : World} {ds : List Deferred} {cl : Nat → List Value → Heap → Option (Value × Heap)}

theorem cI_tgt {k : Nat} {op : Op} {i : I} (h : cI P k op = some i) : ∀ k', i.tgt = some k' → k' = k ∧ i.allocs = true := by
  intro k' hk
  cases op <;> simp only [cI] at h <;> (try (cases h; done)) <;>
    (repeat' (first
      | (cases h; done)
      | (split at h)
      | (simp only [Option.map_eq_some_iff] at h; obtain ⟨_, _, rfl⟩ := h)
      | (cases h))) <;> first
    | (simp [I.tgt] at hk; done)
    | (simp only [I.tgt, Option.some.injEq] at hk; exact ⟨hk.symm, rfl⟩)

theorem InsOk.tgt {nt n : Nat} {ops : Array Oper} {x : Ins} (h : InsOk P nt ops n x) : ∀ k, x.op.tgt = some k → k < n := by
  obtain ⟨o, i0, k, h1, h2, h3, h4, h5, h6⟩ := h
  intro k' hk'
  have h0 : i0.op.tgt = some k' := by
    rcases h6 with e | ⟨k2, e', s', by_, x', y', e1, e2⟩
    · rw [← e]; exact hk'
    · rw [e1] at hk'; rw [e2]; exact hk'
  rcases (cIns_spec h2).2.1 with hc | hc
  · obtain ⟨rfl, ha⟩ := cI_tgt hc k' h0
    exact h5 ha
  · rw [hc] at h0; simp [I.tgt] at h0

theorem InsOk.lessAll {nt n : Nat} {ops : Array Oper} {x : Ins} (h : InsOk P nt ops n x) (l : List Ins) : InsOk P nt ops n (x.lessAll l) := by
  obtain ⟨f1, f2, f3, f4⟩ := lessAll_fields x l
  obtain ⟨o, i0, k, h1, h2, h3, h4, h5, h6⟩ := h
  exact ⟨o, i0, k, by rw [f1]; exact h1, by rw [f1]; exact h2, by rw [f2]; exact h3, by rw [f3]; exact h4, h5, by rw [f4]; exact h6⟩

theorem any_sim (hcl : ClOk P B0 w0 cl) (hgd : ClGood cl) {nt n b : Nat} {ops : Array Oper} {bef : List (List Nat)} (hbef : bef = before [] ops.toList) (hbl : ∀ l ∈ bef, ∀ e ∈ l, e < ops.size) {Q : Exit → Act → World → Prop} (L : Option Nat) (m : Nat) :
    ∀ (fuel : Nat) (R : List Ins) (listed : Array Bool) (s fin : St) (β : Emb) (a : Act) (w : World), R.length = fuel → (∀ i ∈ R, InsOk P nt ops n i) → R.Pairwise (Ordered bef) → (∀ y ∈ R, y.idx ∉ bef.getD y.idx []) → listed.size = ops.size →
    (∀ j, j < ops.size → (listed.getD j true = false ↔ (j ∈ R.map (·.idx) ∨ L = some j))) → (∀ j, listed.getD j false = true → ∀ e ∈ bef.getD j [], listed.getD e false = true) →
    (∀ j, L = some j → ∀ y ∈ R, y.idx ∈ bef.getD j [] ∧ j ∉ bef.getD y.idx []) →
    evSeq cl b R s = some fin → Sim B0 w0 ds nt (b + n) β s.T s.H a w →
    (∀ β' a' w' listed', β.le β' → listed'.size = ops.size → (∀ j, j < ops.size → (listed'.getD j true = false ↔ L = some j)) → (∀ j, listed'.getD j false = true → ∀ e ∈ bef.getD j [], listed'.getD e false = true) → Sim B0 w0 ds nt (b + n) β' fin.T fin.H a' w' → wpAny P .any ops Q m listed' a' w') →
    wpAny P .any ops Q (fuel + m) listed a w := by
  have hsp := before_spec ops.toList []
  simp only [List.length_nil, Nat.zero_add] at hsp
  rw [← hbef] at hsp
  have hlt : ∀ j e, e ∈ bef.getD j [] → e < ops.size := fun j e he => by
    rw [List.getD] at he
    cases hq : bef[j]? with
    | none => rw [hq] at he; simp at he
    | some l => rw [hq] at he; exact hbl l (List.mem_of_getElem? hq) e he
  intro fuel
  induction fuel with
  | zero =>
    intro R listed s fin β a w hlen hok hord hself hsize hlist hclosed hLr hev hs hQ
    have : R = [] := List.length_eq_zero_iff.1 hlen
    subst this
    simp [evSeq] at hev; subst hev
    rw [Nat.zero_add]
    exact hQ β a w listed (Emb.le_refl β) hsize (fun j hj => by rw [hlist j hj]; simp) hclosed hs
  | succ fuel ih =>
    intro R listed s fin β a w hlen hok hord hself hsize hlist hclosed hLr hev hs hQ
    have getD_eq : ∀ j, j < ops.size → listed.getD j true = listed.getD j false := fun j hj => by
      have : j < listed.size := by omega
      simp [Array.getD, this]
    rw [show fuel + 1 + m = (fuel + m) + 1 by omega]
    refine ⟨fun hnil => ?_, fun i hi => ?_⟩
    · -- the first of the list is ready
      cases R with
      | nil => simp at hlen
      | cons y R =>
        exfalso
        obtain ⟨o, i0, k, h1, h2, _⟩ := hok y (List.mem_cons_self ..)
        have hylt : y.idx < ops.size := (Array.getElem?_eq_some_iff.1 h1).1
        have hy : y.idx ∈ Region.ready .any ops listed := by
          refine mem_ready.2 ⟨(hlist _ hylt).2 (.inl (by simp)), o, h1, fun e he hb => ?_⟩
          have hmem : e.on ∈ bef.getD y.idx [] := (hsp.2 y.idx o (by rw [Array.getElem?_toList]; exact h1)).1 _ (mem_direct.2 ⟨e, he, hb, rfl⟩)
          have hel := hlt _ _ hmem
          rw [← getD_eq _ hel]
          cases hv : listed.getD e.on true with
          | true => rfl
          | false =>
            exfalso
            have := (hlist _ hel).1 hv
            simp only [List.map_cons, List.mem_cons, List.mem_map] at this
            rcases this with (h | ⟨x, hx, h⟩) | h
            · exact hself y (List.mem_cons_self ..) (by rw [h] at hmem; exact hmem)
            · exact ((List.pairwise_cons.1 hord).1 x hx).1 (by rw [h]; exact hmem)
            · exact (hLr _ h y (List.mem_cons_self ..)).2 hmem
        rw [hnil] at hy
        simp at hy
    · obtain ⟨h0, o, ho, hall⟩ := mem_ready.1 hi
      have hil : i < ops.size := (Array.getElem?_eq_some_iff.1 ho).1
      -- what i must come behind has been done
      have hdone0 : ∀ e ∈ bef.getD i [], listed.getD e false = true := by
        intro e he
        rcases (hsp.2 i o (by rw [Array.getElem?_toList]; exact ho)).2 e he with h | ⟨d, hd, hed⟩
        · obtain ⟨ed, h1, h2, rfl⟩ := mem_direct.1 h
          exact hall ed h1 h2
        · obtain ⟨ed, h1, h2, rfl⟩ := mem_direct.1 hd
          exact hclosed _ (hall ed h1 h2) e hed
      rcases (hlist i hil).1 h0 with hiR | hiL
      rotate_left
      · exfalso
        cases R with
        | nil => simp at hlen
        | cons y R =>
          have h1 := (hLr i hiL y (List.mem_cons_self ..)).1
          have hyl := hlt _ _ h1
          have h2 := (hlist _ hyl).2 (.inl (by simp))
          rw [getD_eq _ hyl, hdone0 _ h1] at h2
          cases h2
      obtain ⟨x, hx, rfl⟩ := List.mem_map.1 hiR
      obtain ⟨l1, l2, rfl⟩ := List.append_of_mem hx
      have hdone := hdone0
      have hcomm : ∀ y ∈ l1, comm y x = true := by
        intro y hy
        have := (List.pairwise_append.1 hord).2.2 y hy x (List.mem_cons_self ..)
        rcases this.2.2 with h | h
        · exfalso
          have h1 := hdone _ h
          have hyl : y.idx < ops.size := hlt _ _ h
          have h2 := (hlist _ hyl).2 (.inl (List.mem_map.2 ⟨y, by simp [hy], rfl⟩))
          rw [getD_eq _ hyl, h1] at h2
          cases h2
        · exact h
      have hnd : (l1.map (·.idx)).Nodup := by
        have hp : l1.Pairwise (Ordered bef) := (List.pairwise_append.1 hord).1
        rw [List.Nodup, List.pairwise_map]
        exact hp.imp (fun h => h.2.1)
      obtain ⟨s1, fin', g1, g2, g3, g4⟩ := bubble hgd l1 s fin hcomm hnd (fun k hk => by have := (hok x hx).tgt k hk; have := hs.sz; omega) hev
      rw [← g3, ← g4] at hQ
      have hidx := (lessAll_fields x l1).1
      rw [← hidx]
      refine sim_ins hcl ((hok x hx).lessAll l1) g1 hs (fun β' a' w' hle hs' => ?_)
      rw [hidx]
      have hsub : (l1 ++ l2).Sublist (l1 ++ x :: l2) := by
        apply List.Sublist.append (List.Sublist.refl _) (List.sublist_cons_self _ _)
      have hxn : x.idx ∉ (l1 ++ l2).map (·.idx) := by
        intro h
        obtain ⟨z, hz, hzx⟩ := List.mem_map.1 h
        rcases List.mem_append.1 hz with hz | hz
        · exact ((List.pairwise_append.1 hord).2.2 z hz x (List.mem_cons_self ..)).2.1 hzx
        · exact ((List.pairwise_cons.1 (List.pairwise_append.1 hord).2.1).1 z hz).2.1 hzx.symm
      have hxL : L ≠ some x.idx := fun e => by
        have := (hLr _ e x hx).1
        exact hself x hx this
      refine ih (l1 ++ l2) (listed.setIfInBounds x.idx true) s1 fin' β' a' w' (by simp at hlen ⊢; omega) (fun i hi => hok i (hsub.subset hi)) (hord.sublist hsub) (fun y hy => hself y (hsub.subset hy)) (by simpa using hsize) (fun j hj => ?_) (fun j hj e he => ?_) (fun j hj y hy => hLr j hj y (hsub.subset hy)) g2 hs'
        (fun β2 a2 w2 li h2 q1 q2 q3 hs2 => hQ β2 a2 w2 li (Emb.le_trans hle h2) q1 q2 q3 hs2)
      · by_cases hjx : j = x.idx
        · subst hjx
          have : x.idx < listed.size := by omega
          constructor
          · intro h; simp [this] at h
          · rintro (h | h)
            · exact absurd h hxn
            · exact absurd h hxL
        · rw [getD_set_ne true (Ne.symm hjx), hlist j hj]
          simp only [List.map_append, List.map_cons, List.mem_append, List.mem_cons]
          constructor
          · rintro ((h | h | h) | h)
            · exact .inl (.inl h)
            · exact absurd h hjx
            · exact .inl (.inr h)
            · exact .inr h
          · rintro ((h | h) | h)
            · exact .inl (.inl h)
            · exact .inl (.inr (.inr h))
            · exact .inr h
      · apply getD_set_true
        by_cases hjx : j = x.idx
        · rw [hjx] at he; exact hdone e he
        · rw [getD_set_ne false (Ne.symm hjx)] at hj; exact hclosed j hj e he

theorem setPure_spec (bef : List (List Nat)) (all : List Ins) (i : Ins) : (setPure bef all i).idx = i.idx ∧ (setPure bef all i).dst = i.dst ∧ (setPure bef all i).guard = i.guard ∧
    ((∀ k e s b x y, i.op ≠ .append k e s b true x y) → (setPure bef all i).op = i.op ∨ ∃ k e s by_ x y, (setPure bef all i).op = .append k e s by_ true x y ∧ i.op = .append k e s by_ false x y) := by
  unfold setPure
  split
  · rename_i k e s b b0 x y ho
    refine ⟨rfl, rfl, rfl, fun hn => ?_⟩
    cases b0 with
    | true => exact absurd ho (hn _ _ _ _ _ _)
    | false =>
      simp only
      generalize (all.all _) = lone
      cases lone
      · exact .inr ⟨k, e, s, b, x, y, rfl, ho⟩
      · exact .inl (by rw [ho]; rfl)
  · exact ⟨rfl, rfl, rfl, fun _ => .inl rfl⟩

theorem setChk_mem {bef : List (List Nat)} : ∀ {l seen : List Ins} {i : Ins}, i ∈ setChk bef seen l → ∃ i' ∈ l, i.idx = i'.idx ∧ i.dst = i'.dst ∧ i.guard = i'.guard ∧ i.op = i'.op := by
  intro l
  induction l with
  | nil => intro seen i h; simp [setChk] at h
  | cons x l ih =>
    intro seen i h
    simp only [setChk] at h
    rcases List.mem_cons.1 h with rfl | h
    · refine ⟨x, List.mem_cons_self .., ?_⟩
      split
      · exact ⟨rfl, rfl, rfl, rfl⟩
      · split <;> exact ⟨rfl, rfl, rfl, rfl⟩
      · exact ⟨rfl, rfl, rfl, rfl⟩
    · obtain ⟨i', h1, h2⟩ := ih h
      exact ⟨i', List.mem_cons_of_mem _ h1, h2⟩

theorem cI_notPure {k : Nat} {op : Op} {i : I} (h : cI P k op = some i) : ∀ k e s b x y, i ≠ .append k e s b true x y := by
  intro k' e' s' b' x' y' hi
  subst hi
  cases op <;> simp only [cI] at h <;> (try (cases h; done)) <;>
    (repeat' (first | (cases h; done) | (split at h) | (simp at h; done)))

theorem setLg_mem {l : List Ins} {i : Ins} (h : i ∈ setLg l) : ∃ i' ∈ l, i.idx = i'.idx ∧ i.dst = i'.dst ∧ i.guard = i'.guard ∧ i.op = i'.op := by
  unfold setLg at h
  obtain ⟨i', h1, rfl⟩ := List.mem_map.1 h
  exact ⟨i', h1, rfl, rfl, rfl, rfl⟩

/-- What a planned order has. -/
theorem planned_spec {nt m : Nat} {ops : Array Oper} {l : List Oper} {is l' : List Ins} {n : Nat} (hpre : ∀ (j : Nat), l[j]? = if j < l.length then ops[0 + j]? else none) (hl : l.length = m) (hm : m ≤ ops.size) (hc : cList P nt ops.toList 0 0 l = some (is, n)) (hp : planned m ops.toList is = some l') :
    (∀ i ∈ l', InsOk P nt ops n i) ∧ l'.Pairwise (Ordered (before [] ops.toList)) ∧ (∀ y ∈ l', y.idx ∉ (before [] ops.toList).getD y.idx []) ∧ (∀ j, j < m → j ∈ l'.map (·.idx)) ∧ (∀ i ∈ l', i.idx < m) ∧ (∀ l ∈ before [] ops.toList, ∀ e ∈ l, e < ops.size) ∧ l'.length = m := by
  obtain ⟨_, g2, g3⟩ := cList_spec' l 0 0 is n hc hpre
  unfold planned at hp
  simp only at hp
  split at hp
  case isFalse => cases hp
  rename_i hcond
  cases hp
  obtain ⟨p1, p2, p3, p4⟩ := hcond
  obtain ⟨o1, o2⟩ := orderOk_spec p4
  have hok : ∀ i ∈ setLg (setChk (before [] ops.toList) [] ((planOrder (before [] ops.toList) ((is.map (setPure (before [] ops.toList) is)).map fun i => i.op.cls)).filterMap fun i => (is.map (setPure (before [] ops.toList) is))[i]?)), InsOk P nt ops n i := by
    intro i hi0
    obtain ⟨i2, hi, d1, d2, d3, d4⟩ := setLg_mem hi0
    obtain ⟨i1, h1, e1, e2, e3, e4⟩ := setChk_mem hi
    obtain ⟨j, _, hj⟩ := List.mem_filterMap.1 h1
    rw [List.getElem?_map] at hj
    cases hq : is[j]? with
    | none => rw [hq] at hj; cases hj
    | some i0 =>
      rw [hq] at hj; cases hj
      obtain ⟨hidx, o, i00, k, q1, q2, q3, q4, q5, q6⟩ := g3 j i0 hq
      obtain ⟨f1, f2, f3, f4⟩ := setPure_spec (before [] ops.toList) is i0
      have hnp : ∀ k e s b x y, i00.op ≠ .append k e s b true x y := by
        rcases (cIns_spec q2).2.1 with h | h
        · exact cI_notPure h
        · rw [h]; intros; simp
      have hsame : i0.op = i00.op := by
        rcases q6 with h | ⟨k', e', s', b', x', y', h, h'⟩
        · exact h
        · exfalso
          -- the list as compiled has no such operation
          obtain ⟨k2, op2, hmem⟩ := cList_ops l 0 0 is n hc j i0 hq
          rcases hmem with hmem | hmem
          · exact cI_notPure hmem _ _ _ _ _ _ h
          · rw [hmem] at h; cases h
      have f4' := f4 (by rw [hsame]; exact hnp)
      exact ⟨o, i00, k, by rw [d1, e1, f1]; exact q1, by rw [d1, e1, f1]; exact q2, by rw [d2, e2, f2]; exact q3, by rw [d3, e3, f3]; exact q4, q5, by rw [d4, e4]; rw [hsame] at f4'; exact f4'⟩
  have hcover : ∀ j, j < m → j ∈ (setLg (setChk (before [] ops.toList) [] ((planOrder (before [] ops.toList) ((is.map (setPure (before [] ops.toList) is)).map fun i => i.op.cls)).filterMap fun i => (is.map (setPure (before [] ops.toList) is))[i]?))).map (·.idx) := by
    intro j hj
    have := List.all_eq_true.1 p1 j (by simpa using hj)
    simpa using this
  have hbound : ∀ i ∈ setLg (setChk (before [] ops.toList) [] ((planOrder (before [] ops.toList) ((is.map (setPure (before [] ops.toList) is)).map fun i => i.op.cls)).filterMap fun i => (is.map (setPure (before [] ops.toList) is))[i]?)), i.idx < m := by
    intro i hi
    have := List.all_eq_true.1 p2 i hi
    simpa using this
  refine ⟨hok, o1, o2, hcover, hbound, fun l hl e he => ?_, ?_⟩
  · have := List.all_eq_true.1 (List.all_eq_true.1 p3 l hl) e he
    simpa using this
  · have hnd : ((setLg (setChk (before [] ops.toList) [] ((planOrder (before [] ops.toList) ((is.map (setPure (before [] ops.toList) is)).map fun i => i.op.cls)).filterMap fun i => (is.map (setPure (before [] ops.toList) is))[i]?))).map (·.idx)).Nodup := by
      rw [List.Nodup, List.pairwise_map]
      exact o1.imp (fun h => h.2.1)
    have hperm := (List.perm_ext_iff_of_nodup hnd (List.nodup_range (n := m))).2 (fun j => by
      rw [List.mem_range]
      constructor
      · intro h; obtain ⟨i, hi, rfl⟩ := List.mem_map.1 h; exact hbound i hi
      · exact hcover j)
    have := hperm.length_eq
    simpa using this

theorem region_draw_sim (hcl : ClOk P B0 w0 (noP cl)) (hgd : ClGood (noP cl)) (hm : P.follows .mixedOrders = true) {nt n : Nat} {ops : Array Oper} {is l' : List Ins} (hc : cList P nt ops.toList 0 0 ops.toList = some (is, n)) (hp : planned ops.toList.length ops.toList is = some l') {id : Nat} {Q : Exit → Act → World → Prop} {T T' : Tr Value} {H H' : Heap}
    {n0 : Nat} (hev : evC cl n0 (.region n l') T H = some (.normal, T', H')) {β : Emb} {a : Act} {w : World} {lo : Nat} (hs : Sim B0 w0 ds nt lo β T H a w) (hQ : ∀ β' a' w', β.le β' → Sim B0 w0 ds nt lo β' T' H' a' w' → Q .normal a' w') : (Code.region id ops true).wp P Q a w := by
  obtain ⟨hok, o1, o2, hcover, hbound, hbl, hlen⟩ := planned_spec (fun j => by
    by_cases h : j < ops.size
    · simp [h]
    · simp [h]) rfl (by simp) hc hp
  simp only [evC] at hev
  split at hev
  case h_2 => cases hev
  rename_i fin hseq
  cases hev
  refine wp_region_any hm ?_
  have hsz : ops.toList.length = ops.size := by simp
  rw [hsz] at hcover hbound hlen
  have := any_sim (Q := Q) hcl hgd rfl hbl none 0 ops.size l' (Array.replicate ops.size false) ⟨T, Heap.ext n H, .nil⟩ fin β a { w with drawn := w.drawn + 1 } hlen hok o1 o2 (by simp) (fun j hj => by simp [hj]; simpa using hcover j hj) (fun j hj e he => by
      exfalso
      by_cases hlt : j < ops.size
      · simp [hlt] at hj
      · simp [hlt] at hj) (fun j h => by cases h) hseq
    ⟨⟨hs.rel.toRel.ext n, hs.rel.os, hs.rel.tape, hs.rel.output⟩, hs.tr, hs.nt, by rw [Heap.size_ext]; exact Nat.le_refl _, hs.df⟩ (fun β' a' w' li hle q1 q2 _ hs' => by
      refine ⟨?_, hQ β' a' w' hle (hs'.le (by have := hs.sz; omega))⟩
      rw [List.eq_nil_iff_forall_not_mem]
      intro j hj
      obtain ⟨h0, o, ho, _⟩ := mem_ready.1 hj
      have := (q2 j (Array.getElem?_eq_some_iff.1 ho).1).1 h0
      cases this)
  exact this

/-- A region of an open order whose last operation stands apart. -/
theorem region_last_sim (hcl : ClOk P B0 w0 (noP cl)) (hgd : ClGood (noP cl)) (hm : P.follows .mixedOrders = true) {nt n : Nat} {ops : Array Oper} {is l' : List Ins} (hne : 0 < ops.size) (hlast : lastOk ops.toList = true) (hc : cList P nt ops.toList 0 0 ops.toList.dropLast = some (is, n)) (hp : planned (ops.toList.length - 1) ops.toList is = some l') {id : Nat} {Q : Exit → Act → World → Prop} {T T' : Tr Value} {H H' : Heap}
    {n0 : Nat} (hev : evC cl n0 (.region n l') T H = some (.normal, T', H')) {β : Emb} {a : Act} {w : World} {lo : Nat} (hs : Sim B0 w0 ds nt lo β T H a w) (hQ : ∀ β' a' w', β.le β' → Sim B0 w0 ds nt lo β' T' H' a' w' → wpOp P ops Q (ops.size - 1) (Q .normal) a' w') : (Code.region id ops true).wp P Q a w := by
  have hsz : ops.toList.length = ops.size := by simp
  obtain ⟨hok, o1, o2, hcover, hbound, hbl, hlen⟩ := planned_spec (m := ops.toList.length - 1) (fun j => by
    by_cases h : j < ops.size - 1
    · simp [List.getElem?_dropLast, h]
    · simp [List.getElem?_dropLast, h]) (by simp) (by simp) hc hp
  simp only [evC] at hev
  split at hev
  case h_2 => cases hev
  rename_i fin hseq
  cases hev
  refine wp_region_any hm ?_
  rw [hsz] at hcover hbound hlen
  simp only [lastOk, Bool.and_eq_true, List.all_eq_true, List.mem_range, List.contains_iff_mem, Bool.not_eq_true', hsz] at hlast
  obtain ⟨la1, la2⟩ := hlast
  have la2' : ∀ j, j < ops.size → ops.size - 1 ∉ (before [] ops.toList).getD j [] := fun j hj h => by
    have := la2 j hj
    rw [← Bool.not_eq_true, List.contains_iff_mem] at this
    exact this h
  have := any_sim (Q := Q) hcl hgd rfl hbl (some (ops.size - 1)) 1 (ops.size - 1) l' (Array.replicate ops.size false) ⟨T, Heap.ext n H, .nil⟩ fin β a { w with drawn := w.drawn + 1 } hlen hok o1 o2 (by simp) (fun j hj => by
      simp [hj]
      by_cases h : j < ops.size - 1
      · exact .inl (by simpa using hcover j h)
      · exact .inr (by omega)) (fun j hj e he => by
      exfalso
      by_cases hlt : j < ops.size
      · simp [hlt] at hj
      · simp [hlt] at hj) (fun j h y hy => by
        cases h
        have hyl := hbound y hy
        exact ⟨la1 _ hyl, la2' _ (by omega)⟩) hseq
    ⟨⟨hs.rel.toRel.ext n, hs.rel.os, hs.rel.tape, hs.rel.output⟩, hs.tr, hs.nt, by rw [Heap.size_ext]; exact Nat.le_refl _, hs.df⟩ (fun β' a' w' li hle q1 q2 q3 hs' => by
      have hfin := hQ β' a' w' hle (hs'.le (by have := hs.sz; omega))
      have gd : ∀ j, j < ops.size → li.getD j true = li.getD j false := fun j hj => by
        have : j < li.size := by omega
        simp [Array.getD, this]
      refine ⟨fun hnil => ?_, fun i hi => ?_⟩
      · exfalso
        obtain ⟨o, ho⟩ : ∃ o, ops[ops.size - 1]? = some o := ⟨_, Array.getElem?_eq_getElem (by omega)⟩
        have : ops.size - 1 ∈ Region.ready .any ops li := by
          refine mem_ready.2 ⟨(q2 _ (by omega)).2 rfl, o, ho, fun e he hb => ?_⟩
          have hsp := before_spec ops.toList []
          simp only [List.length_nil, Nat.zero_add] at hsp
          have hmem : e.on ∈ (before [] ops.toList).getD (ops.size - 1) [] := (hsp.2 _ o (by rw [Array.getElem?_toList]; exact ho)).1 _ (mem_direct.2 ⟨e, he, hb, rfl⟩)
          have hel : e.on < ops.size := by
            rw [List.getD] at hmem
            cases hq : (before [] ops.toList)[ops.size - 1]? with
            | none => rw [hq] at hmem; simp at hmem
            | some l => rw [hq] at hmem; exact hbl l (List.mem_of_getElem? hq) _ hmem
          rw [← gd _ hel]
          cases hv : li.getD e.on true with
          | true => rfl
          | false =>
            exfalso
            have := (q2 _ hel).1 hv
            have e0 : e.on = ops.size - 1 := by simpa using this.symm
            rw [e0] at hmem
            exact la2' _ (by omega) hmem
        rw [hnil] at this
        simp at this
      · obtain ⟨h0, o, ho, hall⟩ := mem_ready.1 hi
        have hil : i < ops.size := (Array.getElem?_eq_some_iff.1 ho).1
        have e0 : i = ops.size - 1 := by
          have := (q2 i hil).1 h0
          simpa using this.symm
        subst e0
        refine wpOp_mono (fun a2 w2 h => ⟨?_, h⟩) hfin
        rw [List.eq_nil_iff_forall_not_mem]
        intro j hj
        obtain ⟨h0, o, ho, _⟩ := mem_ready.1 hj
        have hjl := (Array.getElem?_eq_some_iff.1 ho).1
        by_cases hje : j = ops.size - 1
        · subst hje
          have : ops.size - 1 < li.size := by omega
          simp [this] at h0
        · rw [getD_set_ne true (fun e => hje e.symm)] at h0
          have := (q2 j hjl).1 h0
          exact hje (by simpa using this.symm))
  rw [show ops.size - 1 + 1 = ops.size by omega] at this
  exact this

end
end Go.Proofs.YtiphbdhclldllaaGreatDoor.Mx
