/- Exchanging operations; regions. -/
import Derived.Test.YtmgkdnncjapejaaZabJ
set_option linter.unusedSimpArgs false
set_option linter.unusedVariables false
namespace Go.Proofs.Ytmgkdnncjapejaa.Abs
open Go

variable {cl : Nat → List Value → Heap → Option (Value × Heap)} {b : Nat} {T : Tr Value}

theorem wanted_less (x : Ins) (y : Nat) (T : Tr Value) : (x.less y).wanted T = x.wanted T := rfl

/-- The heap's side of an exchange. -/
theorem swapW {y x : Ins} {H H1 H2 : Heap} {log : Tr Heap} {vy vx : Value} (hc : comm y x = true) (hy : evW cl b y ⟨T, H, log⟩ = some (vy, H1)) (hx : evW cl b x ⟨T, H1, lg y ⟨T, H, log⟩⟩ = some (vx, H2)) :
    ∃ H1', evW cl b (x.less y.idx) ⟨T, H, log⟩ = some (vx, H1') ∧ evW cl b y ⟨T, H1', lg x ⟨T, H, log⟩⟩ = some (vy, H2) ∧ (x.op.isCall = true → H1 = H) ∧ (y.op.isCall = true → H1' = H) := by
  obtain ⟨hne, hd1, hd2, hcl⟩ := comm_spec hc
  -- logs do not matter but for loads
  have ycheck : ∀ {i : Ins} {log log' : Tr Heap} {v : Value}, i.op.cls ≠ .L → chkOk log T i.op v i.chk = true → chkOk log' T i.op v i.chk = true := by
    intro i log log' v hL h
    cases hi : i.chk with
    | nil => rfl
    | cons c l =>
      rw [hi] at h
      simp only [chkOk, Bool.and_eq_true] at h
      have h1 := h.1
      cases ho : i.op <;> first | exact absurd (by rw [ho]; rfl) hL | (rw [ho] at h1; simp at h1)
  have lgy : y.op.cls ≠ .C → lg y ⟨T, H, log⟩ = log := fun h => by simp [lg, cls_call h]
  have lgx : x.op.cls ≠ .C → lg x ⟨T, H, log⟩ = log := fun h => by simp [lg, cls_call h]
  have notcall : ∀ {i : I}, i.cls ≠ .C → i.isCall = true → False := fun h h' => by rw [cls_call h] at h'; cases h'
  -- a changed log at x with the check of y left out
  have xchk : ∀ {v : Value}, chkOk (lg y ⟨T, H, log⟩) T x.op v x.chk = true → chkOk log T x.op v (x.less y.idx).chk = true := by
    intro v h
    by_cases hyc : y.op.isCall = true
    · simp only [lg, hyc, if_true] at h
      exact chkOk_log h
    · have : y.op.isCall = false := by simpa using hyc
      simp only [lg, this, Bool.false_eq_true, if_false] at h
      exact chkOk_filter _ h
  rcases evW_some hx with ⟨hwx, hex, hcx⟩ | ⟨hwx, rfl, rfl⟩
  rotate_left
  · -- x is not wanted
    refine ⟨H, evW_not hwx, ?_, fun hcx => ?_, fun _ => rfl⟩
    · rcases evW_some hy with ⟨hwy, hey, hcy⟩ | ⟨hwy, rfl, rfl⟩
      · refine evW_of hwy hey ?_
        by_cases hL : y.op.cls = .L
        · have : x.op.cls ≠ .C := by
            intro hC
            rcases hcl with h | h | ⟨⟨h, _⟩ | ⟨h, _⟩, _⟩ | ⟨h, _⟩ <;> simp_all
          rw [lgx this]; exact hcy
        · exact ycheck hL hcy
      · exact evW_not hwy
    · -- x is a call: y is of class P
      have hC : y.op.cls = .P := by
        have hxc : x.op.cls = .C := by
          cases ho : x.op <;> rw [ho] at hcx <;> simp [I.isCall] at hcx
          rfl
        rcases hcl with h | h | ⟨h, _⟩ | ⟨_, h, _⟩
        · exact h
        · rw [hxc] at h; cases h
        · rw [hxc] at h; simp at h
        · rw [hxc] at h; cases h
      rcases evW_some hy with ⟨_, hey, _⟩ | ⟨_, _, e⟩
      · exact (evI_P hC hey).1
      · exact e
  · rcases evW_some hy with ⟨hwy, hey, hcy⟩ | ⟨hwy, rfl, rfl⟩
    rotate_left
    · -- y is not wanted
      by_cases hyc : y.op.isCall = true
      · -- a call that is not carried out: x is a load or of class P
        have hyC : y.op.cls = .C := by
          cases ho : y.op <;> rw [ho] at hyc <;> simp [I.isCall] at hyc
          rfl
        refine ⟨H2, evW_of hwx hex (xchk hcx), ?_, fun _ => rfl, fun _ => ?_⟩
        · have : H2 = H1 := by
            rcases hcl with h | h | ⟨h, _⟩ | ⟨_, h, _⟩
            · rw [hyC] at h; cases h
            · exact (evI_P h hex).1
            · rw [hyC] at h; simp at h
            · obtain ⟨a, n, z, e⟩ := cls_load h
              rw [e] at hex
              exact (evI_L hex).1
          subst this
          exact evW_not hwy
        · rcases hcl with h | h | ⟨h, _⟩ | ⟨_, h, _⟩
          · rw [hyC] at h; cases h
          · exact (evI_P h hex).1
          · rw [hyC] at h; simp at h
          · obtain ⟨a, n, z, e⟩ := cls_load h
            rw [e] at hex
            exact (evI_L hex).1
      · refine ⟨H2, evW_of hwx hex (xchk hcx), evW_not hwy, fun _ => rfl, fun h => absurd h hyc⟩
    · -- both are carried out
      rcases hcl with hP | hP | ⟨hAL, htgt⟩ | ⟨hyC, hxL, hin⟩
      · -- y of class P
        obtain ⟨rfl, hany⟩ := evI_P hP hey
        refine ⟨H2, evW_of hwx hex (xchk hcx), evW_of hwy (hany _) (ycheck (by rw [hP]; simp) hcy), fun _ => rfl, fun h => (notcall (by rw [hP]; simp) h).elim⟩
      · -- x of class P
        obtain ⟨rfl, hany⟩ := evI_P hP hex
        have hl := lgx (by rw [hP]; simp)
        refine ⟨H, evW_of hwx (hany _) (xchk hcx), evW_of hwy hey (by rw [hl]; exact hcy), fun h => (notcall (by rw [hP]; simp) h).elim, fun _ => rfl⟩
      · have hxnc : x.op.cls ≠ .C := by rcases hAL with ⟨_, h | h | h⟩ | ⟨_, h⟩ <;> rw [h] <;> simp
        have hync : y.op.cls ≠ .C := by rcases hAL with ⟨h, _⟩ | ⟨h | h, _⟩ <;> rw [h] <;> simp
        have hl := lgx hxnc
        rcases hAL with ⟨hyL, hx3⟩ | ⟨hyE, hxE⟩
        · -- y a load
          obtain ⟨a, n, z, ey⟩ := cls_load hyL
          rw [ey] at hey
          obtain ⟨rfl, hany⟩ := evI_L hey
          refine ⟨H2, evW_of hwx hex (xchk hcx), ?_, fun h => (notcall hxnc h).elim, fun h => (notcall hync h).elim⟩
          refine evW_of hwy ?_ (by rw [hl]; exact hcy)
          rw [ey]
          rcases hx3 with h | h | h
          · obtain ⟨a', n', z', ex⟩ := cls_load h
            rw [ex] at hex
            rw [(evI_L hex).1]; exact hey
          · obtain ⟨k, ob, _, g2, rfl, _⟩ := evI_E h hex
            exact hany _ _ g2
          · obtain ⟨k, e, s, by_, p, q, ex⟩ := cls_ea h
            rw [ex] at hex
            rcases evI_Ea hex with ⟨rfl, _⟩ | ⟨ob, g1, rfl, _⟩
            · exact hey
            · exact hany _ _ g1
        · -- x makes a row whatever the heap holds
          obtain ⟨kx, obx, tx, gx, rfl, hanyx⟩ := evI_E hxE hex
          have hkne : ∀ k, y.op.tgt = some k → b + k ≠ b + kx := by
            intro k hk e
            rcases htgt with h | h
            · rw [hk] at h; cases h
            · rw [hk, tx] at h; exact h (by rw [show k = kx by omega])
          rcases hyE with h | h
          · obtain ⟨ky, oby, ty, gy, rfl, hanyy⟩ := evI_E h hey
            have hne' := hkne ky ty
            have gx' : H.get (b + kx) = some .pend := by rw [Heap.get_put, if_neg hne'] at gx; exact gx
            refine ⟨H.put (b + kx) obx, evW_of hwx (hanyx H gx') (xchk hcx), ?_, fun h => (notcall hxnc h).elim, fun h => (notcall hync h).elim⟩
            rw [Heap.put_comm _ _ _ _ _ (fun e => hne' e.symm)]
            exact evW_of hwy (hanyy _ (by rw [Heap.get_put, if_neg (fun e => hne' e.symm)]; exact gy)) (by rw [hl]; exact hcy)
          · obtain ⟨ky, e, s, by_, p, q, ey⟩ := cls_ea h
            have hne' := hkne ky (by rw [ey]; rfl)
            rw [ey] at hey
            rcases evI_Ea hey with ⟨rfl, hanyy⟩ | ⟨oby, gy, rfl, hanyy⟩
            · refine ⟨H1.put (b + kx) obx, evW_of hwx (hanyx _ gx) (xchk hcx), ?_, fun h => (notcall hxnc h).elim, fun h => (notcall hync h).elim⟩
              refine evW_of hwy ?_ (by rw [hl]; exact hcy)
              rw [ey]
              exact hanyy _ _ gx (fun e => hne' e.symm)
            · have gx' : H.get (b + kx) = some .pend := by rw [Heap.get_put, if_neg hne'] at gx; exact gx
              refine ⟨H.put (b + kx) obx, evW_of hwx (hanyx H gx') (xchk hcx), ?_, fun h => (notcall hxnc h).elim, fun h => (notcall hync h).elim⟩
              rw [Heap.put_comm _ _ _ _ _ (fun e => hne' e.symm)]
              refine evW_of hwy ?_ (by rw [hl]; exact hcy)
              rw [ey]
              exact hanyy _ _ gx' (fun e => hne' e.symm)
      · -- a call, then a load that was looked at again
        have hxnc : x.op.cls ≠ .C := by rw [hxL]; simp
        obtain ⟨a, n, z, ex⟩ := cls_load hxL
        have hl := lgx hxnc
        have hhit : H.loadv a n (z.ev T) = some vx := by
          simp only [lg, isCall_cls hyC, if_true] at hcx
          rw [ex] at hcx
          exact chkOk_hit hcx hin
        have hH2 : H2 = H1 := by rw [ex] at hex; exact (evI_L hex).1
        subst hH2
        refine ⟨H, evW_of hwx ?_ (xchk hcx), ?_, fun h => (notcall hxnc h).elim, fun _ => rfl⟩
        · show evI cl b T H x.op = some (vx, H)
          rw [ex]; simp only [evI, hhit]; rfl
        · exact evW_of hwy hey (by rw [hl]; exact hcy)

theorem evIns_some {i : Ins} {s s' : St} (h : evIns cl b i s = some s') : ∃ v H, evW cl b i s = some (v, H) ∧ s' = ⟨putT s.T i.dst v, H, lg i s⟩ := by
  unfold evIns at h
  split at h
  · rename_i v H e; cases h; exact ⟨v, H, e, rfl⟩
  · cases h

theorem swap {y x : Ins} {s s1 s2 : St} (hc : comm y x = true) (hy : evIns cl b y s = some s1) (hx : evIns cl b x s1 = some s2) :
    ∃ s1', evIns cl b (x.less y.idx) s = some s1' ∧ evIns cl b y s1' = some s2 := by
  obtain ⟨hne, hd1, hd2, hcl⟩ := comm_spec hc
  obtain ⟨vy, H1, ey, rfl⟩ := evIns_some hy
  obtain ⟨vx, H2, ex, rfl⟩ := evIns_some hx
  obtain ⟨T, H, log⟩ := s
  simp only at ey ex ⊢
  rw [evW_put cl b x T H1 _ y.dst vy (fun t ht => (hd1 t ht).1)] at ex
  obtain ⟨H1', k1, k2, k3, k4⟩ := swapW hc ey ex
  refine ⟨⟨putT T x.dst vx, H1', lg x ⟨T, H, log⟩⟩, ?_, ?_⟩
  · simp only [evIns, k1]
    rfl
  · have k2' := k2
    rw [← evW_put cl b y T H1' _ x.dst vx hd2] at k2'
    simp only [evIns, k2']
    have e1 : putT (putT T x.dst vx) y.dst vy = putT (putT T y.dst vy) x.dst vx := (putT_comm T vy vx (fun d hd => (hd1 d hd).2)).symm
    rw [e1]
    congr 2
    simp only [lg]
    by_cases hyc : y.op.isCall = true
    · have hxc : x.op.isCall = false := by
        rcases hcl with h | h | ⟨h, _⟩ | ⟨_, h, _⟩
        · rw [cls_call (by rw [h]; simp)] at hyc; cases hyc
        · exact cls_call (by rw [h]; simp)
        · exact cls_call (by rcases h with ⟨_, h | h | h⟩ | ⟨_, h⟩ <;> rw [h] <;> simp)
        · exact cls_call (by rw [h]; simp)
      simp only [hyc, hxc, if_true, Bool.false_eq_true, if_false, k4 hyc]
    · have : y.op.isCall = false := by simpa using hyc
      simp only [this, Bool.false_eq_true, if_false]
      by_cases hxc : x.op.isCall = true
      · simp only [hxc, if_true, k3 hxc]
      · have : x.op.isCall = false := by simpa using hxc
        simp only [this, Bool.false_eq_true, if_false]

def Ins.lessAll (x : Ins) : List Ins → Ins
  | [] => x
  | y :: l => (x.lessAll l).less y.idx

theorem lessAll_fields (x : Ins) : ∀ l : List Ins, (x.lessAll l).idx = x.idx ∧ (x.lessAll l).dst = x.dst ∧ (x.lessAll l).guard = x.guard ∧ (x.lessAll l).op = x.op
  | [] => ⟨rfl, rfl, rfl, rfl⟩
  | y :: l => lessAll_fields x l

theorem comm_lessAll {y x : Ins} : ∀ {l : List Ins}, (∀ z ∈ l, z.idx ≠ y.idx) → comm y x = true → comm y (x.lessAll l) = true := by
  intro l
  induction l with
  | nil => intro _ h; exact h
  | cons z l ih =>
    intro hz h
    have h1 := ih (fun u hu => hz u (List.mem_cons_of_mem _ hu)) h
    have hzy := hz z (List.mem_cons_self ..)
    unfold comm at h1 ⊢
    simp only [Ins.lessAll, Ins.less, Bool.and_eq_true] at h1 ⊢
    refine ⟨⟨⟨h1.1.1.1, h1.1.1.2⟩, h1.1.2⟩, ?_⟩
    have h2 := h1.2
    split at h2 <;> simp_all
    intro e; exact hzy e.symm

/-- Any operation that may be exchanged with all before it can be taken first. -/
theorem bubble {x : Ins} {l2 : List Ins} : ∀ (l1 : List Ins) (s fin : St), (∀ y ∈ l1, comm y x = true) → (l1.map (·.idx)).Nodup → evSeq cl b (l1 ++ x :: l2) s = some fin →
    ∃ s1, evIns cl b (x.lessAll l1) s = some s1 ∧ evSeq cl b (l1 ++ l2) s1 = some fin := by
  intro l1
  induction l1 with
  | nil =>
    intro s fin _ _ h
    simp only [List.nil_append, evSeq] at h
    split at h
    · rename_i s1 e; exact ⟨s1, e, h⟩
    · cases h
  | cons y l1 ih =>
    intro s fin hc hn h
    simp only [List.cons_append, evSeq] at h
    split at h
    case h_2 => cases h
    rename_i s1 e
    simp only [List.map_cons, List.nodup_cons] at hn
    obtain ⟨s2, g1, g2⟩ := ih s1 fin (fun z hz => hc z (List.mem_cons_of_mem _ hz)) hn.2 h
    have hcy : comm y (x.lessAll l1) = true := comm_lessAll (fun z hz e => hn.1 (by rw [← e]; exact List.mem_map_of_mem hz)) (hc y (List.mem_cons_self ..))
    obtain ⟨s1', k1, k2⟩ := swap hcy e g1
    exact ⟨s1', k1, by simp only [List.cons_append, evSeq, k2]; exact g2⟩

end Go.Proofs.Ytmgkdnncjapejaa.Abs
