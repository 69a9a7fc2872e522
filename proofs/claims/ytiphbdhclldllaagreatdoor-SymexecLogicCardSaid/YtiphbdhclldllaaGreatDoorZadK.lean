/- Exchanging operations; regions. -/
import Derived.Test.YtiphbdhclldllaaGreatDoorZadV
set_option linter.unusedSimpArgs false
set_option linter.unusedVariables false
namespace Go.Proofs.YtiphbdhclldllaaGreatDoor.Mx
open Go

variable {cl : Nat → List Value → Heap → Option (Value × Heap)} {b : Nat} {T : Tr Value}

theorem wanted_less (x : Ins) (y : Nat) (T : Tr Value) : (x.less y).wanted T = x.wanted T := rfl

/-! ### what was noted -/
/-- A heap of which at least as much can be read. -/
def HLe (H H' : Heap) : Prop := ∀ agg n a u, H.loadv agg n a = some u → H'.loadv agg n a = some u
inductive NLe : Option Lg → Option Lg → Prop
  | refl (e : Option Lg) : NLe e e
  | heap (H H' : Heap) (h : HLe H H') : NLe (some (.heap H)) (some (.heap H'))
def LogLe (l l' : Tr Lg) : Prop := ∀ c, NLe (l.get c) (l'.get c)

theorem HLe.refl (H : Heap) : HLe H H := fun _ _ _ _ h => h
theorem HLe.trans {a b c : Heap} (h : HLe a b) (h' : HLe b c) : HLe a c := fun _ _ _ _ g => h' _ _ _ _ (h _ _ _ _ g)
theorem NLe.trans {a b c : Option Lg} (h : NLe a b) (h' : NLe b c) : NLe a c := by
  cases h with
  | refl => exact h'
  | heap H H' h => cases h' with
    | refl => exact .heap _ _ h
    | heap _ H2 h2 => exact .heap _ _ (h.trans h2)
theorem LogLe.refl (l : Tr Lg) : LogLe l l := fun _ => .refl _
theorem LogLe.trans {a b c : Tr Lg} (h : LogLe a b) (h' : LogLe b c) : LogLe a c := fun i => (h i).trans (h' i)

theorem chk1_le {i : I} {v : Value} {e e' : Option Lg} (h : NLe e e') (hc : chk1 T i v e = true) : chk1 T i v e' = true := by
  cases h with
  | refl => exact hc
  | heap H H' h =>
    cases i <;> simp only [chk1] at hc ⊢ <;> (try (cases hc; done))
    case load a n x =>
      cases hq : H.loadv a n (x.ev T) with
      | none => rw [hq] at hc; cases hc
      | some u => rw [h _ _ _ _ hq]; rw [hq] at hc; exact hc

theorem chkOk_le {log log' : Tr Lg} (h : LogLe log log') {i : I} {v : Value} : ∀ {l : List Nat}, chkOk log T i v l = true → chkOk log' T i v l = true := by
  intro l
  induction l with
  | nil => intro _; rfl
  | cons c l ih =>
    intro hc
    simp only [chkOk, Bool.and_eq_true] at hc ⊢
    exact ⟨chk1_le (h c) hc.1, ih hc.2⟩

theorem evW_le {i : Ins} {H : Heap} {log log' : Tr Lg} (h : LogLe log log') {r : Value × Heap} (hw : evW cl b i ⟨T, H, log⟩ = some r) : evW cl b i ⟨T, H, log'⟩ = some r := by
  obtain ⟨v, H'⟩ := r
  rcases evW_some hw with ⟨h1, h2, h3⟩ | ⟨h1, rfl, rfl⟩
  · exact evW_of h1 h2 (chkOk_le h h3)
  · exact evW_not h1

/-- What an operation notes. -/
def noted (b : Nat) (i : Ins) (T : Tr Value) (H : Heap) : Option Lg := bif i.lg then (match i.wanted T with | some true => note b T H i.op | _ => none) else none
def setO (log : Tr Lg) (c : Nat) : Option Lg → Tr Lg
  | some e => log.set c e
  | none => log

theorem lg_eq (b : Nat) (i : Ins) (T : Tr Value) (H : Heap) (log : Tr Lg) : lg b i ⟨T, H, log⟩ = setO log i.idx (noted b i T H) := by
  unfold lg noted
  cases i.lg with
  | false => rfl
  | true =>
    simp only [cond_true]
    cases hw : i.wanted T with
    | none => rfl
    | some w =>
      cases w with
      | false => rfl
      | true =>
        cases hn : note b T H i.op with
        | none => rfl
        | some e => rfl

theorem get_setO (log : Tr Lg) (c : Nat) (e : Option Lg) (i : Nat) : (setO log c e).get i = if c = i then (match e with | some e => some e | none => log.get i) else log.get i := by
  cases e with
  | none => simp [setO]
  | some e => simp only [setO, Tr.get_set]

theorem setO_le {log log' : Tr Lg} (h : LogLe log log') (c : Nat) {e e' : Option Lg} (he : NLe e e') : LogLe (setO log c e) (setO log' c e') := by
  intro i
  rw [get_setO, get_setO]
  by_cases hc : c = i
  · rw [if_pos hc, if_pos hc]
    cases he with
    | refl e => cases e with
      | none => exact h i
      | some e => exact .refl _
    | heap H H' hh => exact .heap _ _ hh
  · rw [if_neg hc, if_neg hc]; exact h i

theorem setO_swap {log : Tr Lg} {c d : Nat} (hne : c ≠ d) {e e' f : Option Lg} (he : NLe e e') : LogLe (setO (setO log c e) d f) (setO (setO log d f) c e') := by
  intro i
  simp only [get_setO]
  by_cases h1 : c = i
  · subst h1
    rw [if_neg (fun e => hne e.symm), if_pos rfl, if_pos rfl, if_neg (fun e => hne e.symm)]
    cases he with
    | refl e => cases e <;> exact .refl _
    | heap H H' hh => exact .heap _ _ hh
  · rw [if_neg h1, if_neg h1]
    exact .refl _

theorem noted_call {i : Ins} {T : Tr Value} {H H' : Heap} (h : i.op.isCall = false) : noted b i T H = noted b i T H' := by
  unfold noted
  have : note b T H i.op = note b T H' i.op := by
    cases ho : i.op <;> first | rfl | (rw [ho] at h; simp [I.isCall] at h)
  rw [this]

theorem noted_le {i : Ins} {T : Tr Value} {H H' : Heap} (h : i.op.isCall = true → HLe H H') : NLe (noted b i T H) (noted b i T H') := by
  by_cases hc : i.op.isCall = true
  · unfold noted
    cases i.lg with
    | false => exact .refl _
    | true =>
      simp only [cond_true]
      split
      · cases ho : i.op <;> first
          | (rw [ho] at hc; simp [I.isCall] at hc; done)
          | exact .heap _ _ (h hc)
      · exact .refl _
  · rw [noted_call (H' := H') (by simpa using hc)]; exact .refl _

theorem noted_not {i : Ins} {T : Tr Value} {H : Heap} (h : i.wanted T = some false) : noted b i T H = none := by
  unfold noted
  rw [h]
  cases i.lg <;> rfl

theorem chkOk_skip {log : Tr Lg} {i : I} {v : Value} {c : Nat} {e : Option Lg} : ∀ {l : List Nat}, l.contains c = false → chkOk log T i v l = true → chkOk (setO log c e) T i v l = true := by
  intro l
  induction l with
  | nil => intro _ _; rfl
  | cons d l ih =>
    intro hn hc
    simp only [List.contains_cons, Bool.or_eq_false_iff, beq_eq_false_iff_ne, ne_eq] at hn
    simp only [chkOk, Bool.and_eq_true] at hc ⊢
    refine ⟨?_, ih hn.2 hc.2⟩
    rw [get_setO, if_neg hn.1]; exact hc.1

theorem chkOk_without {log : Tr Lg} {i : I} {v : Value} {y : Nat} {e : Option Lg} {l : List Nat} (h : chkOk (setO log y e) T i v l = true) : chkOk log T i v (l.filter fun c => c != y) = true := by
  cases e with
  | none => exact chkOk_filter _ h
  | some e => exact chkOk_less h

theorem chkOk_at {log : Tr Lg} {i : I} {v : Value} {y : Nat} {e : Lg} {l : List Nat} (h : chkOk (setO log y (some e)) T i v l = true) (hm : l.contains y = true) : chk1 T i v (some e) = true := chkOk_hit h hm

theorem le_put {H : Heap} {j : Nat} {o : Ob} (hj : H.get j = some .pend) : HLe H (H.put j o) := fun _ _ _ _ h => loadv_put h hj

theorem loadv_other {H : Heap} {agg : Bool} {n : Nat} {a v : Value} {j : Nat} {o : Ob} (h : H.loadv agg n a = some v) (hj : ∀ e ro cs, H.get j ≠ some (.cells e ro cs)) : (H.put j o).loadv agg n a = some v := by
  unfold Heap.loadv at h ⊢
  split at h
  case h_2 => cases h
  rename_i id off
  have hne : j ≠ id := by
    intro e; subst e
    split at h
    · rename_i e ro cs hg; exact hj _ _ _ hg
    · cases h
  simp only [Heap.get_put, if_neg hne]
  exact h

theorem loadv_apart {H : Heap} {agg : Bool} {n : Nat} {id off : Nat} {v : Value} {j : Nat} {o : Ob} (h : (H.put j o).loadv agg n (.pointer (some ⟨id, off, none⟩)) = some v) (hj : j ≠ id) : H.loadv agg n (.pointer (some ⟨id, off, none⟩)) = some v := by
  unfold Heap.loadv at h ⊢
  simp only [Heap.get_put, if_neg hj] at h
  exact h

/-- A load and a store apart from it. -/
theorem loadv_store {H H' : Heap} {agg : Bool} {n m : Nat} {id off id' off' : Nat} {v x : Value} (hl : H.loadv agg n (.pointer (some ⟨id, off, none⟩)) = some v)
    (hs : H.storev m (.pointer (some ⟨id', off', none⟩)) x = some H') (hd : id ≠ id' ∨ off + (if agg then n else 1) ≤ off' ∨ off' + m ≤ off) : H'.loadv agg n (.pointer (some ⟨id, off, none⟩)) = some v := by
  unfold Heap.storev at hs
  simp only at hs
  split at hs
  case h_2 => cases hs
  rename_i e cs hg
  split at hs
  case isFalse => cases hs
  rename_i hc
  obtain ⟨hsz, hok, hle⟩ := hc
  cases hs
  have hsz' : x.cells.toList.length = m := by simpa using hsz
  unfold Heap.loadv at hl ⊢
  simp only [Heap.get_put] at hl ⊢
  by_cases hid : id' = id
  · subst hid
    rw [if_pos rfl]
    rw [hg] at hl
    simp only at hl ⊢
    have hr : off' + x.cells.toList.length ≤ cs.length := by omega
    have hget := getElem?_setRange cs off' x.cells.toList hr
    have hlen := length_setRange cs off' x.cells.toList hr
    have hd' : off + (if agg then n else 1) ≤ off' ∨ off' + m ≤ off := by
      rcases hd with h | h
      · exact absurd rfl h
      · exact h
    cases agg with
    | true =>
      simp only [if_true] at hl hd' ⊢
      split at hl
      case isFalse => cases hl
      rename_i hle2
      rw [if_pos (by omega), ← hl]
      congr 3
      apply List.ext_getElem?
      intro i
      simp only [List.getElem?_take, List.getElem?_drop, hget]
      split
      · rw [if_neg (by omega)]
      · rfl
    | false =>
      simp only [Bool.false_eq_true, if_false] at hl hd' ⊢
      rw [hget, if_neg (by omega)]; exact hl
  · rw [if_neg hid]; exact hl

theorem note_new {i : I} (hc : i.cls = .E) {k : Nat} (hk : i.tgt = some k) (H : Heap) : note b T H i = some (.rng (b + k) 0 0) := by
  cases i <;> simp only [I.cls] at hc <;> (try (cases hc; done)) <;> simp only [I.tgt, Option.some.injEq] at hk <;> (try (subst hk; rfl))
  case append k e s by_ p x y => cases p <;> simp at hc

/-- The heap's side of an exchange. -/
theorem swapW (hcl : ClGood cl) {y x : Ins} {H H1 H2 : Heap} {log : Tr Lg} {vy vx : Value} (hc : comm y x = true) (hlt : ∀ k, x.op.tgt = some k → b + k < H.size)
    (hy : evW cl b y ⟨T, H, log⟩ = some (vy, H1)) (hx : evW cl b x ⟨T, H1, lg b y ⟨T, H, log⟩⟩ = some (vx, H2)) :
    ∃ H1', evW cl b (x.less y.idx) ⟨T, H, log⟩ = some (vx, H1') ∧ evW cl b y ⟨T, H1', lg b (x.less y.idx) ⟨T, H, log⟩⟩ = some (vy, H2) ∧
      noted b x T H1 = noted b x T H ∧ NLe (noted b y T H) (noted b y T H1') := by
  obtain ⟨⟨hne, hyx⟩, hd1, hd2, hcl'⟩ := comm_spec hc
  rw [lg_eq] at hx ⊢
  have nx : noted b (x.less y.idx) T H = noted b x T H := rfl
  have ix : (x.less y.idx).idx = x.idx := rfl
  rw [nx, ix]
  -- y's checks in the new log
  have ychk : ∀ {v : Value}, chkOk log T y.op v y.chk = true → chkOk (setO log x.idx (noted b x T H)) T y.op v y.chk = true := fun h => chkOk_skip hyx h
  have callC : ∀ {i : I}, i.isCall = true → i.cls = .C := by
    intro i h
    cases i <;> simp [I.isCall] at h
    rfl
  have notcall : ∀ {i : I}, i.cls ≠ .C → i.isCall = false := fun h => cls_call h
  rcases evW_some hx with ⟨hwx, hex, hcx⟩ | ⟨hwx, rfl, rfl⟩
  rotate_left
  · -- x is not wanted
    refine ⟨H, evW_not hwx, ?_, by rw [noted_not hwx, noted_not hwx], .refl _⟩
    rw [noted_not hwx]
    exact hy
  · have xchk : chkOk log T x.op vx (x.less y.idx).chk = true := chkOk_without hcx
    rcases evW_some hy with ⟨hwy, hey, hcy⟩ | ⟨hwy, rfl, rfl⟩
    rotate_left
    · -- y is not wanted
      exact ⟨H2, evW_of hwx hex xchk, evW_not hwy, rfl, by rw [noted_not hwy, noted_not hwy]; exact .refl _⟩
    · -- both are carried out
      have yle : ∀ {H' : Heap}, y.op.cls ≠ .C → NLe (noted b y T H) (noted b y T H') := fun h => by rw [noted_call (H' := _) (notcall h)]; exact .refl _
      rcases hcl' with hP | hP | ⟨hyL, hxL⟩ | ⟨hAL, htgt⟩ | ⟨hyC, hxE⟩ | ⟨hyCE, hxL, hlg, hin⟩ | ⟨hyL, hxW, hlg, hst, hin⟩ | ⟨hyL, hxV⟩
      · -- y of class P
        obtain ⟨rfl, hany⟩ := evI_P hP hey
        exact ⟨H2, evW_of hwx hex xchk, evW_of hwy (hany _) (ychk hcy), rfl, yle (by rw [hP]; simp)⟩
      · -- x of class P
        obtain ⟨rfl, hany⟩ := evI_P hP hex
        exact ⟨H, evW_of hwx (hany _) xchk, evW_of hwy hey (ychk hcy), noted_call (notcall (by rw [hP]; simp)), .refl _⟩
      · -- two that read
        have e1 : H1 = H := by
          rcases hyL with h | h
          · obtain ⟨a, n, z, ey⟩ := cls_load h
            rw [ey] at hey; exact (evI_L hey).1
          · exact (evI_M h hey).1
        subst e1
        have e2 : H2 = H1 := by
          rcases hxL with h | h
          · obtain ⟨a, n, z, ex⟩ := cls_load h
            rw [ex] at hex; exact (evI_L hex).1
          · exact (evI_M h hex).1
        subst e2
        exact ⟨H2, evW_of hwx hex xchk, evW_of hwy hey (ychk hcy), rfl, .refl _⟩
      · rcases hAL with ⟨hyL, hx3⟩ | ⟨hyE, hxE⟩
        · -- y reads, x makes something
          have hync : y.op.cls ≠ .C := by rcases hyL with h | h <;> rw [h] <;> simp
          have hy2 : H1 = H ∧ ∀ j o, H.get j = some .pend → evI cl b T (H.put j o) y.op = some (vy, H.put j o) := by
            rcases hyL with h | h
            · obtain ⟨a, n, z, ey⟩ := cls_load h
              rw [ey] at hey ⊢; exact evI_L hey
            · exact evI_M h hey
          obtain ⟨rfl, hany⟩ := hy2
          refine ⟨H2, evW_of hwx hex xchk, ?_, rfl, yle hync⟩
          refine evW_of hwy ?_ (ychk hcy)
          rcases hx3 with h | h
          · obtain ⟨k, ob, _, g2, rfl, _⟩ := evI_E h hex
            exact hany _ _ g2
          · obtain ⟨k, e, s, by_, p, q, ex⟩ := cls_ea h
            rw [ex] at hex
            rcases evI_Ea hex with ⟨rfl, _⟩ | ⟨ob, g1, rfl, _⟩
            · exact hey
            · exact hany _ _ g1
        · -- x makes something whatever the heap holds
          have hync : y.op.cls ≠ .C := by rcases hyE with h | h <;> rw [h] <;> simp
          obtain ⟨kx, obx, tx, gx, rfl, hanyx⟩ := evI_E hxE hex
          have hkne : ∀ k, y.op.tgt = some k → b + k ≠ b + kx := by
            intro k hk e
            rcases htgt with h | h
            · rw [hk] at h; cases h
            · rw [hk, tx] at h; exact h (by rw [show k = kx by omega])
          rcases hyE with h | h
          · obtain ⟨ky, oby, ty, gy, rfl, hanyy⟩ := evI_E h hey
            have hne' := hkne ky ty
            have gx' : H.get (b + kx) = some .pend := by rw [Heap.get_put, if_neg hne'] at gx; exact gx
            refine ⟨H.put (b + kx) obx, evW_of hwx (hanyx H gx') xchk, ?_, noted_call (notcall (by rw [hxE]; simp)), yle hync⟩
            rw [Heap.put_comm _ _ _ _ _ (fun e => hne' e.symm)]
            exact evW_of hwy (hanyy _ (by rw [Heap.get_put, if_neg (fun e => hne' e.symm)]; exact gy)) (ychk hcy)
          · obtain ⟨ky, e, s, by_, p, q, ey⟩ := cls_ea h
            have hne' := hkne ky (by rw [ey]; rfl)
            rw [ey] at hey
            rcases evI_Ea hey with ⟨rfl, hanyy⟩ | ⟨oby, gy, rfl, hanyy⟩
            · refine ⟨H1.put (b + kx) obx, evW_of hwx (hanyx _ gx) xchk, ?_, rfl, yle hync⟩
              refine evW_of hwy ?_ (ychk hcy)
              rw [ey]
              exact hanyy _ _ gx (fun e => hne' e.symm)
            · have gx' : H.get (b + kx) = some .pend := by rw [Heap.get_put, if_neg hne'] at gx; exact gx
              refine ⟨H.put (b + kx) obx, evW_of hwx (hanyx H gx') xchk, ?_, noted_call (notcall (by rw [hxE]; simp)), yle hync⟩
              rw [Heap.put_comm _ _ _ _ _ (fun e => hne' e.symm)]
              refine evW_of hwy ?_ (ychk hcy)
              rw [ey]
              exact hanyy _ _ gx' (fun e => hne' e.symm)
      · -- a call, then something new
        obtain ⟨kx, obx, tx, gx, rfl, hanyx⟩ := evI_E hxE hex
        have hl := hlt kx tx
        cases ho : y.op <;> rw [ho] at hyC <;> simp [I.cls] at hyC
        case append k e s by_ p x y => cases p <;> simp at hyC
        case call f args =>
          have hey0 := hey
          rw [ho] at hey
          simp only [evI] at hey
          split at hey
          case h_2 => cases hey
          rename_i g first captured hf
          have gx0 : H.get (b + kx) = some .pend := hcl.back _ _ _ _ _ _ hey hl gx
          obtain ⟨_, g2⟩ := hcl.put _ _ _ _ _ (b + kx) obx hey gx0 hl
          refine ⟨H.put (b + kx) obx, evW_of hwx (hanyx H gx0) xchk, evW_of hwy ?_ (ychk hcy), noted_call (notcall (by rw [hxE]; simp)), noted_le fun _ => le_put gx0⟩
          rw [ho]
          simp only [evI, hf]
          exact g2
      · -- a call or something new, then a load that was looked at again
        have hxnc : x.op.cls ≠ .C := by rw [hxL]; simp
        obtain ⟨a, n, z, ex⟩ := cls_load hxL
        have hH2 : H2 = H1 := by rw [ex] at hex; exact (evI_L hex).1
        subst hH2
        have hnoted : ∀ e, note b T H y.op = some e → noted b y T H = some e := by
          intro e he
          unfold noted
          rw [hlg, hwy]; exact he
        have key : H.loadv a n (z.ev T) = some vx := by
          rcases hyCE with hyC | hyE
          · have hnt : note b T H y.op = some (.heap H) := by
              cases ho : y.op <;> rw [ho] at hyC <;> simp [I.cls] at hyC
              case append k e s by_ p x y => cases p <;> simp at hyC
              rfl
            rw [hnoted _ hnt] at hcx
            have := chkOk_at hcx hin
            rw [ex] at this
            simp only [chk1] at this
            split at this
            · rename_i u hu; rw [hu, veq_eq this]
            · cases this
          · obtain ⟨ky, oby, ty, gy, rfl, _⟩ := evI_E hyE hey
            rw [hnoted _ (note_new hyE ty H)] at hcx
            have := chkOk_at hcx hin
            rw [ex] at this hex
            simp only [chk1] at this
            split at this
            case h_2 => cases this
            rename_i id' off' ha
            simp only [evI] at hex
            obtain ⟨h1, _⟩ := map_pair hex
            rw [ha] at h1 ⊢
            exact loadv_apart h1 (by simpa using this)
        refine ⟨H, evW_of hwx ?_ xchk, evW_of hwy hey (ychk hcy), noted_call (notcall hxnc), .refl _⟩
        show evI cl b T H x.op = some (vx, H)
        rw [ex]; simp only [evI, key]; rfl
      · -- a load, then a store that is apart from it
        obtain ⟨a, n, z, ey⟩ := cls_load hyL
        obtain ⟨m, p, q, ex⟩ := cls_store hst
        have hync : y.op.cls ≠ .C := by rw [hyL]; simp
        have hey0 := hey
        rw [ey] at hey
        obtain ⟨rfl, _⟩ := evI_L hey
        simp only [evI] at hey
        obtain ⟨hload, _⟩ := map_pair hey
        have haddr : ∃ id off, z.ev T = .pointer (some ⟨id, off, none⟩) := by
          unfold Heap.loadv at hload
          split at hload
          case h_2 => cases hload
          rename_i id off hz
          exact ⟨id, off, hz⟩
        obtain ⟨id, off, hz⟩ := haddr
        have hnt : noted b y T H1 = some (.rng id off (if a then n else 1)) := by
          unfold noted
          rw [hlg, hwy, ey]
          simp only [cond_true, note, hz]
        rw [hnt] at hcx
        have hck := chkOk_at hcx hin
        have hex0 := hex
        rw [ex] at hck hex
        simp only [evI] at hex
        cases hs : H1.storev m (p.ev T) (q.ev T) with
        | none => rw [hs] at hex; cases hex
        | some H3 =>
          rw [hs] at hex; cases hex
          simp only [chk1] at hck
          split at hck
          case h_2 => cases hck
          rename_i id' off' hp
          rw [hp] at hs
          rw [hz] at hload
          have := loadv_store hload hs (by
            simp only [Bool.or_eq_true, bne_iff_ne, ne_eq, Nat.ble_eq] at hck
            rcases hck with (h | h) | h
            · exact .inl h
            · exact .inr (.inl h)
            · exact .inr (.inr h))
          refine ⟨H2, evW_of hwx hex0 xchk, evW_of hwy ?_ (ychk hcy), rfl, yle hync⟩
          rw [ey]
          simp only [evI, hz, this]
          rfl
      · -- a load, then a map is written
        obtain ⟨a, n, z, ey⟩ := cls_load hyL
        have hync : y.op.cls ≠ .C := by rw [hyL]; simp
        rw [ey] at hey
        obtain ⟨rfl, _⟩ := evI_L hey
        simp only [evI] at hey
        obtain ⟨hload, _⟩ := map_pair hey
        refine ⟨H2, evW_of hwx hex xchk, evW_of hwy ?_ (ychk hcy), rfl, yle hync⟩
        rw [ey]
        rcases evI_V hxV hex with rfl | ⟨id, es, c, es', c', hg, rfl⟩
        · simp only [evI, hload]; rfl
        · have := loadv_other (o := .map es' c') hload (j := id) (fun e ro cs h => by rw [hg] at h; cases h)
          simp only [evI, this]; rfl

theorem evIns_some {i : Ins} {s s' : St} (h : evIns cl b i s = some s') : ∃ v H, evW cl b i s = some (v, H) ∧ s' = ⟨putT s.T i.dst v, H, lg b i s⟩ := by
  unfold evIns at h
  split at h
  · rename_i v H e; cases h; exact ⟨v, H, e, rfl⟩
  · cases h

theorem evIns_le {i : Ins} {H : Heap} {log log' : Tr Lg} (h : LogLe log log') {s : St} (hs : evIns cl b i ⟨T, H, log⟩ = some s) : ∃ l2, evIns cl b i ⟨T, H, log'⟩ = some ⟨s.T, s.H, l2⟩ ∧ LogLe s.log l2 := by
  obtain ⟨v, H', hw, rfl⟩ := evIns_some hs
  refine ⟨lg b i ⟨T, H, log'⟩, by simp only [evIns, evW_le h hw], ?_⟩
  simp only [lg_eq]
  exact setO_le h _ (.refl _)

theorem evSeq_le {l : List Ins} : ∀ {T : Tr Value} {H : Heap} {log log' : Tr Lg} (_ : LogLe log log') {s : St} (_ : evSeq cl b l ⟨T, H, log⟩ = some s), ∃ l2, evSeq cl b l ⟨T, H, log'⟩ = some ⟨s.T, s.H, l2⟩ := by
  induction l with
  | nil => intro T H log log' h s hs; simp only [evSeq] at hs ⊢; cases hs; exact ⟨_, rfl⟩
  | cons i l ih =>
    intro T H log log' h s hs
    simp only [evSeq] at hs ⊢
    cases he : evIns cl b i ⟨T, H, log⟩ with
    | none => rw [he] at hs; cases hs
    | some s1 =>
      rw [he] at hs
      obtain ⟨l2, g1, g2⟩ := evIns_le h he
      rw [g1]
      exact ih g2 hs

theorem swap (hcl : ClGood cl) {y x : Ins} {s s1 s2 : St} (hc : comm y x = true) (hlt : ∀ k, x.op.tgt = some k → b + k < s.H.size) (hy : evIns cl b y s = some s1) (hx : evIns cl b x s1 = some s2) :
    ∃ s1' s2', evIns cl b (x.less y.idx) s = some s1' ∧ evIns cl b y s1' = some s2' ∧ s2'.T = s2.T ∧ s2'.H = s2.H ∧ LogLe s2.log s2'.log := by
  obtain ⟨⟨hne, _⟩, hd1, hd2, _⟩ := comm_spec hc
  obtain ⟨vy, H1, ey, rfl⟩ := evIns_some hy
  obtain ⟨vx, H2, ex, rfl⟩ := evIns_some hx
  obtain ⟨T, H, log⟩ := s
  simp only at ey ex hlt ⊢
  rw [evW_put cl b x T H1 _ y.dst vy (fun t ht => (hd1 t ht).1)] at ex
  obtain ⟨H1', k1, k2, k3, k4⟩ := swapW hcl hc hlt ey ex
  have k2' := k2
  rw [← evW_put cl b y T H1' _ x.dst vx hd2] at k2'
  refine ⟨⟨putT T x.dst vx, H1', lg b (x.less y.idx) ⟨T, H, log⟩⟩, ⟨putT (putT T x.dst vx) y.dst vy, H2, lg b y ⟨putT T x.dst vx, H1', lg b (x.less y.idx) ⟨T, H, log⟩⟩⟩, ?_, ?_, ?_, rfl, ?_⟩
  · simp only [evIns, k1]
    rfl
  · simp only [evIns, k2']
  · exact (putT_comm T vy vx (fun d hd => (hd1 d hd).2)).symm
  · simp only
    rw [lg_put b x T H1 _ y.dst vy (fun t ht => (hd1 t ht).1), lg_put b y T H1' _ x.dst vx hd2]
    simp only [lg_eq]
    have nx : noted b (x.less y.idx) T H = noted b x T H := rfl
    have ix : (x.less y.idx).idx = x.idx := rfl
    rw [nx, ix, k3]
    exact setO_swap hne k4

def Ins.lessAll (x : Ins) : List Ins → Ins
  | [] => x
  | y :: l => (x.lessAll l).less y.idx

theorem lessAll_fields (x : Ins) : ∀ l : List Ins, (x.lessAll l).idx = x.idx ∧ (x.lessAll l).dst = x.dst ∧ (x.lessAll l).guard = x.guard ∧ (x.lessAll l).op = x.op
  | [] => ⟨rfl, rfl, rfl, rfl⟩
  | y :: l => lessAll_fields x l

theorem comm_lessAll {y x : Ins} : ∀ {l : List Ins}, (∀ z ∈ l, z.idx ≠ y.idx) → comm y x = true → comm y (x.lessAll l) = true := by
  intro l
  induction l with
  | nil => intro _ h; exact h
  | cons z l ih =>
    intro hz h
    have h1 := ih (fun u hu => hz u (List.mem_cons_of_mem _ hu)) h
    have hzy := hz z (List.mem_cons_self ..)
    unfold comm at h1 ⊢
    simp only [Ins.lessAll, Ins.less, Bool.and_eq_true] at h1 ⊢
    refine ⟨⟨⟨h1.1.1.1, h1.1.1.2⟩, h1.1.2⟩, ?_⟩
    have h2 := h1.2
    have hf : ((x.lessAll l).chk.filter fun c => c != z.idx).contains y.idx = (x.lessAll l).chk.contains y.idx := by
      rw [Bool.eq_iff_iff]
      simp only [List.contains_iff_mem, List.mem_filter, bne_iff_ne, ne_eq, and_iff_left_iff_imp]
      intro _ e
      exact hzy e.symm
    split at h2 <;> simp_all

/-- Any operation that may be exchanged with all before it can be taken first. -/
theorem bubble (hcl : ClGood cl) {x : Ins} {l2 : List Ins} : ∀ (l1 : List Ins) (s fin : St), (∀ y ∈ l1, comm y x = true) → (l1.map (·.idx)).Nodup → (∀ k, x.op.tgt = some k → b + k < s.H.size) → evSeq cl b (l1 ++ x :: l2) s = some fin →
    ∃ s1 fin', evIns cl b (x.lessAll l1) s = some s1 ∧ evSeq cl b (l1 ++ l2) s1 = some fin' ∧ fin'.T = fin.T ∧ fin'.H = fin.H := by
  intro l1
  induction l1 with
  | nil =>
    intro s fin _ _ _ h
    simp only [List.nil_append, evSeq] at h
    split at h
    · rename_i s1 e; exact ⟨s1, fin, e, h, rfl, rfl⟩
    · cases h
  | cons y l1 ih =>
    intro s fin hc hn hlt h
    simp only [List.cons_append, evSeq] at h
    split at h
    case h_2 => cases h
    rename_i s1 e
    simp only [List.map_cons, List.nodup_cons] at hn
    have hsz : s.H.size ≤ s1.H.size := by
      obtain ⟨v, H, hev, rfl⟩ := evIns_some e
      rcases evW_some hev with ⟨_, hex, _⟩ | ⟨_, _, rfl⟩
      · exact evI_size hcl.size hex
      · exact Nat.le_refl _
    obtain ⟨s2, fin2, g1, g2, g3, g4⟩ := ih s1 fin (fun z hz => hc z (List.mem_cons_of_mem _ hz)) hn.2 (fun k hk => Nat.lt_of_lt_of_le (hlt k hk) hsz) h
    have hcy : comm y (x.lessAll l1) = true := comm_lessAll (fun z hz e => hn.1 (by rw [← e]; exact List.mem_map_of_mem hz)) (hc y (List.mem_cons_self ..))
    obtain ⟨s1', s2', k1, k2, k3, k4, k5⟩ := swap hcl hcy (fun k hk => hlt k (by rw [(lessAll_fields x l1).2.2.2] at hk; exact hk)) e g1
    obtain ⟨T2, H2, log2⟩ := s2
    obtain ⟨T2', H2', log2'⟩ := s2'
    simp only at k3 k4 k5
    subst k3 k4
    obtain ⟨l3, q⟩ := evSeq_le k5 g2
    exact ⟨s1', ⟨fin2.T, fin2.H, l3⟩, k1, by simp only [List.cons_append, evSeq, k2]; exact q, g3, g4⟩

end Go.Proofs.YtiphbdhclldllaaGreatDoor.Mx
