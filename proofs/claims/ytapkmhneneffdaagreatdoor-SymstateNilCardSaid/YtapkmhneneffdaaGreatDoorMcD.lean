/- A part of the proof that the law answers true at every input: the texts ZaeN, ZaeO, ZafA, ZahA, ZahB; no conditions. -/
import Derived.Test.YtapkmhneneffdaaGreatDoorMcC
set_option linter.unusedSimpArgs false
set_option linter.unusedVariables false
set_option linter.constructorNameAsVariable false

/-! The text ZaeN. -/
namespace Go.Proofs.YtapkmhneneffdaaGreatDoor.M3
open Go Go.Proofs.YtapkmhneneffdaaGreatDoor.Mx

def erΓ (Γ : Nat → Option Fn3) : Nat → Option FnI := fun g => (Γ g).map Fn3.er

section
variable {α α' : Al} {Φ Φ' : Fz} {X X' : Hp} {H H' : Heap}

theorem ofList_R {vs : List V} {us : List Value} (h : Rs α Φ vs us) : TR3 α Φ (Tr.ofList vs 0 .nil) (Tr.ofList us 0 .nil) := fun t => by
  simp only [rd3, rd, get_ofList]
  by_cases ht : t < vs.length
  · have ht2 : t < us.length := by rw [← h.1]; exact ht
    rw [if_pos (by omega), if_pos (by omega)]
    simp only [Nat.sub_zero]
    have e1 : vs[t]? = some vs[t] := List.getElem?_eq_getElem ht
    have e2 : us[t]? = some us[t] := List.getElem?_eq_getElem ht2
    rw [e1, e2]
    exact h.get e1 e2
  · rw [if_neg (by omega)]
    exact .junk _

theorem res3_R {T : Fr} {T2 : Tr Value} (I : HInv α Φ X H) (hT : TR3 α Φ T T2) : ∀ {rs : List Res} {vs : List V}, res3 T X rs = some vs → ∃ us, evRes T2 H rs = some us ∧ Rs α Φ vs us
  | [], vs, h => by cases h; exact ⟨[], rfl, Rs.nil _ _⟩
  | .tmp t :: rs, vs, h => by
    simp only [res3] at h
    obtain ⟨ws, h1, h2⟩ := bnd_some h
    cases h2
    obtain ⟨us, k1, k2⟩ := res3_R I hT h1
    exact ⟨_, by simp only [evRes, k1]; rfl, Rs.cons (hT t) k2⟩
  | .cell t agg n :: rs, vs, h => by
    simp only [res3] at h
    obtain ⟨v, h0, h⟩ := bnd_some h
    obtain ⟨ws, h1, h2⟩ := bnd_some h
    cases h2
    obtain ⟨us, k1, k2⟩ := res3_R I hT h1
    obtain ⟨u, e1, e2⟩ := load3_R I h0 (hT t)
    exact ⟨_, by simp only [evRes, k1, e1], Rs.cons e2 k2⟩

theorem pack_R {vs : List V} {us : List Value} (hn : vs.all nj = true) (h : Rs α Φ vs us) : R α Φ (pack3 vs) (packRes us) ∧ isPan (packRes us) = none := by
  have many : vs.length ≠ 1 → R α Φ (pack3 vs) (packRes us) ∧ isPan (packRes us) = none := fun hl => by
    have e1 : pack3 vs = .tup vs := by
      cases vs with
      | nil => rfl
      | cons a l => cases l with
        | nil => simp at hl
        | cons b l => rfl
    have e2 : packRes us = .tuple us.toArray := by
      have hl2 : us.length ≠ 1 := by rw [← h.1]; exact hl
      cases us with
      | nil => rfl
      | cons a l => cases l with
        | nil => simp at hl2
        | cons b l => rfl
    rw [e1, e2]
    have hr : R α Φ (.tup vs) (.tuple us.toArray) := .tup' (by simpa using h)
    exact ⟨hr, hr.noPan (fun e => by cases e) (fun l e => by cases e; exact hn) (fun x e => by cases e)⟩
  cases vs with
  | nil => exact many (by simp)
  | cons v l =>
    cases l with
    | cons b l => exact many (by simp)
    | nil =>
      cases us with
      | nil => have := h.1; simp at this
      | cons u us =>
        cases us with
        | cons _ _ => have := h.1; simp at this
        | nil =>
          simp only [List.all_cons, List.all_nil, Bool.and_true] at hn
          have hr := h.uncons.1
          refine ⟨hr, hr.noPan (fun e => ?_) (fun l e => ?_) (fun x e => ?_)⟩ <;> (subst e; simp [nj] at hn)

theorem pack3_pan {vs : List V} (hn : vs.all nj = true) (x : V) : pack3 vs ≠ .pan x := fun e => by
  unfold pack3 at e
  split at e
  · subst e; simp [nj] at hn
  · cases e

theorem ands_some {a : Bool} {γ : Type} {x : Option γ} {r : γ} (h : ands a x = some r) : a = true ∧ x = some r := by
  unfold ands at h
  cases a with
  | true => exact ⟨rfl, h⟩
  | false => cases h

/-- From a point on. -/
theorem pinv_nx (I : HInv α Φ X H) : PInv (fun α' Φ' X' H' => NxT H.size α Φ X H α' Φ' X' H') none Φ :=
  ⟨fun h => h.inv, fun h => h.lf, fun h g => h.trans (g.mono h.sz), fun _ h => by cases h⟩

variable {P : Al → Fz → Hp → Heap → Prop} {rs : Option Nat} {Φ0 : Fz} {G : Gl} {cl : Cl3} {cl2 : Nat → List Value → Heap → Option (Value × Heap)} {Γ : Nat → Option Fn3}

theorem dfr3_sim (hcl : ClS G cl cl2) (hok : ∀ f fn, Γ f = some fn → fn.ok = true) {n : Nat} {Q : Type} {κ : Hp → Option Q} {r : Q} {c pv : V} {c2 pv2 : Value} (h : evD3 G cl (iter3 none n) Γ c pv X κ = some r) (I : HInv α Φ X H) (hG : GlOk G Φ) (hc : R α Φ c c2) (hpv : R α Φ pv pv2) :
    ∃ X' H' α' Φ', κ X' = some r ∧ evD (erΓ Γ) cl2 n c2 pv2 H = some H' ∧ NxT H.size α Φ X H α' Φ' X' H' := by
  unfold evD3 at h
  split at h
  case h_2 => cases h
  rename_i g first cap
  split at h
  case h_2 => cases h
  rename_i gn hg
  split at h
  case h_2 => cases h
  rename_i d h1 h2 h3
  obtain ⟨f', c', rfl, r1, r2⟩ := hc.inv_fn
  have hT : TR3 α Φ ((evD3.ofL (first ++ cap) 0).set d pv) ((Tr.ofList (f'.toList ++ c'.toList) 0 .nil).set d pv2) := TR3.put (d := some d) (ofList_R (r1.append r2)) hpv
  have ok := hok g gn hg
  simp only [Fn3.ok, Bool.and_eq_true] at ok
  obtain ⟨e, T', X', e2, T2', H', α', Φ', k1, k2, k3, k4, k5⟩ := code_sim (pinv_nx I) hcl hG n gn.body _ r _ X α Φ _ H ok.1 h (NxT.refl I) hT
  have hd : (erΓ Γ) g = some gn.er := by simp only [erΓ, hg, Option.map_some]
  cases e with
  | normal =>
    cases e2 <;> simp only [ExR] at k5
    refine ⟨X', H', α', Φ', k1, ?_, k3⟩
    simp only [evD, hd, Fn3.er, h1, h2, h3, Option.map_none, k2]
  | ret =>
    cases e2 <;> simp only [ExR] at k5
    refine ⟨X', H', α', Φ', k1, ?_, k3⟩
    simp only [evD, hd, Fn3.er, h1, h2, h3, Option.map_none, k2]
  | exit i => cases k1
  | pan v => cases k1

theorem body_sim (hP : PInv P rs Φ0) (hcl : ClS G cl cl2) (hG : GlOk G Φ0) (hok : ∀ f fn, Γ f = some fn → fn.ok = true) {n f : Nat} {args : List V} {as2 : List Value} {v : V} (h : evB3 G cl (iter3 rs n) (iter3 none n) Γ f args X = some (v, X')) (hp : P α Φ X H) (hr : Rs α Φ args as2) :
    ∃ u H' α' Φ', evB (erΓ Γ) cl2 n f as2 H = some (u, H') ∧ P α' Φ' X' H' ∧ R α' Φ' v u ∧ ((∀ x, v ≠ .pan x) → isPan u = none) := by
  unfold evB3 at h
  split at h
  case h_1 => cases h
  rename_i fn hfn
  split at h
  case h_1 => cases h
  rename_i hrecv
  have ok := hok f fn hfn
  simp only [Fn3.ok, Bool.and_eq_true] at ok
  have hd : (erΓ Γ) f = some fn.er := by simp only [erΓ, hfn, Option.map_some]
  have hT := ofList_R hr
  have fin : ∀ {T : Fr} {T2 : Tr Value} {X1 : Hp} {H1 : Heap} {α1 : Al} {Φ1 : Fz}, (bnd (res3 T X1 fn.res) fun vs => ands (vs.all nj) (some (pack3 vs, X1))) = some (v, X') → P α1 Φ1 X1 H1 → TR3 α1 Φ1 T T2 →
      ∃ u, evR fn.res T2 H1 = some (u, H1) ∧ P α1 Φ1 X' H1 ∧ R α1 Φ1 v u ∧ ((∀ x, v ≠ .pan x) → isPan u = none) := by
    intro T T2 X1 H1 α1 Φ1 h hp hT
    obtain ⟨vs, h1, h2⟩ := bnd_some h
    obtain ⟨h3, h4⟩ := ands_some h2
    cases h4
    obtain ⟨us, k1, k2⟩ := res3_R (hP.hi hp) hT h1
    obtain ⟨p1, p2⟩ := pack_R h3 k2
    exact ⟨packRes us, by simp only [evR, k1, Option.map_some], hp, p1, fun _ => p2⟩
  split at h
  · rename_i hdfr
    obtain ⟨e, T', X1, e2, T2', H', α', Φ', k1, k2, k3, k4, k5⟩ := code_sim hP hcl hG n fn.body _ _ _ X α Φ _ H ok.1 h hp hT
    cases e with
    | normal =>
      cases e2 <;> simp only [ExR] at k5
      obtain ⟨u, j1, j2, j3, j4⟩ := fin k1 k3 k4
      exact ⟨u, H', α', Φ', by simp only [evB, hd, Fn3.er, hrecv, hdfr, Option.map_none, k2, j1], j2, j3, j4⟩
    | ret =>
      cases e2 <;> simp only [ExR] at k5
      obtain ⟨u, j1, j2, j3, j4⟩ := fin k1 k3 k4
      exact ⟨u, H', α', Φ', by simp only [evB, hd, Fn3.er, hrecv, hdfr, Option.map_none, k2, j1], j2, j3, j4⟩
    | pan w =>
      cases e2 with
      | pan y =>
        simp only [ExR] at k5
        cases k1
        exact ⟨Mx.pan y, H', α', Φ', by simp only [evB, hd, Fn3.er, hrecv, hdfr, Option.map_none, k2], k3, .pan _ _ k5, fun hx => absurd rfl (hx _)⟩
      | _ => simp only [ExR] at k5
    | exit i => cases k1
  · rename_i c rest hdfr
    rw [hdfr] at ok
    obtain ⟨e, T1, X1, e2, T21, H1, α1, Φ1, k1, k2, k3, k4, k5⟩ := code_sim hP hcl hG n fn.body _ _ _ X α Φ _ H ok.1 h hp hT
    cases e with
    | normal =>
      cases e2 <;> simp only [ExR] at k5
      have hG1 := hG.mono (hP.le k3)
      have hc := ev3_R hG1 k4 c
      have I1 := hP.hi k3
      obtain ⟨e, T2', X2, e2, T22, H2, α2, Φ2, j1, j2, j3, j4, j5⟩ := code_sim (pinv_nx I1) hcl hG1 n rest _ _ T1 X1 α1 Φ1 T21 H1 ok.2 k1 (NxT.refl I1) k4
      have hc2 := hc.mono j3.la j3.lf
      have key : ∀ (pv : V) (pv2 : Value), R α2 Φ2 pv pv2 → (evD3 G cl (iter3 none n) Γ (ev3 G T1 c) pv X2 fun H => bnd (res3 T2' H fn.res) fun vs => ands (vs.all nj) (some (pack3 vs, H))) = some (v, X') →
          ∃ u H' α' Φ', (match evD (erΓ Γ) cl2 n (c.ev T21) pv2 H2 with | some H => evR fn.res T22 H | none => none) = some (u, H') ∧ P α' Φ' X' H' ∧ R α' Φ' v u ∧ ((∀ x, v ≠ .pan x) → isPan u = none) := by
        intro pv pv2 hpv hq
        obtain ⟨X3, H3, α3, Φ3, i1, i2, i3⟩ := dfr3_sim hcl hok hq j3.inv (hG1.mono j3.lf) hc2 hpv
        obtain ⟨u, y1, y2, y3, y4⟩ := fin i1 (hP.nx (hP.nx k3 j3) i3) (j4.mono i3.la i3.lf)
        exact ⟨u, H3, α3, Φ3, by rw [i2]; exact y1, y2, y3, y4⟩
      cases e with
      | normal =>
        cases e2 <;> simp only [ExR] at j5
        obtain ⟨u, H', α', Φ', y1, y2, y3, y4⟩ := key .ni .nilIface (.con .ni) j1
        exact ⟨u, H', α', Φ', by simp only [evB, hd, Fn3.er, hrecv, hdfr, Option.map_some, k2, j2]; exact y1, y2, y3, y4⟩
      | ret =>
        cases e2 <;> simp only [ExR] at j5
        obtain ⟨u, H', α', Φ', y1, y2, y3, y4⟩ := key .ni .nilIface (.con .ni) j1
        exact ⟨u, H', α', Φ', by simp only [evB, hd, Fn3.er, hrecv, hdfr, Option.map_some, k2, j2]; exact y1, y2, y3, y4⟩
      | pan w =>
        cases e2 with
        | pan y =>
          simp only [ExR] at j5
          obtain ⟨u, H', α', Φ', y1, y2, y3, y4⟩ := key w y j5 j1
          exact ⟨u, H', α', Φ', by simp only [evB, hd, Fn3.er, hrecv, hdfr, Option.map_some, k2, j2]; exact y1, y2, y3, y4⟩
        | _ => simp only [ExR] at j5
      | exit i => cases j1
    | ret => cases k1
    | pan w => cases k1
    | exit i => cases k1


/-! ### calls -/
/-- What a function that leaves memory as it is does to the second machine's heap. -/
structure PureS (Φ : Fz) (H : Heap) (v : V) (u : Value) (Φ' : Fz) (H' : Heap) : Prop where
  sz : H.size ≤ H'.size
  lf : Φ.le Φ'
  keep : ∀ o, o < H.size → H'.get o = H.get o
  nf : ∀ o x, Φ' o = some x → Φ o = some x ∨ H.size ≤ o
  fr : ∀ o x, Φ' o = some x → H'.get o = some x ∧ o < H'.size ∧ x ≠ .pend
  r : R (fun _ => none) Φ' v u
  np : (∀ x, v ≠ .pan x) → isPan u = none

/-- What a function does that runs on the objects that its arguments reach. -/
structure LS (α : Al) (Φ : Fz) (X : Hp) (H : Heap) (α' : Al) (Φ' : Fz) (X' : Hp) (H' : Heap) : Prop where
  inv : HInv α' Φ' X' H'
  lf : Φ.le Φ'
  sz : H.size ≤ H'.size
  keep : ∀ o, o < H.size → ¬ Live α X o → H'.get o = H.get o
  lv : ∀ o, Live α' X' o → Live α X o ∨ H.size ≤ o
  nf : ∀ o x, Φ' o = some x → Φ o = some x ∨ Live α X o ∨ H.size ≤ o
  st : ∀ j, j < X.obs.length → α' j = α j

structure FnS (G : Gl) (pu : Nat → Bool) (w : Cl3) (cl2 : Nat → List Value → Heap → Option (Value × Heap)) : Prop where
  pure : ∀ f as v X', pu f = true → w f as .emp = some (v, X') → ∀ Φ H as2, HInv noα Φ .emp H → GlOk G Φ → Rs noα Φ as as2 → ∃ u H' Φ', cl2 f as2 H = some (u, H') ∧ PureS Φ H v u Φ' H'
  imp : ∀ f as X v X', pu f = false → w f as X = some (v, X') → ∀ α Φ H as2, HInv α Φ X H → GlOk G Φ → Rs α Φ as as2 → (∀ j, j < X.obs.length → ∃ L, α j = some L) →
    ∃ u H' α' Φ', cl2 f as2 H = some (u, H') ∧ LS α Φ X H α' Φ' X' H' ∧ R α' Φ' v u ∧ ((∀ x, v ≠ .pan x) → isPan u = none)

theorem emp_inv (I : HInv α Φ X H) : HInv noα Φ .emp H :=
  ⟨I.fr, I.fz, (fun st L h => by cases h), (fun slot st ob h => by simp [Hp.emp] at h), (fun s s' st st' ob ob' L L' h => by simp [Hp.emp] at h)⟩

theorem RCs.noα {us : List Value} {vs : List V} (h : RCs Φ vs us) : Rs noα Φ vs us := h.con _

theorem R_noα {v : V} {u : Value} (h : R noα Φ v u) : R α Φ v u := h.mono (fun _ _ h => by cases h) (Fz.le_refl _)

/-! ### the objects that arguments reach -/
theorem idxL_some : ∀ {S : List Nat} {n i : Nat}, idxL n S = some i → S[i]? = some n
  | [], n, i, h => by cases h
  | x :: S, n, i, h => by
    simp only [idxL] at h
    cases e : Nat.beq x n with
    | true => rw [e] at h; cases h; have := Nat.eq_of_beq_eq_true e; subst this; rfl
    | false =>
      rw [e] at h
      simp only [cond_false, Option.map_eq_some_iff] at h
      obtain ⟨j, h1, rfl⟩ := h
      simpa using idxL_some h1
theorem idxL_none : ∀ {S : List Nat} {n i : Nat}, idxL n S = none → S[i]? ≠ some n
  | [], n, i, h => by simp
  | x :: S, n, i, h => by
    simp only [idxL] at h
    cases e : Nat.beq x n with
    | true => rw [e] at h; cases h
    | false =>
      rw [e] at h
      simp only [cond_false, Option.map_eq_none_iff] at h
      cases i with
      | zero => intro h'; simp only [List.getElem?_cons_zero, Option.some.injEq] at h'; rw [h'] at e; exact absurd e (by simp)
      | succ i => simpa using idxL_none (i := i) h
theorem inL_false : ∀ {S : List Nat} {n i : Nat}, inL n S = false → S[i]? ≠ some n
  | [], n, i, h => by simp
  | x :: S, n, i, h => by
    simp only [inL, Bool.or_eq_false_iff] at h
    cases i with
    | zero => intro h'; simp only [List.getElem?_cons_zero, Option.some.injEq] at h'; rw [h'] at h; exact absurd h.1 (by simp)
    | succ i => simpa using inL_false (i := i) h.2
theorem noDupN_inj : ∀ {S : List Nat} {i j n : Nat}, noDupN S = true → S[i]? = some n → S[j]? = some n → i = j
  | [], i, j, n, h, h1, h2 => by simp at h1
  | x :: S, i, j, n, h, h1, h2 => by
    simp only [noDupN, Bool.and_eq_true, Bool.not_eq_true'] at h
    cases i with
    | zero =>
      cases j with
      | zero => rfl
      | succ j =>
        simp only [List.getElem?_cons_zero, Option.some.injEq] at h1
        subst h1
        exact absurd (by simpa using h2) (inL_false (i := j) h.1)
    | succ i =>
      cases j with
      | zero =>
        simp only [List.getElem?_cons_zero, Option.some.injEq] at h2
        subst h2
        exact absurd (by simpa using h1) (inL_false (i := i) h.1)
      | succ j =>
        have := noDupN_inj (n := n) (i := i) (j := j) h.2 (by simpa using h1) (by simpa using h2)
        omega

/-- What the callee's first stamps mean. -/
def subα (X : Hp) (S : List Nat) (α : Al) : Al := fun j => match S[j]? with
  | some s => match X.ent s with
    | some (st, _) => α st
    | none => none
  | none => none
theorem subα_at {S : List Nat} {i s st : Nat} {ob : Ob} (h : S[i]? = some s) (he : X.ent s = some (st, ob)) : subα X S α i = α st := by
  unfold subα; rw [h]; simp only [he]
theorem sub_rn {S : List Nat} : RnOk (subρ X S) α (subα X S α) := by
  intro slot st s t L h hL
  unfold subρ at h
  cases ha : X.at slot st with
  | none => rw [ha] at h; cases h
  | some ob =>
    rw [ha] at h
    simp only [Option.isSome_some, cond_true, Option.map_eq_some_iff, Prod.mk.injEq] at h
    obtain ⟨i, h1, rfl, rfl⟩ := h
    rw [subα_at (idxL_some h1) (ent_some.2 (at_some.1 ha))]; exact hL
theorem sub_ent {S : List Nat} {i st : Nat} {ob : Ob} (h : (X.sub S).obs[i]? = some (some (st, ob))) : i < S.length ∧ st = i ∧ ∃ s st0 ob0, S[i]? = some s ∧ X.ent s = some (st0, ob0) ∧ renOb (subρ X S) (getP X.pl s) ob0 = some ob := by
  obtain ⟨h1, h2⟩ := mk_at.1 h
  split at h2
  · rename_i s hs
    split at h2
    · rename_i st0 ob0 he
      simp only [Option.map_eq_some_iff, Prod.mk.injEq] at h2
      obtain ⟨ob1, h3, rfl, rfl⟩ := h2
      exact ⟨h1, rfl, s, st0, ob0, hs, he, h3⟩
    · cases h2
  · cases h2
theorem sub_live {S : List Nat} {o : Nat} (h : Live (subα X S α) (X.sub S) o) : ∃ (i s st : Nat) (ob : Ob) (L : L3), S[i]? = some s ∧ X.obs[s]? = some (some (st, ob)) ∧ α st = some L ∧ L.o = o := by
  obtain ⟨slot, st, ob, L, h1, h2, h3⟩ := h
  obtain ⟨_, rfl, s, st0, ob0, q1, q2, _⟩ := sub_ent h1
  rw [subα_at q1 q2] at h2
  exact ⟨_, s, st0, ob0, L, q1, ent_some.1 q2, h2, h3⟩
theorem sub_inv (I : HInv α Φ X H) {S : List Nat} (hS : noDupN S = true) : HInv (subα X S α) Φ (X.sub S) H := by
  refine mk_inv I (src := fun i => (S[i]?).getD 0) (fun st L h => ?_) (fun i st ob hi h => ?_) (fun i j hi hj _ _ hne e => ?_)
  · unfold subα at h
    split at h
    · rename_i s hs
      split at h
      · exact ⟨(I.al _ _ h).1, (List.getElem?_eq_some_iff.1 hs).1⟩
      · cases h
    · cases h
  · have hs : S[i]? = some S[i] := List.getElem?_eq_getElem hi
    simp only [hs, Option.getD_some] at h ⊢
    split at h
    · rename_i st0 ob0 he
      simp only [Option.map_eq_some_iff, Prod.mk.injEq] at h
      obtain ⟨ob1, h3, rfl, rfl⟩ := h
      exact ⟨st0, ob0, ent_some.1 he, subα_at hs he, (by simp only [hs]), fun L hL => renOb_R sub_rn h3 hL⟩
    · cases h
  · have hs : S[i]? = some S[i] := List.getElem?_eq_getElem hi
    have hs' : S[j]? = some S[j] := List.getElem?_eq_getElem hj
    simp only [hs, hs', Option.getD_some] at e
    rw [e] at hs
    exact hne (noDupN_inj hS hs hs')

/-- What stamps mean behind the call. -/
def bckα (X X1 : Hp) (α α1 : Al) : Al := fun t => bif Nat.blt t (X.clock + 1) then α t else match X1.ent (t - (X.clock + 1)) with
  | some (st, _) => α1 st
  | none => none
theorem blt_f {a b : Nat} (h : b ≤ a) : Nat.blt a b = false := by
  cases e : Nat.blt a b with
  | false => rfl
  | true => have := (Eq.mp Nat.blt_eq e); omega
theorem bckα_new {X1 : Hp} {α1 : Al} {j st : Nat} {ob : Ob} (h : X1.ent j = some (st, ob)) : bckα X X1 α α1 (X.clock + 1 + j) = α1 st := by
  unfold bckα
  rw [blt_f (by omega), cond_false, Nat.add_sub_cancel_left, h]
theorem bckα_old (I : HInv α Φ X H) {X1 : Hp} {α1 : Al} {t : Nat} {L : L3} (h : α t = some L) : bckα X X1 α α1 t = some L := by
  unfold bckα
  have := (I.al _ _ h).2
  rw [Eq.mpr Nat.blt_eq (by omega : t < X.clock + 1)]; exact h
theorem bck_rn (I : HInv α Φ X H) {S : List Nat} {X1 : Hp} {α1 : Al} (hst : ∀ j, j < S.length → α1 j = subα X S α j) : RnOk (bckρ X S X1) α1 (bckα X X1 α α1) := by
  intro j st s t L h hL
  unfold bckρ at h
  cases ha : X1.at j st with
  | none => rw [ha] at h; cases h
  | some ob =>
    rw [ha] at h
    simp only [Option.isSome_some, cond_true, Option.some.injEq, Prod.mk.injEq] at h
    obtain ⟨_, rfl⟩ := h
    have new : bckα X X1 α α1 (X.clock + 1 + j) = some L := by rw [bckα_new (ent_some.2 (at_some.1 ha))]; exact hL
    unfold bckS
    split
    · rename_i s hs
      cases e : Nat.beq st j with
      | false => exact new
      | true =>
        simp only [cond_true]
        split
        · rename_i st0 ob0 he
          have e' := Nat.eq_of_beq_eq_true e
          subst e'
          have h1 := hst st (List.getElem?_eq_some_iff.1 hs).1
          rw [subα_at hs he, hL] at h1
          exact bckα_old I h1.symm
        · exact new
    · exact new

theorem bckI_inj {S : List Nat} {s s' j : Nat} (h : bckI X S s = some j) (h' : bckI X S s' = some j) : s = s' := by
  unfold bckI at h h'
  have lo : ∀ {s : Nat}, idxL s S = none → (bif Nat.blt s X.obs.length then none else some (S.length + (s - X.obs.length))) = some j → X.obs.length ≤ s ∧ j = S.length + (s - X.obs.length) := by
    intro s _ h
    cases e : Nat.blt s X.obs.length with
    | true => rw [e] at h; cases h
    | false =>
      rw [e] at h
      refine ⟨?_, by cases h; rfl⟩
      rcases Nat.lt_or_ge s X.obs.length with q | q
      · rw [Eq.mpr Nat.blt_eq q] at e; cases e
      · exact q
  split at h
  · rename_i i hi
    cases h
    have h1 := idxL_some hi
    split at h'
    · rename_i i' hi'
      cases h'
      have h2 := idxL_some hi'
      rw [h1] at h2; exact Option.some.inj h2
    · rename_i hn
      have := (lo hn h').2
      have := (List.getElem?_eq_some_iff.1 h1).1
      omega
  · rename_i hn
    have q1 := lo hn h
    split at h'
    · rename_i i' hi'
      cases h'
      have := (List.getElem?_eq_some_iff.1 (idxL_some hi')).1
      omega
    · rename_i hn'
      have q2 := lo hn' h'
      omega

theorem merge_ent {S : List Nat} {X1 : Hp} {s st : Nat} {ob : Ob} (h : (X.merge S X1).obs[s]? = some (some (st, ob))) :
    (∃ j st1 ob1, bckI X S s = some j ∧ X1.ent j = some (st1, ob1) ∧ renOb (bckρ X S X1) (getP X1.pl j) ob1 = some ob ∧ st = bckS X S j st1 ∧ getP (X.merge S X1).pl s = getP X1.pl j) ∨
    (bckI X S s = none ∧ X.ent s = some (st, ob) ∧ getP (X.merge S X1).pl s = getP X.pl s) := by
  obtain ⟨h1, h2⟩ := mk_at.1 h
  have hf := mk_fl (clock := X.clock + 1 + X1.obs.length) (ep := X.ep + 1) (ent := fun s => match bckI X S s with
    | some j => match X1.ent j with
      | some (st, ob) => (renOb (bckρ X S X1) (getP X1.pl j) ob).map fun ob => (bckS X S j st, ob)
      | none => none
    | none => X.ent s) (fl := fun s => match bckI X S s with | some j => getP X1.pl j | none => getP X.pl s) h1
  split at h2
  · rename_i j hj
    split at h2
    · rename_i st1 ob1 he
      simp only [Option.map_eq_some_iff, Prod.mk.injEq] at h2
      obtain ⟨ob2, h3, rfl, rfl⟩ := h2
      refine .inl ⟨j, st1, ob1, hj, he, h3, rfl, ?_⟩
      refine hf.trans ?_
      simp only [hj]
    · cases h2
  · rename_i hj
    refine .inr ⟨hj, h2, ?_⟩
    refine hf.trans ?_
    simp only [hj]

theorem callL_nx (I : HInv α Φ X H) {S : List Nat} {X1 : Hp} {H' : Heap} {α1 : Al} {Φ1 : Fz} (k : LS (subα X S α) Φ (X.sub S) H α1 Φ1 X1 H') (hlen : (X.sub S).obs.length = S.length) :
    Nx none α Φ X H (bckα X X1 α α1) Φ1 (X.merge S X1) H' ∧ RnOk (bckρ X S X1) α1 (bckα X X1 α α1) := by
  have rn : RnOk (bckρ X S X1) α1 (bckα X X1 α α1) := bck_rn I (fun j hj => k.st j (by rw [hlen]; exact hj))
  have la : α.le (bckα X X1 α α1) := fun t L h => bckα_old I h
  have sl : ∀ o, Live (subα X S α) (X.sub S) o → Live α X o := fun o h => by
    obtain ⟨i, s, st, ob, L, _, q2, q3, q4⟩ := sub_live h
    exact ⟨s, st, ob, L, q2, q3, q4⟩
  have other : ∀ (s st : Nat) (ob : Ob) (L : L3), bckI X S s = none → X.obs[s]? = some (some (st, ob)) → α st = some L → ¬ Live (subα X S α) (X.sub S) L.o := by
    intro s st ob L hb h1 h2 hl
    obtain ⟨i, s', st', ob', L', q1, q2, q3, q4⟩ := sub_live hl
    have hn : idxL s S = none := by
      unfold bckI at hb
      split at hb
      · cases hb
      · assumption
    exact I.ap s s' st st' ob ob' L L' h1 q2 h2 q3 (fun e => by subst e; exact idxL_none hn q1) q4.symm
  have one : ∀ (s st : Nat) (ob : Ob) (L : L3), (X.merge S X1).obs[s]? = some (some (st, ob)) → bckα X X1 α α1 st = some L →
      (∃ j st1 ob1, bckI X S s = some j ∧ X1.obs[j]? = some (some (st1, ob1)) ∧ α1 st1 = some L) ∨ (bckI X S s = none ∧ X.obs[s]? = some (some (st, ob)) ∧ α st = some L) := by
    intro s st ob L h hL
    rcases merge_ent h with ⟨j, st1, ob1, q1, q2, q3, q4, _⟩ | ⟨q1, q2, _⟩
    · obtain ⟨L1, g1, _⟩ := k.inv.ob j st1 ob1 (ent_some.1 q2)
      have := rn j st1 (bckN X S j) (bckS X S j st1) L1 (by unfold bckρ; rw [at_some.2 (ent_some.1 q2)]; rfl) g1
      rw [← q4, hL] at this
      cases this
      exact .inl ⟨j, st1, ob1, q1, ent_some.1 q2, g1⟩
    · obtain ⟨L1, g1, _⟩ := I.ob s st ob (ent_some.1 q2)
      rw [la _ _ g1] at hL
      cases hL
      exact .inr ⟨q1, ent_some.1 q2, g1⟩
  refine ⟨⟨la, k.lf, ⟨k.inv.fr, k.inv.fz, fun t L h => ?_, fun s st ob h => ?_, fun s s' st st' ob ob' L L' h h' g g' hne => ?_⟩, k.sz, ?_, fun o h1 _ h2 => k.keep o h1 (fun q => h2 (sl o q)), fun o h => ?_, fun o x h => ?_, fun h => ?_, fun h => ?_, Nat.le_succ _, fun h => ?_⟩, rn⟩
  · unfold bckα at h
    cases e : Nat.blt t (X.clock + 1) with
    | true =>
      rw [e] at h
      exact ⟨Nat.lt_of_lt_of_le (I.al _ _ h).1 k.sz, Nat.lt_of_lt_of_le (Eq.mp Nat.blt_eq e) (by show X.clock + 1 ≤ X.clock + 1 + X1.obs.length; omega)⟩
    | false =>
      rw [e] at h
      simp only [cond_false] at h
      split at h
      · rename_i st ob he
        have := (List.getElem?_eq_some_iff.1 (ent_some.1 he)).1
        refine ⟨(k.inv.al _ _ h).1, ?_⟩
        show t < X.clock + 1 + X1.obs.length
        omega
      · cases h
  · rcases merge_ent h with ⟨j, st1, ob1, q1, q2, q3, q4, q5⟩ | ⟨q1, q2, q3⟩
    · obtain ⟨L1, g1, g2, g3⟩ := k.inv.ob j st1 ob1 (ent_some.1 q2)
      have := rn j st1 (bckN X S j) (bckS X S j st1) L1 (by unfold bckρ; rw [at_some.2 (ent_some.1 q2)]; rfl) g1
      refine ⟨L1, by rw [q4]; exact this, g2, ?_⟩
      rw [q5]
      exact renOb_R rn q3 g3
    · have hs := ent_some.1 q2
      obtain ⟨L1, g1, g2, g3⟩ := I.ob s st ob hs
      have hno := other s st ob L1 q1 hs g1
      have hlo := (I.al _ _ g1).1
      refine ⟨L1, la _ _ g1, ?_, ?_⟩
      · cases hq : Φ1 L1.o with
        | none => rfl
        | some x =>
          rcases k.nf _ _ hq with q | q | q
          · rw [g2] at q; cases q
          · exact absurd q hno
          · omega
      · rw [q3]
        exact g3.mono (alB_mono (fun h => h) la) k.lf (k.keep _ hlo hno)
  · rcases one s st ob L h g with ⟨j, st1, ob1, q1, q2, q3⟩ | ⟨q1, q2, q3⟩
    · rcases one s' st' ob' L' h' g' with ⟨j', st1', ob1', q1', q2', q3'⟩ | ⟨q1', q2', q3'⟩
      · exact k.inv.ap j j' st1 st1' ob1 ob1' L L' q2 q2' q3 q3' (fun e => by subst e; exact hne (bckI_inj q1 q1'))
      · intro e
        rcases k.lv L.o ⟨j, st1, ob1, L, q2, q3, rfl⟩ with q | q
        · exact other s' st' ob' L' q1' q2' q3' (e ▸ q)
        · have := (I.al _ _ q3').1; omega
    · rcases one s' st' ob' L' h' g' with ⟨j', st1', ob1', q1', q2', q3'⟩ | ⟨q1', q2', q3'⟩
      · intro e
        rcases k.lv L'.o ⟨j', st1', ob1', L', q2', q3', rfl⟩ with q | q
        · exact other s st ob L q1 q2 q3 (e.symm ▸ q)
        · have := (I.al _ _ q3).1; omega
      · exact I.ap s s' st st' ob ob' L L' q2 q2' q3 q3' hne
  · show X.clock ≤ X.clock + 1 + X1.obs.length; omega
  · obtain ⟨s, st, ob, L, h1, h2, h3⟩ := h
    rcases one s st ob L h1 h2 with ⟨j, st1, ob1, q1, q2, q3⟩ | ⟨q1, q2, q3⟩
    · rcases k.lv o ⟨j, st1, ob1, L, q2, q3, h3⟩ with q | q
      · exact .inl (sl o q)
      · exact .inr (.inr q)
    · exact .inl ⟨s, st, ob, L, q2, q3, h3⟩
  · rcases k.nf o x h with q | q | q
    · exact .inl q
    · exact .inr (.inl (sl o q))
    · exact .inr (.inr (.inr q))
  · have : X.clock + 1 + X1.obs.length = X.clock := h; omega
  · have : X.clock + 1 + X1.obs.length = X.clock := h; omega
  · have : X.ep + 1 = X.ep := h; omega

theorem LS.can {α0 α : Al} {Φ0 Φ : Fz} {X0 X : Hp} {H0 H : Heap} (h : LS α0 Φ0 X0 H0 α Φ X H) : LS α0 Φ0 X0 H0 (canα X0.obs.length X α) Φ (X.can X0.obs.length) H := by
  refine ⟨can_inv h.inv, h.lf, h.sz, h.keep, fun o ho => h.lv o (can_live ho), h.nf, fun j hj => ?_⟩
  rw [← h.st j hj]
  unfold canα
  rw [Eq.mpr Nat.blt_eq hj]; rfl
theorem ren_pan (ρ : Rn) (x : V) : ∃ y, ren ρ (.pan x) = .pan y := by
  have hf : noRef (.pan x) = false := by cases x <;> rfl
  unfold ren
  rw [hf]
  exact ⟨_, rfl⟩
theorem callL_sim {w : Cl3} {pu : Nat → Bool} (h : FnS G pu w cl2) {f : Nat} {as : List V} {v : V} (hp : pu f = false) (hc : callL w f as X = some (v, X')) (I : HInv α Φ X H) (hG : GlOk G Φ) {as2 : List Value} (hr : Rs α Φ as as2) :
    ∃ u H' α' Φ', cl2 f as2 H = some (u, H') ∧ Nx none α Φ X H α' Φ' X' H' ∧ R α' Φ' v u ∧ ((∀ x, v ≠ .pan x) → isPan u = none) := by
  unfold callL at hc
  simp only at hc
  obtain ⟨S, hS⟩ : ∃ S, S = reach X 100 (as.flatMap slots3) [] := ⟨_, rfl⟩
  rw [← hS] at hc
  cases hb : noDupN S && S.all (fun s => (X.ent s).isSome) with
  | false => rw [hb] at hc; cases hc
  | true =>
    rw [hb] at hc
    simp only [Bool.and_eq_true] at hb
    simp only [cond_true] at hc
    obtain ⟨⟨v1, X1⟩, h1, h2⟩ := bnd_some hc
    cases h2
    have hlen : (X.sub S).obs.length = S.length := by simp [Hp.sub, mkHp]
    obtain ⟨u, H', α1, Φ1, k1, k2, k3, k4⟩ := h.imp f _ _ v1 X1 hp h1 (subα X S α) Φ H as2 (sub_inv I hb.1) hG (map_R (fun v u => ren_R sub_rn) hr) (fun j hj => by
      rw [hlen] at hj
      have hs : S[j]? = some S[j] := List.getElem?_eq_getElem hj
      have := List.all_eq_true.1 hb.2 S[j] (List.getElem_mem hj)
      cases he : X.ent S[j] with
      | none => rw [he] at this; cases this
      | some x =>
        obtain ⟨st, ob⟩ := x
        obtain ⟨L, g1, _⟩ := I.ob _ _ _ (ent_some.1 he)
        exact ⟨L, by rw [subα_at hs he]; exact g1⟩)
    have k2' := k2.can
    rw [hlen] at k2'
    obtain ⟨n1, n2⟩ := callL_nx I k2' hlen
    refine ⟨u, H', _, Φ1, k1, n1, ren_R n2 (ren_R can_rn k3), fun hv => k4 fun x e => ?_⟩
    subst e
    obtain ⟨y, hy⟩ := ren_pan (canρ S.length X1) x
    obtain ⟨z, hz⟩ := ren_pan (bckρ X S (X1.can S.length)) y
    exact hv z (by simp only [canR, hy, hz])

theorem call_sim {pu : Nat → Bool} {w : Cl3} (h : FnS G pu w cl2) : ClS G (call3 pu w) cl2 := by
  refine ⟨fun f as X v X' hc α Φ H as2 I hG hr => ?_⟩
  unfold call3 at hc
  cases hp : pu f with
  | false =>
    simp only [hp, cond_false] at hc
    exact callL_sim h hp hc I hG hr
  | true =>
    simp only [hp, cond_true] at hc
    obtain ⟨⟨as', s⟩, h1, h2⟩ := bnd_some hc
    obtain ⟨⟨v', Xe⟩, h3, h4⟩ := bnd_some h2
    cases h4
    have I1 := frz_inv I s
    have hle := Fz.le_add I s
    have hargs := snapL_RCs I hle h1 hr (Fz.add_cov Φ α X H s)
    obtain ⟨u, H', Φ', k1, k2⟩ := h.pure f as' v' Xe hp h3 _ H as2 (emp_inv I1) (hG.mono hle) hargs.noα
    have obk : ∀ (slot st : Nat) (ob : Ob), X.obs[slot]? = some (some (st, ob)) → ∃ L, α st = some L ∧ L.o < H.size := fun slot st ob hh => by
      obtain ⟨L, g1, _⟩ := I.ob slot st ob hh
      exact ⟨L, g1, (I.al _ _ g1).1⟩
    cases hfl : flat v' with
    | true =>
      simp only [hfl, cond_true]
      refine ⟨u, H', α, Φ, k1, ⟨Al.le_refl _, Fz.le_refl _, ⟨fun o x ho => ?_, fun o x ho => ⟨Nat.lt_of_lt_of_le (I.fz o x ho).1 k2.sz, (I.fz o x ho).2⟩, fun st L hL => ⟨Nat.lt_of_lt_of_le (I.al st L hL).1 k2.sz, (I.al st L hL).2⟩, fun slot st ob hh => ?_, I.ap⟩,
        k2.sz, Nat.le_refl _, fun o ho _ _ => k2.keep o ho, fun o ho => .inl ho, fun o x ho => .inl ho, fun _ o ho _ => k2.keep o ho, fun _ o ho => ho, Nat.le_refl _, fun _ => rfl⟩, flat_R hfl k2.r, k2.np⟩
      · rw [k2.keep o (I.fz o x ho).1]; exact I.fr o x ho
      · obtain ⟨L, g1, g2, g3⟩ := I.ob slot st ob hh
        exact ⟨L, g1, g2, g3.mono (Al.le_refl _) (Fz.le_refl _) (k2.keep _ (I.al _ _ g1).1)⟩
    | false =>
      simp only [hfl, cond_false]
      have hle2 : Φ.le Φ' := Fz.le_trans hle k2.lf
      have hl : ∀ o, Live α (X.frz s) o → Live α X o := fun o ⟨slot, st, ob, L, q1, q2, q3⟩ => ⟨slot, st, ob, L, (dropAll_spec s X slot _ q1).1, q2, q3⟩
      refine ⟨u, H', α, Φ', k1, ⟨Al.le_refl _, hle2, ⟨fun o x ho => (k2.fr o x ho).1, fun o x ho => (k2.fr o x ho).2, fun st L hL => ⟨Nat.lt_of_lt_of_le (I.al st L hL).1 k2.sz, (I.al st L hL).2⟩, fun slot st ob hh => ?_, I1.ap⟩,
        k2.sz, Nat.le_refl _, fun o ho _ _ => k2.keep o ho, fun o ho => .inl (hl o ho), fun o x ho => ?_, fun _ o ho _ => k2.keep o ho, fun _ o ho => hl o ho, Nat.le_succ _, fun e => ?_⟩, R_noα k2.r, k2.np⟩
      · obtain ⟨L, g1, g2, g3⟩ := I1.ob slot st ob hh
        have hlo := (I.al _ _ g1).1
        refine ⟨L, g1, ?_, g3.mono (Al.le_refl _) k2.lf (k2.keep _ hlo)⟩
        cases hq : Φ' L.o with
        | none => rfl
        | some x =>
          rcases k2.nf _ _ hq with q | q
          · rw [g2] at q; cases q
          · omega
      · rcases k2.nf o x ho with q | q
        · rcases (Fz.add_some I q).2.2.2 with q | q
          · exact .inl q
          · exact .inr (.inl q)
        · exact .inr (.inr (.inr q))
      · have : X.ep + 1 = X.ep := e
        omega

/-! ### functions -/
/-- While a function runs that leaves memory as it is. -/
structure PI (Φ0 : Fz) (H0 : Heap) (α : Al) (Φ : Fz) (X : Hp) (H : Heap) : Prop where
  inv : HInv α Φ X H
  lf : Φ0.le Φ
  sz : H0.size ≤ H.size
  keep : ∀ o, o < H0.size → H.get o = H0.get o
  lv : ∀ o, Live α X o → H0.size ≤ o
  nf : ∀ o x, Φ o = some x → Φ0 o = some x ∨ H0.size ≤ o

theorem pinv_pi (Φ0 : Fz) (H0 : Heap) (rs : Option Nat) : PInv (PI Φ0 H0) rs Φ0 := by
  refine ⟨fun h => h.inv, fun h => h.lf, fun {α Φ X H α' Φ' X' H'} h g => ⟨g.inv, Fz.le_trans h.lf g.lf, Nat.le_trans h.sz g.sz, fun o ho => ?_, fun o ho => ?_, fun o x ho => ?_⟩, fun {α Φ X H} n _ h => ⟨can_inv h.inv, h.lf, h.sz, h.keep, fun o ho => h.lv o (can_live ho), h.nf⟩⟩
  · rw [g.keep o (Nat.lt_of_lt_of_le ho h.sz) (fun hl => by have := h.lv o hl; omega), h.keep o ho]
  · rcases g.lv o ho with q | q
    · exact h.lv o q
    · exact Nat.le_trans h.sz q
  · rcases g.nf o x ho with q | q | q
    · exact h.nf o x q
    · exact .inr (h.lv o q)
    · exact .inr (Nat.le_trans h.sz q)

theorem LS.nx {α0 α α' : Al} {Φ0 Φ Φ' : Fz} {X0 X X' : Hp} {H0 H H' : Heap} (hd : ∀ j, j < X0.obs.length → ∃ L, α0 j = some L) (h : LS α0 Φ0 X0 H0 α Φ X H) (g : NxT H.size α Φ X H α' Φ' X' H') : LS α0 Φ0 X0 H0 α' Φ' X' H' := by
  refine ⟨g.inv, Fz.le_trans h.lf g.lf, Nat.le_trans h.sz g.sz, fun o h1 h2 => ?_, fun o h1 => ?_, fun o x h1 => ?_, fun j hj => ?_⟩
  · have := h.sz
    rw [g.keep o (by omega) (fun hl => by rcases h.lv o hl with q | q; exact h2 q; omega), h.keep o h1 h2]
  · have := h.sz
    rcases g.lv o h1 with q | q
    · exact h.lv o q
    · exact .inr (by omega)
  · have := h.sz
    rcases g.nf o x h1 with q | q | q
    · exact h.nf o x q
    · rcases h.lv o q with q | q
      · exact .inr (.inl q)
      · exact .inr (.inr q)
    · exact .inr (.inr (by omega))
  · obtain ⟨L, hL⟩ := hd j hj
    have h1 := h.st j hj
    rw [hL] at h1 ⊢
    exact g.la _ _ h1
theorem LS.start (I : HInv α Φ X H) : LS α Φ X H α Φ X H :=
  ⟨I, Fz.le_refl _, Nat.le_refl _, fun _ _ _ => rfl, fun _ h => .inl h, fun _ _ h => .inl h, fun _ _ => rfl⟩
theorem pinv_ls {α0 : Al} {Φ0 : Fz} {X0 : Hp} {H0 : Heap} (hd : ∀ j, j < X0.obs.length → ∃ L, α0 j = some L) : PInv (LS α0 Φ0 X0 H0) (some X0.obs.length) Φ0 :=
  ⟨fun h => h.inv, fun h => h.lf, fun h g => h.nx hd g, fun n hn h => by cases hn; exact h.can⟩
theorem Nx.ls {α0 α' : Al} {Φ0 Φ' : Fz} {X0 X' : Hp} {H0 H' : Heap} (hd : ∀ j, j < X0.obs.length → ∃ L, α0 j = some L) (I : HInv α0 Φ0 X0 H0) (h : Nx none α0 Φ0 X0 H0 α' Φ' X' H') : LS α0 Φ0 X0 H0 α' Φ' X' H' :=
  (LS.start I).nx hd (NxT.of h (fun _ e => by cases e) (Nat.le_refl _))

theorem PI.start (I : HInv noα Φ .emp H) : PI Φ H noα Φ .emp H :=
  ⟨I, Fz.le_refl _, Nat.le_refl _, fun _ _ => rfl, (fun o ⟨slot, st, ob, L, h1, h2, h3⟩ => by cases h2), fun o x h => .inl h⟩

/-- Functions of which the answers are known. -/
structure OvS (ovd : Nat → Bool) (ov : Nat → List V → Option V) (ov2 : Known) : Prop where
  yes : ∀ f args v, ovd f = true → ov f args = some v → ∀ α Φ (H : Heap) as2, Rs α Φ args as2 → ∃ u n, ov2 f as2 H = some (u, n) ∧ H.size ≤ n ∧ R α Φ v u ∧ ((∀ x, v ≠ .pan x) → isPan u = none)
  no : ∀ f as2 H, ovd f = false → ov2 f as2 H = none

theorem upto_inv (I : HInv α Φ X H) {n : Nat} (hn : H.size ≤ n) : HInv α Φ X (H.upto n) :=
  ⟨I.fr, fun o x h => ⟨Nat.lt_of_lt_of_le (I.fz o x h).1 hn, (I.fz o x h).2⟩, fun st L h => ⟨Nat.lt_of_lt_of_le (I.al st L h).1 hn, (I.al st L h).2⟩,
    fun slot st ob h => let ⟨L, g1, g2, g3⟩ := I.ob slot st ob h; ⟨L, g1, g2, g3.mono (Al.le_refl _) (Fz.le_refl _) rfl⟩, I.ap⟩

theorem upto_nx (I : HInv α Φ X H) {n : Nat} (hn : H.size ≤ n) : Nx none α Φ X H α Φ X (H.upto n) :=
  ⟨Al.le_refl _, Fz.le_refl _, upto_inv I hn, hn, Nat.le_refl _, fun _ _ _ _ => rfl, fun _ h => .inl h, fun _ _ h => .inl h, fun _ _ _ _ => rfl, fun _ _ h => h, Nat.le_refl _, fun _ => rfl⟩

/-- The second machine's heap only grows. -/
theorem NxT.grow (I : HInv α Φ X H) (hs : H.size ≤ H'.size) (hg : ∀ o, o < H.size → H'.get o = H.get o) : NxT H.size α Φ X H α Φ X H' := by
  refine ⟨Al.le_refl _, Fz.le_refl _, ⟨fun o x h => ?_, fun o x h => ⟨Nat.lt_of_lt_of_le (I.fz o x h).1 hs, (I.fz o x h).2⟩, fun st L h => ⟨Nat.lt_of_lt_of_le (I.al st L h).1 hs, (I.al st L h).2⟩, fun slot st ob h => ?_, I.ap⟩, hs, Nat.le_refl _, fun o h _ => hg o h, fun _ h => .inl h, fun _ _ h => .inl h, fun _ o h => hg o h, fun _ _ h => h, Nat.le_refl _, fun _ => rfl⟩
  · rw [hg o (I.fz o x h).1]; exact I.fr o x h
  · obtain ⟨L, g1, g2, g3⟩ := I.ob slot st ob h
    exact ⟨L, g1, g2, g3.mono (Al.le_refl _) (Fz.le_refl _) (hg _ (I.al _ _ g1).1)⟩

theorem clone_sim {e esz bytes : Nat} {Γ2 : Nat → Option FnI} {f : Nat} (hf : Γ2 f = some (cloneFn e esz bytes).er) (cl2 : Nat → List Value → Heap → Option (Value × Heap)) (k : Nat) {ex : Bool} {as2 : List Value} (I : HInv α Φ X H) (hr : Rs α Φ [.sl ex []] as2) :
    ∃ u H', evB Γ2 cl2 k f as2 H = some (u, H') ∧ NxT H.size α Φ X H α Φ X H' ∧ RC Φ (.sl true []) u ∧ isPan u = none := by
  obtain ⟨x2, rfl, hx⟩ : ∃ x2, as2 = [x2] ∧ R α Φ (.sl ex []) x2 := by
    cases as2 with
    | nil => have := hr.1; simp at this
    | cons x l => cases l with
      | nil => exact ⟨x, rfl, hr.uncons.1⟩
      | cons y l => have := hr.1; simp at this
  have two : x2 = .slice none 0 0 ∨ ∃ o off m cap, x2 = .slice (some ⟨o, off, some m⟩) 0 cap := by
    have := hx.inv_sl
    cases this with
    | nil => exact .inl rfl
    | emp => exact .inr ⟨_, _, _, _, rfl⟩
    | sl => exact .inr ⟨_, _, _, _, rfl⟩
  rcases two with rfl | ⟨o, off, m, cap, rfl⟩
  · refine ⟨.slice none 0 0, H, ?_, NxT.refl I, .nil _, rfl⟩
    simp only [evB, hf]
    rfl
  · have hp : (Heap.ext 2 H).get (H.size + 0) = some .pend := by rw [Heap.get_ext, if_pos (by omega)]
    refine ⟨.slice (some ⟨H.size + 0, 0, some (2 * esz + 1)⟩) 0 0, (Heap.ext 2 H).put (H.size + 0) (.cells e false []), ?_, NxT.grow I (by rw [Heap.size_put, Heap.size_ext]; omega) (fun i hi => by rw [Heap.get_put, if_neg (by omega), Heap.get_ext, if_neg (by omega)]), .emp _ _ _ _ _ (fun _ => ⟨by omega, rfl⟩), rfl⟩
    have h0 : ∀ T : Tr Value, evIns (noP cl2) H.size ⟨0, some 5, none, .bslice 0 e esz 0 [] [], [], false⟩ ⟨T, Heap.ext 2 H, .nil⟩ = some ⟨T.set 5 (.slice (some ⟨H.size + 0, 0, some (2 * esz + 1)⟩) 0 0), (Heap.ext 2 H).put (H.size + 0) (.cells e false []), .nil⟩ := by
      intro T
      show (match (match ((Heap.ext 2 H).new (H.size + 0) (.cells e false [])).map (fun H' => (Value.slice (some ⟨H.size + 0, 0, some (2 * esz + 1)⟩) 0 0, H')) with
        | some (v, H') => if chkOk .nil T (.bslice 0 e esz 0 [] []) v [] then some (v, H') else none
        | none => none) with
        | some (v, H') => some (⟨T.set 5 v, H', .nil⟩ : St)
        | none => none) = _
      rw [new_put hp]
      rfl
    have hb : evC cl2 k (cloneFn e esz bytes).er.body (Tr.ofList [.slice (some ⟨o, off, some m⟩) 0 cap] 0 .nil) H = evC cl2 k (.seq (.region 2 [⟨0, some 5, none, .bslice 0 e esz 0 [] [], [], false⟩, ⟨1, some 6, none, .mv (.t 0), [], false⟩, ⟨2, some 7, none, .append 1 e esz bytes false (.t 5) (.t 6), [], false⟩, ⟨3, some 2, none, .mv (.t 7), [], false⟩]) .ret)
        ((((Tr.ofList [.slice (some ⟨o, off, some m⟩) 0 cap] 0 .nil).set 2 (.slice none 0 0)).set 3 (.slice (some ⟨o, off, some m⟩) 0 cap)).set 4 (.bool false)) H := rfl
    simp only [evC, evSeq, h0] at hb
    simp only [evB, hf]
    show (match evC cl2 k (cloneFn e esz bytes).er.body (Tr.ofList [.slice (some ⟨o, off, some m⟩) 0 cap] 0 .nil) H with
      | some (.normal, T, H) => evR (cloneFn e esz bytes).er.res T H
      | some (.ret, T, H) => evR (cloneFn e esz bytes).er.res T H
      | some (.pan v, _, H) => some (Mx.pan v, H)
      | _ => none) = _
    rw [hb]
    rfl

/-- Functions that are slices.Clone. -/
def ClnOk (cln : Nat → Bool) (Γ : Nat → Option Fn3) : Prop := ∀ f, cln f = true → ∃ e esz bytes, (erΓ Γ) f = some (cloneFn e esz bytes).er

theorem cl0_some {c : Bool} {l : List V} (h : cl0 c l = true) : c = true ∧ ∃ ex, l = [.sl ex []] := by
  unfold cl0 at h
  split at h
  · exact ⟨h, _, rfl⟩
  · cases h

theorem fn_sim {pu ovd cln : Nat → Bool} {ov : Nat → List V → Option V} {ov2 : Known} (hov : OvS ovd ov ov2) (hcln : ClnOk cln Γ) (hok : ∀ f fn, Γ f = some fn → fn.ok = true) : ∀ k, FnS G pu (evF3 G pu ovd cln ov Γ k) (evF (erΓ Γ) ov2 k)
  | 0 => ⟨fun f as v X' _ h => (by cases h), fun f as X v X' _ h => (by cases h)⟩
  | k + 1 => by
    have ih := call_sim (fn_sim (pu := pu) hov hcln hok k)
    refine ⟨fun f as v X' hpu h Φ H as2 I hG hr => ?_, fun f as X v X' hpu h α Φ H as2 I hG hr hd => ?_⟩
    · simp only [evF3] at h
      cases ho : ovd f with
      | true =>
        simp only [ho, cond_true] at h
        obtain ⟨v1, h1, h2⟩ := bnd_some h
        cases h2
        obtain ⟨u, n, e1, e2, e3, e4⟩ := hov.yes f as v ho h1 _ Φ H as2 hr
        refine ⟨u, H.upto n, Φ, by simp only [evF, e1], ⟨e2, Fz.le_refl _, fun _ _ => rfl, fun o x h => .inl h, fun o x h => ?_, e3, e4⟩⟩
        exact ⟨I.fr o x h, Nat.lt_of_lt_of_le (I.fz o x h).1 e2, (I.fz o x h).2⟩
      | false =>
        simp only [ho, cond_false] at h
        cases hc : cl0 (cln f) as with
        | true =>
          simp only [hc, cond_true] at h
          cases h
          obtain ⟨c1, ex, rfl⟩ := cl0_some hc
          obtain ⟨e, esz, bytes, hf⟩ := hcln f c1
          obtain ⟨u, H', k1, k2, k3, k4⟩ := clone_sim hf (evF (erΓ Γ) ov2 k) k I hr
          refine ⟨u, H', Φ, by simp only [evF, hov.no f as2 H ho]; exact k1, ⟨k2.sz, Fz.le_refl _, fun o h => k2.keep o h (fun hl => ?_), fun o x h => .inl h, fun o x h => ⟨k2.inv.fr o x h, k2.inv.fz o x h⟩, .con k3, fun _ => k4⟩⟩
          obtain ⟨slot, st, ob, L, h1, h2, h3⟩ := hl
          cases h2
        | false =>
        simp only [hc, hpu, fun3, cond_true, cond_false] at h
        obtain ⟨⟨v1, X1⟩, h1, h2⟩ := bnd_some h
        obtain ⟨⟨v2, s⟩, h3, h4⟩ := bnd_some h2
        cases h4
        obtain ⟨u, H', α', Φ', k1, k2, k3, k4⟩ := body_sim (pinv_pi Φ H (some 0)) ih hG hok h1 (PI.start I) hr
        have hle := Fz.le_add k2.inv s
        have hR : R noα (Φ'.add α' X1 H' s) v2 u ∧ ((∀ x, v2 ≠ .pan x) → isPan u = none) := by
          unfold snapP at h3
          simp only at h3
          split at h3
          · rename_i w
            simp only [Option.map_eq_some_iff] at h3
            obtain ⟨⟨w', s'⟩, q1, q2⟩ := h3
            cases q2
            obtain ⟨y, rfl, hy⟩ := k3.inv_pan
            exact ⟨.pan _ _ (.con (snap_RC k2.inv hle _ _ _ _ _ q1 hy (Fz.add_cov _ _ _ _ _))), fun hx => absurd rfl (hx _)⟩
          · rename_i hnp
            exact ⟨.con (snap_RC k2.inv hle _ _ _ _ _ h3 k3 (Fz.add_cov _ _ _ _ _)), fun _ => k4 (fun x e => hnp x e)⟩
        refine ⟨u, H', Φ'.add α' X1 H' s, ?_, ⟨k2.sz, Fz.le_trans k2.lf hle, k2.keep, fun o x h => ?_, fun o x h => ?_, hR.1, hR.2⟩⟩
        · simp only [evF, hov.no f as2 H ho]; exact k1
        · rcases (Fz.add_some k2.inv h).2.2.2 with q | q
          · exact k2.nf o x q
          · exact .inr (k2.lv o q)
        · have := Fz.add_some k2.inv h
          exact ⟨this.1, this.2.1, this.2.2.1⟩
    · simp only [evF3] at h
      cases ho : ovd f with
      | true =>
        simp only [ho, cond_true] at h
        obtain ⟨v1, h1, h2⟩ := bnd_some h
        cases h2
        obtain ⟨u, n, e1, e2, e3, e4⟩ := hov.yes f as v ho h1 _ Φ H as2 hr
        exact ⟨u, H.upto n, α, Φ, by simp only [evF, e1], (upto_nx I e2).ls hd I, e3, e4⟩
      | false =>
        simp only [ho, cond_false] at h
        cases hc : cl0 (cln f) as with
        | true =>
          simp only [hc, cond_true] at h
          cases h
          obtain ⟨c1, ex, rfl⟩ := cl0_some hc
          obtain ⟨e, esz, bytes, hf⟩ := hcln f c1
          obtain ⟨u, H', k1, k2, k3, k4⟩ := clone_sim hf (evF (erΓ Γ) ov2 k) k I hr
          exact ⟨u, H', α, Φ, by simp only [evF, hov.no f as2 H ho]; exact k1, k2.nx.ls hd I, .con k3, fun _ => k4⟩
        | false =>
        simp only [hc, hpu, fun3, cond_false] at h
        obtain ⟨u, H', α', Φ', k1, k2, k3, k4⟩ := body_sim (pinv_ls hd) ih hG hok h (LS.start I) hr
        exact ⟨u, H', α', Φ', by simp only [evF, hov.no f as2 H ho]; exact k1, k2, k3, k4⟩

end
end Go.Proofs.YtapkmhneneffdaaGreatDoor.M3

/-! The text ZaeO. -/
namespace Go.Proofs.YtapkmhneneffdaaGreatDoor.M3
open Go Go.Proofs.YtapkmhneneffdaaGreatDoor.Mx

/-- From some number on. -/
def Td {R : Type} (F : Nat → Option R) (x : Option R) : Prop := ∀ r, x = some r → ∃ k0, ∀ k, k0 ≤ k → F k = some r

section
variable {R : Type}
theorem Td.const (x : Option R) : Td (fun _ => x) x := fun r h => ⟨0, fun _ _ => h⟩
theorem Td.none (F : Nat → Option R) : Td F none := fun r h => by cases h
theorem Td.bnd {Q : Type} {x : Nat → Option Q} {y : Option Q} {κ : Nat → Q → Option R} {κ' : Q → Option R} (hx : Td x y) (hκ : ∀ a, Td (fun k => κ k a) (κ' a)) : Td (fun k => bnd (x k) (κ k)) (bnd y κ') := fun r h => by
  obtain ⟨a, h1, h2⟩ := bnd_some h
  obtain ⟨k1, g1⟩ := hx a h1
  obtain ⟨k2, g2⟩ := hκ a r h2
  exact ⟨max k1 k2, fun k hk => by show M3.bnd (x k) (κ k) = some r; rw [g1 k (by omega)]; exact g2 k (by omega)⟩
theorem Td.bndc {Q : Type} {y : Option Q} {κ : Nat → Q → Option R} {κ' : Q → Option R} (hκ : ∀ a, Td (fun k => κ k a) (κ' a)) : Td (fun k => M3.bnd y (κ k)) (M3.bnd y κ') := Td.bnd (Td.const y) hκ
theorem Td.ands {b : Bool} {x : Nat → Option R} {y : Option R} (h : Td x y) : Td (fun k => ands b (x k)) (ands b y) := by
  cases b with
  | true => exact h
  | false => exact Td.none _
theorem Td.ite {c : Prop} [Decidable c] {x x' : Nat → Option R} {y y' : Option R} (h : Td x y) (h' : Td x' y') : Td (fun k => if c then x k else x' k) (if c then y else y') := by
  by_cases hc : c
  · simp only [hc, if_true]; exact h
  · simp only [hc, if_false]; exact h'
theorem Td.cond {b : Bool} {x x' : Nat → Option R} {y y' : Option R} (h : Td x y) (h' : Td x' y') : Td (fun k => bif b then x k else x' k) (bif b then y else y') := by
  cases b with
  | true => exact h
  | false => exact h'

def ClT (cl : Nat → Cl3) (cl' : Cl3) : Prop := ∀ f as X, Td (fun k => cl k f as X) (cl' f as X)

variable {G : Gl} {cl : Nat → Cl3} {cl' : Cl3}

theorem evK_td (hcl : ClT cl cl') {T : Fr} {X : Hp} {i : Mx.I} {κ : Nat → V → Hp → Option R} {κ' : V → Hp → Option R} (hκ : ∀ v X, Td (fun k => κ k v X) (κ' v X)) : Td (fun k => evK G (cl k) T X i (κ k)) (evK G cl' T X i κ') := by
  cases i <;> simp only [evK] <;> (try exact Td.none _) <;> (try exact hκ _ _)
  case mkfn fn first cap =>
    cases fn <;> simp only [evK] <;> first | exact hκ _ _ | exact Td.none _
  case call f as =>
    cases ev3 G T f <;> simp only <;> (try exact Td.none _)
    refine Td.bnd (hcl _ _ _) (fun a => ?_)
    obtain ⟨v, X'⟩ := a
    cases v <;> simp only <;> first | exact hκ _ _ | exact Td.none _
  case tassert t z x => cases z <;> simp only <;> (repeat' first | exact hκ _ _ | (refine Td.bndc (fun a => ?_)))
  all_goals (repeat' first | exact hκ _ _ | (refine Td.bndc (fun a => ?_)) | (refine Td.ite ?_ ?_) | exact Td.none _)

theorem evI3_td (hcl : ClT cl cl') {T : Fr} {X : Hp} {i : Mx.I} : Td (fun k => evI3 G (cl k) T X i) (evI3 G cl' T X i) := evK_td hcl fun v X => Td.const _

theorem gvH_td (hcl : ClT cl cl') {T : Fr} {X : Hp} {i : Mx.I} {t w : Bool} : Td (fun k => gvH t w (evI3 G (cl k) T X i) X) (gvH t w (evI3 G cl' T X i) X) := by
  unfold gvH
  exact Td.cond (evI3_td hcl) (Td.const _)

theorem evOps_td (hcl : ClT cl cl') {κ : Nat → Fr → Hp → Option R} {κ' : Fr → Hp → Option R} (hκ : ∀ T X, Td (fun k => κ k T X) (κ' T X)) : ∀ (l : List Ins) (T : Fr) (X : Hp) (log : Tr Lg3) (tn : Option (List Nat)), Td (fun k => evOps G (cl k) l T X log tn (κ k)) (evOps G cl' l T X log tn κ')
  | [], T, X, log, tn => hκ T X
  | ⟨idx, dst, guard, op, chk, lg⟩ :: l, T, X, log, tn => by
    have ih := evOps_td hcl hκ l
    unfold evOps
    simp only [fork_eq]
    have gd : ∀ (F : Bool → Nat → Option R) (F' : Bool → Option R) (E : Nat → Option R) (E' : Option R) (g : Nat), (∀ t, Td (F t) (F' t)) → Td E E' → Td (fun k => match rd3 T g with
        | .b t => F t k
        | .tup [] => E k
        | _ => none) (match rd3 T g with
        | .b t => F' t
        | .tup [] => E'
        | _ => none) := by
      intro F F' E E' g h1 h2
      cases rd3 T g
      case b t => exact h1 t
      case tup l' =>
        cases l'
        · exact h2
        · exact Td.none _
      all_goals exact Td.none _
    cases guard with
    | none => exact evK_td hcl fun v X => Td.ands (ih _ _ _ _)
    | some gw => exact gd _ _ _ _ gw.1 (fun t => Td.cond (evK_td hcl fun v X => Td.ands (ih _ _ _ _)) (ih _ _ _ _)) (ih _ _ _ _)

/-! ### code -/
abbrev Bd := List V → Hp → Option (Ex3 × List V × Hp)
def LpT (lp : Nat → Lp3) (lp' : Lp3) : Prop := ∀ (body : Nat → Bd) (body' : Bd), (∀ vs X, Td (fun k => body k vs X) (body' vs X)) → ∀ vs X, Td (fun k => lp k (body k) vs X) (lp' body' vs X)

theorem evCK_td (hcl : ClT cl cl') {lp : Nat → Lp3} {lp' : Lp3} (hlp : LpT lp lp') : ∀ (c : C3) {R : Type} (κ : Nat → Ex3 → Fr → Hp → Option R) (κ' : Ex3 → Fr → Hp → Option R), (∀ e T X, Td (fun k => κ k e T X) (κ' e T X)) → ∀ (T : Fr) (X : Hp), Td (fun k => evCK G (cl k) (lp k) c T X (κ k)) (evCK G cl' lp' c T X κ') := by
  intro c
  induction c with
  | skip => intro R κ κ' hκ T X; exact hκ _ _ _
  | ret => intro R κ κ' hκ T X; exact hκ _ _ _
  | exit id => intro R κ κ' hκ T X; exact hκ _ _ _
  | region na ops => intro R κ κ' hκ T X; exact evOps_td hcl (fun T X => hκ _ T X) ops T X .nil none
  | seq a b iha ihb =>
    intro R κ κ' hκ T X
    refine iha (fun k e T H => match e with | .normal => evCK G (cl k) (lp k) b T H (κ k) | e => κ k e T H) _ (fun e T X => ?_) T X
    cases e with
    | normal => exact ihb _ _ hκ T X
    | exit i => exact hκ _ _ _
    | ret => exact hκ _ _ _
    | pan v => exact hκ _ _ _
  | cond x a b iha ihb =>
    intro R κ κ' hκ T X
    simp only [evCK]
    cases ev3 G T x <;> simp only <;> (try exact Td.none _)
    exact Td.cond (iha _ _ hκ T X) (ihb _ _ hκ T X)
  | block id c ih =>
    intro R κ κ' hκ T X
    refine ih (fun k e T H => match e with | .exit i => bif i == id then κ k .normal T H else κ k (.exit i) T H | e => κ k e T H) _ (fun e T X => ?_) T X
    cases e with
    | exit i => exact Td.cond (hκ _ _ _) (hκ _ _ _)
    | normal => exact hκ _ _ _
    | ret => exact hκ _ _ _
    | pan v => exact hκ _ _ _
  | loop live c ih =>
    intro R κ κ' hκ T X
    simp only [evCK]
    exact Td.bnd (hlp (fun k vs H => evCK G (cl k) (lp k) c (ofP live vs) H fun e T H => some (e, live.map (rd3 T), H)) _ (fun vs X => ih (fun _ e T H => some (e, live.map (rd3 T), H)) (fun e T H => some (e, live.map (rd3 T), H)) (fun e T X => Td.const _) _ X) _ X) (fun a => hκ _ _ _)
  | callp d f as =>
    intro R κ κ' hκ T X
    simp only [evCK, fork_eq]
    cases ev3 G T f <;> simp only <;> (try exact Td.none _)
    refine Td.bnd (hcl _ _ _) (fun a => ?_)
    obtain ⟨v, X'⟩ := a
    cases v <;> exact hκ _ _ _
  | panic x =>
    intro R κ κ' hκ T X
    simp only [evCK]
    cases ev3 G T x <;> simp only <;> (try exact Td.none _)
    exact hκ _ _ _
  | pre p c ih =>
    intro R κ κ' hκ T X
    simp only [evCK]
    cases p with
    | keep ts => exact Td.bnd (hlp (fun _ vs H => some (.ret, vs, H)) _ (fun vs X => Td.const _) _ _) fun a => ih _ _ hκ _ _
    | frz ts => exact Td.bndc fun a => ih _ _ hκ _ _
    | fin t => exact Td.bndc fun a => ih _ _ hκ _ _
    | free ts => exact Td.bndc fun a => ih _ _ hκ _ _
  | post c p ih =>
    intro R κ κ' hκ T X
    refine ih (fun k e T H => match e with | .normal => bnd (p.run T H) fun r => κ k .normal r.1 r.2 | .exit i => bnd (p.run T H) fun r => κ k (.exit i) r.1 r.2 | e => κ k e T H) _ (fun e T X => ?_) T X
    cases e with
    | normal => exact Td.bndc fun a => hκ _ _ _
    | exit i => exact Td.bndc fun a => hκ _ _ _
    | ret => exact hκ _ _ _
    | pan v => exact hκ _ _ _

theorem evD3_td (hcl : ClT cl cl') {lp : Nat → Lp3} {lp' : Lp3} (hlp : LpT lp lp') {Γ : Nat → Option Fn3} {R : Type} {κ : Nat → Hp → Option R} {κ' : Hp → Option R} (hκ : ∀ X, Td (fun k => κ k X) (κ' X)) (c pv : V) (X : Hp) :
    Td (fun k => evD3 G (cl k) (lp k) Γ c pv X (κ k)) (evD3 G cl' lp' Γ c pv X κ') := by
  unfold evD3
  cases c <;> simp only <;> (try exact Td.none _)
  rename_i g first cap
  cases Γ g with
  | none => exact Td.none _
  | some gn =>
    simp only
    cases gn.dfr <;> cases gn.recv <;> cases gn.res <;> simp only <;> (try exact Td.none _)
    refine evCK_td hcl hlp gn.body _ _ (fun e T X => ?_) _ X
    cases e <;> simp only <;> first | exact hκ _ | exact Td.none _

theorem evB3_td (hcl : ClT cl cl') {lp lpD : Nat → Lp3} {lp' lpD' : Lp3} (hlp : LpT lp lp') (hlpD : LpT lpD lpD') {Γ : Nat → Option Fn3} (f : Nat) (args : List V) (X : Hp) :
    Td (fun k => evB3 G (cl k) (lp k) (lpD k) Γ f args X) (evB3 G cl' lp' lpD' Γ f args X) := by
  unfold evB3
  cases Γ f with
  | none => exact Td.none _
  | some fn =>
    simp only
    cases fn.recv with
    | some d => exact Td.none _
    | none =>
      simp only
      cases fn.dfr with
      | none =>
        refine evCK_td hcl hlp fn.body _ _ (fun e T X => ?_) _ X
        cases e <;> exact Td.const _
      | some cr =>
        obtain ⟨c, rest⟩ := cr
        refine evCK_td hcl hlp fn.body (fun k e T H => match e with
          | .normal => evCK G (cl k) (lpD k) rest T H fun e T' H => match e with
            | .normal => evD3 G (cl k) (lpD k) Γ (ev3 G T c) .ni H fun H => bnd (res3 T' H fn.res) fun vs => ands (vs.all nj) (some (pack3 vs, H))
            | .ret => evD3 G (cl k) (lpD k) Γ (ev3 G T c) .ni H fun H => bnd (res3 T' H fn.res) fun vs => ands (vs.all nj) (some (pack3 vs, H))
            | .pan v => evD3 G (cl k) (lpD k) Γ (ev3 G T c) v H fun H => bnd (res3 T' H fn.res) fun vs => ands (vs.all nj) (some (pack3 vs, H))
            | .exit _ => none
          | _ => none) _ (fun e T X => ?_) _ X
        cases e with
        | normal =>
          refine evCK_td hcl hlpD rest (fun k e T' H => match e with
            | .normal => evD3 G (cl k) (lpD k) Γ (ev3 G T c) .ni H fun H => bnd (res3 T' H fn.res) fun vs => ands (vs.all nj) (some (pack3 vs, H))
            | .ret => evD3 G (cl k) (lpD k) Γ (ev3 G T c) .ni H fun H => bnd (res3 T' H fn.res) fun vs => ands (vs.all nj) (some (pack3 vs, H))
            | .pan v => evD3 G (cl k) (lpD k) Γ (ev3 G T c) v H fun H => bnd (res3 T' H fn.res) fun vs => ands (vs.all nj) (some (pack3 vs, H))
            | .exit _ => none) _ (fun e T' X => ?_) _ X
          cases e with
          | normal => exact evD3_td (κ := fun _ H => bnd (res3 T' H fn.res) fun vs => ands (vs.all nj) (some (pack3 vs, H))) (κ' := fun H => bnd (res3 T' H fn.res) fun vs => ands (vs.all nj) (some (pack3 vs, H))) hcl hlpD (fun X => Td.const _) _ _ _
          | ret => exact evD3_td (κ := fun _ H => bnd (res3 T' H fn.res) fun vs => ands (vs.all nj) (some (pack3 vs, H))) (κ' := fun H => bnd (res3 T' H fn.res) fun vs => ands (vs.all nj) (some (pack3 vs, H))) hcl hlpD (fun X => Td.const _) _ _ _
          | pan v => exact evD3_td (κ := fun _ H => bnd (res3 T' H fn.res) fun vs => ands (vs.all nj) (some (pack3 vs, H))) (κ' := fun H => bnd (res3 T' H fn.res) fun vs => ands (vs.all nj) (some (pack3 vs, H))) hcl hlpD (fun X => Td.const _) _ _ _
          | exit i => exact Td.none _
        | exit i => exact Td.none _
        | ret => exact Td.none _
        | pan v => exact Td.none _

/-! ### loops -/
theorem iter3_mono {rs : Option Nat} {body : Bd} {r : Ex3 × List V × Hp} : ∀ (n m : Nat) (vs : List V) (X : Hp), n ≤ m → iter3 rs n body vs X = some r → iter3 rs m body vs X = some r
  | 0, _, _, _, _, h => by cases h
  | n + 1, 0, _, _, hm, _ => by omega
  | n + 1, m + 1, vs, X, hm, h => by
    simp only [iter3] at h ⊢
    split at h
    · rename_i vs' X' h1
      exact iter3_mono n m vs' X' (by omega) h
    · exact h

open Classical in
/-- A loop without a bound. -/
noncomputable def loopW (rs : Option Nat) : Lp3 := fun body vs X => if h : ∃ r n, iter3 rs n body vs X = some r then some h.choose else none

theorem loopW_iff {rs : Option Nat} {body : Bd} {vs : List V} {X : Hp} {r : Ex3 × List V × Hp} : loopW rs body vs X = some r ↔ ∃ n, iter3 rs n body vs X = some r := by
  unfold loopW
  constructor
  · intro h
    split at h
    · rename_i hc; cases h; exact hc.choose_spec
    · cases h
  · rintro ⟨n, h⟩
    have hc : ∃ r n, iter3 rs n body vs X = some r := ⟨r, n, h⟩
    rw [dif_pos hc]
    obtain ⟨m, hm⟩ := hc.choose_spec
    have h1 := iter3_mono n (max n m) vs X (by omega) h
    have h2 := iter3_mono m (max n m) vs X (by omega) hm
    rw [h1] at h2
    exact h2.symm

theorem loopW_eq (rs : Option Nat) (body : Bd) (vs : List V) (X : Hp) : loopW rs body vs X = match body (anew rs vs X).1 (anew rs vs X).2 with
    | some (.normal, vs, X) => loopW rs body vs X
    | r => r := by
  apply Option.ext
  intro r
  rw [loopW_iff]
  constructor
  · rintro ⟨n, h⟩
    cases n with
    | zero => cases h
    | succ n =>
      simp only [iter3] at h
      split at h
      · rename_i h1; rw [h1]; exact loopW_iff.2 ⟨n, h⟩
      · rename_i hne
        split
        · rename_i h1; exact absurd h1 (hne _ _)
        · exact h
  · intro h
    split at h
    · rename_i h1
      obtain ⟨n, hn⟩ := loopW_iff.1 h
      exact ⟨n + 1, by simp only [iter3, h1]; exact hn⟩
    · rename_i hne
      refine ⟨1, ?_⟩
      simp only [iter3]
      exact h

theorem loopW_td (rs : Option Nat) : LpT (fun k => iter3 rs k) (loopW rs) := by
  intro body body' hb vs X r h
  obtain ⟨n, hn⟩ := loopW_iff.1 h
  clear h
  have key : ∀ (n : Nat) (vs : List V) (X : Hp), iter3 rs n body' vs X = some r → ∃ k0, ∀ k j, k0 ≤ k → n ≤ j → iter3 rs j (body k) vs X = some r := by
    intro n
    induction n with
    | zero => intro vs X hn; cases hn
    | succ n ih =>
      intro vs X hn
      simp only [iter3] at hn
      split at hn
      · rename_i vs' X' h1
        obtain ⟨k1, g1⟩ := hb _ _ _ h1
        obtain ⟨k2, g2⟩ := ih _ _ hn
        refine ⟨max k1 k2, fun k j hk hj => ?_⟩
        obtain ⟨m, rfl⟩ : ∃ m, j = m + 1 := ⟨j - 1, by omega⟩
        have e1 := g1 k (by omega)
        simp only [iter3, e1]
        exact g2 k m (by omega) (by omega)
      · rename_i hne
        obtain ⟨k1, g1⟩ := hb _ _ _ hn
        refine ⟨k1, fun k j hk hj => ?_⟩
        obtain ⟨m, rfl⟩ : ∃ m, j = m + 1 := ⟨j - 1, by omega⟩
        have e1 := g1 k (by omega)
        simp only [iter3, e1]
        split
        · rename_i h1; cases h1; exact absurd hn (hne _ _)
        · rfl
  obtain ⟨k0, g⟩ := key n vs X hn
  exact ⟨max k0 n, fun k hk => g k k (by omega) (by omega)⟩

/-! ### functions -/
section
variable (G : Gl) (pu ovd cln : Nat → Bool) (ov : Nat → List V → Option V) (Γ : Nat → Option Fn3)
open Classical in
/-- What a call comes to. -/
noncomputable def W : Cl3 := fun f as X => if h : ∃ r k0, ∀ k, k0 ≤ k → evF3 G pu ovd cln ov Γ k f as X = some r then some h.choose else none

theorem W_td : ClT (fun k => evF3 G pu ovd cln ov Γ k) (W G pu ovd cln ov Γ) := by
  intro f as X r h
  unfold W at h
  split at h
  · rename_i hc; cases h; exact hc.choose_spec
  · cases h

variable {G pu ovd cln ov Γ}
theorem W_of {f : Nat} {as : List V} {X : Hp} {r : V × Hp} {k0 : Nat} (h : ∀ k, k0 ≤ k → evF3 G pu ovd cln ov Γ k f as X = some r) : W G pu ovd cln ov Γ f as X = some r := by
  have hc : ∃ r k0, ∀ k, k0 ≤ k → evF3 G pu ovd cln ov Γ k f as X = some r := ⟨r, k0, h⟩
  unfold W
  rw [dif_pos hc]
  obtain ⟨k1, h1⟩ := hc.choose_spec
  have e1 := h (max k0 k1) (by omega)
  have e2 := h1 (max k0 k1) (by omega)
  rw [e1] at e2
  exact e2.symm

theorem call3_td {w : Nat → Cl3} {w' : Cl3} (h : ClT w w') : ClT (fun k => call3 pu (w k)) (call3 pu w') := by
  intro f as X
  unfold call3
  refine Td.cond (Td.bndc fun a => Td.bnd (h _ _ _) fun x => Td.const _) ?_
  unfold callL
  exact Td.cond (Td.bnd (h _ _ _) fun x => Td.const _) (Td.none _)

/-- A function's body tells what a call comes to. -/
theorem W_body {f : Nat} {as : List V} {X : Hp} {r : V × Hp} (ho : ovd f = false) (hc : cl0 (cln f) as = false)
    (h : fun3 (pu f) (evB3 G (call3 pu (W G pu ovd cln ov Γ)) (loopW (some X.obs.length)) (loopW none) Γ f as X) = some r) : W G pu ovd cln ov Γ f as X = some r := by
  have t : Td (fun k => fun3 (pu f) (evB3 G (call3 pu (evF3 G pu ovd cln ov Γ k)) (iter3 (some X.obs.length) k) (iter3 none k) Γ f as X)) (fun3 (pu f) (evB3 G (call3 pu (W G pu ovd cln ov Γ)) (loopW (some X.obs.length)) (loopW none) Γ f as X)) := by
    have tb := evB3_td (G := G) (Γ := Γ) (call3_td (pu := pu) (W_td G pu ovd cln ov Γ)) (loopW_td (some X.obs.length)) (loopW_td none) f as X
    unfold fun3
    exact Td.cond (Td.bnd tb fun x => Td.bndc fun y => Td.const _) tb
  obtain ⟨k0, hk⟩ := t r h
  refine W_of (k0 := k0 + 1) (fun k hkk => ?_)
  obtain ⟨m, rfl⟩ : ∃ m, k = m + 1 := ⟨k - 1, by omega⟩
  simp only [evF3, ho, hc, cond_false]
  exact hk m (by omega)

/-- Of a function of which the answer is known. -/
theorem W_known {f : Nat} {as : List V} {X : Hp} {v : V} (ho : ovd f = true) (h : ov f as = some v) : W G pu ovd cln ov Γ f as X = some (v, X) := by
  refine W_of (k0 := 1) (fun k hkk => ?_)
  obtain ⟨m, rfl⟩ : ∃ m, k = m + 1 := ⟨k - 1, by omega⟩
  simp only [evF3, ho, cond_true, h, bnd]

/-- The copy of an empty slice. -/
theorem W_clone {f : Nat} {ex : Bool} {X : Hp} (ho : ovd f = false) (hc : cln f = true) : W G pu ovd cln ov Γ f [.sl ex []] X = some (.sl true [], X) := by
  refine W_of (k0 := 1) (fun k hkk => ?_)
  obtain ⟨m, rfl⟩ : ∃ m, k = m + 1 := ⟨k - 1, by omega⟩
  simp only [evF3, ho, cl0, hc, cond_false, cond_true]

/-- And the second machine's call. -/
theorem W_run {ov2 : Known} (hov : OvS ovd ov ov2) (hcln : ClnOk cln Γ) (hok : ∀ f fn, Γ f = some fn → fn.ok = true) {f : Nat} {as : List V} {v : V} {X' : Hp} (hp : pu f = true) (h : W G pu ovd cln ov Γ f as .emp = some (v, X')) {Φ : Fz} {H : Heap} {as2 : List Value}
    (I : HInv noα Φ .emp H) (hG : GlOk G Φ) (hr : Rs noα Φ as as2) : ∃ k u H' Φ', evF (erΓ Γ) ov2 k f as2 H = some (u, H') ∧ PureS Φ H v u Φ' H' := by
  obtain ⟨k0, hk⟩ := W_td G pu ovd cln ov Γ f as .emp _ h
  obtain ⟨u, H', Φ', e1, e2⟩ := (fn_sim (G := G) (pu := pu) hov hcln hok k0).pure f as v X' hp (hk k0 (Nat.le_refl _)) Φ H as2 I hG hr
  exact ⟨k0, u, H', Φ', e1, e2⟩
end
end
end Go.Proofs.YtapkmhneneffdaaGreatDoor.M3

/-! The text ZafA. -/
namespace Go.Proofs.YtapkmhneneffdaaGreatDoor.M3
open Go Go.Proofs.YtapkmhneneffdaaGreatDoor.Mx

/-- A slice: its elements, and whether it has no spare room. -/
structure S (α : Type) where
  ex : Bool
  l : List α
  deriving Inhabited

structure LEdge where
  block : Int
  args : S Int
  deriving Inhabited
structure LInstr where
  op : Int
  ty : Int
  dst : Int
  args : S Int
  imm : Int
  sym : Int
  elem : Int
  noWrap : Bool
  deriving Inhabited
structure LTerm where
  kind : Int
  args : S Int
  cases : S Int
  succs : S LEdge
  sym : Int
  deriving Inhabited
structure LBlock where
  params : S Int
  instrs : S LInstr
  term : LTerm
  deriving Inhabited
structure LFunc where
  name : ByteArray
  params : S Int
  result : Int
  regs : S Int
  blocks : S LBlock
  deriving Inhabited
structure LGlobal where
  name : ByteArray
  elem : Int
  len : Int
  init : S Int
  readOnly : Bool
  deriving Inhabited
structure LModule where
  globals : S LGlobal
  funcs : S LFunc
  deriving Inhabited
structure LDiag where
  code : Int
  part : Int
  index : Int
  block : Int
  instr : Int
  deriving Inhabited

structure LPos where
  block : Int
  index : Int
  deriving Inhabited
structure LPath where
  start : Int
  target : S Int
  source : S Int
  end_ : Int
  deriving Inhabited
structure LExpr where
  op : Int
  ty : Int
  n : Int
  deriving Inhabited
structure LInvar where
  ofSource : Bool
  exact : Bool
  reg : Int
  expr : S LExpr
  deriving Inhabited
structure LCut where
  target : Int
  source : Int
  invars : S LInvar
  deriving Inhabited
structure LWitness where
  expand : S LPos
  cutPoints : S LCut
  paths : S LPath
  deriving Inhabited
structure LGraph where
  succs : S (S Int)
  deriving Inhabited
structure LSteps where
  kind : Int
  a : Int
  b : Int
  n : Int
  t : Int
  deriving Inhabited
structure LSearch where
  f : LFunc
  cutBlocks : S Int
  paths : S LPath
  failed : Bool
  deriving Inhabited

/-- Are two strings equal? -/
def strEq (a b : ByteArray) : Bool := a.toList == b.toList

def eI (n : Int) : V := .i .i64 n
def S.enc {α : Type} (e : α → V) (s : S α) : V := .sl s.ex (s.l.map e)
def eInts (s : S Int) : V := s.enc eI
def eEdge (e : LEdge) : V := .agg [eI e.block, eInts e.args]
def eInstr (i : LInstr) : V := .agg [eI i.op, eI i.ty, eI i.dst, eInts i.args, eI i.imm, eI i.sym, eI i.elem, .b i.noWrap]
def eTerm (t : LTerm) : V := .agg [eI t.kind, eInts t.args, eInts t.cases, t.succs.enc eEdge, eI t.sym]
def eBlock (b : LBlock) : V := .agg [eInts b.params, b.instrs.enc eInstr, eI b.term.kind, eInts b.term.args, eInts b.term.cases, b.term.succs.enc eEdge, eI b.term.sym]
def eFunc (f : LFunc) : V := .agg [.s f.name, eInts f.params, eI f.result, eInts f.regs, f.blocks.enc eBlock]
def eGlobal (g : LGlobal) : V := .agg [.s g.name, eI g.elem, eI g.len, eInts g.init, .b g.readOnly]
def eModule (m : LModule) : V := .agg [m.globals.enc eGlobal, m.funcs.enc eFunc]
def eDiag (d : LDiag) : V := .agg [eI d.code, eI d.part, eI d.index, eI d.block, eI d.instr]


def ePos (p : LPos) : V := .agg [eI p.block, eI p.index]
def ePath (p : LPath) : V := .agg [eI p.start, eInts p.target, eInts p.source, eI p.end_]
def eExpr (x : LExpr) : V := .agg [eI x.op, eI x.ty, eI x.n]
def eInvar (x : LInvar) : V := .agg [.b x.ofSource, .b x.exact, eI x.reg, x.expr.enc eExpr]
def eCut (x : LCut) : V := .agg [eI x.target, eI x.source, x.invars.enc eInvar]
def eWitness (x : LWitness) : V := .agg [x.expand.enc ePos, x.cutPoints.enc eCut, x.paths.enc ePath]
def eGraph (x : LGraph) : V := .agg [x.succs.enc eInts]
def eSteps (x : LSteps) : V := .agg [eI x.kind, eI x.a, eI x.b, eI x.n, eI x.t]

/-! ### what slices give -/
theorem iaddr_enc {α : Type} {e : α → V} {s : S α} {X : Hp} {esz : Nat} {k : Nat} {a : α} (h : s.l[k]? = some a) (hc : (e a).cells.length = esz) : iaddr3 X esz (s.enc e) (.i .i64 (k : Int)) = some (.pe (e a) 0) := by
  simp [iaddr3, S.enc, h, hc]

theorem load_whole {X : Hp} {l : List V} {n : Nat} (h : n = l.length) : X.load true n (.pe (.agg l) 0) = some (.agg l) := by
  subst h; simp [Hp.load, sub]

theorem load_int {X : Hp} {k : IntKind} {n : Int} : X.load false 1 (.pe (.i k n) 0) = some (.i k n) := rfl

theorem wrap64 {n : Int} (h0 : 0 ≤ n) (h1 : n < 9223372036854775808) : IntKind.i64.wrap n = n := by
  simp [IntKind.wrap, IntKind.bits, IntKind.signed]; omega

end Go.Proofs.YtapkmhneneffdaaGreatDoor.M3

/-! The text ZahA. -/
namespace Go.Proofs.YtapkmhneneffdaaGreatDoor.M3
open Go Go.Proofs.YtapkmhneneffdaaGreatDoor.Mx

/-- What comes of calls and of hooked operations (by the temporary that is set). -/
structure Or where
  cl : Nat → List V → Hp → {R : Type} → (V → Hp → Option R) → Option R
  hk : Option Nat → Bool
  op : Option Nat → Mx.I → List V → Hp → {R : Type} → (V → Hp → Option R) → Option R

def noCl : Cl3 := fun _ _ _ => none

/-- What an operation reads. -/
def opv (G : Gl) (T : Fr) : Mx.I → List V
  | .iaddr _ x y => [ev3 G T x, ev3 G T y]
  | .strindex x y => [ev3 G T x, ev3 G T y]
  | .bin _ _ x y => [ev3 G T x, ev3 G T y]
  | .append _ _ _ _ _ x y => [ev3 G T x, ev3 G T y]
  | .load _ _ x => [ev3 G T x]
  | .store _ x y => [ev3 G T x, ev3 G T y]
  | .copy _ x y => [ev3 G T x, ev3 G T y]
  | .mkslice _ _ _ _ _ x y => [ev3 G T x, ev3 G T y]
  | .lookup _ _ _ x y => [ev3 G T x, ev3 G T y]
  | .mapset _ x y z => [ev3 G T x, ev3 G T y, ev3 G T z]
  | .maplen x => [ev3 G T x]
  | .slice _ x lo hi mx => ev3 G T x :: ((lo.map (ev3 G T)).toList ++ (hi.map (ev3 G T)).toList ++ (mx.map (ev3 G T)).toList)
  | _ => []

section
variable (G : Gl) (q : Or)

def evKS (d : Option Nat) (T : Fr) (H : Hp) {R : Type} (i : I) (κ : V → Hp → Option R) : Option R :=
  bif q.hk d then q.op d i (opv G T i) H κ else
  match i with
  | .call f as => match ev3 G T f with
    | .fn g first cap => q.cl g (first ++ as.map (ev3 G T) ++ cap) H fun v H => match v with
      | .pan _ => none
      | v => κ v H
    | _ => none
  | i => evK G noCl T H i κ

/-- By what an operation is named in the tables. -/
def keyOf (dst : Option Nat) (i : Mx.I) : Option Nat :=
  match dst with
  | some d => some d
  | none => match i with
    | .store _ (.t a) _ => some (100000 + a)
    | .mapset _ (.t a) _ _ => some (100000 + a)
    | _ => none

def evOpsS {R : Type} : List Ins → Fr → Hp → Tr Lg3 → Option (List Nat) → (Fr → Hp → Option R) → Option R
  | [], T, H, _, _, κ => κ T H
  | i :: l, T, H, log, tn, κ => match i.guard with
    | none => evKS G q (keyOf i.dst i.op) T H i.op fun v H' => ands (chk3 H tn log G T i.op v i.chk) (fork v fun v => evOpsS l (putF T i.dst v) H' (lg3 H G T i log) (tnx G T i v tn) κ)
    | some (g, w) => match rd3 T g with
      | .b t => bif t == w then evKS G q (keyOf i.dst i.op) T H i.op fun v H' => ands (chk3 H tn log G T i.op v i.chk) (fork v fun v => evOpsS l (putF T i.dst v) H' (lg3 H G T i log) (tnx G T i v tn) κ)
          else evOpsS l (putF T i.dst und) H log tn κ
      | .tup [] => evOpsS l (putF T i.dst und) H log tn κ
      | _ => none
end

/-! ### what it answers, the machine answers -/
def Le {R : Type} (x y : Option R) : Prop := ∀ r, x = some r → y = some r
def LeP {R R' : Type} (P : R → R' → Prop) (x : Option R) (y : Option R') : Prop := ∀ r, x = some r → ∃ r', y = some r' ∧ P r r'
section
variable {R R' : Type} {P : R → R' → Prop}
theorem Le.rfl {x : Option R} : Le x x := fun _ h => h
theorem Le.p {x y : Option R} (h : Le x y) : LeP (fun a b : R => a = b) x y := fun r hr => ⟨r, h r hr, Eq.refl r⟩
theorem LeP.le {x y : Option R} (h : LeP (fun a b : R => a = b) x y) : Le x y := fun r hr => by
  obtain ⟨r', h1, h2⟩ := h r hr
  subst h2; exact h1
theorem LeP.none {y : Option R'} : LeP P Option.none y := fun r h => by cases h
theorem LeP.bnd {Q : Type} {x y : Option Q} {κ : Q → Option R} {κ' : Q → Option R'} (hx : Le x y) (hκ : ∀ a, LeP P (κ a) (κ' a)) : LeP P (M3.bnd x κ) (M3.bnd y κ') := fun r h => by
  obtain ⟨a, h1, h2⟩ := bnd_some h
  rw [hx a h1]; exact hκ a r h2
theorem LeP.ands {b : Bool} {x : Option R} {y : Option R'} (h : LeP P x y) : LeP P (M3.ands b x) (M3.ands b y) := by
  cases b with
  | true => exact h
  | false => exact LeP.none
theorem LeP.ite {c : Prop} [Decidable c] {x x' : Option R} {y y' : Option R'} (h : LeP P x y) (h' : LeP P x' y') : LeP P (if c then x else x') (if c then y else y') := by
  by_cases hc : c
  · simp only [hc, if_true]; exact h
  · simp only [hc, if_false]; exact h'
theorem LeP.cond {b : Bool} {x x' : Option R} {y y' : Option R'} (h : LeP P x y) (h' : LeP P x' y') : LeP P (bif b then x else x') (bif b then y else y') := by
  cases b with
  | true => exact h
  | false => exact h'

variable {G : Gl} {q : Or} {cl : Cl3}

def finH (H X : Hp) : Hp := ⟨H.clock, H.ep + 1, X.pl, X.obs⟩
theorem fin_H {H X : Hp} {slot st idx : Nat} (h : H.fin slot st idx = some X) : finH H X = X := by
  unfold Hp.fin at h
  split at h
  case h_2 => cases h
  split at h
  case h_2 => cases h
  split at h
  case h_2 => cases h
  rename_i v' s hs
  cases hc : s.contains slot with
  | true => rw [hc] at h; cases h
  | false => rw [hc] at h; cases h; rfl
def finK {R : Type} (t : Nat) (T : Fr) (H : Hp) (κ : Hp → Option R) : Option R :=
  match rd3 T t with
  | .pr slot st idx _ => bnd (H.fin slot st idx) fun X => κ (finH H X)
  | _ => none

/-- The tables are right. -/
def ClOk (cl : Cl3) (q : Or) : Prop := ∀ (g : Nat) (as : List V) (X : Hp) {R R' : Type} {P : R → R' → Prop} (κ : V → Hp → Option R) (κ' : V → Hp → Option R'), (∀ v X, LeP P (κ v X) (κ' v X)) → LeP P (q.cl g as X κ) (M3.bnd (cl g as X) fun r => κ' r.1 r.2)

theorem evK_le {cl' : Cl3} (hcl : ∀ f as X, Le (cl' f as X) (cl f as X)) {T : Fr} {X : Hp} {i : Mx.I} {κ : V → Hp → Option R} {κ' : V → Hp → Option R'} (hκ : ∀ v X, LeP P (κ v X) (κ' v X)) : LeP P (evK G cl' T X i κ) (evK G cl T X i κ') := by
  cases i <;> simp only [evK] <;> (try exact LeP.none) <;> (try exact hκ _ _)
  case mkfn fn first cap =>
    cases fn <;> simp only [evK] <;> first | exact hκ _ _ | exact LeP.none
  case call f as =>
    cases ev3 G T f <;> simp only <;> (try exact LeP.none)
    refine LeP.bnd (hcl _ _ _) (fun a => ?_)
    obtain ⟨v, X'⟩ := a
    cases v <;> simp only <;> first | exact hκ _ _ | exact LeP.none
  case tassert t z x => cases z <;> simp only <;> (repeat' first | exact hκ _ _ | (refine LeP.bnd Le.rfl (fun a => ?_)))
  all_goals (repeat' first | exact hκ _ _ | (refine LeP.bnd Le.rfl (fun a => ?_)) | (refine LeP.ite ?_ ?_) | exact LeP.none)

def HkOk (G : Gl) (cl : Cl3) (q : Or) : Prop := ∀ d i T H, q.hk d = true → ∀ {R R' : Type} {P : R → R' → Prop} (κ : V → Hp → Option R) (κ' : V → Hp → Option R'), (∀ v X, LeP P (κ v X) (κ' v X)) → ∀ r, q.op d i (opv G T i) H κ = some r → ∃ v X r', evI3 G cl T H i = some (v, X) ∧ κ' v X = some r' ∧ P r r'

theorem evKS_le (hcl : ClOk cl q) (hix : HkOk G cl q) {d : Option Nat} {T : Fr} {X : Hp} {i : Mx.I} {κ : V → Hp → Option R} {κ' : V → Hp → Option R'} (hκ : ∀ v X, LeP P (κ v X) (κ' v X)) : LeP P (evKS G q d T X i κ) (evK G cl T X i κ') := by
  unfold evKS
  cases hd : q.hk d with
  | false =>
    simp only [cond_false]
    split
    · rename_i f as
      simp only [evK]
      cases ev3 G T f <;> simp only <;> (try exact LeP.none)
      refine hcl _ _ _ _ (fun v X => match v with | .pan _ => none | v => κ' v X) (fun v X => ?_)
      cases v <;> simp only <;> first | exact hκ _ _ | exact LeP.none
    · exact evK_le (fun _ _ _ => LeP.le LeP.none) hκ
  | true =>
    intro r h
    obtain ⟨v, X', r', h1, h2, h3⟩ := hix d i T X hd κ κ' hκ r h
    rw [evK_bnd, h1]
    exact ⟨r', h2, h3⟩

theorem evOpsS_le (hcl : ClOk cl q) (hix : HkOk G cl q) {κ : Fr → Hp → Option R} {κ' : Fr → Hp → Option R'} (hκ : ∀ T X, LeP P (κ T X) (κ' T X)) : ∀ (l : List Ins) (T : Fr) (X : Hp) (log : Tr Lg3) (tn : Option (List Nat)), LeP P (evOpsS G q l T X log tn κ) (evOps G cl l T X log tn κ')
  | [], T, X, log, tn => hκ T X
  | ⟨idx, dst, guard, op, chk, lg⟩ :: l, T, X, log, tn => by
    have ih := evOpsS_le hcl hix hκ l
    unfold evOpsS evOps
    simp only [fork_eq]
    have gd : ∀ (F : Bool → Option R) (F' : Bool → Option R') (E : Option R) (E' : Option R') (g : Nat), (∀ t, LeP P (F t) (F' t)) → LeP P E E' → LeP P (match rd3 T g with
        | .b t => F t
        | .tup [] => E
        | _ => none) (match rd3 T g with
        | .b t => F' t
        | .tup [] => E'
        | _ => none) := by
      intro F F' E E' g h1 h2
      cases rd3 T g
      case b t => exact h1 t
      case tup l' =>
        cases l'
        · exact h2
        · exact LeP.none
      all_goals exact LeP.none
    cases guard with
    | none => exact evKS_le hcl hix fun v X => LeP.ands (ih _ _ _ _)
    | some gw => exact gd _ _ _ _ gw.1 (fun t => LeP.cond (evKS_le hcl hix fun v X => LeP.ands (ih _ _ _ _)) (ih _ _ _ _)) (ih _ _ _ _)
end

abbrev Tl (R : Type) := List Nat → List V → Hp → Option R

section
variable (G : Gl) (q : Or) (rs : Option Nat) {R : Type} (tl : Tl R)
def evX : C3 → Fr → Hp → (Ex3 → Fr → Hp → Option R) → Option R
  | .skip, T, H, κ => κ .normal T H
  | .region _ ops, T, H, κ => evOpsS G q ops T H .nil none fun T H => κ .normal T H
  | .seq a b, T, H, κ => evX a T H fun e T H => match e with
    | .normal => evX b T H κ
    | e => κ e T H
  | .cond c a b, T, H, κ => match ev3 G T c with
    | .b t => bif t then evX a T H κ else evX b T H κ
    | _ => none
  | .block id c, T, H, κ => evX c T H fun e T H => match e with
    | .exit i => bif i == id then κ .normal T H else κ (.exit i) T H
    | e => κ e T H
  | .loop live _, T, H, _ => tl live (anew rs (live.map (rd3 T)) H).1 (anew rs (live.map (rd3 T)) H).2
  | .exit id, T, H, κ => κ (.exit id) T H
  | .ret, T, H, κ => κ .ret T H
  | .callp d f as, T, H, κ => match ev3 G T f with
    | .fn g first cap => q.cl g (first ++ as.map (ev3 G T) ++ cap) H fun v H => match v with
      | .pan v => κ (.pan v) T H
      | v => fork v fun v => κ .normal (putF T d v) H
    | _ => none
  | .panic x, T, H, κ => match ev3 G T x with
    | .ifc t v => κ (.pan (.ifc t v)) T H
    | _ => none
  | .pre p c, T, H, κ => match p with
    | .keep ts => tl ts (anew rs (ts.map (rd3 T)) H).1 (anew rs (ts.map (rd3 T)) H).2
    | .fin t => finK t T H fun H => evX c T H κ
    | p => bnd (p.run T H) fun r => evX c r.1 r.2 κ
  | .post c p, T, H, κ => evX c T H fun e T H => match e with
    | .normal => bnd (p.run T H) fun r => κ .normal r.1 r.2
    | .exit i => bnd (p.run T H) fun r => κ (.exit i) r.1 r.2
    | e => κ e T H

/-- What is left to do behind a place of the code. -/
inductive Kf where
  | seq (b : C3)
  | blk (id : Nat)
  | post (p : Ps)
  | lp (live : List Nat) (c : C3)

variable (kend : Ex3 → Fr → Hp → Option R)
def kS : List Kf → Ex3 → Fr → Hp → Option R
  | [], e, T, H => kend e T H
  | .seq b :: k, e, T, H => match e with
    | .normal => evX G q rs tl b T H (kS k)
    | e => kS k e T H
  | .blk id :: k, e, T, H => match e with
    | .exit i => bif i == id then kS k .normal T H else kS k (.exit i) T H
    | e => kS k e T H
  | .post p :: k, e, T, H => match e with
    | .normal => bnd (p.run T H) fun r => kS k .normal r.1 r.2
    | .exit i => bnd (p.run T H) fun r => kS k (.exit i) r.1 r.2
    | e => kS k e T H
  | .lp live _ :: k, e, T, H => match e with
    | .normal => tl live (anew rs (live.map (rd3 T)) H).1 (anew rs (live.map (rd3 T)) H).2
    | e => kS k e (ofP live (live.map (rd3 T))) H

variable (cl : Cl3)
abbrev BdOf (lp : Lp3) (live : List Nat) (c : C3) : Bd := fun vs H => evCK G cl lp c (ofP live vs) H fun e T H => some (e, live.map (rd3 T), H)
/-- The same by the machine. -/
noncomputable def kR : List Kf → Ex3 → Fr → Hp → Option R
  | [], e, T, H => kend e T H
  | .seq b :: k, e, T, H => match e with
    | .normal => evCK G cl (loopW rs) b T H (kR k)
    | e => kR k e T H
  | .blk id :: k, e, T, H => match e with
    | .exit i => bif i == id then kR k .normal T H else kR k (.exit i) T H
    | e => kR k e T H
  | .post p :: k, e, T, H => match e with
    | .normal => bnd (p.run T H) fun r => kR k .normal r.1 r.2
    | .exit i => bnd (p.run T H) fun r => kR k (.exit i) r.1 r.2
    | e => kR k e T H
  | .lp live c :: k, e, T, H => match e with
    | .normal => bnd (loopW rs (BdOf G cl (loopW rs) live c) (live.map (rd3 T)) H) fun r => kR k r.1 (ofP live r.2.1) r.2.2
    | e => kR k e (ofP live (live.map (rd3 T))) H
end

abbrev Cut := List Nat × C3 × List Kf
/-- The places where pieces begin. -/
def cuts : C3 → List Kf → List Cut
  | .seq a b, k => cuts a (.seq b :: k) ++ cuts b k
  | .cond _ a b, k => cuts a k ++ cuts b k
  | .block id c, k => cuts c (.blk id :: k)
  | .post c p, k => cuts c (.post p :: k)
  | .pre p c, k => match p with
    | .keep ts => (ts, c, k) :: cuts c k
    | _ => cuts c k
  | .loop live c, k => (live, c, .lp live c :: k) :: cuts c (.lp live c :: k)
  | _, _ => []
def fcuts : List Kf → List Cut
  | [] => []
  | .seq b :: k => cuts b k ++ fcuts k
  | .blk _ :: k => fcuts k
  | .post _ :: k => fcuts k
  | .lp live c :: k => (live, c, .lp live c :: k) :: (cuts c (.lp live c :: k) ++ fcuts k)

theorem cuts_sub : ∀ (c : C3) (k : List Kf) (p : Cut), p ∈ cuts c k → (∀ r ∈ cuts p.2.1 p.2.2, r ∈ cuts c k ++ fcuts k) ∧ (∀ r ∈ fcuts p.2.2, r ∈ cuts c k ++ fcuts k) := by
  intro c
  induction c with
  | skip => intro k p h; cases h
  | ret => intro k p h; cases h
  | exit id => intro k p h; cases h
  | region na ops => intro k p h; cases h
  | callp d f as => intro k p h; cases h
  | panic x => intro k p h; cases h
  | seq a b iha ihb =>
    intro k p h
    simp only [cuts, List.mem_append] at h ⊢
    rcases h with h | h
    · obtain ⟨h1, h2⟩ := iha (.seq b :: k) p h
      simp only [fcuts, List.mem_append] at h1 h2
      refine ⟨fun r hr => ?_, fun r hr => ?_⟩
      · rcases h1 r hr with h | h | h <;> simp [h]
      · rcases h2 r hr with h | h | h <;> simp [h]
    · obtain ⟨h1, h2⟩ := ihb k p h
      simp only [List.mem_append] at h1 h2
      refine ⟨fun r hr => ?_, fun r hr => ?_⟩
      · rcases h1 r hr with h | h <;> simp [h]
      · rcases h2 r hr with h | h <;> simp [h]
  | cond x a b iha ihb =>
    intro k p h
    simp only [cuts, List.mem_append] at h ⊢
    rcases h with h | h
    · obtain ⟨h1, h2⟩ := iha k p h
      simp only [List.mem_append] at h1 h2
      refine ⟨fun r hr => ?_, fun r hr => ?_⟩
      · rcases h1 r hr with h | h <;> simp [h]
      · rcases h2 r hr with h | h <;> simp [h]
    · obtain ⟨h1, h2⟩ := ihb k p h
      simp only [List.mem_append] at h1 h2
      refine ⟨fun r hr => ?_, fun r hr => ?_⟩
      · rcases h1 r hr with h | h <;> simp [h]
      · rcases h2 r hr with h | h <;> simp [h]
  | block id c ih =>
    intro k p h
    exact ih (.blk id :: k) p h
  | post c q ih =>
    intro k p h
    exact ih (.post q :: k) p h
  | pre q c ih =>
    intro k p h
    cases q with
    | keep ts =>
      simp only [cuts, List.mem_cons] at h
      rcases h with rfl | h
      · exact ⟨fun r hr => by simp [cuts]; exact .inr (.inl hr), fun r hr => by simp [hr]⟩
      · obtain ⟨h1, h2⟩ := ih k p h
        refine ⟨fun r hr => ?_, fun r hr => ?_⟩
        · have := h1 r hr; simp [cuts] at this ⊢; exact .inr this
        · have := h2 r hr; simp [cuts] at this ⊢; exact .inr this
    | frz ts => exact ih k p h
    | fin t => exact ih k p h
    | free ts => exact ih k p h
  | loop live c ih =>
    intro k p h
    simp only [cuts, List.mem_cons] at h
    have up : ∀ r, r ∈ cuts c (.lp live c :: k) ++ fcuts (.lp live c :: k) → r ∈ cuts (.loop live c) k ++ fcuts k := by
      intro r hr
      simp only [cuts, fcuts, List.mem_append, List.mem_cons] at hr ⊢
      rcases hr with h | h | h | h
      · exact .inl (.inr h)
      · exact .inl (.inl h)
      · exact .inl (.inr h)
      · exact .inr h
    rcases h with rfl | h
    · exact ⟨fun r hr => up r (List.mem_append_left _ hr), fun r hr => up r (List.mem_append_right _ hr)⟩
    · obtain ⟨h1, h2⟩ := ih _ p h
      exact ⟨fun r hr => up r (h1 r hr), fun r hr => up r (h2 r hr)⟩

/-! ### ends of code can be moved out -/
theorem bnd_bnd {A B C : Type} (x : Option A) (f : A → Option B) (g : B → Option C) : bnd (bnd x f) g = bnd x fun a => bnd (f a) g := by cases x <;> rfl
theorem bnd_ands {A B : Type} (b : Bool) (x : Option A) (f : A → Option B) : bnd (ands b x) f = ands b (bnd x f) := by cases b <;> rfl
theorem bnd_cond {A B : Type} (b : Bool) (x y : Option A) (f : A → Option B) : bnd (bif b then x else y) f = bif b then bnd x f else bnd y f := by cases b <;> rfl

theorem evOps_bnd {G : Gl} {cl : Cl3} {A B : Type} (f : A → Option B) : ∀ (l : List Ins) (T : Fr) (X : Hp) (log : Tr Lg3) (tn : Option (List Nat)) (κ : Fr → Hp → Option A), bnd (evOps G cl l T X log tn κ) f = evOps G cl l T X log tn fun T H => bnd (κ T H) f
  | [], T, X, log, tn, κ => rfl
  | ⟨idx, dst, guard, op, chk, lg⟩ :: l, T, X, log, tn, κ => by
    unfold evOps
    have one : ∀ X', bnd (evK G cl T X op fun v H' => ands (chk3 X' tn log G T op v chk) (fork v fun v => evOps G cl l (putF T dst v) H' (lg3 X G T ⟨idx, dst, guard, op, chk, lg⟩ log) (tnx G T ⟨idx, dst, guard, op, chk, lg⟩ v tn) κ)) f
        = evK G cl T X op fun v H' => ands (chk3 X' tn log G T op v chk) (fork v fun v => evOps G cl l (putF T dst v) H' (lg3 X G T ⟨idx, dst, guard, op, chk, lg⟩ log) (tnx G T ⟨idx, dst, guard, op, chk, lg⟩ v tn) fun T H => bnd (κ T H) f) := by
      intro X'
      rw [evK_bnd, evK_bnd (κ := fun v H' => ands (chk3 X' tn log G T op v chk) (fork v fun v => evOps G cl l (putF T dst v) H' (lg3 X G T ⟨idx, dst, guard, op, chk, lg⟩ log) (tnx G T ⟨idx, dst, guard, op, chk, lg⟩ v tn) fun T H => bnd (κ T H) f)), bnd_bnd]
      refine congrArg _ (funext fun r => ?_)
      rw [bnd_ands, fork_eq, fork_eq, evOps_bnd f l]
    cases guard with
    | none => exact one X
    | some gw =>
      simp only
      cases rd3 T gw.1
      case b t =>
        show bnd (bif t == gw.2 then _ else _) f = bif t == gw.2 then _ else _
        rw [bnd_cond, one X, evOps_bnd f l]
      case tup l' =>
        cases l'
        · exact evOps_bnd f l _ _ _ _ _
        · rfl
      all_goals rfl

theorem evCK_bnd {G : Gl} {cl : Cl3} {lp : Lp3} : ∀ (c : C3) {A B : Type} (f : A → Option B) (T : Fr) (X : Hp) (κ : Ex3 → Fr → Hp → Option A), bnd (evCK G cl lp c T X κ) f = evCK G cl lp c T X fun e T H => bnd (κ e T H) f := by
  intro c
  induction c with
  | skip => intro A B f T X κ; rfl
  | ret => intro A B f T X κ; rfl
  | exit id => intro A B f T X κ; rfl
  | region na ops => intro A B f T X κ; exact evOps_bnd f ops T X _ _ _
  | seq a b iha ihb =>
    intro A B f T X κ
    simp only [evCK]
    rw [iha]
    refine congrArg _ (funext fun e => funext fun T => funext fun H => ?_)
    cases e <;> simp only <;> first | rfl | exact ihb f T H κ
  | cond x a b iha ihb =>
    intro A B f T X κ
    simp only [evCK]
    cases ev3 G T x <;> simp only <;> first | rfl | rw [bnd_cond, iha, ihb]
  | block id c ih =>
    intro A B f T X κ
    simp only [evCK]
    rw [ih]
    refine congrArg _ (funext fun e => funext fun T => funext fun H => ?_)
    cases e <;> simp only <;> first | rfl | rw [bnd_cond]
  | loop live c ih =>
    intro A B f T X κ
    simp only [evCK]
    rw [bnd_bnd]
  | callp d g as =>
    intro A B f T X κ
    simp only [evCK, fork_eq]
    cases ev3 G T g <;> simp only <;> try rfl
    rw [bnd_bnd]
    refine congrArg _ (funext fun r => ?_)
    cases r.1 <;> rfl
  | panic x =>
    intro A B f T X κ
    simp only [evCK]
    cases ev3 G T x <;> rfl
  | pre p c ih =>
    intro A B f T X κ
    simp only [evCK]
    cases p <;> simp only <;> rw [bnd_bnd] <;> exact congrArg _ (funext fun r => ih f _ _ κ)
  | post c p ih =>
    intro A B f T X κ
    simp only [evCK]
    rw [ih]
    refine congrArg _ (funext fun e => funext fun T => funext fun H => ?_)
    cases e <;> simp only <;> first | rfl | rw [bnd_bnd]

section
variable {G : Gl} {q : Or} {rs : Option Nat} {cl : Cl3} {R R' : Type} {P : R → R' → Prop} {tl : Tl R} {kend : Ex3 → Fr → Hp → Option R} {kend' : Ex3 → Fr → Hp → Option R'}

/-- A loop begins. -/
theorem loop_kR (live : List Nat) (c : C3) (k : List Kf) (vs : List V) (H : Hp) :
    (bnd (loopW rs (BdOf G cl (loopW rs) live c) vs H) fun r => kR G rs kend' cl k r.1 (ofP live r.2.1) r.2.2) =
      evCK G cl (loopW rs) c (ofP live (anew rs vs H).1) (anew rs vs H).2 (kR G rs kend' cl (.lp live c :: k)) := by
  rw [loopW_eq]
  have : evCK G cl (loopW rs) c (ofP live (anew rs vs H).1) (anew rs vs H).2 (kR G rs kend' cl (.lp live c :: k)) = bnd (BdOf G cl (loopW rs) live c (anew rs vs H).1 (anew rs vs H).2) fun r => match r.1 with
      | .normal => bnd (loopW rs (BdOf G cl (loopW rs) live c) r.2.1 r.2.2) fun r => kR G rs kend' cl k r.1 (ofP live r.2.1) r.2.2
      | e => kR G rs kend' cl k e (ofP live r.2.1) r.2.2 := by
    show _ = bnd (evCK G cl (loopW rs) c _ _ _) _
    rw [evCK_bnd]
    refine congrArg _ (funext fun e => funext fun T => funext fun H => ?_)
    cases e <;> rfl
  rw [this]
  match BdOf G cl (loopW rs) live c (anew rs vs H).1 (anew rs vs H).2 with
  | none => rfl
  | some (.normal, vs', H') => rfl
  | some (.exit i, vs', H') => rfl
  | some (.ret, vs', H') => rfl
  | some (.pan v, vs', H') => rfl

theorem keep_W (ts : List Nat) (vs : List V) (H : Hp) : loopW rs (fun vs H => some (.ret, vs, H)) vs H = some (.ret, (anew rs vs H).1, (anew rs vs H).2) := by
  rw [loopW_eq]

/-- A piece's table is right. -/
def CutOk (G : Gl) (rs : Option Nat) (cl : Cl3) (P : R → R' → Prop) (tl : Tl R) (kend' : Ex3 → Fr → Hp → Option R') (p : Cut) : Prop := ∀ vs H, LeP P (tl p.1 vs H) (evCK G cl (loopW rs) p.2.1 (ofP p.1 vs) H (kR G rs kend' cl p.2.2))

theorem evX_le (hcl : ClOk cl q) (hix : HkOk G cl q) : ∀ (c : C3) (k : List Kf), (∀ p ∈ cuts c k, CutOk G rs cl P tl kend' p) → ∀ (κ : Ex3 → Fr → Hp → Option R), (∀ e T X, LeP P (κ e T X) (kR G rs kend' cl k e T X)) → ∀ (T : Fr) (X : Hp), LeP P (evX G q rs tl c T X κ) (evCK G cl (loopW rs) c T X (kR G rs kend' cl k)) := by
  intro c
  induction c with
  | skip => intro k _ κ hκ T X; exact hκ _ _ _
  | ret => intro k _ κ hκ T X; exact hκ _ _ _
  | exit id => intro k _ κ hκ T X; exact hκ _ _ _
  | region na ops => intro k _ κ hκ T X; exact evOpsS_le hcl hix (fun T X => hκ _ T X) ops T X .nil none
  | seq a b iha ihb =>
    intro k hc κ hκ T X
    refine iha (.seq b :: k) (fun p hp => hc p (List.mem_append_left _ hp)) _ (fun e T X => ?_) T X
    cases e with
    | normal => exact ihb k (fun p hp => hc p (List.mem_append_right _ hp)) κ hκ T X
    | exit i => exact hκ _ _ _
    | ret => exact hκ _ _ _
    | pan v => exact hκ _ _ _
  | cond x a b iha ihb =>
    intro k hc κ hκ T X
    simp only [evX, evCK]
    cases ev3 G T x <;> simp only <;> (try exact LeP.none)
    exact LeP.cond (iha k (fun p hp => hc p (List.mem_append_left _ hp)) _ hκ T X) (ihb k (fun p hp => hc p (List.mem_append_right _ hp)) _ hκ T X)
  | block id c ih =>
    intro k hc κ hκ T X
    refine ih (.blk id :: k) hc _ (fun e T X => ?_) T X
    cases e with
    | exit i => exact LeP.cond (hκ _ _ _) (hκ _ _ _)
    | normal => exact hκ _ _ _
    | ret => exact hκ _ _ _
    | pan v => exact hκ _ _ _
  | loop live c ih =>
    intro k hc κ hκ T X
    have h := hc (live, c, .lp live c :: k) (List.mem_cons_self ..) (anew rs (live.map (rd3 T)) X).1 (anew rs (live.map (rd3 T)) X).2
    simp only at h
    rw [← loop_kR] at h
    exact h
  | callp d f as =>
    intro k hc κ hκ T X
    simp only [evX, evCK, fork_eq]
    cases ev3 G T f <;> simp only <;> (try exact LeP.none)
    refine hcl _ _ _ _ (fun v X => match v with | .pan v => kR G rs kend' cl k (.pan v) T X | v => kR G rs kend' cl k .normal (putF T d v) X) (fun v X => ?_)
    cases v <;> exact hκ _ _ _
  | panic x =>
    intro k hc κ hκ T X
    simp only [evX, evCK]
    cases ev3 G T x <;> simp only <;> (try exact LeP.none)
    exact hκ _ _ _
  | pre p c ih =>
    intro k hc κ hκ T X
    simp only [evX, evCK]
    cases p with
    | keep ts =>
      simp only [keep_W ts, bnd]
      exact hc (ts, c, k) (List.mem_cons_self ..) _ _
    | frz ts => exact LeP.bnd Le.rfl fun a => ih k hc _ hκ _ _
    | fin t =>
      simp only [finK, Ps.run]
      cases rd3 T t <;> simp only <;> (try exact LeP.none)
      rename_i slot st idx off
      cases hf : X.fin slot st idx with
      | none => exact LeP.none
      | some X' =>
        simp only [M3.bnd, fin_H hf]
        exact ih k hc _ hκ _ _
    | free ts => exact LeP.bnd Le.rfl fun a => ih k hc _ hκ _ _
  | post c p ih =>
    intro k hc κ hκ T X
    refine ih (.post p :: k) hc _ (fun e T X => ?_) T X
    cases e with
    | normal => exact LeP.bnd Le.rfl fun a => hκ _ _ _
    | exit i => exact LeP.bnd Le.rfl fun a => hκ _ _ _
    | ret => exact hκ _ _ _
    | pan v => exact hκ _ _ _

theorem kS_le (hcl : ClOk cl q) (hix : HkOk G cl q) (hend : ∀ e T X, LeP P (kend e T X) (kend' e T X)) : ∀ (k : List Kf), (∀ p ∈ fcuts k, CutOk G rs cl P tl kend' p) → ∀ e T X, LeP P (kS G q rs tl kend k e T X) (kR G rs kend' cl k e T X)
  | [], _, e, T, X => hend e T X
  | .seq b :: k, hc, e, T, X => by
    have ih := kS_le hcl hix hend k (fun p hp => hc p (List.mem_append_right _ hp))
    cases e with
    | normal => exact evX_le hcl hix b k (fun p hp => hc p (List.mem_append_left _ hp)) _ ih T X
    | exit i => exact ih _ _ _
    | ret => exact ih _ _ _
    | pan v => exact ih _ _ _
  | .blk id :: k, hc, e, T, X => by
    have ih := kS_le hcl hix hend k hc
    cases e with
    | exit i => exact LeP.cond (ih _ _ _) (ih _ _ _)
    | normal => exact ih _ _ _
    | ret => exact ih _ _ _
    | pan v => exact ih _ _ _
  | .post p :: k, hc, e, T, X => by
    have ih := kS_le hcl hix hend k hc
    cases e with
    | normal => exact LeP.bnd Le.rfl fun a => ih _ _ _
    | exit i => exact LeP.bnd Le.rfl fun a => ih _ _ _
    | ret => exact ih _ _ _
    | pan v => exact ih _ _ _
  | .lp live c :: k, hc, e, T, X => by
    have ih := kS_le hcl hix hend k (fun p hp => hc p (List.mem_cons_of_mem _ (List.mem_append_right _ hp)))
    cases e with
    | normal =>
      have h := hc (live, c, .lp live c :: k) (List.mem_cons_self ..) (anew rs (live.map (rd3 T)) X).1 (anew rs (live.map (rd3 T)) X).2
      simp only at h
      rw [← loop_kR] at h
      exact h
    | exit i => exact ih _ _ _
    | ret => exact ih _ _ _
    | pan v => exact ih _ _ _
end
end Go.Proofs.YtapkmhneneffdaaGreatDoor.M3

/-! The text ZahB. -/
namespace Go.Proofs.YtapkmhneneffdaaGreatDoor.M3
open Go Go.Proofs.YtapkmhneneffdaaGreatDoor.Mx

/-- How a datum is told by a value. -/
structure En where
  α : Type
  e : α → V
/-- How an answer and the memory behind it are told, of a function that writes. -/
structure Ln where
  α : Type
  res : α → V × Hp
/-- What is told of calls. -/
inductive Sg where
  | one (e : En)
  | two (e e' : En)
  | L (k : Ln)
  | L2 (k k' : Ln)
  | L3 (k k' k'' : Ln)
/-- What an operation comes to, told by a datum. -/
structure Hk where
  α : Type
  res : List V → Hp → α → V × Hp
inductive Tg where
  | one (h : Hk)
  | two (h h' : Hk)
  | dead
structure Q where
  call : (α : Type) → (α → V) → Nat → List V → Option α
  op : (α : Type) → (α → V × Hp) → Mx.I → List V → Hp → Option α
  op2 : (α β : Type) → (α → V × Hp) → (β → V × Hp) → Mx.I → List V → Hp → Option (α ⊕ β)
  snp : (α : Type) → (α → V) → V → Hp → Option α
  call2 : (α β : Type) → (α → V) → (β → V) → Nat → List V → Option (α ⊕ β)
  lc : (α : Type) → (α → V × Hp) → Nat → List V → Hp → Option α

def lk {α : Type 1} : List (Nat × α) → Nat → Option α
  | [], _ => none
  | (k, a) :: l, n => bif Nat.beq k n then some a else lk l n

abbrev Q.h (q : Q) (k : Hk) (i : Mx.I) (vs : List V) (H : Hp) : Option k.α := q.op k.α (k.res vs H) i vs H
abbrev Q.h2 (q : Q) (k k' : Hk) (i : Mx.I) (vs : List V) (H : Hp) : Option (k.α ⊕ k'.α) := q.op2 k.α k'.α (k.res vs H) (k'.res vs H) i vs H
abbrev Q.l (q : Q) (k : Ln) (g : Nat) (as : List V) (H : Hp) : Option k.α := q.lc k.α k.res g as H
abbrev Q.l2 (q : Q) (k k' : Ln) (g : Nat) (as : List V) (H : Hp) : Option (k.α ⊕ k'.α) := q.lc (k.α ⊕ k'.α) (Sum.elim k.res k'.res) g as H
abbrev Q.l3 (q : Q) (k k' k'' : Ln) (g : Nat) (as : List V) (H : Hp) : Option (k.α ⊕ (k'.α ⊕ k''.α)) := q.lc (k.α ⊕ (k'.α ⊕ k''.α)) (Sum.elim k.res (Sum.elim k'.res k''.res)) g as H
abbrev Q.c2 (q : Q) (e e' : En) (g : Nat) (as : List V) : Option (e.α ⊕ e'.α) := q.call2 e.α e'.α e.e e'.e g as
abbrev Q.c (q : Q) (e : En) (g : Nat) (as : List V) : Option e.α := q.call e.α e.e g as

/-- A call on the objects that the arguments reach. -/
def lcQ (as : List V) (X : Hp) {R : Type} (k : List V → Hp → (V × Hp → Option R) → Option R) (κ : V → Hp → Option R) : Option R :=
  let S := reach X 100 (as.flatMap slots3) []
  bif noDupN S && S.all (fun s => (X.ent s).isSome) then
    k (as.map (ren (subρ X S))) (X.sub S) fun r => κ (ren (bckρ X S r.2) r.1) (X.merge S r.2)
  else none
def clQ (q : Q) (sg : List (Nat × Sg)) (g : Nat) (as : List V) (X : Hp) {R : Type} (κ : V → Hp → Option R) : Option R :=
  match lk sg g with
  | some (.one e) => bnd (snL (snap X deep) as) fun r => bnd (q.c e g r.1) fun a => κ (e.e a) (bif flat (e.e a) then X else X.frz r.2)
  | some (.two e e') => bnd (snL (snap X deep) as) fun r => bnd (q.c2 e e' g r.1) fun a => match a with
    | .inl a => κ (e.e a) (bif flat (e.e a) then X else X.frz r.2)
    | .inr a => κ (e'.e a) (bif flat (e'.e a) then X else X.frz r.2)
  | some (.L k) => lcQ as X (fun as H f => bnd (q.l k g as H) fun a => f (k.res a)) κ
  | some (.L2 k k') => lcQ as X (fun as H f => bnd (q.l2 k k' g as H) fun a => match a with
    | .inl a => f (k.res a)
    | .inr a => f (k'.res a)) κ
  | some (.L3 k k' k'') => lcQ as X (fun as H f => bnd (q.l3 k k' k'' g as H) fun a => match a with
    | .inl a => f (k.res a)
    | .inr (.inl a) => f (k'.res a)
    | .inr (.inr a) => f (k''.res a)) κ
  | none => none
def opQ (q : Q) (st : List (Nat × Tg)) (d : Option Nat) (i : Mx.I) (vs : List V) (H : Hp) {R : Type} (κ : V → Hp → Option R) : Option R :=
  match d with
  | none => none
  | some d => match lk st d with
    | some (.one k) => bnd (q.h k i vs H) fun a => κ (k.res vs H a).1 (k.res vs H a).2
    | some (.two k k') => bnd (q.h2 k k' i vs H) fun r => match r with
      | .inl a => κ (k.res vs H a).1 (k.res vs H a).2
      | .inr a => κ (k'.res vs H a).1 (k'.res vs H a).2
    | some .dead => none
    | none => none
def isS {α : Type 1} : Option α → Bool
  | some _ => true
  | none => false
def mkOr (q : Q) (sg : List (Nat × Sg)) (st : List (Nat × Tg)) : Or where
  cl := clQ q sg
  hk d := match d with
    | some d => isS (lk st d)
    | none => false
  op := opQ q st

/-! ### shapes -/
/-- An element, at rest. -/
def ixH {α : Type} (e : α → V) : Hk := ⟨α, fun _ H a => (.pe (e a) 0, H)⟩
/-- A plain value. -/
def vlH {α : Type} (e : α → V) : Hk := ⟨α, fun _ H a => (e a, H)⟩
/-- A place in a row. -/
def riH : Hk := ⟨Nat, fun vs H k => (match vs with | .sr slot st _ _ _ :: _ => .pr slot st k 0 | _ => .junk, H)⟩
/-- A part of a row. -/
def rpH : Hk := ⟨Nat × Nat × Bool, fun vs H r => (match vs with | .sr slot st _ _ _ :: _ => .sr slot st r.1 r.2.1 r.2.2 | _ => .junk, H)⟩
/-- A row that grows. -/
def apH {α : Type} (esz : Nat) (e : α → V) : Hk := ⟨List α, fun vs H s => match vs with
  | .sr slot _ _ _ _ :: y :: _ => (.sr slot H.clock 0 s.length false, H.move slot (.arr esz (s.map e)) (H.flV y))
  | _ :: y :: _ => (.sr (H.new (.arr esz (s.map e)) (H.flV y)).1 H.clock 0 s.length false, (H.new (.arr esz (s.map e)) (H.flV y)).2)
  | _ => (.junk, H)⟩
/-- As it was. -/
def idH : Hk := ⟨Unit, fun vs H _ => (match vs with | x :: _ => x | _ => .junk, H)⟩
/-- A new row. -/
def mkH {α : Type} (esz : Nat) (e : α → V) : Hk := ⟨List α, fun _ H s => (.sr (H.new (.arr esz (s.map e)) true).1 H.clock 0 s.length true, (H.new (.arr esz (s.map e)) true).2)⟩
/-- A row that is written. -/
def stH {α : Type} (esz : Nat) (e : α → V) : Hk := ⟨List α, fun vs H s => (und, match vs with | .pr slot st _ _ :: _ => H.put slot st (.arr esz (s.map e)) true | _ => H)⟩

/-- The memory as it is then. -/
def hpH : Hk := ⟨Hp, fun _ _ X => (und, X)⟩
/-- A row. -/
def srH : Hk := ⟨Nat × Nat × Nat × Nat × Bool, fun _ H r => (.sr r.1 r.2.1 r.2.2.1 r.2.2.2.1 r.2.2.2.2, H)⟩
/-- No elements. -/
def n0H : Hk := ⟨Bool, fun _ H b => (.sl b [], H)⟩
/-- A place. -/
def prH : Hk := ⟨Nat × Nat × Nat, fun _ H r => (.pr r.1 r.2.1 r.2.2 0, H)⟩
/-- A map that is written. -/
def mpH : Hk := ⟨Ents × Nat, fun vs H r => (und, match vs with | .mr slot st :: _ => H.put slot st (.map r.1 r.2) true | _ => H)⟩

/-! ### typed data are told by their values -/
theorem map_inj {α : Type} {e : α → V} (he : ∀ a b, e a = e b → a = b) : ∀ {l l' : List α}, l.map e = l'.map e → l = l'
  | [], [], _ => rfl
  | [], _ :: _, h => by cases h
  | _ :: _, [], h => by cases h
  | a :: l, b :: l', h => by
    simp only [List.map_cons, List.cons.injEq] at h
    rw [he a b h.1, map_inj he h.2]

/-! ### the tables as the machine has them -/
section
open Classical
noncomputable def pickR {α β : Type} (x : Option β) (f : α → β) : Option α := if h : ∃ a, x = some (f a) then some h.choose else none
theorem pickR_some {α β : Type} {x : Option β} {f : α → β} {a : α} (h : pickR x f = some a) : x = some (f a) := by
  unfold pickR at h
  split at h
  · rename_i hc; cases h; exact hc.choose_spec
  · cases h
theorem pickR_eq {α β : Type} {f : α → β} (hf : ∀ a b, f a = f b → a = b) {x : Option β} {a : α} (h : x = some (f a)) : pickR x f = some a := by
  unfold pickR
  have hc : ∃ a, x = some (f a) := ⟨a, h⟩
  rw [dif_pos hc]
  exact congrArg some (hf _ _ (Option.some.inj (hc.choose_spec.symm.trans h)))
end

def opR (i : Mx.I) (vs : List V) (H : Hp) : Option (V × Hp) :=
  match i, vs with
  | .iaddr e _ _, [x, y] => bnd (iaddr3 H e x y) fun v => some (v, H)
  | .strindex _ _, [x, y] => bnd (strindex3 x y) fun v => some (v, H)
  | .bin op m _ yo, [x, y] => bnd (binK op m x yo y) fun v => some (v, H)
  | .append _ _ esz bytes pure _ _, [x, y] => bnd (H.append esz bytes pure x y) fun r => some (r.1, r.2)
  | .load agg n _, [a] => bnd (H.load agg n a) fun v => some (v, H)
  | .store n _ _, [a, x] => bnd (H.store n a x) fun H => some (und, H)
  | .mkslice _ _ esz bytes zero _ _, [x, y] => bnd (H.mkslice esz bytes zero x y) fun r => some (r.1, r.2)
  | .copy esz _ _, [x, y] => bnd (H.copy esz x y) fun r => some (r.1, r.2)
  | .lookup m zero ok _ _, [x, y] => bnd (ofClosed zero) fun z => bnd (H.lookup m z ok x y) fun v => some (v, H)
  | .mapset m _ _ _, [x, y, z] => bnd (H.mapset m x y z) fun H => some (und, H)
  | .maplen _, [x] => bnd (H.ents x) fun e => some (.i .i64 e.1.length, H)
  | .slice esz _ none none none, [x] => bnd (slice3 H esz x none none none) fun v => some (v, H)
  | .slice esz _ (some _) none none, [x, a] => bnd (slice3 H esz x (some a) none none) fun v => some (v, H)
  | .slice esz _ none (some _) none, [x, b] => bnd (slice3 H esz x none (some b) none) fun v => some (v, H)
  | .slice esz _ (some _) (some _) none, [x, a, b] => bnd (slice3 H esz x (some a) (some b) none) fun v => some (v, H)
  | _, _ => none

theorem opR_of {G : Gl} {cl : Cl3} {T : Fr} {H : Hp} {i : Mx.I} {r : V × Hp} (h : opR i (opv G T i) H = some r) : evI3 G cl T H i = some r := by
  cases i <;> simp only [opR, opv] at h <;> (try cases h) <;> (try exact h)
  all_goals (rename_i lo hi mx; cases lo <;> cases hi <;> cases mx <;> simp only [opv, Option.map_none, Option.map_some, Option.toList_none, Option.toList_some, List.nil_append, List.cons_append, List.append_nil] at h <;> first | exact h | cases h)

section
variable (pu : Nat → Bool) (w : Cl3)
open Classical in
noncomputable def qR : Q where
  call α e g as := if pu g = true then pickR ((w g as .emp).map (·.1)) e else none
  op α f i vs H := pickR (opR i vs H) f
  op2 _ _ f g i vs H := pickR (opR i vs H) (Sum.elim f g)
  snp α e v H := pickR ((snap H deep v).map (·.1)) e
  call2 _ _ e e' g as := if pu g = true then pickR ((w g as .emp).map (·.1)) (Sum.elim e e') else none
  lc _ res g as H := if pu g = false then pickR ((w g as H).map (canR H.obs.length)) res else none

theorem call_some {α : Type} {e : α → V} {g : Nat} {as : List V} {a : α} (h : (qR pu w).call α e g as = some a) : pu g = true ∧ ∃ X, w g as .emp = some (e a, X) := by
  simp only [qR] at h
  split at h
  · rename_i hp
    have := pickR_some h
    simp only [Option.map_eq_some_iff] at this
    obtain ⟨⟨v, X⟩, h1, h2⟩ := this
    exact ⟨hp, X, by rw [h1, ← h2]⟩
  · cases h
theorem call_eq {α : Type} {e : α → V} (he : ∀ a b, e a = e b → a = b) {g : Nat} {as : List V} {a : α} (hp : pu g = true) (h : w g as .emp = some (e a, .emp)) : (qR pu w).call α e g as = some a := by
  simp only [qR, hp, if_true]
  exact pickR_eq he (by rw [h]; rfl)
theorem snp_eq {α : Type} {e : α → V} (he : ∀ a b, e a = e b → a = b) {v : V} {H : Hp} {a : α} {s : List Nat} (h : snap H deep v = some (e a, s)) : (qR pu w).snp α e v H = some a := pickR_eq he (by rw [h]; rfl)
theorem op_eq {k : Hk} {i : Mx.I} {vs : List V} {H : Hp} {a : k.α} (hf : ∀ a b, k.res vs H a = k.res vs H b → a = b) (h : opR i vs H = some (k.res vs H a)) : (qR pu w).h k i vs H = some a := pickR_eq hf h

theorem op2_eq {k k' : Hk} {i : Mx.I} {vs : List V} {H : Hp} {r : k.α ⊕ k'.α} (hf : ∀ a b, Sum.elim (k.res vs H) (k'.res vs H) a = Sum.elim (k.res vs H) (k'.res vs H) b → a = b) (h : opR i vs H = some (Sum.elim (k.res vs H) (k'.res vs H) r)) : (qR pu w).h2 k k' i vs H = some r := pickR_eq hf h

variable {pu w}
theorem call2_some {α β : Type} {e : α → V} {e' : β → V} {g : Nat} {as : List V} {a : α ⊕ β} (h : (qR pu w).call2 α β e e' g as = some a) : pu g = true ∧ ∃ X, w g as .emp = some (Sum.elim e e' a, X) := by
  simp only [qR] at h
  split at h
  · rename_i hp
    have := pickR_some h
    simp only [Option.map_eq_some_iff] at this
    obtain ⟨⟨v, X⟩, h1, h2⟩ := this
    exact ⟨hp, X, by rw [h1, ← h2]⟩
  · cases h
theorem lc_some {α : Type} {res : α → V × Hp} {g : Nat} {as : List V} {H : Hp} {a : α} (h : (qR pu w).lc α res g as H = some a) : pu g = false ∧ ∃ r, w g as H = some r ∧ canR H.obs.length r = res a := by
  simp only [qR] at h
  split at h
  · rename_i hp
    have := pickR_some h
    simp only [Option.map_eq_some_iff] at this
    obtain ⟨r, h1, h2⟩ := this
    exact ⟨hp, r, h1, h2⟩
  · cases h
theorem lc_eq {α : Type} {res : α → V × Hp} (hf : ∀ a b, res a = res b → a = b) {g : Nat} {as : List V} {H : Hp} {a : α} (hp : pu g = false) (h : (w g as H).map (canR H.obs.length) = some (res a)) : (qR pu w).lc α res g as H = some a := by
  simp only [qR, hp, if_true]
  exact pickR_eq hf h

theorem lcQ_le {R R' : Type} {P : R → R' → Prop} {g : Nat} {as : List V} {X : Hp} {k : List V → Hp → (V × Hp → Option R) → Option R} {κ : V → Hp → Option R} {κ' : V → Hp → Option R'} (hκ : ∀ v X, LeP P (κ v X) (κ' v X))
    (hk : ∀ as H (f : V × Hp → Option R) r, k as H f = some r → pu g = false ∧ ∃ x, w g as H = some x ∧ f (canR H.obs.length x) = some r) : LeP P (lcQ as X k κ) (bnd (call3 pu w g as X) fun r => κ' r.1 r.2) := by
  intro r h
  unfold lcQ at h
  simp only at h
  cases hb : noDupN (reach X 100 (as.flatMap slots3) []) && (reach X 100 (as.flatMap slots3) []).all (fun s => (X.ent s).isSome) with
  | false => rw [hb] at h; cases h
  | true =>
    rw [hb] at h
    simp only [cond_true] at h
    obtain ⟨hp, x, h1, h2⟩ := hk _ _ _ _ h
    have hlen : (X.sub (reach X 100 (as.flatMap slots3) [])).obs.length = (reach X 100 (as.flatMap slots3) []).length := by simp [Hp.sub, mkHp]
    rw [hlen] at h2
    unfold call3 callL
    simp only [hp, cond_false, hb, cond_true]
    rw [h1]
    exact hκ _ _ r h2

theorem clR {sg : List (Nat × Sg)} {st : List (Nat × Tg)} : ClOk (call3 pu w) (mkOr (qR pu w) sg st) := by
  intro g as X R R' P κ κ' hκ
  show LeP P (clQ (qR pu w) sg g as X κ) _
  unfold clQ
  split
  · intro r h
    obtain ⟨as', h0, h⟩ := bnd_some h
    obtain ⟨a, h1, h2⟩ := bnd_some h
    obtain ⟨hp, X', h3⟩ := call_some pu w h1
    unfold call3
    simp only [hp, cond_true, h0, bnd, h3]
    exact hκ _ _ r h2
  · intro r h
    obtain ⟨as', h0, h⟩ := bnd_some h
    obtain ⟨a, h1, h2⟩ := bnd_some h
    obtain ⟨hp, X', h3⟩ := call2_some h1
    unfold call3
    simp only [hp, cond_true, h0, bnd, h3]
    cases a <;> exact hκ _ _ r h2
  · refine lcQ_le hκ fun as H f r h => ?_
    obtain ⟨a, h1, h2⟩ := bnd_some h
    obtain ⟨hp, x, h3, h4⟩ := lc_some h1
    exact ⟨hp, x, h3, by rw [h4]; exact h2⟩
  · refine lcQ_le hκ fun as H f r h => ?_
    obtain ⟨a, h1, h2⟩ := bnd_some h
    obtain ⟨hp, x, h3, h4⟩ := lc_some h1
    refine ⟨hp, x, h3, ?_⟩
    rw [h4]
    cases a <;> exact h2
  · refine lcQ_le hκ fun as H f r h => ?_
    obtain ⟨a, h1, h2⟩ := bnd_some h
    obtain ⟨hp, x, h3, h4⟩ := lc_some h1
    refine ⟨hp, x, h3, ?_⟩
    rw [h4]
    rcases a with a | a | a <;> exact h2
  · exact LeP.none
theorem hkR {G : Gl} {sg : List (Nat × Sg)} {st : List (Nat × Tg)} : HkOk G (call3 pu w) (mkOr (qR pu w) sg st) := by
  intro d i T H hd R R' P κ κ' hκ r h
  simp only [mkOr] at h
  unfold opQ at h
  split at h
  · cases h
  · split at h
    · obtain ⟨a, h1, h2⟩ := bnd_some h
      have h3 := pickR_some h1
      obtain ⟨r', h4, h5⟩ := hκ _ _ r h2
      exact ⟨_, _, r', opR_of h3, h4, h5⟩
    · obtain ⟨a, h1, h2⟩ := bnd_some h
      have h3 := pickR_some h1
      cases a with
      | inl a =>
        obtain ⟨r', h4, h5⟩ := hκ _ _ r h2
        exact ⟨_, _, r', opR_of h3, h4, h5⟩
      | inr a =>
        obtain ⟨r', h4, h5⟩ := hκ _ _ r h2
        exact ⟨_, _, r', opR_of h3, h4, h5⟩
    · cases h
    · cases h
end

/-! ### pieces of a function -/
/-- What a body's end answers, by content. -/
def kfin (q : Q) (en : Option En) (res : List Res) : Ex3 → Fr → Hp → Option V := fun e T H => match e with
  | .normal => bnd (res3 T H res) fun vs => ands (vs.all nj) (ends vs H)
  | .ret => bnd (res3 T H res) fun vs => ands (vs.all nj) (ends vs H)
  | .pan v => bnd (snap H deep v) fun y => some (.pan y.1)
  | .exit _ => none
 where
  ends (vs : List V) (H : Hp) : Option V := match en with
    | none => bnd (snap H deep (pack3 vs)) fun y => some y.1
    | some en => bnd (q.snp en.α en.e (pack3 vs) H) fun a => some (en.e a)
/-- The machine's end of a body. -/
def kreal (res : List Res) : Ex3 → Fr → Hp → Option (V × Hp) := fun e T H => match e with
  | .normal => bnd (res3 T H res) fun vs => ands (vs.all nj) (some (pack3 vs, H))
  | .ret => bnd (res3 T H res) fun vs => ands (vs.all nj) (some (pack3 vs, H))
  | .pan v => some (.pan v, H)
  | .exit _ => none
/-- What the end of a body answers that writes. -/
def kfinL (n : Nat) (res : List Res) : Ex3 → Fr → Hp → Option (V × Hp) := fun e T H => match e with
  | .normal => bnd (res3 T H res) fun vs => ands (vs.all nj) (some (canR n (pack3 vs, H)))
  | .ret => bnd (res3 T H res) fun vs => ands (vs.all nj) (some (canR n (pack3 vs, H)))
  | .pan v => some (canR n (.pan v, H))
  | .exit _ => none
abbrev PF : V → V × Hp → Prop := fun v r => fun3 true (some r) = some (v, .emp)
abbrev PL (n : Nat) : V × Hp → V × Hp → Prop := fun a r => canR n r = a
theorem kfin_le {pu : Nat → Bool} {w : Cl3} (en : Option En) (res : List Res) (e : Ex3) (T : Fr) (X : Hp) : LeP PF (kfin (qR pu w) en res e T X) (kreal res e T X) := by
  have key : LeP PF (bnd (res3 T X res) fun vs => ands (vs.all nj) (kfin.ends (qR pu w) en vs X)) (bnd (res3 T X res) fun vs => ands (vs.all nj) (some (pack3 vs, X))) := by
    refine LeP.bnd Le.rfl fun vs => LeP.ands ?_
    intro v hv
    refine ⟨_, rfl, ?_⟩
    obtain ⟨y, h3, h4⟩ : ∃ y, snap X deep (pack3 vs) = some y ∧ y.1 = v := by
      unfold kfin.ends at hv
      split at hv
      · obtain ⟨y, h3, h4⟩ := bnd_some hv
        exact ⟨y, h3, by cases h4; rfl⟩
      · obtain ⟨a, h3, h4⟩ := bnd_some hv
        have := pickR_some h3
        simp only [Option.map_eq_some_iff] at this
        obtain ⟨y, h5, h6⟩ := this
        exact ⟨y, h5, by cases h4; exact h6⟩
    subst h4
    have hp : snapP X deep (pack3 vs) = snap X deep (pack3 vs) := by
      unfold snapP
      split
      · rename_i v he; rw [he] at h3; simp [snap, deep] at h3
      · rfl
    show bnd (snapP X deep (pack3 vs)) _ = _
    rw [hp, h3]
    rfl
  cases e with
  | normal => exact key
  | ret => exact key
  | exit i => exact LeP.none
  | pan v =>
    intro r hr
    obtain ⟨y, h1, h2⟩ := bnd_some hr
    cases h2
    refine ⟨_, rfl, ?_⟩
    show bnd ((snap X deep v).map _) _ = _
    rw [h1]; rfl
theorem kfinL_le (n : Nat) (res : List Res) (e : Ex3) (T : Fr) (X : Hp) : LeP (PL n) (kfinL n res e T X) (kreal res e T X) := by
  have key : LeP (PL n) (bnd (res3 T X res) fun vs => ands (vs.all nj) (some (canR n (pack3 vs, X)))) (bnd (res3 T X res) fun vs => ands (vs.all nj) (some (pack3 vs, X))) := by
    refine LeP.bnd Le.rfl fun vs => LeP.ands ?_
    intro v hv
    cases hv
    exact ⟨_, rfl, rfl⟩
  cases e with
  | normal => exact key
  | ret => exact key
  | exit i => exact LeP.none
  | pan v => intro r hr; cases hr; exact ⟨_, rfl, rfl⟩

def lkC : List Cut → List Nat → Option (C3 × List Kf)
  | [], _ => none
  | (ts, c, k) :: l, n => bif ts == n then some (c, k) else lkC l n
def mem1 (n : List Nat) : List Cut → Bool
  | [] => false
  | (ts, _) :: l => ts == n || mem1 n l
def noDupC : List Cut → Bool
  | [] => true
  | (ts, _) :: l => !mem1 ts l && noDupC l
theorem lkC_mem : ∀ {l : List Cut} {n : List Nat} {c : C3} {k : List Kf}, lkC l n = some (c, k) → (n, c, k) ∈ l
  | [], _, _, _, h => by cases h
  | (ts, c', k') :: l, n, c, k, h => by
    simp only [lkC] at h
    cases e : ts == n with
    | true =>
      rw [e] at h
      simp only [cond_true, Option.some.injEq, Prod.mk.injEq] at h
      obtain ⟨rfl, rfl⟩ := h
      have := eq_of_beq e
      subst this
      exact List.mem_cons_self ..
    | false => rw [e] at h; exact List.mem_cons_of_mem _ (lkC_mem h)
theorem mem1_of {n : List Nat} {c : C3} {k : List Kf} : ∀ {l : List Cut}, (n, c, k) ∈ l → mem1 n l = true
  | [], h => by cases h
  | (ts, x) :: l, h => by
    simp only [List.mem_cons] at h
    simp only [mem1, Bool.or_eq_true]
    rcases h with h | h
    · cases h; exact .inl (beq_self_eq_true _)
    · exact .inr (mem1_of h)
theorem lkC_of : ∀ {l : List Cut} {n : List Nat} {c : C3} {k : List Kf}, noDupC l = true → (n, c, k) ∈ l → lkC l n = some (c, k)
  | [], _, _, _, _, h => by cases h
  | (ts, c', k') :: l, n, c, k, hd, h => by
    simp only [noDupC, Bool.and_eq_true, Bool.not_eq_true'] at hd
    simp only [lkC]
    simp only [List.mem_cons] at h
    rcases h with h | h
    · cases h; rw [beq_self_eq_true]; rfl
    · have hne : (ts == n) = false := by
        cases e : ts == n with
        | false => rfl
        | true =>
          have := eq_of_beq e
          subst this
          rw [mem1_of h] at hd; exact absurd hd.1 (by simp)
      rw [hne]; exact lkC_of hd.2 h

section
variable {R : Type} (G : Gl) (or : Or) (n : Nat) (kend : Ex3 → Fr → Hp → Option R) (tl : Tl R)
/-- A piece, read symbolically. -/
def pcX (fn : Fn3) (ts : List Nat) (vs : List V) (H : Hp) : Option R :=
  match lkC (cuts fn.body []) ts with
  | some (c, k) => evX G or (some n) tl c (ofP ts vs) H (kS G or (some n) tl kend k)
  | none => none
variable (cl : Cl3) (D : Option (V × Hp) → Option R)
/-- What the machine answers from a piece on. -/
noncomputable def pcD (fn : Fn3) : Tl R := fun ts vs H =>
  match lkC (cuts fn.body []) ts with
  | some (c, k) => D (evCK G cl (loopW (some n)) c (ofP ts vs) H (kR G (some n) (kreal fn.res) cl k))
  | none => none
end

theorem pcD_ok {R : Type} {G : Gl} {n : Nat} {cl : Cl3} {D : Option (V × Hp) → Option R} {P : R → V × Hp → Prop} (hD : ∀ x a, D x = some a → ∃ r, x = some r ∧ P a r) {fn : Fn3} (hd : noDupC (cuts fn.body []) = true) : ∀ p ∈ cuts fn.body [], CutOk G (some n) cl P (pcD G n cl D fn) (kreal fn.res) p := by
  intro ⟨ts, c, k⟩ hp vs H v hv
  unfold pcD at hv
  rw [lkC_of hd hp] at hv
  exact hD _ _ hv
/-- A piece's reading tells what the machine answers. -/
theorem pieceD {R : Type} {G : Gl} {n : Nat} {cl : Cl3} {or : Or} {kend : Ex3 → Fr → Hp → Option R} {D : Option (V × Hp) → Option R} {P : R → V × Hp → Prop} (hcl : ClOk cl or) (hix : HkOk G cl or) (hD : ∀ x a, D x = some a → ∃ r, x = some r ∧ P a r) (hD' : ∀ a r, P a r → D (some r) = some a) {fn : Fn3}
    (hend : ∀ e T X, LeP P (kend e T X) (kreal fn.res e T X)) (hd : noDupC (cuts fn.body []) = true) {ts : List Nat} {vs : List V} {H : Hp} {v : R} (h : pcX G or n kend (pcD G n cl D fn) fn ts vs H = some v) : pcD G n cl D fn ts vs H = some v := by
  unfold pcX at h
  unfold pcD
  split at h
  · rename_i c k hl
    have hm := lkC_mem hl
    have ok := pcD_ok (G := G) (n := n) (cl := cl) hD hd
    obtain ⟨s1, s2⟩ := cuts_sub fn.body [] _ hm
    simp only [fcuts, List.append_nil] at s1 s2
    obtain ⟨r, h1, h2⟩ := evX_le hcl hix c k (fun p hp => ok p (s1 p hp)) _ (kS_le hcl hix hend k (fun p hp => ok p (s2 p hp))) _ _ v h
    simp only [h1, hl]
    exact hD' _ _ h2
  · cases h

/-! ### functions that leave memory as it is -/
section
variable (G : Gl) (q : Q) (sg : List (Nat × Sg)) (st : List (Nat × Tg)) (en : Option En) (tl : Tl V)
def pcS (fn : Fn3) (ts : List Nat) (vs : List V) (H : Hp) : Option V := pcX G (mkOr q sg st) 0 (kfin q en fn.res) tl fn ts vs H
/-- The first piece. -/
def stS (fn : Fn3) (args : List V) : Option V := evX G (mkOr q sg st) (some 0) tl fn.body (Tr.ofList args 0 .nil) .emp (kfin q en fn.res)
end
noncomputable def pcR (G : Gl) (cl : Cl3) (fn : Fn3) : Tl V := pcD G 0 cl (fun x => (fun3 true x).map (·.1)) fn
theorem D_pure (x : Option (V × Hp)) (a : V) (h : (fun3 true x).map (·.1) = some a) : ∃ r, x = some r ∧ PF a r := by
  simp only [Option.map_eq_some_iff] at h
  obtain ⟨⟨v', X⟩, h1, h2⟩ := h
  simp only at h2
  subst h2
  unfold fun3 at h1
  simp only [cond_true] at h1
  obtain ⟨r, h3, h4⟩ := bnd_some h1
  refine ⟨r, h3, ?_⟩
  obtain ⟨y, h5, h6⟩ := bnd_some h4
  cases h6
  show fun3 true (some r) = _
  unfold fun3
  simp only [cond_true, bnd, h5]
theorem piece {G : Gl} {pu : Nat → Bool} {w : Cl3} {sg : List (Nat × Sg)} {st : List (Nat × Tg)} {en : Option En} {fn : Fn3} (hd : noDupC (cuts fn.body []) = true) {ts : List Nat} {vs : List V} {H : Hp} {v : V} (h : pcS G (qR pu w) sg st en (pcR G (call3 pu w) fn) fn ts vs H = some v) : pcR G (call3 pu w) fn ts vs H = some v :=
  pieceD clR hkR D_pure (fun a r h => by rw [h]; rfl) (kfin_le en fn.res) hd h

/-! ### functions that write what their arguments reach -/
section
variable (G : Gl) (q : Q) (sg : List (Nat × Sg)) (st : List (Nat × Tg)) (n : Nat) (tl : Tl (V × Hp))
def pcSL (fn : Fn3) (ts : List Nat) (vs : List V) (H : Hp) : Option (V × Hp) := pcX G (mkOr q sg st) n (kfinL n fn.res) tl fn ts vs H
def stSL (fn : Fn3) (args : List V) (X : Hp) : Option (V × Hp) := evX G (mkOr q sg st) (some n) tl fn.body (Tr.ofList args 0 .nil) X (kfinL n fn.res)
end
noncomputable def pcRL (G : Gl) (n : Nat) (cl : Cl3) (fn : Fn3) : Tl (V × Hp) := pcD G n cl (fun x => x.map (canR n)) fn
theorem D_L (n : Nat) (x : Option (V × Hp)) (a : V × Hp) (h : x.map (canR n) = some a) : ∃ r, x = some r ∧ PL n a r := by
  simp only [Option.map_eq_some_iff] at h
  exact h
theorem pieceL {G : Gl} {n : Nat} {pu : Nat → Bool} {w : Cl3} {sg : List (Nat × Sg)} {st : List (Nat × Tg)} {fn : Fn3} (hd : noDupC (cuts fn.body []) = true) {ts : List Nat} {vs : List V} {H : Hp} {v : V × Hp} (h : pcSL G (qR pu w) sg st n (pcRL G n (call3 pu w) fn) fn ts vs H = some v) : pcRL G n (call3 pu w) fn ts vs H = some v :=
  pieceD clR hkR (D_L n) (fun a r h => by show some (canR n r) = _; rw [h]) (kfinL_le n fn.res) hd h

section
variable {G : Gl} {pu ovd cln : Nat → Bool} {ov : Nat → List V → Option V} {Γ : Nat → Option Fn3}
theorem W_st {sg : List (Nat × Sg)} {st : List (Nat × Tg)} {en : Option En} {f : Nat} {args : List V} {v : V} (hp : pu f = true) (ho : ovd f = false) (hc : cl0 (cln f) args = false) (fn : Fn3) (hfn : Γ f = some fn) (hr : fn.recv = none) (hdf : fn.dfr = none)
    (hd : noDupC (cuts fn.body []) = true)
    (h : stS G (qR pu (W G pu ovd cln ov Γ)) sg st en (pcR G (call3 pu (W G pu ovd cln ov Γ)) fn) fn args = some v) : (W G pu ovd cln ov Γ) f args .emp = some (v, .emp) := by
  apply W_body ho hc
  rw [hp]
  unfold stS at h
  unfold evB3
  rw [hfn]
  simp only [hr, hdf]
  obtain ⟨r, h1, h2⟩ := evX_le clR hkR fn.body [] (fun p hp => pcD_ok D_pure hd p hp) _ (kfin_le en fn.res) (Tr.ofList args 0 .nil) .emp v h
  have h3 : evCK G (call3 pu (W G pu ovd cln ov Γ)) (loopW (some 0)) fn.body (Tr.ofList args 0 .nil) .emp (kreal fn.res) = some r := h1
  exact (congrArg (fun3 true) h3).trans h2
theorem W_stL {sg : List (Nat × Sg)} {st : List (Nat × Tg)} {f : Nat} {args : List V} {X : Hp} {v : V × Hp} (hp : pu f = false) (ho : ovd f = false) (hc : cl0 (cln f) args = false) (fn : Fn3) (hfn : Γ f = some fn) (hr : fn.recv = none) (hdf : fn.dfr = none)
    (hd : noDupC (cuts fn.body []) = true)
    (h : stSL G (qR pu (W G pu ovd cln ov Γ)) sg st X.obs.length (pcRL G X.obs.length (call3 pu (W G pu ovd cln ov Γ)) fn) fn args X = some v) : ((W G pu ovd cln ov Γ) f args X).map (canR X.obs.length) = some v := by
  unfold stSL at h
  obtain ⟨r, h1, h2⟩ := evX_le clR hkR fn.body [] (fun p hp => pcD_ok (D_L X.obs.length) hd p hp) _ (kfinL_le X.obs.length fn.res) (Tr.ofList args 0 .nil) X v h
  have h3 : evCK G (call3 pu (W G pu ovd cln ov Γ)) (loopW (some X.obs.length)) fn.body (Tr.ofList args 0 .nil) X (kreal fn.res) = some r := h1
  have h4 : (W G pu ovd cln ov Γ) f args X = some r := by
    apply W_body ho hc
    rw [hp]
    unfold evB3
    rw [hfn]
    simp only [hr, hdf, fun3, cond_false]
    exact h3
  rw [h4]
  exact congrArg some h2
end
end Go.Proofs.YtapkmhneneffdaaGreatDoor.M3
