/- A part of the proof that the law answers true at every input: the texts ZajA, ZajD, ZaiA, ZaiB, ZaiC; no conditions. -/
import Derived.Test.YtapkmhneneffdaaGreatDoorMcD
import Derived.Test.YtapkmhneneffdaaGreatDoorMcA
import Derived.Test.YtapkmhneneffdaaGreatDoorMxE
import Derived.ChangeArms
import Derived.ProofKit
set_option linter.unusedSimpArgs false
set_option linter.unusedVariables false
set_option linter.constructorNameAsVariable false

/-! The text ZajA. -/
namespace Go.Proofs.YtapkmhneneffdaaGreatDoor.M3
open Go Go.Proofs.YtapkmhneneffdaaGreatDoor.Mx

abbrev ClK := Nat → List V → Hp → {R : Type} → (V → Hp → Option R) → Option R
/-- Operations are read as they are. -/
def orY (cl : ClK) : Or := ⟨cl, fun _ => false, fun _ _ _ _ _ _ => none⟩

section
variable (G : Gl) (cl : ClK) (rs : Option Nat)
/-- A loop, round by round. -/
def unr {R : Type} (body : List V → Hp → (Ex3 → List V → Hp → Option R) → Option R) : Nat → List V → Hp → (Ex3 → List V → Hp → Option R) → Option R
  | 0, _, _, _ => none
  | n + 1, vs, H, κ => body (anew rs vs H).1 (anew rs vs H).2 fun e vs H => match e with
    | .normal => unr body n vs H κ
    | e => κ e vs H

def evY (n : Nat) : {R : Type} → C3 → Fr → Hp → (Ex3 → Fr → Hp → Option R) → Option R
  | _, .skip, T, H, κ => κ .normal T H
  | _, .region _ ops, T, H, κ => evOpsS G (orY cl) ops T H .nil none fun T H => κ .normal T H
  | _, .seq a b, T, H, κ => evY n a T H fun e T H => match e with
    | .normal => evY n b T H κ
    | e => κ e T H
  | _, .cond c a b, T, H, κ => match ev3 G T c with
    | .b t => bif t then evY n a T H κ else evY n b T H κ
    | _ => none
  | _, .block id c, T, H, κ => evY n c T H fun e T H => match e with
    | .exit i => bif i == id then κ .normal T H else κ (.exit i) T H
    | e => κ e T H
  | _, .loop live c, T, H, κ => unr rs (fun vs H κ => evY n c (ofP live vs) H fun e T H => κ e (live.map (rd3 T)) H) n (live.map (rd3 T)) H fun e vs H => κ e (ofP live vs) H
  | _, .exit id, T, H, κ => κ (.exit id) T H
  | _, .ret, T, H, κ => κ .ret T H
  | _, .callp d f as, T, H, κ => match ev3 G T f with
    | .fn g first cap => cl g (first ++ as.map (ev3 G T) ++ cap) H fun v H => match v with
      | .pan v => κ (.pan v) T H
      | v => fork v fun v => κ .normal (putF T d v) H
    | _ => none
  | _, .panic x, T, H, κ => match ev3 G T x with
    | .ifc t v => κ (.pan (.ifc t v)) T H
    | _ => none
  | _, .pre p c, T, H, κ => match p with
    | .keep ts => evY n c (ofP ts (anew rs (ts.map (rd3 T)) H).1) (anew rs (ts.map (rd3 T)) H).2 κ
    | p => bnd (p.run T H) fun r => evY n c r.1 r.2 κ
  | _, .post c p, T, H, κ => evY n c T H fun e T H => match e with
    | .normal => bnd (p.run T H) fun r => κ .normal r.1 r.2
    | .exit i => bnd (p.run T H) fun r => κ (.exit i) r.1 r.2
    | e => κ e T H
end

/-- A function's body. -/
def bodyY (G : Gl) (cl : ClK) (Γ : Nat → Option Fn3) (rs : Option Nat) (n f : Nat) (args : List V) (H : Hp) {R : Type} (κ : V → Hp → Option R) : Option R :=
  match Γ f with
  | none => none
  | some fn => match fn.recv with
    | some _ => none
    | none => match fn.dfr with
      | some _ => none
      | none => evY G cl rs n fn.body (Tr.ofList args 0 .nil) H fun e T H => match e with
        | .normal => bnd (res3 T H fn.res) fun vs => ands (vs.all nj) (κ (pack3 vs) H)
        | .ret => bnd (res3 T H fn.res) fun vs => ands (vs.all nj) (κ (pack3 vs) H)
        | .pan v => κ (.pan v) H
        | .exit _ => none

section
variable (G : Gl) (pu no cln sel : Nat → Bool) (tab : ClK) (Γ : Nat → Option Fn3)
/-- A function's body; of the copying of nothing the answer is known. -/
def bodyC (cl : ClK) (rs : Option Nat) (n f : Nat) (args : List V) (H : Hp) {R : Type} (κ : V → Hp → Option R) : Option R :=
  bif cl0 (cln f) args then κ (.sl true []) H else bodyY G cl Γ rs n f args H κ
/-- Calls: of chosen functions by the table, of others by reading them. -/
def inl : Nat → ClK
  | 0 => fun _ _ _ _ _ => none
  | k + 1 => fun f as H _ κ => bif sel f then tab f as H κ else bif no f then none else
    bif pu f then bnd (snL (snap H deep) as) fun r => bodyC G cln Γ (inl k) (some 0) k f r.1 .emp fun v X => bnd (snapP X deep v) fun y => κ y.1 (bif flat y.1 then H else H.frz r.2)
    else
      let S := reach H 100 (as.flatMap slots3) []
      bif noDupN S && S.all (fun s => (H.ent s).isSome) then
        bodyC G cln Γ (inl k) (some S.length) k f (as.map (ren (subρ H S))) (H.sub S) fun v X => κ (ren (bckρ H S (canR S.length (v, X)).2) (canR S.length (v, X)).1) (H.merge S (canR S.length (v, X)).2)
      else none
/-- A function that leaves memory as it is. -/
def topY (k f : Nat) (as : List V) : Option V := bodyC G cln Γ (inl G pu no cln sel tab Γ k) (some 0) k f as .emp fun v X => bnd (snapP X deep v) fun y => some y.1
end

/-! ### what it answers, the machine answers -/
abbrev ClOkK (cl : Cl3) (q : ClK) : Prop := ∀ (g : Nat) (as : List V) (X : Hp) {R R' : Type} {P : R → R' → Prop} (κ : V → Hp → Option R) (κ' : V → Hp → Option R'), (∀ v X, LeP P (κ v X) (κ' v X)) → LeP P (q g as X κ) (M3.bnd (cl g as X) fun r => κ' r.1 r.2)

section
variable {G : Gl} {cl : Cl3} {q : ClK} {rs : Option Nat}

theorem unr_le {R R' : Type} {P : R → R' → Prop} {bodyY : List V → Hp → (Ex3 → List V → Hp → Option R) → Option R} {body : Bd}
    (hb : ∀ vs X (κ : Ex3 → List V → Hp → Option R) (κ' : Ex3 → List V → Hp → Option R'), (∀ e vs X, LeP P (κ e vs X) (κ' e vs X)) → LeP P (bodyY vs X κ) (bnd (body vs X) fun r => κ' r.1 r.2.1 r.2.2))
    {κ : Ex3 → List V → Hp → Option R} {κ' : Ex3 → List V → Hp → Option R'} (hκ : ∀ e vs X, LeP P (κ e vs X) (κ' e vs X)) : ∀ (n : Nat) (vs : List V) (X : Hp), LeP P (unr rs bodyY n vs X κ) (bnd (loopW rs body vs X) fun r => κ' r.1 r.2.1 r.2.2)
  | 0, _, _ => LeP.none
  | n + 1, vs, X => by
    have ih := unr_le hb hκ n
    rw [loopW_eq]
    have h := hb (anew rs vs X).1 (anew rs vs X).2 (fun e vs H => match e with | .normal => unr rs bodyY n vs H κ | e => κ e vs H)
      (fun e vs H => match e with | .normal => bnd (loopW rs body vs H) fun r => κ' r.1 r.2.1 r.2.2 | e => κ' e vs H) (fun e vs X => by
        cases e with
        | normal => exact ih vs X
        | exit i => exact hκ _ _ _
        | ret => exact hκ _ _ _
        | pan v => exact hκ _ _ _)
    intro r hr
    obtain ⟨r', h1, h2⟩ := h r hr
    refine ⟨r', ?_, h2⟩
    rw [← h1]
    match body (anew rs vs X).1 (anew rs vs X).2 with
    | none => rfl
    | some (.normal, vs', H') => rfl
    | some (.exit i, vs', H') => rfl
    | some (.ret, vs', H') => rfl
    | some (.pan v, vs', H') => rfl

theorem evY_le (hcl : ClOkK cl q) (n : Nat) : ∀ (c : C3) {R R' : Type} {P : R → R' → Prop} (κ : Ex3 → Fr → Hp → Option R) (κ' : Ex3 → Fr → Hp → Option R'), (∀ e T X, LeP P (κ e T X) (κ' e T X)) → ∀ (T : Fr) (X : Hp), LeP P (evY G q rs n c T X κ) (evCK G cl (loopW rs) c T X κ') := by
  have hc : ClOk cl (orY q) := hcl
  have hx : HkOk G cl (orY q) := fun d i T H h => by cases h
  intro c
  induction c with
  | skip => intro R R' P κ κ' hκ T X; exact hκ _ _ _
  | ret => intro R R' P κ κ' hκ T X; exact hκ _ _ _
  | exit id => intro R R' P κ κ' hκ T X; exact hκ _ _ _
  | region na ops => intro R R' P κ κ' hκ T X; exact evOpsS_le hc hx (fun T X => hκ _ T X) ops T X .nil none
  | seq a b iha ihb =>
    intro R R' P κ κ' hκ T X
    refine iha _ _ (fun e T X => ?_) T X
    cases e with
    | normal => exact ihb _ _ hκ T X
    | exit i => exact hκ _ _ _
    | ret => exact hκ _ _ _
    | pan v => exact hκ _ _ _
  | cond x a b iha ihb =>
    intro R R' P κ κ' hκ T X
    simp only [evY, evCK]
    cases ev3 G T x <;> simp only <;> (try exact LeP.none)
    exact LeP.cond (iha _ _ hκ T X) (ihb _ _ hκ T X)
  | block id c ih =>
    intro R R' P κ κ' hκ T X
    refine ih _ _ (fun e T X => ?_) T X
    cases e with
    | exit i => exact LeP.cond (hκ _ _ _) (hκ _ _ _)
    | normal => exact hκ _ _ _
    | ret => exact hκ _ _ _
    | pan v => exact hκ _ _ _
  | loop live c ih =>
    intro R R' P κ κ' hκ T X
    simp only [evY, evCK]
    refine unr_le (fun vs X κ κ' hκ => ?_) (κ' := fun e vs H => κ' e (ofP live vs) H) (fun e vs X => hκ _ _ _) n _ _
    rw [evCK_bnd]
    exact ih _ _ (fun e T X => hκ _ _ _) _ _
  | callp d f as =>
    intro R R' P κ κ' hκ T X
    simp only [evY, evCK, fork_eq]
    cases ev3 G T f <;> simp only <;> (try exact LeP.none)
    refine hcl _ _ _ _ (fun v X => match v with | .pan v => κ' (.pan v) T X | v => κ' .normal (putF T d v) X) (fun v X => ?_)
    cases v <;> exact hκ _ _ _
  | panic x =>
    intro R R' P κ κ' hκ T X
    simp only [evY, evCK]
    cases ev3 G T x <;> simp only <;> (try exact LeP.none)
    exact hκ _ _ _
  | pre p c ih =>
    intro R R' P κ κ' hκ T X
    simp only [evY, evCK]
    cases p with
    | keep ts =>
      simp only [keep_W ts, bnd]
      exact ih _ _ hκ _ _
    | frz ts => exact LeP.bnd Le.rfl fun a => ih _ _ hκ _ _
    | fin t => exact LeP.bnd Le.rfl fun a => ih _ _ hκ _ _
    | free ts => exact LeP.bnd Le.rfl fun a => ih _ _ hκ _ _
  | post c p ih =>
    intro R R' P κ κ' hκ T X
    refine ih _ _ (fun e T X => ?_) T X
    cases e with
    | normal => exact LeP.bnd Le.rfl fun a => hκ _ _ _
    | exit i => exact LeP.bnd Le.rfl fun a => hκ _ _ _
    | ret => exact hκ _ _ _
    | pan v => exact hκ _ _ _

theorem bodyY_le (hcl : ClOkK cl q) {Γ : Nat → Option Fn3} {n f : Nat} {args : List V} {X : Hp} {lpD : Lp3} {R R' : Type} {P : R → R' → Prop} {κ : V → Hp → Option R} {κ' : V → Hp → Option R'} (hκ : ∀ v X, LeP P (κ v X) (κ' v X)) :
    LeP P (bodyY G q Γ rs n f args X κ) (bnd (evB3 G cl (loopW rs) lpD Γ f args X) fun r => κ' r.1 r.2) := by
  unfold bodyY evB3
  cases Γ f with
  | none => exact LeP.none
  | some fn =>
    simp only
    cases fn.recv with
    | some d => exact LeP.none
    | none =>
      simp only
      cases fn.dfr with
      | some d => exact LeP.none
      | none =>
        simp only
        rw [evCK_bnd]
        refine evY_le hcl n fn.body _ _ (fun e T X => ?_) _ _
        have key : LeP P (bnd (res3 T X fn.res) fun vs => ands (vs.all nj) (κ (pack3 vs) X)) (bnd (bnd (res3 T X fn.res) fun vs => ands (vs.all nj) (some (pack3 vs, X))) fun r => κ' r.1 r.2) := by
          rw [bnd_bnd]
          refine LeP.bnd Le.rfl fun vs => ?_
          cases vs.all nj with
          | true => exact hκ _ _
          | false => exact LeP.none
        cases e with
        | normal => exact key
        | ret => exact key
        | exit i => exact LeP.none
        | pan v => exact hκ _ _
end

section
variable {G : Gl} {pu ovd cln : Nat → Bool} {ov : Nat → List V → Option V} {Γ : Nat → Option Fn3} {no sel : Nat → Bool} {tab : ClK}
theorem clone_le {f : Nat} {as : List V} {X : Hp} {R R' : Type} {P : R → R' → Prop} {κ : V × Hp → Option R} {κ' : V × Hp → Option R'} (ho : ovd f = false) (hc : cl0 (cln f) as = true) (hκ : ∀ r, LeP P (κ r) (κ' r)) (hX : pu f = true → X = .emp) :
    LeP P (bnd (fun3 (pu f) (some (.sl true [], X))) κ) (bnd ((W G pu ovd cln ov Γ) f as X) κ') := by
  obtain ⟨ex, rfl, hc⟩ : ∃ ex, as = [.sl ex []] ∧ cln f = true := by
    unfold cl0 at hc
    split at hc
    · exact ⟨_, rfl, hc⟩
    · cases hc
  rw [W_clone ho hc]
  cases hp : pu f with
  | true => rw [hX hp]; exact hκ _
  | false => exact hκ _
theorem inl_le (ht : ClOkK (call3 pu (W G pu ovd cln ov Γ)) tab) (hno : ∀ f, no f = false → ovd f = false) : ∀ (k : Nat), ClOkK (call3 pu (W G pu ovd cln ov Γ)) (inl G pu no cln sel tab Γ k)
  | 0 => fun _ _ _ _ _ _ _ _ _ => LeP.none
  | k + 1 => by
    have ih := inl_le ht hno k
    intro f as H R R' P κ κ' hκ
    unfold inl
    simp only
    cases hs : sel f with
    | true => exact ht f as H κ κ' hκ
    | false =>
      simp only [cond_false]
      cases hn : no f with
      | true => exact LeP.none
      | false =>
        simp only [cond_false]
        have ho := hno f hn
        have wb : ∀ (as : List V) (X : Hp) (κ : V × Hp → Option R) (κ' : V × Hp → Option R'), (∀ r, LeP P (κ r) (κ' r)) → (pu f = true → X = .emp) → LeP P (bodyC G cln Γ (inl G pu no cln sel tab Γ k) (some X.obs.length) k f as X fun v X => bnd (fun3 (pu f) (some (v, X))) κ) (bnd ((W G pu ovd cln ov Γ) f as X) κ') := by
          intro as X κ κ' hκ hX r hr
          unfold bodyC at hr
          cases hc : cl0 (cln f) as with
          | true =>
            rw [hc] at hr
            exact clone_le ho hc hκ hX r hr
          | false =>
          rw [hc] at hr
          obtain ⟨r', h1, h2⟩ := bodyY_le (lpD := loopW none) ih (κ' := fun v X => bnd (fun3 (pu f) (some (v, X))) κ') (fun v X => LeP.bnd Le.rfl hκ) r hr
          refine ⟨r', ?_, h2⟩
          obtain ⟨x, h3, h4⟩ := bnd_some h1
          obtain ⟨y, h5, h6⟩ := bnd_some h4
          rw [W_body ho hc (r := y) (by rw [h3]; exact h5)]
          exact h6
        unfold call3
        cases hp : pu f with
        | true =>
          simp only [cond_true]
          rw [bnd_bnd]
          refine LeP.bnd Le.rfl fun a => ?_
          rw [bnd_bnd]
          have h := wb a.1 .emp (fun r => κ r.1 (bif flat r.1 then H else H.frz a.2)) (fun r => κ' r.1 (bif flat r.1 then H else H.frz a.2)) (fun r => hκ _ _) (fun _ => rfl)
          rw [hp] at h
          intro r hr
          refine h r ?_
          rw [← hr]
          show bodyC G cln Γ _ _ k f a.1 .emp _ = _
          refine congrArg _ (funext fun v => funext fun X => ?_)
          simp only [fun3, cond_true, bnd]
          cases snapP X deep v <;> rfl
        | false =>
          simp only [cond_false]
          unfold callL
          simp only
          cases hb : noDupN (reach H 100 (as.flatMap slots3) []) && (reach H 100 (as.flatMap slots3) []).all (fun s => (H.ent s).isSome) with
          | false => exact LeP.none
          | true =>
            simp only [cond_true]
            have hlen : (H.sub (reach H 100 (as.flatMap slots3) [])).obs.length = (reach H 100 (as.flatMap slots3) []).length := by simp [Hp.sub, mkHp]
            have h := wb (as.map (ren (subρ H (reach H 100 (as.flatMap slots3) [])))) (H.sub (reach H 100 (as.flatMap slots3) [])) (fun r => κ (ren (bckρ H (reach H 100 (as.flatMap slots3) []) (canR (reach H 100 (as.flatMap slots3) []).length r).2) (canR (reach H 100 (as.flatMap slots3) []).length r).1) (H.merge (reach H 100 (as.flatMap slots3) []) (canR (reach H 100 (as.flatMap slots3) []).length r).2))
              (fun r => κ' (ren (bckρ H (reach H 100 (as.flatMap slots3) []) (canR (reach H 100 (as.flatMap slots3) []).length r).2) (canR (reach H 100 (as.flatMap slots3) []).length r).1) (H.merge (reach H 100 (as.flatMap slots3) []) (canR (reach H 100 (as.flatMap slots3) []).length r).2)) (fun r => hκ _ _) (fun h => by rw [hp] at h; cases h)
            rw [hp, hlen] at h
            rw [bnd_bnd]
            intro r hr
            exact h r hr

theorem topY_W (ht : ClOkK (call3 pu (W G pu ovd cln ov Γ)) tab) (hno : ∀ f, no f = false → ovd f = false) {k f : Nat} {as : List V} {v : V} (hp : pu f = true) (hn : no f = false) (hc : cln f = false) (h : topY G pu no cln sel tab Γ k f as = some v) : (W G pu ovd cln ov Γ) f as .emp = some (v, .emp) := by
  have ho := hno f hn
  have hc0 : cl0 (cln f) as = false := by rw [hc]; unfold cl0; split <;> rfl
  unfold topY bodyC at h
  rw [hc0] at h
  obtain ⟨r', h1, h2⟩ := bodyY_le (P := fun a b : V => a = b) (lpD := loopW none) (inl_le ht hno k) (κ' := fun v X => bnd (snapP X deep v) fun y => some y.1) (fun v X r hr => ⟨r, hr, rfl⟩) v h
  subst h2
  obtain ⟨x, h3, h4⟩ := bnd_some h1
  obtain ⟨y, h5, h6⟩ := bnd_some h4
  cases h6
  apply W_body ho hc0
  rw [hp]
  show fun3 true (evB3 G _ (loopW (some Hp.emp.obs.length)) (loopW none) Γ f as .emp) = _
  rw [show Hp.emp.obs.length = 0 from rfl, h3]
  simp only [fun3, cond_true, bnd, h5]
end
end Go.Proofs.YtapkmhneneffdaaGreatDoor.M3

/-! The text ZajD. -/
namespace Go.Proofs.YtapkmhneneffdaaGreatDoor.M3.E
open Go Go.Proofs.YtapkmhneneffdaaGreatDoor.Mx Go.Proofs.YtapkmhneneffdaaGreatDoor.M3

abbrev D (α : Type) := Nat → (α → Nat → Fn3) → Fn3
section
variable {α β γ δ ε ζ η θ : Type}
def p0 (x : α) : D α := fun n k => k x n
def a1 (f : α → β) (a : D α) : D β := fun n k => a n fun x n => k (f x) n
def a2 (f : α → β → γ) (a : D α) (b : D β) : D γ := fun n k => a n fun x n => b n fun y n => k (f x y) n
def a3 (f : α → β → γ → δ) (a : D α) (b : D β) (c : D γ) : D δ := fun n k => a n fun x n => b n fun y n => c n fun z n => k (f x y z) n
def a4 (f : α → β → γ → δ → ε) (a : D α) (b : D β) (c : D γ) (d : D δ) : D ε := fun n k => a n fun x n => b n fun y n => c n fun z n => d n fun u n => k (f x y z u) n
def a5 (f : α → β → γ → δ → ε → ζ) (a : D α) (b : D β) (c : D γ) (d : D δ) (e : D ε) : D ζ := fun n k => a n fun x n => b n fun y n => c n fun z n => d n fun u n => e n fun v n => k (f x y z u v) n
def a6 (f : α → β → γ → δ → ε → ζ → η) (a : D α) (b : D β) (c : D γ) (d : D δ) (e : D ε) (g : D ζ) : D η := fun n k => a n fun x n => b n fun y n => c n fun z n => d n fun u n => e n fun v n => g n fun w n => k (f x y z u v w) n
def a7 (f : α → β → γ → δ → ε → ζ → η → θ) (a : D α) (b : D β) (c : D γ) (d : D δ) (e : D ε) (g : D ζ) (h : D η) : D θ := fun n k => a n fun x n => b n fun y n => c n fun z n => d n fun u n => e n fun v n => g n fun w n => h n fun s n => k (f x y z u v w s) n
def rep (a : D α) : Nat → D (List α)
  | 0 => p0 []
  | c + 1 => fun n k => a n fun x n => rep a c n fun l n => k (x :: l) n
end
def dNf : Nat → D Nat
  | 0 => fun n k => k 0 n
  | f + 1 => fun n k => bif Nat.blt (Nat.mod n 16) 8 then k (Nat.mod n 16) (Nat.div n 16) else dNf f (Nat.div n 16) fun e m => k (Nat.add (Nat.sub (Nat.mod n 16) 8) (Nat.mul 8 e)) m
/-- A number. -/
def dN : D Nat := dNf 40
def dL {α : Type} (a : D α) : D (List α) := fun n k => dN n fun c n => rep a c n k
def dB : D Bool := a1 (fun x => Nat.beq x 1) dN
def dZ : D Int := fun n k => dN n fun x n => bif Nat.beq (Nat.mod x 2) 0 then k (.ofNat (Nat.div x 2)) n else k (.negSucc (Nat.div x 2)) n
def dQ {α : Type} (a : D α) : D (Option α) := fun n k => dN n fun x n => bif Nat.beq x 0 then k none n else a n fun y n => k (some y) n
def kK : Nat → IntKind
  | 0 => .i64 | 1 => .u64 | 2 => .u8 | 3 => .i32 | 4 => .u32 | 5 => .i8 | 6 => .i16 | _ => .u16
def dK : D IntKind := a1 kK dN
def dV : Nat → D Value
  | 0 => p0 .nilFunc
  | f + 1 => fun n k => dN n fun t n => match t with
    | 0 => a1 (fun x => Value.int .i64 x) dZ n k
    | 1 => a2 (fun q x => Value.int q x) dK dZ n k
    | 2 => a1 (fun x => Value.bool x) dB n k
    | 3 => k (.pointer none) n
    | 4 => a2 (fun x y => Value.slice none x y) dN dN n k
    | 5 => a1 (fun l => Value.string ⟨(l.map UInt8.ofNat).toArray⟩) (dL dN) n k
    | 6 => k (.map none) n
    | 7 => k .nilFunc n
    | 8 => k .nilIface n
    | 9 => a1 (fun l => Value.agg l.toArray) (dL (dV f)) n k
    | _ => a1 (fun l => Value.tuple l.toArray) (dL (dV f)) n k
def dV4 : D Value := dV 4
def dO : D Opd := fun n k => dN n fun t n => match t with
  | 0 => a1 Opd.t dN n k
  | 1 => a1 Opd.c dV4 n k
  | 2 => a1 Opd.f dN n k
  | 3 => a1 Opd.gl dN n k
  | t + 4 => k (.t t) n
def kL : Nat → LK
  | 0 => .b | 1 => .i | _ => .s
def dM : D EqM := fun n k => dN n fun t n => match t with
  | 0 => k (.lf .i) n
  | 1 => k (.lf .b) n
  | 2 => k (.lf .s) n
  | 3 => k .ptr n
  | 4 => k .slc n
  | 5 => k .fnc n
  | 6 => k .mp n
  | 7 => a1 EqM.cells (dL (a1 kL dN)) n k
  | _ => k .no n
def kB : Nat → BinOp
  | 0 => .eql | 1 => .neq | 2 => .lss | 3 => .add | 4 => .sub | 5 => .geq | 6 => .gtr | 7 => .leq | 8 => .mul | 9 => .quo | 10 => .rem | 11 => .and | 12 => .or | 13 => .xor | 14 => .shl | 15 => .shr | _ => .andNot
def kU : Nat → UnOp
  | 0 => .not | 1 => .neg | 2 => .xor | _ => .plus
def dP : D (Nat × Nat × Opd) := a3 (fun a b c => (a, b, c)) dN dN dO
def dI : D I := fun n k => dN n fun t n => match t with
  | 0 => a1 I.mv dO n k
  | 1 => a4 I.bin (a1 kB dN) dM dO dO n k
  | 2 => a3 I.load dB dN dO n k
  | 3 => a2 I.faddr dN dO n k
  | 4 => a2 I.call dO (dL dO) n k
  | 5 => a3 I.store dN dO dO n k
  | 6 => a3 I.iaddr dN dO dO n k
  | 7 => a1 I.len dO n k
  | 8 => a1 I.nilchk dO n k
  | 9 => a3 I.pick dO dO dO n k
  | 10 => a2 I.ext dN dO n k
  | 11 => a2 I.un (a1 kU dN) dO n k
  | 12 => a2 I.conv dK dO n k
  | 13 => a3 I.alloc dN dN (dL dV4) n k
  | 14 => a3 I.box dN dN dO n k
  | 15 => a2 I.build (dL dV4) (dL dP) n k
  | 16 => a6 I.bslice dN dN dN dN (dL dV4) (dL dP) n k
  | 17 => a7 I.append dN dN dN dN dB dO dO n k
  | 18 => a5 I.slice dN dO (dQ dO) (dQ dO) (dQ dO) n k
  | 19 => a3 (fun g a b => I.mkfn (.func g) a b) dN (dL dO) (dL dO) n k
  | 20 => a7 I.mkslice dN dN dN dN (dL dV4) dO dO n k
  | 21 => a3 I.strslice dO (dQ dO) (dQ dO) n k
  | 22 => a4 I.field dB dN dN dO n k
  | 23 => a4 I.aaddr dN dN dO dO n k
  | 24 => a5 I.aindex dB dN dN dO dO n k
  | 25 => a2 I.strindex dO dO n k
  | 26 => a1 I.strlen dO n k
  | 27 => a1 I.const dV4 n k
  | 28 => a3 I.minmax dB dO dO n k
  | 29 => a3 I.copy dN dO dO n k
  | 30 => a1 I.mkmap dN n k
  | 31 => a5 I.lookup dM dV4 dB dO dO n k
  | 32 => a4 I.mapset dM dO dO dO n k
  | 33 => a4 I.mapentry dM dV4 dO dO n k
  | 34 => a3 I.entryset dO dO dO n k
  | 35 => a1 I.maplen dO n k
  | 36 => a3 I.mapdel dM dO dO n k
  | 37 => a3 I.clear dN (dL dV4) dO n k
  | 38 => a1 I.mapclear dO n k
  | 39 => a1 I.cap dO n k
  | 40 => a5 I.aslice dN dN dO (dQ dO) (dQ dO) n k
  | 41 => a1 I.b2s dO n k
  | 42 => a2 I.mkif dN dO n k
  | 43 => a3 I.tassert dN (dQ dV4) dO n k
  | 44 => a2 I.isnil dB dO n k
  | _ => k .stuck n
/-- One operation: most are numbered in order, without a guard and a check. -/
def dIns (i : Nat) : D Ins := fun n k => dN n fun t n => match t with
  | 0 => a2 (fun d o => Ins.mk i (some d) none o [] false) dN dI n k
  | 1 => a1 (fun o => Ins.mk i none none o [] false) dI n k
  | 2 => a4 (fun g w d o => Ins.mk i (some d) (some (g, w)) o [] false) dN dB dN dI n k
  | _ => a6 Ins.mk dN (dQ dN) (dQ (a2 (fun g w => (g, w)) dN dB)) dI (dL dN) dB n k
def repI : Nat → Nat → D (List Ins)
  | 0, _ => p0 []
  | c + 1, i => fun n k => dIns i n fun x n => repI c (Nat.succ i) n fun l n => k (x :: l) n
def dPs : D Ps := fun n k => dN n fun t n => match t with
  | 0 => a1 Ps.frz (dL dN) n k
  | 1 => a1 Ps.keep (dL dN) n k
  | 2 => a1 Ps.fin dN n k
  | _ => a1 Ps.free (dL dN) n k
def dC : Nat → D C3
  | 0 => p0 .skip
  | f + 1 => fun n k => dN n fun t n => match t with
    | 0 => k .skip n
    | 1 => dN n fun na n => dN n fun c n => repI c 0 n fun l n => k (.region na l) n
    | 2 => a2 C3.seq (dC f) (dC f) n k
    | 3 => a3 C3.cond dO (dC f) (dC f) n k
    | 4 => a2 C3.block dN (dC f) n k
    | 5 => a2 C3.loop (dL dN) (dC f) n k
    | 6 => a1 C3.exit dN n k
    | 7 => k .ret n
    | 8 => a3 C3.callp (dQ dN) dO (dL dO) n k
    | 9 => a1 C3.panic dO n k
    | 10 => a2 C3.pre dPs (dC f) n k
    | _ => a2 C3.post (dC f) dPs n k
def dR : D Res := fun n k => dN n fun t n => match t with
  | 0 => a1 Res.tmp dN n k
  | _ => a3 Res.cell dN dB dN n k
/-- A function, out of its number. -/
def dF (n : Nat) : Fn3 := dL dR n fun r n => dC 400 n fun c n => dQ (a2 (fun o c => (o, c)) dO (dC 400)) n fun d n => dQ dN n fun v _ => ⟨r, c, d, v⟩
end Go.Proofs.YtapkmhneneffdaaGreatDoor.M3.E

/-! The text ZaiA. -/
namespace Go.Proofs.YtapkmhneneffdaaGreatDoor.M3
open Go Go.Proofs.YtapkmhneneffdaaGreatDoor.Mx

/-- The memory at the call, as frozen content. -/
def FrW (W : World) : Fz := fun b => (heapOf W).get b

/-- Cells of the model and their content. -/
def CR (W : World) (vs : List V) (cs : List Value) : Prop :=
  vs.length = cs.length ∧ vs.all okC = true ∧ ∀ (j : Nat) (c : V) (u : Value), vs[j]? = some c → cs[j]? = some u → RC (FrW W) c (tr1 W u)

theorem CR.nil {W : World} : CR W [] [] := ⟨rfl, rfl, fun j c u h => by simp at h⟩
theorem CR.one {W : World} {v : V} {u : Value} (ho : okC v = true) (h : RC (FrW W) v (tr1 W u)) : CR W [v] [u] := by
  refine ⟨rfl, by simp [ho], fun j c u' h1 h2 => ?_⟩
  cases j with
  | zero => simp at h1 h2; subst h1; subst h2; exact h
  | succ j => simp at h1
theorem CR.append {W : World} {a b : List V} {x y : List Value} (h : CR W a x) (h' : CR W b y) : CR W (a ++ b) (x ++ y) := by
  obtain ⟨h1, h2, h3⟩ := h
  obtain ⟨g1, g2, g3⟩ := h'
  refine ⟨by simp [h1, g1], by simp [h2, g2], fun j c u hc hu => ?_⟩
  by_cases hj : j < a.length
  · rw [List.getElem?_append_left hj] at hc
    rw [List.getElem?_append_left (by omega)] at hu
    exact h3 j c u hc hu
  · rw [List.getElem?_append_right (by omega)] at hc
    rw [List.getElem?_append_right (by omega)] at hu
    rw [← h1] at hu
    exact g3 _ c u hc hu

theorem list_of {α : Type} {p : Nat → α → Prop} : ∀ (n : Nat), (∀ i, i < n → ∃ a, p i a) → ∃ l : List α, l.length = n ∧ ∀ i a, l[i]? = some a → p i a
  | 0, _ => ⟨[], rfl, fun i a h => by simp at h⟩
  | n + 1, h => by
    obtain ⟨l, h1, h2⟩ := list_of n (fun i hi => h i (by omega))
    obtain ⟨a, ha⟩ := h n (by omega)
    refine ⟨l ++ [a], by simp [h1], fun i b hb => ?_⟩
    by_cases hi : i < n
    · rw [List.getElem?_append_left (by omega)] at hb; exact h2 i b hb
    · rw [List.getElem?_append_right (by omega)] at hb
      by_cases hi' : i = n
      · subst hi'; simp [h1] at hb; subst hb; exact ha
      · simp only [List.getElem?_eq_some_iff, List.length_singleton] at hb; obtain ⟨hb, _⟩ := hb; omega

theorem add_spot {a : Addr} {n : Nat} (w : World) {v : Value} (h : w.cell? (a.add n) = some v) (hn : n = 0) : a.spot = none := by
  subst hn
  simp only [Addr.add, if_true] at h
  unfold World.cell? at h
  split at h
  · split at h
    · cases h
    · rename_i hs; simpa using hs
  · cases h

theorem add_none {a : Addr} (hs : a.spot = none) (n : Nat) : a.add n = ⟨a.block, a.off + n, none⟩ := by
  obtain ⟨b, o, s⟩ := a
  subst hs
  unfold Addr.add
  by_cases hn : n = 0
  · subst hn; rfl
  · rw [if_neg hn]

theorem cells_get {w : World} {base : Nat} {a : Addr} {n : Nat} {cs : List Value} (h : w.cells? base a n = some cs) : cs.length = n ∧ ∀ i, i < n → w.cell? (a.add i) = cs[i]? := by
  unfold World.cells? at h
  split at h
  · exact ⟨by simpa using mapM_some_length h, fun i hi => mapM_some_get h i i (by simp [hi])⟩
  · cases h

section
variable {H : Type} (enc : TypeId × Value → H) (P : Program) (W : World)

/-- What a reading at a type tells. -/
def RdT (t : TypeId) (D : List V → Prop) : Prop :=
  ∀ n cs x, DataW.trod enc P W 0 (fun _ => true) true n t cs = some x → (DataW.weights P t x.1).all (· ≤ reachBytes) = true → ∃ vs, D vs ∧ CR W vs cs
def TD {α : Type} (t : TypeId) (e : α → V) (Q : α → Prop) : Prop := RdT enc P W t fun vs => ∃ a, vs = (e a).cells ∧ Q a

/-- Fields that follow one another. -/
def RdS : List Field → Nat → (List V → Prop) → Prop
  | [], _, D => D []
  | f :: fs, off, D => f.offset = off ∧ ∃ D1 D2, RdT enc P W f.type D1 ∧ RdS fs (off + P.cellsOf f.type) D2 ∧ ∀ a b, D1 a → D2 b → D (a ++ b)
end

section
variable {H : Type} {enc : TypeId × Value → H} {P : Program} {W : World}

theorem RdT.mono {t : TypeId} {D D' : List V → Prop} (h : RdT enc P W t D) (hd : ∀ vs, D vs → D' vs) : RdT enc P W t D' := fun n cs x hx hw => by
  obtain ⟨vs, h1, h2⟩ := h n cs x hx hw
  exact ⟨vs, hd vs h1, h2⟩

theorem TD.mono {α : Type} {t : TypeId} {e : α → V} {Q Q' : α → Prop} (h : TD enc P W t e Q) (hq : ∀ a, Q a → Q' a) : TD enc P W t e Q' := RdT.mono h fun _ ⟨a, h1, h2⟩ => ⟨a, h1, hq a h2⟩

theorem td_int {t : TypeId} {k : IntKind} (ht : P.underlying t = some (.int k)) : TD enc P W t (fun n : Int => V.i k n) (fun n => (Lit.int k n).wf = true) := by
  intro n cs x hx _
  obtain ⟨m, rfl, _, hw⟩ := DataW.trod_int ht hx
  exact ⟨_, ⟨m, rfl, hw⟩, .one rfl (.i _ _)⟩
theorem td_bool {t : TypeId} (ht : P.underlying t = some .bool) : TD enc P W t V.b (fun _ => True) := by
  intro n cs x hx _
  obtain ⟨m, rfl, _⟩ := DataW.trod_bool ht hx
  exact ⟨_, ⟨m, rfl, trivial⟩, .one rfl (.b _)⟩
theorem td_str {t : TypeId} (ht : P.underlying t = some .string) : TD enc P W t V.s (fun s => s.size ≤ reachBytes) := by
  intro n cs x hx hw
  obtain ⟨m, rfl, rfl, _⟩ := DataW.trod_string ht hx
  refine ⟨_, ⟨m, rfl, ?_⟩, .one rfl (.s _)⟩
  simp only [DataW.weights, List.all_cons, List.all_nil, Bool.and_true, decide_eq_true_eq] at hw
  exact hw

theorem weightsAll_get {e : TypeId} : ∀ (l : List (DataW H)), (DataW.weightsAll P e l).all (· ≤ reachBytes) = true → ∀ (i : Nat) (d : DataW H), l[i]? = some d → (DataW.weights P e d).all (· ≤ reachBytes) = true
  | [], _, i, d, h => by simp at h
  | a :: l, h, i, d, hd => by
    rw [DataW.weightsAll, List.all_append, Bool.and_eq_true] at h
    cases i with
    | zero => simp at hd; subst hd; exact h.1
    | succ i => simp at hd; exact weightsAll_get l h.2 i d hd

theorem weightsEach_cons {t : TypeId} {ts : List TypeId} {d : DataW H} {ds : List (DataW H)} (h : (DataW.weightsEach P (t :: ts) (d :: ds)).all (· ≤ reachBytes) = true) :
    (DataW.weights P t d).all (· ≤ reachBytes) = true ∧ (DataW.weightsEach P ts ds).all (· ≤ reachBytes) = true := by
  rw [DataW.weightsEach, List.all_append, Bool.and_eq_true] at h
  exact h

theorem td_slice {α : Type} {t te : TypeId} {e : α → V} {Q : α → Prop} {esz : Nat} (by_ : Nat) (ht : P.underlying t = some (.slice te)) (hc : P.cellsOf te = esz) (hb : P.bytesOf te = by_) (h0 : 0 < esz) (he : ∀ a, (e a).cells.length = esz) (h : TD enc P W te e Q) :
    TD enc P W t (S.enc e) (fun s => s.l.length * by_ ≤ reachBytes ∧ ∀ (i : Nat) a, s.l[i]? = some a → Q a) := by
  intro n cs x hx hw
  rcases DataW.trod_slice ht hx with ⟨rfl, rfl⟩ | ⟨a, len, cap, elems, rest, m, rfl, rfl, rfl, _, hl, _, hel, hget, hsp, _⟩
  · exact ⟨_, ⟨⟨false, []⟩, rfl, by simp, fun i a h => by simp at h⟩, .one rfl (.nil _)⟩
  · obtain ⟨hrl, hrest⟩ := hsp rfl
    simp only [DataW.weights, ht, List.all_cons, List.all_append, Bool.and_eq_true, List.length_map, decide_eq_true_eq, hb] at hw
    obtain ⟨hw1, hw2, _⟩ := hw
    -- each element
    have hex : ∀ i, i < len → ∃ a', ∃ ci, W.cells? 0 (a.add (i * esz)) esz = some ci ∧ Q a' ∧ CR W (e a').cells ci := by
      intro i hi
      have h1 := hget i hi
      have hi' : i < elems.length := by omega
      rw [List.getElem?_eq_getElem hi', hc] at h1
      obtain ⟨ci, h2, h3⟩ := Option.bind_eq_some_iff.1 h1
      obtain ⟨vs, ⟨a', rfl, hq⟩, hcr⟩ := h m ci _ h3 (weightsAll_get _ hw2 i _ (by rw [List.getElem?_map, List.getElem?_eq_getElem hi']; rfl))
      exact ⟨a', ci, h2, hq, hcr⟩
    obtain ⟨l, hll, hlp⟩ := list_of len hex
    -- the place
    have hplace : 0 < cap → a.spot = none ∧ isRow W a.block = true := by
      intro hcap
      have : ∃ ci, W.cells? 0 (a.add 0) esz = some ci := by
        by_cases hl0 : 0 < len
        · obtain ⟨_, ci, h1, _⟩ := hex 0 hl0
          rw [Nat.zero_mul] at h1
          exact ⟨ci, h1⟩
        · have hl0' : len = 0 := by omega
          subst hl0'
          have h1 := hrest 0 (by omega)
          have hr' : 0 < rest.length := by omega
          rw [List.getElem?_eq_getElem hr', hc] at h1
          obtain ⟨ci, h2, _⟩ := Option.bind_eq_some_iff.1 h1
          simp only [Nat.add_zero, Nat.zero_mul] at h2
          exact ⟨ci, h2⟩
      obtain ⟨ci, h1⟩ := this
      have ha0 : a.add 0 = a := rfl
      rw [ha0] at h1
      obtain ⟨hcl, hcg⟩ := cells_get h1
      have h2 := hcg 0 h0
      rw [List.getElem?_eq_getElem (by omega)] at h2
      have hs := add_spot W h2 rfl
      rw [add_none hs] at h2
      obtain ⟨_, _, _, _, h3⟩ := tr1_cell h2
      exact ⟨hs, h3⟩
    refine ⟨_, ⟨⟨false, l⟩, rfl, ?_, fun i a' ha' => ?_⟩, .one rfl ?_⟩
    · show l.length * by_ ≤ reachBytes
      rw [hll, ← hel]
      exact Nat.le_trans (Nat.mul_le_mul_right _ (Nat.le_add_right _ _)) hw1
    · obtain ⟨_, _, hq, _⟩ := hlp i a' ha'; exact hq
    · show RC (FrW W) (.sl false (l.map e)) _
      by_cases hcap : cap = 0
      · subst hcap
        have hl0 : len = 0 := by omega
        subst hl0
        have : l = [] := List.length_eq_zero_iff.1 hll
        subst this
        show RC (FrW W) (.sl false []) (.slice (some ⟨0, 0, some 1⟩) 0 0)
        exact .emp _ _ _ _ _ (fun h => by cases h)
      · obtain ⟨hs, hrow⟩ := hplace (by omega)
        obtain ⟨ab, ao, as⟩ := a
        simp only at hs hrow
        subst hs
        have htr : tr1 W (.slice (some ⟨ab, ao, none⟩) len cap) = .slice (some ⟨ab, ao, some 1⟩) len cap := by
          obtain ⟨cap', rfl⟩ : ∃ k, cap = k + 1 := ⟨cap - 1, by omega⟩
          have : tr1 W (.slice (some ⟨ab, ao, none⟩) len (cap' + 1)) = if isRow W ab = true ∧ len ≤ cap' + 1 then .slice (some ⟨ab, ao, some 1⟩) len (cap' + 1) else junk := by
            cases len <;> rfl
          rw [this, if_pos ⟨hrow, hl⟩]
        rw [htr]
        by_cases hl0 : len = 0
        · subst hl0
          have : l = [] := List.length_eq_zero_iff.1 hll
          subst this
          exact .emp _ _ _ _ _ (fun h => by cases h)
        · -- the row
          have hcell : ∀ i j, i < len → j < esz → ∃ (a' : α) (c : V) (u : Value), l[i]? = some a' ∧ (e a').cells[j]? = some c ∧ W.cell? ⟨ab, ao + i * esz + j, none⟩ = some u ∧ RC (FrW W) c (tr1 W u) := by
            intro i j hi hj
            have hi' : i < l.length := by omega
            obtain ⟨ci, h1, _, h2, _, h4⟩ := hlp i l[i] (List.getElem?_eq_getElem hi')
            obtain ⟨hcl, hcg⟩ := cells_get h1
            have hj' : j < (e l[i]).cells.length := by rw [he]; exact hj
            refine ⟨l[i], _, ci[j]'(by omega), List.getElem?_eq_getElem hi', List.getElem?_eq_getElem hj', ?_, h4 j _ _ (List.getElem?_eq_getElem hj') (List.getElem?_eq_getElem (by omega))⟩
            have h5 := hcg j hj
            rw [add_none (a := (⟨ab, ao, none⟩ : Addr)) rfl (i * esz), add_none (a := (⟨ab, ao + i * esz, none⟩ : Addr)) rfl j, List.getElem?_eq_getElem (by omega)] at h5
            exact h5
          obtain ⟨_, _, u0, _, _, hu0, _⟩ := hcell 0 0 (by omega) h0
          obtain ⟨e0, cs0, hΦ, _, _⟩ := tr1_cell hu0
          have hin : ∀ i j u, W.cell? ⟨ab, ao + i * esz + j, none⟩ = some u → cs0[ao + i * esz + j]? = some (tr1 W u) := by
            intro i j u hu
            obtain ⟨e1, cs1, h1, h2, _⟩ := tr1_cell hu
            rw [hΦ] at h1; cases h1; exact h2
          have hll' : (l.map e).length = len := by simp [hll]
          have hres := RC.sl (Φ := FrW W) false (l.map e) ab ao 1 cap esz e0 true cs0 hΦ (fun h => by cases h) (by rw [hll']; exact hl) (Or.inl rfl) ?_ ?_ ?_
          · rw [hll'] at hres; exact hres
          · rw [hll']
            obtain ⟨_, _, u, _, _, hu, _⟩ := hcell (len - 1) (esz - 1) (by omega) (by omega)
            have hcs := hin _ _ _ hu
            have hlt := (List.getElem?_eq_some_iff.1 hcs).1
            have hm : len * esz = (len - 1) * esz + esz := by
              obtain ⟨k, rfl⟩ : ∃ k, len = k + 1 := ⟨len - 1, by omega⟩
              rw [Nat.add_sub_cancel, Nat.succ_mul]
            omega
          · intro i v hv
            rw [List.getElem?_map] at hv
            obtain ⟨a', h1, rfl⟩ := Option.map_eq_some_iff.1 hv
            obtain ⟨_, _, _, h2⟩ := hlp i a' h1
            exact ⟨he a', h2.2.1⟩
          · intro i j v c u hv hcj hu
            rw [List.getElem?_map] at hv
            obtain ⟨a', h1, rfl⟩ := Option.map_eq_some_iff.1 hv
            have hi : i < len := by have := (List.getElem?_eq_some_iff.1 h1).1; omega
            have hj : j < esz := by have := (List.getElem?_eq_some_iff.1 hcj).1; rw [he] at this; exact this
            obtain ⟨a2, c2, u2, g1, g2, g3, g4⟩ := hcell i j hi hj
            rw [h1] at g1; cases g1
            rw [hcj] at g2; cases g2
            rw [hin _ _ _ g3] at hu; cases hu
            exact g4

theorem rdS_read : ∀ (fs : List Field) (off : Nat) (D : List V → Prop), RdS enc P W fs off D → ∀ (n : Nat) (cs : List Value) (xs : List (DataW H × List MemPlace)), xs.length = fs.length →
    (∀ (i : Nat) (f : Field), fs[i]? = some f → DataW.trod enc P W 0 (fun _ => true) true n f.type ((cs.drop (f.offset - off)).take (P.cellsOf f.type)) = xs[i]?) →
    (DataW.weightsEach P (fs.map (·.type)) (xs.map (·.1))).all (· ≤ reachBytes) = true → cs.length = (fs.map fun f => P.cellsOf f.type).sum → ∃ vs, D vs ∧ CR W vs cs
  | [], off, D, h, n, cs, xs, _, _, _, hl => by
    simp at hl
    subst hl
    exact ⟨[], h, .nil⟩
  | f :: fs, off, D, ⟨ho, D1, D2, h1, h2, h3⟩, n, cs, xs, hxl, hget, hw, hl => by
    cases xs with
    | nil => simp at hxl
    | cons x xs =>
    have g1 := hget 0 f rfl
    rw [ho] at g1
    simp only [Nat.sub_self, List.drop_zero, List.getElem?_cons_zero] at g1
    obtain ⟨w1, w2⟩ := weightsEach_cons hw
    obtain ⟨a, ha, hca⟩ := h1 n _ _ g1 w1
    simp only [List.map_cons, List.sum_cons] at hl
    obtain ⟨b, hb, hcb⟩ := rdS_read fs (off + P.cellsOf f.type) D2 h2 n (cs.drop (P.cellsOf f.type)) xs (by simpa using hxl) (fun i f' hf' => by
      have g := hget (i + 1) f' (by simpa using hf')
      simp only [List.getElem?_cons_succ] at g
      rw [← g, List.drop_drop]
      have hoff : ∀ (fs : List Field) (off : Nat) (D : List V → Prop), RdS enc P W fs off D → ∀ (i : Nat) (f' : Field), fs[i]? = some f' → off ≤ f'.offset := by
        intro fs
        induction fs with
        | nil => intro _ _ _ i f' h; simp at h
        | cons g gs ih =>
          intro off D hD i f' h
          obtain ⟨q1, _, D2', _, q2, _⟩ := hD
          cases i with
          | zero => simp at h; subst h; omega
          | succ i => have := ih _ _ q2 i f' (by simpa using h); omega
      have := hoff fs _ _ h2 i f' hf'
      congr 3
      omega) w2 (by rw [List.length_drop, hl]; omega)
    refine ⟨a ++ b, h3 a b ha hb, ?_⟩
    have := hca.append hcb
    rwa [List.take_append_drop] at this

theorem rd_struct {t : TypeId} {fs : Array Field} {D : List V → Prop} (ht : P.underlying t = some (.struct fs)) (hc : P.cellsOf t = (fs.toList.map fun f => P.cellsOf f.type).sum) (h : RdS enc P W fs.toList 0 D) : RdT enc P W t D := by
  intro n cs x hx hw
  obtain ⟨xs, m, rfl, rfl, hl, hxl, hget⟩ := DataW.trod_struct ht hx
  simp only [DataW.weights, ht] at hw
  exact rdS_read fs.toList 0 D h m cs xs (by simpa using hxl) (fun i f hf => hget i f (by simpa using hf)) hw (by rw [hl, hc])

theorem td_struct {α : Type} {t : TypeId} {e : α → V} {Q : α → Prop} {fs : Array Field} (ht : P.underlying t = some (.struct fs)) (hc : P.cellsOf t = (fs.toList.map fun f => P.cellsOf f.type).sum) (h : RdS enc P W fs.toList 0 fun vs => ∃ a, vs = (e a).cells ∧ Q a) : TD enc P W t e Q :=
  rd_struct ht hc h
end
end Go.Proofs.YtapkmhneneffdaaGreatDoor.M3

/-! The text ZaiB. -/
namespace Go.Proofs.YtapkmhneneffdaaGreatDoor.M3
open Go Go.Proofs.YtapkmhneneffdaaGreatDoor.Mx

theorem hinv0 (W : World) : HInv noα (FrW W) .emp (heapOf W) := by
  refine ⟨fun o x h => h, fun o x h => ?_, fun st L h => (by cases h), fun slot st ob h => (by cases slot <;> simp [Hp.emp] at h), fun s s' st st' ob ob' L L' h => (by cases s <;> simp [Hp.emp] at h)⟩
  have h' : (heapOf W).get o = some x := h
  rw [heapOf_get] at h'
  obtain ⟨ob, h1, rfl⟩ := Option.map_eq_some_iff.1 h'
  refine ⟨(Array.getElem?_eq_some_iff.1 h1).1, ?_⟩
  cases ob <;> intro h <;> cases h

theorem law3 {P : Program} (hm : P.follows .mixedOrders = true) {G : Gl} {pu ovd cln : Nat → Bool} {ov : Nat → List V → Option V} {Γ : Nat → Option Fn3} (hΓ : TabOk P (erΓ Γ)) {Tb : Bs → World → Prop} {ov2 : Known} (hov2 : OvOk P Tb ov2) (hog : OvGood ov2)
    (hov : OvS ovd ov ov2) (hcln : ClnOk cln Γ) (hok : ∀ f fn, Γ f = some fn → fn.ok = true) {f : Nat} {as : List V} {args : Array Value} {W : World} {X' : Hp} (hp : pu f = true) (h : M3.W G pu ovd cln ov Γ f as .emp = some (.b true, X'))
    (htb : Tb ⟨P.globals.size, W.heap.size⟩ W) (hsz : P.globals.size ≤ W.heap.size) (hG : GlOk G (FrW W)) (ha : Rs noα (FrW W) as (args.toList.map (trV W))) :
    Calls P f args W fun e w' => e = .returned (.bool true) ∧ RowKit.Below W.heap.size W w' := by
  obtain ⟨k, u, H', Φ', h1, h2⟩ := W_run hov hcln hok hp h (hinv0 W) hG ha
  have hu : u = .bool true := by
    have hr := h2.r
    cases hr with
    | con hc => cases hc; rfl
  subst hu
  exact law_calls hm hΓ hov2 hog htb hsz h1

section
variable {H : Type} {enc : TypeId × Value → H} {P : Program} {W : World}

theorem arg_agg {α : Type} {t : TypeId} {e : α → V} {Q : α → Prop} {l : α → List V} (h : TD enc P W t e Q) (hl : ∀ a, e a = .agg (l a)) {cs : Array Value} {d : DataW H} {p : List MemPlace} (hd : DataW.Trod enc P W 0 (fun _ => true) true t (.agg cs) d p)
    (hw : (DataW.weights P t d).all (· ≤ reachBytes) = true) : ∃ a, Q a ∧ R noα (FrW W) (e a) (trV W (.agg cs)) := by
  obtain ⟨n, hn⟩ := hd
  obtain ⟨vs, ⟨a, rfl, hq⟩, h1, h2, h3⟩ := h n _ _ hn hw
  refine ⟨a, hq, .con ?_⟩
  rw [hl] at h1 h2 h3 ⊢
  simp only [V.cells, Value.cells, Array.length_toList] at h1 h2 h3
  refine .agg _ _ (by simpa using h1) fun i g g' => ?_
  have g2 : i < cs.size := by simpa using g'
  rw [Array.getElem_map]
  exact h3 i _ _ (List.getElem?_eq_getElem g) (by rw [Array.getElem?_toList, Array.getElem?_eq_getElem g2])

theorem arg_one {α : Type} {t : TypeId} {e : α → V} {Q : α → Prop} (h : TD enc P W t e Q) (he : ∀ a, (e a).cells = [e a]) {v : Value} (hv : v.cells = #[v]) (ht : trV W v = tr1 W v) {d : DataW H} {p : List MemPlace} (hd : DataW.Trod enc P W 0 (fun _ => true) true t v d p)
    (hw : (DataW.weights P t d).all (· ≤ reachBytes) = true) : ∃ a, Q a ∧ R noα (FrW W) (e a) (trV W v) := by
  obtain ⟨n, hn⟩ := hd
  obtain ⟨vs, ⟨a, rfl, hq⟩, h1, h2, h3⟩ := h n _ _ hn hw
  refine ⟨a, hq, .con ?_⟩
  rw [ht]
  rw [hv, he] at h3
  exact h3 0 _ _ rfl rfl

theorem gl_tab {n : Nat} {c : Array Value} {t : TypeId} {fz : Nat × Nat} {k : IntKind} {zs : List Int} (h : W.heap[n]? = some (.cells c t fz)) (hc : c.toList = zs.map fun z => Value.int k z) : RC (FrW W) (.pe (.agg (zs.map fun z => V.i k z)) 0) (.pointer (some ⟨n, 0, none⟩)) := by
  have hg : FrW W n = some (.cells t true (zs.map fun z => Value.int k z)) := by
    show (heapOf W).get n = _
    rw [heapOf_get, h, Option.map_some, obOf, hc, List.map_map]
    rfl
  refine .pe _ 0 n 0 _ _ _ hg (by simp [V.cells]) ?_ fun j c u h1 h2 => ?_
  · simp [V.cells, okC]
  · simp only [V.cells, List.getElem?_map, Nat.zero_add] at h1 h2
    obtain ⟨z, h3, rfl⟩ := Option.map_eq_some_iff.1 h1
    rw [h3] at h2
    cases h2
    exact .i _ _
end
end Go.Proofs.YtapkmhneneffdaaGreatDoor.M3

/-! The text ZaiC. -/
namespace Go.Proofs.YtapkmhneneffdaaGreatDoor.M3
open Go Go.Proofs.YtapkmhneneffdaaGreatDoor.Mx

def stT (P : Program) (t : TypeId) : Option (List (Nat × TypeId × Nat)) :=
  match P.underlying t with
  | some (.struct fs) => some (fs.toList.map fun f => (f.offset, f.type, P.cellsOf f.type))
  | _ => none

def Pr : List (List V → Prop) → List V → Prop
  | [], vs => vs = []
  | D :: Ds, vs => ∃ a b, vs = a ++ b ∧ D a ∧ Pr Ds b

section
variable {H : Type} (enc : TypeId × Value → H) (P : Program) (W : World)
inductive RdL : List (Nat × TypeId × Nat) → Nat → List (List V → Prop) → Prop
  | nil (off : Nat) : RdL [] off []
  | cons {off : Nat} {t : TypeId} {c : Nat} {l : List (Nat × TypeId × Nat)} {D : List V → Prop} {Ds : List (List V → Prop)} (h : RdT enc P W t D) (hl : RdL l (off + c) Ds) : RdL ((off, t, c) :: l) off (D :: Ds)
end
section
variable {H : Type} {enc : TypeId × Value → H} {P : Program} {W : World}

theorem rdS_prod : ∀ (fs : List Field) (off : Nat) (Ds : List (List V → Prop)), RdL enc P W (fs.map fun f => (f.offset, f.type, P.cellsOf f.type)) off Ds → RdS enc P W fs off (Pr Ds)
  | [], off, _, h => by cases h; rfl
  | f :: fs, off, _, h => by
    simp only [List.map_cons] at h
    generalize hl : List.map (fun f : Field => (f.offset, f.type, P.cellsOf f.type)) fs = L at h
    generalize hq : (f.offset, f.type, P.cellsOf f.type) = q at h
    cases h with
    | cons h1 h2 =>
      rename_i t c D Ds
      simp only [Prod.mk.injEq] at hq
      obtain ⟨hq1, rfl, rfl⟩ := hq
      subst hl
      exact ⟨hq1, D, Pr Ds, h1, rdS_prod fs _ Ds h2, fun a b ha hb => ⟨a, b, rfl, ha, hb⟩⟩

theorem td_st {α : Type} {t : TypeId} {e : α → V} {Q : α → Prop} {l : List (Nat × TypeId × Nat)} {Ds : List (List V → Prop)} (h : stT P t = some l) (hc : P.cellsOf t = (l.map (·.2.2)).sum) (hl : RdL enc P W l 0 Ds) (hm : ∀ vs, Pr Ds vs → ∃ a, vs = (e a).cells ∧ Q a) : TD enc P W t e Q := by
  unfold stT at h
  split at h
  · rename_i fs hfs
    cases h
    refine RdT.mono (rd_struct hfs ?_ (rdS_prod _ _ _ hl)) hm
    rw [hc, List.map_map]
    rfl
  · cases h

theorem mem_of {α : Type} {l : List α} {p : α → Prop} (h : ∀ (i : Nat) a, l[i]? = some a → p a) : ∀ a ∈ l, p a := fun a ha => by
  obtain ⟨i, hi⟩ := List.mem_iff_getElem?.1 ha
  exact h i a hi
/-- A slice with elements of at least eight bytes. -/
theorem td_sl {α : Type} {t te : TypeId} {e : α → V} {Q : α → Prop} {esz by_ : Nat} (ht : P.underlying t = some (.slice te)) (hc : P.cellsOf te = esz) (hb : P.bytesOf te = by_) (h8 : 8 ≤ by_) (h0 : 0 < esz) (he : ∀ a, (e a).cells.length = esz) (h : TD enc P W te e Q) :
    TD enc P W t (S.enc e) (fun s => s.l.length ≤ 2 ^ 44 ∧ (∀ a ∈ s.l, Q a) ∧ s.l.length * by_ ≤ 2 ^ 47) :=
  (td_slice by_ ht hc hb h0 he h).mono fun s ⟨h1, h2⟩ => ⟨by
    have h3 : s.l.length * 8 ≤ reachBytes := Nat.le_trans (Nat.mul_le_mul_left _ h8) h1
    have h4 : reachBytes ≤ 2 ^ 47 := by decide
    omega, mem_of h2, Nat.le_trans h1 (by decide)⟩
theorem td_i64 {t : TypeId} (ht : P.underlying t = some (.int .i64)) : TD enc P W t eI (fun n => -9223372036854775808 ≤ n ∧ n ≤ 9223372036854775807) := (td_int ht).mono fun a h => by
  have h' : IntKind.i64.min ≤ a ∧ a ≤ IntKind.i64.max := by simpa [Lit.wf] using h
  have e1 : IntKind.i64.min = -9223372036854775808 := by decide
  have e2 : IntKind.i64.max = 9223372036854775807 := by decide
  rw [e1, e2] at h'
  exact h'
end
end Go.Proofs.YtapkmhneneffdaaGreatDoor.M3
