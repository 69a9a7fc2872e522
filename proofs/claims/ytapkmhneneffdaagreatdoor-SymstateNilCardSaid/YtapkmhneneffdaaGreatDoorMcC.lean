/- A part of the proof that the law answers true at every input: the texts ZaeJ, ZaeK, ZaeL, ZaeM; no conditions. -/
import Derived.Test.YtapkmhneneffdaaGreatDoorMcB
set_option linter.unusedSimpArgs false
set_option linter.unusedVariables false
set_option linter.constructorNameAsVariable false

/-! The text ZaeJ. -/
namespace Go.Proofs.YtapkmhneneffdaaGreatDoor.M3
open Go Go.Proofs.YtapkmhneneffdaaGreatDoor.Mx

def GlOk (G : Gl) (Φ : Fz) : Prop := ∀ n v, G n = some v → RC Φ (.pe v 0) (.pointer (some ⟨n, 0, none⟩))
theorem GlOk.mono {G : Gl} {Φ Φ' : Fz} (hb : Φ.le Φ') (h : GlOk G Φ) : GlOk G Φ' := fun n v hv => (h n v hv).mono hb

def TR3 (α : Al) (Φ : Fz) (T : Fr) (T2 : Tr Value) : Prop := ∀ t, R α Φ (rd3 T t) (rd T2 t)
theorem TR3.mono {α α' : Al} {Φ Φ' : Fz} (ha : α.le α') (hb : Φ.le Φ') {T : Fr} {T2 : Tr Value} (h : TR3 α Φ T T2) : TR3 α' Φ' T T2 := fun t => (h t).mono ha hb

/-- What must be known of calls. -/
structure ClS (G : Gl) (cl : Cl3) (cl2 : Nat → List Value → Heap → Option (Value × Heap)) : Prop where
  c : ∀ f as X v X', cl f as X = some (v, X') → ∀ α Φ H as2, HInv α Φ X H → GlOk G Φ → Rs α Φ as as2 →
    ∃ u H' α' Φ', cl2 f as2 H = some (u, H') ∧ Nx none α Φ X H α' Φ' X' H' ∧ R α' Φ' v u ∧ ((∀ x, v ≠ .pan x) → isPan u = none)

section
variable {G : Gl} {cl : Cl3} {cl2 : Nat → List Value → Heap → Option (Value × Heap)} {α : Al} {Φ : Fz} {X : Hp} {H : Heap} {T : Fr} {T2 : Tr Value} {b : Nat}

theorem ev3_R (hG : GlOk G Φ) (hT : TR3 α Φ T T2) (x : Opd) : R α Φ (ev3 G T x) (x.ev T2) := by
  cases x with
  | t n => exact hT n
  | c v =>
    simp only [ev3, Opd.ev]
    cases hq : ofClosed v with
    | none => exact .junk _
    | some w => exact .con (ofClosed_R hq)
  | f g => exact .con (.fn g [] [] #[] #[] rfl rfl (fun i h => absurd h (by simp)) (fun i h => absurd h (by simp)))
  | gl n =>
    simp only [ev3, Opd.ev]
    split
    · rename_i v hv; exact .con (hG n v hv)
    · exact .junk _

theorem ev3s_R (hG : GlOk G Φ) (hT : TR3 α Φ T T2) : ∀ l : List Opd, Rs α Φ (l.map (ev3 G T)) (l.map (Opd.ev T2))
  | [] => Rs.nil _ _
  | x :: l => Rs.cons (ev3_R hG hT x) (ev3s_R hG hT l)

theorem opt_R (hG : GlOk G Φ) (hT : TR3 α Φ T T2) (x : Option Opd) : (∀ a, x.map (ev3 G T) = some a → ∃ b, x.map (Opd.ev T2) = some b ∧ R α Φ a b) ∧ (x.map (ev3 G T) = none → x.map (Opd.ev T2) = none) := by
  cases x with
  | none => exact ⟨(fun a h => by cases h), fun _ => rfl⟩
  | some x => exact ⟨(fun a h => by cases h; exact ⟨_, rfl, ev3_R hG hT x⟩), (fun h => by cases h)⟩

/-- What an operation comes to. -/
def Res3 (cl2 : Nat → List Value → Heap → Option (Value × Heap)) (α : Al) (Φ : Fz) (X : Hp) (H : Heap) (T2 : Tr Value) (b : Nat) (i : Mx.I) {Q : Type} (κ : V → Hp → Option Q) (r : Q) : Prop :=
  ∃ v X' u H' α' Φ', κ v X' = some r ∧ evI (noP cl2) b T2 H i = some (u, H') ∧ Nx (i.tgt.map (b + ·)) α Φ X H α' Φ' X' H' ∧ R α' Φ' v u

theorem res3_pure {i : Mx.I} {Q : Type} {κ : V → Hp → Option Q} {r : Q} (inv : HInv α Φ X H) {v : V} {u : Value} (hk : κ v X = some r) (he : evI (noP cl2) b T2 H i = some (u, H)) (hr : R α Φ v u) : Res3 cl2 α Φ X H T2 b i κ r :=
  ⟨v, X, u, H, α, Φ, hk, he, Nx.refl inv, hr⟩

theorem ev_sim {i : Mx.I} {Q : Type} {κ : V → Hp → Option Q} {r : Q} (hcl : ClS G cl cl2) (inv : HInv α Φ X H) (hG : GlOk G Φ) (hT : TR3 α Φ T T2) (h : evK G cl T X i κ = some r) (hp : ∀ k, i.tgt = some k → H.get (b + k) = some .pend ∧ b + k < H.size) :
    Res3 cl2 α Φ X H T2 b i κ r := by
  have hρ := ev3_R hG hT
  have ht : ∀ id, i.tgt.map (b + ·) = some id → H.get id = some .pend := fun id e => by
    cases hq : i.tgt with
    | none => rw [hq] at e; cases e
    | some k => rw [hq] at e; cases e; exact (hp k hq).1
  cases i <;> simp only [evK] at h <;> (try (cases h; done))
  case mv x => exact res3_pure inv h rfl (hρ x)
  case const v =>
    obtain ⟨w, h1, h2⟩ := bnd_some h
    exact res3_pure inv h2 rfl (.con (ofClosed_R h1))
  case pick c x y =>
    obtain ⟨w, h1, h2⟩ := bnd_some h
    obtain ⟨t, e, hr⟩ := pick3_R h1 (hρ c) (hρ x) (hρ y)
    exact res3_pure inv h2 (by simp only [evI, e]) hr
  case alloc k e zero =>
    obtain ⟨z, h1, h2⟩ := bnd_some h
    obtain ⟨p1, p2⟩ := hp k rfl
    have hz := ofLeafs_R (Φ := Φ) h1
    have hok := ofLeafs_ok h1
    obtain ⟨n1, n2⟩ := newOne_R (e := e) inv p1 p2 (v := mkE z) (n := z.length) (cs := zero) (by rw [mkE_cells hok]) (by rw [mkE_cells hok]; exact hok) (p := true) (by rw [mkE_cells hok]; exact hz.con _)
    exact ⟨_, _, _, _, _, Φ, h2, by simp only [evI, new_put p1]; rfl, n1, n2⟩
  case box k e x =>
    split at h
    case isFalse => cases h
    rename_i hok
    obtain ⟨p1, p2⟩ := hp k rfl
    have hx := hρ x
    have hc := hx.cells hok
    obtain ⟨n1, n2⟩ := newOne_R (e := e) inv p1 p2 (v := nrm (ev3 G T x)) (n := (ev3 G T x).cells.length) (cs := (x.ev T2).cells.toList) (by rw [nrm_cells hok]) (by rw [nrm_cells hok]; exact hok) (p := (ev3 G T x).cells.all noRef0) (by rw [nrm_cells hok]; exact plain_Rs (b := true) hc)
    exact ⟨_, _, _, _, _, Φ, h, by simp only [evI, hx.okAll hok, if_true, new_put p1]; rfl, n1, n2⟩
  case build zero ps =>
    obtain ⟨z, h1, h2⟩ := bnd_some h
    obtain ⟨cs, h3, h4⟩ := bnd_some h2
    obtain ⟨r2, g1, g2⟩ := fill3_R hρ ps z cs zero.toArray h3 (by simpa using (ofLeafs_R h1).con α)
    exact res3_pure inv h4 (by simp only [evI, g1]; rfl) (.agg' g2)
  case bslice k e esz len zero ps =>
    obtain ⟨z, h1, h2⟩ := bnd_some h
    split at h2
    case isFalse => cases h2
    rename_i hc
    obtain ⟨c1, c2⟩ := hc
    obtain ⟨es, h3, h4⟩ := bnd_some h2
    obtain ⟨p1, p2⟩ := hp k rfl
    have hok := ofLeafs_ok h1
    obtain ⟨s1, s2, s3⟩ := chunks_spec (esz := esz) len z c1 hok
    obtain ⟨r2, g1, g2, g3, g4⟩ := fillE_R hρ c2 ps _ es zero.toArray h3 s2 (by rw [s1]; simpa using (ofLeafs_R h1).con α)
    have hl := g2.1
    rw [flatC_len g3, g4, s3] at hl
    have n1 := newArr_R (e := e) (cs := r2.toList) (tot := r2.toList.length) inv p1 p2 g3 (by rw [g4, s3, hl, List.take_length]; exact plain_es (b := true) g2) rfl (by rw [g4, s3, hl]; exact Nat.le_refl _)
    refine ⟨_, _, _, _, _, Φ, h4, by simp only [evI, g1, new_put p1]; rfl, n1, ?_⟩
    exact sr_new (fun _ => ⟨by omega, rfl⟩) (Nat.le_refl _) (.inr (by omega)) (by rw [hl]; exact Nat.le_refl _)
  case load agg n x =>
    obtain ⟨w, h1, h2⟩ := bnd_some h
    obtain ⟨u, e, hr⟩ := load3_R inv h1 (hρ x)
    exact res3_pure inv h2 (by simp only [evI, e]; rfl) hr
  case store n x y =>
    obtain ⟨X', h1, h2⟩ := bnd_some h
    obtain ⟨H', e, hn⟩ := store3_R inv ht h1 (hρ x) (hρ y)
    exact ⟨_, _, _, _, α, Φ, h2, by simp only [evI, e]; rfl, hn, R.und _ _⟩
  case nilchk x =>
    obtain ⟨w, h1, h2⟩ := bnd_some h
    obtain ⟨hr, he⟩ := nilchk3_R h1 (hρ x)
    refine res3_pure inv h2 (u := x.ev T2) ?_ hr
    rcases he with ⟨a, e⟩ | ⟨g, f, c, e⟩ <;> simp only [evI, e]
  case bin op m x y =>
    obtain ⟨w, h1, h2⟩ := bnd_some h
    obtain ⟨u, e, hr⟩ := binK_R h1 (hρ x) (hρ y)
    exact res3_pure inv h2 (by simp only [evI, e]; rfl) hr
  case un op x =>
    obtain ⟨w, h1, h2⟩ := bnd_some h
    obtain ⟨u, e, hr⟩ := un3_R h1 (hρ x)
    exact res3_pure inv h2 (by simp only [evI, e]; rfl) hr
  case conv k x =>
    obtain ⟨w, h1, h2⟩ := bnd_some h
    have hx := hρ x
    cases hq : ev3 G T x <;> rw [hq] at h1 <;> simp only [conv3] at h1 <;> (try (cases h1; done))
    rw [hq] at hx
    cases h1
    exact res3_pure inv h2 (by simp only [evI, hx.inv_i]) (.con (.i _ _))
  case mkfn fn first cap =>
    cases fn <;> simp only [evK] at h <;> (try (cases h; done))
    rename_i g
    exact res3_pure inv h rfl (by
      have h1 := arr_of_rs (c := (first.map (Opd.ev T2)).toArray) (by simpa using ev3s_R hG hT first)
      have h2 := arr_of_rs (c := (cap.map (Opd.ev T2)).toArray) (by simpa using ev3s_R hG hT cap)
      exact .fn _ _ _ _ _ h1.1 h2.1 h1.2 h2.2)
  case mkslice k e esz bytes zero x y =>
    obtain ⟨w, h1, h2⟩ := bnd_some h
    obtain ⟨v, X'⟩ := w
    obtain ⟨p1, p2⟩ := hp k rfl
    obtain ⟨u, H', α', e1, e2, e3⟩ := mkslice3_R (elem := e) inv p1 p2 h1 (hρ x) (hρ y)
    exact ⟨_, _, _, _, _, Φ, h2, e1, e2, e3⟩
  case slice s x lo hi mx =>
    obtain ⟨w, h1, h2⟩ := bnd_some h
    obtain ⟨u, e, hr⟩ := slice3_R inv h1 (hρ x) (opt_R hG hT lo).1 (opt_R hG hT lo).2 (opt_R hG hT hi).1 (opt_R hG hT hi).2 (opt_R hG hT mx).1 (opt_R hG hT mx).2
    exact res3_pure inv h2 (by simp only [evI, e]; rfl) hr
  case strslice x lo hi =>
    obtain ⟨w, h1, h2⟩ := bnd_some h
    obtain ⟨u, e, hr⟩ := strslice3_R h1 (hρ x) (opt_R hG hT lo).1 (opt_R hG hT lo).2 (opt_R hG hT hi).1 (opt_R hG hT hi).2
    exact res3_pure inv h2 (by simp only [evI, e]; rfl) hr
  case faddr off x =>
    obtain ⟨w, h1, h2⟩ := bnd_some h
    obtain ⟨id, o, e, hr⟩ := faddr3_R h1 (hρ x)
    exact res3_pure inv h2 (by simp only [evI, e]) hr
  case field agg off n x =>
    obtain ⟨w, h1, h2⟩ := bnd_some h
    obtain ⟨cs, u, e, e2, hr⟩ := field3_R h1 (hρ x)
    exact res3_pure inv h2 (by simp only [evI, e, e2]; rfl) hr
  case iaddr s x y =>
    obtain ⟨w, h1, h2⟩ := bnd_some h
    obtain ⟨u, e, hr⟩ := iaddr3_R inv h1 (hρ x) (hρ y)
    exact res3_pure inv h2 (by simp only [evI, e]; rfl) hr
  case aaddr l s x y =>
    obtain ⟨w, h1, h2⟩ := bnd_some h
    obtain ⟨u, e, hr⟩ := aaddr3_R h1 (hρ x) (hρ y)
    exact res3_pure inv h2 (by simp only [evI, e]; rfl) hr
  case aindex a l s x y =>
    obtain ⟨w, h1, h2⟩ := bnd_some h
    obtain ⟨u, e, hr⟩ := aindex3_R h1 (hρ x) (hρ y)
    exact res3_pure inv h2 (by simp only [evI, e]; rfl) hr
  case strindex x y =>
    obtain ⟨w, h1, h2⟩ := bnd_some h
    obtain ⟨u, e, hr⟩ := strindex3_R h1 (hρ x) (hρ y)
    exact res3_pure inv h2 (by simp only [evI, e]; rfl) hr
  case ext n x =>
    obtain ⟨w, h1, h2⟩ := bnd_some h
    obtain ⟨vs, u, e, e2, hr⟩ := ext3_R h1 (hρ x)
    exact res3_pure inv h2 (by simp only [evI, e, e2]; rfl) hr
  case call f as =>
    split at h
    case h_2 => cases h
    rename_i g first cap hf
    obtain ⟨w, h1, h2⟩ := bnd_some h
    obtain ⟨v, X'⟩ := w
    have hfr := hρ f
    rw [hf] at hfr
    obtain ⟨f', c', e, r1, r2⟩ := hfr.inv_fn
    obtain ⟨u, H', α', Φ', q1, q2, q3, q4⟩ := hcl.c _ _ _ _ _ h1 α Φ H (f'.toList ++ as.map (Opd.ev T2) ++ c'.toList) inv hG ((r1.append (ev3s_R hG hT as)).append r2)
    have hnp : ∀ x, v ≠ .pan x := fun x e => by subst e; cases h2
    have hk : κ v X' = some r := by
      cases v <;> first | exact h2 | exact absurd rfl (hnp _)
    refine ⟨v, X', u, H', α', Φ', hk, ?_, q2, q3⟩
    simp only [evI, e]
    exact noP_some.2 ⟨q1, q4 hnp⟩
  case len x =>
    obtain ⟨w, h1, h2⟩ := bnd_some h
    obtain ⟨a, n, c, e, rfl⟩ := len3_R h1 (hρ x)
    exact res3_pure inv h2 (by simp only [evI, e]) (.con (.i _ _))
  case strlen x =>
    obtain ⟨w, h1, h2⟩ := bnd_some h
    have hx := hρ x
    cases hq : ev3 G T x <;> rw [hq] at h1 <;> simp only [strlen3] at h1 <;> (try (cases h1; done))
    rw [hq] at hx
    cases h1
    exact res3_pure inv h2 (by simp only [evI, hx.inv_s]) (.con (.i _ _))
  case append k e s by_ p x y =>
    obtain ⟨w, h1, h2⟩ := bnd_some h
    obtain ⟨v, X'⟩ := w
    obtain ⟨p1, p2⟩ := hp k rfl
    obtain ⟨u, H', α', e1, e2, e3⟩ := append3_R (elem := e) inv p1 p2 h1 (hρ x) (hρ y)
    exact ⟨_, _, _, _, _, Φ, h2, e1, e2, e3⟩
  case minmax m x y =>
    obtain ⟨w, h1, h2⟩ := bnd_some h
    obtain ⟨u, e, hr⟩ := minmax3_R h1 (hρ x) (hρ y)
    exact res3_pure inv h2 (by simp only [evI, e]; rfl) hr
  case copy s x y =>
    obtain ⟨w, h1, h2⟩ := bnd_some h
    obtain ⟨v, X'⟩ := w
    obtain ⟨u, H', e1, e2, e3⟩ := copy3_R inv ht h1 (hρ x) (hρ y)
    exact ⟨_, _, _, _, _, Φ, h2, e1, e2, e3⟩
  case clear s z x =>
    obtain ⟨z', h1, h2⟩ := bnd_some h
    obtain ⟨X', h3, h4⟩ := bnd_some h2
    obtain ⟨H', e1, e2⟩ := clear3_R inv ht h1 h3 (hρ x)
    exact ⟨_, _, _, _, α, Φ, h4, by simp only [evI, e1]; rfl, e2, R.und _ _⟩
  case mkmap k =>
    obtain ⟨p1, p2⟩ := hp k rfl
    obtain ⟨n1, n2⟩ := newMap_R inv p1 p2
    exact ⟨_, _, _, _, _, Φ, h, by simp only [evI, new_put p1]; rfl, n1, n2⟩
  case lookup m z ok x y =>
    obtain ⟨w, h1, h2⟩ := bnd_some h
    obtain ⟨w2, h3, h4⟩ := bnd_some h2
    obtain ⟨u, e, hr⟩ := lookup3_R inv h3 (.con (ofClosed_R h1)) (hρ x) (hρ y)
    exact res3_pure inv h4 (by simp only [evI, e]; rfl) hr
  case mapset m x y z =>
    obtain ⟨X', h1, h2⟩ := bnd_some h
    obtain ⟨H', e, hn⟩ := mapset3_R inv ht h1 (hρ x) (hρ y) (hρ z)
    exact ⟨_, _, _, _, α, Φ, h2, by simp only [evI, e]; rfl, hn, R.und _ _⟩
  case mapentry m z x y =>
    obtain ⟨w, h1, h2⟩ := bnd_some h
    obtain ⟨w2, h3, h4⟩ := bnd_some h2
    obtain ⟨v, X'⟩ := w2
    obtain ⟨u, H', e1, e2, e3⟩ := mapentry3_R inv ht h3 (ofClosed_R h1) (hρ x) (hρ y)
    exact ⟨_, _, _, _, _, Φ, h4, e1, e2, e3⟩
  case entryset x y z =>
    obtain ⟨X', h1, h2⟩ := bnd_some h
    obtain ⟨H', e, hn⟩ := entryset3_R inv ht h1 (hρ x) (hρ y) (hρ z)
    exact ⟨_, _, _, _, α, Φ, h2, by simp only [evI, e]; rfl, hn, R.und _ _⟩
  case maplen x =>
    obtain ⟨w, h1, h2⟩ := bnd_some h
    obtain ⟨es, c⟩ := w
    obtain ⟨es', e, hE⟩ := ents3_R inv h1 (hρ x)
    exact res3_pure inv h2 (by simp only [evI, e]; rfl) (by rw [hE.1]; exact .con (.i _ _))
  case cap x =>
    obtain ⟨w, h1, h2⟩ := bnd_some h
    have hx := hρ x
    unfold cap3 at h1
    split at h1
    · rename_i l hq
      rw [hq] at hx
      cases h1
      have := hx.inv_sl
      generalize hx2 : x.ev T2 = x2 at this
      cases this with
      | nil => exact res3_pure inv h2 (by simp only [evI, hx2, capV]; rfl) (.con (.i _ _))
      | emp _ o off m cap hme =>
        obtain ⟨m1, m2⟩ := hme rfl
        exact res3_pure inv h2 (by simp only [evI, hx2, capV, if_pos m1, m2]; rfl) (.con (.i _ _))
      | sl _ _ o off m cap esz' e ro cs hΦ hexl hcap hm hlen' hEl hRl =>
        obtain ⟨m1, m2⟩ := hexl rfl
        exact res3_pure inv h2 (by simp only [evI, hx2, capV, if_pos m1, m2]; rfl) (.con (.i _ _))
    · rename_i slot st off n hq
      rw [hq] at hx
      cases h1
      obtain ⟨L, m, cap, _, hex, _, _, _, e⟩ := hx.inv_sr
      obtain ⟨m1, m2⟩ := hex rfl
      exact res3_pure inv h2 (by simp only [evI, e, capV, if_pos m1, m2]; rfl) (.con (.i _ _))
    · cases h1
  case mkif t x => exact res3_pure inv h rfl (.ifc _ _ _ (hρ x))
  case tassert t z x =>
    cases z with
    | none =>
      obtain ⟨w, h1, h2⟩ := bnd_some h
      obtain ⟨u, e, hr⟩ := tassert3_R (z2 := none) h1 (.inl ⟨rfl, rfl⟩) (hρ x)
      exact res3_pure inv h2 (by simp only [evI, e]; rfl) hr
    | some z =>
      obtain ⟨w, h1, h2⟩ := bnd_some h
      obtain ⟨w2, h3, h4⟩ := bnd_some h2
      obtain ⟨u, e, hr⟩ := tassert3_R (z2 := some z) h3 (.inr ⟨_, _, rfl, rfl, .con (ofClosed_R h1)⟩) (hρ x)
      exact res3_pure inv h4 (by simp only [evI, e]; rfl) hr
  case isnil neg x =>
    obtain ⟨w, h1, h2⟩ := bnd_some h
    obtain ⟨u, e, hr⟩ := isnil3_R h1 (hρ x)
    exact res3_pure inv h2 (by simp only [evI, e]; rfl) hr

end
end Go.Proofs.YtapkmhneneffdaaGreatDoor.M3

/-! The text ZaeK. -/
namespace Go.Proofs.YtapkmhneneffdaaGreatDoor.M3
open Go Go.Proofs.YtapkmhneneffdaaGreatDoor.Mx

/-- What becomes of both heaps from a point on at which the second one had b objects. -/
structure NxT (b : Nat) (α : Al) (Φ : Fz) (X : Hp) (H : Heap) (α' : Al) (Φ' : Fz) (X' : Hp) (H' : Heap) : Prop where
  la : α.le α'
  lf : Φ.le Φ'
  inv : HInv α' Φ' X' H'
  sz : H.size ≤ H'.size
  ck : X.clock ≤ X'.clock
  keep : ∀ o, o < b → ¬ Live α X o → H'.get o = H.get o
  lv : ∀ o, Live α' X' o → Live α X o ∨ b ≤ o
  nf : ∀ o x, Φ' o = some x → Φ o = some x ∨ Live α X o ∨ b ≤ o
  same : X'.clock = X.clock → ∀ o, o < b → H'.get o = H.get o
  lvs : X'.clock = X.clock → ∀ o, Live α' X' o → Live α X o
  epm : X.ep ≤ X'.ep
  fzs : X'.ep = X.ep → Φ' = Φ

section
variable {b : Nat} {α α' α'' : Al} {Φ Φ' Φ'' : Fz} {X X' X'' : Hp} {H H' H'' : Heap}

theorem NxT.refl (h : HInv α Φ X H) : NxT b α Φ X H α Φ X H :=
  ⟨Al.le_refl _, Fz.le_refl _, h, Nat.le_refl _, Nat.le_refl _, fun _ _ _ => rfl, fun _ h => .inl h, fun _ _ h => .inl h, fun _ _ _ => rfl, fun _ _ h => h, Nat.le_refl _, fun _ => rfl⟩

theorem NxT.trans (h : NxT b α Φ X H α' Φ' X' H') (g : NxT b α' Φ' X' H' α'' Φ'' X'' H'') : NxT b α Φ X H α'' Φ'' X'' H'' := by
  refine ⟨Al.le_trans h.la g.la, Fz.le_trans h.lf g.lf, g.inv, Nat.le_trans h.sz g.sz, Nat.le_trans h.ck g.ck, fun o h1 h2 => ?_, fun o h1 => ?_, fun o x h1 => ?_, fun h1 o h2 => ?_, fun h1 o h2 => ?_, Nat.le_trans h.epm g.epm, fun h1 => ?_⟩
  · rw [g.keep o h1 (fun hl => by rcases h.lv o hl with q | q; exact h2 q; omega), h.keep o h1 h2]
  · rcases g.lv o h1 with q | q
    · exact h.lv o q
    · exact .inr q
  · rcases g.nf o x h1 with q | q | q
    · exact h.nf o x q
    · rcases h.lv o q with q | q
      · exact .inr (.inl q)
      · exact .inr (.inr q)
    · exact .inr (.inr q)
  · have c1 := h.ck
    have c2 := g.ck
    rw [g.same (by omega) o h2, h.same (by omega) o h2]
  · have c1 := h.ck
    have c2 := g.ck
    exact h.lvs (by omega) o (g.lvs (by omega) o h2)
  · have c1 := h.epm
    have c2 := g.epm
    rw [g.fzs (by omega), h.fzs (by omega)]

theorem NxT.of {t : Option Nat} (h : Nx t α Φ X H α' Φ' X' H') (ht : ∀ id, t = some id → b ≤ id) (hb : b ≤ H.size) : NxT b α Φ X H α' Φ' X' H' := by
  refine ⟨h.la, h.lf, h.inv, h.sz, h.ck, fun o h1 h2 => h.keep o (by omega) (fun e => by have := ht o e; omega) h2, fun o h1 => ?_, fun o x h1 => ?_, fun h1 o h2 => h.same h1 o (by omega) (fun e => by have := ht o e; omega), h.lvs, h.epm, h.fzs⟩
  · rcases h.lv o h1 with q | q | q
    · exact .inl q
    · exact .inr (ht o q)
    · exact .inr (by omega)
  · rcases h.nf o x h1 with q | q | q | q
    · exact .inl q
    · exact .inr (.inl q)
    · exact .inr (.inr (ht o q))
    · exact .inr (.inr (by omega))

theorem NxT.nx (h : NxT H.size α Φ X H α' Φ' X' H') : Nx none α Φ X H α' Φ' X' H' :=
  ⟨h.la, h.lf, h.inv, h.sz, h.ck, fun o h1 _ h2 => h.keep o h1 h2, fun o h1 => (h.lv o h1).imp id .inr, fun o x h1 => (h.nf o x h1).imp id (.imp id .inr), fun h1 o h2 _ => h.same h1 o h2, h.lvs, h.epm, h.fzs⟩

theorem NxT.mono {b' : Nat} (hb : b' ≤ b) (h : NxT b α Φ X H α' Φ' X' H') : NxT b' α Φ X H α' Φ' X' H' :=
  ⟨h.la, h.lf, h.inv, h.sz, h.ck, fun o h1 h2 => h.keep o (by omega) h2, fun o h1 => (h.lv o h1).imp id (by omega), fun o x h1 => (h.nf o x h1).imp id (.imp id (by omega)), fun h1 o h2 => h.same h1 o (by omega), h.lvs, h.epm, h.fzs⟩

/-- New numbers are set aside. -/
theorem HInv.ext (I : HInv α Φ X H) (n : Nat) : HInv α Φ X (Heap.ext n H) := by
  have hg : ∀ o, o < H.size → (Heap.ext n H).get o = H.get o := fun o h => by rw [Heap.get_ext, if_neg (by omega)]
  refine ⟨fun o x h => ?_, fun o x h => ⟨?_, (I.fz o x h).2⟩, fun st L h => ⟨?_, (I.al st L h).2⟩, fun slot st ob h => ?_, I.ap⟩
  · rw [hg o (I.fz o x h).1]; exact I.fr o x h
  · have := (I.fz o x h).1; rw [Heap.size_ext]; omega
  · have := (I.al st L h).1; rw [Heap.size_ext]; omega
  · obtain ⟨L, g1, g2, g3⟩ := I.ob slot st ob h
    exact ⟨L, g1, g2, g3.mono (Al.le_refl _) (Fz.le_refl _) (hg _ (I.al _ _ g1).1)⟩

theorem NxT.ext (I : HInv α Φ X H) (n : Nat) : NxT H.size α Φ X H α Φ X (Heap.ext n H) := by
  have hg : ∀ o, o < H.size → (Heap.ext n H).get o = H.get o := fun o h => by rw [Heap.get_ext, if_neg (by omega)]
  exact ⟨Al.le_refl _, Fz.le_refl _, I.ext n, by rw [Heap.size_ext]; omega, Nat.le_refl _, fun o h _ => hg o h, fun _ h => .inl h, fun _ _ h => .inl h, fun _ o h => hg o h, fun _ _ h => h, Nat.le_refl _, fun _ => rfl⟩

/-- A pending number is not known, and stays pending where no operation takes it. -/
theorem Nx.pend {t : Option Nat} (I : HInv α Φ X H) (h : Nx t α Φ X H α' Φ' X' H') {o : Nat} (ho : o < H.size) (hp : H.get o = some .pend) (ht : t ≠ some o) : H'.get o = some .pend := by
  rw [h.keep o ho ht (fun ⟨slot, st, ob, L, h1, h2, h3⟩ => (I.pend hp).2 slot st ob L h1 h2 h3)]; exact hp

/-! ### flat values -/
section
variable {α α' : Al} {Φ Φ' : Fz}
theorem flat0_RC {v : V} {u : Value} (hf : flat0 v = true) (h : R α Φ v u) : RC Φ' v u := by
  unfold flat0 at hf
  split at hf <;> (try (cases hf; done))
  · obtain rfl := h.inv_b; exact .b _
  · obtain rfl := h.inv_i; exact .i _ _
  · obtain rfl := h.inv_s; exact .s _
  · obtain rfl := h.inv_np; exact .np
  · obtain rfl := h.inv_nf; exact .nf
  · obtain rfl := h.inv_ni; exact .ni
  · obtain rfl := h.inv_nm; exact .nm
  · obtain ⟨f', c', rfl, h1, h2⟩ := h.inv_fn
    have e1 : f' = #[] := by have := h1.1; simpa using this.symm
    have e2 : c' = #[] := by have := h2.1; simpa using this.symm
    subst e1; subst e2
    exact .fn _ _ _ _ _ rfl rfl (fun i h => absurd h (by simp)) (fun i h => absurd h (by simp))

theorem flat1_RC {v : V} {u : Value} (hf : flat1 v = true) (h : R α Φ v u) : RC Φ' v u := by
  unfold flat1 at hf
  split at hf
  · obtain ⟨c, rfl, hc⟩ := h.inv_agg
    have := rcs_arr (all_RCs (Φ' := Φ') (fun v u => flat0_RC) hf hc)
    exact .agg _ _ this.1 this.2
  · exact flat0_RC hf h

theorem flat_R {v : V} {u : Value} (hf : flat v = true) (h : R α Φ v u) : R α' Φ' v u := by
  unfold flat at hf
  split at hf
  · obtain ⟨c, rfl, hc⟩ := h.inv_tup
    have := rcs_arr (all_RCs (Φ' := Φ') (fun v u => flat1_RC) hf hc)
    exact .con (.tup _ _ this.1 this.2)
  · obtain ⟨x, rfl, hx⟩ := h.inv_ifc
    exact .con (.ifc _ _ _ (flat1_RC hf hx))
  · obtain ⟨x, rfl, hx⟩ := h.inv_pan
    obtain ⟨y, rfl, hy⟩ := hx.inv_ifc
    exact .pan _ _ (.con (.ifc _ _ _ (flat1_RC hf hy)))
  · exact .con (flat1_RC hf h)
end

/-! ### what is noted -/
def LgR (b : Nat) (α : Al) (Φ : Fz) (X : Hp) (H : Heap) : Lg3 → Lg → Prop
  | .call clk _, .heap Hn => clk ≤ X.clock ∧ (X.clock = clk → ∀ o, Live α X o → Hn.get o = H.get o)
  | .new _ st, .rng id off n => off = 0 ∧ n = 0 ∧ ∃ L, α st = some L ∧ L.o = id
  | .ld p n, .rng id off m => n = m ∧ ((∃ v o, p = .pe v o ∧ ∃ x, Φ id = some x) ∨ (∃ slot st idx o L, p = .pr slot st idx o ∧ α st = some L ∧ id = L.o ∧ off = L.base + idx * L.esz + o ∧ o + n ≤ L.esz))
  | _, _ => False

theorem LgR.next {t : Option Nat} (I : HInv α Φ X H) (h : Nx t α Φ X H α' Φ' X' H') (ht : ∀ id, t = some id → H.get id = some .pend) {e : Lg3} {e2 : Lg} (hl : LgR b α Φ X H e e2) : LgR b α' Φ' X' H' e e2 := by
  cases e with
  | call clk e =>
    cases e2 with
    | rng => exact hl.elim
    | heap Hn =>
      obtain ⟨h1, h4⟩ := hl
      have := h.ck
      refine ⟨by omega, fun hc o ho => ?_⟩
      · have e1 : X'.clock = X.clock := by omega
        have hlo := h.lvs e1 o ho
        obtain ⟨slot, st, ob, L, k1, k2, k3⟩ := hlo
        have hsz := (I.al _ _ k2).1
        rw [h.same e1 o (by rw [← k3]; exact hsz) (fun e => (I.pend (ht o e)).2 slot st ob L k1 k2 k3)]
        exact h4 (by omega) o ⟨slot, st, ob, L, k1, k2, k3⟩
  | new slot st =>
    cases e2 with
    | heap => exact hl.elim
    | rng id off n =>
      obtain ⟨h1, h2, L, h3, h4⟩ := hl
      exact ⟨h1, h2, L, h.la _ _ h3, h4⟩
  | ld p n =>
    cases e2 with
    | heap => exact hl.elim
    | rng id off m =>
      obtain ⟨h1, h2⟩ := hl
      refine ⟨h1, ?_⟩
      rcases h2 with ⟨v, o, e, x, hx⟩ | ⟨slot, st, idx, o, L, e, hL, q⟩
      · exact .inl ⟨v, o, e, x, h.lf _ _ hx⟩
      · exact .inr ⟨slot, st, idx, o, L, e, h.la _ _ hL, q⟩

def LogR (b : Nat) (α : Al) (Φ : Fz) (X : Hp) (H : Heap) (log : Tr Lg3) (log2 : Tr Lg) : Prop :=
  ∀ i, match log.get i, log2.get i with
    | none, none => True
    | some e, some e2 => LgR b α Φ X H e e2
    | _, _ => False

theorem LogR.next {t : Option Nat} (I : HInv α Φ X H) (h : Nx t α Φ X H α' Φ' X' H') (ht : ∀ id, t = some id → H.get id = some .pend) {log : Tr Lg3} {log2 : Tr Lg} (hl : LogR b α Φ X H log log2) : LogR b α' Φ' X' H' log log2 := fun i => by
  have := hl i
  revert this
  cases log.get i <;> cases log2.get i <;> intro this
  · trivial
  · exact this
  · exact this
  · exact LgR.next I h ht this

theorem LogR.set {log : Tr Lg3} {log2 : Tr Lg} (hl : LogR b α Φ X H log log2) {e : Lg3} {e2 : Lg} (h : LgR b α Φ X H e e2) (n : Nat) : LogR b α Φ X H (log.set n e) (log2.set n e2) := fun i => by
  rw [Tr.get_set, Tr.get_set]
  by_cases hi : n = i
  · simp only [hi, if_true]; exact h
  · simp only [hi, if_false]; exact hl i

theorem veq1_refl {v : V} {u : Value} (h : R α Φ v u) (hv : vok1 v = true) : veq1 u u = true := by
  cases v <;> simp only [vok1, Bool.false_eq_true] at hv <;> (try (cases hv; done))
  case b => obtain rfl := h.inv_b; simp [veq1]
  case i => obtain rfl := h.inv_i; simp [veq1]
  case s x =>
    obtain rfl := h.inv_s
    show ByteArray.beq x x = true
    unfold ByteArray.beq
    exact beq_self_eq_true _
  case np => obtain rfl := h.inv_np; simp [veq1]
  case nf => obtain rfl := h.inv_nf; simp [veq1]
  case ni => obtain rfl := h.inv_ni; simp [veq1]
  case nm => obtain rfl := h.inv_nm; simp [veq1]
  case sl => have := h.inv_sl; cases this <;> simp [veq1]
  case pe => have := h.inv_pe; cases this; simp [veq1]
  case mc => have := h.inv_mc; cases this; simp [veq1]
  case pr => obtain ⟨_, _, rfl⟩ := h.inv_pr; simp [veq1]
  case sr => obtain ⟨_, _, _, _, _, _, _, _, rfl⟩ := h.inv_sr; simp [veq1]
  case mr => obtain ⟨_, _, rfl⟩ := h.inv_mr; simp [veq1]

theorem veqs_refl : ∀ {l : List V} {l' : List Value}, Rs α Φ l l' → l.all vok1 = true → veqs l' l' = true
  | [], [], _, _ => rfl
  | [], _ :: _, h, _ => by have := h.1; simp at this
  | _ :: _, [], h, _ => by have := h.1; simp at this
  | v :: l, u :: l', h, hv => by
    simp only [List.all_cons, Bool.and_eq_true] at hv
    obtain ⟨h1, h2⟩ := h.uncons
    simp only [veqs, veq1_refl h1 hv.1, veqs_refl h2 hv.2, Bool.and_self]

theorem veq_refl {v : V} {u : Value} (h : R α Φ v u) (hv : vok v = true) : veq u u = true := by
  by_cases ha : ∃ l, v = .agg l
  · obtain ⟨l, rfl⟩ := ha
    obtain ⟨c, rfl, hc⟩ := h.inv_agg
    exact veqs_refl hc hv
  · have h1 : vok1 v = true := by
      cases v <;> first | exact hv | exact absurd ⟨_, rfl⟩ ha
    have := veq1_refl h h1
    unfold veq
    split
    · simp [veq1] at this
    · exact this


/-! ### checks -/
theorem sub_le {agg : Bool} {off n : Nat} {v x : V} (h : sub agg off n v = some x) : off + (if agg then n else 1) ≤ v.cells.length := by
  unfold sub at h
  split at h
  · rename_i ha
    simp only [ha, if_true]
    split at h
    · split at h
      · rename_i hc; simp only [V.cells]; omega
      · split at h
        · rename_i hc; simp only [V.cells]; omega
        · cases h
    · rename_i hna
      split at h
      · rename_i hc
        have hl : v.cells = [v] := by cases v <;> first | rfl | exact absurd rfl (hna _)
        rw [hl]; simp; omega
      · cases h
  · rename_i ha
    have hf : agg = false := by simpa using ha
    simp only [hf, Bool.false_eq_true, if_false]
    have := (List.getElem?_eq_some_iff.1 h).1
    omega

theorem load_inv {agg : Bool} {n : Nat} {a v : V} (h : X.load agg n a = some v) : (∃ w off, a = .pe w off) ∨ ∃ slot st idx off esz es w, a = .pr slot st idx off ∧ X.at slot st = some (.arr esz es) ∧ es[idx]? = some w ∧ sub agg off n w = some v := by
  unfold Hp.load at h
  split at h
  · exact .inl ⟨_, _, rfl⟩
  · rename_i slot st idx off
    split at h
    · rename_i esz es hat
      split at h
      · rename_i w hw
        exact .inr ⟨slot, st, idx, off, esz, es, w, rfl, hat, hw, h⟩
      · cases h
    · cases h
  · cases h

theorem store_inv {n : Nat} {a x : V} (h : X.store n a x = some X') : ∃ slot st idx off esz es w, a = .pr slot st idx off ∧ X.at slot st = some (.arr esz es) ∧ es[idx]? = some w ∧ off + n ≤ w.cells.length := by
  unfold Hp.store at h
  split at h
  case h_2 => cases h
  rename_i slot st idx off
  split at h
  case h_2 => cases h
  rename_i esz es hat
  split at h
  case isFalse => cases h
  rename_i hc
  split at h
  case h_2 => cases h
  rename_i w hw
  simp only [Option.map_eq_some_iff] at h
  obtain ⟨w', h1, _⟩ := h
  have := (upd_spec h1 hc.2).1
  exact ⟨slot, st, idx, off, esz, es, w, rfl, hat, hw, by omega⟩

theorem loadv_get {Ha Hb : Heap} {id off : Nat} (h : Ha.get id = Hb.get id) (agg : Bool) (n : Nat) : Ha.loadv agg n (.pointer (some ⟨id, off, none⟩)) = Hb.loadv agg n (.pointer (some ⟨id, off, none⟩)) := by
  unfold Heap.loadv
  simp only [h]

/-- Where a pointer leads. -/
theorem pe_blk {v : V} {off : Nat} {u : Value} (h : R α Φ (.pe v off) u) : ∃ id o x, u = .pointer (some ⟨id, o, none⟩) ∧ Φ id = some x := by
  have := h.inv_pe
  cases this with
  | pe _ _ o a e ro cs hΦ => exact ⟨_, _, _, rfl, hΦ⟩

/-- What is known of temporaries that were not set since the first call that was noted. -/
def TnR (G : Gl) (α : Al) (Φ : Fz) (T : Fr) (T2 : Tr Value) (log : Tr Lg3) (log2 : Tr Lg) : Option (List Nat) → Prop
  | none => ∀ i clk e, log.get i ≠ some (.call clk e)
  | some l => ∃ Φb : Fz, Φb.le Φ ∧ GlOk G Φb ∧ (∀ t, l.contains t = false → R α Φb (rd3 T t) (rd T2 t)) ∧
      ∀ i clk e, log.get i = some (.call clk e) → ∃ Hn, log2.get i = some (.heap Hn) ∧ ∀ o x, Φb o = some x → Hn.get o = some x

variable {G : Gl} {cl : Cl3} {cl2 : Nat → List Value → Heap → Option (Value × Heap)} {T : Fr} {T2 : Tr Value}

theorem chk_one (I : HInv α Φ X H) (hρ : ∀ x, R α Φ (ev3 G T x) (x.ev T2)) {i : Mx.I} {v : V} {u : Value} (hv : R α' Φ' v u) (h3 : evI3 G cl T X i = some (v, X')) (h2 : evI (noP cl2) b T2 H i = some (u, H')) {e : Lg3} {e2 : Lg} (hl : LgR b α Φ X H e e2) {tn : Option (List Nat)}
    (htn : ∀ clk q x, e = .call clk q → untO tn x = true → ∃ Φb : Fz, Φb.le Φ ∧ R α Φb (ev3 G T x) (x.ev T2) ∧ ∃ Hn, e2 = .heap Hn ∧ ∀ o x, Φb o = some x → Hn.get o = some x)
    (h : chk31 X tn G T i v (some e) = true) : chk1 T2 i u (some e2) = true := by
  unfold evI3 at h3
  cases e with
  | call clk e =>
    cases i <;> simp only [chk31, Bool.false_eq_true] at h <;> (try (cases h; done))
    rename_i agg n a
    cases e2 with
    | rng => exact hl.elim
    | heap Hn =>
      simp only [evK] at h3
      obtain ⟨w, h5, h6⟩ := bnd_some h3
      cases h6
      simp only [evI, Option.map_eq_some_iff] at h2
      obtain ⟨u', h7, h8⟩ := h2
      cases h8
      simp only [Bool.and_eq_true] at h
      obtain ⟨h9, h10⟩ := h
      have ha := hρ a
      have key : ∃ id off, a.ev T2 = .pointer (some ⟨id, off, none⟩) ∧ Hn.get id = H.get id := by
        obtain ⟨q1, q4⟩ := hl
        rcases load_inv h5 with ⟨w, off, ea⟩ | ⟨slot, st, idx, off, esz, es, w, ea, hat, hw, _⟩
        · rw [ea] at h9
          obtain ⟨Φb, g1, g2, Hm, g3, g4⟩ := htn _ _ a rfl h9
          cases g3
          rw [ea] at g2
          obtain ⟨id, o, x, e1, e2⟩ := pe_blk g2
          exact ⟨id, o, e1, by rw [g4 _ _ e2, I.fr _ _ (g1 _ _ e2)]⟩
        · rw [ea] at ha h9
          obtain ⟨L, e1, e2⟩ := ha.inv_pr
          exact ⟨_, _, e2, q4 (Nat.eq_of_beq_eq_true h9) _ ⟨slot, st, _, L, at_some.1 hat, e1, rfl⟩⟩
      obtain ⟨id, off, e1, e2⟩ := key
      simp only [chk1, e1, loadv_get e2]
      rw [e1] at h7
      rw [h7]
      exact veq_refl hv h10
  | new slot st =>
    cases i <;> simp only [chk31, Bool.false_eq_true] at h <;> (try (cases h; done))
    rename_i agg n a
    cases e2 with
    | heap => exact hl.elim
    | rng id off m =>
      simp only [evK] at h3
      obtain ⟨w, h5, h6⟩ := bnd_some h3
      cases h6
      simp only [Bool.and_eq_true] at h
      obtain ⟨h9, h10⟩ := h
      obtain ⟨_, _, L, hL, rfl⟩ := hl
      obtain ⟨ob, hob⟩ := Option.isSome_iff_exists.1 h9
      obtain ⟨L', g1, g2, _⟩ := I.ob slot st ob (at_some.1 hob)
      rw [hL] at g1; cases g1
      have ha := hρ a
      have key : ∃ id off, a.ev T2 = .pointer (some ⟨id, off, none⟩) ∧ L.o ≠ id := by
        rcases load_inv h5 with ⟨w, off, ea⟩ | ⟨slot', st', idx, off, esz, es, w, ea, hat, hw, _⟩
        · rw [ea] at ha
          obtain ⟨id, o, x, e1, e2⟩ := pe_blk ha
          exact ⟨id, o, e1, fun e => by rw [e, e2] at g2; cases g2⟩
        · rw [ea] at ha h10
          obtain ⟨L', e1, e2⟩ := ha.inv_pr
          simp only [Bool.not_eq_true'] at h10
          exact ⟨_, _, e2, I.ap slot slot' st st' _ _ L L' (at_some.1 hob) (at_some.1 hat) hL e1 (fun e => by subst e; simp at h10)⟩
      obtain ⟨id, off, e1, e2⟩ := key
      simp only [chk1, e1, bne_iff_ne, ne_eq]
      exact e2
  | ld p n =>
    cases i <;> simp only [chk31, Bool.false_eq_true] at h <;> (try (cases h; done))
    rename_i m a x
    cases e2 with
    | heap => exact hl.elim
    | rng id off k =>
      simp only [evK] at h3
      obtain ⟨w, h5, h6⟩ := bnd_some h3
      obtain ⟨slot', st', idx', off', esz, es, w', ea, hat, hw, hle⟩ := store_inv h5
      have ha := hρ a
      rw [ea] at ha h
      obtain ⟨L', e1, e2⟩ := ha.inv_pr
      obtain ⟨L1, g1, g2, g3⟩ := I.ob slot' st' _ (at_some.1 hat)
      rw [e1] at g1; cases g1
      obtain ⟨rfl, hl⟩ := hl
      simp only [chk1, e2]
      rcases hl with ⟨v', o, rfl, y, hy⟩ | ⟨slot, st, idx, o, L, rfl, hL, rfl, rfl, hle2⟩
      · have hne : id ≠ L'.o := fun e => by rw [e, g2] at hy; cases hy
        simp [hne]
      · simp only [Bool.and_eq_true, Bool.or_eq_true, Bool.not_eq_true'] at h
        obtain ⟨k1, k2⟩ := h
        obtain ⟨ob, hob⟩ := Option.isSome_iff_exists.1 k1
        by_cases hs : slot = slot'
        · subst hs
          have h1 := at_some.1 hob
          have h2 := at_some.1 hat
          rw [h1] at h2
          simp only [Option.some.injEq, Prod.mk.injEq] at h2
          obtain ⟨rfl, rfl⟩ := h2
          rw [hL] at e1; cases e1
          obtain ⟨z1, _, _, _, _, _, z2, _⟩ := g3
          have hwl := (z2 idx' w' hw).1
          rw [hwl, ← z1] at hle
          simp only [beq_self_eq_true, Nat.beq_refl, Bool.true_eq_false, false_or] at k2
          simp only [Bool.or_eq_true, bne_iff_ne, ne_eq, not_true, false_or]
          rcases k2 with k2 | k2 | k2
          · have hne : idx ≠ idx' := fun e => by subst e; simp at k2
            rcases Nat.lt_or_gt_of_ne hne with q | q
            · left
              rw [Nat.ble_eq]
              have : idx * L'.esz + L'.esz ≤ idx' * L'.esz := by rw [← Nat.succ_mul]; exact Nat.mul_le_mul_right _ q
              omega
            · right
              rw [Nat.ble_eq]
              have : idx' * L'.esz + L'.esz ≤ idx * L'.esz := by rw [← Nat.succ_mul]; exact Nat.mul_le_mul_right _ q
              omega
          · by_cases hi : idx = idx'
            · subst hi; left; rw [Nat.ble_eq] at k2 ⊢; omega
            · rcases Nat.lt_or_gt_of_ne hi with q | q
              · left
                rw [Nat.ble_eq]
                have : idx * L'.esz + L'.esz ≤ idx' * L'.esz := by rw [← Nat.succ_mul]; exact Nat.mul_le_mul_right _ q
                omega
              · right
                rw [Nat.ble_eq]
                have : idx' * L'.esz + L'.esz ≤ idx * L'.esz := by rw [← Nat.succ_mul]; exact Nat.mul_le_mul_right _ q
                omega
          · by_cases hi : idx = idx'
            · subst hi; right; rw [Nat.ble_eq] at k2 ⊢; omega
            · rcases Nat.lt_or_gt_of_ne hi with q | q
              · left
                rw [Nat.ble_eq]
                have : idx * L'.esz + L'.esz ≤ idx' * L'.esz := by rw [← Nat.succ_mul]; exact Nat.mul_le_mul_right _ q
                omega
              · right
                rw [Nat.ble_eq]
                have : idx' * L'.esz + L'.esz ≤ idx * L'.esz := by rw [← Nat.succ_mul]; exact Nat.mul_le_mul_right _ q
                omega
        · have := I.ap slot slot' st st' _ _ L L' (at_some.1 hob) (at_some.1 hat) hL e1 hs
          simp [this]

theorem unt_R {Φb : Fz} {l : List Nat} (hG : GlOk G Φb) (h : ∀ t, l.contains t = false → R α Φb (rd3 T t) (rd T2 t)) {x : Opd} (hx : unt l x = true) : R α Φb (ev3 G T x) (x.ev T2) := by
  cases x with
  | t n =>
    simp only [unt, Bool.not_eq_true'] at hx
    exact h n hx
  | c v =>
    simp only [ev3, Opd.ev]
    cases hq : ofClosed v with
    | none => exact .junk _
    | some w => exact .con (ofClosed_R hq)
  | f g => exact .con (.fn g [] [] #[] #[] rfl rfl (fun i h => absurd h (by simp)) (fun i h => absurd h (by simp)))
  | gl n =>
    simp only [ev3, Opd.ev]
    split
    · rename_i v hv; exact .con (hG n v hv)
    · exact .junk _

theorem chk_all (I : HInv α Φ X H) (hρ : ∀ x, R α Φ (ev3 G T x) (x.ev T2)) {i : Mx.I} {v : V} {u : Value} (hv : R α' Φ' v u) (h3 : evI3 G cl T X i = some (v, X')) (h2 : evI (noP cl2) b T2 H i = some (u, H')) {log : Tr Lg3} {log2 : Tr Lg}
    (hl : LogR b α Φ X H log log2) {tn : Option (List Nat)} (htn : TnR G α Φ T T2 log log2 tn) : ∀ cs, chk3 X tn log G T i v cs = true → chkOk log2 T2 i u cs = true
  | [], _ => rfl
  | c :: cs, h => by
    simp only [chk3, Bool.and_eq_true] at h
    simp only [chkOk, Bool.and_eq_true]
    refine ⟨?_, chk_all I hρ hv h3 h2 hl htn cs h.2⟩
    have h1 := h.1
    have hc := hl c
    have hq : ∀ e e2, log.get c = some e → log2.get c = some e2 → ∀ clk q x, e = .call clk q → untO tn x = true → ∃ Φb : Fz, Φb.le Φ ∧ R α Φb (ev3 G T x) (x.ev T2) ∧ ∃ Hn, e2 = .heap Hn ∧ ∀ o x, Φb o = some x → Hn.get o = some x := by
      intro e e2 g1 g2 clk q x ge hx
      subst ge
      cases tn with
      | none => cases hx
      | some l =>
        obtain ⟨Φb, z1, z2, z3, z4⟩ := htn
        obtain ⟨Hn, y1, y2⟩ := z4 c clk q g1
        rw [g2] at y1
        cases y1
        exact ⟨Φb, z1, unt_R z2 z3 hx, Hn, rfl, y2⟩
    revert h1 hc hq
    cases log.get c <;> cases log2.get c <;> intro h1 hc hq
    · cases i <;> simp only [chk31, Bool.false_eq_true] at h1 <;> first | (cases h1; done) | rfl
    · exact hc.elim
    · exact hc.elim
    · exact chk_one I hρ hv h3 h2 hc (hq _ _ rfl rfl) h1


theorem new_slot (X : Hp) (x y : Nat × Ob) : (allocL X.obs x).1 = (allocL X.obs y).1 := by
  generalize X.obs = l
  induction l with
  | nil => rfl
  | cons z l ih => cases z with
    | none => rfl
    | some z => simp only [allocL, ih]

theorem note_R (I : HInv α Φ X H) (hρ : ∀ x, R α Φ (ev3 G T x) (x.ev T2)) {i : Mx.I} {v : V} {u : Value} (hn : Nx (i.tgt.map (b + ·)) α Φ X H α' Φ' X' H') (hv : R α' Φ' v u) (h3 : evI3 G cl T X i = some (v, X')) (h2 : evI (noP cl2) b T2 H i = some (u, H')) : match note3 X G T i, note b T2 H i with
    | none, none => True
    | some e, some e2 => LgR b α' Φ' X' H' e e2
    | _, _ => False := by
  unfold evI3 at h3
  cases i <;> simp only [note3, note] <;> (try trivial)
  case load agg n a =>
    simp only [evK] at h3
    obtain ⟨w, h5, h6⟩ := bnd_some h3
    have ha := hρ a
    rcases load_inv h5 with ⟨w, off, ea⟩ | ⟨slot, st, idx, off, esz, es, w, ea, hat, hw, hsub⟩
    · rw [ea] at ha
      obtain ⟨id, o, x, e1, e2⟩ := pe_blk ha
      simp only [e1, ea]
      exact ⟨rfl, .inl ⟨w, off, rfl, x, hn.lf _ _ e2⟩⟩
    · rw [ea] at ha
      obtain ⟨L, e1, e2⟩ := ha.inv_pr
      simp only [e2, ea]
      refine ⟨rfl, .inr ⟨slot, st, idx, off, L, rfl, hn.la _ _ e1, rfl, rfl, ?_⟩⟩
      obtain ⟨L1, g1, g2, g3⟩ := I.ob slot st _ (at_some.1 hat)
      rw [e1] at g1; cases g1
      obtain ⟨z1, _, _, _, _, _, z2, _⟩ := g3
      rw [z1, ← (z2 idx w hw).1]
      exact sub_le hsub
  case call f as =>
    refine ⟨hn.ck, fun hc o ho => ?_⟩
    · obtain ⟨slot, st, ob, L, k1, k2, k3⟩ := hn.lvs hc o ho
      rw [hn.same hc o (by rw [← k3]; exact (I.al _ _ k2).1) (fun e => by cases e)]
  case alloc k e z =>
    simp only [evK] at h3
    obtain ⟨z', _, h6⟩ := bnd_some h3
    cases h6
    simp only [evI, Option.map_eq_some_iff] at h2
    obtain ⟨H2, _, h8⟩ := h2
    cases h8
    obtain ⟨L, e1, e2⟩ := hv.inv_pr
    injection e2 with e2; injection e2 with e2; injection e2 with e2
    exact ⟨rfl, rfl, L, e1, e2.symm⟩
  case box k e x =>
    simp only [evK] at h3
    split at h3
    case isFalse => cases h3
    cases h3
    simp only [evI] at h2
    split at h2
    case isFalse => cases h2
    simp only [Option.map_eq_some_iff] at h2
    obtain ⟨H2, _, h8⟩ := h2
    cases h8
    obtain ⟨L, e1, e2⟩ := hv.inv_pr
    injection e2 with e2; injection e2 with e2; injection e2 with e2
    exact ⟨rfl, rfl, L, e1, e2.symm⟩
  case bslice k e esz len z ps =>
    simp only [evK] at h3
    obtain ⟨z', _, h6⟩ := bnd_some h3
    split at h6
    case isFalse => cases h6
    obtain ⟨es, _, h7⟩ := bnd_some h6
    cases h7
    simp only [evI] at h2
    split at h2
    case h_2 => cases h2
    simp only [Option.map_eq_some_iff] at h2
    obtain ⟨H2, _, h8⟩ := h2
    cases h8
    obtain ⟨L, m, cap, e1, _, _, _, _, e2⟩ := hv.inv_sr
    injection e2 with e2; injection e2 with e2; injection e2 with e2
    exact ⟨rfl, rfl, L, e1, e2.symm⟩
  case mkmap k =>
    simp only [evK] at h3
    cases h3
    simp only [evI, Option.map_eq_some_iff] at h2
    obtain ⟨H2, _, h8⟩ := h2
    cases h8
    obtain ⟨L, e1, e2⟩ := hv.inv_mr
    injection e2 with e2; injection e2 with e2
    exact ⟨rfl, rfl, L, e1, e2.symm⟩
  case mkslice k e esz by_ z x y =>
    simp only [evK] at h3
    obtain ⟨⟨v', X2⟩, h5, h6⟩ := bnd_some h3
    cases h6
    unfold Hp.mkslice at h5
    split at h5
    case h_2 => cases h5
    split at h5
    case isFalse => cases h5
    simp only [Option.some.injEq, Prod.mk.injEq] at h5
    obtain ⟨h5, _⟩ := h5
    subst h5
    obtain ⟨L, m, cap, e1, _, _, _, _, e2⟩ := hv.inv_sr
    refine ⟨rfl, rfl, L, e1, ?_⟩
    simp only [evI, Heap.mkslice] at h2
    repeat' split at h2
    all_goals first
      | (cases h2; done)
      | (simp only [Option.map_eq_some_iff] at h2
         obtain ⟨H2, _, h8⟩ := h2
         simp only [Prod.mk.injEq] at h8
         obtain ⟨h8, _⟩ := h8
         rw [e2] at h8
         injection h8 with h8; injection h8 with h8; injection h8 with h8
         exact h8.symm)

theorem lg_R {i : Ins} {log : Tr Lg3} {s : St} (hl : LogR b α Φ X H log s.log) (hw : i.wanted s.T = some true)
    (h : match note3 X'' G T i.op, note b s.T s.H i.op with
    | none, none => True
    | some e, some e2 => LgR b α Φ X H e e2
    | _, _ => False) : LogR b α Φ X H (lg3 X'' G T i log) (lg b i s) := by
  unfold lg3 lg
  cases i.lg with
  | false => exact hl
  | true =>
    simp only [cond_true, hw]
    revert h
    cases note3 X'' G T i.op <;> cases note b s.T s.H i.op <;> intro h
    · exact hl
    · exact h.elim
    · exact h.elim
    · exact hl.set h _


/-! ### sequences -/
theorem TR3.put {T : Fr} {T2 : Tr Value} (h : TR3 α Φ T T2) {v : V} {u : Value} (hv : R α Φ v u) (d : Option Nat) : TR3 α Φ (putF T d v) (putT T2 d u) := fun t => by
  cases d with
  | none => exact h t
  | some d =>
    simp only [putF, putT, rd3, rd, Tr.get_set]
    by_cases e : d = t
    · simp only [e, if_true, Option.getD_some]; exact hv
    · simp only [e, if_false]; exact h t

theorem bnd_assoc {A B C : Type} (x : Option A) (f : A → Option B) (g : B → Option C) : bnd (bnd x f) g = bnd x fun a => bnd (f a) g := by
  cases x <;> rfl
theorem bnd_one {A B : Type} (a : A) (f : A → Option B) : bnd (some a) f = f a := rfl
theorem bnd_none {A B : Type} (f : A → Option B) : bnd none f = none := rfl

theorem evK_bnd {Q : Type} {T : Fr} {X : Hp} {i : Mx.I} {κ : V → Hp → Option Q} : evK G cl T X i κ = bnd (evI3 G cl T X i) fun r => κ r.1 r.2 := by
  unfold evI3
  cases i <;> simp only [evK, bnd_assoc, bnd_one] <;> (try rfl)
  case box k e x => split <;> rfl
  case bslice => congr 1; funext z; split <;> first | rfl | (simp only [bnd_assoc, bnd_one]; done) | (simp only [bnd_assoc, bnd_one]; rfl)
  case mkfn fn f c => cases fn <;> rfl
  case call f as =>
    cases ev3 G T f <;> (try rfl)
    simp only [bnd_assoc]
    congr 1; funext r
    obtain ⟨v, X'⟩ := r
    cases v <;> rfl
  case tassert t z x => cases z <;> first | rfl | (simp only [bnd_assoc, bnd_one]; done) | (simp only [bnd_assoc, bnd_one]; rfl)

theorem evOps_cons {Q : Type} {i : Ins} {l : List Ins} {T : Fr} {X : Hp} {log : Tr Lg3} {tn : Option (List Nat)} {κ : Fr → Hp → Option Q} {r : Q} (h : evOps G cl (i :: l) T X log tn κ = some r) :
    (∃ g w, i.guard = some (g, w) ∧ ((∃ t, rd3 T g = .b t ∧ (t == w) = false) ∨ rd3 T g = .tup []) ∧ evOps G cl l (putF T i.dst und) X log tn κ = some r) ∨
    ((i.guard = none ∨ ∃ g w t, i.guard = some (g, w) ∧ rd3 T g = .b t ∧ (t == w) = true) ∧
      ∃ v X', evI3 G cl T X i.op = some (v, X') ∧ chk3 X tn log G T i.op v i.chk = true ∧ evOps G cl l (putF T i.dst v) X' (lg3 X G T i log) (tnx G T i v tn) κ = some r) := by
  unfold evOps at h
  simp only [fork_eq] at h
  split at h
  · rename_i hg
    rw [evK_bnd] at h
    obtain ⟨⟨v, X'⟩, h1, h2⟩ := bnd_some h
    unfold ands at h2
    cases hc : chk3 X tn log G T i.op v i.chk with
    | false => simp only [hc] at h2; cases h2
    | true => simp only [hc] at h2; exact .inr ⟨.inl hg, v, X', h1, hc, h2⟩
  · rename_i g w hg
    split at h
    · rename_i t ht
      cases htw : t == w with
      | false => rw [htw] at h; exact .inl ⟨g, w, hg, .inl ⟨t, ht, htw⟩, h⟩
      | true =>
        rw [htw] at h
        simp only [cond_true] at h
        rw [evK_bnd] at h
        obtain ⟨⟨v, X'⟩, h1, h2⟩ := bnd_some h
        unfold ands at h2
        cases hc : chk3 X tn log G T i.op v i.chk with
        | false => simp only [hc] at h2; cases h2
        | true => simp only [hc] at h2; exact .inr ⟨.inr ⟨g, w, t, hg, ht, htw⟩, v, X', h1, hc, h2⟩
    · rename_i ht; exact .inl ⟨g, w, hg, .inr ht, h⟩
    · cases h

theorem cleanOp_R (I : HInv α Φ X H) {Φb : Fz} {l : List Nat} (z1 : Φb.le Φ) (z2 : GlOk G Φb) (z3 : ∀ t, l.contains t = false → R α Φb (rd3 T t) (rd T2 t)) (hρ : ∀ x, R α Φ (ev3 G T x) (x.ev T2)) {op : Mx.I} {v : V} {u : Value} (h3 : evI3 G cl T X op = some (v, X')) (h2 : evI (noP cl2) b T2 H op = some (u, H'))
    (hc : cleanOp G T l op = true) : R α Φb v u := by
  have Ib : HInv noα Φb .emp H := ⟨fun o x h => I.fr o x (z1 _ _ h), fun o x h => I.fz o x (z1 _ _ h), (fun st L h => by cases h), (fun slot st ob h => by simp [Hp.emp] at h), (fun s s' st st' ob ob' L L' h => by simp [Hp.emp] at h)⟩
  have up : ∀ {v : V} {u : Value}, R noα Φb v u → R α Φb v u := fun h => h.mono (fun _ _ h => by cases h) (Fz.le_refl _)
  unfold evI3 at h3
  cases op <;> simp only [cleanOp, Bool.false_eq_true] at hc <;> (try (cases hc; done))
  case mv x =>
    simp only [evK] at h3; cases h3
    simp only [evI] at h2; cases h2
    exact unt_R z2 z3 hc
  case nilchk x =>
    simp only [evK] at h3
    obtain ⟨w, h5, h6⟩ := bnd_some h3
    cases h6
    obtain ⟨hr, he⟩ := nilchk3_R h5 (unt_R z2 z3 hc)
    rcases he with ⟨a, e⟩ | ⟨g, f, c, e⟩ <;> simp only [evI, e] at h2 <;> (cases h2; rw [← e]; exact hr)
  case faddr o x =>
    simp only [evK] at h3
    obtain ⟨w, h5, h6⟩ := bnd_some h3
    cases h6
    obtain ⟨id, off, e, hr⟩ := faddr3_R h5 (unt_R z2 z3 hc)
    simp only [evI, e] at h2; cases h2
    exact hr
  case load agg n x =>
    simp only [Bool.and_eq_true] at hc
    have hx := unt_R z2 z3 hc.1
    simp only [evK] at h3
    obtain ⟨w, h5, h6⟩ := bnd_some h3
    cases h6
    cases hq : ev3 G T x <;> rw [hq] at hc <;> simp only [isPe, Bool.false_eq_true, and_false] at hc
    rw [hq] at h5 hx
    obtain ⟨u', e, hr⟩ := load3_R Ib (agg := agg) (n := n) (x := v) (show Hp.load .emp agg n (.pe _ _) = some v from h5) (.con hx.inv_pe)
    simp only [evI, e, Option.map_some] at h2; cases h2
    exact up hr
  case iaddr esz x y =>
    simp only [Bool.and_eq_true] at hc
    have hx := unt_R z2 z3 hc.1
    simp only [evK] at h3
    obtain ⟨w, h5, h6⟩ := bnd_some h3
    cases h6
    cases hq : ev3 G T x <;> rw [hq] at hc <;> simp only [isSl, Bool.false_eq_true, and_false] at hc
    rw [hq] at h5 hx
    have hy := hρ y
    cases hqy : ev3 G T y <;> rw [hqy] at h5 <;> simp only [iaddr3] at h5 <;> (try (cases h5; done))
    rw [hqy] at hy
    obtain ⟨u', e, hr⟩ := iaddr3_R (esz := esz) (v := v) (x := .sl _ _) (y := .i _ _) Ib (show iaddr3 .emp esz (.sl _ _) (.i _ _) = some v from h5) (.con hx.inv_sl) (y2 := y.ev T2) (by rw [hy.inv_i]; exact .con (.i _ _))
    simp only [evI, e, Option.map_some] at h2; cases h2
    exact up hr

theorem tn_next {t : Option Nat} {i : Ins} {s : St} (I : HInv α Φ X s.H) (hG : GlOk G Φ) (hT : TR3 α Φ T s.T) (hn : Nx t α Φ X s.H α' Φ' X' H') {v : V} {u : Value} (hv : R α' Φ' v u) (h3 : evI3 G cl T X i.op = some (v, X')) (h2 : evI (noP cl2) b s.T s.H i.op = some (u, H'))
    (hw : i.wanted s.T = some true) (hnote : match note3 X G T i.op, note b s.T s.H i.op with
    | none, none => True
    | some e, some e2 => LgR b α' Φ' X' H' e e2
    | _, _ => False) {log : Tr Lg3} {tn : Option (List Nat)} (h : TnR G α Φ T s.T log s.log tn) : TnR G α' Φ' (putF T i.dst v) (putT s.T i.dst u) (lg3 X G T i log) (lg b i s) (tnx G T i v tn) := by
  have ent : ∀ (Φb : Fz), Φb.le Φ → (∀ j clk e, log.get j = some (.call clk e) → ∃ Hn, s.log.get j = some (.heap Hn) ∧ ∀ o x, Φb o = some x → Hn.get o = some x) →
      ∀ j clk e, (lg3 X G T i log).get j = some (.call clk e) → ∃ Hn, (lg b i s).get j = some (.heap Hn) ∧ ∀ o x, Φb o = some x → Hn.get o = some x := by
    intro Φb z1 z4 j clk e hj
    unfold lg3 at hj
    unfold lg
    cases hlg : i.lg with
    | false => rw [hlg] at hj; exact z4 j clk e hj
    | true =>
      rw [hlg] at hj
      simp only [cond_true, hw] at hj ⊢
      cases h3n : note3 X G T i.op with
      | none =>
        rw [h3n] at hj hnote
        cases h2n : note b s.T s.H i.op with
        | none => exact z4 j clk e hj
        | some e2 => rw [h2n] at hnote; exact hnote.elim
      | some e3 =>
        rw [h3n] at hj hnote
        cases h2n : note b s.T s.H i.op with
        | none => rw [h2n] at hnote; exact hnote.elim
        | some e2 =>
          simp only [Tr.get_set] at hj ⊢
          by_cases hij : i.idx = j
          · simp only [hij, if_true, Option.some.injEq] at hj ⊢
            subst hj
            refine ⟨s.H, ?_, fun o x ho => I.fr o x (z1 _ _ ho)⟩
            cases hop : i.op <;> rw [hop] at h3n h2n <;> simp only [note3, note] at h3n h2n <;> first | (cases h3n; done) | (cases h2n; rfl)
          · simp only [hij, if_false] at hj ⊢
            exact z4 j clk e hj
  have setd : ∀ (Φb : Fz) (d tt : Nat), d ≠ tt → R α Φb (rd3 T tt) (rd s.T tt) → R α' Φb (rd3 (T.set d v) tt) (rd (s.T.set d u) tt) := by
    intro Φb d tt hne hr
    simp only [rd3, rd, Tr.get_set, hne, if_false]
    exact hr.mono hn.la (Fz.le_refl _)
  cases tn with
  | none =>
    simp only [tnx]
    cases hc : i.lg && i.op.isCall with
    | true =>
      simp only [cond_true]
      refine ⟨Φ, hn.lf, hG, fun tt ht => ?_, ent Φ (Fz.le_refl _) (fun j clk e hj => absurd hj (h j clk e))⟩
      cases hd : i.dst with
      | none => exact (hT tt).mono hn.la (Fz.le_refl _)
      | some d =>
        rw [hd] at ht
        refine setd Φ d tt (fun e => ?_) (hT tt)
        subst e
        simp at ht
    | false =>
      simp only [cond_false]
      intro j clk e hj
      unfold lg3 at hj
      cases hlg : i.lg with
      | false => rw [hlg] at hj; exact h j clk e hj
      | true =>
        rw [hlg, Bool.true_and] at hc
        rw [hlg] at hj
        simp only [cond_true] at hj
        cases h3n : note3 X G T i.op with
        | none => rw [h3n] at hj; exact h j clk e hj
        | some e3 =>
          rw [h3n] at hj
          simp only [Tr.get_set] at hj
          by_cases hij : i.idx = j
          · simp only [hij, if_true, Option.some.injEq] at hj
            subst hj
            cases hop : i.op <;> rw [hop] at h3n hc <;> simp only [note3] at h3n <;> first | (cases h3n; done) | (cases hc; done)
          · simp only [hij, if_false] at hj
            exact h j clk e hj
  | some l =>
    obtain ⟨Φb, z1, z2, z3, z4⟩ := h
    simp only [tnx]
    cases hd : i.dst with
    | none => exact ⟨Φb, Fz.le_trans z1 hn.lf, z2, fun tt ht => (z3 tt ht).mono hn.la (Fz.le_refl _), ent Φb z1 z4⟩
    | some d =>
      simp only
      cases hc : flat v || cleanOp G T l i.op with
      | false =>
        refine ⟨Φb, Fz.le_trans z1 hn.lf, z2, fun tt ht => ?_, ent Φb z1 z4⟩
        simp only [List.contains_cons, Bool.or_eq_false_iff] at ht
        exact setd Φb d tt (fun e => by subst e; simp at ht) (z3 tt ht.2)
      | true =>
        refine ⟨Φb, Fz.le_trans z1 hn.lf, z2, fun tt ht => ?_, ent Φb z1 z4⟩
        by_cases e : d = tt
        · subst e
          simp only [putF, putT, rd3, rd, Tr.get_set, if_true, Option.getD_some]
          cases hf : flat v with
          | true => exact flat_R hf hv
          | false =>
            rw [hf, Bool.false_or] at hc
            exact (cleanOp_R I z1 z2 z3 (ev3_R hG hT) h3 h2 hc).mono hn.la (Fz.le_refl _)
        · exact setd Φb d tt e (z3 tt ht)

theorem tn_skip {T2 : Tr Value} {log : Tr Lg3} {log2 : Tr Lg} {tn : Option (List Nat)} (h : TnR G α Φ T T2 log log2 tn) (d : Option Nat) : TnR G α Φ (putF T d und) (putT T2 d undef) log log2 tn := by
  cases tn with
  | none => exact h
  | some l =>
    obtain ⟨Φb, z1, z2, z3, z4⟩ := h
    refine ⟨Φb, z1, z2, fun t ht => ?_, z4⟩
    cases d with
    | none => exact z3 t ht
    | some d =>
      simp only [putF, putT, rd3, rd, Tr.get_set]
      by_cases e : d = t
      · simp only [e, if_true, Option.getD_some]; exact R.und _ _
      · simp only [e, if_false]; exact z3 t ht

theorem regKs_none {i : Ins} {l : List Ins} (h : i.op.tgt = none) : regKs (i :: l) = regKs l := by unfold regKs; simp only [List.filterMap_cons, h]
theorem regKs_some {i : Ins} {l : List Ins} {k : Nat} (h : i.op.tgt = some k) : regKs (i :: l) = k :: regKs l := by unfold regKs; simp only [List.filterMap_cons, h]

theorem ops_sim (hcl : ClS G cl cl2) {Q : Type} {κ : Fr → Hp → Option Q} {r : Q} : ∀ (l : List Ins) (T : Fr) (X : Hp) (log : Tr Lg3) (tn : Option (List Nat)) (α : Al) (Φ : Fz) (s : St), evOps G cl l T X log tn κ = some r → HInv α Φ X s.H → GlOk G Φ → TR3 α Φ T s.T → LogR b α Φ X s.H log s.log → TnR G α Φ T s.T log s.log tn → b ≤ s.H.size →
    noDup (regKs l) = true → (∀ k ∈ regKs l, s.H.get (b + k) = some .pend ∧ b + k < s.H.size) →
    ∃ T' X' s' α' Φ', κ T' X' = some r ∧ evSeq (noP cl2) b l s = some s' ∧ NxT b α Φ X s.H α' Φ' X' s'.H ∧ TR3 α' Φ' T' s'.T
  | [], T, X, log, tn, α, Φ, s, h, I, hG, hT, hlog, htn, hb, hd, hp => ⟨T, X, s, α, Φ, h, rfl, NxT.refl I, hT⟩
  | i :: l, T, X, log, tn, α, Φ, s, h, I, hG, hT, hlog, htn, hb, hd, hp => by
    have hd' : noDup (regKs l) = true := by
      cases hk : i.op.tgt with
      | none => rw [regKs_none hk] at hd; exact hd
      | some k => rw [regKs_some hk] at hd; simp only [noDup, Bool.and_eq_true] at hd; exact hd.2
    have hp' : ∀ k ∈ regKs l, s.H.get (b + k) = some .pend ∧ b + k < s.H.size := fun k hk => hp k (by
      unfold regKs at hk ⊢
      rw [List.mem_filterMap] at hk ⊢
      obtain ⟨a, h1, h2⟩ := hk
      exact ⟨a, List.mem_cons_of_mem _ h1, h2⟩)
    rcases evOps_cons h with ⟨g, w, hg, hgv, h2⟩ | ⟨hg, h2⟩
    · -- not wanted
      have hw : i.wanted s.T = some false := by
        unfold Ins.wanted
        rw [hg]
        have := hT g
        rcases hgv with ⟨t, ht, htw⟩ | ht
        · rw [ht] at this
          simp only [this.inv_b, htw]
        · rw [ht] at this
          obtain ⟨c, e, hc⟩ := this.inv_tup
          have hz : c.size = 0 := by have := hc.1; simpa using this.symm
          simp only [e, hz, if_true]
      have hlg : lg b i s = s.log := by
        unfold lg
        cases i.lg with
        | false => rfl
        | true => simp only [cond_true, hw]
      obtain ⟨T', X', s', α', Φ', k1, k2, k3, k4⟩ := ops_sim hcl l (putF T i.dst und) X log tn α Φ ⟨putT s.T i.dst undef, s.H, s.log⟩ h2 I hG (hT.put (R.und _ _) _) hlog (tn_skip htn _) hb hd' hp'
      refine ⟨T', X', s', α', Φ', k1, ?_, k3, k4⟩
      simp only [evSeq, evIns, evW, hw, hlg]
      exact k2
    · have hw : i.wanted s.T = some true := by
        unfold Ins.wanted
        rcases hg with hg | ⟨g, w, t, hg, ht, htw⟩
        · rw [hg]
        · rw [hg]
          have := hT g
          rw [ht] at this
          simp only [this.inv_b, htw]
      have hpt : ∀ k, i.op.tgt = some k → s.H.get (b + k) = some .pend ∧ b + k < s.H.size := fun k hk => hp k (by
        rw [regKs_some hk]; exact List.mem_cons_self)
      have hρ := ev3_R hG hT
      have htp : ∀ id, i.op.tgt.map (b + ·) = some id → s.H.get id = some .pend := fun id e => by
        cases hq : i.op.tgt with
        | none => rw [hq] at e; cases e
        | some k => rw [hq] at e; cases e; exact (hpt k hq).1
      have main : ∃ v X' u H' α' Φ', evOps G cl l (putF T i.dst v) X' (lg3 X G T i log) (tnx G T i v tn) κ = some r ∧ evI (noP cl2) b s.T s.H i.op = some (u, H') ∧ Nx (i.op.tgt.map (b + ·)) α Φ X s.H α' Φ' X' H' ∧ R α' Φ' v u ∧ chkOk s.log s.T i.op u i.chk = true ∧
          LogR b α' Φ' X' H' (lg3 X G T i log) (lg b i s) ∧ TnR G α' Φ' (putF T i.dst v) (putT s.T i.dst u) (lg3 X G T i log) (lg b i s) (tnx G T i v tn) := by
        obtain ⟨v, X', h3, hc, h2⟩ := h2
        obtain ⟨v', X2, u, H', α', Φ', k1, k2, k3, k4⟩ := ev_sim (b := b) hcl I hG hT h3 hpt
        cases k1
        have hnote := note_R I hρ k3 k4 h3 k2
        exact ⟨v, X', u, H', α', Φ', h2, k2, k3, k4, chk_all I hρ k4 h3 k2 hlog htn _ hc, lg_R (LogR.next I k3 htp hlog) hw hnote, tn_next I hG hT k3 k4 h3 k2 hw hnote htn⟩
      obtain ⟨v, X', u, H', α', Φ', k1, k2, k3, k4, k6, k7, k8⟩ := main
      have hn : NxT b α Φ X s.H α' Φ' X' H' := NxT.of k3 (fun id e => by
        cases hq : i.op.tgt with
        | none => rw [hq] at e; cases e
        | some k => rw [hq] at e; cases e; exact Nat.le_add_right _ _) hb
      obtain ⟨T', X2, s', α2, Φ2, j1, j2, j3, j4⟩ := ops_sim hcl l (putF T i.dst v) X' (lg3 X G T i log) (tnx G T i v tn) α' Φ' ⟨putT s.T i.dst u, H', lg b i s⟩ k1 k3.inv (hG.mono k3.lf) ((hT.mono k3.la k3.lf).put k4 _) k7 k8 (Nat.le_trans hb k3.sz) hd' (fun k hk => by
        obtain ⟨q1, q2⟩ := hp' k hk
        refine ⟨Nx.pend I k3 q2 q1 (fun e => ?_), Nat.lt_of_lt_of_le q2 k3.sz⟩
        cases hq : i.op.tgt with
        | none => rw [hq] at e; cases e
        | some k' =>
          rw [hq] at e
          simp only [Option.map_some, Option.some.injEq] at e
          have e' : k' = k := by omega
          subst e'
          rw [regKs_some hq] at hd
          simp only [noDup, Bool.and_eq_true, Bool.not_eq_true'] at hd
          have := hd.1
          rw [List.contains_eq_mem] at this
          simp only [decide_eq_false_iff_not] at this
          exact this hk)
      refine ⟨T', X2, s', α2, Φ2, j1, ?_, hn.trans j3, j4⟩
      simp only [evSeq, evIns, evW, hw, k2, k6, if_true]
      exact j2

end
end Go.Proofs.YtapkmhneneffdaaGreatDoor.M3

/-! The text ZaeL. -/
namespace Go.Proofs.YtapkmhneneffdaaGreatDoor.M3
open Go Go.Proofs.YtapkmhneneffdaaGreatDoor.Mx

theorem snL_spec {g : V → Option (V × List Nat)} : ∀ {l l' : List V} {s : List Nat}, snL g l = some (l', s) → l'.length = l.length ∧ ∀ (i : Nat) (v : V), l[i]? = some v → ∃ v' s', g v = some (v', s') ∧ l'[i]? = some v' ∧ ∀ x ∈ s', x ∈ s
  | [], l', s, h => by cases h; exact ⟨rfl, fun i v h => by simp at h⟩
  | v :: l, l', s, h => by
    simp only [snL] at h
    split at h
    · rename_i v' s1 l1 s2 h1 h2
      cases h
      obtain ⟨k1, k2⟩ := snL_spec h2
      refine ⟨by simp [k1], fun i w hw => ?_⟩
      cases i with
      | zero => simp at hw; subst hw; exact ⟨v', s1, h1, rfl, fun x hx => List.mem_append_left _ hx⟩
      | succ i =>
        obtain ⟨w', s', g1, g2, g3⟩ := k2 i w (by simpa using hw)
        exact ⟨w', s', g1, by simpa using g2, fun x hx => List.mem_append_right _ (g3 x hx)⟩
    · cases h

theorem snE_spec {g : V → Option (V × List Nat)} : ∀ {l l' : Ents} {s : List Nat}, snE g l = some (l', s) → l'.length = l.length ∧ ∀ (i : Nat) (k v : V) (b : Nat), l'[i]? = some (k, v, b) → ∃ v0 s', l[i]? = some (k, v0, b) ∧ g v0 = some (v, s') ∧ ∀ x ∈ s', x ∈ s
  | [], l', s, h => by cases h; exact ⟨rfl, fun i k v b h => by simp at h⟩
  | (k, v, b) :: l, l', s, h => by
    simp only [snE] at h
    split at h
    · rename_i v' s1 l1 s2 h1 h2
      cases h
      obtain ⟨k1, k2⟩ := snE_spec h2
      refine ⟨by simp [k1], fun i k' w b' hw => ?_⟩
      cases i with
      | zero =>
        simp only [List.getElem?_cons_zero, Option.some.injEq, Prod.mk.injEq] at hw
        obtain ⟨rfl, rfl, rfl⟩ := hw
        exact ⟨v, s1, by simp, h1, fun x hx => List.mem_append_left _ hx⟩
      | succ i =>
        obtain ⟨w', s', g1, g2, g3⟩ := k2 i k' w b' (by simpa using hw)
        exact ⟨w', s', by simpa using g1, g2, fun x hx => List.mem_append_right _ (g3 x hx)⟩
    · cases h

/-- Cells of what is read are what is read of cells. -/
theorem snap_cells {X : Hp} {f : Nat} {v v' : V} {s : List Nat} (h : snap X f v = some (v', s)) (hok : v.cells.all okC = true) :
    v'.cells.length = v.cells.length ∧ v'.cells.all okC = true ∧ ∀ (j : Nat) (c c' : V), v.cells[j]? = some c → v'.cells[j]? = some c' → ∃ g s', g ≤ f ∧ snap X g c = some (c', s') ∧ ∀ x ∈ s', x ∈ s := by
  have okS : ∀ (f : Nat) (v v' : V) (s : List Nat), okC v = true → snap X f v = some (v', s) → okC v' = true ∧ v'.cells = [v'] := by
    intro f v v' s hv h
    cases f with
    | zero => cases h
    | succ f =>
      cases v <;> simp only [okC, Bool.false_eq_true] at hv <;> simp only [snap] at h <;> (try (cases hv; done))
      all_goals first
        | (cases h; exact ⟨rfl, rfl⟩)
        | (simp only [Option.map_eq_some_iff] at h
           obtain ⟨r, _, h⟩ := h
           cases h; exact ⟨rfl, rfl⟩)
        | (repeat' split at h
           all_goals first
             | (cases h; done)
             | (cases h; exact ⟨rfl, rfl⟩)
             | (simp only [Option.map_eq_some_iff] at h
                obtain ⟨r, _, h⟩ := h
                cases h; exact ⟨rfl, rfl⟩))
  by_cases ha : ∃ l, v = .agg l
  · obtain ⟨l, rfl⟩ := ha
    cases f with
    | zero => cases h
    | succ f =>
      simp only [snap, Option.map_eq_some_iff] at h
      obtain ⟨⟨l', s'⟩, h1, h2⟩ := h
      cases h2
      obtain ⟨k1, k2⟩ := snL_spec h1
      simp only [V.cells] at hok ⊢
      refine ⟨k1, ?_, fun j c c' hc hc' => ?_⟩
      · rw [List.all_eq_true] at hok ⊢
        intro x hx
        obtain ⟨i, hi, rfl⟩ := List.mem_iff_getElem.1 hx
        obtain ⟨v', s', g1, g2, _⟩ := k2 i (l[i]'(k1 ▸ hi)) (List.getElem?_eq_getElem _)
        rw [List.getElem?_eq_getElem hi] at g2
        cases g2
        exact (okS _ _ _ _ (hok _ (List.getElem_mem _)) g1).1
      · obtain ⟨v', s', g1, g2, g3⟩ := k2 j c hc
        rw [hc'] at g2; cases g2
        exact ⟨f, s', Nat.le_succ _, g1, g3⟩
  · have hc : v.cells = [v] := by cases v <;> first | rfl | exact absurd ⟨_, rfl⟩ ha
    rw [hc] at hok
    simp only [List.all_cons, List.all_nil, Bool.and_true] at hok
    obtain ⟨k1, k2⟩ := okS f v v' s hok h
    rw [hc, k2]
    refine ⟨rfl, by simp [k1], fun j c c' h1 h2 => ?_⟩
    cases j with
    | succ j => simp at h1
    | zero =>
      simp at h1 h2
      subst h1; subst h2
      exact ⟨f, s, Nat.le_refl _, h, fun x hx => hx⟩

section
variable {α : Al} {Φ Φ' : Fz} {X : Hp} {H : Heap}

/-- Φ' knows what was read. -/
def Cov (α : Al) (X : Hp) (H : Heap) (Φ' : Fz) (s : List Nat) : Prop := ∀ slot ∈ s, ∀ (st : Nat) (ob : Ob) (L : L3), X.obs[slot]? = some (some (st, ob)) → α st = some L → Φ' L.o = H.get L.o

theorem Cov.sub {s s' : List Nat} (h : Cov α X H Φ' s) (hs : ∀ x ∈ s', x ∈ s) : Cov α X H Φ' s' := fun slot hm => h slot (hs slot hm)

theorem rc_of_cells {v : V} {u : Value} (h : RC Φ v u) : R (fun _ => none) Φ v u := .con h

theorem snap_RC (I : HInv α Φ X H) (hb : Φ.le Φ') : ∀ (f : Nat) (v v' : V) (s : List Nat) (u : Value), snap X f v = some (v', s) → R α Φ v u → Cov α X H Φ' s → RC Φ' v' u := by
  intro f
  induction f using Nat.strongRecOn with
  | ind f ih =>
    intro v v' s u h hr hcov
    cases f with
    | zero => cases h
    | succ f =>
      have ihL : ∀ (l l' : List V) (s : List Nat) (us : List Value), snL (snap X f) l = some (l', s) → Rs α Φ l us → Cov α X H Φ' s → RCs Φ' l' us := by
        intro l l' s us h hr hcov
        obtain ⟨k1, k2⟩ := snL_spec h
        refine ⟨by rw [k1]; exact hr.1, fun i w hw => ?_⟩
        have hi : i < l.length := by rw [← k1]; exact (List.getElem?_eq_some_iff.1 hw).1
        obtain ⟨w', s', g1, g2, g3⟩ := k2 i l[i] (List.getElem?_eq_getElem hi)
        rw [hw] at g2; cases g2
        obtain ⟨u, q1, q2⟩ := hr.2 i l[i] (List.getElem?_eq_getElem hi)
        exact ⟨u, q1, ih f (Nat.lt_succ_self _) _ _ _ _ g1 q2 (hcov.sub g3)⟩
      cases v with
      | b x => cases h; obtain rfl := hr.inv_b; exact .b x
      | i k n => cases h; obtain rfl := hr.inv_i; exact .i k n
      | s x => cases h; obtain rfl := hr.inv_s; exact .s x
      | np => cases h; obtain rfl := hr.inv_np; exact .np
      | nf => cases h; obtain rfl := hr.inv_nf; exact .nf
      | ni => cases h; obtain rfl := hr.inv_ni; exact .ni
      | nm => cases h; obtain rfl := hr.inv_nm; exact .nm
      | sl ex l => cases h; exact hr.inv_sl.mono hb
      | pe w o => cases h; exact hr.inv_pe.mono hb
      | mc es c =>
        cases h
        cases hr with
        | con h => exact h.mono hb
      | junk => cases h
      | pan w => cases h
      | agg l =>
        simp only [snap, Option.map_eq_some_iff] at h
        obtain ⟨⟨l', s'⟩, h1, h2⟩ := h
        cases h2
        obtain ⟨c, rfl, hc⟩ := hr.inv_agg
        have := rcs_arr (ihL _ _ _ _ h1 hc hcov)
        exact .agg _ _ this.1 this.2
      | tup l =>
        simp only [snap, Option.map_eq_some_iff] at h
        obtain ⟨⟨l', s'⟩, h1, h2⟩ := h
        cases h2
        obtain ⟨c, rfl, hc⟩ := hr.inv_tup
        have := rcs_arr (ihL _ _ _ _ h1 hc hcov)
        exact .tup _ _ this.1 this.2
      | fn g a c =>
        simp only [snap] at h
        split at h
        · rename_i a' s1 c' s2 h1 h2
          cases h
          obtain ⟨f', d', rfl, r1, r2⟩ := hr.inv_fn
          have t1 := rcs_arr (ihL _ _ _ _ h1 r1 (hcov.sub fun x hx => List.mem_append_left _ hx))
          have t2 := rcs_arr (ihL _ _ _ _ h2 r2 (hcov.sub fun x hx => List.mem_append_right _ hx))
          exact .fn _ _ _ _ _ t1.1 t2.1 t1.2 t2.2
        · cases h
      | ifc t w =>
        simp only [snap, Option.map_eq_some_iff] at h
        obtain ⟨⟨w', s'⟩, h1, h2⟩ := h
        cases h2
        obtain ⟨x, rfl, hx⟩ := hr.inv_ifc
        exact .ifc _ _ _ (ih f (Nat.lt_succ_self _) _ _ _ _ h1 hx hcov)
      | mr slot st =>
        simp only [snap] at h
        split at h
        · rename_i es c hat
          simp only [Option.map_eq_some_iff] at h
          obtain ⟨⟨es', s'⟩, h1, h2⟩ := h
          cases h2
          obtain ⟨L, e1, rfl⟩ := hr.inv_mr
          obtain ⟨L1, g1, g2, g3⟩ := I.ob slot st _ (at_some.1 hat)
          rw [e1] at g1; cases g1
          obtain ⟨es2, q1, q2, q3⟩ := g3
          have hΦ := hcov slot (List.mem_cons_self) st _ L (at_some.1 hat) e1
          rw [q1] at hΦ
          obtain ⟨k1, k2⟩ := snE_spec h1
          refine .mc _ _ _ es2 hΦ (by rw [k1]; exact q2) (fun i k v b k' v' b' z1 z2 => ?_) (fun i k v b k' v' b' z1 z2 => ?_)
          · obtain ⟨v0, s0, y1, y2, y3⟩ := k2 i k v b z1
            obtain ⟨w1, w2, w3⟩ := q3 i k v0 b k' v' b' y1 z2
            exact ⟨w1, w2⟩
          · obtain ⟨v0, s0, y1, y2, y3⟩ := k2 i k v b z1
            obtain ⟨w1, w2, w3⟩ := q3 i k v0 b k' v' b' y1 z2
            exact ih f (Nat.lt_succ_self _) _ _ _ _ y2 (w3.mono alB_le (Fz.le_refl _)) (hcov.sub fun x hx => List.mem_cons_of_mem _ (y3 x hx))
        · cases h
      | pr slot st idx off =>
        simp only [snap] at h
        split at h
        · rename_i esz es hat
          split at h
          · rename_i w hw
            simp only [Option.map_eq_some_iff] at h
            obtain ⟨⟨w', s'⟩, h1, h2⟩ := h
            cases h2
            obtain ⟨L, e1, rfl⟩ := hr.inv_pr
            obtain ⟨L1, g1, g2, g3⟩ := I.ob slot st _ (at_some.1 hat)
            rw [e1] at g1; cases g1
            obtain ⟨q1, e, cs, q2, q3, q4, q5, q6⟩ := g3
            have hΦ := hcov slot (List.mem_cons_self) st _ L (at_some.1 hat) e1
            rw [q2] at hΦ
            obtain ⟨hl, hok⟩ := q5 idx w hw
            obtain ⟨k1, k2, k3⟩ := snap_cells h1 hok
            have hi : idx < es.length := (List.getElem?_eq_some_iff.1 hw).1
            have hle : L.base + idx * esz + esz ≤ cs.length := by
              have : idx * esz + esz ≤ es.length * esz := by rw [← Nat.succ_mul]; exact Nat.mul_le_mul_right _ hi
              omega
            rw [q1]
            refine .pe w' off L.o (L.base + idx * esz) e false cs hΦ (by rw [k1, hl]; exact hle) k2 (fun j c u hc hu => ?_)
            have hj : j < w.cells.length := by rw [← k1]; exact (List.getElem?_eq_some_iff.1 hc).1
            obtain ⟨g, s2, z1, z2, z3⟩ := k3 j _ c (List.getElem?_eq_getElem hj) hc
            exact ih g (Nat.lt_succ_of_le z1) _ _ _ _ z2 ((q6 idx j w _ u hw (List.getElem?_eq_getElem hj) hu).mono alB_le (Fz.le_refl _)) (hcov.sub fun x hx => List.mem_cons_of_mem _ (z3 x hx))
          · cases h
        · cases h
      | sr slot st off len ex =>
        simp only [snap] at h
        split at h
        · rename_i esz es hat
          split at h
          case isFalse => cases h
          rename_i hle
          simp only [Option.map_eq_some_iff] at h
          obtain ⟨⟨l', s'⟩, h1, h2⟩ := h
          cases h2
          obtain ⟨L, m, cap, e1, hex, hcap, hm, hb', rfl⟩ := hr.inv_sr
          obtain ⟨L1, g1, g2, g3⟩ := I.ob slot st _ (at_some.1 hat)
          rw [e1] at g1; cases g1
          obtain ⟨q1, e, cs, q2, q3, q4, q5, q6⟩ := g3
          have hΦ := hcov slot (List.mem_cons_self) st _ L (at_some.1 hat) e1
          rw [q2] at hΦ
          obtain ⟨k1, k2⟩ := snL_spec h1
          have hlen : l'.length = len := by rw [k1, List.length_take, List.length_drop]; omega
          have el : ∀ (i : Nat) (w' : V), l'[i]? = some w' → ∃ w s2, es[off + i]? = some w ∧ snap X f w = some (w', s2) ∧ ∀ x ∈ s2, x ∈ s' := by
            intro i w' hw'
            have hi : i < ((es.drop off).take len).length := by rw [← k1]; exact (List.getElem?_eq_some_iff.1 hw').1
            obtain ⟨w2, s2, z1, z2, z3⟩ := k2 i _ (List.getElem?_eq_getElem hi)
            rw [hw'] at z2; cases z2
            refine ⟨_, s2, ?_, z1, z3⟩
            have := List.getElem?_eq_getElem hi
            rw [List.getElem?_take, List.getElem?_drop] at this
            split at this
            · exact this
            · cases this
          rw [q1]
          have key := RC.sl (Φ := Φ') ex l' L.o (L.base + off * esz) m cap esz e false cs hΦ (by rw [hlen]; exact hex) (by rw [hlen]; exact hcap) (by rw [← q1]; exact hm) ?_ (fun i w' hw' => ?_) (fun i j w' c u hw' hc hu => ?_)
          · rw [hlen] at key; exact key
          · rw [hlen]
            have : off * esz + len * esz ≤ es.length * esz := by rw [← Nat.add_mul]; exact Nat.mul_le_mul_right _ hle
            omega
          · obtain ⟨w, s2, z1, z2, _⟩ := el i w' hw'
            obtain ⟨y1, y2⟩ := q5 _ w z1
            obtain ⟨t1, t2, _⟩ := snap_cells z2 y2
            exact ⟨by rw [t1]; exact y1, t2⟩
          · obtain ⟨w, s2, z1, z2, z3⟩ := el i w' hw'
            obtain ⟨y1, y2⟩ := q5 _ w z1
            obtain ⟨t1, t2, t3⟩ := snap_cells z2 y2
            have hj : j < w.cells.length := by rw [← t1]; exact (List.getElem?_eq_some_iff.1 hc).1
            obtain ⟨g, s3, x1, x2, x3⟩ := t3 j _ c (List.getElem?_eq_getElem hj) hc
            have hu' : cs[L.base + (off + i) * esz + j]? = some u := by
              rw [← hu]; congr 1
              rw [Nat.add_mul]; omega
            exact ih g (Nat.lt_succ_of_le x1) _ _ _ _ x2 ((q6 (off + i) j w _ u z1 (List.getElem?_eq_getElem hj) hu').mono alB_le (Fz.le_refl _)) (hcov.sub fun x hx => List.mem_cons_of_mem _ (z3 x (x3 x hx)))
        · cases h

theorem snapL_RCs (I : HInv α Φ X H) (hb : Φ.le Φ') {f : Nat} {l l' : List V} {s : List Nat} {us : List Value} (h : snL (snap X f) l = some (l', s)) (hr : Rs α Φ l us) (hcov : Cov α X H Φ' s) : RCs Φ' l' us := by
  obtain ⟨k1, k2⟩ := snL_spec h
  refine ⟨by rw [k1]; exact hr.1, fun i w hw => ?_⟩
  have hi : i < l.length := by rw [← k1]; exact (List.getElem?_eq_some_iff.1 hw).1
  obtain ⟨w', s', g1, g2, g3⟩ := k2 i l[i] (List.getElem?_eq_getElem hi)
  rw [hw] at g2; cases g2
  obtain ⟨u, q1, q2⟩ := hr.2 i l[i] (List.getElem?_eq_getElem hi)
  exact ⟨u, q1, snap_RC I hb f _ _ _ _ g1 q2 (hcov.sub g3)⟩

/-! ### what never changes from now on -/
open Classical in
noncomputable def Fz.add (Φ : Fz) (α : Al) (X : Hp) (H : Heap) (s : List Nat) : Fz := fun o =>
  if ∃ slot ∈ s, ∃ (st : Nat) (ob : Ob) (L : L3), X.obs[slot]? = some (some (st, ob)) ∧ α st = some L ∧ L.o = o then H.get o else Φ o

theorem Fz.add_cov (Φ : Fz) (α : Al) (X : Hp) (H : Heap) (s : List Nat) : Cov α X H (Φ.add α X H s) s := fun slot hm st ob L h1 h2 => by
  unfold Fz.add
  rw [if_pos ⟨slot, hm, st, ob, L, h1, h2, rfl⟩]

theorem Fz.le_add (I : HInv α Φ X H) (s : List Nat) : Φ.le (Φ.add α X H s) := fun o x h => by
  unfold Fz.add
  split
  · rename_i hc
    obtain ⟨slot, _, st, ob, L, h1, h2, rfl⟩ := hc
    obtain ⟨L', g1, g2, _⟩ := I.ob slot st ob h1
    rw [h2] at g1; cases g1
    rw [h] at g2; cases g2
  · exact h

theorem dropAll_spec : ∀ (s : List Nat) (X : Hp) (t : Nat) (x : Nat × Ob), (X.dropAll s).obs[t]? = some (some x) → X.obs[t]? = some (some x) ∧ t ∉ s
  | [], X, t, x, h => ⟨h, by simp⟩
  | a :: s, X, t, x, h => by
    simp only [Hp.dropAll] at h
    obtain ⟨h1, h2⟩ := dropAll_spec s _ t x h
    have := trimL_spec _ _ _ h1
    rcases set_spec this with ⟨_, h4⟩ | ⟨h3, h4⟩
    · cases h4
    · exact ⟨h4, by simp [h3, h2]⟩

theorem Fz.add_some (I : HInv α Φ X H) {s : List Nat} {o : Nat} {x : Mx.Ob} (h : Φ.add α X H s o = some x) : H.get o = some x ∧ o < H.size ∧ x ≠ .pend ∧ (Φ o = some x ∨ Live α X o) := by
  unfold Fz.add at h
  split at h
  · rename_i hc
    obtain ⟨slot, _, st, ob, L, h1, h2, rfl⟩ := hc
    obtain ⟨L', g1, g2, g3⟩ := I.ob slot st ob h1
    rw [h2] at g1; cases g1
    refine ⟨h, (I.al _ _ h2).1, fun e => ?_, .inr ⟨slot, st, ob, L, h1, h2, rfl⟩⟩
    subst e
    cases ob with
    | arr esz es => obtain ⟨_, _, _, g4, _⟩ := g3; rw [h] at g4; cases g4
    | map es c => obtain ⟨_, g4, _⟩ := g3; rw [h] at g4; cases g4
  · exact ⟨I.fr _ _ h, (I.fz _ _ h).1, (I.fz _ _ h).2, .inl h⟩

/-- Objects are taken out of the heap, and never change. -/
theorem frz_inv (I : HInv α Φ X H) (s : List Nat) : HInv α (Φ.add α X H s) (X.frz s) H := by
  have hX : ∀ (t : Nat) x, (X.frz s).obs[t]? = some (some x) → X.obs[t]? = some (some x) ∧ t ∉ s := fun t x h => dropAll_spec s X t x h
  refine ⟨fun o x h => (Fz.add_some I h).1, fun o x h => ⟨(Fz.add_some I h).2.1, (Fz.add_some I h).2.2.1⟩, I.al, fun slot st ob h => ?_, fun s1 s2 st st' ob ob' L L' h h' => I.ap s1 s2 st st' ob ob' L L' (hX _ _ h).1 (hX _ _ h').1⟩
  obtain ⟨h1, h2⟩ := hX _ _ h
  obtain ⟨L, g1, g2, g3⟩ := I.ob slot st ob h1
  refine ⟨L, g1, ?_, g3.mono (Al.le_refl _) (Fz.le_add I s) rfl⟩
  unfold Fz.add
  rw [if_neg]
  · exact g2
  · rintro ⟨slot', hm, st', ob', L', k1, k2, k3⟩
    exact I.ap slot' slot st' st ob' ob L' L k1 h1 k2 g1 (fun e => h2 (by rw [← e]; exact hm)) k3

theorem frz_nx (I : HInv α Φ X H) {b : Nat} (s : List Nat) : NxT b α Φ X H α (Φ.add α X H s) (X.frz s) H := by
  have hX : ∀ (t : Nat) x, (X.frz s).obs[t]? = some (some x) → X.obs[t]? = some (some x) ∧ t ∉ s := fun t x h => dropAll_spec s X t x h
  have hl : ∀ o, Live α (X.frz s) o → Live α X o := fun o ⟨slot, st, ob, L, h1, h2, h3⟩ => ⟨slot, st, ob, L, (hX _ _ h1).1, h2, h3⟩
  refine ⟨Al.le_refl _, Fz.le_add I s, frz_inv I s, Nat.le_refl _, Nat.le_refl _, fun _ _ _ => rfl, fun o h => .inl (hl o h), fun o x h => ?_, fun _ _ _ => rfl, fun _ o h => hl o h, Nat.le_succ _, fun h => ?_⟩
  · rcases (Fz.add_some I h).2.2.2 with q | q
    · exact .inl q
    · exact .inr (.inl q)
  · have : X.ep + 1 = X.ep := h
    omega

/-- What an element's cells hold by place is made content, in place. -/
theorem fin_nx (I : HInv α Φ X H) {b slot st idx : Nat} {X' : Hp} (h : X.fin slot st idx = some X') : ∃ Φ', NxT b α Φ X H α Φ' X' H := by
  unfold Hp.fin at h
  split at h
  case h_2 => cases h
  rename_i esz es hat
  split at h
  case h_2 => cases h
  rename_i v hv
  split at h
  case h_2 => cases h
  rename_i v' s hs
  cases hc : s.contains slot with
  | true => rw [hc] at h; cases h
  | false =>
  rw [hc] at h
  simp only [cond_false, Option.some.injEq] at h
  have hns : slot ∉ s := fun hm => by rw [List.contains_iff_mem.2 hm] at hc; cases hc
  have hX : ∀ (t : Nat) x, (X.frz s).obs[t]? = some (some x) → X.obs[t]? = some (some x) ∧ t ∉ s := fun t x h => dropAll_spec s X t x h
  have I1 := frz_inv I s
  obtain ⟨L, hL, hΦ, hob⟩ := I.ob slot st _ (at_some.1 hat)
  obtain ⟨rfl, e, cs, hg, htot, hlen, hE, hI⟩ := hob
  obtain ⟨k1, k2, k3⟩ := snap_cells hs (hE idx v hv).2
  have hi : idx < es.length := (List.getElem?_eq_some_iff.1 hv).1
  have hΦ' : Φ.add α X H s L.o = none := by
    unfold Fz.add
    rw [if_neg]
    · exact hΦ
    · rintro ⟨slot', hm, st', ob', L', q1, q2, q3⟩
      exact I.ap slot' slot st' st ob' _ L' L q1 (at_some.1 hat) q2 hL (fun e => hns (by rw [← e]; exact hm)) q3
  have hnew : ObR (alB ((es.set idx v').all fun v => v.cells.all noRef0) α) (Φ.add α X H s) L H (.arr L.esz (es.set idx v')) := by
    have hR : ∀ (i j : Nat) (w c : V) (u : Value), (es.set idx v')[i]? = some w → w.cells[j]? = some c → cs[L.base + i * L.esz + j]? = some u → R α (Φ.add α X H s) c u := by
      intro i j w c u g1 g2 g3
      rw [List.getElem?_set] at g1
      split at g1
      · rename_i e1
        subst e1
        (try rw [if_pos hi] at g1)
        cases g1
        have hj : j < v.cells.length := by have := (List.getElem?_eq_some_iff.1 g2).1; omega
        obtain ⟨g, s', _, q2, q3⟩ := k3 j _ c (List.getElem?_eq_getElem hj) g2
        have hr := (hI idx j v _ u hv (List.getElem?_eq_getElem hj) g3).mono alB_le (Fz.le_refl _)
        exact .con (snap_RC I (Fz.le_add I s) _ _ _ _ _ q2 hr ((Fz.add_cov Φ α X H s).sub q3))
      · exact (hI i j w c u g1 g2 g3).mono alB_le (Fz.le_add I s)
    refine ⟨rfl, e, cs, hg, htot, by rw [List.length_set]; exact hlen, fun i w hw => ?_, fun i j w c u g1 g2 g3 => ?_⟩
    · rw [List.getElem?_set] at hw
      split at hw
      · (try rw [if_pos hi] at hw)
        cases hw
        exact ⟨by rw [k1]; exact (hE idx v hv).1, k2⟩
      · exact hE i w hw
    · have hr := hR i j w c u g1 g2 g3
      cases hp : (es.set idx v').all fun v => v.cells.all noRef0 with
      | false => exact hr
      | true =>
        have hw := List.all_eq_true.1 hp w (List.mem_of_getElem? g1)
        exact .con (noRef0_RC (List.all_eq_true.1 hw c (List.mem_of_getElem? g2)) hr)
  subst h
  have hO : ∀ (t : Nat) (st' : Nat) (ob' : Ob), ((X.frz s).obs.set slot (some (st, Ob.arr L.esz (es.set idx v'))))[t]? = some (some (st', ob')) → (t = slot ∧ st' = st ∧ ob' = .arr L.esz (es.set idx v')) ∨ (t ≠ slot ∧ X.obs[t]? = some (some (st', ob')) ∧ (X.frz s).obs[t]? = some (some (st', ob'))) := by
    intro t st' ob' hq
    rcases set_spec hq with ⟨h3, h4⟩ | ⟨h3, h4⟩
    · cases h4; exact .inl ⟨h3, rfl, rfl⟩
    · exact .inr ⟨h3, (hX _ _ h4).1, h4⟩
  refine ⟨Φ.add α X H s, Al.le_refl _, Fz.le_add I s, ⟨I1.fr, I1.fz, I1.al, fun t st' ob' hq => ?_, fun s1 s2 st1 st2 ob1 ob2 L1 L2 q1 q2 a1 a2 hne => ?_⟩, Nat.le_refl _, Nat.le_refl _, fun _ _ _ => rfl, fun o h => .inl ?_, fun o x h => ?_, fun _ _ _ => rfl, fun _ o h => ?_, Nat.le_succ _, fun h => ?_⟩
  · rcases hO _ _ _ hq with ⟨rfl, rfl, rfl⟩ | ⟨h3, _, h5⟩
    · refine ⟨L, hL, hΦ', ?_⟩
      simp only [getP_set, if_true]
      exact hnew
    · obtain ⟨L2, g1, g2, g3⟩ := I1.ob _ _ _ h5
      refine ⟨L2, g1, g2, ?_⟩
      simp only [getP_set, if_neg h3]
      exact g3
  · have back : ∀ (t st' : Nat) (ob' : Ob), ((X.frz s).obs.set slot (some (st, Ob.arr L.esz (es.set idx v'))))[t]? = some (some (st', ob')) → ∃ ob2, X.obs[t]? = some (some (st', ob2)) := fun t st' ob' hq => by
      rcases hO _ _ _ hq with ⟨rfl, rfl, rfl⟩ | ⟨_, h4, _⟩
      · exact ⟨_, at_some.1 hat⟩
      · exact ⟨_, h4⟩
    obtain ⟨o1, p1⟩ := back _ _ _ q1
    obtain ⟨o2, p2⟩ := back _ _ _ q2
    exact I.ap s1 s2 st1 st2 o1 o2 L1 L2 p1 p2 a1 a2 hne
  · obtain ⟨t, st', ob', L', q1, q2, q3⟩ := h
    rcases hO _ _ _ q1 with ⟨rfl, rfl, rfl⟩ | ⟨_, h4, _⟩
    · exact ⟨t, st', _, L', at_some.1 hat, q2, q3⟩
    · exact ⟨t, st', _, L', h4, q2, q3⟩
  · rcases (Fz.add_some I h).2.2.2 with q | q
    · exact .inl q
    · exact .inr (.inl q)
  · obtain ⟨t, st', ob', L', q1, q2, q3⟩ := h
    rcases hO _ _ _ q1 with ⟨rfl, rfl, rfl⟩ | ⟨_, h4, _⟩
    · exact ⟨t, st', _, L', at_some.1 hat, q2, q3⟩
    · exact ⟨t, st', _, L', h4, q2, q3⟩
  · have : X.ep + 1 = X.ep := h
    omega

end
end Go.Proofs.YtapkmhneneffdaaGreatDoor.M3

/-! The text ZaeM. -/
namespace Go.Proofs.YtapkmhneneffdaaGreatDoor.M3
open Go Go.Proofs.YtapkmhneneffdaaGreatDoor.Mx

section
variable {α α' : Al} {Φ Φ' : Fz} {X X' : Hp} {H H' : Heap}

/-! ### places renamed -/
def RnOk (ρ : Rn) (α α' : Al) : Prop := ∀ slot st s t L, ρ slot st = some (s, t) → α st = some L → α' t = some L

variable {ρ : Rn}
theorem ren0_R (hρ : RnOk ρ α α') {v : V} {u : Value} (h : R α Φ v u) : R α' Φ (ren0 ρ v) u := by
  unfold ren0
  split
  · rename_i slot st i o
    obtain ⟨L, e1, rfl⟩ := h.inv_pr
    split
    · rename_i s t e; exact .pr _ _ _ _ L (hρ _ _ _ _ _ e e1)
    · exact .junk _
  · rename_i slot st off len ex
    obtain ⟨L, m, cap, e1, h1, h2, h3, h4, rfl⟩ := h.inv_sr
    split
    · rename_i s t e; exact .sr _ _ _ _ _ L m cap (hρ _ _ _ _ _ e e1) h1 h2 h3 h4
    · exact .junk _
  · rename_i slot st
    obtain ⟨L, e1, rfl⟩ := h.inv_mr
    split
    · rename_i s t e; exact .mr _ _ L (hρ _ _ _ _ _ e e1)
    · exact .junk _
  · cases hv : noRef0 v with
    | true => exact .con (noRef0_RC hv h)
    | false => exact .junk u

theorem map_R {f : V → V} (hf : ∀ v u, R α Φ v u → R α' Φ (f v) u) {l : List V} {l' : List Value} (h : Rs α Φ l l') : Rs α' Φ (l.map f) l' := by
  refine ⟨by simpa using h.1, fun i v hv => ?_⟩
  rw [List.getElem?_map, Option.map_eq_some_iff] at hv
  obtain ⟨w, h1, rfl⟩ := hv
  obtain ⟨u, h2, h3⟩ := h.2 i w h1
  exact ⟨u, h2, hf _ _ h3⟩

theorem renC_R (hρ : RnOk ρ α α') {v : V} {u : Value} (h : R α Φ v u) : R α' Φ (renC ρ v) u := by
  unfold renC
  split
  · obtain ⟨x, rfl, hx⟩ := h.inv_ifc
    exact .ifc _ _ _ (ren0_R hρ hx)
  · obtain ⟨f', c', rfl, h1, h2⟩ := h.inv_fn
    have t1 := arr_of_rs (map_R (f := ren0 ρ) (fun v u => ren0_R hρ) h1)
    have t2 := arr_of_rs (map_R (f := ren0 ρ) (fun v u => ren0_R hρ) h2)
    exact .fn _ _ _ _ _ t1.1 t2.1 t1.2 t2.2
  · exact ren0_R hρ h
theorem ren1_R (hρ : RnOk ρ α α') {v : V} {u : Value} (h : R α Φ v u) : R α' Φ (ren1 ρ v) u := by
  unfold ren1
  split
  · obtain ⟨c, rfl, hc⟩ := h.inv_agg
    exact .agg' (map_R (fun v u => renC_R hρ) hc)
  · exact renC_R hρ h
theorem ren2_R (hρ : RnOk ρ α α') {v : V} {u : Value} (h : R α Φ v u) : R α' Φ (ren2 ρ v) u := by
  unfold ren2
  split
  · obtain ⟨c, rfl, hc⟩ := h.inv_tup
    exact .tup' (map_R (fun v u => ren1_R hρ) hc)
  · obtain ⟨x, rfl, hx⟩ := h.inv_ifc
    exact .ifc _ _ _ (ren1_R hρ hx)
  · rename_i w
    obtain ⟨y, rfl, hy⟩ := h.inv_pan
    refine .pan _ _ ?_
    split
    · obtain ⟨x, rfl, hx⟩ := hy.inv_ifc
      exact .ifc _ _ _ (ren1_R hρ hx)
    · exact ren1_R hρ hy
  · exact ren1_R hρ h
theorem ren_R (hρ : RnOk ρ α α') {v : V} {u : Value} (h : R α Φ v u) : R α' Φ (ren ρ v) u := by
  unfold ren
  cases hv : noRef v with
  | true => exact .con (noRef_RC hv h)
  | false => exact ren2_R hρ h

theorem renC_na (v : V) (hn : ∀ l, v ≠ .agg l) : ∀ l, renC ρ v ≠ .agg l := by
  intro l
  unfold renC
  split
  · simp
  · simp
  · unfold ren0
    split
    · split <;> simp
    · split <;> simp
    · split <;> simp
    · cases noRef0 v with
      | true => exact hn l
      | false => simp
theorem cells_na {v : V} (hn : ∀ l, v ≠ .agg l) : v.cells = [v] := by
  cases v <;> first | rfl | exact absurd rfl (hn _)
theorem ren1_cells (v : V) : (ren1 ρ v).cells = v.cells.map (renC ρ) := by
  by_cases h : ∃ l, v = .agg l
  · obtain ⟨l, rfl⟩ := h; rfl
  · have hn : ∀ l, v ≠ .agg l := fun l e => h ⟨l, e⟩
    have e : ren1 ρ v = renC ρ v := by cases v <;> first | rfl | exact absurd rfl (hn _)
    rw [e, cells_na hn, cells_na (renC_na v hn)]
    rfl

theorem renM_R (hρ : RnOk ρ α α') : ∀ (es : Ents) (es' : Entries), EntsR α Φ es es' → EntsR α' Φ (renM ρ es) es'
  | [], es', h => by
    refine ⟨h.1, fun i k v b k' v' b' h1 => ?_⟩
    simp [renM] at h1
  | (k, v, b) :: es, [], h => by have := h.1; simp at this
  | (k, v, b) :: es, (k', v', b') :: es', h => by
    have tl : EntsR α Φ es es' := ⟨by have := h.1; simpa using this, fun i a1 a2 a3 a4 a5 a6 h1 h2 => h.2 (i + 1) a1 a2 a3 a4 a5 a6 (by simpa using h1) (by simpa using h2)⟩
    have ih := renM_R hρ es es' tl
    refine ⟨by have := ih.1; simp [renM, this], fun i a1 a2 a3 a4 a5 a6 h1 h2 => ?_⟩
    cases i with
    | zero =>
      simp only [renM, List.getElem?_cons_zero, Option.some.injEq, Prod.mk.injEq] at h1 h2
      obtain ⟨rfl, rfl, rfl⟩ := h1
      obtain ⟨rfl, rfl, rfl⟩ := h2
      obtain ⟨q1, q2, q3⟩ := h.2 0 k v b k' v' b' (by simp) (by simp)
      refine ⟨q1, q2, ?_⟩
      cases hn : noRef1 v with
      | true => exact .con (noRef1_RC hn q3)
      | false => exact ren1_R hρ q3
    | succ i => exact ih.2 i a1 a2 a3 a4 a5 a6 (by simpa [renM] using h1) (by simpa using h2)

theorem renOb_R (hρ : RnOk ρ α α') {b : Bool} {L : L3} {ob ob' : Ob} (he : renOb ρ b ob = some ob') (h : ObR (alB b α) Φ L H ob) : ObR (alB b α') Φ L H ob' := by
  unfold renOb at he
  cases b with
  | true => cases he; exact h
  | false =>
    simp only [cond_false] at he
    split at he
    · rename_i esz es
      cases hc : (es.map (ren1 ρ)).all (fun v => v.cells.all okC) with
      | false => rw [hc] at he; cases he
      | true =>
        rw [hc] at he
        cases he
        obtain ⟨h1, e, cs, h2, h3, h4, h5, h6⟩ := h
        refine ⟨h1, e, cs, h2, h3, by rw [List.length_map]; exact h4, fun i v hv => ?_, fun i j v c u hv hc' hu => ?_⟩
        · refine ⟨?_, List.all_eq_true.1 hc v (List.mem_of_getElem? hv)⟩
          rw [List.getElem?_map, Option.map_eq_some_iff] at hv
          obtain ⟨w, hw, rfl⟩ := hv
          rw [ren1_cells, List.length_map]; exact (h5 i w hw).1
        · rw [List.getElem?_map, Option.map_eq_some_iff] at hv
          obtain ⟨w, hw, rfl⟩ := hv
          rw [ren1_cells, List.getElem?_map, Option.map_eq_some_iff] at hc'
          obtain ⟨c0, hc0, rfl⟩ := hc'
          exact renC_R hρ (h6 i j w c0 u hw hc0 hu)
    · cases he
      obtain ⟨es', h1, h2⟩ := h
      exact ⟨es', h1, renM_R hρ _ _ h2⟩

/-! ### heaps, slot by slot -/
theorem ent_some {X : Hp} {s : Nat} {x : Nat × Ob} : X.ent s = some x ↔ X.obs[s]? = some (some x) := by
  unfold Hp.ent
  constructor
  · intro h
    split at h
    · rename_i y hy; cases h; exact hy
    · cases h
  · intro h; rw [h]
theorem mk_at {clock ep len : Nat} {ent : Nat → Option (Nat × Ob)} {fl : Nat → Bool} {s : Nat} {x : Nat × Ob} : (mkHp clock ep len ent fl).obs[s]? = some (some x) ↔ s < len ∧ ent s = some x := by
  unfold mkHp
  simp only [List.getElem?_map]
  by_cases h : s < len
  · rw [List.getElem?_range h]; simp [h]
  · rw [List.getElem?_eq_none (by simpa using h)]; simp [h]
theorem getP_map {fl : Nat → Bool} : ∀ (l : List Nat) (s x : Nat), l[s]? = some x → getP (l.map fl) s = fl x
  | [], s, x, h => by simp at h
  | y :: l, 0, x, h => by simp at h; subst h; rfl
  | y :: l, s + 1, x, h => by
    simp only [List.map_cons, getP]
    exact getP_map l s x (by simpa using h)
theorem mk_fl {clock ep len : Nat} {ent : Nat → Option (Nat × Ob)} {fl : Nat → Bool} {s : Nat} (h : s < len) : getP (mkHp clock ep len ent fl).pl s = fl s :=
  getP_map _ _ _ (List.getElem?_range h)

/-- A view of a heap: src tells where an object comes from. -/
theorem mk_inv (I : HInv α Φ X H) {clock ep len : Nat} {ent : Nat → Option (Nat × Ob)} {fl : Nat → Bool} {src : Nat → Nat} (hal : ∀ st L, α' st = some L → L.o < H.size ∧ st < clock)
    (hent : ∀ s st ob, s < len → ent s = some (st, ob) → ∃ st0 ob0, X.obs[src s]? = some (some (st0, ob0)) ∧ α' st = α st0 ∧ fl s = getP X.pl (src s) ∧ ∀ L, ObR (alB (fl s) α) Φ L H ob0 → ObR (alB (fl s) α') Φ L H ob)
    (hinj : ∀ s s', s < len → s' < len → ent s ≠ none → ent s' ≠ none → s ≠ s' → src s ≠ src s') : HInv α' Φ (mkHp clock ep len ent fl) H := by
  refine ⟨I.fr, I.fz, hal, fun slot st ob h => ?_, fun s s' st st' ob ob' L L' h h' g g' hne => ?_⟩
  · obtain ⟨h1, h2⟩ := mk_at.1 h
    obtain ⟨st0, ob0, q1, q2, q3, q4⟩ := hent _ _ _ h1 h2
    obtain ⟨L, g1, g2, g3⟩ := I.ob _ _ _ q1
    refine ⟨L, q2.trans g1, g2, ?_⟩
    rw [mk_fl h1]
    rw [← q3] at g3
    exact q4 L g3
  · obtain ⟨h1, h2⟩ := mk_at.1 h
    obtain ⟨h1', h2'⟩ := mk_at.1 h'
    obtain ⟨st0, ob0, q1, q2, _⟩ := hent _ _ _ h1 h2
    obtain ⟨st0', ob0', q1', q2', _⟩ := hent _ _ _ h1' h2'
    rw [q2] at g
    rw [q2'] at g'
    exact I.ap _ _ _ _ _ _ _ _ q1 q1' g g' (hinj s s' h1 h1' (by rw [h2]; simp) (by rw [h2']; simp) hne)

/-! ### stamps that are the slots -/
def canα (n : Nat) (X : Hp) (α : Al) : Al := fun t => bif Nat.blt t n then α t else match X.ent (t - n) with
  | some (st, _) => α st
  | none => none

theorem canα_at {n : Nat} {slot st : Nat} {ob : Ob} (h : X.obs[slot]? = some (some (st, ob))) : canα n X α (canS n slot st) = α st := by
  unfold canα canS
  cases h1 : (Nat.beq st slot && Nat.blt slot n) with
  | true =>
    simp only [Bool.and_eq_true] at h1
    have e := Nat.eq_of_beq_eq_true h1.1
    subst e
    simp only [cond_true, h1.2]
  | false =>
    have : Nat.blt (n + slot) n = false := by
      cases hb : Nat.blt (n + slot) n with
      | false => rfl
      | true => have := (Eq.mp Nat.blt_eq hb); omega
    simp only [cond_false, this, Nat.add_sub_cancel_left]
    rw [ent_some.2 h]

theorem can_rn {n : Nat} : RnOk (canρ n X) α (canα n X α) := by
  intro slot st s t L h hL
  unfold canρ at h
  cases ha : X.at slot st with
  | none => rw [ha] at h; cases h
  | some ob =>
    rw [ha] at h
    cases h
    rw [canα_at (at_some.1 ha)]; exact hL

theorem can_inv (I : HInv α Φ X H) {n : Nat} : HInv (canα n X α) Φ (X.can n) H := by
  refine mk_inv I (src := id) (fun st L h => ?_) (fun s st ob hs h => ?_) (fun s s' _ _ _ _ h => h)
  · unfold canα at h
    cases hb : Nat.blt st n with
    | true => rw [hb] at h; have := (Eq.mp Nat.blt_eq hb); exact ⟨(I.al _ _ h).1, by omega⟩
    | false =>
      rw [hb] at h
      simp only [cond_false] at h
      split at h
      · rename_i st0 ob he
        have := (List.getElem?_eq_some_iff.1 (ent_some.1 he)).1
        have : ¬ st < n := fun hlt => by rw [(Eq.mpr Nat.blt_eq hlt)] at hb; cases hb
        exact ⟨(I.al _ _ h).1, by omega⟩
      · cases h
  · split at h
    · rename_i st0 ob0 he
      simp only [Option.map_eq_some_iff, Prod.mk.injEq] at h
      obtain ⟨ob1, h1, rfl, rfl⟩ := h
      exact ⟨st0, ob0, ent_some.1 he, canα_at (ent_some.1 he), rfl, fun L hL => renOb_R can_rn h1 hL⟩
    · cases h

theorem can_live {n o : Nat} (h : Live (canα n X α) (X.can n) o) : Live α X o := by
  obtain ⟨slot, st, ob, L, h1, h2, h3⟩ := h
  obtain ⟨_, h5⟩ := mk_at.1 h1
  split at h5
  · rename_i st0 ob0 he
    simp only [Option.map_eq_some_iff, Prod.mk.injEq] at h5
    obtain ⟨ob1, _, rfl, rfl⟩ := h5
    rw [canα_at (ent_some.1 he)] at h2
    exact ⟨slot, st0, ob0, L, ent_some.1 he, h2, h3⟩
  · cases h5

/-! ### what is between operations -/
theorem ofP_R {T2 : Tr Value} : ∀ {ts : List Nat} {vs : List V}, Rs α Φ vs (ts.map (rd T2)) → TR3 α Φ (ofP ts vs) T2
  | [], _, _, t => by cases ‹List V› <;> exact .junk _
  | _ :: _, [], h, t => by have := h.1; simp at this
  | t :: ts, v :: vs, h, t' => by
    obtain ⟨h1, h2⟩ := h.uncons
    simp only [ofP, rd3, Tr.get_set]
    by_cases e : t = t'
    · subst e; simp only [if_true, Option.getD_some]; exact h1
    · simp only [e, if_false]; exact ofP_R h2 t'

theorem live_R {T : Fr} {T2 : Tr Value} (h : TR3 α Φ T T2) (ts : List Nat) : Rs α Φ (ts.map (rd3 T)) (ts.map (rd T2)) := by
  induction ts with
  | nil => exact Rs.nil _ _
  | cons t ts ih => exact Rs.cons (h t) ih

theorem frees_nx {b : Nat} (T : Fr) : ∀ (ts : List Nat) (X : Hp), HInv α Φ X H → b ≤ H.size → NxT b α Φ X H α Φ (frees ts T X) H
  | [], X, I, hb => NxT.refl I
  | t :: ts, X, I, hb => by
    simp only [frees]
    have one : ∀ slot st, NxT b α Φ X H α Φ (X.free slot st) H := fun slot st => NxT.of (t := none) (Nx.free I slot st) (fun _ e => by cases e) hb
    split
    · exact (one _ _).trans (frees_nx T ts _ (one _ _).inv hb)
    · exact (one _ _).trans (frees_nx T ts _ (one _ _).inv hb)
    · exact (one _ _).trans (frees_nx T ts _ (one _ _).inv hb)
    · exact frees_nx T ts X I hb

theorem frzs_nx {b f : Nat} {T2 : Tr Value} : ∀ (ts : List Nat) (T T' : Fr) (X X' : Hp) (Φ : Fz), frzs f ts T X = some (T', X') → HInv α Φ X H → TR3 α Φ T T2 → ∃ Φ', NxT b α Φ X H α Φ' X' H ∧ TR3 α Φ' T' T2
  | [], T, T', X, X', Φ, h, I, hT => by cases h; exact ⟨Φ, NxT.refl I, hT⟩
  | t :: ts, T, T', X, X', Φ, h, I, hT => by
    simp only [frzs] at h
    split at h
    case h_2 => cases h
    rename_i v s hs
    have n1 := frz_nx (b := b) I s
    have hv := snap_RC I (Fz.le_add I s) _ _ _ _ _ hs (hT t) (Fz.add_cov Φ α X H s)
    have hT' : TR3 α (Φ.add α X H s) (T.set t v) T2 := fun t' => by
      simp only [rd3, Tr.get_set]
      by_cases e : t = t'
      · subst e; simp only [if_true, Option.getD_some]; exact .con hv
      · simp only [e, if_false]; exact (hT t').mono (Al.le_refl _) (Fz.le_add I s)
    obtain ⟨Φ', n2, h2⟩ := frzs_nx ts _ _ _ _ _ h n1.inv hT'
    exact ⟨Φ', n1.trans n2, h2⟩

theorem ps_nx {b : Nat} {p : Ps} {T T' : Fr} {T2 : Tr Value} (h : p.run T X = some (T', X')) (I : HInv α Φ X H) (hT : TR3 α Φ T T2) (hb : b ≤ H.size) : ∃ Φ', NxT b α Φ X H α Φ' X' H ∧ TR3 α Φ' T' T2 := by
  cases p with
  | frz ts => exact frzs_nx ts _ _ _ _ _ h I hT
  | free ts =>
    cases h
    exact ⟨Φ, frees_nx _ ts X I hb, hT⟩
  | keep ts =>
    cases h
    exact ⟨Φ, NxT.refl I, ofP_R (live_R hT ts)⟩
  | fin t =>
    simp only [Ps.run] at h
    split at h
    case h_2 => cases h
    obtain ⟨X1, h1, h2⟩ := bnd_some h
    cases h2
    obtain ⟨Φ', n1⟩ := fin_nx (b := b) I h1
    exact ⟨Φ', n1, hT.mono n1.la n1.lf⟩

/-! ### code -/
def ExR (α : Al) (Φ : Fz) : Ex3 → Ex → Prop
  | .normal, .normal => True
  | .exit i, .exit j => i = j
  | .ret, .ret => True
  | .pan v, .pan u => R α Φ v u
  | _, _ => False

/-- What is kept while a function runs. -/
structure PInv (P : Al → Fz → Hp → Heap → Prop) (rs : Option Nat) (Φ0 : Fz) : Prop where
  hi : ∀ {α Φ X H}, P α Φ X H → HInv α Φ X H
  le : ∀ {α Φ X H}, P α Φ X H → Φ0.le Φ
  nx : ∀ {α Φ X H α' Φ' X' H'}, P α Φ X H → NxT H.size α Φ X H α' Φ' X' H' → P α' Φ' X' H'
  an : ∀ {α Φ X H} (n : Nat), rs = some n → P α Φ X H → P (canα n X α) Φ (X.can n) H

variable {P : Al → Fz → Hp → Heap → Prop} {rs : Option Nat} {Φ0 : Fz} {G : Gl} {cl : Cl3} {cl2 : Nat → List Value → Heap → Option (Value × Heap)}

theorem anew_R (hP : PInv P rs Φ0) (hp : P α Φ X H) {vs : List V} {us : List Value} (h : Rs α Φ vs us) : ∃ α', P α' Φ (anew rs vs X).2 H ∧ Rs α' Φ (anew rs vs X).1 us := by
  unfold anew
  cases rs with
  | none => exact ⟨α, hp, h⟩
  | some n => exact ⟨_, hP.an n rfl hp, map_R (fun v u => ren_R can_rn) h⟩

theorem loop_sim (hP : PInv P rs Φ0) {live : List Nat} {body : List V → Hp → Option (Ex3 × List V × Hp)} {body2 : Tr Value → Heap → Option (Ex × Tr Value × Heap)}
    (hb : ∀ (vs : List V) (X : Hp) (e : Ex3) (vs' : List V) (X' : Hp) (α : Al) (Φ : Fz) (T2 : Tr Value) (H : Heap), body vs X = some (e, vs', X') → P α Φ X H → Rs α Φ vs (live.map (rd T2)) →
      ∃ e2 T2' H' α' Φ', body2 T2 H = some (e2, T2', H') ∧ P α' Φ' X' H' ∧ Rs α' Φ' vs' (live.map (rd T2')) ∧ ExR α' Φ' e e2) :
    ∀ (n : Nat) (vs : List V) (X : Hp) (e : Ex3) (vs' : List V) (X' : Hp) (α : Al) (Φ : Fz) (T2 : Tr Value) (H : Heap), iter3 rs n body vs X = some (e, vs', X') → P α Φ X H → Rs α Φ vs (live.map (rd T2)) →
      ∃ e2 T2' H' α' Φ', iter body2 n T2 H = some (e2, T2', H') ∧ P α' Φ' X' H' ∧ Rs α' Φ' vs' (live.map (rd T2')) ∧ ExR α' Φ' e e2
  | 0, _, _, _, _, _, _, _, _, _, h, _, _ => by cases h
  | n + 1, vs, X, e, vs', X', α, Φ, T2, H, h, hp, hv => by
    simp only [iter3] at h
    obtain ⟨α1, hp1, hv1⟩ := anew_R hP hp hv
    split at h
    · rename_i vs1 X1 h1
      obtain ⟨e2, T2', H', α', Φ', k1, k2, k3, k4⟩ := hb _ _ _ _ _ _ _ _ _ h1 hp1 hv1
      cases e2 <;> simp only [ExR] at k4
      simp only [iter, k1]
      exact loop_sim hP hb n _ _ _ _ _ _ _ _ _ h k2 k3
    · rename_i hne
      obtain ⟨e2, T2', H', α', Φ', k1, k2, k3, k4⟩ := hb _ _ _ _ _ _ _ _ _ h hp1 hv1
      refine ⟨e2, T2', H', α', Φ', ?_, k2, k3, k4⟩
      simp only [iter, k1]
      cases e2 <;> first | rfl | skip
      exfalso
      cases e <;> simp only [ExR] at k4
      exact hne _ _ h

theorem code_sim (hP : PInv P rs Φ0) (hcl : ClS G cl cl2) (hG : GlOk G Φ0) (n : Nat) : ∀ (c : C3) {Q : Type} (κ : Ex3 → Fr → Hp → Option Q) (r : Q) (T : Fr) (X : Hp) (α : Al) (Φ : Fz) (T2 : Tr Value) (H : Heap), c.ok = true → evCK G cl (iter3 rs n) c T X κ = some r → P α Φ X H → TR3 α Φ T T2 →
    ∃ e T' X' e2 T2' H' α' Φ', κ e T' X' = some r ∧ evC cl2 n c.er T2 H = some (e2, T2', H') ∧ P α' Φ' X' H' ∧ TR3 α' Φ' T' T2' ∧ ExR α' Φ' e e2 := by
  intro c
  induction c with
  | skip =>
    intro Q κ r T X α Φ T2 H ok h hp hT
    exact ⟨_, _, _, _, _, _, _, _, h, rfl, hp, hT, trivial⟩
  | ret =>
    intro Q κ r T X α Φ T2 H ok h hp hT
    exact ⟨_, _, _, .ret, _, _, _, _, h, rfl, hp, hT, trivial⟩
  | exit id =>
    intro Q κ r T X α Φ T2 H ok h hp hT
    exact ⟨_, _, _, .exit id, _, _, _, _, h, rfl, hp, hT, rfl⟩
  | region na ops =>
    intro Q κ r T X α Φ T2 H ok h hp hT
    simp only [C3.ok, Bool.and_eq_true] at ok
    have I := hP.hi hp
    have n0 := NxT.ext I na
    simp only [evCK] at h
    obtain ⟨T', X', s', α', Φ', k1, k2, k3, k4⟩ := ops_sim (b := H.size) hcl ops T X .nil none α Φ ⟨T2, Heap.ext na H, .nil⟩ h n0.inv (hG.mono (hP.le hp)) hT (fun i => trivial) (fun i clk e h => by cases h) (by rw [Heap.size_ext]; omega) ok.1 (fun k hk => by
      have := (List.all_eq_true.1 ok.2) k hk
      have : k < na := by simpa using this
      refine ⟨?_, by rw [Heap.size_ext]; omega⟩
      rw [Heap.get_ext, if_pos (by omega)])
    exact ⟨.normal, T', X', .normal, s'.T, s'.H, α', Φ', k1, by simp only [C3.er, evC, k2], hP.nx hp (n0.trans k3), k4, trivial⟩
  | seq a b iha ihb =>
    intro Q κ r T X α Φ T2 H ok h hp hT
    simp only [C3.ok, Bool.and_eq_true] at ok
    simp only [evCK] at h
    obtain ⟨e, T1, X1, e2, T21, H1, α1, Φ1, k1, k2, k3, k4, k5⟩ := iha _ r T X α Φ T2 H ok.1 h hp hT
    cases e with
    | normal =>
      cases e2 <;> simp only [ExR] at k5
      obtain ⟨e, T', X', e2, T2', H', α', Φ', j1, j2, j3, j4, j5⟩ := ihb κ r T1 X1 α1 Φ1 T21 H1 ok.2 k1 k3 k4
      exact ⟨e, T', X', e2, T2', H', α', Φ', j1, by simp only [C3.er, evC, k2]; exact j2, j3, j4, j5⟩
    | exit i => cases e2 <;> simp only [ExR] at k5; exact ⟨_, T1, X1, .exit i, T21, H1, α1, Φ1, k1, by simp only [C3.er, evC, k2, k5], k3, k4, rfl⟩
    | ret => cases e2 <;> simp only [ExR] at k5; exact ⟨_, T1, X1, .ret, T21, H1, α1, Φ1, k1, by simp only [C3.er, evC, k2], k3, k4, trivial⟩
    | pan v => cases e2 <;> simp only [ExR] at k5; exact ⟨_, T1, X1, .pan _, T21, H1, α1, Φ1, k1, by simp only [C3.er, evC, k2], k3, k4, k5⟩
  | cond x a b iha ihb =>
    intro Q κ r T X α Φ T2 H ok h hp hT
    simp only [C3.ok, Bool.and_eq_true] at ok
    simp only [evCK] at h
    split at h
    case h_2 => cases h
    rename_i t ht
    have hx := ev3_R (hG.mono (hP.le hp)) hT x
    rw [ht] at hx
    cases t with
    | true =>
      obtain ⟨e, T', X', e2, T2', H', α', Φ', j1, j2, j3, j4, j5⟩ := iha κ r T X α Φ T2 H ok.1 h hp hT
      exact ⟨e, T', X', e2, T2', H', α', Φ', j1, by simp only [C3.er, evC, hx.inv_b, cond_true]; exact j2, j3, j4, j5⟩
    | false =>
      obtain ⟨e, T', X', e2, T2', H', α', Φ', j1, j2, j3, j4, j5⟩ := ihb κ r T X α Φ T2 H ok.2 h hp hT
      exact ⟨e, T', X', e2, T2', H', α', Φ', j1, by simp only [C3.er, evC, hx.inv_b, cond_false]; exact j2, j3, j4, j5⟩
  | block id c ih =>
    intro Q κ r T X α Φ T2 H ok h hp hT
    simp only [evCK] at h
    obtain ⟨e, T1, X1, e2, T21, H1, α1, Φ1, k1, k2, k3, k4, k5⟩ := ih _ r T X α Φ T2 H ok h hp hT
    cases e with
    | normal => cases e2 <;> simp only [ExR] at k5; exact ⟨_, T1, X1, .normal, T21, H1, α1, Φ1, k1, by simp only [C3.er, evC, k2], k3, k4, trivial⟩
    | ret => cases e2 <;> simp only [ExR] at k5; exact ⟨_, T1, X1, .ret, T21, H1, α1, Φ1, k1, by simp only [C3.er, evC, k2], k3, k4, trivial⟩
    | pan v => cases e2 <;> simp only [ExR] at k5; exact ⟨_, T1, X1, .pan _, T21, H1, α1, Φ1, k1, by simp only [C3.er, evC, k2], k3, k4, k5⟩
    | exit i =>
      cases e2 <;> simp only [ExR] at k5
      subst k5
      cases hi : i == id with
      | true =>
        simp only [hi, cond_true] at k1
        exact ⟨_, T1, X1, .normal, T21, H1, α1, Φ1, k1, by simp only [C3.er, evC, k2, hi, cond_true], k3, k4, trivial⟩
      | false =>
        simp only [hi, cond_false] at k1
        exact ⟨_, T1, X1, .exit i, T21, H1, α1, Φ1, k1, by simp only [C3.er, evC, k2, hi, cond_false], k3, k4, rfl⟩
  | loop live c ih =>
    intro Q κ r T X α Φ T2 H ok h hp hT
    simp only [evCK] at h
    obtain ⟨⟨e, vs, X'⟩, h1, h2⟩ := bnd_some h
    obtain ⟨e2, T2', H', α', Φ', k1, k2, k3, k4⟩ := loop_sim (body2 := fun T H => evC cl2 n c.er T H) hP (live := live) (fun vs X e vs' X' α Φ T2 H h hp hv => by
      obtain ⟨e0, T', X0, e2, T2', H', α', Φ', j1, j2, j3, j4, j5⟩ := ih _ _ (ofP live vs) X α Φ T2 H ok h hp (ofP_R hv)
      cases j1
      exact ⟨e2, T2', H', α', Φ', j2, j3, live_R j4 live, j5⟩) n _ _ _ _ _ α Φ T2 H h1 hp (live_R hT live)
    exact ⟨e, _, X', e2, T2', H', α', Φ', h2, by simp only [C3.er, evC]; exact k1, k2, ofP_R k3, k4⟩
  | callp d f as =>
    intro Q κ r T X α Φ T2 H ok h hp hT
    simp only [evCK, fork_eq] at h
    split at h
    case h_2 => cases h
    rename_i g first cap hf
    obtain ⟨⟨v, X'⟩, h1, h2⟩ := bnd_some h
    have hG' := hG.mono (hP.le hp)
    have hfr := ev3_R hG' hT f
    rw [hf] at hfr
    obtain ⟨f', c', e, r1, r2⟩ := hfr.inv_fn
    obtain ⟨u, H', α', Φ', q1, q2, q3, q4⟩ := hcl.c _ _ _ _ _ h1 α Φ H (f'.toList ++ as.map (Opd.ev T2) ++ c'.toList) (hP.hi hp) hG' ((r1.append (ev3s_R hG' hT as)).append r2)
    have nx : NxT H.size α Φ X H α' Φ' X' H' := NxT.of q2 (fun _ e => by cases e) (Nat.le_refl _)
    by_cases hpan : ∃ x, v = .pan x
    · obtain ⟨x, rfl⟩ := hpan
      obtain ⟨y, rfl, hy⟩ := q3.inv_pan
      exact ⟨.pan x, T, X', .pan y, T2, H', α', Φ', h2, by simp only [C3.er, evC, e, q1, isPan_pan], hP.nx hp nx, hT.mono q2.la q2.lf, hy⟩
    · have hnp : ∀ x, v ≠ .pan x := fun x e => hpan ⟨x, e⟩
      have hk : κ .normal (putF T d v) X' = some r := by
        cases v <;> first | exact h2 | exact absurd rfl (hnp _)
      exact ⟨.normal, _, X', .normal, putT T2 d u, H', α', Φ', hk, by simp only [C3.er, evC, e, q1, q4 hnp], hP.nx hp nx, (hT.mono q2.la q2.lf).put q3 d, trivial⟩
  | panic x =>
    intro Q κ r T X α Φ T2 H ok h hp hT
    simp only [evCK] at h
    split at h
    case h_2 => cases h
    rename_i t v hv
    have hx := ev3_R (hG.mono (hP.le hp)) hT x
    rw [hv] at hx
    obtain ⟨y, e, hy⟩ := hx.inv_ifc
    exact ⟨.pan (.ifc t v), T, X, .pan (.iface t y), T2, H, α, Φ, h, by simp only [C3.er, evC, e], hp, hT, .ifc _ _ _ hy⟩
  | pre p c ih =>
    intro Q κ r T X α Φ T2 H ok h hp hT
    simp only [evCK] at h
    have run : ∀ (p : Ps), (bnd (p.run T X) fun r => evCK G cl (iter3 rs n) c r.1 r.2 κ) = some r → ∃ e T' X' e2 T2' H' α' Φ', κ e T' X' = some r ∧ evC cl2 n c.er T2 H = some (e2, T2', H') ∧ P α' Φ' X' H' ∧ TR3 α' Φ' T' T2' ∧ ExR α' Φ' e e2 := by
      intro p h
      obtain ⟨⟨T1, X1⟩, h1, h2⟩ := bnd_some h
      obtain ⟨Φ1, n1, hT1⟩ := ps_nx h1 (hP.hi hp) hT (Nat.le_refl _)
      exact ih κ r T1 X1 α Φ1 T2 H ok h2 (hP.nx hp n1) hT1
    simp only [C3.er]
    split at h
    · rename_i ts
      obtain ⟨⟨e, vs1, X1⟩, h1, h2⟩ := bnd_some h
      obtain ⟨α1, hp1, hv1⟩ := anew_R (rs := rs) hP hp (live_R hT ts)
      cases n with
      | zero => cases h1
      | succ n =>
        simp only [iter3, Option.some.injEq, Prod.mk.injEq] at h1
        obtain ⟨_, rfl, rfl⟩ := h1
        exact ih κ r _ _ α1 Φ T2 H ok h2 hp1 (ofP_R hv1)
    · exact run _ h
  | post c p ih =>
    intro Q κ r T X α Φ T2 H ok h hp hT
    simp only [evCK] at h
    obtain ⟨e, T1, X1, e2, T21, H1, α1, Φ1, k1, k2, k3, k4, k5⟩ := ih _ r T X α Φ T2 H ok h hp hT
    cases e with
    | normal =>
      obtain ⟨⟨T', X'⟩, h1, h2⟩ := bnd_some k1
      obtain ⟨Φ', n1, hT1⟩ := ps_nx h1 (hP.hi k3) k4 (Nat.le_refl _)
      exact ⟨.normal, T', X', e2, T21, H1, α1, Φ', h2, k2, hP.nx k3 n1, hT1, by cases e2 <;> exact k5⟩
    | exit i =>
      obtain ⟨⟨T', X'⟩, h1, h2⟩ := bnd_some k1
      obtain ⟨Φ', n1, hT1⟩ := ps_nx h1 (hP.hi k3) k4 (Nat.le_refl _)
      exact ⟨.exit i, T', X', e2, T21, H1, α1, Φ', h2, k2, hP.nx k3 n1, hT1, by cases e2 <;> exact k5⟩
    | ret => exact ⟨.ret, T1, X1, e2, T21, H1, α1, Φ1, k1, k2, k3, k4, k5⟩
    | pan v => exact ⟨.pan v, T1, X1, e2, T21, H1, α1, Φ1, k1, k2, k3, k4, k5⟩

end
end Go.Proofs.YtapkmhneneffdaaGreatDoor.M3
