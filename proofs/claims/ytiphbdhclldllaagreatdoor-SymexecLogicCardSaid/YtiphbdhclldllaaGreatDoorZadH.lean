/- Single operations, fifth part: make, append, copy. -/
import Derived.Test.YtiphbdhclldllaaGreatDoorZadG
set_option linter.unusedSimpArgs false
set_option linter.unusedVariables false
namespace Go.Proofs.YtiphbdhclldllaaGreatDoor.Mx
open Go

section
variable {P : Program} {B0 : Bs} {w0 : World} {β : Emb} {H : Heap} {w : World}

theorem wrap_small {n : Int} (h0 : 0 ≤ n) (h1 : n ≤ 2 ^ 46) : IntKind.i64.wrap n = n := by
  simp [IntKind.wrap, IntKind.bits, IntKind.signed]; omega

theorem mkslice_sim (R : WRel B0 w0 β H w) {t e id : Nat} {i : TypeInfo} {z : List Value} {a a' b b' v : Value} {H' : Heap} (hu : P.underlying t = some (.slice e)) (hi : P.info? e = some i) (hz : zeroOf P e = some z) (hpos : 0 < i.size)
    (ha : VR β a a') (hb : VR β b b') (hv : H.mkslice id e i.size i.bytes z a b = some (v, H')) (hid : id < H.size) : Good B0 w0 β H' v ((Instr.makeSlice t a' b').run P w) := by
  unfold Heap.mkslice at hv
  split at hv
  case h_2 => cases hv
  rename_i k1 l k2 c
  split at hv
  case isFalse => cases hv
  rename_i hc
  obtain ⟨c1, c2, c3, c4⟩ := hc
  cases ha; cases hb
  cases hn : H.new id (.cells e false (List.replicate c.toNat z).flatten) with
  | none => rw [hn] at hv; cases hv
  | some H1 =>
    rw [hn] at hv
    cases hv
    obtain ⟨i2, zv, hi2, hz1, hz2, hz3, hz4⟩ := zeroOf_spec hz
    rw [hi] at hi2; cases hi2
    have hzc : zv.cells = z.toArray := by rw [← hz2]
    have hall : ((List.replicate c.toNat z).flatten).all leafClosed = true := by
      simp only [List.all_eq_true, List.mem_flatten, List.mem_replicate]
      rintro v ⟨l, ⟨_, rfl⟩, hv⟩
      exact List.all_eq_true.1 hz4 v hv
    obtain ⟨le, R'⟩ := new_sim R (t := e) hn hid (c := ((List.replicate c.toNat z).flatten).toArray) (by simp) (by rw [List.take_length]; exact .ofLeaf β hall) (Nat.le_refl _)
    have wl : IntKind.i64.wrap l = l := wrap_small c1 (by omega)
    have wc : IntKind.i64.wrap c = c := wrap_small (by omega) c3
    have hbytes : ¬ ((i.bytes : Int) * c > 2 ^ 48) := by
      have : (i.bytes : Int) * c = c * i.bytes := Int.mul_comm _ _
      omega
    have hcn : ¬ c < 0 := by omega
    have hln : ¬ l < 0 := by omega
    have hlc : ¬ l > c := by omega
    refine ⟨_, .slice (some ⟨w.heap.size, 0, none⟩) l.toNat c.toNat, { w with heap := w.heap.push (.cells ((List.replicate c.toNat z).flatten).toArray e) }, ?_, le, ⟨R', R.os, R.tape, R.output⟩, ?_⟩
    · have hinfo : ∀ w, (typeInfo e).run P w = .ok i w := fun w => by simp [typeInfo, hi]
      have hszr : ∀ w, (sizeOf e).run P w = .ok i.size w := fun w => by simp [sizeOf, hinfo]
      have hrow : (Array.range (c.toNat * i.size)).map (fun x => z.toArray[x % z.toArray.size]!) = ((List.replicate c.toNat z).flatten).toArray := by
        rw [← range_map_eq z (by omega) c.toNat, hz3]
      simp only [Instr.makeSlice, Sem.run_bind, run_und hu, Result.andThen_ok, asInt, asIntOf, Sem.run_pure, hinfo, wl, wc]
      rw [if_neg (by simp [hcn, hln, hlc]; omega)]
      simp only [Sem.run_bind, run_askRoom, Result.andThen_ok, hszr]
      by_cases h0 : c.toNat * i.size = 0
      · have hc0 : c.toNat = 0 := by rcases Nat.mul_eq_zero.1 h0 with h | h <;> omega
        have hr0 : ∀ f : Nat → Value, (Array.range 0).map f = #[] := fun f => Array.eq_empty_of_size_eq_zero (by simp)
        simp [h0, hc0, newRow, hr0]
      · simp only [h0, if_false, Sem.run_bind, run_zero hi hz1, Result.andThen_ok, Sem.run_pure, hzc, hrow]
        simp [newRow]
    · have hs2 : ((List.replicate c.toNat z).flatten).toArray.size = c.toNat * i.size := by simp [hz3]
      have := VR.slice (β := β.upd id ⟨w.heap.size, 0, ((List.replicate c.toNat z).flatten).toArray.size⟩) id 0 (2 * i.size + 1) l.toNat c.toNat c.toNat ⟨w.heap.size, 0, ((List.replicate c.toNat z).flatten).toArray.size⟩
        (upd_self _ _ _) (by omega) (Nat.le_refl _) (fun _ => rfl) (fun _ => by show 0 + c.toNat * ((2 * i.size + 1) / 2) ≤ ((List.replicate c.toNat z).flatten).toArray.size; rw [hs2, show (2 * i.size + 1) / 2 = i.size by omega]; omega)
      exact this

/-! ### append -/
theorem app_in {ts : Array TypeId} {t u e ty s : Nat} {d : TypeDesc} {a : Addr} {len cap n : Nat} {y' : Value} {c' : Array Value} {w' : World} (ht : ts[0]? = some t) (hu' : ts[1]? = some u) (hu : P.underlying t = some (.slice e)) (hd : P.underlying u = some d) (hint : isIntD d = false)
    (hs : sizeOfT P e = some s) (hl : (Builtin.lenOf y').run P w = .ok n w) (hc : (Builtin.firstCells s n y').run P w = .ok c' w) (hfit : len + n ≤ cap)
    (hst : (storeCells (a.add (len * s)) c'.toList 0).run P w = .ok () w') : (Builtin.append_ ts ty #[.slice (some a) len cap, y']).run P w = .ok (.slice (some a) (len + n) cap) w' := by
  cases d <;> (first | (simp [isIntD] at hint; done) | skip) <;>
  simp only [Builtin.append_, ht, hu', List.getElem?_toArray, List.getElem?_cons_zero, List.getElem?_cons_succ, Sem.run_bind, run_und hu, Result.andThen_ok, run_sizeOfT hs, run_und hd, Sem.run_pure,
    Bool.false_eq_true, if_false, hl, hfit, if_true, Bool.not_false, hc, hst]

theorem app_nil {ts : Array TypeId} {t u e ty s : Nat} {d : TypeDesc} {y' : Value} {c' : Array Value} (ht : ts[0]? = some t) (hu' : ts[1]? = some u) (hu : P.underlying t = some (.slice e)) (hd : P.underlying u = some d) (hint : isIntD d = false)
    (hs : sizeOfT P e = some s) (hl : (Builtin.lenOf y').run P w = .ok 0 w) (hc : (Builtin.firstCells s 0 y').run P w = .ok c' w) :
    (Builtin.append_ ts ty #[.slice none 0 0, y']).run P w = .ok (.slice none 0 0) w := by
  cases d <;> (first | (simp [isIntD] at hint; done) | skip) <;>
  simp only [Builtin.append_, ht, hu', List.getElem?_toArray, List.getElem?_cons_zero, List.getElem?_cons_succ, Sem.run_bind, run_und hu, Result.andThen_ok, run_sizeOfT hs, run_und hd, Sem.run_pure,
    Bool.false_eq_true, if_false, hl, Nat.add_zero, Nat.le_refl, if_true, Bool.not_false, hc]

theorem app_grow {ts : Array TypeId} {t u e ty s : Nat} {i : TypeInfo} {z : List Value} {d : TypeDesc} {base : Option Addr} {len cap n : Nat} {y' : Value} {c' o' : Array Value} (ht : ts[0]? = some t) (hu' : ts[1]? = some u) (hu : P.underlying t = some (.slice e)) (hd : P.underlying u = some d) (hint : isIntD d = false)
    (hi : P.info? e = some i) (hz : zeroOf P e = some z) (hs : i.size = s) (hpos : 0 < i.bytes) (hl : (Builtin.lenOf y').run P w = .ok n w) (hc : ∀ w' : World, w'.heap = w.heap → (Builtin.firstCells s n y').run P w' = .ok c' w')
    (ho : ∀ w' : World, w'.heap = w.heap → (Builtin.firstCells s len (.slice base len cap)).run P w' = .ok o' w') (hfit : cap < len + n) (hb : (len + n) * i.bytes ≤ 2 ^ 46) (hn : len + n ≤ 2 ^ 46) :
    ∃ newCap rest w', len + n ≤ newCap ∧ (Builtin.append_ ts ty #[.slice base len cap, y']).run P w = .ok (.slice (some ⟨w.heap.size, 0, none⟩) (len + n) newCap) w' ∧ rest.size = (newCap - (len + n)) * s ∧
      w'.heap = w.heap.push (.cells (o' ++ c' ++ rest) e (0, 0)) ∧ w'.os = w.os ∧ w'.tape = w.tape ∧ w'.output = w.output := by
  obtain ⟨i2, zv, hi2, hz1, hz2, hz3, hz4⟩ := zeroOf_spec hz
  rw [hi] at hi2; cases hi2
  have hzc : zv.cells = z.toArray := by rw [← hz2]
  have hinfo : ∀ w, (typeInfo e).run P w = .ok i w := fun w => by simp [typeInfo, hi]
  have hszr : ∀ w, (sizeOf e).run P w = .ok s w := fun w => by simp [sizeOf, hinfo, hs]
  have hnot : ¬ (len + n ≤ cap) := by omega
  have hmax : IntKind.i64.max = 9223372036854775807 := by decide
  have hg := growslice_fits (need := len + n) (old := cap) (bytes := i.bytes) (by omega) (by omega)
  have hg' : ¬ (Builtin.nextslicecap (len + n) cap * i.bytes > 2 ^ 48) := by omega
  have hbz : ¬ (i.bytes = 0) := by omega
  refine ⟨len + n + w.tape w.drawn (.appendCap (len + n) cap e) % (2 ^ 63 - (len + n)), Builtin.zeroCells z.toArray (len + n + w.tape w.drawn (.appendCap (len + n) cap e) % (2 ^ 63 - (len + n)) - (len + n)),
    { w with heap := w.heap.push (.cells (o' ++ c' ++ Builtin.zeroCells z.toArray (len + n + w.tape w.drawn (.appendCap (len + n) cap e) % (2 ^ 63 - (len + n)) - (len + n))) e (0, 0)), drawn := w.drawn + 1 }, by omega, ?_, ?_, rfl, rfl, rfl, rfl⟩
  · cases d <;> (first | (simp [isIntD] at hint; done) | skip) <;>
    (simp only [Builtin.append_, ht, hu', List.getElem?_toArray, List.getElem?_cons_zero, List.getElem?_cons_succ, Sem.run_bind, run_und hu, Result.andThen_ok, hszr, run_und hd, Sem.run_pure,
      Bool.false_eq_true, if_false, hl, hnot, Bool.not_false, if_true, hinfo, hmax, hbz, false_or, and_false, hg', run_choose, Question.forced, Question.cut, run_askRoom]
     simp only [ho { w with drawn := w.drawn + 1 } rfl, hc { w with drawn := w.drawn + 1 } rfl, Result.andThen_ok, run_zero hi hz1, hzc, newRow, Sem.run_bind, run_newObj, Sem.run_pure])
  · simp [Builtin.zeroCells, hz3, hs]

theorem new_spec {H H' : Heap} {id : Nat} {o : Ob} (h : H.new id o = some H') : H.get id = some .pend ∧ H' = H.put id o := by
  unfold Heap.new at h
  split at h <;> simp_all

theorem append_sim (R : WRel B0 w0 β H w) {ts : Array TypeId} {t u e ty id : Nat} {i : TypeInfo} {z : List Value} {d : TypeDesc} {pure : Bool} {x x' y y' v : Value} {H' : Heap} (ht : ts[0]? = some t) (hu' : ts[1]? = some u) (hu : P.underlying t = some (.slice e)) (hd : P.underlying u = some d) (hint : isIntD d = false)
    (hi : P.info? e = some i) (hz : zeroOf P e = some z) (hpos : 0 < i.size) (hbpos : 0 < i.bytes) (hx : VR β x x') (hy : VR β y y') (hv : H.append id e i.size i.bytes pure x y = some (v, H')) (hid : id < H.size) :
    Good B0 w0 β H' v ((Builtin.append_ ts ty #[x', y']).run P w) := by
  have hs : sizeOfT P e = some i.size := by simp [sizeOfT, hi]
  unfold Heap.append at hv
  split at hv
  · cases hv
  rename_i n new hrow
  obtain ⟨hnl, c', hcv, hcr⟩ := row_sim (P := P) R hrow hy
  obtain ⟨hl, hc⟩ := hcr w rfl
  split at hv
  · -- nil
    cases hx
    split at hv
    · rename_i hn0
      subst hn0
      cases hv
      exact Good.same R (app_nil ht hu' hu hd hint hs hl hc) .nils
    · rename_i hn0
      split at hv
      case isFalse => cases hv
      rename_i hb
      cases hn : H.new id (.cells e false new) with
      | none => rw [hn] at hv; cases hv
      | some H1 =>
        rw [hn] at hv; cases hv
        obtain ⟨nc, rest, w', h1, h2, h3, h4, h5, h6, h7⟩ := app_grow (P := P) (w := w) (base := none) (len := 0) (cap := 0) (n := n) (y' := y') (c' := c') (o' := #[]) (ty := ty) ht hu' hu hd hint hi hz rfl hbpos hl (fun w' hw' => (hcr w' hw').2) (fun w' _ => by simp [Builtin.firstCells]) (by omega) (by simpa using hb.1) (by simpa using hb.2)
        have hlen := hcv.1
        obtain ⟨le, R'⟩ := new_sim R (t := e) hn hid (c := #[] ++ c' ++ rest) (cs' := c'.toList ++ rest.toList) (by simp) (by rw [hlen, List.take_left]; exact hcv) (by rw [List.length_append, hlen]; omega)
        refine ⟨_, _, w', h2, le, ⟨by rw [h4]; exact R', h5.trans R.os, h6.trans R.tape, h7.trans R.output⟩, ?_⟩
        rw [Nat.zero_add]
        refine .slice id 0 (2 * i.size) n n nc ⟨w.heap.size, 0, _⟩ (upd_self _ _ _) (Nat.le_refl _) (by omega) (by omega) (fun _ => ?_)
        have hsz : (#[] ++ c' ++ rest).size = n * i.size + (nc - n) * i.size := by simp [h3]; simp at hlen; omega
        show 0 + nc * (2 * i.size / 2) ≤ (#[] ++ c' ++ rest).size
        rw [hsz, ← Nat.add_mul, show 2 * i.size / 2 = i.size by omega, show n + (nc - n) = nc by omega]
        omega
  · rename_i o off ek len cap
    split at hv
    · rename_i hn0
      subst hn0
      cases hv
      have hc0 : c'.toList = [] := by have := hcv.1; rw [hnl] at this; simpa using this.symm
      cases hx with
      | slice _ _ _ _ _ cap' l hl' h1 h2 h3 h4 =>
        exact Good.same R (app_in (n := 0) (a := ⟨l.b, l.o + off, none⟩) ht hu' hu hd hint hs hl hc (by omega) (by rw [hc0]; rfl)) (.slice _ _ _ _ _ cap' l hl' h1 h2 h3 h4)
      | slice0 _ _ _ A => exact Good.same R (app_in (n := 0) (a := A) ht hu' hu hd hint hs hl hc (by omega) (by rw [hc0]; rfl)) (.slice0 _ _ _ A)
    rename_i hn0
    split at hv
    · cases hv
    rename_i hek
    split at hv
    · rename_i hfit
      split at hv
      · cases hv
      split at hv
      case h_2 => cases hv
      rename_i e1 cs hg
      split at hv
      case isFalse => cases hv
      rename_i hb
      obtain ⟨hb1, hb2⟩ := hb
      cases hv
      cases hx with
      | slice _ _ _ _ _ cap' l hl' h1 h2 h3 h4 =>
        have hmul : (len + n) * i.size = len * i.size + n * i.size := Nat.add_mul _ _ _
        obtain ⟨w', g1, g2⟩ := write_sim (P := P) R hl' hg hcv hb2 (off := off + len * i.size) (by omega)
        refine ⟨β, _, w', app_in (n := n) (a := ⟨l.b, l.o + off, none⟩) ht hu' hu hd hint hs hl hc (show len + n ≤ cap' by omega) (by rw [add_none, Nat.add_assoc]; exact g1), Emb.le_refl β, g2, ?_⟩
        exact .slice _ _ _ _ _ cap' l hl' (by omega) h2 h3 h4
      | slice0 _ _ _ A => omega
    · rename_i hfit
      split at hv
      · cases hv
      rename_i n2 old hrow2
      obtain ⟨hol, o', hov, hor⟩ := row_sim (P := P) R hrow2 hx
      have hn2 : n2 = len := by
        have g := (hor w rfl).1
        cases hx <;> (simp [Builtin.lenOf] at g; omega)
      subst hn2
      split at hv
      case isFalse => cases hv
      rename_i hb
      -- what the model does where it must grow
      have grow : ∀ (a : Addr) (cp : Nat), x' = .slice (some a) n2 cp → cp < n2 + n → ∀ H1, H.new id (.cells e false (old ++ new)) = some H1 →
          ∃ β' w' nc, (Builtin.append_ ts ty #[x', y']).run P w = .ok (.slice (some ⟨w.heap.size, 0, none⟩) (n2 + n) nc) w' ∧ β.le β' ∧ WRel B0 w0 β' H1 w' ∧ VR β' (.slice (some ⟨id, 0, some (2 * i.size)⟩) (n2 + n) (n2 + n)) (.slice (some ⟨w.heap.size, 0, none⟩) (n2 + n) nc) := by
        intro a cp hxe hcp H1 hn
        subst hxe
        obtain ⟨nc, rest, w', h1, h2, h3, h4, h5, h6, h7⟩ := app_grow (P := P) (w := w) (base := some a) (len := n2) (cap := cp) (n := n) (y' := y') (c' := c') (o' := o') (ty := ty) ht hu' hu hd hint hi hz rfl hbpos hl (fun w' hw' => (hcr w' hw').2) (fun w' hw' => (hor w' hw').2) hcp hb.1 hb.2
        have hlen := hcv.1
        have hlen2 := hov.1
        have hall := hov.append hcv
        obtain ⟨le, R'⟩ := new_sim R (t := e) hn hid (c := o' ++ c' ++ rest) (cs' := (o'.toList ++ c'.toList) ++ rest.toList) (by simp) (by rw [hall.1, List.take_left]; exact hall) (by rw [List.length_append (as := o'.toList ++ c'.toList), ← hall.1]; omega)
        refine ⟨_, w', nc, h2, le, ⟨by rw [h4]; exact R', h5.trans R.os, h6.trans R.tape, h7.trans R.output⟩, ?_⟩
        refine .slice id 0 (2 * i.size) (n2 + n) (n2 + n) nc ⟨w.heap.size, 0, _⟩ (upd_self _ _ _) (Nat.le_refl _) h1 (by omega) (fun _ => ?_)
        have hsz : (o' ++ c' ++ rest).size = n2 * i.size + n * i.size + (nc - (n2 + n)) * i.size := by simp [h3]; simp at hlen hlen2; omega
        show 0 + nc * (2 * i.size / 2) ≤ (o' ++ c' ++ rest).size
        rw [hsz, ← Nat.add_mul, ← Nat.add_mul, show 2 * i.size / 2 = i.size by omega, show n2 + n + (nc - (n2 + n)) = nc by omega]
        omega
      split at hv
      · rename_i hex
        cases hn : H.new id (.cells e false (old ++ new)) with
        | none => rw [hn] at hv; cases hv
        | some H1 =>
          rw [hn] at hv; cases hv
          cases hx with
          | slice _ _ _ _ _ cap' l hl' h1 h2 h3 h4 =>
            obtain ⟨β', w', nc, g1, g2, g3, g4⟩ := grow _ _ rfl (by have := h3 hex; omega) _ hn
            exact ⟨β', _, w', g1, g2, g3, g4⟩
          | slice0 _ _ _ A =>
            obtain ⟨β', w', nc, g1, g2, g3, g4⟩ := grow _ _ rfl (by omega) _ hn
            exact ⟨β', _, w', g1, g2, g3, g4⟩
      · rename_i hex
        split at hv
        · cases hv
        split at hv
        case h_2 => cases hv
        rename_i e1 cs hg
        split at hv
        case isFalse => cases hv
        rename_i hone
        have hek : ek / 2 = i.size := by
          rcases Nat.lt_or_ge 1 ek with h | h
          · by_cases he : ek / 2 = i.size
            · exact he
            · exact absurd ⟨he, by omega, fun h => hex h.2.2⟩ hek
          · by_cases he : ek / 2 = i.size
            · exact he
            · have : ek ≠ 1 := fun e => hex (by rw [e])
              exact absurd ⟨he, this, fun h => hex h.2.2⟩ hek
        cases hn : H.new id (.cells e false (old ++ new)) with
        | none => rw [hn] at hv; cases hv
        | some H1 =>
          rw [hn] at hv; cases hv
          cases hx with
          | slice0 _ _ _ A =>
            obtain ⟨β', w', nc, g1, g2, g3, g4⟩ := grow _ _ rfl (by omega) H1 hn
            exact ⟨β', _, w', g1, g2, ⟨g3.toRel.kill o, g3.os, g3.tape, g3.output⟩, g4⟩
          | slice _ _ _ _ _ cap' l hl' h1 h2 h3 h4 =>
            by_cases hroom : cap' < n2 + n
            · obtain ⟨β', w', nc, g1, g2, g3, g4⟩ := grow _ _ rfl hroom H1 hn
              exact ⟨β', _, w', g1, g2, ⟨g3.toRel.kill o, g3.os, g3.tape, g3.output⟩, g4⟩
            · -- in the elder row, for all that the abstract machine knows
              obtain ⟨c, e0, fz, q1, q2, q3, q4, q5⟩ := R.ob o l e1 false cs hl' hg
              have hfz := q2 rfl
              subst hfz
              have hcl := hcv.1
              have hmul : (n2 + n) * i.size = n2 * i.size + n * i.size := Nat.add_mul _ _ _
              have hcm : (n2 + n) * i.size ≤ cap' * i.size := Nat.mul_le_mul_right _ (by omega)
              rw [hek] at h4
              have h4 := h4 (by omega)
              have hst := run_storeCells_at P l.b (l.o + (off + n2 * i.size)) e0 c'.toList 0 c w q1 (by omega) (hcv.allOne hone.1)
              have hold : old = (cs.drop off).take (n2 * i.size) := by
                simp only [Heap.row] at hrow2
                split at hrow2
                · rename_i h0; cases hrow2; simp
                · rw [hg] at hrow2
                  simp only at hrow2
                  split at hrow2 <;> cases hrow2
                  rfl
              have hr : l.o + (off + n2 * i.size) + c'.toList.length ≤ c.toList.length := by simp only [Array.length_toList] at hcl ⊢; omega
              obtain ⟨le, R'⟩ := R.toRel.moved (id := id) (off := off) (cs2 := old ++ new) hl' hg hn hid (by simp; omega)
                (setRange c.toList (l.o + (off + n2 * i.size)) c'.toList).toArray e0 (fun c2 e2 fz2 hh => by rw [q1] at hh; cases hh; simp [length_setRange _ _ _ hr])
                (fun j v hj => by
                  rw [List.getElem?_toArray, getElem?_setRange _ _ _ hr]
                  by_cases hjo : j < old.length
                  · rw [List.getElem?_append_left hjo] at hj
                    rw [if_neg (by omega)]
                    rw [hold, List.getElem?_take, if_pos (by omega), List.getElem?_drop] at hj
                    obtain ⟨v', k1, k2⟩ := q5 _ v hj
                    exact ⟨v', by rw [Array.getElem?_toList, Nat.add_assoc]; exact k1, k2⟩
                  · rw [List.getElem?_append_right (by omega)] at hj
                    obtain ⟨v', k1, k2⟩ := hcv.2 _ v hj
                    have hjl := (List.getElem?_eq_some_iff.1 k1).1
                    refine ⟨v', ?_, k2⟩
                    rw [if_pos (by omega), ← k1]
                    congr 1
                    omega)
              refine ⟨_, .slice (some ⟨l.b, l.o + off, none⟩) (n2 + n) cap', _, app_in (n := n) (a := ⟨l.b, l.o + off, none⟩) ht hu' hu hd hint hs hl hc (show n2 + n ≤ cap' by omega) (by rw [add_none, Nat.add_assoc]; exact hst), le, ⟨?_, by exact R.os, by exact R.tape, by exact R.output⟩, ?_⟩
              · rw [setRow_heap' w l.b _ e0 ⟨c, q1⟩]
                simp only [Nat.add_zero]
                exact R'
              · refine .slice id 0 (2 * i.size) (n2 + n) (n2 + n) cap' ⟨l.b, l.o + off, l.n - off⟩ (upd_self _ _ _) (Nat.le_refl _) (by omega) (by omega) (fun _ => ?_)
                show 0 + cap' * (2 * i.size / 2) ≤ l.n - off
                rw [show 2 * i.size / 2 = i.size by omega]
                omega
  · cases hv

end
end Go.Proofs.YtiphbdhclldllaaGreatDoor.Mx
