/- Single operations, seventh part: maps, copies, bytes. -/
import Derived.Test.YtiphbdhclldllaaGreatDoorZadR
set_option linter.unusedSimpArgs false
set_option linter.unusedVariables false
namespace Go.Proofs.YtiphbdhclldllaaGreatDoor.Mx
open Go

section
variable {P : Program} {B0 : Bs} {w0 : World} {β : Emb} {H : Heap} {w : World}

theorem zeroVal_run {t : Nat} {z : Value} (h : zeroVal P t = some z) (w : World) : (zeroValue t).run P w = .ok z w ∧ closedV z = true := by
  unfold zeroVal at h
  split at h
  case h_2 => cases h
  rename_i i hi
  split at h
  case h_2 => cases h
  rename_i zv hz
  split at h
  case isFalse => cases h
  rename_i hc
  cases h
  exact ⟨run_zero hi hz w, hc⟩

theorem mkmap_sim (R : WRel B0 w0 β H w) {id : Nat} {H' : Heap} {t : TypeId} (hn : H.new id (.map [] 0) = some H') (hid : id < H.size) :
    Good B0 w0 β H' (.map (some id)) ((Instr.makeMap t none).run P w) := by
  obtain ⟨le, R'⟩ := R.toRel.newMap hn hid
  refine ⟨_, .map (some w.heap.size), { w with heap := w.heap.push (.map #[] 0) }, ?_, le, ⟨R', R.os, R.tape, R.output⟩, .mapr id ⟨w.heap.size, 0, 0⟩ (upd_self _ _ _)⟩
  simp [Instr.makeMap]

theorem entries_sim (R : WRel B0 w0 β H w) {x x' : Value} {es : Entries} {c : Nat} (h : H.entries x = some (es, c)) (hx : VR β x x') :
    ∃ es' : Array MapEntry, EntRs β es es' ∧ ((x' = .map none ∧ es' = #[]) ∨ ∃ id l, x = .map (some id) ∧ β id = some l ∧ x' = .map (some l.b) ∧ w.heap[l.b]? = some (.map es' c) ∧ H.get id = some (.map es c)) := by
  unfold Heap.entries at h
  split at h
  · cases h; cases hx
    exact ⟨#[], ⟨rfl, fun i e he => by simp at he⟩, .inl ⟨rfl, rfl⟩⟩
  · rename_i id
    split at h
    case h_2 => cases h
    rename_i es0 c0 hg
    cases h
    cases hx with
    | mapr _ l hl =>
    obtain ⟨es', h1, h2, h3⟩ := R.mp id l es c hl hg
    exact ⟨es', ⟨h2, h3⟩, .inr ⟨id, l, rfl, hl, rfl, h1, hg⟩⟩
  · cases h

theorem lookup_sim (R : WRel B0 w0 β H w) {t kt e : Nat} {m : EqM} {z : Value} {ok : Bool} {x x' i i' v : Value} (hu : P.underlying t = some (.map kt e)) (hm : keyMode P kt = some m) (hz : zeroVal P e = some z)
    (hx : VR β x x') (hi : VR β i i') (hv : H.lookup m z ok x i = some v) : Good B0 w0 β H v ((Instr.lookup t x' i' ok).run P w) := by
  unfold Heap.lookup at hv
  split at hv
  case isFalse => cases hv
  rename_i hk
  obtain rfl : i = i' := (key_vr (keyOk_any hk) hi).symm
  split at hv
  case h_2 => cases hv
  rename_i es c he
  obtain ⟨es', hes, hx'⟩ := entries_sim R he hx
  obtain ⟨hz1, hz2⟩ := zeroVal_run hz w
  cases hf : findE m i es 0 with
  | none => rw [hf] at hv; cases hv
  | some r =>
    rw [hf] at hv
    obtain ⟨f1, f2⟩ := find_sim (P := P) (w := w) hm hes hf
    have core : ∃ q : Value, VR β v q ∧ ((Instr.findKey kt i es'.toList).run P w = .ok none w ∧ q = (if ok then .tuple #[z, .bool false] else z) ∨
        ∃ j u, (Instr.findKey kt i es'.toList).run P w = .ok (some (j, u)) w ∧ q = (if ok then .tuple #[u, .bool true] else u)) := by
      cases r with
      | none =>
        cases hv
        refine ⟨if ok then .tuple #[z, .bool false] else z, ?_, .inl ⟨f1 rfl, rfl⟩⟩
        cases ok
        · exact .ofClosed β hz2
        · exact .tuple' (.cons (.ofClosed β hz2) (.cons (.bool _) (.nil β)))
      | some q =>
        obtain ⟨j, v0, b0⟩ := q
        cases hv
        obtain ⟨e0, e1, _, _, q3, q4, _, q6⟩ := f2 j v0 b0 rfl
        have hv0 : VR β v0 e1.val := by have := q3.2.2.1; rw [q4] at this; exact this
        refine ⟨if ok then .tuple #[e1.val, .bool true] else e1.val, ?_, .inr ⟨j, e1.val, q6, rfl⟩⟩
        cases ok
        · exact hv0
        · exact .tuple' (.cons hv0 (.cons (.bool _) (.nil β)))
    obtain ⟨q, hq, hc⟩ := core
    refine Good.same R (v' := q) ?_ hq
    simp only [Instr.lookup, Sem.run_bind, run_und hu, Result.andThen_ok]
    rcases hx' with ⟨rfl, rfl⟩ | ⟨id, l, _, _, rfl, hb, _⟩
    · rcases hc with ⟨hc, rfl⟩ | ⟨j, u, hc, rfl⟩
      · simp only [Sem.run_bind, Sem.run_pure, Result.andThen_ok, key_check hm hk, hc, hz1]
      · simp only [Sem.run_bind, Sem.run_pure, Result.andThen_ok, key_check hm hk, hc]
    · rcases hc with ⟨hc, rfl⟩ | ⟨j, u, hc, rfl⟩
      · simp only [Sem.run_bind, Sem.run_pure, getObj_map hb, Result.andThen_ok, key_check hm hk, hc, hz1]
      · simp only [Sem.run_bind, Sem.run_pure, getObj_map hb, Result.andThen_ok, key_check hm hk, hc]

theorem maplen_sim (R : WRel B0 w0 β H w) {t kt e ty : Nat} {ts : Array TypeId} {x x' : Value} {es : Entries} {c : Nat} (ht : ts[0]? = some t) (hu : P.underlying t = some (.map kt e)) (hx : VR β x x') (he : H.entries x = some (es, c)) :
    Good B0 w0 β H (.int .i64 es.length) ((Builtin.len_ ts ty #[x']).run P w) := by
  obtain ⟨es', hes, hx'⟩ := entries_sim R he hx
  refine Good.same R (v' := .int .i64 es.length) ?_ (.int _ _)
  rcases hx' with ⟨rfl, rfl⟩ | ⟨id, l, _, _, rfl, hb, _⟩
  · have h0 := hes.1
    simp at h0
    simp [Builtin.len_, ht, run_und hu, goInt, ← h0]
  · simp [Builtin.len_, ht, run_und hu, goInt, getObj_map hb, hes.1]

theorem plain_bits {v : Value} (h : plain v = true) (n : Nat) : Instr.sameBits n v v = true := by
  cases v <;> simp [plain] at h <;> unfold Instr.sameBits <;> try simp
  rename_i s
  show ByteArray.beq s s = true
  unfold ByteArray.beq
  exact beq_self_eq_true _

theorem key_bits {k : Value} (h : keyAny k = true) : Instr.sameBits 10000 k k = true := by
  by_cases ha : ∃ cs, k = .agg cs
  · obtain ⟨cs, rfl⟩ := ha
    have key : ∀ l : List Value, l.all plain = true → ((l.zip l).all fun (x, y) => Instr.sameBits 9999 x y) = true := by
      intro l
      induction l with
      | nil => intro _; rfl
      | cons v l ih =>
        intro hl
        simp only [List.all_cons, Bool.and_eq_true] at hl
        simp only [List.zip_cons_cons, List.all_cons, plain_bits hl.1, Bool.true_and]
        exact ih hl.2
    show (cs.size == cs.size && (cs.toList.zip cs.toList).all fun (x, y) => Instr.sameBits 9999 x y) = true
    rw [key cs.toList (by simpa [keyAny] using h)]
    simp
  · have hp : plain k = true := by cases k <;> first | exact h | exact absurd ⟨_, rfl⟩ ha
    exact plain_bits hp _

theorem entRs_set {es : Entries} {es' : Array MapEntry} (h : EntRs β es es') {j : Nat} {e : Value × Value × Nat} (he : es[j]? = some e) {v v' : Value} (hv : VR β v v') {f : MapEntry → MapEntry} (hf : ∀ e', es'[j]? = some e' → (f e').key = e.1 ∧ (f e').val = v' ∧ (f e').born = e'.born) :
    EntRs β (setVal es j v) (es'.modify j f) := by
  have hget : ∀ (es : Entries) (j i : Nat), (setVal es j v)[i]? = if j = i then (es[i]?).map (fun e => (e.1, v, e.2.2)) else es[i]? := by
    intro es
    induction es with
    | nil => intro j i; cases j <;> simp [setVal]
    | cons a es ih =>
      intro j i
      obtain ⟨k0, v0, b0⟩ := a
      cases j with
      | zero => cases i <;> simp [setVal]
      | succ j =>
        cases i with
        | zero => simp [setVal]
        | succ i => simp [setVal, ih j i]
  have hlen : ∀ (es : Entries) (j : Nat), (setVal es j v).length = es.length := by
    intro es
    induction es with
    | nil => intro j; cases j <;> rfl
    | cons a es ih => intro j; obtain ⟨k0, v0, b0⟩ := a; cases j <;> simp [setVal, ih]
  refine ⟨by rw [hlen]; simpa using h.1, fun i a ha => ?_⟩
  rw [hget] at ha
  rw [Array.getElem?_modify]
  split at ha
  · rename_i hji
    subst hji
    rw [he] at ha
    cases ha
    obtain ⟨e', h1, h2, h3, h4, h5⟩ := h.2 j e he
    obtain ⟨g1, g2, g3⟩ := hf e' h1
    exact ⟨f e', by simp [h1], h2, g1, by rw [g2]; exact hv, by rw [g3]; exact h5⟩
  · rename_i hji
    obtain ⟨e', h1, h2⟩ := h.2 i a ha
    exact ⟨e', by rw [if_neg hji]; exact h1, h2⟩

theorem entRs_push {es : Entries} {es' : Array MapEntry} (h : EntRs β es es') {k v v' : Value} {c : Nat} (hk : keyAny k = true) (hv : VR β v v') : EntRs β (es ++ [(k, v, c)]) (es'.push { key := k, val := v', born := c }) := by
  refine ⟨by simp [h.1], fun i a ha => ?_⟩
  by_cases hi : i < es.length
  · rw [List.getElem?_append_left hi] at ha
    obtain ⟨e', h1, h2⟩ := h.2 i a ha
    exact ⟨e', by rw [Array.getElem?_push_lt (by rw [h.1]; exact hi)]; rw [← h1]; exact (Array.getElem?_eq_getElem (by rw [h.1]; exact hi)).symm, h2⟩
  · rw [List.getElem?_append_right (by omega)] at ha
    have : i = es.length := by
      have := (List.getElem?_eq_some_iff.1 ha).1
      simp at this; omega
    subst this
    simp at ha
    subst ha
    exact ⟨{ key := k, val := v', born := c }, by rw [← h.1]; simp, hk, rfl, hv, rfl⟩

theorem set_rel (R : WRel B0 w0 β H w) {id : Nat} {l : Loc} {es es2 : Entries} {c c2 : Nat} (hb : β id = some l) (hg : H.get id = some (.map es c)) {es' : Array MapEntry} (h : EntRs β es2 es') :
    WRel B0 w0 β (H.put id (.map es2 c2)) { w with heap := w.heap.setIfInBounds l.b (.map es' c2) } :=
  ⟨R.toRel.setMap hb hg h.1 h.2, R.os, R.tape, R.output⟩

theorem stays {k : Value} (h : keyAny k = true) : (Instr.keyThatStays k k).run P w = .ok k w := by
  simp [Instr.keyThatStays, key_bits h]

theorem mapset_sim (R : WRel B0 w0 β H w) {t kt e : Nat} {m : EqM} {x x' i i' v v' : Value} {H' : Heap} (hu : P.underlying t = some (.map kt e)) (hm : keyMode P kt = some m)
    (hx : VR β x x') (hi : VR β i i') (hvv : VR β v v') (hv : H.mapset m x i v = some H') : ∃ w', (Instr.mapUpdate t x' i' v').run P w = .ok () w' ∧ WRel B0 w0 β H' w' := by
  unfold Heap.mapset at hv
  split at hv
  case h_2 => cases hv
  rename_i id
  split at hv
  case isFalse => cases hv
  rename_i hk
  obtain rfl : i = i' := (key_vr (keyOk_any hk) hi).symm
  split at hv
  case h_2 => cases hv
  rename_i es c hg
  cases hx with
  | mapr _ l hl =>
  obtain ⟨es', h1, h2, h3⟩ := R.mp id l es c hl hg
  have hes : EntRs β es es' := ⟨h2, h3⟩
  cases hf : findE m i es 0 with
  | none => rw [hf] at hv; cases hv
  | some r =>
    rw [hf] at hv
    obtain ⟨f1, f2⟩ := find_sim (P := P) (w := w) hm hes hf
    cases r with
    | none =>
      cases hv
      refine ⟨_, ?_, set_rel R hl hg (entRs_push hes (keyOk_any hk) hvv)⟩
      simp only [Instr.mapUpdate, Sem.run_bind, run_und hu, Result.andThen_ok, getObj_map h1, key_check hm hk, f1 rfl]
      exact setObj_map _ h1
    | some q =>
      obtain ⟨j, v0, b0⟩ := q
      cases hv
      obtain ⟨e0, e1, q1, q2, q3, q4, q5, q6⟩ := f2 j v0 b0 rfl
      refine ⟨_, ?_, set_rel R hl hg (entRs_set hes q1 hvv (f := fun e => { e with key := i, val := v' }) fun e' he' => ⟨q5, rfl, rfl⟩)⟩
      have hke : (((es'[j]?).map (·.key)).getD i) = i := by rw [q2]; simp [q3.2.1, ← q5]
      simp only [Instr.mapUpdate, Sem.run_bind, run_und hu, Result.andThen_ok, getObj_map h1, key_check hm hk, q6, hke, stays (keyOk_any hk)]
      exact setObj_map _ h1

theorem mapentry_sim (R : WRel B0 w0 β H w) {t kt e : Nat} {m : EqM} {z : Value} {x x' i i' v : Value} {H' : Heap} (hu : P.underlying t = some (.map kt e)) (hm : keyMode P kt = some m) (hz : zeroVal P e = some z)
    (hx : VR β x x') (hi : VR β i i') (hv : H.mapentry m z x i = some (v, H')) : Good B0 w0 β H' v ((Instr.mapEntry t x' i').run P w) := by
  unfold Heap.mapentry at hv
  split at hv
  case h_2 => cases hv
  rename_i id
  split at hv
  case isFalse => cases hv
  rename_i hk
  obtain rfl : i = i' := (key_vr (keyOk_any hk) hi).symm
  split at hv
  case h_2 => cases hv
  rename_i es c hg
  cases hx with
  | mapr _ l hl =>
  obtain ⟨es', h1, h2, h3⟩ := R.mp id l es c hl hg
  have hes : EntRs β es es' := ⟨h2, h3⟩
  obtain ⟨hz1, hz2⟩ := zeroVal_run hz w
  cases hf : findE m i es 0 with
  | none => rw [hf] at hv; cases hv
  | some r =>
    rw [hf] at hv
    obtain ⟨f1, f2⟩ := find_sim (P := P) (w := w) hm hes hf
    cases r with
    | none =>
      cases hv
      refine ⟨β, .tuple #[z, goInt c], _, ?_, Emb.le_refl β, set_rel R hl hg (entRs_push hes (keyOk_any hk) (.ofClosed β hz2)), .tuple' (.cons (.ofClosed β hz2) (.cons (.int _ _) (.nil β)))⟩
      simp only [Instr.mapEntry, Sem.run_bind, run_und hu, Result.andThen_ok, getObj_map h1, key_check hm hk, f1 rfl, hz1, setObj_map _ h1, Sem.run_pure]
    | some q =>
      obtain ⟨j, v0, b0⟩ := q
      cases hv
      obtain ⟨e0, e1, q1, q2, q3, q4, q5, q6⟩ := f2 j v0 b0 rfl
      have hv0 : VR β v0 e1.val := by have := q3.2.2.1; rw [q4] at this; exact this
      have hb0 : e1.born = b0 := by have := q3.2.2.2; rw [q4] at this; exact this
      have hset : setVal es j v0 = es := by
        clear f1 f2 hf
        have : ∀ (es : Entries) (j : Nat), es[j]? = some e0 → e0.2 = (v0, b0) → setVal es j v0 = es := by
          intro es
          induction es with
          | nil => intro j h; simp at h
          | cons a es ih =>
            intro j h h'
            obtain ⟨k1, v1, b1⟩ := a
            cases j with
            | zero => simp at h; subst h; cases h'; rfl
            | succ j => simp only [setVal]; rw [ih j (by simpa using h) h']
        exact this es j q1 q4
      have hrel := set_rel (c2 := c) R hl hg (entRs_set hes q1 hv0 (f := fun e => { e with key := i }) fun e' he' => ⟨q5, by rw [q2] at he'; cases he'; rfl, rfl⟩)
      rw [hset] at hrel
      have hke : (((es'[j]?).map (·.key)).getD i) = i := by rw [q2]; simp [q3.2.1, ← q5]
      -- the entry is written as it was
      have hsame : es'.modify j (fun e => { e with key := i }) = es' := by
        apply Array.ext_getElem?
        intro a
        rw [Array.getElem?_modify]
        split
        · rename_i ea
          subst ea
          rw [q2]
          have : ({ e1 with key := i } : MapEntry) = e1 := by
            have := q3.2.1
            rw [← q5] at this
            cases e1; simp_all
          simp [this]
        · rfl
      refine ⟨β, .tuple #[e1.val, goInt b0], w, ?_, Emb.le_refl β, R, .tuple' (.cons hv0 (.cons (.int _ _) (.nil β)))⟩
      have hsz : l.b < w.heap.size := (Array.getElem?_eq_some_iff.1 h1).1
      have hw : ({ w with heap := w.heap.setIfInBounds l.b (.map es' c) } : World) = w := by
        have : w.heap.setIfInBounds l.b (.map es' c) = w.heap := by
          apply Array.ext_getElem?
          intro a
          rw [Array.getElem?_setIfInBounds]
          split
          · rename_i ea; subst ea; rw [h1]; try simp [hsz]
          · rfl
        rw [this]
      simp only [Instr.mapEntry, Sem.run_bind, run_und hu, Result.andThen_ok, getObj_map h1, key_check hm hk, q6, hke, stays (keyOk_any hk), hsame, setObj_map _ h1, hw, Sem.run_pure]
      simp [q2, hb0]

theorem setBorn_sim : ∀ (es : Entries) (l : List MapEntry) (s : Int) (v : Value) (es2 : Entries), EntRl β es l → setBorn es s v = some es2 → ∃ j e, l.findIdx? (fun e => (e.born : Int) == s) = some j ∧ es[j]? = some e ∧ es2 = setVal es j v
  | [], [], _, _, _, _, h => by simp [setBorn] at h
  | [], _ :: _, _, _, _, h, _ => h.elim
  | _ :: _, [], _, _, _, h, _ => h.elim
  | (k0, v0, b0) :: es, e' :: l, s, v, es2, hr, h => by
    obtain ⟨hr0, hrt⟩ := hr
    simp only [setBorn] at h
    have hb : e'.born = b0 := hr0.2.2.2
    split at h
    · rename_i hs
      cases h
      exact ⟨0, _, by simp [List.findIdx?_cons, hb, hs], rfl, rfl⟩
    · rename_i hs
      cases hq : setBorn es s v with
      | none => rw [hq] at h; cases h
      | some r =>
        rw [hq] at h; cases h
        obtain ⟨j, e, h1, h2, h3⟩ := setBorn_sim es l s v r hrt hq
        exact ⟨j + 1, e, by simp [List.findIdx?_cons, hb, hs, h1], by simpa using h2, by rw [h3]; rfl⟩

theorem entryset_sim (R : WRel B0 w0 β H w) {t : Nat} {x x' s s' v v' : Value} {H' : Heap} (hx : VR β x x') (hs : VR β s s') (hvv : VR β v v') (hv : H.entryset x s v = some H') :
    ∃ w', (Instr.entryStore t x' s' v').run P w = .ok () w' ∧ WRel B0 w0 β H' w' := by
  unfold Heap.entryset at hv
  split at hv
  case h_2 => cases hv
  rename_i id k n
  cases hs
  cases hx with
  | mapr _ l hl =>
  split at hv
  case h_2 => cases hv
  rename_i es c hg
  obtain ⟨es', h1, h2, h3⟩ := R.mp id l es c hl hg
  have hes : EntRs β es es' := ⟨h2, h3⟩
  cases hq : setBorn es n v with
  | none => rw [hq] at hv; cases hv
  | some es2 =>
    rw [hq] at hv; cases hv
    have hl2 : EntRl β es es'.toList := entRl_of (by simpa using h2) fun i e he => by obtain ⟨e', g1, g2⟩ := h3 i e he; exact ⟨e', by rw [Array.getElem?_toList]; exact g1, g2⟩
    obtain ⟨j, e, g1, g2, rfl⟩ := setBorn_sim es es'.toList n v es2 hl2 hq
    have g1' : es'.findIdx? (fun e => (e.born : Int) == n) = some j := by rw [← g1]; cases es' with | mk l => exact List.findIdx?_toArray _ _
    refine ⟨_, ?_, set_rel (c2 := c) R hl hg (entRs_set hes g2 hvv (f := fun e => { e with val := v' }) fun e' he' => ?_)⟩
    · simp only [Instr.entryStore, Sem.run_bind, getObj_map h1, Result.andThen_ok, asInt, asIntOf, Sem.run_pure, g1']
      exact setObj_map _ h1
    · obtain ⟨e'', k1, k2⟩ := h3 j e g2
      rw [he'] at k1; cases k1
      exact ⟨k2.2.1, rfl, rfl⟩

theorem entRl_del : ∀ {es : Entries} {l : List MapEntry} (j : Nat), EntRl β es l → EntRl β (delE es j) (l.eraseIdx j)
  | [], [], j, _ => by cases j <;> simp [delE, EntRl]
  | [], _ :: _, _, h => h.elim
  | _ :: _, [], _, h => h.elim
  | e :: es, e' :: l, 0, h => by simpa [delE] using h.2
  | e :: es, e' :: l, j + 1, h => by simp only [delE, List.eraseIdx_cons_succ]; exact ⟨h.1, entRl_del j h.2⟩

theorem entRl_to : ∀ {es : Entries} {l : List MapEntry}, EntRl β es l → l.length = es.length ∧ ∀ (i : Nat) e, es[i]? = some e → ∃ e', l[i]? = some e' ∧ EntR β e e'
  | [], [], _ => ⟨rfl, fun i e h => by simp at h⟩
  | [], _ :: _, h => h.elim
  | _ :: _, [], h => h.elim
  | e :: es, e' :: l, h => by
    obtain ⟨g1, g2⟩ := entRl_to h.2
    refine ⟨by simp [g1], fun i a ha => ?_⟩
    cases i with
    | zero => simp at ha; subst ha; exact ⟨e', by simp, h.1⟩
    | succ i => simp at ha; obtain ⟨u, k1, k2⟩ := g2 i a ha; exact ⟨u, by simpa using k1, k2⟩

theorem mapdel_sim (R : WRel B0 w0 β H w) {t kt e ty : Nat} {ts : Array TypeId} {m : EqM} {x x' i i' : Value} {H' : Heap} (ht : ts[0]? = some t) (hu : P.underlying t = some (.map kt e)) (hm : keyMode P kt = some m)
    (hx : VR β x x') (hi : VR β i i') (hv : H.mapdel m x i = some H') : ∃ w', (Builtin.delete_ ts ty #[x', i']).run P w = .ok (.tuple #[]) w' ∧ WRel B0 w0 β H' w' := by
  unfold Heap.mapdel at hv
  split at hv
  case isFalse => cases hv
  rename_i hk
  obtain rfl : i = i' := (key_vr (keyOk_any hk) hi).symm
  split at hv
  · cases hv; cases hx
    exact ⟨w, by simp [Builtin.delete_, ht, run_und hu, key_check hm hk], R⟩
  · rename_i id
    split at hv
    case h_2 => cases hv
    rename_i es c hg
    cases hx with
    | mapr _ l hl =>
    obtain ⟨es', h1, h2, h3⟩ := R.mp id l es c hl hg
    have hes : EntRs β es es' := ⟨h2, h3⟩
    have hl2 : EntRl β es es'.toList := entRl_of (by simpa using h2) fun i e he => by obtain ⟨e', g1, g2⟩ := h3 i e he; exact ⟨e', by rw [Array.getElem?_toList]; exact g1, g2⟩
    cases hf : findE m i es 0 with
    | none => rw [hf] at hv; cases hv
    | some r =>
      rw [hf] at hv
      obtain ⟨f1, f2⟩ := find_sim (P := P) (w := w) hm hes hf
      cases r with
      | none =>
        cases hv
        refine ⟨{ w with heap := w.heap.setIfInBounds l.b (.map es' c) }, ?_, ?_⟩
        · simp [Builtin.delete_, ht, run_und hu, getObj_map h1, key_check hm hk, f1 rfl, setObj_map _ h1]
        · have hsz : l.b < w.heap.size := (Array.getElem?_eq_some_iff.1 h1).1
          have : w.heap.setIfInBounds l.b (.map es' c) = w.heap := by
            apply Array.ext_getElem?
            intro a
            rw [Array.getElem?_setIfInBounds]
            split
            · rename_i ea; subst ea; rw [h1]; try simp [hsz]
            · rfl
          rw [this]; exact R
      | some q =>
        obtain ⟨j, v0, b0⟩ := q
        cases hv
        obtain ⟨e0, e1, q1, q2, q3, q4, q5, q6⟩ := f2 j v0 b0 rfl
        have hd := entRl_to (entRl_del j hl2)
        have hj : j < es'.size := (Array.getElem?_eq_some_iff.1 q2).1
        have her : (es'.eraseIdxIfInBounds j).toList = es'.toList.eraseIdx j := by
          simp [Array.eraseIdxIfInBounds, hj]
        refine ⟨{ w with heap := w.heap.setIfInBounds l.b (.map (es'.eraseIdxIfInBounds j) c) }, ?_, set_rel R hl hg ⟨by rw [← hd.1, ← Array.length_toList, her], fun a b hab => by obtain ⟨u, k1, k2⟩ := hd.2 a b hab; exact ⟨u, by rw [← Array.getElem?_toList, her]; exact k1, k2⟩⟩⟩
        simp [Builtin.delete_, ht, run_und hu, getObj_map h1, key_check hm hk, q6, setObj_map _ h1]
  · cases hv

theorem mapclear_sim (R : WRel B0 w0 β H w) {t kt e ty : Nat} {ts : Array TypeId} {x x' : Value} {H' : Heap} (ht : ts[0]? = some t) (hu : P.underlying t = some (.map kt e))
    (hx : VR β x x') (hv : H.mapclear x = some H') : ∃ w', (Builtin.clear_ ts ty #[x']).run P w = .ok (.tuple #[]) w' ∧ WRel B0 w0 β H' w' := by
  unfold Heap.mapclear at hv
  split at hv
  · cases hv; cases hx
    exact ⟨w, by simp [Builtin.clear_, ht, run_und hu], R⟩
  · rename_i id
    split at hv
    case h_2 => cases hv
    rename_i es c hg
    cases hv
    cases hx with
    | mapr _ l hl =>
    obtain ⟨es', h1, h2, h3⟩ := R.mp id l es c hl hg
    exact ⟨_, by simp [Builtin.clear_, ht, run_und hu, getObj_map h1, setObj_map _ h1], set_rel R hl hg (es' := #[]) ⟨rfl, fun i e he => by simp at he⟩⟩
  · cases hv

end
end Go.Proofs.YtiphbdhclldllaaGreatDoor.Mx
