/- Building a struct and taking a part of a slice. Condition: none. -/
import Derived.Test.YtchamabaodnjkaaAbPlain
set_option linter.all false
namespace Ab
open Go
variable {P : Program}
section
variable {ρ : Operand → Value} {r : Rf → AV} {w : World} {C : Ctx} {R : Operand → Rf → Bool} {ce : CE} {σ : List Blk} {nl : Nat} {ps : List Pend}

theorem notUnd_iff {x : AV} (h : notUnd x = true) : Solid x := by
  refine ⟨?_, fun l => ?_⟩ <;> (intro e; subst e; simp [notUnd] at h)

/-- Cells that stand for abstract cells, each of one cell. -/
def CellsAre (C : Ctx) (H : Array Obj) (cs : List AV) (c : Array Value) : Prop :=
  cs.length = c.size ∧ ∀ (i : Nat) x v, cs[i]? = some x → c[i]? = some v → VR C H x v ∧ v.oneCell' = true

theorem CellsAre.put {H : Array Obj} {cs : List AV} {c : Array Value} {x : AV} {v : Value} {off : Nat} (h : CellsAre C H cs c) (hu : Solid x) (hv : VR C H x v) (hb : off + x.cells.length ≤ cs.length) :
    CellsAre C H (putAt cs off x.cells) ((v.cells.zipIdx.foldl (fun cs (c, j) => cs.setIfInBounds (off + j) c) c)) := by
  obtain ⟨h1, h2⟩ := putAt_get cs x.cells off hb
  obtain ⟨g1, g2⟩ := VR.cells hu hv
  have hs := VR.size hu hv
  have hf : ∀ i, (v.cells.zipIdx.foldl (fun cs (c, j) => cs.setIfInBounds (off + j) c) c).size = c.size ∧ (v.cells.zipIdx.foldl (fun cs (c, j) => cs.setIfInBounds (off + j) c) c)[i]? = if off ≤ i ∧ i < off + v.cells.size then v.cells[i - off]? else c[i]? := fun i => by
    have := fill_one off v.cells.toList 0 c i (by rw [← h.1]; simp; omega)
    rw [← Array.foldl_toList]
    simp only [Array.toList_zipIdx]
    simpa using this
  refine ⟨by rw [h1, (hf 0).1]; exact h.1, fun i y u hi hu' => ?_⟩
  rw [h2] at hi
  rw [(hf i).2] at hu'
  by_cases hin : off ≤ i ∧ i < off + x.cells.length
  · rw [if_pos hin] at hi
    rw [if_pos (by omega)] at hu'
    obtain ⟨u', k1, k2⟩ := g1.get (i - off) y hi
    rw [Array.getElem?_toList] at k1
    rw [k1] at hu'
    simp at hu'; subst hu'
    exact ⟨k2, g2 _ (by rw [Array.mem_toList_iff]; exact Array.mem_of_getElem? k1)⟩
  · rw [if_neg hin] at hi
    rw [if_neg (by omega)] at hu'
    exact h.2 i y u hi hu'

theorem fill_ok {H : Array Obj} {place : Nat → Option (Nat × Nat)} (hR : ∀ x y, R x y = true → VR C H (r y) (ρ x)) : ∀ (xs : List (Nat × Operand)) (ys : List (Nat × Nat × Rf)) (cs cs' : List AV) (c : Array Value),
    partsIs R place xs ys = true → CellsAre C H cs c → fillP cs (ys.map fun p => (p.1, p.2.1, r p.2.2)) = some cs' →
    ∃ c', Instr.fill place c (xs.map fun (i, x) => (i, ρ x)) = some c' ∧ CellsAre C H cs' c'
  | [], [], cs, cs', c, _, hc, h => by simp [fillP] at h; subst h; exact ⟨c, rfl, hc⟩
  | (i, x) :: xs, (o, n, y) :: ys, cs, cs', c, hp, hc, h => by
    simp only [partsIs, Bool.and_eq_true] at hp
    obtain ⟨⟨hp1, hp2⟩, hp3⟩ := hp
    have hpl : place i = some (o, n) := by
      split at hp1
      · rename_i a b e; simp at hp1; rw [e, hp1.1, hp1.2]
      · simp at hp1
    simp only [List.map_cons, fillP] at h
    split at h <;> try (simp at h; done)
    rename_i hcond
    simp only [Bool.and_eq_true, beq_iff_eq, decide_eq_true_eq] at hcond
    obtain ⟨⟨e1, e2⟩, e3⟩ := hcond
    have hu := notUnd_iff e3
    have hv := hR _ _ hp2
    have hs := VR.size hu hv
    simp only [List.map_cons, Instr.fill, hpl]
    rw [if_neg (by rw [hs, e1, ← hc.1]; simp; omega)]
    exact fill_ok hR xs ys _ cs' _ hp3 (hc.put hu hv (by omega)) h
  | [], _ :: _, _, _, _, hp, _, _ => by simp [partsIs] at hp
  | (_, _) :: _, [], _, _, _, hp, _, _ => by simp [partsIs] at hp

theorem zero_run {t : TypeId} {z : List AV} (h : zeroIs P t z = true) (w : World) : ∃ v, (zeroValue t).run P w = .ok v w ∧ VRL C w.heap z v.cells.toList ∧ (∀ y, y ∈ v.cells.toList → y.oneCell' = true) := by
  unfold zeroIs at h
  cases hi : P.info? t with
  | none => simp [hi] at h
  | some i =>
    simp only [hi] at h
    cases hz : i.zero with
    | none => simp [hz] at h
    | some v =>
      simp only [hz] at h
      refine ⟨v, ?_, constsAre_VRL h, ?_⟩
      · simp only [zeroValue, Sem.run_bind, run_typeInfo w hi, Result.andThen_ok, hz, Sem.run_pure]
      · have : ∀ {vs : List Value} {xs : List AV}, constsAre vs xs = true → ∀ y ∈ vs, y.oneCell' = true := by
          intro vs
          induction vs with
          | nil => simp
          | cons v vs ih =>
            intro xs h y hy
            cases xs with
            | nil => simp [constsAre] at h
            | cons x xs =>
              simp only [constsAre, Bool.and_eq_true] at h
              rcases List.mem_cons.1 hy with rfl | hy
              · have := h.1
                unfold constIs at this
                split at this <;> first | rfl | (simp at this; done)
              · exact ih h.2 y hy
        exact this h

theorem placesOf_run {w : World} : ∀ {fs : List Field} {l : List (Nat × Nat)}, placesOf P fs = some l → (fs.mapM fun f => do pure (f.offset, ← Go.sizeOf f.type) : Sem (List (Nat × Nat))).run P w = .ok l w
  | [], l, h => by simp [placesOf] at h; subst h; simp
  | f :: r, l, h => by
    simp only [placesOf] at h
    cases hi : P.info? f.type with
    | none => simp [hi] at h
    | some i =>
      cases hl : placesOf P r with
      | none => simp [hi, hl] at h
      | some l' =>
        simp [hi, hl] at h; subst h
        have hs : (Go.sizeOf f.type).run P w = .ok i.size w := info_size (by simp [sizeIs, hi]) w
        simp only [List.mapM_cons, Sem.run_bind, hs, Result.andThen_ok, Sem.run_pure, placesOf_run hl]

theorem pl_bld {o : Oper} {t : TypeId} {xs : Array (Nat × Operand)} {z0 : List AV} {qs : List (Nat × Nat × Rf)} {z : AV} {p : Option Pend} (ho : o.op = .build t xs) (hz : zeroIs P t z0 = true)
    (ht : (match P.underlying t with
    | some (.struct fs) => (match placesOf P fs.toList with | some l => partsIs R (fun i => l[i]?) xs.toList qs | none => false)
    | some (.array _ e) => (match P.info? e with | some i => partsIs R (fun j => some (j * i.size, i.size)) xs.toList qs | none => false)
    | _ => false) = true)
    (hR : ∀ x y, R x y = true → VR C w.heap (r y) (ρ x)) (he : ev ce σ nl ps r (.bld z0 qs) = some (z, p)) : Plain P ρ o w C w.heap z ∧ p = none := by
  simp only [ev] at he
  cases hf : fillP z0 (qs.map fun p => (p.1, p.2.1, r p.2.2)) with
  | none => simp [hf] at he
  | some l =>
    simp [hf] at he; obtain ⟨rfl, rfl⟩ := he
    obtain ⟨v, h1, h2, h3⟩ := zero_run (C := C) hz w
    have hc0 : CellsAre C w.heap z0 v.cells := ⟨by have := VRL.length h2; simpa using this.symm, fun i x u hi hu => by
      obtain ⟨u', k1, k2⟩ := h2.get i x hi
      rw [Array.getElem?_toList, hu] at k1
      simp at k1; subst k1
      exact ⟨k2, h3 _ (by rw [Array.mem_toList_iff]; exact Array.mem_of_getElem? hu)⟩⟩
    have fin : ∀ c' : Array Value, CellsAre C w.heap l c' → VR C w.heap (.agg l) (.agg c') := fun c' hc => by
      unfold VR
      refine ⟨c'.toList, by simp, VRL.of (by simp [hc.1]) (fun i x u h1 h2 => (hc.2 i x u h1 (by simpa using h2)).1), fun y hy => ?_⟩
      obtain ⟨i, hi⟩ := List.getElem?_of_mem hy
      have hlt : i < l.length := by
        rw [hc.1]
        have := (List.getElem?_eq_some_iff.1 hi).1
        simpa using this
      exact (hc.2 i l[i] y (by simp [hlt]) (by simpa using hi)).2
    have hx : (xs.map fun (i, x) => (i, ρ x)).toList = xs.toList.map fun (i, x) => (i, ρ x) := by simp
    cases hu : P.underlying t with
    | none => simp [hu] at ht
    | some d =>
      cases d <;> simp only [hu] at ht <;> try (simp at ht; done)
      · rename_i n e
        cases hi : P.info? e with
        | none => simp [hi] at ht
        | some i =>
          simp only [hi] at ht
          obtain ⟨c', g1, g2⟩ := fill_ok hR xs.toList qs z0 l v.cells ht hc0 hf
          refine ⟨plain_of (s := Instr.build t (xs.map fun (i, x) => (i, ρ x))) (v := .agg c') (by simp only [execOp, ho]) ?_ (fin c' g2), rfl⟩
          have hs : (Go.sizeOf e).run P w = .ok i.size w := info_size (by simp [sizeIs, hi]) w
          simp only [Instr.build, Sem.run_bind, h1, run_underlying hu, Result.andThen_ok, hs, hx, g1, Sem.run_pure]
      · rename_i fs
        cases hpl : placesOf P fs.toList with
        | none => simp [hpl] at ht
        | some pl =>
          simp only [hpl] at ht
          obtain ⟨c', g1, g2⟩ := fill_ok hR xs.toList qs z0 l v.cells ht hc0 hf
          refine ⟨plain_of (s := Instr.build t (xs.map fun (i, x) => (i, ρ x))) (v := .agg c') (by simp only [execOp, ho]) ?_ (fin c' g2), rfl⟩
          have hm : (fs.mapM fun f => do pure (f.offset, ← Go.sizeOf f.type) : Sem (Array (Nat × Nat))).run P w = .ok pl.toArray w := by
            rw [Array.mapM_eq_mapM_toList]
            have hr := placesOf_run (w := w) hpl
            have hm : ∀ m : Sem (List (Nat × Nat)), (List.toArray <$> m).run P w = (m >>= fun a => pure a.toArray).run P w := fun _ => rfl
            rw [hm, Sem.run_bind, hr]
            simp
          simp only [Instr.build, Sem.run_bind, h1, run_underlying hu, Result.andThen_ok, hm, hx]
          have : (fun i : Nat => pl.toArray[i]?) = fun i : Nat => pl[i]? := by funext i; simp
          simp only [this, g1, Sem.run_pure]

theorem slice_run {t e : TypeId} {v : Value} {lo hi : Option Value} {st : Nat} (ht : sliceOf P t = some e) (hst : sizeIs P e st = true) {a : Option Addr} {len cap l h : Nat} (e1 : v = .slice a len cap)
    (e2 : lo = none ∧ l = 0 ∨ lo = some (.int .i64 l)) (e3 : hi = none ∧ h = len ∨ hi = some (.int .i64 h)) (h1 : l ≤ h) (h2 : h ≤ len) (h3 : len ≤ cap) :
    (Instr.sliceAt t v lo hi none).run P w = .ok (.slice (if cap = l then a else a.map (·.add (l * st))) (h - l) (cap - l)) w := by
  subst e1
  have hu := slice_und ht w
  have hs := info_size hst w
  have hb : (Instr.sliceBounds true len cap lo hi none).run P w = .ok (l, h, cap) w := by
    have c1 : ((0 : Int) ≤ h ∧ (h : Int) ≤ cap) := by omega
    have c2 : ((0 : Int) ≤ l ∧ (l : Int) ≤ h) := by omega
    rcases e2 with ⟨rfl, rfl⟩ | rfl <;> rcases e3 with ⟨rfl, rfl⟩ | rfl <;>
      simp [Instr.sliceBounds, Instr.sliceBound, asIntOf, c1, c2, h1, h2, h3, Nat.le_trans h2 h3, Sem.run_bind, Result.andThen_ok]
  have hd : (Instr.sliceAt t (.slice a len cap) lo hi none).run P w = (Instr.slice t (.slice a len cap) lo hi none).run P w := by
    simp only [Instr.sliceAt, Sem.run_bind, hu, Result.andThen_ok]
  rw [hd]
  simp only [Instr.slice, Sem.run_bind, hu, Result.andThen_ok, hb, hs, Sem.run_pure]

theorem noLocs_sub {l : List AV} {a b : Nat} (h : noLocs l = true) : noLocs ((l.drop a).take b) = true := by
  have : ∀ {l : List AV}, noLocs l = true → ∀ y ∈ l, noLoc y = true := by
    intro l
    induction l with
    | nil => simp
    | cons a r ih =>
      intro h y hy
      simp only [noLocs, Bool.and_eq_true] at h
      rcases List.mem_cons.1 hy with rfl | hy
      · exact h.1
      · exact ih h.2 y hy
  exact noLocs_of fun y hy => this h y (List.mem_of_mem_drop (List.mem_of_mem_take hy))

theorem slice_run3 {t e : TypeId} {st : Nat} (ht : sliceOf P t = some e) (hst : sizeIs P e st = true) {a : Option Addr} {len cap h m : Nat} (h1 : h ≤ m) (h2 : m ≤ cap) :
    (Instr.sliceAt t (.slice a len cap) none (some (.int .i64 h)) (some (.int .i64 m))).run P w = .ok (.slice (if m = 0 then a else a.map (·.add (0 * st))) h m) w := by
  have hu := slice_und ht w
  have hs := info_size hst w
  have hb : (Instr.sliceBounds true len cap none (some (.int .i64 h)) (some (.int .i64 m))).run P w = .ok (0, h, m) w := by
    have c1 : ((0 : Int) ≤ h ∧ (h : Int) ≤ m) := by omega
    have c2 : ((0 : Int) ≤ m ∧ (m : Int) ≤ cap) := by omega
    simp [Instr.sliceBounds, Instr.sliceBound, asIntOf, c1, c2, h1, h2, Sem.run_bind, Result.andThen_ok]
  have hd : (Instr.sliceAt t (.slice a len cap) none (some (.int .i64 h)) (some (.int .i64 m))).run P w = (Instr.slice t (.slice a len cap) none (some (.int .i64 h)) (some (.int .i64 m))).run P w := by
    simp only [Instr.sliceAt, Sem.run_bind, hu, Result.andThen_ok]
  rw [hd]
  simp only [Instr.slice, Sem.run_bind, hu, Result.andThen_ok, hb, hs, Sem.run_pure, Nat.sub_zero]

theorem pl_slc3 {o : Oper} {t e : TypeId} {x hi mx : Operand} {y hi' mx' : Rf} {st : Nat} {z : AV} {p : Option Pend} (ho : o.op = .slice t x none (some hi) (some mx))
    (ht : sliceOf P t = some e) (hst : sizeIs P e st = true) (hx : VR C w.heap (r y) (ρ x)) (hh : VR C w.heap (r hi') (ρ hi)) (hm : VR C w.heap (r mx') (ρ mx))
    (he : ev ce σ nl ps r (.slc3 y hi' mx' st) = some (z, p)) : Plain P ρ o w C w.heap z ∧ p = none := by
  simp only [ev] at he
  cases hx' : r y <;> simp only [hx'] at he <;> try (simp at he; done)
  cases hh' : r hi' <;> simp only [hh'] at he <;> try (simp at he; done)
  cases hm' : r mx' <;> simp only [hm'] at he <;> try (simp at he; done)
  rename_i nn l h m
  split at he <;> simp at he
  rename_i hc
  obtain ⟨rfl, rfl⟩ := he
  rw [hx'] at hx; rw [hh'] at hh; rw [hm'] at hm
  have hh := hh.int_inv; have hm := hm.int_inv
  refine ⟨?_, rfl⟩
  have fin : ∀ z v, (Instr.sliceAt t (ρ x) none (some (ρ hi)) (some (ρ mx))).run P w = .ok v w → VR C w.heap z v → Plain P ρ o w C w.heap z := fun z v h1 h2 =>
    plain_of (s := Instr.sliceAt t (ρ x) ((none : Option Operand).map ρ) ((some hi).map ρ) ((some mx).map ρ)) (v := v) (by simp only [execOp, ho]) h1 h2
  rw [hh, hm] at fin
  obtain ⟨A, rfl⟩ := Int.eq_ofNat_of_zero_le hc.1.1
  obtain ⟨B, rfl⟩ := Int.eq_ofNat_of_zero_le (by omega : 0 ≤ m)
  simp only [Int.toNat_natCast]
  have hAB : A ≤ B := by omega
  have hBl : B ≤ l.length := by omega
  unfold VR at hx
  obtain ⟨hn, hx⟩ := hx
  have hlen : (l.take A).length = A := by simp; omega
  rcases hx with ⟨rfl, a0, e1, hnn⟩ | ⟨blk, off, cap, st', c, el', fz, e1, hcap, hI, hH, hl⟩
  · simp at hBl
    subst hBl
    obtain rfl : A = 0 := by omega
    rw [e1] at fin
    refine fin _ _ (slice_run3 (w := w) ht hst (by omega) (by omega)) ?_
    unfold VR
    exact ⟨rfl, .inl ⟨by simp, a0, by simp, by simp⟩⟩
  · rw [e1] at fin
    refine fin _ _ (slice_run3 (w := w) ht hst hAB (by omega)) ?_
    have h0 := noLocs_sub (a := 0) (b := A) hn
    rw [List.drop_zero] at h0
    unfold VR
    refine ⟨h0, .inr ⟨blk, off, B, st', c, el', fz, ?_, by omega, hI, hH, VRI.of fun i u hi' => ?_⟩⟩
    · rw [hlen]; split <;> simp [add_addr]
    · have hi'' : l[i]? = some u := by
        have h0 := (List.getElem?_eq_some_iff.1 hi').1
        rw [List.getElem?_take_of_lt (by omega)] at hi'
        exact hi'
      exact hl.get i u hi''

theorem optR_int {lo : Option Operand} {lo' : Option Rf} {n : Int} (h : optR R lo lo' = true) (hR : ∀ x y, R x y = true → VR C w.heap (r y) (ρ x))
    (he : loV r lo' = some n) : lo.map ρ = none ∧ n = 0 ∨ lo.map ρ = some (.int .i64 n) := by
  cases lo with
  | none =>
    cases lo' with
    | none => simp [loV, hiV] at he; exact .inl ⟨rfl, he.symm⟩
    | some y => simp [optR] at h
  | some q =>
    cases lo' with
    | none => simp [optR] at h
    | some y =>
      simp only [optR] at h
      have := hR _ _ h
      right
      simp only [loV, hiV] at he
      cases hy : r y <;> simp [hy] at he
      subst he
      rw [hy] at this
      simp [this.int_inv]
theorem optR_int2 {lo : Option Operand} {lo' : Option Rf} {n : Option Int} (h : optR R lo lo' = true) (hR : ∀ x y, R x y = true → VR C w.heap (r y) (ρ x))
    (he : hiV r lo' = some n) : (lo.map ρ = none ∧ n = none) ∨ ∃ m, n = some m ∧ lo.map ρ = some (.int .i64 m) := by
  cases lo with
  | none =>
    cases lo' with
    | none => simp [loV, hiV] at he; exact .inl ⟨rfl, he.symm⟩
    | some y => simp [optR] at h
  | some q =>
    cases lo' with
    | none => simp [optR] at h
    | some y =>
      simp only [optR] at h
      have := hR _ _ h
      right
      simp only [loV, hiV] at he
      cases hy : r y <;> simp [hy] at he
      subst he
      rw [hy] at this
      exact ⟨_, rfl, by simp [this.int_inv]⟩

theorem pl_slc {o : Oper} {t e : TypeId} {x : Operand} {lo hi : Option Operand} {y : Rf} {lo' hi' : Option Rf} {st : Nat} {z : AV} {p : Option Pend} (ho : o.op = .slice t x lo hi none)
    (ht : sliceOf P t = some e) (hst : sizeIs P e st = true) (hup : ∀ b u B, upto σ b u = some B → ∃ id, C.own b u = some (B, id)) (hx : VR C w.heap (r y) (ρ x)) (hlo : optR R lo lo' = true) (hhi : optR R hi hi' = true)
    (hR : ∀ x y, R x y = true → VR C w.heap (r y) (ρ x)) (he : ev ce σ nl ps r (.slc y lo' hi' st) = some (z, p)) : Plain P ρ o w C w.heap z ∧ p = none := by
  simp only [ev] at he
  have fin : ∀ z v, (Instr.sliceAt t (ρ x) (lo.map ρ) (hi.map ρ) none).run P w = .ok v w → VR C w.heap z v → Plain P ρ o w C w.heap z := fun z v h1 h2 =>
    plain_of (s := Instr.sliceAt t (ρ x) (lo.map ρ) (hi.map ρ) ((none : Option Operand).map ρ)) (v := v) (by simp only [execOp, ho]) h1 h2
  cases ha : loV r lo' with
  | none => simp [ha] at he
  | some a =>
    cases hb : hiV r hi' with
    | none => simp [ha, hb] at he
    | some b =>
      simp only [ha, hb] at he
      have el := optR_int hlo hR ha
      have eh := optR_int2 hhi hR hb
      cases hx' : r y <;> simp only [hx'] at he <;> try (simp at he; done)
      · rename_i nn l
        split at he <;> simp at he
        rename_i hc
        obtain ⟨rfl, rfl⟩ := he
        rw [hx'] at hx
        refine ⟨?_, rfl⟩
        -- bounds as natural numbers
        obtain ⟨A, rfl⟩ := Int.eq_ofNat_of_zero_le hc.1.1
        obtain ⟨B, hB⟩ := Int.eq_ofNat_of_zero_le (by omega : 0 ≤ b.getD l.length)
        rw [hB] at hc ⊢
        have e3 : hi.map ρ = none ∧ B = l.length ∨ hi.map ρ = some (.int .i64 B) := by
          rcases eh with ⟨h1, rfl⟩ | ⟨m, rfl, h1⟩
          · left; simp at hB; exact ⟨h1, by omega⟩
          · right; simp at hB; rw [h1, hB]
        have e2 : lo.map ρ = none ∧ A = 0 ∨ lo.map ρ = some (.int .i64 A) := by
          rcases el with ⟨h1, h2⟩ | h1
          · exact .inl ⟨h1, by omega⟩
          · exact .inr h1
        simp only [Int.toNat_natCast]
        have hx0 := hx
        unfold VR at hx
        obtain ⟨hn, hx⟩ := hx
        have hlen : ((l.drop A).take (B - A)).length = B - A := by simp; omega
        rcases hx with ⟨rfl, a0, e1, hnn⟩ | ⟨blk, off, cap, st', c, el', fz, e1, hcap, hI, hH, hl⟩
        · simp at hc
          obtain rfl : B = 0 := by omega
          obtain rfl : A = 0 := by omega
          have := slice_run (w := w) ht hst e1 e2 e3 (by omega) (by simp) (Nat.le_refl 0)
          refine fin _ _ this ?_
          unfold VR
          exact ⟨rfl, .inl ⟨by simp, a0, by simp, by simp⟩⟩
        · have := slice_run (w := w) ht hst e1 e2 e3 (by omega) (by omega) hcap
          refine fin _ _ this ?_
          unfold VR
          refine ⟨noLocs_sub hn, .inr ?_⟩
          by_cases hcA : cap = A
          · refine ⟨blk, off, cap - A, st', c, el', fz, by rw [if_pos hcA, hlen], by rw [hlen]; omega, hI, hH, ?_⟩
            have : (l.drop A).take (B - A) = [] := by rw [show B - A = 0 by omega]; simp
            rw [this]; trivial
          · refine ⟨blk, off + A * st, cap - A, st', c, el', fz, by rw [if_neg hcA, hlen]; simp [add_addr], by rw [hlen]; omega, hI, hH, ?_⟩
            refine VRI.of fun i u hi' => ?_
            have hi'' : l[A + i]? = some u := by
              have h0 := (List.getElem?_eq_some_iff.1 hi').1
              rw [List.getElem?_take_of_lt (by omega), List.getElem?_drop] at hi'
              exact hi'
            obtain ⟨v, g1, g2, g3⟩ := hl.get (A + i) u hi''
            have hst' : st' = st := by
              have hf := hc.2
              cases l with
              | nil => simp at hi''
              | cons x0 r0 =>
                simp only [firstIs, beq_iff_eq] at hf
                obtain ⟨v0, k1, k2, _⟩ := hl.get 0 x0 rfl
                have : noLoc x0 = true := by simp only [noLocs, Bool.and_eq_true] at hn; exact hn.1
                rw [← k2, VR.size (notUnd_of this) k1, hf]
            subst hst'
            refine ⟨v, g1, g2, fun j hj => ?_⟩
            rw [← g3 j hj, Nat.add_mul]
            congr 1; omega
      · rename_i b' u off len
        cases hup' : upto σ b' u with
        | none => simp [hup'] at he
        | some B0 =>
        simp only [hup'] at he
        obtain ⟨id0, hB0⟩ := hup b' u B0 hup'
        split at he <;> simp at he
        rename_i hc
        obtain ⟨rfl, rfl⟩ := he
        rw [hx'] at hx
        refine ⟨?_, rfl⟩
        obtain ⟨A, rfl⟩ := Int.eq_ofNat_of_zero_le hc.1.1
        obtain ⟨B, hB⟩ := Int.eq_ofNat_of_zero_le (by omega : 0 ≤ b.getD len)
        rw [hB] at hc ⊢
        have e3 : hi.map ρ = none ∧ B = len ∨ hi.map ρ = some (.int .i64 B) := by
          rcases eh with ⟨h1, rfl⟩ | ⟨m, rfl, h1⟩
          · left; simp at hB; exact ⟨h1, by omega⟩
          · right; simp at hB; rw [h1, hB]
        have e2 : lo.map ρ = none ∧ A = 0 ∨ lo.map ρ = some (.int .i64 A) := by
          rcases el with ⟨h1, h2⟩ | h1
          · exact .inl ⟨h1, by omega⟩
          · exact .inr h1
        simp only [Int.toNat_natCast]
        unfold VR at hx
        obtain ⟨⟨q, cap, e1, hcap, hq⟩, h1, h3⟩ := hx
        have := slice_run (w := w) ht hst e1 e2 e3 (by omega) (by omega) hcap
        refine fin _ _ this ?_
        unfold VR
        refine ⟨⟨_, _, rfl, by omega, fun hlt => ?_⟩, h1, fun B' id hB' => ?_⟩
        · obtain ⟨blk, rfl⟩ := hq (by omega)
          exact ⟨blk, by rw [if_neg (by omega)]; simp [add_addr]⟩
        · have hv := h3 B' id hB'
          cases hs : B'.st with
          | dead => trivial
          | nul =>
            simp only [hs] at hv
            obtain ⟨rfl, rfl, e4⟩ := hv
            rw [e1] at e4
            simp at e4
            obtain ⟨rfl, rfl⟩ := e4
            obtain rfl : B = 0 := by omega
            obtain rfl : A = 0 := by omega
            simp
          | live =>
            simp only [hs] at hv
            obtain ⟨c, el', o', cap', g1, g2, g3, g4, g5⟩ := hv
            rw [e1] at g2
            simp at g2
            obtain ⟨rfl, rfl⟩ := g2
            rw [hB0] at hB'
            simp at hB'
            obtain ⟨rfl, rfl⟩ := hB'
            have hk := hc.2
            rw [hk] at g5 ⊢
            have hmul : A * st + (cap - A) * st = cap * st := by rw [← Nat.add_mul, Nat.add_sub_cancel' (by omega)]
            by_cases hcA : cap = A
            · refine ⟨c, el', o', 0, g1, by rw [if_pos hcA, show cap - A = 0 by omega], fun h => absurd h (Nat.lt_irrefl 0), by omega, ?_⟩
              subst hcA; simpa using g5
            · refine ⟨c, el', off + A * st, cap - A, g1, ?_, fun _ => rfl, by omega, ?_⟩
              · rw [if_neg hcA]
                obtain rfl := g3 (by omega)
                simp [add_addr]
              · omega
end
end Ab
