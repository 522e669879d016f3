/- What an owned value reads as, once nobody writes it any more. Condition: none. -/
import Derived.Test.YtchamabaodnjkaaAbRel
set_option linter.all false
namespace Ab
open Go

theorem mapO_get {α β : Type} {f : α → Option β} : ∀ {l : List α} {m : List β}, mapO f l = some m → m.length = l.length ∧ ∀ (i : Nat) (x : α), l[i]? = some x → ∃ y, m[i]? = some y ∧ f x = some y
  | [], m, h => by
    simp [mapO] at h; subst h; simp
  | x :: r, m, h => by
    unfold mapO at h
    cases hx : f x with
    | none => simp [hx] at h
    | some y =>
      cases hr : mapO f r with
      | none => simp [hx, hr] at h
      | some s =>
        simp [hx, hr] at h; subst h
        obtain ⟨h1, h2⟩ := mapO_get hr
        refine ⟨by simp [h1], fun i z hi => ?_⟩
        cases i with
        | zero => simp at hi; subst hi; exact ⟨y, rfl, hx⟩
        | succ i => exact h2 i z (by simpa using hi)

theorem kst_chunk (k : Option Nat) (cs : List AV) : ∀ (n : Nat), n * kst k ≤ cs.length → (∀ m, k = some m → True) → (chunk k n cs).length = n := by
  intro n
  induction n generalizing cs with
  | zero => intros; simp [chunk]
  | succ n ih =>
    intro h _
    cases k with
    | none =>
      cases cs with
      | nil => simp [kst] at h
      | cons x r => simp only [chunk, List.length_cons]; rw [ih r (by simp [kst] at h ⊢; omega) (fun _ _ => trivial)]
    | some m =>
      simp only [chunk, List.length_cons]
      rw [ih (cs.drop m) (by simp [kst] at h ⊢; rw [Nat.add_mul] at h; omega) (fun _ _ => trivial)]

/-- The i-th element in cells, by kind. -/
theorem chunk_get (k : Option Nat) : ∀ (n : Nat) (cs : List AV), n * kst k ≤ cs.length → ∀ i, i < n → ∃ x, (chunk k n cs)[i]? = some x ∧ part cs (i * kst k) k = some x
  | 0, _, _, i, hi => absurd hi (Nat.not_lt_zero i)
  | n + 1, cs, h, i, hi => by
    cases k with
    | none =>
      cases cs with
      | nil => simp [kst] at h
      | cons x r =>
        cases i with
        | zero => exact ⟨x, by simp [chunk], by simp [part, kst, elm]⟩
        | succ i =>
          obtain ⟨y, h1, h2⟩ := chunk_get none n r (by simp [kst] at h ⊢; omega) i (by omega)
          exact ⟨y, by simpa [chunk] using h1, by simpa [part, kst, elm] using h2⟩
    | some m =>
      simp only [kst] at h
      rw [Nat.add_mul] at h
      cases i with
      | zero => exact ⟨.agg (cs.take m), by simp [chunk], by simp [part, kst]; omega⟩
      | succ i =>
        obtain ⟨y, h1, h2⟩ := chunk_get (some m) n (cs.drop m) (by simp [kst]; omega) i (by omega)
        refine ⟨y, by simpa [chunk] using h1, ?_⟩
        simp only [part, kst, List.length_drop, List.drop_drop] at h2 ⊢
        split at h2
        · have e : (i + 1) * m = m + i * m := by rw [Nat.add_mul]; omega
          have : m + i * m + m ≤ cs.length := by omega
          rw [← h2]
          simp only [e, this, if_true]
        · simp at h2

/-- What lies in a block's cells, as the value of kind k at some place. -/
theorem part_VR {C : Ctx} {H : Array Obj} {cs : List AV} {c : Array Value} {off : Nat} {k : Option Nat} {x : AV}
    (hc : ∀ (i : Nat) (x : AV), cs[i]? = some x → ∃ y, c[i]? = some y ∧ VR C H x y ∧ y.oneCell' = true) (h : part cs off k = some x) :
    ∃ v, VR C H x v ∧ v.cells.size = kst k ∧ (∀ j, j < kst k → c[off + j]? = v.cells[j]?) ∧ (k = none → v.cells = #[v]) ∧ (k ≠ none → ∃ vs, v = .agg vs) := by
  cases k with
  | none =>
    simp only [part, elm_eq] at h
    obtain ⟨y, h1, h2, h3⟩ := hc off x h
    have h3 := one_cells h3
    refine ⟨y, h2, by simp [h3, kst], fun j hj => ?_, fun _ => h3, fun h => absurd rfl h⟩
    simp only [kst] at hj
    obtain rfl : j = 0 := by omega
    simp [h1, h3]
  | some n =>
    simp only [part] at h
    split at h
    case isFalse => simp at h
    rename_i hn
    simp at h; subst h
    have key : ∀ m, m ≤ n → ∃ vs : List Value, VRL C H ((cs.drop off).take m) vs ∧ vs.length = m ∧ (∀ y, y ∈ vs → y.oneCell' = true) ∧ ∀ j, j < m → c[off + j]? = vs[j]? := by
      intro m
      induction m with
      | zero => intro _; exact ⟨[], by simp [VRL], rfl, by simp, fun j hj => absurd hj (Nat.not_lt_zero j)⟩
      | succ m ih =>
        intro hm
        obtain ⟨vs, h1, h2, h4, h3⟩ := ih (by omega)
        have hx : ∃ x, cs[off + m]? = some x := ⟨cs[off + m], by rw [List.getElem?_eq_getElem (by omega)]⟩
        obtain ⟨x, hx⟩ := hx
        obtain ⟨y, g1, g2, g3⟩ := hc (off + m) x hx
        have ht : (cs.drop off).take (m + 1) = (cs.drop off).take m ++ [x] := by
          rw [List.take_add_one]; simp [hx]
        rw [ht]
        refine ⟨vs ++ [y], h1.append ⟨y, [], rfl, g2, rfl⟩, by simp [h2], fun z hz => (List.mem_append.1 hz).elim (h4 z) (fun hz => by simp at hz; subst hz; exact g3), fun j hj => ?_⟩
        rcases Nat.lt_or_ge j m with hlt | hge
        · rw [h3 j hlt, List.getElem?_append_left (by omega)]
        · obtain rfl : j = m := by omega
          rw [g1, ← h2]; simp
    obtain ⟨vs, h1, h2, h4, h3⟩ := key n (Nat.le_refl n)
    refine ⟨.agg vs.toArray, by unfold VR; exact ⟨vs, rfl, h1, h4⟩, by simp [Value.cells, h2, kst], fun j hj => ?_, fun h => by simp at h, fun _ => ⟨_, rfl⟩⟩
    simp only [kst] at hj
    rw [h3 j hj]; simp [Value.cells]

theorem VRI.of {C : Ctx} {H : Array Obj} {c : Array Value} {st : Nat} : ∀ {l : List AV} {off : Nat},
    (∀ i x, l[i]? = some x → ∃ v, VR C H x v ∧ v.cells.size = st ∧ ∀ j, j < st → c[off + i * st + j]? = v.cells[j]?) → VRI C H c st l off
  | [], _, _ => trivial
  | x :: r, off, h => by
    refine ⟨by simpa using h 0 x rfl, VRI.of fun i y hi => ?_⟩
    obtain ⟨v, h1, h2, h3⟩ := h (i + 1) y (by simpa using hi)
    refine ⟨v, h1, h2, fun j hj => ?_⟩
    rw [← h3 j hj]
    congr 1
    rw [Nat.add_mul]; omega
theorem VRI.get {C : Ctx} {H : Array Obj} {c : Array Value} {st : Nat} : ∀ {l : List AV} {off : Nat}, VRI C H c st l off →
    ∀ i x, l[i]? = some x → ∃ v, VR C H x v ∧ v.cells.size = st ∧ ∀ j, j < st → c[off + i * st + j]? = v.cells[j]?
  | [], _, _, i, x, hi => by simp at hi
  | y :: r, off, ⟨hx, hr⟩, 0, x, hi => by simp at hi; subst hi; simpa using hx
  | y :: r, off, ⟨hx, hr⟩, i + 1, x, hi => by
    obtain ⟨v, h1, h2, h3⟩ := VRI.get hr i x (by simpa using hi)
    refine ⟨v, h1, h2, fun j hj => ?_⟩
    rw [← h3 j hj]
    congr 1
    rw [Nat.add_mul]; omega

theorem noLocs_of {l : List AV} (h : ∀ x ∈ l, noLoc x = true) : noLocs l = true := by
  induction l with
  | nil => rfl
  | cons x r ih =>
    simp only [noLocs, Bool.and_eq_true]
    exact ⟨h x (by simp), ih fun y hy => h y (by simp [hy])⟩

/-- Where C2 has the unwritten blocks (unless all is new: `fr`) and those that were owned. -/
structure Froz (fr : Bool) (C : Ctx) (C2 : Ctx) : Prop where
  imm : fr = false → ∀ k, C.I k → C2.I k
  own : ∀ k, owned C k → C2.I k

theorem view_list {σ : List Blk} {fr : Bool} {f : Nat} {C C2 : Ctx} {H : Array Obj}
    (ih : ∀ x y v, view σ fr f x = some y → VR C H x v → noLoc y = true ∧ VR C2 H y v) :
    ∀ {l m : List AV} {vs : List Value}, mapO (view σ fr f) l = some m → VRL C H l vs → noLocs m = true ∧ VRL C2 H m vs
  | [], m, vs, h, hv => by simp [mapO] at h; subst h; exact ⟨rfl, hv⟩
  | x :: r, m, vs, h, ⟨v, s, e, hx, hr⟩ => by
    unfold mapO at h
    cases hvx : view σ fr f x with
    | none => simp [hvx] at h
    | some y =>
      cases hvr : mapO (view σ fr f) r with
      | none => simp [hvx, hvr] at h
      | some t =>
        simp [hvx, hvr] at h; subst h
        obtain ⟨h1, h2⟩ := ih x y v hvx hx
        obtain ⟨h3, h4⟩ := view_list ih hvr hr
        exact ⟨by simp [noLocs, h1, h3], ⟨v, s, e, h2, h4⟩⟩

/-- **What `view` says is so.** -/
theorem view_VR {σ : List Blk} {C : Ctx} {w : World} {fr : Bool} {C2 : Ctx} (hup : ∀ b u B, upto σ b u = some B → ∃ id, C.own b u = some (B, id)) (hg : Good C w) (hf : Froz fr C C2) :
    ∀ (f : Nat) (x y : AV) (v : Value), view σ fr f x = some y → VR C w.heap x v → noLoc y = true ∧ VR C2 w.heap y v := by
  intro f
  induction f with
  | zero => intro x y v h; simp [view] at h
  | succ f ih =>
    intro x y v h hv
    cases x with
    | sl b u off len =>
      simp only [view] at h
      cases hu : upto σ b u with
      | none => simp [hu] at h
      | some B =>
        simp only [hu] at h
        split at h
        case isFalse => simp at h
        rename_i hle
        cases hm : mapO (view σ fr f) (chunk B.k len (B.cells.drop off)) with
        | none => simp [hm] at h
        | some l =>
          simp [hm] at h; subst h
          obtain ⟨id, ho⟩ := hup b u B hu
          obtain ⟨hl1, hl2⟩ := mapO_get hm
          obtain ⟨_, e1, e3, e4⟩ := hg.ent b u B _ ho
          unfold VR at hv
          obtain ⟨_, _, hv⟩ := hv
          have hv := hv B _ ho
          have hlen : (chunk B.k len (B.cells.drop off)).length = len := kst_chunk _ _ _ (by simp; omega) (fun _ _ => trivial)
          cases hs : B.st with
          | dead => exact absurd hs e4
          | nul =>
            simp only [hs] at hv
            obtain ⟨rfl, rfl, rfl⟩ := hv
            have : l = [] := by
              have : l.length = 0 := by rw [hl1, hlen]
              exact List.eq_nil_of_length_eq_zero this
            subst this
            exact ⟨rfl, by unfold VR; exact ⟨rfl, .inl ⟨rfl, none, rfl, by simp⟩⟩⟩
          | live =>
            simp only [hs] at hv
            obtain ⟨c, el, o, cap, g1, rfl, g3, g4, g5⟩ := hv
            obtain ⟨n1, c', el', n2, n3, n4⟩ := hg.live b u B _ ho hs
            rw [g1] at n2
            simp only [Option.some.injEq, Obj.cells.injEq] at n2
            obtain ⟨rfl, rfl, _⟩ := n2
            have hall : ∀ i x, (B.cells.drop off)[i]? = some x → ∃ y, c[off + i]? = some y ∧ VR C w.heap x y ∧ y.oneCell' = true := fun i x hi => by
              rw [List.getElem?_drop] at hi
              exact n4 (off + i) x hi
            have hel : ∀ i y, l[i]? = some y → noLoc y = true ∧ ∃ v, VR C2 w.heap y v ∧ v.cells.size = kst B.k ∧ ∀ j, j < kst B.k → c[off + i * kst B.k + j]? = v.cells[j]? := fun i y hi => by
              have hilt : i < len := by
                have := (List.getElem?_eq_some_iff.1 hi).1
                omega
              obtain ⟨z, z1, z2⟩ := chunk_get B.k len (B.cells.drop off) (by simp; omega) i hilt
              obtain ⟨y', y1, y2⟩ := hl2 i z z1
              rw [hi] at y1
              simp at y1; subst y1
              have hp : part B.cells (off + i * kst B.k) B.k = some z := by
                cases hk : B.k with
                | none => simp only [hk, part, elm_eq, List.getElem?_drop] at z2 ⊢; exact z2
                | some n =>
                  simp only [hk, part, List.length_drop, List.drop_drop] at z2 ⊢
                  split at z2
                  · rw [if_pos (by omega)]; exact z2
                  · simp at z2
              obtain ⟨val, p1, p2, p3, _⟩ := part_VR n4 hp
              obtain ⟨q1, q2⟩ := ih z y val y2 p1
              exact ⟨q1, val, q2, p2, p3⟩
            refine ⟨rfl, ?_⟩
            unfold VR
            refine ⟨noLocs_of fun x hx => ?_, .inr ⟨id, o, cap, kst B.k, c, el, (0, 0), ?_, by omega, hf.own _ ⟨b, u, B, ho, hs⟩, g1, VRI.of fun i x hi => ?_⟩⟩
            · obtain ⟨i, hi⟩ := List.getElem?_of_mem hx
              exact (hel i x hi).1
            · rw [hl1, hlen]
            · have hi' := (List.getElem?_eq_some_iff.1 hi).1
              obtain rfl := g3 (by omega)
              exact (hel i x hi).2
    | ptr b u off =>
      simp only [view] at h
      cases hu : upto σ b u with
      | none => simp [hu] at h
      | some B =>
        simp only [hu] at h
        split at h
        case isFalse => simp at h
        rename_i hle
        simp only [Bool.and_eq_true, beq_iff_eq] at hle
        cases hp : part B.cells 0 B.k with
        | none => simp [hp] at h
        | some z =>
          cases hz : view σ fr f z with
          | none => simp [hp, hz] at h
          | some z' =>
            simp [hp, hz] at h; subst h
            obtain ⟨id, ho⟩ := hup b u B hu
            obtain ⟨_, e1, e3, e4⟩ := hg.ent b u B _ ho
            unfold VR at hv
            obtain ⟨_, _, hv⟩ := hv
            have hv := hv B _ ho
            have hs : B.st = .live := by
              have := hle.2
              revert this
              cases B.st <;> simp [BSt.isLive]
            have hv := hv hs
            subst hv
            obtain ⟨n1, c, el, n2, n3, n4⟩ := hg.live b u B _ ho hs
            obtain ⟨val, p1, p2, p3, _⟩ := part_VR n4 hp
            obtain ⟨q1, q2⟩ := ih z z' val hz p1
            obtain ⟨⟨rfl, _⟩, _⟩ := hle
            exact ⟨rfl, by unfold VR; exact ⟨q1, id, 0, c, el, (0, 0), val, rfl, hf.own _ ⟨b, u, B, ho, hs⟩, n2, q2, fun j hj => p3 j (by omega)⟩⟩
    | agg l =>
      simp only [view] at h
      cases hm : mapO (view σ fr f) l with
      | none => simp [hm] at h
      | some m =>
        simp [hm] at h; subst h
        unfold VR at hv
        obtain ⟨vs, e, hl, hc⟩ := hv
        obtain ⟨h1, h2⟩ := view_list ih hm hl
        exact ⟨by simpa [noLoc] using h1, by unfold VR; exact ⟨vs, e, h2, hc⟩⟩
    | tup l => simp [view] at h
    | func g l =>
      simp only [view] at h
      cases hm : mapO (view σ fr f) l with
      | none => simp [hm] at h
      | some m =>
        simp [hm] at h; subst h
        unfold VR at hv
        obtain ⟨vs, e, hl⟩ := hv
        obtain ⟨h1, h2⟩ := view_list ih hm hl
        exact ⟨by simpa [noLoc] using h1, by unfold VR; exact ⟨vs, e, h2⟩⟩
    | iface t z =>
      simp only [view] at h
      cases hm : view σ fr f z with
      | none => simp [hm] at h
      | some m =>
        simp [hm] at h; subst h
        unfold VR at hv
        obtain ⟨val, e, hl⟩ := hv
        obtain ⟨h1, h2⟩ := ih z m val hm hl
        exact ⟨by simpa [noLoc] using h1, by unfold VR; exact ⟨val, e, h2⟩⟩
    | imm nn l =>
      simp only [view] at h
      cases fr with
      | true => simp at h
      | false =>
        simp at h; subst h
        refine ⟨rfl, ?_⟩
        exact VR.wk1 (x := .imm nn l) (VR.free ⟨hf.imm rfl, fun _ _ => rfl⟩ _ _ rfl hv)
    | pimm z =>
      simp only [view] at h
      cases fr with
      | true => simp at h
      | false =>
        simp at h; subst h
        exact ⟨rfl, VR.free ⟨hf.imm rfl, fun _ _ => rfl⟩ _ _ rfl hv⟩
    | snil => simp [view] at h; subst h; exact ⟨rfl, VR.wk1 (x := .snil) hv⟩
    | arr l => simp [view] at h
    | und => simp [view] at h
    | _ => simp [view] at h; subst h; exact ⟨rfl, hv⟩
theorem viewT_VR {σ : List Blk} {C : Ctx} {w : World} {fr : Bool} {C2 : Ctx} (hup : ∀ b u B, upto σ b u = some B → ∃ id, C.own b u = some (B, id)) (hg : Good C w) (hf : Froz fr C C2)
    {x y : AV} {v : Value} (h : viewT σ fr x = some y) (hv : VR C w.heap x v) : VR C2 w.heap y v := by
  by_cases hx : ∃ l, x = .tup l
  · obtain ⟨l, rfl⟩ := hx
    simp only [viewT] at h
    cases hm : mapO (view σ fr vd) l with
    | none => simp [hm] at h
    | some m =>
      simp [hm] at h; subst h
      unfold VR at hv
      obtain ⟨vs, e, hl⟩ := hv
      unfold VR
      exact ⟨vs, e, (view_list (fun x y v => view_VR hup hg hf vd x y v) hm hl).2⟩
  · have : viewT σ fr x = view σ fr vd x := by
      cases x <;> first | rfl | exact absurd ⟨_, rfl⟩ hx
    rw [this] at h
    exact (view_VR hup hg hf vd x y v h hv).2
/-- A part of a value. -/
theorem sub_VR {C : Ctx} {H : Array Obj} {x z : AV} {y : Value} {off : Nat} {k : Option Nat} (hu : Solid x) (h : VR C H x y) (hp : part x.cells off k = some z) :
    ∃ v, VR C H z v ∧ v.cells.size = kst k ∧ (∀ j, j < kst k → y.cells[off + j]? = v.cells[j]?) ∧ (k = none → v.cells = #[v]) ∧ (k ≠ none → ∃ vs, v = .agg vs) := by
  obtain ⟨h1, h2⟩ := VR.cells hu h
  refine part_VR (fun i x' hi => ?_) hp
  obtain ⟨v, g1, g2⟩ := h1.get i x' hi
  refine ⟨v, by simpa using g1, g2, h2 v (List.mem_of_getElem? g1)⟩
end Ab
