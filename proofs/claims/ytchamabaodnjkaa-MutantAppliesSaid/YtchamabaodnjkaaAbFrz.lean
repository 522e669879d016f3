/- An owned value is given away for good; blocks of a round are forgotten. Condition: none. -/
import Derived.Test.YtchamabaodnjkaaAbRegion
set_option linter.all false
namespace Ab
open Go

theorem blk_die {p : Nat → Bool} : ∀ {σ : List Blk} {n b : Nat}, blk (dieIf p n σ) b = (blk σ b).map fun B => if p (n + b) then ⟨B.k, B.cells, .dead⟩ else B
  | [], _, _ => rfl
  | B :: r, n, 0 => by simp [dieIf, blk]
  | B :: r, n, b + 1 => by
    simp only [dieIf, blk]
    rw [blk_die, show n + 1 + b = n + (b + 1) by omega]

theorem own_die {p : Nat → Bool} {σ : List Blk} {ids : Nat → Nat} {I I' : Nat → Prop} {b u : Nat} {e : Blk × Nat} : (ctxOf (dieIf p 0 σ) ids I').own b u = some e ↔ p b = false ∧ (ctxOf σ ids I).own b u = some e := by
  simp only [ctxOf, blk_die, Nat.zero_add]
  cases hb : blk σ b with
  | none => simp
  | some B =>
    simp only [Option.map_some]
    cases hp : p b with
    | true => simp
    | false => simp
theorem lim_die {p : Nat → Bool} {σ : List Blk} {ids ids' : Nat → Nat} {I I' : Nat → Prop} {b u : Nat} : (ctxOf (dieIf p 0 σ) ids I').lim b u ↔ (ctxOf σ ids' I).lim b u := by
  simp only [ctxOf, blk_die, Nat.zero_add]
  cases hb : blk σ b with
  | none => simp
  | some B =>
    cases hp : p b <;> simp [hp]

/-- **An owned value is given away.** -/
theorem frz_ok {σ : List Blk} {ids : Nat → Nat} {I : Nat → Prop} {w : World} {x y : AV} {v : Value} (p : Nat → Bool) (hg : Good (ctxOf σ ids I) w) (hv : view (dieIf (fun b => !p b) 0 σ) false vd x = some y) (hx : VR (ctxOf σ ids I) w.heap x v) :
    ∃ I', Good (ctxOf (dieIf p 0 σ) ids I') w ∧ Step (ctxOf σ ids I) w (ctxOf (dieIf p 0 σ) ids I') w ∧ VR (ctxOf (dieIf p 0 σ) ids I') w.heap y v := by
  let I' : Nat → Prop := fun k => I k ∨ owned (ctxOf (dieIf (fun b => !p b) 0 σ) ids I) k
  obtain ⟨g1, g2⟩ := Good.shrink (C2 := ctxOf (dieIf (fun b => !p b) 0 σ) ids I) hg rfl (fun b u e h => (own_die.1 h).2) (fun b u h => lim_die.2 h)
  have hOI : ∀ k, owned (ctxOf (dieIf (fun b => !p b) 0 σ) ids I) k → owned (ctxOf σ ids I) k := fun k ⟨b, u, B, h, hl⟩ => ⟨b, u, B, (own_die.1 h).2, hl⟩
  have ev : Evol (ctxOf σ ids I) w.heap (ctxOf (dieIf p 0 σ) ids I') w.heap := by
    refine ⟨fun k hk => .inl hk, fun _ _ => rfl, fun b u h => lim_die.2 h, fun b u B' id _ ho => ⟨B', (own_die.1 ho).2, rfl, rfl, fun c el hc => ⟨c, hc, rfl⟩⟩⟩
  refine ⟨I', ⟨fun k hk => hk.elim (hg.I k) fun h => hg.lt (hOI k h), fun b u B id ho => ?_, fun b u B id ho hl => ?_, fun b1 u1 B1 i1 b2 u2 B2 i2 h1 l1 h2 l2 hne => hg.apart _ _ _ _ _ _ _ _ (own_die.1 h1).2 l1 (own_die.1 h2).2 l2 hne⟩,
    ⟨ev, Nat.le_refl _, fun _ _ _ => rfl, fun k ⟨b, u, B, h, hl⟩ => .inl ⟨b, u, B, (own_die.1 h).2, hl⟩, fun k hk => hk.elim .inl fun h => .inr (.inl (hOI k h)), rfl, ⟨rfl, Nat.le_refl _⟩, rfl⟩, ?_⟩
  · obtain ⟨h1, h2, h3, h4⟩ := hg.ent b u B id (own_die.1 ho).2
    exact ⟨lim_die.2 h1, h2, h3, h4⟩
  · obtain ⟨q1, q2⟩ := (own_die (I := I)).1 ho
    obtain ⟨h1, c, el, h2, h3, h4⟩ := hg.live b u B id q2 hl
    refine ⟨fun hk => ?_, c, el, h2, h3, fun i x hi => ?_⟩
    · rcases hk with hk | ⟨b', u', B', ho', hl'⟩
      · exact h1 hk
      · obtain ⟨r1, r2⟩ := (own_die (I := I)).1 ho'
        have hbb : b' ≠ b := fun e => by
          subst e
          rw [q1] at r1; simp at r1
        exact hg.apart _ _ _ _ _ _ _ _ r2 hl' q2 hl hbb rfl
    · obtain ⟨y, k1, k2, k3⟩ := h4 i x hi
      exact ⟨y, k1, VR.mono ev _ _ k2, k3⟩
  · exact (view_VR (C2 := ctxOf (dieIf p 0 σ) ids I') (fun b u B hu => ⟨_, upto_own ids I hu⟩) g1 (fr := false) ⟨fun _ k hk => .inl hk, fun k hk => .inr hk⟩ vd x y v hv (VR.mono g2.ev _ _ hx)).2

def nnOf : AV → AV
  | .imm _ l => .imm true l
  | x => x
/-- It is sure not to be nil. -/
theorem sure_ok {σ : List Blk} {ids : Nat → Nat} {I : Nat → Prop} {w : World} {x y : AV} {v : Value} {C2 : Ctx} (hs : surely σ x = true) (hx : VR (ctxOf σ ids I) w.heap x v) (hy : VR C2 w.heap y v) :
    VR C2 w.heap (nnOf y) v := by
  have hne : v ≠ .slice none 0 0 := by
    cases x <;> simp only [surely] at hs <;> try (simp at hs; done)
    · rename_i nn l
      subst hs
      unfold VR at hx
      rcases hx.2 with ⟨_, a, h, hs⟩ | ⟨_, _, _, _, _, _, _, h, _⟩
      · obtain ⟨q, rfl⟩ := Option.isSome_iff_exists.1 (hs rfl); rw [h]; simp
      · rw [h]; simp
    · rename_i b u off len
      cases hu : upto σ b u with
      | none => simp [hu] at hs
      | some B =>
        simp only [hu] at hs
        have hl : B.st = .live := by revert hs; cases B.st <;> simp
        unfold VR at hx
        have := hx.2.2 B _ (upto_own ids I hu)
        rw [hl] at this
        obtain ⟨c, el, o, cap, _, e, _⟩ := this
        rw [e]; simp
  cases y with
  | imm nn l =>
    unfold nnOf
    unfold VR at hy ⊢
    refine ⟨hy.1, ?_⟩
    rcases hy.2 with h | h
    · obtain ⟨h1, a, h2, _⟩ := h
      refine .inl ⟨h1, a, h2, fun _ => ?_⟩
      cases a with
      | none => exact absurd h2 hne
      | some q => rfl
    · exact .inr h
  | _ => exact hy

/-! ### Blocks of a round are forgotten -/
theorem low_list {C C2 : Ctx} {H : Array Obj} {q : AV → Bool} (hq : ∀ x v, q x = true → VR C H x v → VR C2 H x v) : ∀ {l : List AV} {vs : List Value}, l.all q = true → VRL C H l vs → VRL C2 H l vs
  | [], _, _, h => h
  | x :: r, _, ha, ⟨v, s, e, hx, hr⟩ => by
    simp only [List.all_cons, Bool.and_eq_true] at ha
    exact ⟨v, s, e, hq x v ha.1 hx, low_list hq ha.2 hr⟩

theorem low_VR {C C2 : Ctx} {H : Array Obj} {m : Nat} (hI : C2.I = C.I) (ho : ∀ b u e, b < m → C2.own b u = some e → C.own b u = some e) (hl : ∀ b u, b < m → C.lim b u → C2.lim b u) :
    ∀ (x : AV) (v : Value), lowv m x = true → VR C H x v → VR C2 H x v := by
  have hsub : ISub C H C2 H := ⟨fun k h => by rw [hI]; exact h, fun _ _ => rfl⟩
  have hsl : ∀ b u off len v, b < m → VR C H (.sl b u off len) v → VR C2 H (.sl b u off len) v := fun b u off len v hb h => by
    unfold VR at h ⊢
    exact ⟨h.1, hl b u hb h.2.1, fun B id hob => h.2.2 B id (ho b u _ hb hob)⟩
  have hpt : ∀ b u off v, b < m → VR C H (.ptr b u off) v → VR C2 H (.ptr b u off) v := fun b u off v hb h => by
    unfold VR at h ⊢
    exact ⟨h.1, hl b u hb h.2.1, fun B id hob => h.2.2 B id (ho b u _ hb hob)⟩
  have hel : ∀ (x : AV) v, lowe m x = true → VR C H x v → VR C2 H x v := fun x v hx h => by
    cases x with
    | sl b u off len => exact hsl b u off len v (by simpa [lowe] using hx) h
    | ptr b u off => exact hpt b u off v (by simpa [lowe] using hx) h
    | und => unfold VR; trivial
    | _ => exact VR.free hsub _ _ (by simpa [lowe] using hx) h
  intro x v hx h
  cases x with
  | sl b u off len => exact hsl b u off len v (by simpa [lowv] using hx) h
  | ptr b u off => exact hpt b u off v (by simpa [lowv] using hx) h
  | und => unfold VR; trivial
  | arr l => simp [lowv] at hx
  | agg l =>
    unfold VR at h ⊢
    obtain ⟨vs, e, hl', hc⟩ := h
    exact ⟨vs, e, low_list hel hx hl', hc⟩
  | tup l =>
    unfold VR at h ⊢
    obtain ⟨vs, e, hl'⟩ := h
    exact ⟨vs, e, low_list hel hx hl'⟩
  | func f l =>
    unfold VR at h ⊢
    obtain ⟨vs, e, hl'⟩ := h
    exact ⟨vs, e, low_list hel hx hl'⟩
  | iface t y => exact VR.free hsub _ _ (by simpa [lowv, noLoc] using hx) h
  | imm nn l =>
    have : noLocs l = true := by unfold VR at h; exact h.1
    exact VR.free hsub _ _ (by simpa [noLoc] using this) h
  | pimm y =>
    have : noLoc y = true := by unfold VR at h; exact h.1
    exact VR.free hsub _ _ (by simpa [noLoc] using this) h
  | _ => exact VR.free hsub _ _ rfl h

theorem lowB_spec {n : Nat} : ∀ {m : Nat} {σ : List Blk}, lowB n m σ = true → ∀ b B, b < m → blk σ b = some B → B.cells.all (lowv n) = true
  | 0, _, _, b, _, hb, _ => absurd hb (Nat.not_lt_zero b)
  | m + 1, [], _, b, B, _, h => by simp [blk] at h
  | m + 1, B0 :: r, h, b, B, hb, hB => by
    simp only [lowB, Bool.and_eq_true] at h
    cases b with
    | zero => simp [blk] at hB; subst hB; exact h.1
    | succ b => exact lowB_spec h.2 b B (by omega) (by simpa [blk] using hB)

theorem blk_take {σ : List Blk} {m b : Nat} : blk (σ.take m) b = if b < m then blk σ b else none := by
  rw [blk_eq, blk_eq, List.getElem?_take]

theorem lex_ok {σ σ' : List Blk} {ids ids' : Nat → Nat} {I I' : Nat → Prop} {w w' : World} (hg : Good (ctxOf σ' ids' I') w') (hs : Step (ctxOf σ ids I) w (ctxOf σ' ids' I') w') (hl : lowB σ.length σ.length σ' = true) :
    Good (ctxOf (σ'.take σ.length) ids' I') w' ∧ Step (ctxOf σ ids I) w (ctxOf (σ'.take σ.length) ids' I') w' ∧ ∀ x v, lowv σ.length x = true → VR (ctxOf σ' ids' I') w'.heap x v → VR (ctxOf (σ'.take σ.length) ids' I') w'.heap x v := by
  have hown : ∀ b u e, (ctxOf (σ'.take σ.length) ids' I').own b u = some e → b < σ.length ∧ (ctxOf σ' ids' I').own b u = some e := fun b u e h => by
    simp only [ctxOf, blk_take] at h ⊢
    by_cases hb : b < σ.length
    · simp only [hb, if_true] at h; exact ⟨hb, h⟩
    · simp [hb] at h
  have hlim : ∀ b u, b < σ.length → (ctxOf σ' ids' I').lim b u → (ctxOf (σ'.take σ.length) ids' I').lim b u := fun b u hb ⟨B, h1, h2⟩ => ⟨B, by rw [blk_take, if_pos hb]; exact h1, h2⟩
  have low := low_VR (H := w'.heap) (m := σ.length) (C := ctxOf σ' ids' I') (C2 := ctxOf (σ'.take σ.length) ids' I') rfl (fun b u e _ h => (hown b u e h).2) hlim
  have hlt : ∀ b u, (ctxOf σ ids I).lim b u → b < σ.length := fun b u ⟨B, h1, _⟩ => by rw [blk_eq] at h1; exact (List.getElem?_eq_some_iff.1 h1).1
  refine ⟨⟨hg.I, fun b u B id ho => ?_, fun b u B id ho hlv => ?_, fun b1 u1 B1 i1 b2 u2 B2 i2 h1 l1 h2 l2 hne => hg.apart _ _ _ _ _ _ _ _ (hown _ _ _ h1).2 l1 (hown _ _ _ h2).2 l2 hne⟩,
    ⟨⟨hs.ev.imm, hs.ev.same, fun b u h => hlim b u (hlt b u h) (hs.ev.lim b u h), fun b u B' id h ho => hs.ev.own b u B' id h (hown _ _ _ ho).2⟩, hs.size, hs.frame, fun k ⟨b, u, B, h, hl⟩ => hs.ownOrig k ⟨b, u, B, (hown _ _ _ h).2, hl⟩, hs.immOrig, hs.os, hs.tape, hs.output⟩, low⟩
  · obtain ⟨hb, ho'⟩ := hown _ _ _ ho
    obtain ⟨h1, h2, h3, h4⟩ := hg.ent b u B id ho'
    exact ⟨hlim b u hb h1, h2, h3, h4⟩
  · obtain ⟨hb, ho'⟩ := hown _ _ _ ho
    obtain ⟨h1, c, el, h2, h3, h4⟩ := hg.live b u B id ho' hlv
    obtain ⟨_, hB, _⟩ := own_upto ho'
    have hall := lowB_spec hl b B hb hB
    refine ⟨h1, c, el, h2, h3, fun i x hi => ?_⟩
    obtain ⟨y, k1, k2, k3⟩ := h4 i x hi
    exact ⟨y, k1, low x y (List.all_eq_true.1 hall x (List.mem_of_getElem? hi)) k2, k3⟩
end Ab
