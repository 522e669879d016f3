/- One operation of a region in any order. Condition: none. -/
import Derived.Test.YtgaidfgpedibhaaAbDisp
set_option linter.all false
namespace Ab
open Go
variable {P : Program}

namespace RC
variable (X : RC P)
theorem eff_order {i j : Nat} (hi : effAt X.ls i = true) (hj : effAt X.ls j = true) (hlt : j < i) : bfr X.draw X.bf j i = true := by
  have hil : i < X.ls.length := by
    unfold effAt at hi
    cases hl : X.ls[i]? with
    | none => simp [hl] at hi
    | some l => exact (List.getElem?_eq_some_iff.1 hl).1
  obtain ⟨o, l, ho, hl, hF⟩ := X.at_ hil
  have h := hF.eff
  have he : (l.op.isE || l.op.isW) = true := by simpa [effAt, hl] using hi
  simp only [okEff, he, if_true, Bool.and_eq_true, List.all_eq_true, List.mem_range, Bool.or_eq_true, Bool.not_eq_true'] at h
  rcases h.2 j hlt with h | h
  · rw [hj] at h; simp at h
  · exact h
theorem eAt_eff {i : Nat} (h : eAt X.ls i = true) : effAt X.ls i = true := by
  unfold eAt at h; unfold effAt
  cases hl : X.ls[i]? with
  | none => simp [hl] at h
  | some l => simp only [hl, Bool.and_eq_true] at h ⊢; simp [h.1]
theorem noEff_spec {p q : Nat} (h : noEff X.ls p q = true) : ∀ j, p ≤ j → j < q → effAt X.ls j = false := fun j h1 h2 => by
  simp only [noEff, List.all_eq_true, List.mem_range, Bool.or_eq_true, Bool.not_eq_true', decide_eq_false_iff_not] at h
  rcases h j h2 with h | h
  · exact absurd h1 h
  · exact h
end RC

section
variable {X : RC P} {C0 : Ctx} {w0 : World} {ds : List Deferred} {D : Nat → Prop} {C : Ctx} {f : Nat} {a : Act} {w : World} {i : Nat}

/-- Before an effect, all effects before it and no other are done. -/
theorem Inv.front (h : Inv X C0 w0 ds D C f a w) (hD : ¬ D i) (hb : ∀ j, bfr X.draw X.bf j i = true → D j) (he : effAt X.ls i = true) : f ≤ i ∧ ∀ j, f ≤ j → j < i → effAt X.ls j = false := by
  refine ⟨Nat.le_of_not_lt fun hlt => hD (h.lo i hlt he), fun j h1 h2 => ?_⟩
  cases hj : effAt X.ls j with
  | false => rfl
  | true => exact absurd (hb j (X.eff_order he hj h2)) (h.hi j h1 hj)
theorem Inv.now (h : Inv X C0 w0 ds D C f a w) (hi : i < X.ls.length) (hD : ¬ D i) (hb : ∀ j, bfr X.draw X.bf j i = true → D j) (he : effAt X.ls i = true) : (X.st i).σ = (X.st f).σ := by
  obtain ⟨h1, h2⟩ := h.front hD hb he
  exact (X.same' h1 (Nat.le_of_lt hi) h2).1
theorem Inv.effs (h : Inv X C0 w0 ds D C f a w) (hD : ¬ D i) (hb : ∀ j, bfr X.draw X.bf j i = true → D j) (he : effAt X.ls i = true) :
    (∀ e, e < i + 1 → effAt X.ls e = true → D e ∨ e = i) ∧ ∀ e, i + 1 ≤ e → effAt X.ls e = true → ¬ (D e ∨ e = i) := by
  refine ⟨fun e h1 h2 => ?_, fun e h1 h2 h3 => ?_⟩
  · rcases Nat.lt_or_ge e i with hlt | hge
    · exact .inl (hb e (X.eff_order he h2 hlt))
    · exact .inr (by omega)
  · rcases h3 with h3 | h3
    · exact hD (h.closed _ _ h3 (X.eff_order h2 he (by omega)))
    · omega
theorem Inv.noeffs (h : Inv X C0 w0 ds D C f a w) (he : effAt X.ls i = false) :
    (∀ e, e < f → effAt X.ls e = true → D e ∨ e = i) ∧ ∀ e, f ≤ e → effAt X.ls e = true → ¬ (D e ∨ e = i) := by
  refine ⟨fun e h1 h2 => .inl (h.lo e h1 h2), fun e h1 h2 h3 => ?_⟩
  rcases h3 with h3 | rfl
  · exact h.hi e h1 h2 h3
  · rw [he] at h2; simp at h2

/-- A reading line sees the blocks that it looks at. -/
theorem Inv.sees (h : Inv X C0 w0 ds D C f a w) (hi : i < X.ls.length) (hD : ¬ D i) (hb : ∀ j, bfr X.draw X.bf j i = true → D j) {o : Oper} {l : Ln} (hl : X.ls[i]? = some l) (hF : Facts X i o l)
    (hE : l.op.isE = false) (hW : l.op.isW = false) (hP : l.op.isP = false) : Seen C (if l.prev then (X.st i).σp else (X.st i).σ) := by
  have hr := hF.read
  simp only [okRead, hE, hW, hP, Bool.or_self, Bool.false_eq_true, if_false, Bool.and_eq_true, List.all_eq_true, List.mem_range] at hr
  obtain ⟨hr1, hr2⟩ := hr
  generalize hv : verOf X.ls i l = v at hr1 hr2
  have hvi : v ≤ i := by
    by_cases hp : l.prev = true
    · simp only [hp, if_true, Bool.and_eq_true, decide_eq_true_eq] at hr1
      omega
    · have : v = i := by rw [← hv]; simp [verOf, hp]
      omega
  have hσ : (if l.prev then (X.st i).σp else (X.st i).σ) = (X.st v).σ := by
    by_cases hp : l.prev = true
    · simp only [hp, if_true, Bool.and_eq_true, decide_eq_true_eq] at hr1 ⊢
      obtain ⟨⟨q1, q2⟩, q3⟩ := hr1
      have h1 := (X.same' (p := v + 1) (q := i) (by omega) (Nat.le_of_lt hi) (X.noEff_spec q3)).2
      rw [h1]
      obtain ⟨ov, lv, _, hlv, hFv⟩ := X.at_ (show v < X.ls.length by omega)
      have hrun := X.run v lv hlv
      simp only [eAt, hlv, Bool.and_eq_true, Option.isNone_iff_eq_none] at q2
      have hef := hFv.eff
      simp only [okEff, q2.1, Bool.true_or, if_true, Bool.and_eq_true, Bool.not_eq_true'] at hef
      unfold line1 at hrun
      simp only [q2.2, want] at hrun
      have hW : lv.op.isW = false := by revert q2; cases lv.op <;> simp [IOp.isE, IOp.isW]
      rw [if_neg (by rw [hW]; simp)] at hrun
      split at hrun
      · simp only [q2.1, if_true, Option.some.injEq] at hrun; rw [← hrun]
      · simp only [Option.some.injEq] at hrun; rw [← hrun]
      · simp at hrun
    · have : v = i := by rw [← hv]; simp [verOf, hp]
      simp [hp, this]
  rw [hσ]
  have hin : ∀ j, effAt X.ls j = true → j < X.ls.length := fun j hj => by
    unfold effAt at hj
    cases hl : X.ls[j]? with
    | none => simp [hl] at hj
    | some l => exact (List.getElem?_eq_some_iff.1 hl).1
  have key : ∀ j, effAt X.ls j = true → if j < v then bfr X.draw X.bf j i = true else bfr X.draw X.bf i j = true ∨ (eAt X.ls j = true ∧ noEff X.ls v j = true) := fun j hj => by
    have := hr2 j (hin j hj)
    simp only [hj, Bool.not_true, Bool.false_or] at this
    by_cases hlt : j < v
    · simpa [hlt] using this
    · simp only [hlt, if_false, Bool.or_eq_true, Bool.and_eq_true] at this ⊢
      exact this.imp (fun q => q) fun q => ⟨q.1.2, q.2⟩
  rcases Nat.lt_or_ge v f with hvf | hvf
  · obtain ⟨e1, e2⟩ := h.last (by omega)
    have hd := h.lo (f - 1) (by omega) e1
    have := key (f - 1) e1
    rw [if_neg (by omega)] at this
    rcases this with k | ⟨k1, k2⟩
    · exact absurd (h.closed _ _ hd k) hD
    · have h3 := (X.same' (p := v) (q := f - 1) (by omega) (by have := h.fle; omega) (X.noEff_spec k2)).1
      rw [← h3]
      exact e2 k1
  · have h3 := (X.same' (p := f) (q := v) hvf (by omega) fun j j1 j2 => by
      cases hj : effAt X.ls j with
      | false => rfl
      | true =>
        have := key j hj
        rw [if_pos j2] at this
        exact absurd (hb j this) (h.hi j j1 hj)).1
    rw [h3]
    exact h.shows.seen
end
end Ab
