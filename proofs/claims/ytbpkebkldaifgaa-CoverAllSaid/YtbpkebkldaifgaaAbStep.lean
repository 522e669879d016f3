/- One operation of a region in any order. Condition: none. -/
import Derived.Test.YtbpkebkldaifgaaAbDisp
set_option linter.all false
namespace Ab
open Go
variable {P : Program}

namespace RC
variable (X : RC P)
theorem eff_lt {i : Nat} (hi : effAt X.ls i = true) : i < X.ls.length := by
  unfold effAt at hi
  cases hl : X.ls[i]? with
  | none => simp [hl] at hi
  | some l => exact (List.getElem?_eq_some_iff.1 hl).1
theorem inG_iff {k : Nat} : inG X.ls X.draw X.bf k = true ↔ (∃ j, j ≤ k ∧ looseL X.ls X.draw X.bf j = true) ∧ ∃ i, i < X.ls.length ∧ k ≤ i ∧ looseR X.ls X.draw X.bf i = true := by
  simp only [inG, Bool.and_eq_true, List.any_eq_true, List.mem_range, decide_eq_true_eq]
  constructor
  · rintro ⟨⟨j, h1, h2⟩, i, h3, h4, h5⟩; exact ⟨⟨j, by omega, h2⟩, i, h3, h4, h5⟩
  · rintro ⟨⟨j, h1, h2⟩, i, h3, h4, h5⟩; exact ⟨⟨j, by omega, h2⟩, i, h3, h4, h5⟩
theorem eff_order {i j : Nat} (hi : effAt X.ls i = true) (hj : effAt X.ls j = true) (hlt : j < i) : bfr X.draw X.bf j i = true ∨ inG X.ls X.draw X.bf j = true ∧ inG X.ls X.draw X.bf i = true := by
  cases hb : bfr X.draw X.bf j i with
  | true => exact .inl rfl
  | false =>
    have hl : loose X.ls X.draw X.bf j i = true := by simp [loose, hi, hj, hlt, hb]
    have h1 : looseL X.ls X.draw X.bf j = true := List.any_eq_true.2 ⟨i, List.mem_range.2 (X.eff_lt hi), hl⟩
    have h2 : looseR X.ls X.draw X.bf i = true := List.any_eq_true.2 ⟨j, List.mem_range.2 (X.eff_lt hj), hl⟩
    exact .inr ⟨X.inG_iff.2 ⟨⟨j, Nat.le_refl _, h1⟩, i, X.eff_lt hi, by omega, h2⟩, X.inG_iff.2 ⟨⟨j, by omega, h1⟩, i, X.eff_lt hi, Nat.le_refl _, h2⟩⟩
theorem free_of {i : Nat} (hi : effAt X.ls i = true) (hg : inG X.ls X.draw X.bf i = true) : freeAt X.ls i = true := by
  obtain ⟨o, l, ho, hl, hF⟩ := X.at_ (X.eff_lt hi)
  have h := hF.eff
  have he : (l.op.isE || l.op.isW) = true := by simpa [effAt, hl] using hi
  simp only [okEff, he, if_true, Bool.and_eq_true, hg, Bool.not_true, Bool.false_or] at h
  exact h.2
theorem least {p : Nat → Prop} : ∀ n, p n → ∃ m, p m ∧ ∀ k, k < m → ¬ p k := by
  intro n
  induction n using Nat.strongRecOn with
  | _ n ih =>
    intro h
    by_cases hx : ∃ k, k < n ∧ p k
    · obtain ⟨k, h1, h2⟩ := hx; exact ih k h1 h2
    · exact ⟨n, h, fun k hk hp => hx ⟨k, hk, hp⟩⟩
theorem greatest {p : Nat → Prop} {L : Nat} (hL : ∀ k, p k → k < L) {n : Nat} (h : p n) : ∃ m, p m ∧ ∀ k, m < k → ¬ p k := by
  obtain ⟨d, h1, h2⟩ := least (p := fun d => d ≤ L ∧ p (L - d)) (L - n) ⟨by omega, by have := hL n h; rwa [show L - (L - n) = n by omega]⟩
  refine ⟨L - d, h1.2, fun k hk hp => ?_⟩
  have := hL k hp
  exact h2 (L - k) (by omega) ⟨by omega, by rwa [show L - (L - k) = k by omega]⟩
theorem grp {k : Nat} (h : inG X.ls X.draw X.bf k = true) : ∃ lo hi, (∀ k, inG X.ls X.draw X.bf k = true ↔ lo ≤ k ∧ k ≤ hi) ∧ effAt X.ls hi = true ∧ lo ≤ hi := by
  obtain ⟨⟨j, _, h1⟩, i, h3, _, h4⟩ := X.inG_iff.1 h
  have effR : ∀ i, looseR X.ls X.draw X.bf i = true → effAt X.ls i = true ∧ ∃ j, j < i ∧ looseL X.ls X.draw X.bf j = true := fun i hi => by
    obtain ⟨j, _, hl⟩ := List.any_eq_true.1 hi
    have hl' := hl
    simp only [loose, Bool.and_eq_true, decide_eq_true_eq] at hl
    exact ⟨hl.1.1.2, j, hl.1.2, List.any_eq_true.2 ⟨i, List.mem_range.2 (X.eff_lt hl.1.1.2), hl'⟩⟩
  obtain ⟨lo, l1, l2⟩ := least (p := fun j => looseL X.ls X.draw X.bf j = true) j h1
  obtain ⟨hi, g1, g2⟩ := greatest (p := fun i => looseR X.ls X.draw X.bf i = true) (L := X.ls.length) (fun k hk => X.eff_lt (effR k hk).1) h4
  obtain ⟨e1, j', e2, e3⟩ := effR hi g1
  have hle : lo ≤ hi := by
    have : ¬ j' < lo := fun hlt => l2 j' hlt e3
    omega
  refine ⟨lo, hi, fun k => X.inG_iff.trans ⟨?_, ?_⟩, e1, hle⟩
  · rintro ⟨⟨j, a1, a2⟩, i, _, b1, b2⟩
    have c1 : ¬ j < lo := fun hlt => l2 j hlt a2
    have c2 : ¬ hi < i := fun hlt => g2 i hlt b2
    omega
  · rintro ⟨a1, a2⟩
    exact ⟨⟨lo, a1, l1⟩, hi, X.eff_lt e1, a2, g1⟩
/-- What a free operation is. -/
theorem free_spec {i : Nat} {l : Ln} (hl : X.ls[i]? = some l) (h : freeAt X.ls i = true) : l.g = none ∧ l.op.isE = true ∧ l.op.isW = false ∧ l.op.isIni = false ∧ (∀ ce σ σ' nl ps r, ev ce σ nl ps r l.op = ev ce σ' nl ps r l.op) ∧
    ∀ ce σ nl ps r x p, ev ce σ nl ps r l.op = some (x, p) → ((∀ f as, l.op ≠ .can f as) ∧ ∃ B, p = some (.new B)) ∨ ∃ bs, p = some (.news bs) := by
  simp only [freeAt, hl, Bool.and_eq_true, Option.isNone_iff_eq_none] at h
  obtain ⟨h1, h2⟩ := h
  split at h2
  · rename_i hop
    rw [hop]
    refine ⟨h1, rfl, rfl, rfl, fun _ _ _ _ _ _ => rfl, fun ce σ nl ps r x p he => .inl ⟨by simp, ?_⟩⟩
    simp only [ev] at he
    split at he <;> try (simp at he; done)
    split at he <;> simp at he
    exact ⟨_, he.2.symm⟩
  · rename_i hop
    rw [hop]
    refine ⟨h1, rfl, rfl, rfl, fun _ _ _ _ _ _ => rfl, fun ce σ nl ps r x p he => .inr ?_⟩
    simp only [ev] at he
    split at he <;> try (simp at he; done)
    split at he <;> simp at he
    exact ⟨_, he.2.symm⟩
  · rename_i hop
    rw [hop]
    refine ⟨h1, rfl, rfl, rfl, fun _ _ _ _ _ _ => rfl, fun ce σ nl ps r x p he => .inl ⟨by simp, ?_⟩⟩
    simp only [ev] at he
    split at he <;> simp at he
    exact ⟨_, he.2.symm⟩
  · simp at h2
/-- It adds blocks. -/
theorem free_adds {i : Nat} (he : effAt X.ls i = true) (hg : inG X.ls X.draw X.bf i = true) : ∃ l, (X.st (i + 1)).σ = (X.st i).σ ++ l := by
  obtain ⟨o, l, ho, hl, hF⟩ := X.at_ (X.eff_lt he)
  obtain ⟨h1, h2, h3, _, _, h4⟩ := X.free_spec hl (X.free_of he hg)
  have hr := X.run i l hl
  unfold line1 at hr
  simp only [h1, want, h3, Bool.false_eq_true, if_false] at hr
  split at hr
  · rename_i v hev
    rcases h4 _ _ _ _ _ _ _ hev with ⟨_, B, hB⟩ | ⟨bs, hB⟩ <;> simp at hB
  · rename_i v p hev
    simp only [Option.some.injEq] at hr
    rw [← hr]
    rcases h4 _ _ _ _ _ _ _ hev with ⟨_, B, hB⟩ | ⟨bs, hB⟩
    · simp at hB; subst hB; exact ⟨_, rfl⟩
    · simp at hB; subst hB; exact ⟨_, rfl⟩
  · simp at hr
/-- In the group, the blocks before stay in front. -/
theorem pre {lo hi : Nat} (hgr : ∀ k, inG X.ls X.draw X.bf k = true ↔ lo ≤ k ∧ k ≤ hi) {p : Nat} : ∀ (n : Nat), lo ≤ p → p + n ≤ hi + 1 → p + n ≤ X.ls.length → ∃ l, (X.st (p + n)).σ = (X.st p).σ ++ l
  | 0, _, _, _ => ⟨[], by simp⟩
  | n + 1, h1, h2, h3 => by
    obtain ⟨l, hl⟩ := pre hgr n h1 (by omega) (by omega)
    cases he : effAt X.ls (p + n) with
    | true =>
      obtain ⟨l', hl'⟩ := X.free_adds he ((hgr _).2 ⟨by omega, by omega⟩)
      exact ⟨l ++ l', by rw [show p + (n + 1) = p + n + 1 by omega, hl', hl, List.append_assoc]⟩
    | false =>
      obtain ⟨o, l', ho, hl', hF⟩ := X.at_ (show p + n < X.ls.length by omega)
      exact ⟨l, by rw [show p + (n + 1) = p + n + 1 by omega, (X.still hl' he).1, hl]⟩
theorem pre' {lo hi p q : Nat} (hgr : ∀ k, inG X.ls X.draw X.bf k = true ↔ lo ≤ k ∧ k ≤ hi) (h1 : lo ≤ p) (h2 : p ≤ q) (h3 : q ≤ hi + 1) (h4 : q ≤ X.ls.length) : ∃ l, (X.st q).σ = (X.st p).σ ++ l := by
  have := X.pre hgr (p := p) (q - p) h1 (by omega) (by omega)
  rwa [show p + (q - p) = q by omega] at this
theorem pre_len {lo hi p q : Nat} (hgr : ∀ k, inG X.ls X.draw X.bf k = true ↔ lo ≤ k ∧ k ≤ hi) (h1 : lo ≤ p) (h2 : p ≤ q) (h3 : q ≤ hi + 1) (h4 : q ≤ X.ls.length) : (X.st p).σ.length ≤ (X.st q).σ.length := by
  obtain ⟨l, hl⟩ := X.pre' hgr h1 h2 h3 h4
  rw [hl]; simp
/-- Every block of the group is that of one of its effects. -/
theorem seg {lo hi : Nat} (hgr : ∀ k, inG X.ls X.draw X.bf k = true ↔ lo ≤ k ∧ k ≤ hi) {b : Nat} : ∀ (n : Nat), lo + n ≤ hi + 1 → lo + n ≤ X.ls.length → b < (X.st (lo + n)).σ.length → b < (X.st lo).σ.length ∨ ∃ i, lo ≤ i ∧ i < lo + n ∧ effAt X.ls i = true ∧ (X.st i).σ.length ≤ b ∧ b < (X.st (i + 1)).σ.length
  | 0, _, _, h => .inl h
  | n + 1, h1, h2, h => by
    by_cases hb : b < (X.st (lo + n)).σ.length
    · rcases seg hgr n (by omega) (by omega) hb with h | ⟨i, a1, a2, a3⟩
      · exact .inl h
      · exact .inr ⟨i, a1, by omega, a3⟩
    · cases he : effAt X.ls (lo + n) with
      | true => exact .inr ⟨lo + n, by omega, by omega, he, by omega, h⟩
      | false =>
        obtain ⟨o, l', ho, hl', hF⟩ := X.at_ (show lo + n < X.ls.length by omega)
        rw [show lo + (n + 1) = lo + n + 1 by omega, (X.still hl' he).1] at h
        omega
theorem eAt_eff {i : Nat} (h : eAt X.ls i = true) : effAt X.ls i = true := by
  unfold eAt at h; unfold effAt
  cases hl : X.ls[i]? with
  | none => simp [hl] at h
  | some l => simp only [hl, Bool.and_eq_true] at h ⊢; simp [h.1]
theorem noEff_spec {p q : Nat} (h : noEff X.ls p q = true) : ∀ j, p ≤ j → j < q → effAt X.ls j = false := fun j h1 h2 => by
  simp only [noEff, List.all_eq_true, List.mem_range, Bool.or_eq_true, Bool.not_eq_true', decide_eq_false_iff_not] at h
  rcases h j h2 with h | h
  · exact absurd h1 h
  · exact h
end RC

section
variable {X : RC P} {C0 : Ctx} {w0 : World} {ds : List Deferred} {D : Nat → Prop} {C : Ctx} {f : Nat} {a : Act} {w : World} {i : Nat}

/-- Before an effect that is not in the group, all effects before it and no other are done. -/
theorem FrontN.front (h : FrontN X D C f) (hD : ¬ D i) (hb : ∀ j, bfr X.draw X.bf j i = true → D j) (he : effAt X.ls i = true) (hng : inG X.ls X.draw X.bf i = false) : f ≤ i ∧ ∀ j, f ≤ j → j < i → effAt X.ls j = false := by
  refine ⟨Nat.le_of_not_lt fun hlt => hD (h.lo i hlt he), fun j h1 h2 => ?_⟩
  cases hj : effAt X.ls j with
  | false => rfl
  | true =>
    rcases X.eff_order he hj h2 with hq | hq
    · exact absurd (hb j hq) (h.hi j h1 hj)
    · rw [hng] at hq; simp at hq
theorem FrontN.effs (h : FrontN X D C f) (hf : f ≤ i) (hn : ∀ j, f ≤ j → j < i → effAt X.ls j = false) :
    (∀ e, e < i + 1 → effAt X.ls e = true → D e ∨ e = i) ∧ ∀ e, i + 1 ≤ e → effAt X.ls e = true → ¬ (D e ∨ e = i) := by
  refine ⟨fun e h1 h2 => ?_, fun e h1 h2 h3 => ?_⟩
  · rcases Nat.lt_or_ge e i with hlt | hge
    · rcases Nat.lt_or_ge e f with hl | hg
      · exact .inl (h.lo e hl h2)
      · rw [hn e hg hlt] at h2; simp at h2
    · exact .inr (by omega)
  · rcases h3 with h3 | h3
    · exact h.hi e (by omega) h2 h3
    · omega
theorem ctxOf_pre {σ l : List Blk} {ids : Nat → Nat} {I : Nat → Prop} {b u : Nat} (hb : b < σ.length) : (ctxOf (σ ++ l) ids I).own b u = (ctxOf σ ids I).own b u ∧ ((ctxOf (σ ++ l) ids I).lim b u ↔ (ctxOf σ ids I).lim b u) := by
  have e : blk (σ ++ l) b = blk σ b := by rw [blk_eq, blk_eq, List.getElem?_append_left hb]
  simp only [ctxOf, e, and_self]
theorem lim_lt {σ : List Blk} {ids : Nat → Nat} {I : Nat → Prop} {b u : Nat} (h : (ctxOf σ ids I).lim b u) : b < σ.length := by
  obtain ⟨B, h1, _⟩ := h
  rw [blk_eq] at h1; exact (List.getElem?_eq_some_iff.1 h1).1
/-- The group begins. -/
theorem FrontN.group (h : FrontN X D C f) (hD : ¬ D i) (hb : ∀ j, bfr X.draw X.bf j i = true → D j) (he : effAt X.ls i = true) (hg : inG X.ls X.draw X.bf i = true) : ∃ lo hi, FrontG X D C lo hi := by
  obtain ⟨lo, hi, g1, g2, g3⟩ := X.grp hg
  have hi1 := (g1 i).1 hg
  have hfi : f ≤ i := Nat.le_of_not_lt fun hlt => hD (h.lo i hlt he)
  have hhl := X.eff_lt g2
  have hbef : ∀ e, e < lo → effAt X.ls e = true → D e := fun e h1 h2 => by
    rcases X.eff_order he h2 (by omega) with hq | hq
    · exact hb e hq
    · have := (g1 e).1 hq.1; omega
  have hbeh : ∀ e, hi < e → effAt X.ls e = true → ¬ D e := fun e h1 h2 => h.hi e (by omega) h2
  -- the blocks now
  obtain ⟨q, q1, q2, q3, q4⟩ : ∃ q, lo ≤ q ∧ q ≤ hi + 1 ∧ (X.st f).σ = (X.st q).σ ∧ ∀ e, effAt X.ls e = true → lo ≤ e → (D e ↔ e < q) := by
    rcases Nat.lt_or_ge f lo with hlt | hge
    · refine ⟨lo, Nat.le_refl _, by omega, ((X.same' (p := f) (q := lo) (by omega) (by omega) fun k k1 k2 => ?_).1).symm, fun e h1 h2 => ⟨fun hd => absurd hd (h.hi e (by omega) h1), fun h3 => by omega⟩⟩
      cases hk : effAt X.ls k with
      | false => rfl
      | true => exact absurd (hbef k k2 hk) (h.hi k k1 hk)
    · exact ⟨f, hge, by omega, rfl, fun e h1 h2 => ⟨fun hd => Nat.lt_of_not_le fun h3 => h.hi e h3 h1 hd, fun h3 => h.lo e h3 h1⟩⟩
  have hal : ∀ b, alive X D lo b ↔ b < (X.st f).σ.length := fun b => by
    rw [q3]
    constructor
    · rintro (h1 | ⟨k, k1, k2, k3, k4, k5⟩)
      · have := X.pre_len g1 (Nat.le_refl lo) q1 q2 (by omega); omega
      · have a1 := (g1 k).1 k2
        have a2 := (q4 k k1 a1.1).1 k3
        have := X.pre_len g1 (p := k + 1) (q := q) (by omega) (by omega) q2 (by omega)
        omega
    · intro h1
      have h1' : b < (X.st (lo + (q - lo))).σ.length := by rwa [show lo + (q - lo) = q by omega]
      rcases X.seg g1 (q - lo) (by omega) (by omega) h1' with h2 | ⟨k, k1, k2, k3, k4, k5⟩
      · exact .inl h2
      · exact .inr ⟨k, k3, (g1 k).2 ⟨k1, by omega⟩, (q4 k k3 k1).2 (by omega), k4, k5⟩
  obtain ⟨l, hl⟩ := X.pre' g1 q1 q2 (Nat.le_refl _) (by omega)
  rw [← q3] at hl
  obtain ⟨ids, s1, s2⟩ := h.shows
  refine ⟨lo, hi, g1, g2, g3, hbef, hbeh, ids, fun b u e ha ho => ?_, fun b u hlim => ?_⟩
  · rw [hl, (ctxOf_pre ((hal b).1 ha)).1] at ho
    exact s1 b u e ho
  · have := s2 b u hlim
    have hlt := lim_lt this
    exact ⟨(hal b).2 hlt, by rw [hl]; exact (ctxOf_pre hlt).2.2 this⟩
/-- The group is done. -/
theorem FrontG.done {lo hi : Nat} (h : FrontG X D C lo hi) (hall : ∀ k, effAt X.ls k = true → inG X.ls X.draw X.bf k = true → D k) : FrontN X D C (hi + 1) := by
  have hhl := X.eff_lt h.ehi
  have hle := h.le
  have hal : ∀ b, b < (X.st (hi + 1)).σ.length → alive X D lo b := fun b hb => by
    have h1' : b < (X.st (lo + (hi + 1 - lo))).σ.length := by rwa [show lo + (hi + 1 - lo) = hi + 1 by omega]
    rcases X.seg h.grp (hi + 1 - lo) (by omega) (by omega) h1' with h2 | ⟨k, k1, k2, k3, k4, k5⟩
    · exact .inl h2
    · have hg := (h.grp k).2 ⟨k1, by omega⟩
      exact .inr ⟨k, k3, hg, hall k k3 hg, k4, k5⟩
  obtain ⟨ids, s1, s2⟩ := h.shows
  have hsh : Shows C (X.st (hi + 1)).σ := by
    refine ⟨ids, fun b u e ho => ?_, fun b u hl => (s2 b u hl).2⟩
    have hlt : b < (X.st (hi + 1)).σ.length := by
      cases hq : blk (X.st (hi + 1)).σ b with
      | none => simp [ctxOf, hq] at ho
      | some B => rw [blk_eq] at hq; exact (List.getElem?_eq_some_iff.1 hq).1
    exact s1 b u e (hal b hlt) ho
  refine ⟨by omega, fun e h1 h2 => ?_, fun e h1 h2 => h.behind e (by omega) h2, hsh, fun _ => ⟨by rw [Nat.add_sub_cancel]; exact h.ehi, fun _ => ?_⟩⟩
  · by_cases hlt : e < lo
    · exact h.before e hlt h2
    · exact hall e h2 ((h.grp e).2 ⟨by omega, by omega⟩)
  · rw [Nat.add_sub_cancel]
    intro b u B hu
    obtain ⟨l, hl⟩ := X.pre' h.grp (p := hi) (q := hi + 1) hle (by omega) (Nat.le_refl _) (by omega)
    obtain ⟨k1, k2, k3⟩ := upto_blk hu
    have hlt : b < (X.st hi).σ.length := by rw [blk_eq] at k1; exact (List.getElem?_eq_some_iff.1 k1).1
    refine hsh.seen b u B ?_
    rw [hl]
    unfold upto
    rw [show blk ((X.st hi).σ ++ l) b = blk (X.st hi).σ b by rw [blk_eq, blk_eq, List.getElem?_append_left hlt]]
    exact hu
/-- Before an effect that is not in the group, the group is not under way. -/
theorem Front.norm (h : Front X D C f) (hD : ¬ D i) (hb : ∀ j, bfr X.draw X.bf j i = true → D j) (he : effAt X.ls i = true) (hng : inG X.ls X.draw X.bf i = false) : ∃ f, FrontN X D C f := by
  rcases h with hN | ⟨lo, hi, hG, _⟩
  · exact ⟨_, hN⟩
  · have hle := hG.le
    have hi' : hi < i := by
      have h1 : ¬ (lo ≤ i ∧ i ≤ hi) := fun h => by rw [(hG.grp i).2 h] at hng; simp at hng
      have h2 : ¬ i < lo := fun h => hD (hG.before i h he)
      omega
    refine ⟨_, hG.done fun k hk hg => ?_⟩
    have := (hG.grp k).1 hg
    rcases X.eff_order he hk (by omega) with hq | hq
    · exact hb k hq
    · rw [hng] at hq; simp at hq
theorem Front.grp (h : Front X D C f) (hD : ¬ D i) (hb : ∀ j, bfr X.draw X.bf j i = true → D j) (he : effAt X.ls i = true) (hg : inG X.ls X.draw X.bf i = true) : ∃ lo hi, FrontG X D C lo hi := by
  rcases h with hN | ⟨lo, hi, hG, _⟩
  · exact hN.group hD hb he hg
  · exact ⟨lo, hi, hG⟩

/-- A reading line sees the blocks that it looks at. -/
theorem Inv.sees (h : Inv X C0 w0 ds D C f a w) (hi : i < X.ls.length) (hD : ¬ D i) (hb : ∀ j, bfr X.draw X.bf j i = true → D j) {o : Oper} {l : Ln} (hl : X.ls[i]? = some l) (hF : Facts X i o l)
    (hE : l.op.isE = false) (hW : l.op.isW = false) (hP : l.op.isP = false) : Seen C (if l.prev then (X.st i).σp else (X.st i).σ) := by
  have hr := hF.read
  simp only [okRead, hE, hW, hP, Bool.or_self, Bool.false_eq_true, if_false, Bool.and_eq_true, List.all_eq_true, List.mem_range] at hr
  obtain ⟨hr1, hr2⟩ := hr
  generalize hv : verOf X.ls i l = v at hr1 hr2
  have hvi : v ≤ i := by
    by_cases hp : l.prev = true
    · simp only [hp, if_true, Bool.and_eq_true, decide_eq_true_eq] at hr1
      omega
    · have : v = i := by rw [← hv]; simp [verOf, hp]
      omega
  have hσ : (if l.prev then (X.st i).σp else (X.st i).σ) = (X.st v).σ := by
    by_cases hp : l.prev = true
    · simp only [hp, if_true, Bool.and_eq_true, decide_eq_true_eq] at hr1 ⊢
      obtain ⟨⟨q1, q2⟩, q3⟩ := hr1
      have h1 := (X.same' (p := v + 1) (q := i) (by omega) (Nat.le_of_lt hi) (X.noEff_spec q3)).2
      rw [h1]
      obtain ⟨ov, lv, _, hlv, hFv⟩ := X.at_ (show v < X.ls.length by omega)
      have hrun := X.run v lv hlv
      simp only [eAt, hlv, Bool.and_eq_true, Option.isNone_iff_eq_none] at q2
      have hef := hFv.eff
      simp only [okEff, q2.1, Bool.true_or, if_true, Bool.and_eq_true, Bool.not_eq_true'] at hef
      unfold line1 at hrun
      simp only [q2.2, want] at hrun
      have hW : lv.op.isW = false := by revert q2; cases lv.op <;> simp [IOp.isE, IOp.isW]
      rw [if_neg (by rw [hW]; simp)] at hrun
      split at hrun
      · simp only [q2.1, if_true, Option.some.injEq] at hrun; rw [← hrun]
      · simp only [Option.some.injEq] at hrun; rw [← hrun]
      · simp at hrun
    · have : v = i := by rw [← hv]; simp [verOf, hp]
      simp [hp, this]
  rw [hσ]
  have hin : ∀ j, effAt X.ls j = true → j < X.ls.length := fun j hj => by
    unfold effAt at hj
    cases hl : X.ls[j]? with
    | none => simp [hl] at hj
    | some l => exact (List.getElem?_eq_some_iff.1 hl).1
  have key : ∀ j, effAt X.ls j = true → if j < v then bfr X.draw X.bf j i = true else bfr X.draw X.bf i j = true ∨ (eAt X.ls j = true ∧ noEff X.ls v j = true) := fun j hj => by
    have := hr2 j (hin j hj)
    simp only [hj, Bool.not_true, Bool.false_or] at this
    by_cases hlt : j < v
    · simpa [hlt] using this
    · simp only [hlt, if_false, Bool.or_eq_true, Bool.and_eq_true] at this ⊢
      exact this.imp (fun q => q) fun q => ⟨q.1.2, q.2⟩
  rcases h.fr with hN | ⟨lo, hi, hS, k0, y1, y2, y3⟩
  · rcases Nat.lt_or_ge v f with hvf | hvf
    · obtain ⟨e1, e2⟩ := hN.last (by omega)
      have hd := hN.lo (f - 1) (by omega) e1
      have := key (f - 1) e1
      rw [if_neg (by omega)] at this
      rcases this with k | ⟨k1, k2⟩
      · exact absurd (h.closed _ _ hd k) hD
      · have h3 := (X.same' (p := v) (q := f - 1) (by omega) (by have := hN.fle; omega) (X.noEff_spec k2)).1
        rw [← h3]
        exact e2 k1
    · have h3 := (X.same' (p := f) (q := v) hvf (by omega) fun j j1 j2 => by
        cases hj : effAt X.ls j with
        | false => rfl
        | true =>
          have := key j hj
          rw [if_pos j2] at this
          exact absurd (hb j this) (hN.hi j j1 hj)).1
      rw [h3]
      exact hN.shows.seen
  · -- all effects before v are done; of those behind it at most the first one
    have hle := hS.le
    have hhl := X.eff_lt hS.ehi
    have k1 : ∀ e, effAt X.ls e = true → e < v → D e := fun e he hlt => by
      have := key e he
      rw [if_pos hlt] at this
      exact hb e this
    have k2 : ∀ e, effAt X.ls e = true → D e → v ≤ e → noEff X.ls v e = true := fun e he hd hle => by
      have := key e he
      rw [if_neg (by omega)] at this
      rcases this with hq | hq
      · exact absurd (h.closed _ _ hd hq) hD
      · exact hq.2
    by_cases hv2 : hi < v
    · have hN := hS.done fun k hk hg => k1 k hk (by have := (hS.grp k).1 hg; omega)
      rw [(X.same' (p := hi + 1) (q := v) (by omega) (by omega) fun j j1 j2 => by
        cases hj : effAt X.ls j with
        | false => rfl
        | true => exact absurd (k1 j hj j2) (hS.behind j (by omega) hj)).1]
      exact hN.shows.seen
    · obtain ⟨q, q1, q2, q3, q4⟩ : ∃ q, lo ≤ q ∧ q ≤ hi ∧ (X.st v).σ = (X.st q).σ ∧ ∀ e, effAt X.ls e = true → e < q → D e := by
        by_cases hlv : lo ≤ v
        · exact ⟨v, hlv, by omega, rfl, k1⟩
        · have hk0 := (hS.grp k0).1 y2
          have hne := X.noEff_spec (k2 k0 y1 y3 (by omega))
          exact ⟨lo, Nat.le_refl _, hle, ((X.same' (p := v) (q := lo) (by omega) (by omega) fun j j1 j2 => hne j j1 (by omega)).1).symm, fun e he hlt => hS.before e hlt he⟩
      rw [q3]
      intro b u B hu
      obtain ⟨u1, u2, u3⟩ := upto_blk hu
      have hlt : b < (X.st q).σ.length := by rw [blk_eq] at u1; exact (List.getElem?_eq_some_iff.1 u1).1
      have hal : alive X D lo b := by
        have h1' : b < (X.st (lo + (q - lo))).σ.length := by rwa [show lo + (q - lo) = q by omega]
        rcases X.seg hS.grp (q - lo) (by omega) (by omega) h1' with h2 | ⟨k, a1, a2, a3, a4, a5⟩
        · exact .inl h2
        · exact .inr ⟨k, a3, (hS.grp k).2 ⟨a1, by omega⟩, q4 k a3 (by omega), a4, a5⟩
      obtain ⟨l, hl⟩ := X.pre' hS.grp (p := q) (q := hi + 1) q1 (by omega) (Nat.le_refl _) (by omega)
      obtain ⟨ids, s1, s2⟩ := hS.shows
      refine ⟨ids b, s1 b u _ hal ?_⟩
      rw [hl, (ctxOf_pre hlt).1]
      exact upto_own ids C.I hu
end
end Ab
