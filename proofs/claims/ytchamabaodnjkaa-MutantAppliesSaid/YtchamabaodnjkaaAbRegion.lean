/- One operation of a region in any order. One operation of a region, whatever its class. A region does what its lines say. Condition: the callees answer as the interpreter says. Condition: none. -/
import Derived.Test.YtchamabaodnjkaaAbDisp
set_option linter.all false
namespace Ab
open Go
variable {P : Program}

namespace RC
variable (X : RC P)
theorem eff_lt {i : Nat} (hi : effAt X.ls i = true) : i < X.ls.length := by
  unfold effAt at hi
  cases hl : X.ls[i]? with
  | none => simp [hl] at hi
  | some l => exact (List.getElem?_eq_some_iff.1 hl).1
theorem inG_iff {k : Nat} : inG X.ls X.draw X.bf k = true ↔ (∃ j, j ≤ k ∧ looseL X.ls X.draw X.bf j = true) ∧ ∃ i, i < X.ls.length ∧ k ≤ i ∧ looseR X.ls X.draw X.bf i = true := by
  simp only [inG, Bool.and_eq_true, List.any_eq_true, List.mem_range, decide_eq_true_eq]
  constructor
  · rintro ⟨⟨j, h1, h2⟩, i, h3, h4, h5⟩; exact ⟨⟨j, by omega, h2⟩, i, h3, h4, h5⟩
  · rintro ⟨⟨j, h1, h2⟩, i, h3, h4, h5⟩; exact ⟨⟨j, by omega, h2⟩, i, h3, h4, h5⟩
theorem eff_order {i j : Nat} (hi : effAt X.ls i = true) (hj : effAt X.ls j = true) (hlt : j < i) : bfr X.draw X.bf j i = true ∨ inG X.ls X.draw X.bf j = true ∧ inG X.ls X.draw X.bf i = true := by
  cases hb : bfr X.draw X.bf j i with
  | true => exact .inl rfl
  | false =>
    have hl : loose X.ls X.draw X.bf j i = true := by simp [loose, hi, hj, hlt, hb]
    have h1 : looseL X.ls X.draw X.bf j = true := List.any_eq_true.2 ⟨i, List.mem_range.2 (X.eff_lt hi), hl⟩
    have h2 : looseR X.ls X.draw X.bf i = true := List.any_eq_true.2 ⟨j, List.mem_range.2 (X.eff_lt hj), hl⟩
    exact .inr ⟨X.inG_iff.2 ⟨⟨j, Nat.le_refl _, h1⟩, i, X.eff_lt hi, by omega, h2⟩, X.inG_iff.2 ⟨⟨j, by omega, h1⟩, i, X.eff_lt hi, Nat.le_refl _, h2⟩⟩
theorem free_of {i : Nat} (hi : effAt X.ls i = true) (hg : inG X.ls X.draw X.bf i = true) : freeAt X.ls i = true := by
  obtain ⟨o, l, ho, hl, hF⟩ := X.at_ (X.eff_lt hi)
  have h := hF.eff
  have he : (l.op.isE || l.op.isW) = true := by simpa [effAt, hl] using hi
  simp only [okEff, he, if_true, Bool.and_eq_true, hg, Bool.not_true, Bool.false_or] at h
  exact h.2
theorem least {p : Nat → Prop} : ∀ n, p n → ∃ m, p m ∧ ∀ k, k < m → ¬ p k := by
  intro n
  induction n using Nat.strongRecOn with
  | _ n ih =>
    intro h
    by_cases hx : ∃ k, k < n ∧ p k
    · obtain ⟨k, h1, h2⟩ := hx; exact ih k h1 h2
    · exact ⟨n, h, fun k hk hp => hx ⟨k, hk, hp⟩⟩
theorem greatest {p : Nat → Prop} {L : Nat} (hL : ∀ k, p k → k < L) {n : Nat} (h : p n) : ∃ m, p m ∧ ∀ k, m < k → ¬ p k := by
  obtain ⟨d, h1, h2⟩ := least (p := fun d => d ≤ L ∧ p (L - d)) (L - n) ⟨by omega, by have := hL n h; rwa [show L - (L - n) = n by omega]⟩
  refine ⟨L - d, h1.2, fun k hk hp => ?_⟩
  have := hL k hp
  exact h2 (L - k) (by omega) ⟨by omega, by rwa [show L - (L - k) = k by omega]⟩
theorem grp {k : Nat} (h : inG X.ls X.draw X.bf k = true) : ∃ lo hi, (∀ k, inG X.ls X.draw X.bf k = true ↔ lo ≤ k ∧ k ≤ hi) ∧ effAt X.ls hi = true ∧ lo ≤ hi := by
  obtain ⟨⟨j, _, h1⟩, i, h3, _, h4⟩ := X.inG_iff.1 h
  have effR : ∀ i, looseR X.ls X.draw X.bf i = true → effAt X.ls i = true ∧ ∃ j, j < i ∧ looseL X.ls X.draw X.bf j = true := fun i hi => by
    obtain ⟨j, _, hl⟩ := List.any_eq_true.1 hi
    have hl' := hl
    simp only [loose, Bool.and_eq_true, decide_eq_true_eq] at hl
    exact ⟨hl.1.1.2, j, hl.1.2, List.any_eq_true.2 ⟨i, List.mem_range.2 (X.eff_lt hl.1.1.2), hl'⟩⟩
  obtain ⟨lo, l1, l2⟩ := least (p := fun j => looseL X.ls X.draw X.bf j = true) j h1
  obtain ⟨hi, g1, g2⟩ := greatest (p := fun i => looseR X.ls X.draw X.bf i = true) (L := X.ls.length) (fun k hk => X.eff_lt (effR k hk).1) h4
  obtain ⟨e1, j', e2, e3⟩ := effR hi g1
  have hle : lo ≤ hi := by
    have : ¬ j' < lo := fun hlt => l2 j' hlt e3
    omega
  refine ⟨lo, hi, fun k => X.inG_iff.trans ⟨?_, ?_⟩, e1, hle⟩
  · rintro ⟨⟨j, a1, a2⟩, i, _, b1, b2⟩
    have c1 : ¬ j < lo := fun hlt => l2 j hlt a2
    have c2 : ¬ hi < i := fun hlt => g2 i hlt b2
    omega
  · rintro ⟨a1, a2⟩
    exact ⟨⟨lo, a1, l1⟩, hi, X.eff_lt e1, a2, g1⟩
/-- What a free operation is. -/
theorem free_spec {i : Nat} {l : Ln} (hl : X.ls[i]? = some l) (h : freeAt X.ls i = true) : l.g = none ∧ l.op.isE = true ∧ l.op.isW = false ∧ l.op.isIni = false ∧ (∀ ce σ σ' nl ps r, ev ce σ nl ps r l.op = ev ce σ' nl ps r l.op) ∧
    ∀ ce σ nl ps r x p, ev ce σ nl ps r l.op = some (x, p) → ((∀ f as, l.op ≠ .can f as) ∧ ∃ B, p = some (.new B)) ∨ ∃ bs, p = some (.news bs) := by
  simp only [freeAt, hl, Bool.and_eq_true, Option.isNone_iff_eq_none] at h
  obtain ⟨h1, h2⟩ := h
  split at h2
  · rename_i hop
    rw [hop]
    refine ⟨h1, rfl, rfl, rfl, fun _ _ _ _ _ _ => rfl, fun ce σ nl ps r x p he => .inl ⟨by simp, ?_⟩⟩
    simp only [ev] at he
    split at he <;> try (simp at he; done)
    split at he <;> simp at he
    exact ⟨_, he.2.symm⟩
  · rename_i hop
    rw [hop]
    refine ⟨h1, rfl, rfl, rfl, fun _ _ _ _ _ _ => rfl, fun ce σ nl ps r x p he => .inr ?_⟩
    simp only [ev] at he
    split at he <;> try (simp at he; done)
    split at he <;> simp at he
    exact ⟨_, he.2.symm⟩
  · rename_i hop
    rw [hop]
    refine ⟨h1, rfl, rfl, rfl, fun _ _ _ _ _ _ => rfl, fun ce σ nl ps r x p he => .inl ⟨by simp, ?_⟩⟩
    simp only [ev] at he
    split at he <;> simp at he
    exact ⟨_, he.2.symm⟩
  · simp at h2
/-- It adds blocks. -/
theorem free_adds {i : Nat} (he : effAt X.ls i = true) (hg : inG X.ls X.draw X.bf i = true) : ∃ l, (X.st (i + 1)).σ = (X.st i).σ ++ l := by
  obtain ⟨o, l, ho, hl, hF⟩ := X.at_ (X.eff_lt he)
  obtain ⟨h1, h2, h3, _, _, h4⟩ := X.free_spec hl (X.free_of he hg)
  have hr := X.run i l hl
  unfold line1 at hr
  simp only [h1, want, h3, Bool.false_eq_true, if_false] at hr
  split at hr
  · rename_i v hev
    rcases h4 _ _ _ _ _ _ _ hev with ⟨_, B, hB⟩ | ⟨bs, hB⟩ <;> simp at hB
  · rename_i v p hev
    simp only [Option.some.injEq] at hr
    rw [← hr]
    rcases h4 _ _ _ _ _ _ _ hev with ⟨_, B, hB⟩ | ⟨bs, hB⟩
    · simp at hB; subst hB; exact ⟨_, rfl⟩
    · simp at hB; subst hB; exact ⟨_, rfl⟩
  · simp at hr
/-- In the group, the blocks before stay in front. -/
theorem pre {lo hi : Nat} (hgr : ∀ k, inG X.ls X.draw X.bf k = true ↔ lo ≤ k ∧ k ≤ hi) {p : Nat} : ∀ (n : Nat), lo ≤ p → p + n ≤ hi + 1 → p + n ≤ X.ls.length → ∃ l, (X.st (p + n)).σ = (X.st p).σ ++ l
  | 0, _, _, _ => ⟨[], by simp⟩
  | n + 1, h1, h2, h3 => by
    obtain ⟨l, hl⟩ := pre hgr n h1 (by omega) (by omega)
    cases he : effAt X.ls (p + n) with
    | true =>
      obtain ⟨l', hl'⟩ := X.free_adds he ((hgr _).2 ⟨by omega, by omega⟩)
      exact ⟨l ++ l', by rw [show p + (n + 1) = p + n + 1 by omega, hl', hl, List.append_assoc]⟩
    | false =>
      obtain ⟨o, l', ho, hl', hF⟩ := X.at_ (show p + n < X.ls.length by omega)
      exact ⟨l, by rw [show p + (n + 1) = p + n + 1 by omega, (X.still hl' he).1, hl]⟩
theorem pre' {lo hi p q : Nat} (hgr : ∀ k, inG X.ls X.draw X.bf k = true ↔ lo ≤ k ∧ k ≤ hi) (h1 : lo ≤ p) (h2 : p ≤ q) (h3 : q ≤ hi + 1) (h4 : q ≤ X.ls.length) : ∃ l, (X.st q).σ = (X.st p).σ ++ l := by
  have := X.pre hgr (p := p) (q - p) h1 (by omega) (by omega)
  rwa [show p + (q - p) = q by omega] at this
theorem pre_len {lo hi p q : Nat} (hgr : ∀ k, inG X.ls X.draw X.bf k = true ↔ lo ≤ k ∧ k ≤ hi) (h1 : lo ≤ p) (h2 : p ≤ q) (h3 : q ≤ hi + 1) (h4 : q ≤ X.ls.length) : (X.st p).σ.length ≤ (X.st q).σ.length := by
  obtain ⟨l, hl⟩ := X.pre' hgr h1 h2 h3 h4
  rw [hl]; simp
/-- Every block of the group is that of one of its effects. -/
theorem seg {lo hi : Nat} (hgr : ∀ k, inG X.ls X.draw X.bf k = true ↔ lo ≤ k ∧ k ≤ hi) {b : Nat} : ∀ (n : Nat), lo + n ≤ hi + 1 → lo + n ≤ X.ls.length → b < (X.st (lo + n)).σ.length → b < (X.st lo).σ.length ∨ ∃ i, lo ≤ i ∧ i < lo + n ∧ effAt X.ls i = true ∧ (X.st i).σ.length ≤ b ∧ b < (X.st (i + 1)).σ.length
  | 0, _, _, h => .inl h
  | n + 1, h1, h2, h => by
    by_cases hb : b < (X.st (lo + n)).σ.length
    · rcases seg hgr n (by omega) (by omega) hb with h | ⟨i, a1, a2, a3⟩
      · exact .inl h
      · exact .inr ⟨i, a1, by omega, a3⟩
    · cases he : effAt X.ls (lo + n) with
      | true => exact .inr ⟨lo + n, by omega, by omega, he, by omega, h⟩
      | false =>
        obtain ⟨o, l', ho, hl', hF⟩ := X.at_ (show lo + n < X.ls.length by omega)
        rw [show lo + (n + 1) = lo + n + 1 by omega, (X.still hl' he).1] at h
        omega
theorem eAt_eff {i : Nat} (h : eAt X.ls i = true) : effAt X.ls i = true := by
  unfold eAt at h; unfold effAt
  cases hl : X.ls[i]? with
  | none => simp [hl] at h
  | some l => simp only [hl, Bool.and_eq_true] at h ⊢; simp [h.1]
theorem noEff_spec {p q : Nat} (h : noEff X.ls p q = true) : ∀ j, p ≤ j → j < q → effAt X.ls j = false := fun j h1 h2 => by
  simp only [noEff, List.all_eq_true, List.mem_range, Bool.or_eq_true, Bool.not_eq_true', decide_eq_false_iff_not] at h
  rcases h j h2 with h | h
  · exact absurd h1 h
  · exact h
end RC

section
variable {X : RC P} {C0 : Ctx} {w0 : World} {ds : List Deferred} {D : Nat → Prop} {C : Ctx} {f : Nat} {a : Act} {w : World} {i : Nat}

/-- Before an effect that is not in the group, all effects before it and no other are done. -/
theorem FrontN.front (h : FrontN X D C f) (hD : ¬ D i) (hb : ∀ j, bfr X.draw X.bf j i = true → D j) (he : effAt X.ls i = true) (hng : inG X.ls X.draw X.bf i = false) : f ≤ i ∧ ∀ j, f ≤ j → j < i → effAt X.ls j = false := by
  refine ⟨Nat.le_of_not_lt fun hlt => hD (h.lo i hlt he), fun j h1 h2 => ?_⟩
  cases hj : effAt X.ls j with
  | false => rfl
  | true =>
    rcases X.eff_order he hj h2 with hq | hq
    · exact absurd (hb j hq) (h.hi j h1 hj)
    · rw [hng] at hq; simp at hq
theorem FrontN.effs (h : FrontN X D C f) (hf : f ≤ i) (hn : ∀ j, f ≤ j → j < i → effAt X.ls j = false) :
    (∀ e, e < i + 1 → effAt X.ls e = true → D e ∨ e = i) ∧ ∀ e, i + 1 ≤ e → effAt X.ls e = true → ¬ (D e ∨ e = i) := by
  refine ⟨fun e h1 h2 => ?_, fun e h1 h2 h3 => ?_⟩
  · rcases Nat.lt_or_ge e i with hlt | hge
    · rcases Nat.lt_or_ge e f with hl | hg
      · exact .inl (h.lo e hl h2)
      · rw [hn e hg hlt] at h2; simp at h2
    · exact .inr (by omega)
  · rcases h3 with h3 | h3
    · exact h.hi e (by omega) h2 h3
    · omega
theorem ctxOf_pre {σ l : List Blk} {ids : Nat → Nat} {I : Nat → Prop} {b u : Nat} (hb : b < σ.length) : (ctxOf (σ ++ l) ids I).own b u = (ctxOf σ ids I).own b u ∧ ((ctxOf (σ ++ l) ids I).lim b u ↔ (ctxOf σ ids I).lim b u) := by
  have e : blk (σ ++ l) b = blk σ b := by rw [blk_eq, blk_eq, List.getElem?_append_left hb]
  simp only [ctxOf, e, and_self]
theorem lim_lt {σ : List Blk} {ids : Nat → Nat} {I : Nat → Prop} {b u : Nat} (h : (ctxOf σ ids I).lim b u) : b < σ.length := by
  obtain ⟨B, h1, _⟩ := h
  rw [blk_eq] at h1; exact (List.getElem?_eq_some_iff.1 h1).1
/-- The group begins. -/
theorem FrontN.group (h : FrontN X D C f) (hD : ¬ D i) (hb : ∀ j, bfr X.draw X.bf j i = true → D j) (he : effAt X.ls i = true) (hg : inG X.ls X.draw X.bf i = true) : ∃ lo hi, FrontG X D C lo hi := by
  obtain ⟨lo, hi, g1, g2, g3⟩ := X.grp hg
  have hi1 := (g1 i).1 hg
  have hfi : f ≤ i := Nat.le_of_not_lt fun hlt => hD (h.lo i hlt he)
  have hhl := X.eff_lt g2
  have hbef : ∀ e, e < lo → effAt X.ls e = true → D e := fun e h1 h2 => by
    rcases X.eff_order he h2 (by omega) with hq | hq
    · exact hb e hq
    · have := (g1 e).1 hq.1; omega
  have hbeh : ∀ e, hi < e → effAt X.ls e = true → ¬ D e := fun e h1 h2 => h.hi e (by omega) h2
  -- the blocks now
  obtain ⟨q, q1, q2, q3, q4⟩ : ∃ q, lo ≤ q ∧ q ≤ hi + 1 ∧ (X.st f).σ = (X.st q).σ ∧ ∀ e, effAt X.ls e = true → lo ≤ e → (D e ↔ e < q) := by
    rcases Nat.lt_or_ge f lo with hlt | hge
    · refine ⟨lo, Nat.le_refl _, by omega, ((X.same' (p := f) (q := lo) (by omega) (by omega) fun k k1 k2 => ?_).1).symm, fun e h1 h2 => ⟨fun hd => absurd hd (h.hi e (by omega) h1), fun h3 => by omega⟩⟩
      cases hk : effAt X.ls k with
      | false => rfl
      | true => exact absurd (hbef k k2 hk) (h.hi k k1 hk)
    · exact ⟨f, hge, by omega, rfl, fun e h1 h2 => ⟨fun hd => Nat.lt_of_not_le fun h3 => h.hi e h3 h1 hd, fun h3 => h.lo e h3 h1⟩⟩
  have hal : ∀ b, alive X D lo b ↔ b < (X.st f).σ.length := fun b => by
    rw [q3]
    constructor
    · rintro (h1 | ⟨k, k1, k2, k3, k4, k5⟩)
      · have := X.pre_len g1 (Nat.le_refl lo) q1 q2 (by omega); omega
      · have a1 := (g1 k).1 k2
        have a2 := (q4 k k1 a1.1).1 k3
        have := X.pre_len g1 (p := k + 1) (q := q) (by omega) (by omega) q2 (by omega)
        omega
    · intro h1
      have h1' : b < (X.st (lo + (q - lo))).σ.length := by rwa [show lo + (q - lo) = q by omega]
      rcases X.seg g1 (q - lo) (by omega) (by omega) h1' with h2 | ⟨k, k1, k2, k3, k4, k5⟩
      · exact .inl h2
      · exact .inr ⟨k, k3, (g1 k).2 ⟨k1, by omega⟩, (q4 k k3 k1).2 (by omega), k4, k5⟩
  obtain ⟨l, hl⟩ := X.pre' g1 q1 q2 (Nat.le_refl _) (by omega)
  rw [← q3] at hl
  obtain ⟨ids, s1, s2⟩ := h.shows
  refine ⟨lo, hi, g1, g2, g3, hbef, hbeh, ids, fun b u e ha ho => ?_, fun b u hlim => ?_⟩
  · rw [hl, (ctxOf_pre ((hal b).1 ha)).1] at ho
    exact s1 b u e ho
  · have := s2 b u hlim
    have hlt := lim_lt this
    exact ⟨(hal b).2 hlt, by rw [hl]; exact (ctxOf_pre hlt).2.2 this⟩
/-- The group is done. -/
theorem FrontG.done {lo hi : Nat} (h : FrontG X D C lo hi) (hall : ∀ k, effAt X.ls k = true → inG X.ls X.draw X.bf k = true → D k) : FrontN X D C (hi + 1) := by
  have hhl := X.eff_lt h.ehi
  have hle := h.le
  have hal : ∀ b, b < (X.st (hi + 1)).σ.length → alive X D lo b := fun b hb => by
    have h1' : b < (X.st (lo + (hi + 1 - lo))).σ.length := by rwa [show lo + (hi + 1 - lo) = hi + 1 by omega]
    rcases X.seg h.grp (hi + 1 - lo) (by omega) (by omega) h1' with h2 | ⟨k, k1, k2, k3, k4, k5⟩
    · exact .inl h2
    · have hg := (h.grp k).2 ⟨k1, by omega⟩
      exact .inr ⟨k, k3, hg, hall k k3 hg, k4, k5⟩
  obtain ⟨ids, s1, s2⟩ := h.shows
  have hsh : Shows C (X.st (hi + 1)).σ := by
    refine ⟨ids, fun b u e ho => ?_, fun b u hl => (s2 b u hl).2⟩
    have hlt : b < (X.st (hi + 1)).σ.length := by
      cases hq : blk (X.st (hi + 1)).σ b with
      | none => simp [ctxOf, hq] at ho
      | some B => rw [blk_eq] at hq; exact (List.getElem?_eq_some_iff.1 hq).1
    exact s1 b u e (hal b hlt) ho
  refine ⟨by omega, fun e h1 h2 => ?_, fun e h1 h2 => h.behind e (by omega) h2, hsh, fun _ => ⟨by rw [Nat.add_sub_cancel]; exact h.ehi, fun _ => ?_⟩⟩
  · by_cases hlt : e < lo
    · exact h.before e hlt h2
    · exact hall e h2 ((h.grp e).2 ⟨by omega, by omega⟩)
  · rw [Nat.add_sub_cancel]
    intro b u B hu
    obtain ⟨l, hl⟩ := X.pre' h.grp (p := hi) (q := hi + 1) hle (by omega) (Nat.le_refl _) (by omega)
    obtain ⟨k1, k2, k3⟩ := upto_blk hu
    have hlt : b < (X.st hi).σ.length := by rw [blk_eq] at k1; exact (List.getElem?_eq_some_iff.1 k1).1
    refine hsh.seen b u B ?_
    rw [hl]
    unfold upto
    rw [show blk ((X.st hi).σ ++ l) b = blk (X.st hi).σ b by rw [blk_eq, blk_eq, List.getElem?_append_left hlt]]
    exact hu
/-- Before an effect that is not in the group, the group is not under way. -/
theorem Front.norm (h : Front X D C f) (hD : ¬ D i) (hb : ∀ j, bfr X.draw X.bf j i = true → D j) (he : effAt X.ls i = true) (hng : inG X.ls X.draw X.bf i = false) : ∃ f, FrontN X D C f := by
  rcases h with hN | ⟨lo, hi, hG, _⟩
  · exact ⟨_, hN⟩
  · have hle := hG.le
    have hi' : hi < i := by
      have h1 : ¬ (lo ≤ i ∧ i ≤ hi) := fun h => by rw [(hG.grp i).2 h] at hng; simp at hng
      have h2 : ¬ i < lo := fun h => hD (hG.before i h he)
      omega
    refine ⟨_, hG.done fun k hk hg => ?_⟩
    have := (hG.grp k).1 hg
    rcases X.eff_order he hk (by omega) with hq | hq
    · exact hb k hq
    · rw [hng] at hq; simp at hq
theorem Front.grp (h : Front X D C f) (hD : ¬ D i) (hb : ∀ j, bfr X.draw X.bf j i = true → D j) (he : effAt X.ls i = true) (hg : inG X.ls X.draw X.bf i = true) : ∃ lo hi, FrontG X D C lo hi := by
  rcases h with hN | ⟨lo, hi, hG, _⟩
  · exact hN.group hD hb he hg
  · exact ⟨lo, hi, hG⟩

/-- A reading line sees the blocks that it looks at. -/
theorem Inv.sees (h : Inv X C0 w0 ds D C f a w) (hi : i < X.ls.length) (hD : ¬ D i) (hb : ∀ j, bfr X.draw X.bf j i = true → D j) {o : Oper} {l : Ln} (hl : X.ls[i]? = some l) (hF : Facts X i o l)
    (hE : l.op.isE = false) (hW : l.op.isW = false) (hP : l.op.isP = false) : Seen C (if l.prev then (X.st i).σp else (X.st i).σ) := by
  have hr := hF.read
  simp only [okRead, hE, hW, hP, Bool.or_self, Bool.false_eq_true, if_false, Bool.and_eq_true, List.all_eq_true, List.mem_range] at hr
  obtain ⟨hr1, hr2⟩ := hr
  generalize hv : verOf X.ls i l = v at hr1 hr2
  have hvi : v ≤ i := by
    by_cases hp : l.prev = true
    · simp only [hp, if_true, Bool.and_eq_true, decide_eq_true_eq] at hr1
      omega
    · have : v = i := by rw [← hv]; simp [verOf, hp]
      omega
  have hσ : (if l.prev then (X.st i).σp else (X.st i).σ) = (X.st v).σ := by
    by_cases hp : l.prev = true
    · simp only [hp, if_true, Bool.and_eq_true, decide_eq_true_eq] at hr1 ⊢
      obtain ⟨⟨q1, q2⟩, q3⟩ := hr1
      have h1 := (X.same' (p := v + 1) (q := i) (by omega) (Nat.le_of_lt hi) (X.noEff_spec q3)).2
      rw [h1]
      obtain ⟨ov, lv, _, hlv, hFv⟩ := X.at_ (show v < X.ls.length by omega)
      have hrun := X.run v lv hlv
      simp only [eAt, hlv, Bool.and_eq_true, Option.isNone_iff_eq_none] at q2
      have hef := hFv.eff
      simp only [okEff, q2.1, Bool.true_or, if_true, Bool.and_eq_true, Bool.not_eq_true'] at hef
      unfold line1 at hrun
      simp only [q2.2, want] at hrun
      have hW : lv.op.isW = false := by revert q2; cases lv.op <;> simp [IOp.isE, IOp.isW]
      rw [if_neg (by rw [hW]; simp)] at hrun
      split at hrun
      · simp only [q2.1, if_true, Option.some.injEq] at hrun; rw [← hrun]
      · simp only [Option.some.injEq] at hrun; rw [← hrun]
      · simp at hrun
    · have : v = i := by rw [← hv]; simp [verOf, hp]
      simp [hp, this]
  rw [hσ]
  have hin : ∀ j, effAt X.ls j = true → j < X.ls.length := fun j hj => by
    unfold effAt at hj
    cases hl : X.ls[j]? with
    | none => simp [hl] at hj
    | some l => exact (List.getElem?_eq_some_iff.1 hl).1
  have key : ∀ j, effAt X.ls j = true → if j < v then bfr X.draw X.bf j i = true else bfr X.draw X.bf i j = true ∨ (eAt X.ls j = true ∧ noEff X.ls v j = true) := fun j hj => by
    have := hr2 j (hin j hj)
    simp only [hj, Bool.not_true, Bool.false_or] at this
    by_cases hlt : j < v
    · simpa [hlt] using this
    · simp only [hlt, if_false, Bool.or_eq_true, Bool.and_eq_true] at this ⊢
      exact this.imp (fun q => q) fun q => ⟨q.1.2, q.2⟩
  rcases h.fr with hN | ⟨lo, hi, hS, k0, y1, y2, y3⟩
  · rcases Nat.lt_or_ge v f with hvf | hvf
    · obtain ⟨e1, e2⟩ := hN.last (by omega)
      have hd := hN.lo (f - 1) (by omega) e1
      have := key (f - 1) e1
      rw [if_neg (by omega)] at this
      rcases this with k | ⟨k1, k2⟩
      · exact absurd (h.closed _ _ hd k) hD
      · have h3 := (X.same' (p := v) (q := f - 1) (by omega) (by have := hN.fle; omega) (X.noEff_spec k2)).1
        rw [← h3]
        exact e2 k1
    · have h3 := (X.same' (p := f) (q := v) hvf (by omega) fun j j1 j2 => by
        cases hj : effAt X.ls j with
        | false => rfl
        | true =>
          have := key j hj
          rw [if_pos j2] at this
          exact absurd (hb j this) (hN.hi j j1 hj)).1
      rw [h3]
      exact hN.shows.seen
  · -- all effects before v are done; of those behind it at most the first one
    have hle := hS.le
    have hhl := X.eff_lt hS.ehi
    have k1 : ∀ e, effAt X.ls e = true → e < v → D e := fun e he hlt => by
      have := key e he
      rw [if_pos hlt] at this
      exact hb e this
    have k2 : ∀ e, effAt X.ls e = true → D e → v ≤ e → noEff X.ls v e = true := fun e he hd hle => by
      have := key e he
      rw [if_neg (by omega)] at this
      rcases this with hq | hq
      · exact absurd (h.closed _ _ hd hq) hD
      · exact hq.2
    by_cases hv2 : hi < v
    · have hN := hS.done fun k hk hg => k1 k hk (by have := (hS.grp k).1 hg; omega)
      rw [(X.same' (p := hi + 1) (q := v) (by omega) (by omega) fun j j1 j2 => by
        cases hj : effAt X.ls j with
        | false => rfl
        | true => exact absurd (k1 j hj j2) (hS.behind j (by omega) hj)).1]
      exact hN.shows.seen
    · obtain ⟨q, q1, q2, q3, q4⟩ : ∃ q, lo ≤ q ∧ q ≤ hi ∧ (X.st v).σ = (X.st q).σ ∧ ∀ e, effAt X.ls e = true → e < q → D e := by
        by_cases hlv : lo ≤ v
        · exact ⟨v, hlv, by omega, rfl, k1⟩
        · have hk0 := (hS.grp k0).1 y2
          have hne := X.noEff_spec (k2 k0 y1 y3 (by omega))
          exact ⟨lo, Nat.le_refl _, hle, ((X.same' (p := v) (q := lo) (by omega) (by omega) fun j j1 j2 => hne j j1 (by omega)).1).symm, fun e he hlt => hS.before e hlt he⟩
      rw [q3]
      intro b u B hu
      obtain ⟨u1, u2, u3⟩ := upto_blk hu
      have hlt : b < (X.st q).σ.length := by rw [blk_eq] at u1; exact (List.getElem?_eq_some_iff.1 u1).1
      have hal : alive X D lo b := by
        have h1' : b < (X.st (lo + (q - lo))).σ.length := by rwa [show lo + (q - lo) = q by omega]
        rcases X.seg hS.grp (q - lo) (by omega) (by omega) h1' with h2 | ⟨k, a1, a2, a3, a4, a5⟩
        · exact .inl h2
        · exact .inr ⟨k, a3, (hS.grp k).2 ⟨a1, by omega⟩, q4 k a3 (by omega), a4, a5⟩
      obtain ⟨l, hl⟩ := X.pre' hS.grp (p := q) (q := hi + 1) q1 (by omega) (Nat.le_refl _) (by omega)
      obtain ⟨ids, s1, s2⟩ := hS.shows
      refine ⟨ids b, s1 b u _ hal ?_⟩
      rw [hl, (ctxOf_pre hlt).1]
      exact upto_own ids C.I hu
end
end Ab
namespace Ab
open Go
variable {P : Program}

def cmt (σ : List Blk) : Option Pend → List Blk
  | some q => commit σ q
  | none => σ
theorem alc_tgt {ls : List Ln} {t m : Nat} (h : alcAt ls t = some m) : tgt ls t = none := by
  unfold alcAt at h; unfold tgt
  cases hl : ls[t]? with
  | none => rfl
  | some l =>
    simp only [hl] at h ⊢
    split at h
    · rename_i hop; rw [hop]
    · simp at h

theorem blk_app (σ l : List Blk) (b : Nat) : blk (σ ++ l) b = if b < σ.length then blk σ b else blk l (b - σ.length) := by
  rw [blk_eq, blk_eq, blk_eq]
  by_cases hb : b < σ.length
  · rw [if_pos hb, List.getElem?_append_left hb]
  · rw [if_neg hb, List.getElem?_append_right (by omega)]
open Classical in
/-- The list, but only those that are there. -/
noncomputable def maskC (σ : List Blk) (A : Nat → Prop) (ids : Nat → Nat) (I : Nat → Prop) : Ctx where
  I := I
  own := fun b u => if A b then (ctxOf σ ids I).own b u else none
  lim := fun b u => A b ∧ (ctxOf σ ids I).lim b u

section
variable {X : RC P} {C0 : Ctx} {w0 : World} {ds : List Deferred} {D : Nat → Prop} {C : Ctx} {f : Nat} {a : Act} {w : World} {i : Nat}

theorem Inv.next (h : Inv X C0 w0 ds D C f a w) (hi : i < X.ls.length) (hD : ¬ D i) (hb : ∀ j, bfr X.draw X.bf j i = true → D j) (Q : Exit → Act → World → Prop) :
    wpOp P X.ops.toArray Q i (fun a' w' => ∃ C' f', Inv X C0 w0 ds (fun j => D j ∨ j = i) C' f' a' w') a w := by
  obtain ⟨o, l, ho, hl, hF⟩ := X.at_ hi
  have hrun := X.run i l hl
  have hR : ∀ x y, okRef X.draw X.bf X.ops X.ls X.sl i x y = true → VR C w.heap (rv X.vars (X.st i).env y) (a.eval x) := fun x y hr => h.ref hi hD hb hr
  unfold wpOp
  simp only [List.getElem?_toArray, ho]
  unfold line1 at hrun
  cases hw : want X.vars (X.st i).env l.g with
  | none => simp [hw] at hrun
  | some b =>
    have hwa := h.wanted hi hb hF hw
    rw [hwa]
    simp only [hw] at hrun
    cases b with
    | false =>
      simp only [Bool.false_eq_true, if_false]
      simp only [Option.some.injEq] at hrun
      have hval : valOf X.st i = .tup [] := by rw [valOf, ← hrun]
      have hgs : l.g ≠ none := fun e => by rw [e] at hw; simp [want] at hw
      have htn : tgt X.ls i = none := by
        cases ht : tgt X.ls i with
        | none => rfl
        | some t =>
          obtain ⟨_, _, l', _, _, _, _, hl', _, _, hg', _⟩ := X.tgt_spec ht
          rw [hl] at hl'; simp at hl'; subst hl'
          exact absurd hg' hgs
      have haln : alcAt X.ls i = none := by
        unfold alcAt; simp only [hl]
        split
        · rename_i m hop
          have := hF.ini
          simp only [okIni, hop, Bool.and_eq_true, Option.isNone_iff_eq_none] at this
          exact absurd this.1 hgs
        · rfl
      have hund : VR C w.heap (valOf X.st i) undef := by rw [hval]; unfold VR; exact ⟨[], rfl, rfl⟩
      cases he : effAt X.ls i with
      | false =>
        exact ⟨C, f, h.after hi hD hb ho h.good (Step.refl _ _) htn hund (fun m hm => by rw [haln] at hm; simp at hm) (h.fr.noeff he C.I)⟩
      | true =>
        have hng : inG X.ls X.draw X.bf i = false := by
          cases hg : inG X.ls X.draw X.bf i with
          | false => rfl
          | true => exact absurd (X.free_spec hl (X.free_of he hg)).1 hgs
        obtain ⟨f', hN⟩ := h.fr.norm hD hb he hng
        obtain ⟨q1, q2⟩ := hN.front hD hb he hng
        obtain ⟨e1, e2⟩ := hN.effs q1 q2
        have hs : (X.st (i + 1)).σ = (X.st f').σ := by rw [← hrun]; exact (X.same' q1 (Nat.le_of_lt hi) q2).1
        refine ⟨C, i + 1, h.after hi hD hb ho h.good (Step.refl _ _) htn hund (fun m hm => by rw [haln] at hm; simp at hm) (.inl ⟨by omega, e1, e2, by rw [hs]; exact hN.shows, fun _ => ⟨he, fun hee => ?_⟩⟩)⟩
        simp only [Nat.add_sub_cancel, eAt, hl, Bool.and_eq_true, Option.isNone_iff_eq_none] at hee
        exact absurd hee.2 hgs
    | true =>
      dsimp only at hrun
      simp only [if_true]
      refine .inl ?_
      by_cases hWc : l.op.isW = true
      · rw [if_pos hWc] at hrun
        have he : effAt X.ls i = true := by simp [effAt, hl, hWc]
        have hng : inG X.ls X.draw X.bf i = false := by
          cases hg : inG X.ls X.draw X.bf i with
          | false => rfl
          | true => rw [(X.free_spec hl (X.free_of he hg)).2.2.1] at hWc; simp at hWc
        obtain ⟨f', hN⟩ := h.fr.norm hD hb he hng
        obtain ⟨q1, q2⟩ := hN.front hD hb he hng
        have hnow := (X.same' q1 (Nat.le_of_lt hi) q2).1
        obtain ⟨ids, g1, g2⟩ := hN.shows.take h.good
        rw [← hnow] at g1 g2
        split at hrun
        · rename_i v σ' hev
          simp only [Option.some.injEq] at hrun
          have htn : tgt X.ls i = none := by
            cases ht : tgt X.ls i with
            | none => rfl
            | some t =>
              obtain ⟨_, _, l', _, _, _, _, hl', _, hop, _⟩ := X.tgt_spec ht
              rw [hl] at hl'; simp at hl'; subst hl'
              rw [hop] at hWc; simp [IOp.isW] at hWc
          have haln : alcAt X.ls i = none := by
            unfold alcAt; simp only [hl]
            split
            · rename_i m hop; rw [hop] at hWc; simp [IOp.isW] at hWc
            · rfl
          refine opW hF.op hWc X.hce X.hbd g1 (fun x y hr => VR.mono g2.ev _ _ (hR x y hr)) hev _ Q fun v' w' hp => ?_
          obtain ⟨ids', I', k1, k2, k3⟩ := hp
          obtain ⟨e1, e2⟩ := hN.effs q1 q2
          have hs : (X.st (i + 1)).σ = σ' := by rw [← hrun]
          have hval : valOf X.st i = v := by rw [valOf, ← hrun]
          refine ⟨_, i + 1, h.after hi hD hb ho k1 (g2.trans k2) htn (by rw [hval]; exact k3) (fun m hm => by rw [haln] at hm; simp at hm) (.inl ⟨by omega, e1, e2, by rw [hs]; exact shows_ctx _ _ _, fun _ => ⟨he, fun hee => ?_⟩⟩)⟩
          simp only [Nat.add_sub_cancel, eAt, hl, Bool.and_eq_true] at hee
          exfalso
          revert hWc hee; cases l.op <;> simp [IOp.isE, IOp.isW]
        · simp at hrun
      · rw [if_neg hWc] at hrun
        have hWf : l.op.isW = false := by simpa using hWc
        cases hev : ev X.ce (if l.prev then (X.st i).σp else (X.st i).σ) (X.st i).σ.length [] (rv X.vars (X.st i).env) l.op with
        | none => simp [hev] at hrun
        | some vp =>
          obtain ⟨v, p⟩ := vp
          simp only [hev] at hrun
          have hval : valOf X.st i = v := by cases p <;> simp only [Option.some.injEq] at hrun <;> rw [valOf, ← hrun] <;> rfl
          have hst : (X.st (i + 1)).σ = cmt (X.st i).σ p := by cases p <;> simp only [Option.some.injEq] at hrun <;> rw [← hrun] <;> rfl
          cases hE : l.op.isE with
          | true =>
            have he : effAt X.ls i = true := by simp [effAt, hl, hE]
            have hpf : l.prev = false := by
              have := hF.eff
              simp only [okEff, hE, Bool.true_or, if_true, Bool.and_eq_true, Bool.not_eq_true'] at this
              exact this.1
            rw [hpf] at hev
            simp only [Bool.false_eq_true, if_false] at hev
            have htn : tgt X.ls i = none := by
              cases ht : tgt X.ls i with
              | none => rfl
              | some t =>
                obtain ⟨_, _, l', _, _, _, _, hl', _, hop, _⟩ := X.tgt_spec ht
                rw [hl] at hl'; simp at hl'; subst hl'
                rw [hop] at hE; simp [IOp.isE] at hE
            have haln : alcAt X.ls i = none := by
              unfold alcAt; simp only [hl]
              split
              · rename_i m hop; rw [hop] at hE; simp [IOp.isE] at hE
              · rfl
            have hni : l.op.isIni = false := by revert hE; cases l.op <;> simp [IOp.isE, IOp.isIni]
            cases hng : inG X.ls X.draw X.bf i with
            | false =>
              obtain ⟨f', hN⟩ := h.fr.norm hD hb he hng
              obtain ⟨q1, q2⟩ := hN.front hD hb he hng
              obtain ⟨ids, g1, g2⟩ := hN.shows.take h.good
              have hnow := (X.same' q1 (Nat.le_of_lt hi) q2).1
              rw [← hnow] at g1 g2
              refine opE hF.op hWf hni X.hce X.hbd g1 (fun b u B hu => ⟨_, upto_own ids C.I hu⟩) (fun _ _ => ctxOf_nolim) (fun l' _ b u hb1 _ hlim => ?_) (fun b u B cs hu _ _ => ⟨fun n hn hlim => ?_, fun u' B' id' hown => ?_⟩) (fun x y hr => VR.mono g2.ev _ _ (hR x y hr)) rfl hev _ Q fun v' w' hp => ?_
              · obtain ⟨B, hB, _⟩ := hlim
                rw [blk_eq, List.getElem?_eq_none (by omega)] at hB; simp at hB
              · obtain ⟨B', hB, hle⟩ := hlim
                obtain ⟨k1, k2, _⟩ := upto_blk hu
                rw [k1] at hB; simp at hB; subst hB
                omega
              · obtain ⟨k1, k2, _⟩ := upto_blk hu
                rw [← k2]; exact ctxOf_only (u := 0) k1 u' B' id' hown
              · obtain ⟨C', k1, k2, k3, k4⟩ := hp
                obtain ⟨s1, s2⟩ := Ext.shows k1 k4
                obtain ⟨e1, e2⟩ := hN.effs q1 q2
                exact ⟨C', i + 1, h.after hi hD hb ho k1 (g2.trans k2) htn (by rw [hval]; exact k3) (fun m hm => by rw [haln] at hm; simp at hm) (.inl ⟨by omega, e1, e2, by rw [hst]; cases p <;> exact s1, fun _ => ⟨he, fun _ => s2⟩⟩)⟩
            | true =>
              obtain ⟨lo, hh, hG⟩ := h.fr.grp hD hb he hng
              obtain ⟨fr1, fr2, fr3, fr4, fr5, fr6⟩ := X.free_spec hl (X.free_of he hng)
              have hin := (hG.grp i).1 hng
              have hhl := X.eff_lt hG.ehi
              have hle := hG.le
              obtain ⟨ids, m1, m2⟩ := hG.shows
              obtain ⟨bs, hbs, hcan⟩ : ∃ bs, (X.st (i + 1)).σ = (X.st i).σ ++ bs ∧ (((∀ f as, l.op ≠ .can f as) ∧ ∃ B, p = some (.new B) ∧ bs = [B]) ∨ p = some (.news bs)) := by
                rcases fr6 _ _ _ _ _ _ _ hev with ⟨hc, B, rfl⟩ | ⟨bs, rfl⟩
                · exact ⟨[B], by rw [hst]; rfl, .inl ⟨hc, B, rfl, rfl⟩⟩
                · exact ⟨bs, by rw [hst]; rfl, .inr rfl⟩
              have hlen : (X.st (i + 1)).σ.length = (X.st i).σ.length + bs.length := by rw [hbs]; simp
              have hgap : ∀ b, (X.st i).σ.length ≤ b → b < (X.st (i + 1)).σ.length → ¬ alive X D lo b := by
                rintro b b1 b2 (h1 | ⟨k, k1, k2, k3, k4, k5⟩)
                · have := X.pre_len hG.grp (p := lo) (q := i) (Nat.le_refl _) hin.1 (by omega) (by omega); omega
                · have hk := (hG.grp k).1 k2
                  rcases Nat.lt_trichotomy k i with hlt | rfl | hgt
                  · have := X.pre_len hG.grp (p := k + 1) (q := i) (by omega) (by omega) (by omega) (by omega); omega
                  · exact hD k3
                  · have := X.pre_len hG.grp (p := i + 1) (q := k) (by omega) (by omega) (by omega) (by omega); omega
              have hg2 := Good.shrink (C2 := maskC (X.st (hh + 1)).σ (alive X D lo) ids C.I) h.good rfl (fun b u e ho' => by
                unfold maskC at ho'
                dsimp only at ho'
                split at ho'
                · rename_i ha; exact m1 b u e ha ho'
                · simp at ho') m2
              have hal' : ∀ b, alive X (fun j => D j ∨ j = i) lo b ↔ alive X D lo b ∨ ((X.st i).σ.length ≤ b ∧ b < (X.st (i + 1)).σ.length) := fun b => by
                constructor
                · rintro (h1 | ⟨k, k1, k2, k3, k4⟩)
                  · exact .inl (.inl h1)
                  · rcases k3 with k3 | rfl
                    · exact .inl (.inr ⟨k, k1, k2, k3, k4⟩)
                    · exact .inr k4
                · rintro ((h1 | ⟨k, k1, k2, k3, k4⟩) | h1)
                  · exact .inl h1
                  · exact .inr ⟨k, k1, k2, .inl k3, k4⟩
                  · exact .inr ⟨i, he, hng, .inr rfl, h1⟩
              obtain ⟨l2, hl2⟩ := X.pre' hG.grp (p := i + 1) (q := hh + 1) (by omega) (by omega) (Nat.le_refl _) (by omega)
              have hblk : ∀ b, (X.st i).σ.length ≤ b → b < (X.st (i + 1)).σ.length → blk (X.st (hh + 1)).σ b = blk bs (b - (X.st i).σ.length) := fun b b1 b2 => by
                rw [hl2, blk_app, if_pos b2, hbs, blk_app, if_neg (by omega)]
              refine opE (σ := []) hF.op hWf hni X.hce X.hbd hg2.1 (fun b u B hu => by simp [upto, blk] at hu) (fun _ hc u hlim => ?_) (fun l' hq b u hb1 hb2 hlim => ?_) (fun b u B cs hu _ _ => by simp [upto, blk] at hu) (fun x y hr => VR.mono hg2.2.ev _ _ (hR x y hr)) rfl (by rw [fr5 X.ce [] (X.st i).σ]; exact hev) _ Q fun v' w' hp => ?_
              · rcases hcan with ⟨_, B, _, rfl⟩ | hq
                · exact hgap _ (Nat.le_refl _) (by rw [hlen]; simp) hlim.1
                · exfalso
                  rcases fr6 _ _ _ _ _ _ _ hev with ⟨_, B, hB⟩ | ⟨bs', hB⟩
                  · rw [hq] at hB; simp at hB
                  · have hf := X.free_of he hng
                    simp only [freeAt, hl, Bool.and_eq_true] at hf
                    have hf2 := hf.2
                    split at hf2
                    · rename_i hop; rw [hop] at hev; simp only [ev] at hev
                      split at hev <;> try (simp at hev; done)
                      split at hev <;> simp at hev
                      rw [← hev.2] at hq; simp at hq
                    · rename_i f as hop; exact hc f as hop
                    · rename_i hop; rw [hop] at hev; simp only [ev] at hev
                      split at hev <;> simp at hev
                      rw [← hev.2] at hq; simp at hq
                    · simp at hf2
              · rcases hcan with ⟨_, B, hq', _⟩ | hq'
                · rw [hq'] at hq; simp at hq
                · rw [hq'] at hq; simp at hq; subst hq
                  exact hgap b hb1 (by omega) hlim.1
              · obtain ⟨C', k1, k2, k3, k4⟩ := hp
                have hsh : ∃ ids', (∀ b u e, alive X (fun j => D j ∨ j = i) lo b → (ctxOf (X.st (hh + 1)).σ ids' C'.I).own b u = some e → C'.own b u = some e) ∧ ∀ b u, C'.lim b u → alive X (fun j => D j ∨ j = i) lo b ∧ (ctxOf (X.st (hh + 1)).σ ids' C'.I).lim b u := by
                  rcases hcan with ⟨_, B, rfl, rfl⟩ | rfl
                  · obtain ⟨id, k5, k6⟩ := k4
                    have hnd : B.st ≠ .dead := (k1.ent (X.st i).σ.length B.cells.length B id (by rw [k5]; simp [addOwn])).2.2.2
                    have hb1 := hblk (X.st i).σ.length (Nat.le_refl _) (by rw [hlen]; simp)
                    rw [Nat.sub_self] at hb1
                    refine ⟨fun q => if q = (X.st i).σ.length then id else ids q, fun b u e ha ho' => ?_, fun b u hlim => ?_⟩
                    · rw [k5]
                      by_cases e0 : b = (X.st i).σ.length
                      · subst e0
                        simp only [ctxOf, hb1, blk, if_true] at ho'
                        have hu : B.cells.length = u ∧ (B, id) = e := by
                          cases hs : B.st <;> simp only [hs] at ho' hnd
                          · split at ho' <;> simp at ho'; rename_i h; exact ⟨h, ho'⟩
                          · split at ho' <;> simp at ho'; rename_i h; exact ⟨h, ho'⟩
                          · exact absurd rfl hnd
                        obtain ⟨rfl, rfl⟩ := hu
                        simp [addOwn]
                      · have ha' : alive X D lo b := by
                          rcases (hal' b).1 ha with h | h
                          · exact h
                          · rw [hlen] at h; simp at h; omega
                        simp only [addOwn]
                        rw [if_neg (by omega)]
                        simp only [maskC, ha', if_true]
                        simp only [ctxOf, e0, if_false] at ho'
                        exact ho'
                    · rw [k6] at hlim
                      rcases hlim with ⟨rfl, rfl⟩ | ⟨h1, h2⟩
                      · exact ⟨(hal' _).2 (.inr ⟨Nat.le_refl _, by rw [hlen]; simp⟩), B, hb1, Nat.le_refl _⟩
                      · exact ⟨(hal' _).2 (.inl h1), h2⟩
                  · obtain ⟨ids2, k5, k6⟩ := k4
                    refine ⟨fun q => if (X.st i).σ.length ≤ q ∧ q < (X.st (i + 1)).σ.length then ids2 (q - (X.st i).σ.length) else ids q, fun b u e ha ho' => ?_, fun b u hlim => ?_⟩
                    · rw [k5]
                      dsimp only
                      by_cases e0 : (X.st i).σ.length ≤ b ∧ b < (X.st (i + 1)).σ.length
                      · rw [if_pos (by omega)]
                        simp only [ctxOf, hblk b e0.1 e0.2, e0, and_self, if_true] at ho'
                        exact ho'
                      · have ha' : alive X D lo b := by
                          rcases (hal' b).1 ha with h | h
                          · exact h
                          · exact absurd h e0
                        rw [if_neg (by omega)]
                        simp only [maskC, ha', if_true]
                        simp only [ctxOf, e0, if_false] at ho'
                        exact ho'
                    · rw [k6] at hlim
                      rcases hlim with ⟨h1, B', h2, h3⟩ | ⟨h1, h2⟩
                      · have hlt : b - (X.st i).σ.length < bs.length := by rw [blk_eq] at h2; exact (List.getElem?_eq_some_iff.1 h2).1
                        exact ⟨(hal' _).2 (.inr ⟨h1, by omega⟩), B', by rw [hblk b h1 (by omega)]; exact h2, h3⟩
                      · exact ⟨(hal' _).2 (.inl h1), h2⟩
                refine ⟨C', f, h.after hi hD hb ho k1 (hg2.2.trans k2) htn (by rw [hval]; exact k3) (fun m hm => by rw [haln] at hm; simp at hm) (.inr ⟨lo, hh, ⟨hG.grp, hG.ehi, hG.le, fun e h1 h2 => .inl (hG.before e h1 h2), fun e h1 h2 h3 => ?_, hsh⟩, i, he, hng, .inr rfl⟩)⟩
                rcases h3 with h3 | rfl
                · exact hG.behind e h1 h2 h3
                · omega
          | false =>
            have he : effAt X.ls i = false := by simp [effAt, hl, hE, hWf]
            have hpn := ev_none hE hev
            subst hpn
            cases hP : l.op.isP with
            | false =>
              have htn : tgt X.ls i = none := by
                cases ht : tgt X.ls i with
                | none => rfl
                | some t =>
                  obtain ⟨_, _, l', _, _, _, _, hl', _, hop, _⟩ := X.tgt_spec ht
                  rw [hl] at hl'; simp at hl'; subst hl'
                  rw [hop] at hP; simp [IOp.isP] at hP
              have haln : alcAt X.ls i = none := by
                unfold alcAt; simp only [hl]
                split
                · rename_i m hop; rw [hop] at hP; simp [IOp.isP] at hP
                · rfl
              refine opR hF.op hP hE hWf X.hce h.good (h.sees hi hD hb hl hF hE hWf hP) hR hev _ Q fun v' w' hp => ?_
              obtain ⟨I', k1, k2, k3⟩ := hp
              exact ⟨_, f, h.after hi hD hb ho k1 k2 htn (by rw [hval]; exact k3) (fun m hm => by rw [haln] at hm; simp at hm) (h.fr.noeff he I')⟩
            | true =>
              cases ht : tgt X.ls i with
              | some t =>
                obtain ⟨_, o', l', d, x, m, ho', hl', _, hop, hg', hdst, hd, htd, hal, hbt, huniq⟩ := X.tgt_spec ht
                rw [hl] at hl'; simp at hl'; subst hl'
                rw [ho] at ho'; simp at ho'; subst ho'
                have hnt : ∀ i', D i' → tgt X.ls i' ≠ some t := fun i' hi' e => hD (X.tgt_inj ht e ▸ hi')
                obtain ⟨s, id, c, el, k1, k2, k3, k4, k5, k6, k7⟩ := h.lb t m (hb _ hbt) hal hnt
                rw [hop] at hev
                simp only [ev] at hev
                split at hev
                case isFalse => simp at hev
                rename_i hc
                simp only [Bool.and_eq_true, beq_iff_eq] at hc
                simp at hev
                have hop' := hF.op
                rw [hop] at hop'
                obtain ⟨y, q1, q2⟩ := opI hop' (w := w) (a := a) (C := C) (r := rv X.vars (X.st i).env) (id := id) (c := c) (el := el) (fun q hq => by
                  unfold okRef at hq
                  split at hq
                  · rename_i s' d' heq
                    simp only [Rf.t.injEq] at heq; subst heq
                    simp only [Bool.and_eq_true, beq_iff_eq] at hq
                    have hs' := hq.1.2
                    rw [← htd] at hs'
                    simp only [slotOf, alc_tgt hal, k1, Option.some.injEq] at hs'
                    subst hs'
                    exact k2
                  all_goals (rename_i heq; first | (simp at heq; done) | (simp at hq; done) | skip)) k6 k7 (fun q hq => hR q x hq) hc.1 hc.2
                refine q2 _ Q fun v' w' hp => ?_
                obtain ⟨c', rfl, z1, z2⟩ := hp
                rw [hdst]
                exact ⟨_, f, h.fill hi hD hb hl hop ht (by rw [hval, ← hev]) hc.1 q1 k1 k2 k3 k4 k5 k6 z1 z2⟩
              | none =>
                cases hal : alcAt X.ls i with
                | some m =>
                  have hop : l.op = .alc0 m := by
                    unfold alcAt at hal; simp only [hl] at hal
                    split at hal
                    · rename_i m' hop; simp at hal; rw [hop, hal]
                    · simp at hal
                  have hop' := hF.op
                  rw [hop] at hop' hev
                  simp [ev] at hev
                  have hds := hF.ini
                  simp only [okIni, hop, Bool.and_eq_true] at hds
                  obtain ⟨s, hs⟩ := Option.isSome_iff_exists.1 hds.2
                  refine opA (w := w) (a := a) (C := C) hop' h.good _ Q fun v' w' hp => ?_
                  obtain ⟨p1, p2, id, c, el, p3⟩ := hp
                  exact ⟨C, f, h.after hi hD hb ho p1 p2 ht (by rw [hval, ← hev]; unfold VR; trivial) (fun m' hm' => by
                    rw [hal] at hm'; simp at hm'; subst hm'
                    exact ⟨⟨s, hs⟩, id, c, el, p3⟩) (h.fr.noeff he C.I)⟩
                | none =>
                  have hni : l.op.isIni = false := by
                    cases hop : l.op with
                    | alc0 m => simp [alcAt, hl, hop] at hal
                    | ini p x n =>
                      have := hF.ini
                      cases p with
                      | t d => simp [tgt, hl, hop] at ht
                      | v k => simp [okIni, hop] at this
                      | c x => simp [okIni, hop] at this
                    | _ => rfl
                  obtain ⟨q1, _⟩ := opP (w := w) (a := a) (C := C) hF.op hP hni X.hce X.hbd h.good hR rfl hev
                  refine q1 _ Q fun v' w' hp => ?_
                  obtain ⟨I', k1, k2, k3⟩ := hp
                  exact ⟨_, f, h.after hi hD hb ho k1 k2 ht (by rw [hval]; exact k3) (fun m hm => by rw [hal] at hm; simp at hm) (h.fr.noeff he I')⟩
end
end Ab
namespace Ab
open Go
variable {P : Program}

/-- A state stands for a frame and a world. -/
structure Rel (sl : List Nat) (nt : Nat) (ds : List Deferred) (s : St) (C : Ctx) (a : Act) (w : World) : Prop where
  good : Good C w
  size : a.tmps.size = nt
  defers : a.defers = ds
  vars : ∀ k t, sl[k]? = some t → VR C w.heap (nth s.vars k) (a.tmps.getD t undef)
  fl : ∀ t v, s.fl = some (t, v) → VR C w.heap v (a.tmps.getD t undef)

/-- The end of a region. -/
def okEnd (ops : List Oper) (ls : List Ln) (sl : List Nat) (r : Reg) : Bool :=
  (r.outs.all fun (k, d) => decide (d < ls.length) && match sl[k]? with | some t => slotOf ops ls (ls.length - 1 - d) == some t | none => true) &&
  ((List.range sl.length).all fun k => r.kills.any (· == k) || r.outs.any (·.1 == k) || (List.range ls.length).all fun j => match sl[k]?, dstAt ops j with | some t, some t' => t != t' | _, _ => true) &&
  (match r.fl with | some (t, d) => decide (d < ls.length) && slotOf ops ls (ls.length - 1 - d) == some t | none => true)

def okReg (P : Program) (draw : Bool) (ops : List Oper) (sl : List Nat) (nt : Nat) (r : Reg) : Bool :=
  ops.length == r.ls.length && ((List.range r.ls.length).all (okLine P draw (befs ops) ops r.ls sl nt)) && okEnd ops r.ls sl r && (!draw || ops.all fun o => match o.op with | .select .. => false | _ => true)

theorem nth_setN {l : List AV} {k n : Nat} {x : AV} : nth (setN l k x) n = if n = k ∧ k < l.length then x else nth l n := by
  rw [nth_eq, setN_eq, nth_eq, List.getElem?_set]
  by_cases e : k = n
  · subst e
    by_cases h : k < l.length
    · simp [h]
    · simp [h, List.getElem?_eq_none (Nat.le_of_not_lt h)]
  · rw [if_neg e, if_neg (fun h => e h.1.symm)]
theorem kills_nth {Q : AV → Prop} (hu : Q .und) {k : Nat} : ∀ (ks : List Nat) (vs : List AV), (k ∉ ks → Q (nth vs k)) → Q (nth (kills ks vs) k)
  | [], vs, h => h (by simp)
  | k' :: ks, vs, h => by
    unfold kills
    refine kills_nth hu ks _ fun hk => ?_
    rw [nth_setN]
    by_cases e : k = k' ∧ k' < vs.length
    · rw [if_pos e]; exact hu
    · rw [if_neg e]
      by_cases e' : k = k'
      · have : vs.length ≤ k := by omega
        rw [nth_eq, List.getElem?_eq_none this]; exact hu
      · exact h (by simp [e', hk])
theorem outs_nth {Q : AV → Prop} (hu : Q .und) {env : List AV} {k : Nat} : ∀ (os : List (Nat × Nat)) (vs : List AV), (∀ d, (k, d) ∈ os → Q (nth env d)) → ((∀ d, (k, d) ∉ os) → Q (nth vs k)) → Q (nth (outs env os vs) k)
  | [], vs, _, h => h (by simp)
  | (k', d') :: os, vs, h1, h2 => by
    unfold outs
    refine outs_nth hu os _ (fun d hd => h1 d (by simp [hd])) fun hn => ?_
    rw [nth_setN]
    by_cases e : k = k' ∧ k' < vs.length
    · rw [if_pos e]; exact h1 d' (by simp [e.1])
    · rw [if_neg e]
      by_cases e' : k = k'
      · have : vs.length ≤ k := by omega
        rw [nth_eq, List.getElem?_eq_none this]; exact hu
      · exact h2 fun d hd => by
          rcases List.mem_cons.1 hd with h | h
          · simp at h; exact e' h.1
          · exact hn d h

section
variable {X : RC P} {C0 : Ctx} {w0 : World} {ds : List Deferred}

/-- Everything is done. -/
theorem Inv.full {D : Nat → Prop} {C : Ctx} {f : Nat} {a : Act} {w : World} (h : Inv X C0 w0 ds D C f a w) (hD : ∀ j, j < X.ls.length → D j) {r : Reg} (hr : r.ls = X.ls) (hend : okEnd X.ops X.ls X.sl r = true) {vs : List AV}
    (hvs : vs = X.vars) (fl : Option (Nat × AV)) (hfl : fl = match r.fl with | some (t, d) => some (t, nth (X.st X.ls.length).env d) | none => none) :
    ∃ ids I, Rel X.sl X.nt ds { vars := kills r.kills (outs (X.st X.ls.length).env r.outs vs), fl, σ := (X.st X.ls.length).σ } (ctxOf (X.st X.ls.length).σ ids I) a w ∧ Step C0 w0 (ctxOf (X.st X.ls.length).σ ids I) w := by
  subst hvs
  obtain ⟨f, hN⟩ : ∃ f, FrontN X D C f := by
    rcases h.fr with hN | ⟨lo, hi, hG, _⟩
    · exact ⟨_, hN⟩
    · exact ⟨_, hG.done fun k hk _ => hD k (X.eff_lt hk)⟩
  have hσ : (X.st X.ls.length).σ = (X.st f).σ := (X.same' (p := f) hN.fle (Nat.le_refl _) fun j h1 h2 => by
    cases hj : effAt X.ls j with
    | false => rfl
    | true => exact absurd (hD j h2) (hN.hi j h1 hj)).1
  obtain ⟨ids, g1, g2⟩ := hN.shows.take h.good
  rw [hσ]
  refine ⟨ids, C.I, ⟨g1, h.size, h.defers, fun k t hk => ?_, fun t v hv => ?_⟩, h.step.trans g2⟩
  · simp only [okEnd, Bool.and_eq_true, List.all_eq_true, decide_eq_true_eq] at hend
    obtain ⟨⟨e1, e2⟩, _⟩ := hend
    refine kills_nth (Q := fun x => VR (ctxOf (X.st f).σ ids C.I) w.heap x (a.tmps.getD t undef)) (by unfold VR; trivial) _ _ fun hnk => ?_
    refine outs_nth (Q := fun x => VR (ctxOf (X.st f).σ ids C.I) w.heap x (a.tmps.getD t undef)) (by unfold VR; trivial) _ _ (fun d hd => ?_) fun hno => ?_
    · have := e1 _ hd
      simp only [hk, beq_iff_eq] at this
      rw [X.envAt (Nat.le_refl _) this.1]
      exact VR.mono g2.ev _ _ (h.tv _ t (hD _ (by omega)) this.2)
    · have hkl : k < X.sl.length := (List.getElem?_eq_some_iff.1 hk).1
      have := e2 k (List.mem_range.2 hkl)
      simp only [Bool.or_eq_true, List.any_eq_true, beq_iff_eq, List.all_eq_true, List.mem_range] at this
      rcases this with (⟨x, hx, rfl⟩ | ⟨x, hx, rfl⟩) | hd
      · exact absurd hx hnk
      · exact absurd hx (hno x.2)
      · refine VR.mono g2.ev _ _ (h.vv k t hk fun j hj hdj => ?_)
        have := hd j (h.below j hj)
        simp [hk, hdj] at this
  · simp only [okEnd, Bool.and_eq_true, List.all_eq_true, decide_eq_true_eq] at hend
    obtain ⟨_, e3⟩ := hend
    subst hfl
    simp only at hv
    cases hrf : r.fl with
    | none => simp [hrf] at hv
    | some td =>
      obtain ⟨t', d⟩ := td
      simp only [hrf, Option.some.injEq, Prod.mk.injEq] at hv
      obtain ⟨rfl, rfl⟩ := hv
      simp only [hrf, Bool.and_eq_true, decide_eq_true_eq, beq_iff_eq] at e3
      rw [X.envAt (Nat.le_refl _) e3.1]
      exact VR.mono g2.ev _ _ (h.tv _ t' (hD _ (by omega)) e3.2)

/-- What is listed has all that comes before it listed. -/
theorem before_of {i : Nat} {D : Nat → Prop} (hdr : X.draw = true) {o : Oper} {l : Ln} (ho : X.ops[i]? = some o) (hF : Facts X i o l) (hcl : ∀ i j, D j → bfr X.draw X.bf i j = true → D i)
    (hd : ∀ e ∈ o.after.toList, Region.binds .any e = true → D e.on) : ∀ j, bfr X.draw X.bf j i = true → D j := fun j hj => by
  have hb := hF.bf
  simp only [okBf, hdr, if_true, Bool.and_eq_true, beq_iff_eq] at hb
  have hj' := hj
  simp only [bfr, hdr, if_true, hb.1, Option.getD_some] at hj'
  rcases mask_fold X.bf j o.after.toList 0 hj' with h | ⟨e, h1, h2, h3⟩
  · simp at h
  · rcases h3 with rfl | h3
    · exact hd e h1 h2
    · exact hcl j e.on (hd e h1 h2) (by simp only [bfr, hdr, if_true]; exact h3)

theorem Inv.mk0 {ids : Nat → Nat} {I : Nat → Prop} {s : St} {a : Act} {w : World} (hv : X.vars = s.vars) (hσ : X.σ0 = s.σ) (h : Rel X.sl X.nt ds s (ctxOf s.σ ids I) a w) : Inv X (ctxOf s.σ ids I) w ds (fun _ => False) (ctxOf s.σ ids I) 0 a w := by
  refine ⟨h.good, Step.refl _ _, h.size, h.defers, fun _ h => h.elim, fun _ _ h => h.elim, fun _ _ h => h.elim, fun k t hk _ => by rw [hv]; exact h.vars k t hk, fun _ _ h => h.elim, fun _ _ _ _ _ _ _ h => h.elim, .inl ⟨Nat.zero_le _, fun _ h => absurd h (Nat.not_lt_zero _), fun _ _ _ h => h, ?_, fun h => absurd h (Nat.lt_irrefl _)⟩⟩
  rw [X.st0, hσ]
  exact shows_ctx _ _ _

/-- In the text's order. -/
theorem run_range {Q : Exit → Act → World → Prop} (hdr : X.draw = false) (hQ : ∀ D C f a w, Inv X C0 w0 ds D C f a w → (∀ j, j < X.ls.length → D j) → Q .normal a w) :
    ∀ (k : Nat) (D : Nat → Prop) (C : Ctx) (f : Nat) (a : Act) (w : World), k ≤ X.ls.length → (∀ j, D j ↔ j < X.ls.length - k) → Inv X C0 w0 ds D C f a w → wpOps P X.ops.toArray Q (List.range' (X.ls.length - k) k) a w
  | 0, D, C, f, a, w, _, hD, h => by
    simp only [List.range'_zero, wpOps]
    exact hQ D C f a w h fun j hj => (hD j).2 (by omega)
  | k + 1, D, C, f, a, w, hk, hD, h => by
    rw [List.range'_succ, wpOps_cons]
    have e : X.ls.length - (k + 1) + 1 = X.ls.length - k := by omega
    rw [e]
    have hbf : ∀ j, bfr X.draw X.bf j (X.ls.length - (k + 1)) = true → D j := fun j hj => (hD j).2 (by
      simp only [bfr, hdr, Bool.false_eq_true, if_false, decide_eq_true_eq] at hj
      exact hj)
    refine wpOp_mono (fun a' w' ⟨C', f', h'⟩ => run_range hdr hQ k _ C' f' a' w' (by omega) (fun j => ?_) h') (h.next (i := X.ls.length - (k + 1)) (by omega) (fun hd => by have := (hD _).1 hd; omega) hbf Q)
    · constructor
      · rintro (q | rfl)
        · have := (hD j).1 q; omega
        · omega
      · intro q
        by_cases e' : j = X.ls.length - (k + 1)
        · exact .inr e'
        · exact .inl ((hD j).2 (by omega))

/-- In any order. -/
theorem run_any {Q : Exit → Act → World → Prop} (hdr : X.draw = true) (hQ : ∀ D C f a w, Inv X C0 w0 ds D C f a w → (∀ j, j < X.ls.length → D j) → Q .normal a w) :
    ∀ (k : Nat) (listed : Array Bool) (C : Ctx) (f : Nat) (a : Act) (w : World), listed.size = X.ls.length → (listed.toList.filter (· == false)).length ≤ k → Inv X C0 w0 ds (fun j => listed[j]? = some true) C f a w →
      wpAny P .any X.ops.toArray Q k listed a w := by
  have hnil : ∀ (listed : Array Bool), listed.size = X.ls.length → Region.ready .any X.ops.toArray listed = [] → ∀ j, j < X.ls.length → listed[j]? = some true := by
    intro listed hs hr j
    induction j using Nat.strongRecOn with
    | ind j ih =>
      intro hj
      obtain ⟨o, l, ho, hl, hF⟩ := X.at_ hj
      have hb := hF.bf
      simp only [okBf, hdr, if_true, Bool.and_eq_true, List.all_eq_true, Bool.or_eq_true, Bool.not_eq_true', decide_eq_true_eq] at hb
      have hnot : j ∉ Region.ready .any X.ops.toArray listed := by rw [hr]; simp
      simp only [Region.ready, List.mem_filter, List.mem_range, List.size_toArray, X.len, Array.getD_eq_getD_getElem?, List.getElem?_toArray, ho, Option.map_some, Option.getD_some, Bool.and_eq_true, Bool.not_eq_true', not_and] at hnot
      cases hlj : listed[j]? with
      | none => rw [Array.getElem?_eq_none_iff] at hlj; omega
      | some b =>
        cases b with
        | true => rfl
        | false =>
          exfalso
          refine absurd ?_ (hnot hj (by rw [hlj]; rfl))
          rw [← Array.all_toList]
          simp only [List.all_eq_true, Bool.or_eq_true, Bool.not_eq_true']
          intro e he
          cases hbe : Region.binds .any e with
          | false => exact .inl rfl
          | true =>
            right
            have hlt : e.on < j := (hb.2 e he).resolve_left (by rw [hbe]; simp)
            rw [ih e.on hlt (by omega)]; rfl
  have hin : ∀ (listed : Array Bool) i, listed.size = X.ls.length → i ∈ Region.ready .any X.ops.toArray listed → i < X.ls.length ∧ listed[i]? = some false ∧ ∀ o, X.ops[i]? = some o → ∀ e ∈ o.after.toList, Region.binds .any e = true → listed[e.on]? = some true := by
    intro listed i hs hi
    simp only [Region.ready, List.mem_filter, List.mem_range, List.size_toArray, X.len, Array.getD_eq_getD_getElem?, List.getElem?_toArray, Bool.and_eq_true, Bool.not_eq_true'] at hi
    obtain ⟨h1, h2, h3⟩ := hi
    refine ⟨h1, ?_, fun o ho e he hbe => ?_⟩
    · cases hli : listed[i]? with
      | none => rw [Array.getElem?_eq_none_iff] at hli; omega
      | some b => rw [hli] at h2; simp at h2; rw [h2]
    · rw [ho] at h3
      simp only [Option.map_some, Option.getD_some] at h3
      rw [← Array.all_toList] at h3
      simp only [List.all_eq_true, Bool.or_eq_true, Bool.not_eq_true'] at h3
      rcases h3 e he with h | h
      · rw [hbe] at h; simp at h
      · cases hle : listed[e.on]? with
        | none => rw [hle] at h; simp at h
        | some b => rw [hle] at h; simp at h; rw [h]
  intro k
  induction k with
  | zero =>
    intro listed C f a w hs hk h
    have hall : ∀ j, j < X.ls.length → listed[j]? = some true := fun j hj => by
      cases hlj : listed[j]? with
      | none => rw [Array.getElem?_eq_none_iff] at hlj; omega
      | some b =>
        cases b with
        | true => rfl
        | false =>
          have : false ∈ listed.toList.filter (· == false) := by
            rw [List.mem_filter]
            exact ⟨by rw [Array.mem_toList_iff]; exact Array.mem_of_getElem? hlj, rfl⟩
          have := List.length_pos_of_mem this
          omega
    refine ⟨?_, hQ _ C f a w h hall⟩
    cases hr : Region.ready .any X.ops.toArray listed with
    | nil => rfl
    | cons i r =>
      obtain ⟨h1, h2, _⟩ := hin listed i hs (by rw [hr]; simp)
      rw [hall i h1] at h2; simp at h2
  | succ k ih =>
    intro listed C f a w hs hk h
    refine ⟨fun hr => hQ _ C f a w h (hnil listed hs hr), fun i hi => ?_⟩
    obtain ⟨h1, h2, h3⟩ := hin listed i hs hi
    obtain ⟨o, l, ho, hl, hF⟩ := X.at_ h1
    have hilt : i < listed.size := by omega
    refine wpOp_mono (fun a' w' ⟨C', f', h'⟩ => ih _ C' f' a' w' (by simp [hs]) ?_ ?_) (h.next h1 (by rw [h2]; simp) (before_of hdr ho hF h.closed (h3 o ho)) Q)
    · have hset : (listed.setIfInBounds i true).toList = listed.toList.set i true := by simp
      rw [hset]
      have hcnt : ∀ (l : List Bool) (n : Nat), l[n]? = some false → ((l.set n true).filter (· == false)).length + 1 = (l.filter (· == false)).length := by
        intro l
        induction l with
        | nil => intro n hn; simp at hn
        | cons x r ih =>
          intro n hn
          cases n with
          | zero => simp at hn; subst hn; simp
          | succ n =>
            simp at hn
            have := ih n hn
            cases x <;> simp_all
      have := hcnt listed.toList i (by rw [Array.getElem?_toList]; exact h2)
      omega
    · have : (fun j => listed[j]? = some true ∨ j = i) = fun j => (listed.setIfInBounds i true)[j]? = some true := by
        funext j
        rw [Array.getElem?_setIfInBounds]
        by_cases e : i = j
        · subst e; simp [hilt]
        · have e' : j ≠ i := fun q => e q.symm
          simp [e, e']
      rw [← this]; exact h'
end

/-- **A region.** -/
theorem reg_wp {draw : Bool} {ops : List Oper} {sl : List Nat} {nt : Nat} {r : Reg} {ce : CE} {s s' : St} {id : Nat} {ds : List Deferred} {ids : Nat → Nat} {I : Nat → Prop} {a : Act} {w : World} {Q : Exit → Act → World → Prop} (hm : P.follows .mixedOrders = true)
    (hok : okReg P draw ops sl nt r = true) (hce : CallOk P ce) (hbd : HasBody P ce) (hr : runReg ce r s = some s') (h : Rel sl nt ds s (ctxOf s.σ ids I) a w)
    (hQ : ∀ ids' I' a' w', Rel sl nt ds s' (ctxOf s'.σ ids' I') a' w' → Step (ctxOf s.σ ids I) w (ctxOf s'.σ ids' I') w' → Q .normal a' w') : (Code.region id ops.toArray draw).wp P Q a w := by
  simp only [okReg, Bool.and_eq_true, beq_iff_eq, List.all_eq_true, List.mem_range] at hok
  obtain ⟨⟨⟨o1, o2⟩, o3⟩, _⟩ := hok
  unfold runReg at hr
  cases hl : lines ce s.vars r.ls ⟨[], s.σ, s.σ⟩ with
  | none => simp [hl] at hr
  | some q =>
    simp only [hl, Option.some.injEq] at hr
    obtain ⟨st, e0, en, hst⟩ := lines_states hl
    let X : RC P := ⟨draw, befs ops, ops, r.ls, sl, nt, ce, s.vars, s.σ, st, o1, o2, e0, hst, hce, hbd⟩
    have fin : ∀ (w1 : World) (hw : Step (ctxOf s.σ ids I) w (ctxOf s.σ ids I) w1) D C f a w', Inv X (ctxOf s.σ ids I) w1 ds D C f a w' → (∀ j, j < X.ls.length → D j) → Q .normal a w' := by
      intro w1 hw D C f a' w' hi hD
      obtain ⟨ids', I', k1, k2⟩ := hi.full hD (r := r) rfl o3 (vs := s.vars) rfl _ rfl
      have e : (X.st X.ls.length) = q := en
      rw [e] at k1 k2
      rw [← hr] at hQ
      exact hQ ids' I' a' w' k1 (hw.trans k2)
    cases draw with
    | false =>
      refine wp_region ?_
      have := run_range (X := X) (Q := Q) rfl (fin w (Step.refl _ _)) X.ls.length (fun _ => False) _ 0 a w (Nat.le_refl _) (fun j => by simp) (Inv.mk0 rfl rfl h)
      rw [Nat.sub_self] at this
      rw [List.size_toArray, o1, List.range_eq_range']
      exact this
    | true =>
      refine wp_region_any hm ?_
      have hd : Step (ctxOf s.σ ids I) w (ctxOf s.σ ids I) { w with drawn := w.drawn + 1 } := ⟨Evol.refl _ _, Nat.le_refl _, fun _ _ _ => rfl, fun _ h => .inl h, fun _ h => .inl h, rfl, ⟨rfl, Nat.le_succ _⟩, rfl⟩
      have h' : Rel sl nt ds s (ctxOf s.σ ids I) a { w with drawn := w.drawn + 1 } := ⟨⟨h.good.I, h.good.ent, h.good.live, h.good.apart⟩, h.size, h.defers, h.vars, h.fl⟩
      rw [List.size_toArray, o1]
      refine run_any (X := X) rfl (fin _ hd) r.ls.length (Array.replicate r.ls.length false) (ctxOf s.σ ids I) 0 a _ (by simp [X]) (Nat.le_trans (List.length_filter_le _ _) (by simp)) ?_
      have e : (fun _ : Nat => False) = fun j : Nat => (Array.replicate r.ls.length false)[j]? = some true := by
        funext j
        simp [Array.getElem?_replicate]
      rw [← e]
      exact Inv.mk0 rfl rfl h'
end Ab
