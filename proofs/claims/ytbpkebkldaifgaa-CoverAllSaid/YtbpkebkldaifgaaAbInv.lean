/- What holds in the midst of a region. Condition: none. -/
import Derived.Test.YtbpkebkldaifgaaAbReg
set_option linter.all false
namespace Ab
open Go
variable {P : Program}

/-- The effects before f are done, no others. -/
structure FrontN (X : RC P) (D : Nat → Prop) (C : Ctx) (f : Nat) : Prop where
  fle : f ≤ X.ls.length
  lo : ∀ e, e < f → effAt X.ls e = true → D e
  hi : ∀ e, f ≤ e → effAt X.ls e = true → ¬ D e
  shows : Shows C (X.st f).σ
  last : 0 < f → effAt X.ls (f - 1) = true ∧ (eAt X.ls (f - 1) = true → Seen C (X.st (f - 1)).σ)
/-- The blocks that are there: those before lo, and those of the group's effects that are done. -/
def alive (X : RC P) (D : Nat → Prop) (lo : Nat) (b : Nat) : Prop := b < (X.st lo).σ.length ∨ ∃ i, effAt X.ls i = true ∧ inG X.ls X.draw X.bf i = true ∧ D i ∧ (X.st i).σ.length ≤ b ∧ b < (X.st (i + 1)).σ.length
/-- Some of the group of unordered effects are done, and all effects before it, none behind it. -/
structure FrontG (X : RC P) (D : Nat → Prop) (C : Ctx) (lo hi : Nat) : Prop where
  grp : ∀ k, inG X.ls X.draw X.bf k = true ↔ lo ≤ k ∧ k ≤ hi
  ehi : effAt X.ls hi = true
  le : lo ≤ hi
  before : ∀ e, e < lo → effAt X.ls e = true → D e
  behind : ∀ e, hi < e → effAt X.ls e = true → ¬ D e
  shows : ∃ ids, (∀ b u e, alive X D lo b → (ctxOf (X.st (hi + 1)).σ ids C.I).own b u = some e → C.own b u = some e) ∧ ∀ b u, C.lim b u → alive X D lo b ∧ (ctxOf (X.st (hi + 1)).σ ids C.I).lim b u
def Front (X : RC P) (D : Nat → Prop) (C : Ctx) (f : Nat) : Prop := FrontN X D C f ∨ ∃ lo hi, FrontG X D C lo hi ∧ ∃ k, effAt X.ls k = true ∧ inG X.ls X.draw X.bf k = true ∧ D k
/-- The region has got so far: D is what was carried out; what is known of memory is C, and the effects before f are done. -/
structure Inv (X : RC P) (C0 : Ctx) (w0 : World) (ds : List Deferred) (D : Nat → Prop) (C : Ctx) (f : Nat) (a : Act) (w : World) : Prop where
  good : Good C w
  step : Step C0 w0 C w
  size : a.tmps.size = X.nt
  defers : a.defers = ds
  below : ∀ j, D j → j < X.ls.length
  closed : ∀ i j, D j → bfr X.draw X.bf i j = true → D i
  tv : ∀ j s, D j → slotOf X.ops X.ls j = some s → VR C w.heap (valOf X.st j) (a.tmps.getD s undef)
  vv : ∀ k s, X.sl[k]? = some s → (∀ j, D j → dstAt X.ops j ≠ some s) → VR C w.heap (nth X.vars k) (a.tmps.getD s undef)
  lb : ∀ j m, D j → alcAt X.ls j = some m → (∀ i, D i → tgt X.ls i ≠ some j) → ∃ s id c el, dstAt X.ops j = some s ∧ a.tmps.getD s undef = .pointer (some ⟨id, 0, none⟩) ∧ w0.heap.size ≤ id ∧ ¬ C.I id ∧ ¬ owned C id ∧
    w.heap[id]? = some (.cells c el (0, 0)) ∧ c.size = m
  lbd : ∀ j j' m m' s s' id, D j → D j' → alcAt X.ls j = some m → alcAt X.ls j' = some m' → (∀ i, D i → tgt X.ls i ≠ some j) → (∀ i, D i → tgt X.ls i ≠ some j') → dstAt X.ops j = some s → dstAt X.ops j' = some s' → j ≠ j' →
    a.tmps.getD s undef = .pointer (some ⟨id, 0, none⟩) → a.tmps.getD s' undef ≠ .pointer (some ⟨id, 0, none⟩)
  fr : Front X D C f

section
variable {X : RC P} {C0 : Ctx} {w0 : World} {ds : List Deferred} {D : Nat → Prop} {C : Ctx} {f : Nat} {a : Act} {w : World}

/-- An operation's operands stand for what the lines say. -/
theorem Inv.ref (h : Inv X C0 w0 ds D C f a w) {i : Nat} (hi : i < X.ls.length) (hD : ¬ D i) (hb : ∀ j, bfr X.draw X.bf j i = true → D j) {x : Operand} {y : Rf} (hr : okRef X.draw X.bf X.ops X.ls X.sl i x y = true) :
    VR C w.heap (rv X.vars (X.st i).env y) (a.eval x) := by
  unfold okRef at hr
  split at hr
  · simp only [Bool.and_eq_true, decide_eq_true_eq, beq_iff_eq] at hr
    obtain ⟨⟨h1, h2⟩, h3⟩ := hr
    show VR C w.heap (nth (X.st i).env _) (a.tmps.getD _ undef)
    rw [X.envAt (by omega) h1]
    exact h.tv _ _ (hb _ h3) h2
  · rename_i s k
    simp only [Bool.and_eq_true, beq_iff_eq, List.all_eq_true, List.mem_range, Bool.or_eq_true, Bool.not_eq_true', beq_eq_false_iff_ne] at hr
    refine h.vv k s hr.1 fun j hj hd => ?_
    rcases hr.2 j (by rw [X.len]; exact h.below j hj) with h1 | h1
    · exact h1 hd
    · exact hD (h.closed _ _ hj h1)
  · exact constIs_VR hr
  · simp only [beq_iff_eq] at hr
    subst hr
    show VR C w.heap (.func _ []) (.func (.func _) #[] #[])
    unfold VR
    exact ⟨[], rfl, rfl⟩
  · simp at hr

/-- Whether it is carried out. -/
theorem Inv.wanted (h : Inv X C0 w0 ds D C f a w) {i : Nat} (hi : i < X.ls.length) (hb : ∀ j, bfr X.draw X.bf j i = true → D j) {o : Oper} {l : Ln} (hF : Facts X i o l) {b : Bool} (hw : want X.vars (X.st i).env l.g = some b) :
    Region.wanted o (yielded X.ops.toArray a.tmps) = b := by
  have hg := hF.g
  unfold okGuard at hg
  split at hg
  · rename_i h1 h2
    rw [h2] at hw
    simp [want] at hw; subst hw
    unfold Region.wanted; rw [h1]
  · rename_i j b1 d b2 h1 h2
    simp only [Bool.and_eq_true, beq_iff_eq, decide_eq_true_eq, Option.isNone_iff_eq_none] at hg
    obtain ⟨⟨⟨⟨⟨rfl, hd⟩, rfl⟩, ht⟩, hsome⟩, hbf⟩ := hg
    rw [h2] at hw
    simp only [want, rv, X.envAt (Nat.le_of_lt hi) hd] at hw
    unfold Region.wanted; rw [h1]
    simp only
    have hDj := hb _ hbf
    have hval : ∀ s, dstAt X.ops (i - 1 - d) = some s → VR C w.heap (valOf X.st (i - 1 - d)) (a.tmps.getD s undef) := fun s hs => h.tv _ s hDj (by simp only [slotOf, ht]; exact hs)
    have hy : yielded X.ops.toArray a.tmps (i - 1 - d) = match (dstAt X.ops (i - 1 - d)).bind (a.tmps[·]?) with
        | some (.bool b) => some b
        | _ => none := by
      unfold yielded dstAt
      simp only [List.getElem?_toArray]
      rfl
    rw [hy]
    cases hds : dstAt X.ops (i - 1 - d) with
    | none => rw [hds] at hsome; simp at hsome
    | some s =>
      have hv := hval s hds
      simp only [Option.bind_some]
      cases hq : valOf X.st (i - 1 - d) <;> simp only [hq] at hw <;> try (simp at hw; done)
      · rw [hq] at hv
        have hv : a.tmps.getD s undef = .bool _ := hv
        simp at hw; subst hw
        have : a.tmps[s]? = some (.bool ‹Bool›) := by
          rw [Array.getD_eq_getD_getElem?] at hv
          cases ht' : a.tmps[s]? with
          | none => rw [ht'] at hv; simp [undef] at hv
          | some v => rw [ht'] at hv; simp at hv; rw [hv]
        rw [this]
        simp
      · rename_i tl
        cases tl with
        | cons _ _ => simp at hw
        | nil =>
          simp at hw; subst hw
          rw [hq] at hv
          unfold VR at hv
          obtain ⟨vs, e1, e2⟩ := hv
          have e2 : vs = [] := e2
          subst e2
          rw [Array.getD_eq_getD_getElem?] at e1
          cases ht' : a.tmps[s]? with
          | none => rfl
          | some v => rw [ht'] at e1; simp at e1; rw [e1]; rfl
  · simp at hg
end
end Ab
