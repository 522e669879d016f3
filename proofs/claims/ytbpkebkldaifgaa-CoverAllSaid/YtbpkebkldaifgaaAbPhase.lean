/- One operation of a phase, whatever it is. Condition: the callees answer as the interpreter says. -/
import Derived.Test.YtbpkebkldaifgaaAbClr
set_option linter.all false
namespace Ab
open Go
variable {P : Program}
section
variable {a : Act} {r : Rf → AV} {w : World} {C : Ctx} {R : Operand → Rf → Bool} {ce : CE} {σ : List Blk} {nl : Nat} {ps : List Pend}

theorem dp_mv {o : Oper} {x0 : Operand} {y : Rf} {x : AV} {p : Option Pend} (ho : o.op = .move x0 ∨ o.op = .assign x0) (hg : Good C w) (h0 : VR C w.heap (r y) (a.eval x0)) (he : ev ce σ nl ps r (.mv y) = some (x, p)) :
    Does P o a w (PostP C w x) ∧ p = none := by
  simp [ev] at he; obtain ⟨rfl, rfl⟩ := he
  refine ⟨Does.val (v := a.eval x0) (w' := w) ?_ (PostP.same hg h0), rfl⟩
  rcases ho with ho | ho <;> simp only [execOp, ho, Sem.run_pure]

/-- Operations that are treated where they stand in their region. -/
def IOp.isIni : IOp → Bool
  | .alc0 _ | .ini .. => true
  | _ => false

/-- **An operation that looks at no owned block.** -/
theorem opP {o : Oper} {iop : IOp} {x : AV} {p : Option Pend} (hok : okOp P R o.op iop = true) (hP : iop.isP = true) (hni : iop.isIni = false) (hce : CallOk P ce) (hbd : HasBody P ce) (hg : Good C w)
    (hR : ∀ x y, R x y = true → VR C w.heap (r y) (a.eval x)) (hr0 : r (.c (.int 0)) = .int 0) (he : ev ce σ nl ps r iop = some (x, p)) : Does P o a w (PostP C w x) ∧ p = none := by
  obtain ⟨dst, op, type, pos, after, guard⟩ := o
  have pl : ∀ {x' : AV} {p' : Option Pend}, Plain P a.eval ⟨dst, op, type, pos, after, guard⟩ w C w.heap x' ∧ p' = none → Does P ⟨dst, op, type, pos, after, guard⟩ a w (PostP C w x') ∧ p' = none := fun h => ⟨h.1.does hg, h.2⟩
  simp only [okOp] at hok
  split at hok
  · exact dp_mv (.inl rfl) hg (hR _ _ hok) he
  · exact dp_mv (.inr rfl) hg (hR _ _ hok) he
  · simp [IOp.isP] at hP
  · simp only [Bool.and_eq_true] at hok
    exact pl (pl_bin rfl hok.1.1 (hR _ _ hok.1.2) (hR _ _ hok.2) he)
  · simp only [Bool.and_eq_true] at hok
    exact pl (pl_beq rfl hok.1.1.1 hok.1.1.2 (hR _ _ hok.1.2) (hR _ _ hok.2) he)
  · simp [IOp.isP] at hP
  · exact pl (pl_not rfl (hR _ _ hok) he)
  · exact pl (pl_neg rfl (hR _ _ hok) hr0 he)
  · simp only [Bool.and_eq_true] at hok
    exact pl (pl_pick rfl (hR _ _ hok.1.1) (hR _ _ hok.1.2) (hR _ _ hok.2) he)
  · split at hok
    · rename_i ha hat
      simp only [Bool.and_eq_true] at hok
      exact pl (pl_len rfl rfl ha hat hok.1 (hR _ _ hok.2) he)
    · simp at hok
  · split at hok
    · rename_i ha
      simp only [Bool.and_eq_true] at hok
      exact pl (pl_mx (m := true) rfl rfl ha (hR _ _ hok.1) (hR _ _ hok.2) he)
    · simp at hok
  · split at hok
    · rename_i ha
      simp only [Bool.and_eq_true] at hok
      exact pl (pl_mx (m := false) rfl rfl ha (hR _ _ hok.1) (hR _ _ hok.2) he)
    · simp at hok
  · simp only [Bool.and_eq_true] at hok
    obtain ⟨h1, h2⟩ := hok
    split at h1
    · rename_i fs hs
      split at h1
      · rename_i fl hf
        simp only [Bool.and_eq_true, beq_iff_eq, Bool.not_eq_true'] at h1
        exact pl (pl_fad rfl hs hf h1.1.1 h1.1.2 h1.2 (hR _ _ h2) he)
      · simp at h1
    · simp at h1
  · simp only [Bool.and_eq_true] at hok
    obtain ⟨h1, h2⟩ := hok
    split at h1
    · rename_i fs hs
      split at h1
      · rename_i fl hf
        simp only [Bool.and_eq_true, beq_iff_eq] at h1
        exact pl (pl_fld rfl hs hf h1.1 h1.2 (hR _ _ h2) he)
      · simp at h1
    · simp at h1
  · simp only [Bool.and_eq_true] at hok
    obtain ⟨⟨h1, h2⟩, h3⟩ := hok
    split at h1
    · rename_i e ht
      exact pl (pl_iad rfl ht h1 (hR _ _ h2) (hR _ _ h3) he)
    · simp at h1
  · simp only [Bool.and_eq_true] at hok
    obtain ⟨⟨h1, h2⟩, h3⟩ := hok
    split at h1
    · rename_i m e ht
      simp only [Bool.and_eq_true, beq_iff_eq, decide_eq_true_eq] at h1
      obtain ⟨⟨rfl, hk⟩, _⟩ := h1
      exact pl (pl_iada rfl ht hk (hR _ _ h2) (hR _ _ h3) he)
    · simp at h1
  · exact pl (pl_nck rfl (hR _ _ hok) he)
  · exact dp_bxi rfl hg (hR _ _ hok) he
  · simp [IOp.isP] at hP
  · simp [IOp.isP] at hP
  · simp [IOp.isIni] at hni
  · simp [IOp.isIni] at hni
  · simp [IOp.isP] at hP
  · simp [IOp.isP] at hP
  · simp only [Bool.and_eq_true] at hok
    exact pl (pl_ldi rfl hok.1 (hR _ _ hok.2) he)
  · simp only [Bool.and_eq_true] at hok
    exact pl (pl_bld rfl hok.1 hok.2 hR he)
  · simp only [Bool.and_eq_true, beq_iff_eq] at hok
    obtain ⟨rfl, h2⟩ := hok
    exact pl (pl_ext rfl (hR _ _ h2) he)
  · simp only [Bool.and_eq_true, beq_iff_eq] at hok
    obtain ⟨⟨h1, rfl⟩, h2⟩ := hok
    exact pl (pl_mkf rfl h1 (allR_VRL hR h2) he)
  · simp only [Bool.and_eq_true, beq_iff_eq] at hok
    obtain ⟨⟨rfl, h1⟩, h2⟩ := hok
    exact pl (pl_mki rfl h1 (hR _ _ h2) he)
  · simp only [Bool.and_eq_true] at hok
    obtain ⟨⟨⟨h1, h2⟩, h3⟩, h4⟩ := hok
    split at h1
    · rename_i e ht
      simp only [Bool.and_eq_true, decide_eq_true_eq] at h1
      exact dp_liti rfl ht h1.1.1 h1.1.2 h1.2 h2 h3 hg (allR_VRL hR h4) he
    · simp at h1
  · simp only [Bool.and_eq_true] at hok
    obtain ⟨⟨⟨h1, h2⟩, h3⟩, h4⟩ := hok
    split at h1
    · rename_i e ht
      simp only [Bool.and_eq_true, decide_eq_true_eq] at h1
      exact dp_lita rfl ht h1.1.1 h1.1.2 h1.2 h2 h3 hg (allR_VRL hR h4) he
    · simp at h1
  · simp [IOp.isP] at hP
  · simp [IOp.isP] at hP
  · simp only [Bool.and_eq_true] at hok
    exact pl (pl_cvi rfl hok.1 (hR _ _ hok.2) he)
  · simp [IOp.isP] at hP
  · simp [IOp.isP] at hP
  · simp [IOp.isP] at hP
  · simp only [Bool.and_eq_true, beq_iff_eq] at hok
    obtain ⟨⟨rfl, h1⟩, h2⟩ := hok
    exact dp_cal hce rfl rfl h1 hg (allR_VRL hR h2) he
  · simp [IOp.isP] at hP
  · simp [IOp.isP] at hP
  · simp [IOp.isP] at hP
  · simp only [Bool.and_eq_true] at hok
    exact dp_cald hce hbd rfl rfl hg (hR _ _ hok.1) (allR_VRL hR hok.2) he
  · simp [IOp.isP] at hP
  · simp only [Bool.and_eq_true] at hok
    exact dp_inv hce hbd rfl rfl hok.2 hg (hR _ _ hok.1.1) (allR_VRL hR hok.1.2) he
  · simp [IOp.isP] at hP
  · split at hok
    · rename_i ha hat
      simp only [Bool.and_eq_true] at hok
      exact pl (pl_capn rfl rfl ha hat hok.1 (hR _ _ hok.2) he)
    · simp at hok
  · simp [IOp.isP] at hP
  · simp at hok

theorem does_e {o : Oper} {x : AV} {p : Option Pend} (h : Does P o a w (PostP C w x) ∧ p = none) : Does P o a w (PostE nl C w x p) := by
  obtain ⟨h1, rfl⟩ := h
  exact h1.mono fun v w' h => h.e

/-- **An operation of a phase.** -/
theorem opE {o : Oper} {iop : IOp} {x : AV} {p : Option Pend} (hok : okOp P R o.op iop = true) (hW : iop.isW = false) (hni : iop.isIni = false) (hce : CallOk P ce) (hbd : HasBody P ce) (hg : Good C w)
    (hup : ∀ b u B, upto σ b u = some B → ∃ id, C.own b u = some (B, id)) (hb : iop.isP = false → (∀ f as, iop ≠ .can f as) → ∀ u, ¬ C.lim nl u) (hfr : ∀ l, p = some (.news l) → ∀ b u, nl ≤ b → b < nl + l.length → ¬ C.lim b u)
    (hgr : ∀ b u B cs, upto σ b u = some B → p = some (.grow b cs) → grows b ps = false → (∀ n, u < n → ¬ C.lim b n) ∧ ∀ u' B' id', C.own b u' = some (B', id') → u' = u)
    (hR : ∀ x y, R x y = true → VR C w.heap (r y) (a.eval x)) (hr0 : r (.c (.int 0)) = .int 0) (he : ev ce σ nl ps r iop = some (x, p)) : Does P o a w (PostE nl C w x p) := by
  by_cases hP : iop.isP = true
  · obtain ⟨h1, rfl⟩ := opP hok hP hni hce hbd hg hR hr0 he
    exact h1.mono fun v w' h => h.e
  have hP' : iop.isP = false := by simpa using hP
  have hb0 := hb hP'
  clear hb
  obtain ⟨dst, op, type, pos, after, guard⟩ := o
  have pl : ∀ {x' : AV} {p' : Option Pend}, Plain P a.eval ⟨dst, op, type, pos, after, guard⟩ w C w.heap x' ∧ p' = none → Does P ⟨dst, op, type, pos, after, guard⟩ a w (PostE nl C w x' p') := fun h => by
    obtain ⟨h1, rfl⟩ := h
    exact (h1.does hg).mono fun v w' h => h.e
  simp only [okOp] at hok
  split at hok
  all_goals first
    | (exfalso; exact hP rfl)
    | (exfalso; simp [IOp.isW] at hW; done)
    | skip
  · exact dn_nl rfl hok hg (hb0 (by simp)) he
  · simp only [Bool.and_eq_true, Bool.or_eq_true] at hok
    exact pl (pl_bnl (a := a) rfl rfl hok.1.1 hok.1.2 hup (hok.2.imp (fun h => ⟨h.1, hR _ _ h.2⟩) (fun h => ⟨h.1, hR _ _ h.2⟩)) he)
  · simp only [Bool.and_eq_true] at hok
    exact dn_bxm rfl hg (hb0 (by simp)) (hR _ _ hok.2) he
  · simp only [Bool.and_eq_true] at hok
    exact dn_alc rfl hok.1 hg (hb0 (by simp)) he
  · simp only [Bool.and_eq_true] at hok
    exact pl (pl_ld rfl hok.1 hg hup (hR _ _ hok.2) he)
  · simp only [Bool.and_eq_true] at hok
    obtain ⟨⟨⟨h1, h2⟩, h3⟩, h4⟩ := hok
    split at h1
    · rename_i e ht
      simp only [Bool.and_eq_true, decide_eq_true_eq] at h1
      exact dn_litm rfl ht h1.1.1 h1.1.2 h1.2 h2 h3 hg (hb0 (by simp)) (allR_VRL hR h4) he
    · simp at h1
  · simp only [Bool.and_eq_true] at hok
    obtain ⟨⟨⟨h1, h2⟩, h3⟩, h4⟩ := hok
    split at h1
    · rename_i e ht
      exact pl (pl_slc rfl ht h1 hup (hR _ _ h2) h3 h4 hR he)
    · simp at h1
  · simp only [Bool.and_eq_true] at hok
    obtain ⟨⟨h1, h2⟩, h3⟩ := hok
    split at h1
    · rename_i e ht
      simp only [Bool.and_eq_true] at h1
      exact dn_mks rfl ht h1.1.1 h1.1.2 h1.2 hg (hb0 (by simp)) (hR _ _ h2) (hR _ _ h3) he
    · simp at h1
  · split at hok
    · rename_i ha hat
      simp only [Bool.and_eq_true] at hok
      obtain ⟨⟨⟨h1, h2⟩, h3⟩, h4⟩ := hok
      split at h1
      · rename_i e ht
        simp only [Bool.and_eq_true] at h1
        exact dn_app rfl rfl ha hat ht h2 h1.1.1 h1.1.2 h1.2 hg hup (hb0 (by simp)) hgr (hR _ _ h3) (hR _ _ h4) he
      · simp at h1
    · simp at hok
  · simp only [Bool.and_eq_true, beq_iff_eq] at hok
    obtain ⟨⟨rfl, h1⟩, h2⟩ := hok
    exact does_e (dp_cab hce rfl rfl h1 hg hup (allR_VRL hR h2) he)
  · simp only [Bool.and_eq_true, beq_iff_eq] at hok
    obtain ⟨⟨rfl, h1⟩, h2⟩ := hok
    exact dn_can hce rfl rfl h1 hg hfr (allR_VRL hR h2) he
  · simp at hok
end
end Ab
