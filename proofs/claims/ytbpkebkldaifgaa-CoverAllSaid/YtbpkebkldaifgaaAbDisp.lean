/- Operations that look at owned blocks, and operations that turn them. Condition: the callees answer as the interpreter says. -/
import Derived.Test.YtbpkebkldaifgaaAbInv2
set_option linter.all false
namespace Ab
open Go
variable {P : Program}
section
variable {a : Act} {r : Rf → AV} {w : World} {C : Ctx} {R : Operand → Rf → Bool} {ce : CE} {σ : List Blk} {nl : Nat} {ps : List Pend}

/-- **An operation that looks at owned blocks.** -/
theorem opR {o : Oper} {iop : IOp} {x : AV} {p : Option Pend} (hok : okOp P R o.op iop = true) (hP : iop.isP = false) (hE : iop.isE = false) (hW : iop.isW = false) (hce : CallOk P ce) (hg : Good C w)
    (hup : ∀ b u B, upto σ b u = some B → ∃ id, C.own b u = some (B, id))
    (hR : ∀ x y, R x y = true → VR C w.heap (r y) (a.eval x)) (he : ev ce σ nl ps r iop = some (x, p)) : Does P o a w (PostP C w x) := by
  obtain ⟨dst, op, type, pos, after, guard⟩ := o
  have pl : ∀ {x' : AV} {p' : Option Pend}, Plain P a.eval ⟨dst, op, type, pos, after, guard⟩ w C w.heap x' ∧ p' = none → Does P ⟨dst, op, type, pos, after, guard⟩ a w (PostP C w x') := fun h => h.1.does hg
  simp only [okOp] at hok
  split at hok
  all_goals first
    | (exfalso; simp [IOp.isP] at hP; done)
    | (exfalso; simp [IOp.isW] at hW; done)
    | (exfalso; simp [IOp.isE] at hE; done)
    | skip
  · simp only [Bool.and_eq_true, Bool.or_eq_true] at hok
    exact pl (pl_bnl (a := a) rfl rfl hok.1.1 hok.1.2 hup (hok.2.imp (fun h => ⟨h.1, hR _ _ h.2⟩) (fun h => ⟨h.1, hR _ _ h.2⟩)) he)
  · simp only [Bool.and_eq_true] at hok
    exact pl (pl_ld rfl hok.1 hg hup (hR _ _ hok.2) he)
  · simp only [Bool.and_eq_true] at hok
    obtain ⟨⟨⟨h1, h2⟩, h3⟩, h4⟩ := hok
    split at h1
    · rename_i e ht
      exact pl (pl_slc rfl ht h1 hup (hR _ _ h2) h3 h4 hR he)
    · simp at h1
  · simp only [Bool.and_eq_true, beq_iff_eq] at hok
    obtain ⟨⟨rfl, h1⟩, h2⟩ := hok
    exact (dp_cab hce rfl rfl h1 hg hup (allR_VRL hR h2) he).1
  · simp at hok

/-- **An operation that may turn blocks.** -/
theorem opW {o : Oper} {iop : IOp} {x : AV} {σ' : List Blk} {ids : Nat → Nat} {I : Nat → Prop} (hok : okOp P R o.op iop = true) (hW : iop.isW = true) (hce : CallOk P ce) (hbd : HasBody P ce) (hg : Good (ctxOf σ ids I) w)
    (hR : ∀ x y, R x y = true → VR (ctxOf σ ids I) w.heap (r y) (a.eval x)) (he : evW ce σ r iop = some (x, σ')) : Does P o a w (PostW σ ids I w x σ') := by
  obtain ⟨dst, op, type, pos, after, guard⟩ := o
  simp only [okOp] at hok
  split at hok
  all_goals first
    | (exfalso; simp [IOp.isW] at hW; done)
    | skip
  · simp only [Bool.and_eq_true] at hok
    exact dw_st rfl hok.1.1 hg (hR _ _ hok.1.2) (hR _ _ hok.2) he
  · split at hok
    · rename_i ha hat
      simp only [Bool.and_eq_true] at hok
      obtain ⟨⟨⟨h1, h2⟩, h3⟩, h4⟩ := hok
      split at h1
      · rename_i e ht
        simp only [Bool.and_eq_true] at h1
        exact dw_appw rfl rfl ha hat ht h2 h1.1.1 h1.1.2 h1.2 hg (hR _ _ h3) (hR _ _ h4) he
      · simp at h1
    · simp at hok
  · simp only [Bool.and_eq_true, beq_iff_eq] at hok
    obtain ⟨⟨rfl, h1⟩, h2⟩ := hok
    exact dw_cam hce rfl rfl h1 hg (allR_VRL hR h2) he
  · simp only [Bool.and_eq_true] at hok
    exact dw_camd hce hbd rfl rfl hg (hR _ _ hok.1) (allR_VRL hR hok.2) he
  · simp only [Bool.and_eq_true] at hok
    exact dw_invm hce hbd rfl rfl hok.2 hg (hR _ _ hok.1.1) (allR_VRL hR hok.1.2) he
  · split at hok
    · rename_i ha hat
      simp only [Bool.and_eq_true] at hok
      obtain ⟨h1, h2⟩ := hok
      split at h1
      · rename_i e ht
        simp only [Bool.and_eq_true] at h1
        exact dw_clr rfl rfl ha hat ht h1.1 h1.2 hg (hR _ _ h2) he
      · simp at h1
    · simp at hok
  · simp at hok

/-- **An allocation that is to be filled.** -/
theorem opA {o : Oper} {n : Nat} (hok : okOp P R o.op (.alc0 n) = true) (hg : Good C w) :
    Does P o a w fun v w' => Good C w' ∧ Step C w C w' ∧ ∃ id c el, v = .pointer (some ⟨id, 0, none⟩) ∧ w.heap.size ≤ id ∧ ¬ C.I id ∧ ¬ owned C id ∧ w'.heap[id]? = some (.cells c el (0, 0)) ∧ c.size = n := by
  obtain ⟨dst, op, type, pos, after, guard⟩ := o
  simp only [okOp] at hok
  split at hok
  all_goals first
    | (rename_i heq; exfalso; simp at heq; done)
    | skip
  · rename_i t n' heq
    simp at heq; subst heq
    simp only [Bool.and_eq_true] at hok
    obtain ⟨_, h2⟩ := hok
    cases hi : P.info? t with
    | none => simp [hi] at h2
    | some i =>
      simp only [hi] at h2
      cases hz : i.zero with
      | none => simp [hz] at h2
      | some v =>
        simp only [hz, beq_iff_eq] at h2
        obtain ⟨g1, g2⟩ := hg.grow (w' := pushW w (.cells v.cells t)) (by simp [pushW]) fun k hk => push_old w _ hk
        refine Does.val (v := .pointer (some ⟨w.heap.size, 0, none⟩)) (w' := pushW w (.cells v.cells t)) ?_ ⟨g1, ⟨g2, by simp [pushW], fun k hk _ => push_old w _ hk, fun k hk => .inl hk, fun k hk => .inl hk, rfl, ⟨rfl, Nat.le_refl _⟩, rfl⟩, w.heap.size, v.cells, t, rfl, Nat.le_refl _, fun hI => Nat.lt_irrefl _ (hg.I _ hI), fun hO => Nat.lt_irrefl _ (hg.lt hO), push_new w _, h2⟩
        simp only [execOp, Instr.alloc, zeroValue, Sem.run_bind, run_typeInfo w hi, Result.andThen_ok, hz, Sem.run_pure, run_newVar]
  · simp at hok

/-- **The filling of an allocation.** -/
theorem opI {o : Oper} {p x : Rf} {n : Nat} (hok : okOp P R o.op (.ini p x n) = true) {id : Nat} {c : Array Value} {el : TypeId} (hp : ∀ q, R q p = true → a.eval q = .pointer (some ⟨id, 0, none⟩)) (hH : w.heap[id]? = some (.cells c el (0, 0))) (hc : c.size = n)
    (hR : ∀ q, R q x = true → VR C w.heap (r x) (a.eval q)) (hn : noLoc (r x) = true) (hx : (r x).cells.length = n) :
    ∃ y, VR C w.heap (r x) y ∧ Does P o a w fun _ w' => ∃ c', w' = w.setRow id c' ∧ c'.size = c.size ∧ ∀ j, j < y.cells.size → c'[j]? = y.cells[j]? := by
  obtain ⟨dst, op, type, pos, after, guard⟩ := o
  simp only [okOp] at hok
  split at hok
  all_goals first
    | (rename_i heq; exfalso; simp at heq; done)
    | skip
  · rename_i t q z p' x' n' heq
    simp at heq; obtain ⟨rfl, rfl, rfl⟩ := heq
    simp only [Bool.and_eq_true] at hok
    obtain ⟨⟨h1, h2⟩, h3⟩ := hok
    have hv := hR _ h3
    have hsol : Solid (r x) := ⟨fun e => by rw [e] at hn; simp [noLoc] at hn, fun l e => by rw [e] at hn; simp [noLoc] at hn⟩
    have hsz := VR.size hsol hv
    have hone : ∀ v ∈ (a.eval z).cells.toList, v.oneCell' = true := (VR.cells hsol hv).2
    have e := hp _ h2
    refine ⟨a.eval z, hv, ?_⟩
    have hstore := run_storeCells_at P id 0 el (a.eval z).cells.toList 0 c w hH (by simp; omega) hone
    refine Does.skip (w' := w.setRow id (c.toList.take 0 ++ (a.eval z).cells.toList ++ c.toList.drop (0 + (a.eval z).cells.toList.length)).toArray) ?_ ⟨_, rfl, ?_, fun j hj => ?_⟩
    · have hsi := info_size h1 w
      simp only [execOp, Instr.storeAt, e, Instr.sureAddr, storeVar, Sem.run_bind, Sem.run_pure, Result.andThen_ok, hsi]
      rw [if_neg (by rw [hsz, hx]; simp)]
      simp only [Nat.add_zero] at hstore
      rw [hstore]
      rfl
    · simp; omega
    · simp [List.getElem?_append_left, hj]
  · simp at hok
end
end Ab
