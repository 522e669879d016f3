/- One operation of a region, whatever its class. Condition: none. -/
import Derived.Test.YtgaidfgpedibhaaAbStep
set_option linter.all false
namespace Ab
open Go
variable {P : Program}

def cmt (σ : List Blk) : Option Pend → List Blk
  | some q => commit σ q
  | none => σ
theorem alc_tgt {ls : List Ln} {t m : Nat} (h : alcAt ls t = some m) : tgt ls t = none := by
  unfold alcAt at h; unfold tgt
  cases hl : ls[t]? with
  | none => rfl
  | some l =>
    simp only [hl] at h ⊢
    split at h
    · rename_i hop; rw [hop]
    · simp at h

section
variable {X : RC P} {C0 : Ctx} {w0 : World} {ds : List Deferred} {D : Nat → Prop} {C : Ctx} {f : Nat} {a : Act} {w : World} {i : Nat}

theorem Inv.next (h : Inv X C0 w0 ds D C f a w) (hi : i < X.ls.length) (hD : ¬ D i) (hb : ∀ j, bfr X.draw X.bf j i = true → D j) (Q : Exit → Act → World → Prop) :
    wpOp P X.ops.toArray Q i (fun a' w' => ∃ C' f', Inv X C0 w0 ds (fun j => D j ∨ j = i) C' f' a' w') a w := by
  obtain ⟨o, l, ho, hl, hF⟩ := X.at_ hi
  have hrun := X.run i l hl
  have hR : ∀ x y, okRef X.draw X.bf X.ops X.ls X.sl i x y = true → VR C w.heap (rv X.vars (X.st i).env y) (a.eval x) := fun x y hr => h.ref hi hD hb hr
  unfold wpOp
  simp only [List.getElem?_toArray, ho]
  unfold line1 at hrun
  cases hw : want X.vars (X.st i).env l.g with
  | none => simp [hw] at hrun
  | some b =>
    have hwa := h.wanted hi hb hF hw
    rw [hwa]
    simp only [hw] at hrun
    cases b with
    | false =>
      simp only [Bool.false_eq_true, if_false]
      simp only [Option.some.injEq] at hrun
      have hval : valOf X.st i = .tup [] := by rw [valOf, ← hrun]
      have hgs : l.g ≠ none := fun e => by rw [e] at hw; simp [want] at hw
      have htn : tgt X.ls i = none := by
        cases ht : tgt X.ls i with
        | none => rfl
        | some t =>
          obtain ⟨_, _, l', _, _, _, _, hl', _, _, hg', _⟩ := X.tgt_spec ht
          rw [hl] at hl'; simp at hl'; subst hl'
          exact absurd hg' hgs
      have haln : alcAt X.ls i = none := by
        unfold alcAt; simp only [hl]
        split
        · rename_i m hop
          have := hF.ini
          simp only [okIni, hop, Bool.and_eq_true, Option.isNone_iff_eq_none] at this
          exact absurd this.1 hgs
        · rfl
      have hund : VR C w.heap (valOf X.st i) undef := by rw [hval]; unfold VR; exact ⟨[], rfl, rfl⟩
      cases he : effAt X.ls i with
      | false =>
        obtain ⟨e1, e2⟩ := h.noeffs he
        exact ⟨C, f, h.after hi hD hb ho h.good (Step.refl _ _) htn hund (fun m hm => by rw [haln] at hm; simp at hm) h.fle e1 e2 h.shows h.last⟩
      | true =>
        obtain ⟨e1, e2⟩ := h.effs hD hb he
        have hs : (X.st (i + 1)).σ = (X.st f).σ := by rw [← hrun]; exact h.now hi hD hb he
        refine ⟨C, i + 1, h.after hi hD hb ho h.good (Step.refl _ _) htn hund (fun m hm => by rw [haln] at hm; simp at hm) (by omega) e1 e2 (by rw [hs]; exact h.shows) fun _ => ⟨he, fun hee => ?_⟩⟩
        simp only [Nat.add_sub_cancel, eAt, hl, Bool.and_eq_true, Option.isNone_iff_eq_none] at hee
        exact absurd hee.2 hgs
    | true =>
      dsimp only at hrun
      simp only [if_true]
      refine .inl ?_
      by_cases hWc : l.op.isW = true
      · rw [if_pos hWc] at hrun
        have he : effAt X.ls i = true := by simp [effAt, hl, hWc]
        have hnow := h.now hi hD hb he
        obtain ⟨ids, g1, g2⟩ := h.shows.take h.good
        rw [← hnow] at g1 g2
        split at hrun
        · rename_i v σ' hev
          simp only [Option.some.injEq] at hrun
          have htn : tgt X.ls i = none := by
            cases ht : tgt X.ls i with
            | none => rfl
            | some t =>
              obtain ⟨_, _, l', _, _, _, _, hl', _, hop, _⟩ := X.tgt_spec ht
              rw [hl] at hl'; simp at hl'; subst hl'
              rw [hop] at hWc; simp [IOp.isW] at hWc
          have haln : alcAt X.ls i = none := by
            unfold alcAt; simp only [hl]
            split
            · rename_i m hop; rw [hop] at hWc; simp [IOp.isW] at hWc
            · rfl
          refine opW hF.op hWc X.hce X.hbd g1 (fun x y hr => VR.mono g2.ev _ _ (hR x y hr)) hev _ Q fun v' w' hp => ?_
          obtain ⟨ids', I', k1, k2, k3⟩ := hp
          obtain ⟨e1, e2⟩ := h.effs hD hb he
          have hs : (X.st (i + 1)).σ = σ' := by rw [← hrun]
          have hval : valOf X.st i = v := by rw [valOf, ← hrun]
          refine ⟨_, i + 1, h.after hi hD hb ho k1 (g2.trans k2) htn (by rw [hval]; exact k3) (fun m hm => by rw [haln] at hm; simp at hm) (by omega) e1 e2 (by rw [hs]; exact shows_ctx _ _ _) fun _ => ⟨he, fun hee => ?_⟩⟩
          simp only [Nat.add_sub_cancel, eAt, hl, Bool.and_eq_true] at hee
          exfalso
          revert hWc hee; cases l.op <;> simp [IOp.isE, IOp.isW]
        · simp at hrun
      · rw [if_neg hWc] at hrun
        have hWf : l.op.isW = false := by simpa using hWc
        cases hev : ev X.ce (if l.prev then (X.st i).σp else (X.st i).σ) (X.st i).σ.length [] (rv X.vars (X.st i).env) l.op with
        | none => simp [hev] at hrun
        | some vp =>
          obtain ⟨v, p⟩ := vp
          simp only [hev] at hrun
          have hval : valOf X.st i = v := by cases p <;> simp only [Option.some.injEq] at hrun <;> rw [valOf, ← hrun] <;> rfl
          have hst : (X.st (i + 1)).σ = cmt (X.st i).σ p := by cases p <;> simp only [Option.some.injEq] at hrun <;> rw [← hrun] <;> rfl
          cases hE : l.op.isE with
          | true =>
            have he : effAt X.ls i = true := by simp [effAt, hl, hE]
            have hnow := h.now hi hD hb he
            have hpf : l.prev = false := by
              have := hF.eff
              simp only [okEff, hE, Bool.true_or, if_true, Bool.and_eq_true, Bool.not_eq_true'] at this
              exact this.1
            rw [hpf] at hev
            simp only [Bool.false_eq_true, if_false] at hev
            obtain ⟨ids, g1, g2⟩ := h.shows.take h.good
            rw [← hnow] at g1 g2
            have htn : tgt X.ls i = none := by
              cases ht : tgt X.ls i with
              | none => rfl
              | some t =>
                obtain ⟨_, _, l', _, _, _, _, hl', _, hop, _⟩ := X.tgt_spec ht
                rw [hl] at hl'; simp at hl'; subst hl'
                rw [hop] at hE; simp [IOp.isE] at hE
            have haln : alcAt X.ls i = none := by
              unfold alcAt; simp only [hl]
              split
              · rename_i m hop; rw [hop] at hE; simp [IOp.isE] at hE
              · rfl
            have hni : l.op.isIni = false := by revert hE; cases l.op <;> simp [IOp.isE, IOp.isIni]
            refine opE hF.op hWf hni X.hce X.hbd g1 (fun b u B hu => ⟨_, upto_own ids C.I hu⟩) (fun _ => ctxOf_nolim) (fun l' _ b u hb1 _ hlim => ?_) (fun b u B cs hu _ _ => ⟨fun n hn hlim => ?_, fun u' B' id' hown => ?_⟩) (fun x y hr => VR.mono g2.ev _ _ (hR x y hr)) rfl hev _ Q fun v' w' hp => ?_
            · obtain ⟨B, hB, _⟩ := hlim
              rw [blk_eq, List.getElem?_eq_none (by omega)] at hB; simp at hB
            · obtain ⟨B', hB, hle⟩ := hlim
              obtain ⟨k1, k2, _⟩ := upto_blk hu
              rw [k1] at hB; simp at hB; subst hB
              omega
            · obtain ⟨k1, k2, _⟩ := upto_blk hu
              rw [← k2]; exact ctxOf_only (u := 0) k1 u' B' id' hown
            · obtain ⟨C', k1, k2, k3, k4⟩ := hp
              obtain ⟨s1, s2⟩ := Ext.shows k1 k4
              obtain ⟨e1, e2⟩ := h.effs hD hb he
              exact ⟨C', i + 1, h.after hi hD hb ho k1 (g2.trans k2) htn (by rw [hval]; exact k3) (fun m hm => by rw [haln] at hm; simp at hm) (by omega) e1 e2 (by rw [hst]; cases p <;> exact s1) fun _ => ⟨he, fun _ => s2⟩⟩
          | false =>
            have he : effAt X.ls i = false := by simp [effAt, hl, hE, hWf]
            have hpn := ev_none hE hev
            subst hpn
            obtain ⟨e1, e2⟩ := h.noeffs he
            cases hP : l.op.isP with
            | false =>
              have htn : tgt X.ls i = none := by
                cases ht : tgt X.ls i with
                | none => rfl
                | some t =>
                  obtain ⟨_, _, l', _, _, _, _, hl', _, hop, _⟩ := X.tgt_spec ht
                  rw [hl] at hl'; simp at hl'; subst hl'
                  rw [hop] at hP; simp [IOp.isP] at hP
              have haln : alcAt X.ls i = none := by
                unfold alcAt; simp only [hl]
                split
                · rename_i m hop; rw [hop] at hP; simp [IOp.isP] at hP
                · rfl
              refine opR hF.op hP hE hWf X.hce h.good (h.sees hi hD hb hl hF hE hWf hP) hR hev _ Q fun v' w' hp => ?_
              obtain ⟨I', k1, k2, k3⟩ := hp
              exact ⟨_, f, h.after hi hD hb ho k1 k2 htn (by rw [hval]; exact k3) (fun m hm => by rw [haln] at hm; simp at hm) h.fle e1 e2 (h.shows.withI I') fun hf => ⟨(h.last hf).1, fun hee => ((h.last hf).2 hee).withI I'⟩⟩
            | true =>
              cases ht : tgt X.ls i with
              | some t =>
                obtain ⟨_, o', l', d, x, m, ho', hl', _, hop, hg', hdst, hd, htd, hal, hbt, huniq⟩ := X.tgt_spec ht
                rw [hl] at hl'; simp at hl'; subst hl'
                rw [ho] at ho'; simp at ho'; subst ho'
                have hnt : ∀ i', D i' → tgt X.ls i' ≠ some t := fun i' hi' e => hD (X.tgt_inj ht e ▸ hi')
                obtain ⟨s, id, c, el, k1, k2, k3, k4, k5, k6, k7⟩ := h.lb t m (hb _ hbt) hal hnt
                rw [hop] at hev
                simp only [ev] at hev
                split at hev
                case isFalse => simp at hev
                rename_i hc
                simp only [Bool.and_eq_true, beq_iff_eq] at hc
                simp at hev
                have hop' := hF.op
                rw [hop] at hop'
                obtain ⟨y, q1, q2⟩ := opI hop' (w := w) (a := a) (C := C) (r := rv X.vars (X.st i).env) (id := id) (c := c) (el := el) (fun q hq => by
                  unfold okRef at hq
                  split at hq
                  · rename_i s' d' heq
                    simp only [Rf.t.injEq] at heq; subst heq
                    simp only [Bool.and_eq_true, beq_iff_eq] at hq
                    have hs' := hq.1.2
                    rw [← htd] at hs'
                    simp only [slotOf, alc_tgt hal, k1, Option.some.injEq] at hs'
                    subst hs'
                    exact k2
                  all_goals (rename_i heq; first | (simp at heq; done) | (simp at hq; done) | skip)) k6 k7 (fun q hq => hR q x hq) hc.1 hc.2
                refine q2 _ Q fun v' w' hp => ?_
                obtain ⟨c', rfl, z1, z2⟩ := hp
                rw [hdst]
                exact ⟨_, f, h.fill hi hD hb hl hop ht (by rw [hval, ← hev]) hc.1 q1 k1 k2 k3 k4 k5 k6 z1 z2⟩
              | none =>
                cases hal : alcAt X.ls i with
                | some m =>
                  have hop : l.op = .alc0 m := by
                    unfold alcAt at hal; simp only [hl] at hal
                    split at hal
                    · rename_i m' hop; simp at hal; rw [hop, hal]
                    · simp at hal
                  have hop' := hF.op
                  rw [hop] at hop' hev
                  simp [ev] at hev
                  have hds := hF.ini
                  simp only [okIni, hop, Bool.and_eq_true] at hds
                  obtain ⟨s, hs⟩ := Option.isSome_iff_exists.1 hds.2
                  refine opA (w := w) (a := a) (C := C) hop' h.good _ Q fun v' w' hp => ?_
                  obtain ⟨p1, p2, id, c, el, p3⟩ := hp
                  exact ⟨C, f, h.after hi hD hb ho p1 p2 ht (by rw [hval, ← hev]; unfold VR; trivial) (fun m' hm' => by
                    rw [hal] at hm'; simp at hm'; subst hm'
                    exact ⟨⟨s, hs⟩, id, c, el, p3⟩) h.fle e1 e2 h.shows h.last⟩
                | none =>
                  have hni : l.op.isIni = false := by
                    cases hop : l.op with
                    | alc0 m => simp [alcAt, hl, hop] at hal
                    | ini p x n =>
                      have := hF.ini
                      cases p with
                      | t d => simp [tgt, hl, hop] at ht
                      | v k => simp [okIni, hop] at this
                      | c x => simp [okIni, hop] at this
                    | _ => rfl
                  obtain ⟨q1, _⟩ := opP (w := w) (a := a) (C := C) hF.op hP hni X.hce X.hbd h.good hR rfl hev
                  refine q1 _ Q fun v' w' hp => ?_
                  obtain ⟨I', k1, k2, k3⟩ := hp
                  exact ⟨_, f, h.after hi hD hb ho k1 k2 ht (by rw [hval]; exact k3) (fun m hm => by rw [hal] at hm; simp at hm) h.fle e1 e2 (h.shows.withI I') fun hf => ⟨(h.last hf).1, fun hee => ((h.last hf).2 hee).withI I'⟩⟩
end
end Ab
