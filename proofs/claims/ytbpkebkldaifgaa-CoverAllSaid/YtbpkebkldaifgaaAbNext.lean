/- One operation of a region, whatever its class. Condition: none. -/
import Derived.Test.YtbpkebkldaifgaaAbStep
set_option linter.all false
namespace Ab
open Go
variable {P : Program}

def cmt (σ : List Blk) : Option Pend → List Blk
  | some q => commit σ q
  | none => σ
theorem alc_tgt {ls : List Ln} {t m : Nat} (h : alcAt ls t = some m) : tgt ls t = none := by
  unfold alcAt at h; unfold tgt
  cases hl : ls[t]? with
  | none => rfl
  | some l =>
    simp only [hl] at h ⊢
    split at h
    · rename_i hop; rw [hop]
    · simp at h

theorem blk_app (σ l : List Blk) (b : Nat) : blk (σ ++ l) b = if b < σ.length then blk σ b else blk l (b - σ.length) := by
  rw [blk_eq, blk_eq, blk_eq]
  by_cases hb : b < σ.length
  · rw [if_pos hb, List.getElem?_append_left hb]
  · rw [if_neg hb, List.getElem?_append_right (by omega)]
open Classical in
/-- The list, but only those that are there. -/
noncomputable def maskC (σ : List Blk) (A : Nat → Prop) (ids : Nat → Nat) (I : Nat → Prop) : Ctx where
  I := I
  own := fun b u => if A b then (ctxOf σ ids I).own b u else none
  lim := fun b u => A b ∧ (ctxOf σ ids I).lim b u

section
variable {X : RC P} {C0 : Ctx} {w0 : World} {ds : List Deferred} {D : Nat → Prop} {C : Ctx} {f : Nat} {a : Act} {w : World} {i : Nat}

theorem Inv.next (h : Inv X C0 w0 ds D C f a w) (hi : i < X.ls.length) (hD : ¬ D i) (hb : ∀ j, bfr X.draw X.bf j i = true → D j) (Q : Exit → Act → World → Prop) :
    wpOp P X.ops.toArray Q i (fun a' w' => ∃ C' f', Inv X C0 w0 ds (fun j => D j ∨ j = i) C' f' a' w') a w := by
  obtain ⟨o, l, ho, hl, hF⟩ := X.at_ hi
  have hrun := X.run i l hl
  have hR : ∀ x y, okRef X.draw X.bf X.ops X.ls X.sl i x y = true → VR C w.heap (rv X.vars (X.st i).env y) (a.eval x) := fun x y hr => h.ref hi hD hb hr
  unfold wpOp
  simp only [List.getElem?_toArray, ho]
  unfold line1 at hrun
  cases hw : want X.vars (X.st i).env l.g with
  | none => simp [hw] at hrun
  | some b =>
    have hwa := h.wanted hi hb hF hw
    rw [hwa]
    simp only [hw] at hrun
    cases b with
    | false =>
      simp only [Bool.false_eq_true, if_false]
      simp only [Option.some.injEq] at hrun
      have hval : valOf X.st i = .tup [] := by rw [valOf, ← hrun]
      have hgs : l.g ≠ none := fun e => by rw [e] at hw; simp [want] at hw
      have htn : tgt X.ls i = none := by
        cases ht : tgt X.ls i with
        | none => rfl
        | some t =>
          obtain ⟨_, _, l', _, _, _, _, hl', _, _, hg', _⟩ := X.tgt_spec ht
          rw [hl] at hl'; simp at hl'; subst hl'
          exact absurd hg' hgs
      have haln : alcAt X.ls i = none := by
        unfold alcAt; simp only [hl]
        split
        · rename_i m hop
          have := hF.ini
          simp only [okIni, hop, Bool.and_eq_true, Option.isNone_iff_eq_none] at this
          exact absurd this.1 hgs
        · rfl
      have hund : VR C w.heap (valOf X.st i) undef := by rw [hval]; unfold VR; exact ⟨[], rfl, rfl⟩
      cases he : effAt X.ls i with
      | false =>
        exact ⟨C, f, h.after hi hD hb ho h.good (Step.refl _ _) htn hund (fun m hm => by rw [haln] at hm; simp at hm) (h.fr.noeff he C.I)⟩
      | true =>
        have hng : inG X.ls X.draw X.bf i = false := by
          cases hg : inG X.ls X.draw X.bf i with
          | false => rfl
          | true => exact absurd (X.free_spec hl (X.free_of he hg)).1 hgs
        obtain ⟨f', hN⟩ := h.fr.norm hD hb he hng
        obtain ⟨q1, q2⟩ := hN.front hD hb he hng
        obtain ⟨e1, e2⟩ := hN.effs q1 q2
        have hs : (X.st (i + 1)).σ = (X.st f').σ := by rw [← hrun]; exact (X.same' q1 (Nat.le_of_lt hi) q2).1
        refine ⟨C, i + 1, h.after hi hD hb ho h.good (Step.refl _ _) htn hund (fun m hm => by rw [haln] at hm; simp at hm) (.inl ⟨by omega, e1, e2, by rw [hs]; exact hN.shows, fun _ => ⟨he, fun hee => ?_⟩⟩)⟩
        simp only [Nat.add_sub_cancel, eAt, hl, Bool.and_eq_true, Option.isNone_iff_eq_none] at hee
        exact absurd hee.2 hgs
    | true =>
      dsimp only at hrun
      simp only [if_true]
      refine .inl ?_
      by_cases hWc : l.op.isW = true
      · rw [if_pos hWc] at hrun
        have he : effAt X.ls i = true := by simp [effAt, hl, hWc]
        have hng : inG X.ls X.draw X.bf i = false := by
          cases hg : inG X.ls X.draw X.bf i with
          | false => rfl
          | true => rw [(X.free_spec hl (X.free_of he hg)).2.2.1] at hWc; simp at hWc
        obtain ⟨f', hN⟩ := h.fr.norm hD hb he hng
        obtain ⟨q1, q2⟩ := hN.front hD hb he hng
        have hnow := (X.same' q1 (Nat.le_of_lt hi) q2).1
        obtain ⟨ids, g1, g2⟩ := hN.shows.take h.good
        rw [← hnow] at g1 g2
        split at hrun
        · rename_i v σ' hev
          simp only [Option.some.injEq] at hrun
          have htn : tgt X.ls i = none := by
            cases ht : tgt X.ls i with
            | none => rfl
            | some t =>
              obtain ⟨_, _, l', _, _, _, _, hl', _, hop, _⟩ := X.tgt_spec ht
              rw [hl] at hl'; simp at hl'; subst hl'
              rw [hop] at hWc; simp [IOp.isW] at hWc
          have haln : alcAt X.ls i = none := by
            unfold alcAt; simp only [hl]
            split
            · rename_i m hop; rw [hop] at hWc; simp [IOp.isW] at hWc
            · rfl
          refine opW hF.op hWc X.hce X.hbd g1 (fun x y hr => VR.mono g2.ev _ _ (hR x y hr)) hev _ Q fun v' w' hp => ?_
          obtain ⟨ids', I', k1, k2, k3⟩ := hp
          obtain ⟨e1, e2⟩ := hN.effs q1 q2
          have hs : (X.st (i + 1)).σ = σ' := by rw [← hrun]
          have hval : valOf X.st i = v := by rw [valOf, ← hrun]
          refine ⟨_, i + 1, h.after hi hD hb ho k1 (g2.trans k2) htn (by rw [hval]; exact k3) (fun m hm => by rw [haln] at hm; simp at hm) (.inl ⟨by omega, e1, e2, by rw [hs]; exact shows_ctx _ _ _, fun _ => ⟨he, fun hee => ?_⟩⟩)⟩
          simp only [Nat.add_sub_cancel, eAt, hl, Bool.and_eq_true] at hee
          exfalso
          revert hWc hee; cases l.op <;> simp [IOp.isE, IOp.isW]
        · simp at hrun
      · rw [if_neg hWc] at hrun
        have hWf : l.op.isW = false := by simpa using hWc
        cases hev : ev X.ce (if l.prev then (X.st i).σp else (X.st i).σ) (X.st i).σ.length [] (rv X.vars (X.st i).env) l.op with
        | none => simp [hev] at hrun
        | some vp =>
          obtain ⟨v, p⟩ := vp
          simp only [hev] at hrun
          have hval : valOf X.st i = v := by cases p <;> simp only [Option.some.injEq] at hrun <;> rw [valOf, ← hrun] <;> rfl
          have hst : (X.st (i + 1)).σ = cmt (X.st i).σ p := by cases p <;> simp only [Option.some.injEq] at hrun <;> rw [← hrun] <;> rfl
          cases hE : l.op.isE with
          | true =>
            have he : effAt X.ls i = true := by simp [effAt, hl, hE]
            have hpf : l.prev = false := by
              have := hF.eff
              simp only [okEff, hE, Bool.true_or, if_true, Bool.and_eq_true, Bool.not_eq_true'] at this
              exact this.1
            rw [hpf] at hev
            simp only [Bool.false_eq_true, if_false] at hev
            have htn : tgt X.ls i = none := by
              cases ht : tgt X.ls i with
              | none => rfl
              | some t =>
                obtain ⟨_, _, l', _, _, _, _, hl', _, hop, _⟩ := X.tgt_spec ht
                rw [hl] at hl'; simp at hl'; subst hl'
                rw [hop] at hE; simp [IOp.isE] at hE
            have haln : alcAt X.ls i = none := by
              unfold alcAt; simp only [hl]
              split
              · rename_i m hop; rw [hop] at hE; simp [IOp.isE] at hE
              · rfl
            have hni : l.op.isIni = false := by revert hE; cases l.op <;> simp [IOp.isE, IOp.isIni]
            cases hng : inG X.ls X.draw X.bf i with
            | false =>
              obtain ⟨f', hN⟩ := h.fr.norm hD hb he hng
              obtain ⟨q1, q2⟩ := hN.front hD hb he hng
              obtain ⟨ids, g1, g2⟩ := hN.shows.take h.good
              have hnow := (X.same' q1 (Nat.le_of_lt hi) q2).1
              rw [← hnow] at g1 g2
              refine opE hF.op hWf hni X.hce X.hbd g1 (fun b u B hu => ⟨_, upto_own ids C.I hu⟩) (fun _ _ => ctxOf_nolim) (fun l' _ b u hb1 _ hlim => ?_) (fun b u B cs hu _ _ => ⟨fun n hn hlim => ?_, fun u' B' id' hown => ?_⟩) (fun x y hr => VR.mono g2.ev _ _ (hR x y hr)) rfl hev _ Q fun v' w' hp => ?_
              · obtain ⟨B, hB, _⟩ := hlim
                rw [blk_eq, List.getElem?_eq_none (by omega)] at hB; simp at hB
              · obtain ⟨B', hB, hle⟩ := hlim
                obtain ⟨k1, k2, _⟩ := upto_blk hu
                rw [k1] at hB; simp at hB; subst hB
                omega
              · obtain ⟨k1, k2, _⟩ := upto_blk hu
                rw [← k2]; exact ctxOf_only (u := 0) k1 u' B' id' hown
              · obtain ⟨C', k1, k2, k3, k4⟩ := hp
                obtain ⟨s1, s2⟩ := Ext.shows k1 k4
                obtain ⟨e1, e2⟩ := hN.effs q1 q2
                exact ⟨C', i + 1, h.after hi hD hb ho k1 (g2.trans k2) htn (by rw [hval]; exact k3) (fun m hm => by rw [haln] at hm; simp at hm) (.inl ⟨by omega, e1, e2, by rw [hst]; cases p <;> exact s1, fun _ => ⟨he, fun _ => s2⟩⟩)⟩
            | true =>
              obtain ⟨lo, hh, hG⟩ := h.fr.grp hD hb he hng
              obtain ⟨fr1, fr2, fr3, fr4, fr5, fr6⟩ := X.free_spec hl (X.free_of he hng)
              have hin := (hG.grp i).1 hng
              have hhl := X.eff_lt hG.ehi
              have hle := hG.le
              obtain ⟨ids, m1, m2⟩ := hG.shows
              obtain ⟨bs, hbs, hcan⟩ : ∃ bs, (X.st (i + 1)).σ = (X.st i).σ ++ bs ∧ (((∀ f as, l.op ≠ .can f as) ∧ ∃ B, p = some (.new B) ∧ bs = [B]) ∨ p = some (.news bs)) := by
                rcases fr6 _ _ _ _ _ _ _ hev with ⟨hc, B, rfl⟩ | ⟨bs, rfl⟩
                · exact ⟨[B], by rw [hst]; rfl, .inl ⟨hc, B, rfl, rfl⟩⟩
                · exact ⟨bs, by rw [hst]; rfl, .inr rfl⟩
              have hlen : (X.st (i + 1)).σ.length = (X.st i).σ.length + bs.length := by rw [hbs]; simp
              have hgap : ∀ b, (X.st i).σ.length ≤ b → b < (X.st (i + 1)).σ.length → ¬ alive X D lo b := by
                rintro b b1 b2 (h1 | ⟨k, k1, k2, k3, k4, k5⟩)
                · have := X.pre_len hG.grp (p := lo) (q := i) (Nat.le_refl _) hin.1 (by omega) (by omega); omega
                · have hk := (hG.grp k).1 k2
                  rcases Nat.lt_trichotomy k i with hlt | rfl | hgt
                  · have := X.pre_len hG.grp (p := k + 1) (q := i) (by omega) (by omega) (by omega) (by omega); omega
                  · exact hD k3
                  · have := X.pre_len hG.grp (p := i + 1) (q := k) (by omega) (by omega) (by omega) (by omega); omega
              have hg2 := Good.shrink (C2 := maskC (X.st (hh + 1)).σ (alive X D lo) ids C.I) h.good rfl (fun b u e ho' => by
                unfold maskC at ho'
                dsimp only at ho'
                split at ho'
                · rename_i ha; exact m1 b u e ha ho'
                · simp at ho') m2
              have hal' : ∀ b, alive X (fun j => D j ∨ j = i) lo b ↔ alive X D lo b ∨ ((X.st i).σ.length ≤ b ∧ b < (X.st (i + 1)).σ.length) := fun b => by
                constructor
                · rintro (h1 | ⟨k, k1, k2, k3, k4⟩)
                  · exact .inl (.inl h1)
                  · rcases k3 with k3 | rfl
                    · exact .inl (.inr ⟨k, k1, k2, k3, k4⟩)
                    · exact .inr k4
                · rintro ((h1 | ⟨k, k1, k2, k3, k4⟩) | h1)
                  · exact .inl h1
                  · exact .inr ⟨k, k1, k2, .inl k3, k4⟩
                  · exact .inr ⟨i, he, hng, .inr rfl, h1⟩
              obtain ⟨l2, hl2⟩ := X.pre' hG.grp (p := i + 1) (q := hh + 1) (by omega) (by omega) (Nat.le_refl _) (by omega)
              have hblk : ∀ b, (X.st i).σ.length ≤ b → b < (X.st (i + 1)).σ.length → blk (X.st (hh + 1)).σ b = blk bs (b - (X.st i).σ.length) := fun b b1 b2 => by
                rw [hl2, blk_app, if_pos b2, hbs, blk_app, if_neg (by omega)]
              refine opE (σ := []) hF.op hWf hni X.hce X.hbd hg2.1 (fun b u B hu => by simp [upto, blk] at hu) (fun _ hc u hlim => ?_) (fun l' hq b u hb1 hb2 hlim => ?_) (fun b u B cs hu _ _ => by simp [upto, blk] at hu) (fun x y hr => VR.mono hg2.2.ev _ _ (hR x y hr)) rfl (by rw [fr5 X.ce [] (X.st i).σ]; exact hev) _ Q fun v' w' hp => ?_
              · rcases hcan with ⟨_, B, _, rfl⟩ | hq
                · exact hgap _ (Nat.le_refl _) (by rw [hlen]; simp) hlim.1
                · exfalso
                  rcases fr6 _ _ _ _ _ _ _ hev with ⟨_, B, hB⟩ | ⟨bs', hB⟩
                  · rw [hq] at hB; simp at hB
                  · have hf := X.free_of he hng
                    simp only [freeAt, hl, Bool.and_eq_true] at hf
                    have hf2 := hf.2
                    split at hf2
                    · rename_i hop; rw [hop] at hev; simp only [ev] at hev
                      split at hev <;> try (simp at hev; done)
                      split at hev <;> simp at hev
                      rw [← hev.2] at hq; simp at hq
                    · rename_i f as hop; exact hc f as hop
                    · rename_i hop; rw [hop] at hev; simp only [ev] at hev
                      split at hev <;> simp at hev
                      rw [← hev.2] at hq; simp at hq
                    · simp at hf2
              · rcases hcan with ⟨_, B, hq', _⟩ | hq'
                · rw [hq'] at hq; simp at hq
                · rw [hq'] at hq; simp at hq; subst hq
                  exact hgap b hb1 (by omega) hlim.1
              · obtain ⟨C', k1, k2, k3, k4⟩ := hp
                have hsh : ∃ ids', (∀ b u e, alive X (fun j => D j ∨ j = i) lo b → (ctxOf (X.st (hh + 1)).σ ids' C'.I).own b u = some e → C'.own b u = some e) ∧ ∀ b u, C'.lim b u → alive X (fun j => D j ∨ j = i) lo b ∧ (ctxOf (X.st (hh + 1)).σ ids' C'.I).lim b u := by
                  rcases hcan with ⟨_, B, rfl, rfl⟩ | rfl
                  · obtain ⟨id, k5, k6⟩ := k4
                    have hnd : B.st ≠ .dead := (k1.ent (X.st i).σ.length B.cells.length B id (by rw [k5]; simp [addOwn])).2.2.2
                    have hb1 := hblk (X.st i).σ.length (Nat.le_refl _) (by rw [hlen]; simp)
                    rw [Nat.sub_self] at hb1
                    refine ⟨fun q => if q = (X.st i).σ.length then id else ids q, fun b u e ha ho' => ?_, fun b u hlim => ?_⟩
                    · rw [k5]
                      by_cases e0 : b = (X.st i).σ.length
                      · subst e0
                        simp only [ctxOf, hb1, blk, if_true] at ho'
                        have hu : B.cells.length = u ∧ (B, id) = e := by
                          cases hs : B.st <;> simp only [hs] at ho' hnd
                          · split at ho' <;> simp at ho'; rename_i h; exact ⟨h, ho'⟩
                          · split at ho' <;> simp at ho'; rename_i h; exact ⟨h, ho'⟩
                          · exact absurd rfl hnd
                        obtain ⟨rfl, rfl⟩ := hu
                        simp [addOwn]
                      · have ha' : alive X D lo b := by
                          rcases (hal' b).1 ha with h | h
                          · exact h
                          · rw [hlen] at h; simp at h; omega
                        simp only [addOwn]
                        rw [if_neg (by omega)]
                        simp only [maskC, ha', if_true]
                        simp only [ctxOf, e0, if_false] at ho'
                        exact ho'
                    · rw [k6] at hlim
                      rcases hlim with ⟨rfl, rfl⟩ | ⟨h1, h2⟩
                      · exact ⟨(hal' _).2 (.inr ⟨Nat.le_refl _, by rw [hlen]; simp⟩), B, hb1, Nat.le_refl _⟩
                      · exact ⟨(hal' _).2 (.inl h1), h2⟩
                  · obtain ⟨ids2, k5, k6⟩ := k4
                    refine ⟨fun q => if (X.st i).σ.length ≤ q ∧ q < (X.st (i + 1)).σ.length then ids2 (q - (X.st i).σ.length) else ids q, fun b u e ha ho' => ?_, fun b u hlim => ?_⟩
                    · rw [k5]
                      dsimp only
                      by_cases e0 : (X.st i).σ.length ≤ b ∧ b < (X.st (i + 1)).σ.length
                      · rw [if_pos (by omega)]
                        simp only [ctxOf, hblk b e0.1 e0.2, e0, and_self, if_true] at ho'
                        exact ho'
                      · have ha' : alive X D lo b := by
                          rcases (hal' b).1 ha with h | h
                          · exact h
                          · exact absurd h e0
                        rw [if_neg (by omega)]
                        simp only [maskC, ha', if_true]
                        simp only [ctxOf, e0, if_false] at ho'
                        exact ho'
                    · rw [k6] at hlim
                      rcases hlim with ⟨h1, B', h2, h3⟩ | ⟨h1, h2⟩
                      · have hlt : b - (X.st i).σ.length < bs.length := by rw [blk_eq] at h2; exact (List.getElem?_eq_some_iff.1 h2).1
                        exact ⟨(hal' _).2 (.inr ⟨h1, by omega⟩), B', by rw [hblk b h1 (by omega)]; exact h2, h3⟩
                      · exact ⟨(hal' _).2 (.inl h1), h2⟩
                refine ⟨C', f, h.after hi hD hb ho k1 (hg2.2.trans k2) htn (by rw [hval]; exact k3) (fun m hm => by rw [haln] at hm; simp at hm) (.inr ⟨lo, hh, ⟨hG.grp, hG.ehi, hG.le, fun e h1 h2 => .inl (hG.before e h1 h2), fun e h1 h2 h3 => ?_, hsh⟩, i, he, hng, .inr rfl⟩)⟩
                rcases h3 with h3 | rfl
                · exact hG.behind e h1 h2 h3
                · omega
          | false =>
            have he : effAt X.ls i = false := by simp [effAt, hl, hE, hWf]
            have hpn := ev_none hE hev
            subst hpn
            cases hP : l.op.isP with
            | false =>
              have htn : tgt X.ls i = none := by
                cases ht : tgt X.ls i with
                | none => rfl
                | some t =>
                  obtain ⟨_, _, l', _, _, _, _, hl', _, hop, _⟩ := X.tgt_spec ht
                  rw [hl] at hl'; simp at hl'; subst hl'
                  rw [hop] at hP; simp [IOp.isP] at hP
              have haln : alcAt X.ls i = none := by
                unfold alcAt; simp only [hl]
                split
                · rename_i m hop; rw [hop] at hP; simp [IOp.isP] at hP
                · rfl
              refine opR hF.op hP hE hWf X.hce h.good (h.sees hi hD hb hl hF hE hWf hP) hR hev _ Q fun v' w' hp => ?_
              obtain ⟨I', k1, k2, k3⟩ := hp
              exact ⟨_, f, h.after hi hD hb ho k1 k2 htn (by rw [hval]; exact k3) (fun m hm => by rw [haln] at hm; simp at hm) (h.fr.noeff he I')⟩
            | true =>
              cases ht : tgt X.ls i with
              | some t =>
                obtain ⟨_, o', l', d, x, m, ho', hl', _, hop, hg', hdst, hd, htd, hal, hbt, huniq⟩ := X.tgt_spec ht
                rw [hl] at hl'; simp at hl'; subst hl'
                rw [ho] at ho'; simp at ho'; subst ho'
                have hnt : ∀ i', D i' → tgt X.ls i' ≠ some t := fun i' hi' e => hD (X.tgt_inj ht e ▸ hi')
                obtain ⟨s, id, c, el, k1, k2, k3, k4, k5, k6, k7⟩ := h.lb t m (hb _ hbt) hal hnt
                rw [hop] at hev
                simp only [ev] at hev
                split at hev
                case isFalse => simp at hev
                rename_i hc
                simp only [Bool.and_eq_true, beq_iff_eq] at hc
                simp at hev
                have hop' := hF.op
                rw [hop] at hop'
                obtain ⟨y, q1, q2⟩ := opI hop' (w := w) (a := a) (C := C) (r := rv X.vars (X.st i).env) (id := id) (c := c) (el := el) (fun q hq => by
                  unfold okRef at hq
                  split at hq
                  · rename_i s' d' heq
                    simp only [Rf.t.injEq] at heq; subst heq
                    simp only [Bool.and_eq_true, beq_iff_eq] at hq
                    have hs' := hq.1.2
                    rw [← htd] at hs'
                    simp only [slotOf, alc_tgt hal, k1, Option.some.injEq] at hs'
                    subst hs'
                    exact k2
                  all_goals (rename_i heq; first | (simp at heq; done) | (simp at hq; done) | skip)) k6 k7 (fun q hq => hR q x hq) hc.1 hc.2
                refine q2 _ Q fun v' w' hp => ?_
                obtain ⟨c', rfl, z1, z2⟩ := hp
                rw [hdst]
                exact ⟨_, f, h.fill hi hD hb hl hop ht (by rw [hval, ← hev]) hc.1 q1 k1 k2 k3 k4 k5 k6 z1 z2⟩
              | none =>
                cases hal : alcAt X.ls i with
                | some m =>
                  have hop : l.op = .alc0 m := by
                    unfold alcAt at hal; simp only [hl] at hal
                    split at hal
                    · rename_i m' hop; simp at hal; rw [hop, hal]
                    · simp at hal
                  have hop' := hF.op
                  rw [hop] at hop' hev
                  simp [ev] at hev
                  have hds := hF.ini
                  simp only [okIni, hop, Bool.and_eq_true] at hds
                  obtain ⟨s, hs⟩ := Option.isSome_iff_exists.1 hds.2
                  refine opA (w := w) (a := a) (C := C) hop' h.good _ Q fun v' w' hp => ?_
                  obtain ⟨p1, p2, id, c, el, p3⟩ := hp
                  exact ⟨C, f, h.after hi hD hb ho p1 p2 ht (by rw [hval, ← hev]; unfold VR; trivial) (fun m' hm' => by
                    rw [hal] at hm'; simp at hm'; subst hm'
                    exact ⟨⟨s, hs⟩, id, c, el, p3⟩) (h.fr.noeff he C.I)⟩
                | none =>
                  have hni : l.op.isIni = false := by
                    cases hop : l.op with
                    | alc0 m => simp [alcAt, hl, hop] at hal
                    | ini p x n =>
                      have := hF.ini
                      cases p with
                      | t d => simp [tgt, hl, hop] at ht
                      | v k => simp [okIni, hop] at this
                      | c x => simp [okIni, hop] at this
                    | _ => rfl
                  obtain ⟨q1, _⟩ := opP (w := w) (a := a) (C := C) hF.op hP hni X.hce X.hbd h.good hR rfl hev
                  refine q1 _ Q fun v' w' hp => ?_
                  obtain ⟨I', k1, k2, k3⟩ := hp
                  exact ⟨_, f, h.after hi hD hb ho k1 k2 ht (by rw [hval]; exact k3) (fun m hm => by rw [hal] at hm; simp at hm) (h.fr.noeff he I')⟩
end
end Ab
