/- Appends one behind the other; calls that are handed the blocks. Condition: the callees answer as the interpreter says. -/
import Derived.Test.YtgaidfgpedibhaaAbOps6
set_option linter.all false
namespace Ab
open Go
variable {P : Program}
section
variable {a : Act} {ρ : Operand → Value} {r : Rf → AV} {w : World} {C : Ctx} {R : Operand → Rf → Bool} {ce : CE} {σ : List Blk} {nl : Nat} {ps : List Pend}

theorem blk_push {B : Blk} {b : Nat} : blk (σ ++ [B]) b = if b = σ.length then some B else blk σ b := by
  rw [blk_eq, blk_eq]
  by_cases e : b = σ.length
  · subst e; simp
  · rw [if_neg e]
    by_cases h : b < σ.length
    · rw [List.getElem?_append_left h]
    · rw [List.getElem?_append_right (by omega), List.getElem?_eq_none (by simp; omega), List.getElem?_eq_none (by omega)]
theorem ctxOf_push {ids : Nat → Nat} {I : Nat → Prop} {B : Blk} {id : Nat} (hnd : B.st ≠ .dead) : ∀ b u e, (ctxOf (σ ++ [B]) (fun q => if q = σ.length then id else ids q) I).own b u = some e → (addOwn (ctxOf σ ids I) σ.length B.cells.length (B, id)).own b u = some e := fun b u e h => by
  simp only [ctxOf, addOwn, blk_push] at h ⊢
  by_cases e1 : b = σ.length
  · simp only [e1, if_true] at h
    cases hs : B.st with
    | dead => exact absurd hs hnd
    | nul =>
      by_cases hu : B.cells.length = u
      · simp only [hu, if_true] at h
        rw [if_pos ⟨e1, hu.symm⟩]; exact h
      · simp [hu] at h
    | live =>
      by_cases hu : B.cells.length = u
      · simp only [hu, if_true] at h
        rw [if_pos ⟨e1, hu.symm⟩]; exact h
      · simp [hu] at h
  · rw [if_neg (fun h' => e1 h'.1)]
    simp only [if_neg e1] at h
    exact h
theorem ctxOf_push_lim {ids ids' : Nat → Nat} {I : Nat → Prop} {B : Blk} {id : Nat} : ∀ b u, (addOwn (ctxOf σ ids I) σ.length B.cells.length (B, id)).lim b u → (ctxOf (σ ++ [B]) ids' I).lim b u := fun b u h => by
  simp only [ctxOf, addOwn, blk_push] at h ⊢
  rcases h with ⟨rfl, rfl⟩ | ⟨B1, h1, h2⟩
  · exact ⟨B, by simp, Nat.le_refl _⟩
  · have : b ≠ σ.length := fun e => by
      rw [blk_eq, List.getElem?_eq_none (by omega)] at h1; simp at h1
    exact ⟨B1, by rw [if_neg this]; exact h1, h2⟩
theorem ctxOf_nolim {ids : Nat → Nat} {I : Nat → Prop} : ∀ u, ¬ (ctxOf σ ids I).lim σ.length u := fun u ⟨B1, h1, _⟩ => by
  rw [blk_eq, List.getElem?_eq_none (by omega)] at h1; simp at h1

theorem dw_appw {ids : Nat → Nat} {I : Nat → Prop} {o : Oper} {ca : Call} {s x : Operand} {t t' e : TypeId} {s' x' : Rf} {k : Option Nat} {z : AV} {σ' : List Blk} (ho : o.op = .call ca) (hc : ca.callee = .builtin .append) (ha : ca.args.toList = [s, x]) (hat : ca.argTypes.toList = [t, t'])
    (ht : sliceOf P t = some e) (ht' : (sliceOf P t').isSome = true) (hk : kindIs P e k = true) (hby : bytesOk P e = true) (hz : hasZero P e = true) (hg : Good (ctxOf σ ids I) w)
    (hs : VR (ctxOf σ ids I) w.heap (r s') (a.eval s)) (hx : VR (ctxOf σ ids I) w.heap (r x') (a.eval x)) (he : evW ce σ r (.appw s' x' k) = some (z, σ')) : Does P o a w (PostW σ ids I w z σ') := by
  have hup : ∀ b u B, upto σ b u = some B → ∃ id, (ctxOf σ ids I).own b u = some (B, id) := fun b u B h => ⟨_, upto_own ids I h⟩
  -- a new block at the list's end
  have newb : ∀ (B : Blk) (x1 : AV) v w' id', B.st = .live → Good (addOwn (ctxOf σ ids I) σ.length B.cells.length (B, id')) w' → Step (ctxOf σ ids I) w (addOwn (ctxOf σ ids I) σ.length B.cells.length (B, id')) w' →
      VR (addOwn (ctxOf σ ids I) σ.length B.cells.length (B, id')) w'.heap x1 v → PostW σ ids I w x1 (σ ++ [B]) v w' := fun B x1 v w' id' hst h2 h3 h4 => by
    obtain ⟨f1, f2⟩ := Good.shrink (C2 := ctxOf (σ ++ [B]) (fun q => if q = σ.length then id' else ids q) I) h2 rfl (ctxOf_push (by rw [hst]; simp)) ctxOf_push_lim
    exact ⟨_, I, f1, h3.trans f2, VR.mono f2.ev _ _ h4⟩
  simp only [evW] at he
  cases hsrc : srcCells σ k (r x') with
  | none => simp [hsrc] at he
  | some ncs =>
    obtain ⟨n, cs⟩ := ncs
    simp only [hsrc] at he
    cases hs' : r s' <;> simp only [hs'] at he <;> try (simp at he; done)
    · rw [hs'] at hs
      have hv : a.eval s = .slice none 0 0 := hs
      by_cases hn : n = 0
      · subst hn
        simp at he; obtain ⟨rfl, rfl⟩ := he
        exact append_does ho hc ha hat (app_none ht ht' hk hg hup hsrc hx ⟨none, 0, 0, hv, Nat.le_refl 0⟩) ⟨ids, I, hg, Step.refl _ _, by rw [hv]; exact rfl⟩
      · have hn' : (n == 0) = false := by simpa using hn
        simp only [hn', Bool.false_eq_true, if_false] at he
        split at he
        case isFalse => simp at he
        rename_i hbig
        simp only [Option.some.injEq, Prod.mk.injEq] at he
        obtain ⟨rfl, rfl⟩ := he
        obtain ⟨v, w', id', h1, h2, h3, h4⟩ := app_new (P := P) (σ := σ) (cells := []) (k0 := k) (b := σ.length) (len := 0) (cap := 0) (base := none) (olds := []) (ty := o.type) ht ht' hk hby hz hg hup hsrc hx (ctxOf_nolim _) rfl (by simp) rfl (fun w1 _ => by simp [Builtin.firstCells]) (by simp) (by omega) (by omega)
        rw [← hv] at h1
        simp only [List.nil_append, Nat.zero_add] at h2 h3 h4
        exact append_does ho hc ha hat h1 (newb ⟨k, cs, .live⟩ _ _ _ id' rfl h2 h3 h4)
    · rename_i l
      rw [hs'] at hs
      have hs0 := hs
      unfold VR at hs
      obtain ⟨blk', off, st, c, el, fz, hv, hI, hH, hl⟩ := hs
      by_cases hn : n = 0
      · subst hn
        simp at he; obtain ⟨rfl, rfl⟩ := he
        refine append_does ho hc ha hat (app_none ht ht' hk hg hup hsrc hx ⟨_, _, _, hv, Nat.le_refl _⟩) ⟨ids, I, hg, Step.refl _ _, ?_⟩
        split
        · rename_i hnl
          unfold VR
          exact ⟨hnl, .inr ⟨blk', off, l.length, st, c, el, fz, hv, Nat.le_refl _, hI, hH, hl⟩⟩
        · exact hs0
      · have hn' : (n == 0) = false := by simpa using hn
        simp only [hn', Bool.false_eq_true, if_false] at he
        split at he
        case isFalse => simp at he
        rename_i hcond
        simp only [Bool.and_eq_true, decide_eq_true_eq] at hcond
        simp only [Option.some.injEq, Prod.mk.injEq] at he
        obtain ⟨rfl, rfl⟩ := he
        obtain ⟨olds, _, k1, k2, k3, k4⟩ := src_run (P := P) (σ := σ) (k := k) (X := .arr l) (v := a.eval s) (n := l.length) (cs := l.flatMap AV.cells) (by simp only [srcCells, hcond.1, if_true]) hg hup hs0
        rw [hv] at k1
        obtain ⟨v, w', id', h1, h2, h3, h4⟩ := app_new (P := P) (σ := σ) (cells := l.flatMap AV.cells) (k0 := k) (b := σ.length) (olds := olds) (ty := o.type) ht ht' hk hby hz hg hup hsrc hx (ctxOf_nolim _) rfl k2 k3 k1 k4 (by omega) hcond.2
        rw [← hv] at h1
        exact append_does ho hc ha hat h1 (newb ⟨k, l.flatMap AV.cells ++ cs, .live⟩ _ _ _ id' rfl h2 h3 h4)
    · rename_i b u off len
      cases hu : upto σ b u with
      | none => simp [hu] at he
      | some B =>
        simp only [hu] at he
        split at he
        case isFalse => simp at he
        rename_i hcond
        simp only [Bool.and_eq_true, beq_iff_eq, decide_eq_true_eq] at hcond
        obtain ⟨⟨rfl, hbig⟩, hkk⟩ := hcond
        have hkk := eqK_eq hkk
        obtain ⟨hb, hul, hnd⟩ := upto_blk hu
        have hown := upto_own ids I hu
        subst hul
        rw [hs'] at hs
        by_cases hn : n = 0
        · subst hn
          simp at he; obtain ⟨rfl, rfl⟩ := he
          have hsh : ∃ a' l' c', a.eval s = .slice a' l' c' ∧ l' ≤ c' := by
            unfold VR at hs
            obtain ⟨⟨q, c, e1, e2, _⟩, _⟩ := hs
            exact ⟨_, _, _, e1, e2⟩
          exact append_does ho hc ha hat (app_none ht ht' hk hg hup hsrc hx hsh) ⟨ids, I, hg, Step.refl _ _, hs⟩
        · have hn' : (n == 0) = false := by simpa using hn
          simp only [hn', Bool.false_eq_true, if_false] at he
          split at he
          case isTrue => simp at he
          rename_i hcs
          simp at hcs
          have hcs' : 0 < cs.length := List.length_pos_iff.2 hcs
          split at he
          · rename_i hul
            simp only [beq_iff_eq] at hul
            simp only [Option.some.injEq, Prod.mk.injEq] at he
            obtain ⟨rfl, rfl⟩ := he
            obtain ⟨v, w', id', h1, h2, h3, h4⟩ := app_core (P := P) (σ := σ) (ty := o.type) ht ht' hk hby hz hg hup hsrc hx hown hul (by rw [hkk]) hs (by omega) hbig (fun ⟨B1, q1, q2⟩ => by rw [hb] at q1; simp at q1; subst q1; simp at q2; omega) (ctxOf_only (u := 0) hb)
            have hset := ctxOf_set (ids := ids) (I := I) (id' := id') (B' := ⟨B.k, B.cells ++ cs, .live⟩) hb (by simp)
            obtain ⟨f1, f2⟩ := Good.shrink (C2 := ctxOf (setB σ b ⟨B.k, B.cells ++ cs, .live⟩) (fun q => if q = b then id' else ids q) I) h2 rfl (fun b1 u1 e1 h1 => hset b1 u1 e1 h1) (fun b1 u1 h1 => by
              rcases h1 with ⟨e1, e2⟩ | h1
              · have hlt : b < σ.length := by rw [blk_eq] at hb; exact (List.getElem?_eq_some_iff.1 hb).1
                exact ⟨⟨B.k, B.cells ++ cs, .live⟩, by rw [blk_set hlt, if_pos e1], by rw [e2]; exact Nat.le_refl _⟩
              · exact ctxOf_set_lim (ids := ids) (I := I) hb (by show _ ≤ (B.cells ++ cs).length; simp) b1 u1 h1)
            have e1 : B.cells.length + cs.length = (B.cells ++ cs).length := by simp
            rw [e1]
            exact append_does ho hc ha hat h1 ⟨_, I, f1, h3.trans f2, VR.mono f2.ev _ _ h4⟩
          · split at he
            case isFalse => simp at he
            rename_i hle
            simp only [Option.some.injEq, Prod.mk.injEq] at he
            obtain ⟨rfl, rfl⟩ := he
            obtain ⟨vals, ⟨q, m, hvx⟩, hf, hcl, hvl, hvals⟩ := src_run (P := P) hsrc hg hup hx
            have hle2 : len * kst k + cs.length ≤ B.cells.length := by rw [hcl, ← Nat.add_mul]; exact hle
            obtain ⟨_, _, hnul, _⟩ := hg.ent b _ B _ hown
            have hlive : B.st = .live := by
              cases hst : B.st with
              | dead => exact absurd hst hnd
              | live => rfl
              | nul =>
                have h0 : B.cells.length = 0 := by rw [hnul hst]; rfl
                omega
            have hsv := hs
            unfold VR at hsv
            have hsv := hsv.2.2 B _ hown
            simp only [hlive] at hsv
            obtain ⟨c, el, o', cap, g1, hv, g3, g4, g5⟩ := hsv
            obtain ⟨_, c', el', n2, n3, n4⟩ := hg.live b _ B _ hown hlive
            rw [g1] at n2
            simp only [Option.some.injEq, Obj.cells.injEq] at n2
            obtain ⟨rfl, rfl, _⟩ := n2
            rw [hkk] at g5
            have hkp : 0 < kst k := Nat.pos_of_ne_zero fun h => by rw [h, Nat.mul_zero] at hcl; omega
            have hfit : len + n ≤ cap := by
              have : (len + n) * kst k ≤ cap * kst k := by omega
              exact Nat.le_of_mul_le_mul_right this hkp
            have hcap : 0 < cap := by omega
            have ho0 := g3 hcap
            subst ho0
            have hone : ∀ v ∈ vals, v.oneCell' = true := fun v hv => by
              obtain ⟨i, hi⟩ := List.getElem?_of_mem hv
              have hlt := (List.getElem?_eq_some_iff.1 hi).1
              obtain ⟨y, m1, m2, m3⟩ := hvals i cs[i] (List.getElem?_eq_getElem (by omega))
              rw [hi] at m1; simp at m1; subst m1; exact m3
            have hstore := run_storeCells_at P (ids b) (len * kst k) el vals 0 c w g1 (by omega) hone
            have happ := append_fits (P := P) (w := w) (ty := o.type) (base := some ⟨ids b, 0, none⟩) ht ht' hk hvx (hf w rfl) hfit (fun b' hb' => by
              simp at hb'; subst hb'
              rw [add_addr, Nat.zero_add]
              exact hstore) (fun h => by simp at h)
            rw [← hv] at happ
            obtain ⟨p1, p2⟩ := post_write (vals := vals) (new := cs) (off := len * kst k) hg hown hlive (ctxOf_only (u := 0) hb) g1 hle2 hvl hvals
            obtain ⟨pl, _⟩ := putAt_get B.cells cs (len * kst k) hle2
            have hset := ctxOf_set (ids := ids) (I := I) (id' := ids b) (B' := ⟨B.k, putAt B.cells (len * kst k) cs, B.st⟩) hb hnd
            have hids : (fun q => if q = b then ids b else ids q) = ids := by funext q; split <;> simp_all
            rw [hids] at hset
            obtain ⟨f1, f2⟩ := Good.shrink (C2 := ctxOf (setB σ b ⟨B.k, putAt B.cells (len * kst k) cs, B.st⟩) ids I) p1 rfl (fun b1 u1 e1 h1 => by
              have := hset b1 u1 e1 h1
              simp only [pl] at this
              exact this) (fun b1 u1 h1 => ctxOf_set_lim (ids := ids) (I := I) hb (by show _ ≤ (putAt B.cells (len * kst k) cs).length; omega) b1 u1 h1)
            refine append_does ho hc ha hat happ ⟨ids, I, f1, p2.trans f2, ?_⟩
            have hlt : b < σ.length := by rw [blk_eq] at hb; exact (List.getElem?_eq_some_iff.1 hb).1
            unfold VR
            refine ⟨⟨_, _, rfl, hfit, fun _ => ⟨_, rfl⟩⟩, ⟨_, by rw [blk_set hlt, if_pos rfl], by show _ ≤ (putAt B.cells (len * kst k) cs).length; omega⟩, fun B2 id2 h2 => ?_⟩
            have h2' := hset b _ _ h2
            rw [if_pos ⟨rfl, pl.symm⟩] at h2'
            simp at h2'
            obtain ⟨rfl, rfl⟩ := h2'
            simp only [hlive]
            refine ⟨_, el, 0, cap, setRow_heap w (ids b) c _ el (0, 0) g1, rfl, fun _ => rfl, hfit, ?_⟩
            rw [(take_set (by omega)).1, hkk]
            exact g5
end
end Ab
