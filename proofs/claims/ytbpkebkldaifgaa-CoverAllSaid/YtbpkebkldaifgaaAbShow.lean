/- What is known after an effect is the new list of blocks, and the old one can still be seen. Condition: none. -/
import Derived.Test.YtbpkebkldaifgaaAbPhase
set_option linter.all false
namespace Ab
open Go

/-- What is known is this list of blocks, or more. -/
def Shows (C : Ctx) (σ : List Blk) : Prop := ∃ ids, (∀ b u e, (ctxOf σ ids C.I).own b u = some e → C.own b u = some e) ∧ ∀ b u, C.lim b u → (ctxOf σ ids C.I).lim b u
/-- The blocks of this list can be seen. -/
def Seen (C : Ctx) (σ : List Blk) : Prop := ∀ b u B, upto σ b u = some B → ∃ id, C.own b u = some (B, id)

theorem Shows.seen {C : Ctx} {σ : List Blk} (h : Shows C σ) : Seen C σ := fun b u B hu => by
  obtain ⟨ids, h1, _⟩ := h
  exact ⟨_, h1 b u _ (upto_own ids C.I hu)⟩
theorem shows_ctx (σ : List Blk) (ids : Nat → Nat) (I : Nat → Prop) : Shows (ctxOf σ ids I) σ := ⟨ids, fun _ _ _ h => h, fun _ _ h => h⟩
theorem Shows.withI {C : Ctx} {σ : List Blk} (h : Shows C σ) (I' : Nat → Prop) : Shows { C with I := I' } σ := by
  obtain ⟨ids, h1, h2⟩ := h
  exact ⟨ids, h1, h2⟩
theorem Seen.withI {C : Ctx} {σ : List Blk} (h : Seen C σ) (I' : Nat → Prop) : Seen { C with I := I' } σ := h

/-- No more is known than the list. -/
theorem Shows.take {C : Ctx} {σ : List Blk} {w : World} (h : Shows C σ) (hg : Good C w) : ∃ ids, Good (ctxOf σ ids C.I) w ∧ Step C w (ctxOf σ ids C.I) w := by
  obtain ⟨ids, h1, h2⟩ := h
  exact ⟨ids, Good.shrink hg rfl h1 h2⟩

theorem Ext.shows {σ : List Blk} {ids : Nat → Nat} {I : Nat → Prop} {p : Option Pend} {C' : Ctx} {w' : World} (hg : Good C' w') (h : Ext σ.length p (ctxOf σ ids I) C') :
    Shows C' (match p with | some q => commit σ q | none => σ) ∧ Seen C' σ := by
  cases p with
  | none =>
    obtain ⟨h1, h2⟩ := h
    have hs : Shows C' σ := ⟨ids, fun b u e he => by rw [h1]; exact he, fun b u he => by rw [h2] at he; exact he⟩
    exact ⟨hs, hs.seen⟩
  | some q =>
    cases q with
    | new B =>
      obtain ⟨id, h1, h2⟩ := h
      have hnd : B.st ≠ .dead := (hg.ent σ.length B.cells.length B id (by rw [h1]; simp [addOwn])).2.2.2
      refine ⟨⟨fun q => if q = σ.length then id else ids q, fun b u e he => ?_, fun b u he => ?_⟩, fun b u B' hu => ?_⟩
      · rw [h1]; exact ctxOf_push (I := C'.I) hnd b u e he
      · rw [h2] at he; exact ctxOf_push_lim (ids := ids) (I := C'.I) (id := id) b u he
      · obtain ⟨hb, _⟩ := upto_blk hu
        have hlt : b < σ.length := by rw [blk_eq] at hb; exact (List.getElem?_eq_some_iff.1 hb).1
        rw [h1]
        simp only [addOwn]
        rw [if_neg (by omega)]
        exact ⟨_, upto_own ids I hu⟩
    | news l =>
      obtain ⟨ids2, h1, h2⟩ := h
      have hblk : ∀ b, blk (σ ++ l) b = if b < σ.length then blk σ b else blk l (b - σ.length) := fun b => by
        rw [blk_eq, blk_eq, blk_eq]
        by_cases hb : b < σ.length
        · rw [if_pos hb, List.getElem?_append_left hb]
        · rw [if_neg hb, List.getElem?_append_right (by omega)]
      refine ⟨⟨fun q => if q < σ.length then ids q else ids2 (q - σ.length), fun b u e he => ?_, fun b u he => ?_⟩, fun b u B' hu => ?_⟩
      · rw [h1]
        simp only [ctxOf, commit, hblk] at he ⊢
        by_cases hb : b < σ.length
        · rw [if_neg (by omega)]
          simp only [hb, if_true] at he
          exact he
        · simp only [hb, if_false] at he
          have hlt : b - σ.length < l.length := by
            cases hq : blk l (b - σ.length) with
            | none => simp [hq] at he
            | some q => rw [blk_eq] at hq; exact (List.getElem?_eq_some_iff.1 hq).1
          rw [if_pos (by omega)]
          exact he
      · rw [h2] at he
        simp only [ctxOf, commit, hblk] at he ⊢
        rcases he with ⟨k1, B1, k2, k3⟩ | ⟨B1, k2, k3⟩
        · exact ⟨B1, by rw [if_neg (by omega)]; exact k2, k3⟩
        · have hlt : b < σ.length := by rw [blk_eq] at k2; exact (List.getElem?_eq_some_iff.1 k2).1
          exact ⟨B1, by rw [if_pos hlt]; exact k2, k3⟩
      · obtain ⟨hb, _⟩ := upto_blk hu
        have hlt : b < σ.length := by rw [blk_eq] at hb; exact (List.getElem?_eq_some_iff.1 hb).1
        rw [h1]
        simp only
        rw [if_neg (by omega)]
        exact ⟨_, upto_own ids I hu⟩
    | grow b cs =>
      obtain ⟨B0, id0, id, hne, h0, h1, h2⟩ := h
      obtain ⟨_, hb, _⟩ := own_upto h0
      have hlen : B0.cells.length < (B0.cells ++ cs).length := by
        have : 0 < cs.length := List.length_pos_iff.2 hne
        simp; omega
      have hgr : commit σ (.grow b cs) = setB σ b ⟨B0.k, B0.cells ++ cs, .live⟩ := by simp only [commit, growB, hb]
      simp only [hgr]
      refine ⟨⟨fun q => if q = b then id else ids q, fun b1 u e he => ?_, fun b1 u he => ?_⟩, fun b1 u B' hu => ?_⟩
      · rw [h1]
        exact ctxOf_set (ids := ids) (I := C'.I) (B' := ⟨B0.k, B0.cells ++ cs, .live⟩) (id' := id) hb (by simp) b1 u e he
      · rw [h2] at he
        rcases he with ⟨rfl, rfl⟩ | he
        · have hlt : b1 < σ.length := by rw [blk_eq] at hb; exact (List.getElem?_eq_some_iff.1 hb).1
          exact ⟨⟨B0.k, B0.cells ++ cs, .live⟩, by rw [blk_set hlt]; simp, Nat.le_refl _⟩
        · exact ctxOf_set_lim (ids := ids) (I := C'.I) hb (by show _ ≤ (B0.cells ++ cs).length; omega) b1 u he
      · obtain ⟨k1, k2, _⟩ := upto_blk hu
        rw [h1]
        simp only [addOwn]
        rw [if_neg (by
          rintro ⟨rfl, rfl⟩
          rw [hb] at k1
          simp at k1; subst k1
          omega)]
        exact ⟨_, upto_own ids I hu⟩
end Ab
