/- Batches of words: the document's. Condition: none. -/
import Derived.Test.YtkedjdfangojmaaRGrp
set_option linter.all false
set_option maxRecDepth 100000
set_option maxHeartbeats 4000000
namespace Ab
theorem rg_putR {cds : List AV} {c x : AV} : putR (cds ++ [c]) cds.length [x] = cds ++ [x] := by
  rw [← put_R (by simp)]
  simp [putAt]
/-- The batches in memory. -/
def GI (r : List Blk) (cells : List AV) (gs : List (List (List Int))) : Prop := (cells = [] ∧ gs = []) ∨ ∃ cds ds X cs g, cells = cds ++ [.sl (X + 1) g.length 0 g.length] ∧ gs = ds ++ [g] ∧ F2 (RG r X) cds ds ∧ blk r X = some ⟨none, cs, .live⟩ ∧ F2 (RW r X) cs g ∧ g ≠ []
theorem GI.len {r : List Blk} {cells : List AV} {gs : List (List (List Int))} (h : GI r cells gs) : cells.length = gs.length := by
  rcases h with ⟨rfl, rfl⟩ | ⟨cds, ds, X, cs, g, rfl, rfl, h, _⟩
  · rfl
  · simp [h.len]
theorem GI.old {r : List Blk} {cells : List AV} {gs : List (List (List Int))} (h : GI r cells gs) {r' : List Blk} {X' : Nat} (hb : ∀ b B, blk r b = some B → blk r' b = some B) (hx : r.length ≤ X') : F2 (RG r' X') cells gs := by
  rcases h with ⟨rfl, rfl⟩ | ⟨cds, ds, X, cs, g, rfl, rfl, h1, h2, h3, _⟩
  · exact .nil
  · refine (h1.imp fun a b k => k.mono (fun b B _ => hb b B) (.inr hx)).snoc ⟨X, cs, ?_, rfl, hb _ _ h2, h3.imp fun a b k => k.mono (fun b B _ => hb b B) (.inr hx)⟩
    have := rg_blk_lt h2; omega
theorem GI.seen {r : List Blk} {cells : List AV} {gs : List (List (List Int))} (h : GI r cells gs) : view (⟨none, cells, if cells = [] then .nul else .live⟩ :: r) false vd (.sl 0 cells.length 0 cells.length) = some (iG gs) := by
  have hw : ∀ c w, RW r r.length c w → view (⟨none, cells, if cells = [] then .nul else .live⟩ :: r) false 10 c = some (iL w) := fun c w k => by
    rcases k with ⟨rfl, rfl⟩ | ⟨h0, b, _, rfl, h1⟩
    · rfl
    · exact view_sm (k := 9) (f := .int) (g := .int) (st := .live) (xs := w) h1 (by simp) rfl fun _ _ => rfl
  have ho := h.old (r' := r) (X' := r.length) (fun b B h => h) (Nat.le_refl _)
  have hg : ∀ c g, RG r r.length c g → view (⟨none, cells, if cells = [] then .nul else .live⟩ :: r) false 11 c = some (iLL g) := fun c g ⟨b, cs, _, e, h1, h2⟩ => by
    subst e
    refine view_F2 (k := 10) (st := .live) h1 (by simp) h2.len.symm ?_
    exact h2.map.imp fun c y ⟨w, k1, k2⟩ => by subst k2; exact hw c w k1
  refine view_F2 (k := 11) (st := if cells = [] then .nul else .live) rfl (by split <;> simp) rfl ?_
  exact ho.map.imp fun c y ⟨w, k1, k2⟩ => by subst k2; exact hg c w k1
theorem flat_len : ∀ (l : List (List (List Int))), (∀ g ∈ l, g ≠ []) → l.length ≤ l.flatten.length
  | [], _ => by simp
  | a :: r, h => by
    have h1 := flat_len r fun g hg => h g (by simp [hg])
    have h2 := List.length_pos_iff.2 (h a (by simp))
    simp at h1 ⊢; omega
theorem RGroups_s (ws : List (List Int)) (most : Int) (hm : -9223372036854775808 ≤ most ∧ most ≤ 9223372036854775807) (hl : (ws.length : Int) ≤ 1000000) (ht : (tot ws : Int) ≤ 1000000) (hw : ∀ w ∈ ws, (w.length : Int) ≤ 1000000) : PC F_ref20_Groups [iLL ws, .int most] = some (.tup (if most < 1 then [iG [], .int 2] else [iG (gro most ws), .int 0])) := by
  refine PCx_of (go_ref20_Groups rfl ?_)
  by_cases h1 : most < 1
  · simp [h1]
  · simp [h1]
    refine W_iter (fun p : Nat × List AV × List Blk => [(2, .int p.1), (3, .int (tot (lastG (gro most (ws.take p.1))))), (5, .sl 0 p.2.1.length 0 p.2.1.length)]) (fun p => ⟨none, p.2.1, if p.2.1 = [] then .nul else .live⟩ :: p.2.2) (fun p => p.1 ≤ ws.length ∧ GI p.2.2 p.2.1 (gro most (ws.take p.1))) (fun p => ws.length - p.1) (0, [], []) (by simp [sets, gro, lastG, tot]) ⟨by simp, .inl ⟨rfl, rfl⟩⟩ ?_
    rintro ⟨i, cells, r⟩ ⟨i0, i1⟩
    dsimp only at i0 i1 ⊢
    by_cases hi : i < ws.length
    · have hst : gro most (ws.take (i + 1)) = gstep most (gro most (ws.take i)) (ix ws (i : Int)) := by
        unfold gro
        rw [List.take_add_one, List.getElem?_eq_getElem hi, ix_nat hi, List.foldl_append]; rfl
      have hfl := (gro_gp (most := most) (ws := ws.take i)).2
      have hne : gro most (ws.take i) = [] ↔ i = 0 := by
        constructor
        · intro e
          rw [e] at hfl
          have := congrArg List.length hfl
          simp at this; omega
        · rintro rfl; rfl
      have hlen := i1.len
      have hgp := (gro_gp (most := most) (ws := ws.take i)).1.1
      generalize gro most (ws.take i) = gs at *
      have hgl : gs.length ≤ ws.length := by
        have h1 := flat_len gs fun g h => (hgp g h).1
        rw [hfl] at h1; simp at h1; omega
      have htl : tot (lastG gs) ≤ tot ws := by
        have h2 := tot_le (ws := ws) (k := i)
        rw [← hfl] at h2
        by_cases he : gs = []
        · rw [he]; simp [lastG, tot]
        · rw [gs_split he, List.flatten_append, tot_app] at h2
          simp at h2; omega
      have hwi := hw _ (ix_get (l := ws) (i := i) hi)
      by_cases hnew : i = 0 ∨ most < (tot (lastG gs) : Int) + (ix ws (i : Int)).length
      · have e1 : gstep most gs (ix ws (i : Int)) = gs ++ [[ix ws (i : Int)]] := by
          unfold gstep; rw [if_pos]; rcases hnew with h | h
          · exact .inl (hne.2 h)
          · exact .inr h
        rw [e1] at hst
        have hlg : (tot (lastG (gro most (ws.take (i + 1)))) : Int) = (ix ws (i : Int)).length := by rw [hst, lastG_app]; simp [tot]
        by_cases hwz : ix ws (i : Int) = []
        · have hwz' : (ix ws (i : Int) = []) = True := eq_true hwz
          have hwl : (ix ws (i : Int)).length = 0 := by rw [hwz]; rfl
          have hG : GI (r ++ [⟨none, [.imm true []], .live⟩]) (cells ++ [.sl (r.length + 1) 1 0 1]) (gro most (ws.take (i + 1))) := by
            rw [hst]
            exact .inr ⟨cells, gs, r.length, _, [ix ws (i : Int)], rfl, rfl, i1.old (fun b B => rg_app) (Nat.le_refl _), rg_blk_new, .cons (.inl ⟨rfl, hwz⟩) .nil, by simp⟩
          simp [-More_nor, hi, rg_elm_last, rg_pU_last, rg_putR, hwz', hwl]
          refine ⟨fun hz => ?_, fun hz => ⟨by omega, fun hgt => ?_, fun hle => absurd hnew (by omega)⟩⟩
          · refine ⟨by split <;> simp, by omega, by omega, by omega, by omega, More_of (i + 1, cells ++ [.sl (r.length + 1) 1 0 1], r ++ [⟨none, [.imm true []], .live⟩]) (by simp [hlg, hwl]) (by simp) ⟨hi, hG⟩ (by dsimp only; omega)⟩
          · refine ⟨by split <;> simp, by omega, by omega, by omega, by omega, More_of (i + 1, cells ++ [.sl (r.length + 1) 1 0 1], r ++ [⟨none, [.imm true []], .live⟩]) (by simp [hlg, hwl]) (by simp) ⟨hi, hG⟩ (by dsimp only; omega)⟩
        · have hG : GI (r ++ [⟨none, (ix ws (i : Int)).map .int, .live⟩, ⟨none, [.sl (r.length + 1) (ix ws (i : Int)).length 0 (ix ws (i : Int)).length], .live⟩]) (cells ++ [.sl (r.length + 1 + 1) 1 0 1]) (gro most (ws.take (i + 1))) := by
            rw [hst]
            have hn2 : blk (r ++ [⟨none, (ix ws (i : Int)).map .int, .live⟩, ⟨none, [.sl (r.length + 1) (ix ws (i : Int)).length 0 (ix ws (i : Int)).length], .live⟩]) (r.length + 1) = some ⟨none, [.sl (r.length + 1) (ix ws (i : Int)).length 0 (ix ws (i : Int)).length], .live⟩ := by
              have := rg_blk_new (r := r ++ [⟨none, (ix ws (i : Int)).map .int, .live⟩]) (B := ⟨none, [.sl (r.length + 1) (ix ws (i : Int)).length 0 (ix ws (i : Int)).length], .live⟩) (l := [])
              simpa using this
            exact .inr ⟨cells, gs, r.length + 1, _, [ix ws (i : Int)], rfl, rfl, i1.old (fun b B => rg_app) (by omega), hn2, .cons (.inr ⟨hwz, r.length, by omega, rfl, rg_blk_new⟩) .nil, by simp⟩
          simp [-More_nor, hi, rg_elm_last, rg_pU_last, rg_putR, hwz]
          refine ⟨fun hz => ?_, fun hz => ⟨by omega, fun hgt => ?_, fun hle => absurd hnew (by omega)⟩⟩
          · refine ⟨by split <;> simp, by omega, by omega, by omega, by omega, by omega, by omega, by omega, More_of (i + 1, cells ++ [.sl (r.length + 1 + 1) 1 0 1], r ++ [⟨none, (ix ws (i : Int)).map .int, .live⟩, ⟨none, [.sl (r.length + 1) (ix ws (i : Int)).length 0 (ix ws (i : Int)).length], .live⟩]) (by simp [hlg]) (by simp) ⟨hi, hG⟩ (by dsimp only; omega)⟩
          · refine ⟨by split <;> simp, by omega, by omega, by omega, by omega, by omega, by omega, by omega, More_of (i + 1, cells ++ [.sl (r.length + 1 + 1) 1 0 1], r ++ [⟨none, (ix ws (i : Int)).map .int, .live⟩, ⟨none, [.sl (r.length + 1) (ix ws (i : Int)).length 0 (ix ws (i : Int)).length], .live⟩]) (by simp [hlg]) (by simp) ⟨hi, hG⟩ (by dsimp only; omega)⟩
      · have hz : ¬ (i = 0) := fun e => hnew (.inl e)
        have hle : ¬ most < (tot (lastG gs) : Int) + (ix ws (i : Int)).length := fun e => hnew (.inr e)
        rcases i1 with ⟨_, e⟩ | ⟨cds, ds, X, cs, g, ec, eg, f1, f2, f3, f4⟩
        · exact absurd (hne.1 e) hz
        subst ec eg
        have e1 : gstep most (ds ++ [g]) (ix ws (i : Int)) = ds ++ [g ++ [ix ws (i : Int)]] := by
          unfold gstep; rw [if_neg (by
            rintro (h | h)
            · simp at h
            · exact hle h), lastG_app, List.dropLast_concat]
        rw [e1] at hst
        rw [lastG_app] at hle htl ⊢
        have hlg : (tot (lastG (gro most (ws.take (i + 1)))) : Int) = tot g + (ix ws (i : Int)).length := by rw [hst, lastG_app, tot_app]; simp [tot]
        have hgl2 := f3.len
        have hX := rg_blk_lt f2
        have hcl : cds.length + 1 ≤ ws.length := by have h1 := hlen; simp at h1 hgl; omega
        have hgg : g.length ≤ ws.length := by
          have h1 := congrArg List.length hfl
          simp at h1; omega
        by_cases hwz : ix ws (i : Int) = []
        · have hwz' : (ix ws (i : Int) = []) = True := eq_true hwz
          have hwl : (ix ws (i : Int)).length = 0 := by rw [hwz]; rfl
          have hle' : ¬ most < (tot g : Int) := by rw [hwl] at hle; simpa using hle
          have hG : GI (setB r X ⟨none, cs ++ [.imm true []], .live⟩) (cds ++ [.sl (X + 1) (g.length + 1) 0 (g.length + 1)]) (gro most (ws.take (i + 1))) := by
            rw [hst]
            have hb : ∀ b B, b ≠ X → blk r b = some B → blk (setB r X ⟨none, cs ++ [.imm true []], .live⟩) b = some B := fun b B h k => by rw [rg_set_ne h]; exact k
            refine .inr ⟨cds, ds, X, cs ++ [.imm true []], g ++ [ix ws (i : Int)], by simp, rfl, f1.imp fun a b k => k.mono hb (.inl rfl), rg_set_eq hX, (f3.imp fun a b k => k.mono hb (.inl rfl)).snoc (.inl ⟨rfl, hwz⟩), by simp⟩
          simp [-More_nor, hi, rg_elm_last, rg_pU_last, rg_putR, hwz', hwl, hz, hle, hle', f2, hgl2]
          refine ⟨by omega, by omega, by omega, by omega, by omega, by omega, by omega, More_of (i + 1, cds ++ [.sl (X + 1) (g.length + 1) 0 (g.length + 1)], setB r X ⟨none, cs ++ [.imm true []], .live⟩) (by simp [hlg, hwl]) (by simp) ⟨hi, hG⟩ (by dsimp only; omega)⟩
        · have hG : GI (setB (r ++ [⟨none, (ix ws (i : Int)).map .int, .live⟩]) X ⟨none, cs ++ [.sl (r.length + 1) (ix ws (i : Int)).length 0 (ix ws (i : Int)).length], .live⟩) (cds ++ [.sl (X + 1) (g.length + 1) 0 (g.length + 1)]) (gro most (ws.take (i + 1))) := by
            rw [hst]
            have hb : ∀ b B, b ≠ X → blk r b = some B → blk (setB (r ++ [⟨none, (ix ws (i : Int)).map .int, .live⟩]) X ⟨none, cs ++ [.sl (r.length + 1) (ix ws (i : Int)).length 0 (ix ws (i : Int)).length], .live⟩) b = some B := fun b B h k => by rw [rg_set_ne h]; exact rg_app k
            refine .inr ⟨cds, ds, X, cs ++ [.sl (r.length + 1) (ix ws (i : Int)).length 0 (ix ws (i : Int)).length], g ++ [ix ws (i : Int)], by simp, rfl, f1.imp fun a b k => k.mono hb (.inl rfl), rg_set_eq (by simp; omega), (f3.imp fun a b k => k.mono hb (.inl rfl)).snoc (.inr ⟨hwz, r.length, by omega, rfl, ?_⟩), by simp⟩
            rw [rg_set_ne (by omega)]; exact rg_blk_new
          have f2' : blk (r ++ [⟨none, (ix ws (i : Int)).map .int, .live⟩]) X = some ⟨none, cs, .live⟩ := rg_app f2
          simp [-More_nor, hi, rg_elm_last, rg_pU_last, rg_putR, hwz, hz, hle, f2', hgl2]
          refine ⟨by omega, by omega, by omega, by omega, by omega, by omega, by omega, by omega, More_of (i + 1, cds ++ [.sl (X + 1) (g.length + 1) 0 (g.length + 1)], setB (r ++ [⟨none, (ix ws (i : Int)).map .int, .live⟩]) X ⟨none, cs ++ [.sl (r.length + 1) (ix ws (i : Int)).length 0 (ix ws (i : Int)).length], .live⟩) (by simp [hlg]) (by simp) ⟨hi, hG⟩ (by dsimp only; omega)⟩
    · have ei : i = ws.length := by omega
      subst ei
      have e1 : ws.take ws.length = ws := List.take_of_length_le (by simp)
      rw [e1] at i1
      have hv := i1.seen
      simp [hv]
end Ab
