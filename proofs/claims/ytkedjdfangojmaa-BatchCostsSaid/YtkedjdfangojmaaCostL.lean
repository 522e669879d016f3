/- The law on costs. Condition: none. -/
import Derived.Test.YtkedjdfangojmaaRGrpS
set_option linter.all false
set_option maxRecDepth 100000
set_option maxHeartbeats 4000000
namespace Ab
abbrev tyLat : Ty := .st [.sl .int, .int]
theorem has_Lat {x : AV} (h : tyLat.has x) : ∃ l : Lat, x = l.av ∧ l.fits := by
  obtain ⟨xs, rfl, h⟩ := h
  simp only [Ty.hasL] at h
  obtain ⟨x0, s0, rfl, h0, x1, s1, rfl, h1, rfl⟩ := h
  obtain ⟨a0, rfl, k0⟩ := has_I h0
  obtain ⟨a1, rfl, k1⟩ := has_int h1
  exact ⟨⟨a0, a1⟩, rfl, ⟨k0.1, fun x hx => inR_iff.1 (k0.2 x hx), inR_iff.1 k1⟩⟩
theorem rsameG_s (gs : List (List (List Int))) (hl : (gs.length : Int) ≤ 1000000) (hg : ∀ g ∈ gs, (g.length : Int) ≤ 1000000 ∧ ∀ w ∈ g, (w.length : Int) ≤ 1000000) : PC F_ref20_SameGroups [iG gs, iG gs] = some (.bool true) := by
  refine PCx_of (go_ref20_SameGroups rfl ?_)
  simp
  refine W_iter (fun i : Nat => [(2, .int i)]) (fun _ => []) (fun i => i ≤ gs.length) (fun i => gs.length - i) 0 (by simp [sets]) (by omega) ?_
  intro i i0
  by_cases hi : i < gs.length
  · obtain ⟨h1, h2⟩ := hg _ (ix_get (l := gs) (i := i) hi)
    have hs := rsameW_s (ix gs (i : Int)) (ix gs (i : Int)) (by omega) (by omega) (fun w hw => by have := h2 w hw; omega) (fun w hw => by have := h2 w hw; omega)
    simp at hs
    simp [-More_nor, hi, hs]
    (repeat' apply And.intro) <;> try omega
    exact More_of (i + 1) (by simp) rfl (by omega) (by omega)
  · simp [hi]
theorem BatchCosts_l (aw : PC F_law20_awake [] = some (.bool true)) (l : Lat) (h : l.fits) (ws : List (List Int)) (hw : okII ws) (most : Int) (hm : -9223372036854775808 ≤ most ∧ most ≤ 9223372036854775807) : PC F_law20_BatchCosts [l.av, iLL ws, .int most] = some (.bool true) := by
  refine PCx_of (go_law20_BatchCosts rfl ?_)
  have hl := h.len
  obtain ⟨b, hg, hb⟩ := rgreat_s ws 30 40 (by omega) (by omega) hw.1 (fun w hm => (hw.2 w hm).1)
  by_cases h70 : 70 < (l.step.length : Int)
  · simp [h70, aw]
  cases b with
  | true => simp [hg, aw, h70]
  | false =>
    obtain ⟨hb1, hb2⟩ := hb rfl
    have ht := tot_bound hb2
    have hw4 : ∀ w ∈ ws, (w.length : Int) ≤ 1000000 := fun w h => by have := hb2 w h; omega
    have hG := Groups_s ws most hm (by omega) (by omega) hw4
    have hR := RGroups_s ws most hm (by omega) (by omega) hw4
    have hC := Cost_s l h ws (by omega) (fun w h => by have := hw4 w h; omega)
    have hD := RCost_s l h ws (by omega) (fun w h => by have := hw4 w h; omega)
    by_cases h1 : most < 1
    · rw [if_pos h1] at hG hR
      have hS : PC F_ref20_SameGroups [.imm false [], .imm false []] = some (.bool true) := rsameG_s [] (by simp) (by simp)
      simp [hg, hG, hR, hC, hD, h70, aw, hS]
    · rw [if_neg h1] at hG hR
      obtain ⟨⟨p1, p2⟩, p3⟩ := gro_gp (most := most) (ws := ws)
      generalize gro most ws = gs at *
      have hlen := flat_len gs fun g h => (p1 g h).1
      rw [p3] at hlen
      have hS := rsameG_s gs (by omega) fun g hgm => by
        have hsub : ∀ w ∈ g, w ∈ ws := fun w hw => by rw [← p3]; exact List.mem_flatten.2 ⟨g, hgm, hw⟩
        refine ⟨?_, fun w hw => hw4 w (hsub w hw)⟩
        have : g.length ≤ gs.flatten.length := by
          obtain ⟨a, b, rfl⟩ := List.append_of_mem hgm
          simp; omega
        rw [p3] at this; omega
      simp [hg, hG, hR, hC, hD, h70, aw, hS]
end Ab
