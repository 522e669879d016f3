/- The law on batches. Condition: none. -/
import Derived.Test.YtkedjdfangojmaaGrpL
set_option linter.all false
set_option maxRecDepth 100000
set_option maxHeartbeats 4000000
namespace Ab
theorem tot_bound {ws : List (List Int)} (h : ∀ w ∈ ws, (w.length : Int) ≤ 40) : (tot ws : Int) ≤ 40 * ws.length := by
  induction ws with
  | nil => simp [tot]
  | cons a r ih =>
    have h1 := ih fun w hw => h w (by simp [hw])
    have h2 := h a (by simp)
    simp [tot] at h1 ⊢
    omega
theorem ix_get {α : Type} [Inhabited α] {l : List α} {i : Nat} (h : i < l.length) : ix l (i : Int) ∈ l := ix_mem (by omega) (by omega)
theorem BatchGroups_l (aw : PC F_law20_awake [] = some (.bool true)) (ws : List (List Int)) (hw : okII ws) (most : Int) (hm : -9223372036854775808 ≤ most ∧ most ≤ 9223372036854775807) : PC F_law20_BatchGroups [iLL ws, .int most] = some (.bool true) := by
  refine PCx_of (go_law20_BatchGroups rfl ?_)
  obtain ⟨b, hg, hb⟩ := rgreat_s ws 30 40 (by omega) (by omega) hw.1 (fun w hm => (hw.2 w hm).1)
  cases b with
  | true => simp [hg, aw]
  | false =>
    obtain ⟨hb1, hb2⟩ := hb rfl
    have ht := tot_bound hb2
    have hG := Groups_s ws most hm (by omega) (by omega) (fun w h => by have := hb2 w h; omega)
    by_cases h1 : most < 1
    · rw [if_pos h1] at hG
      simp [hg, hG, h1, aw]
    · rw [if_neg h1] at hG
      obtain ⟨⟨p1, p2⟩, p3⟩ := gro_gp (most := most) (ws := ws)
      generalize gro most ws = gs at *
      have hfl : ∀ {i : Nat}, i < gs.length → (gs.take (i + 1)).flatten = (gs.take i).flatten ++ ix gs (i : Int) := fun {i} h => by
        rw [List.take_add_one, List.getElem?_eq_getElem h, ix_nat h, List.flatten_append]; simp
      have hflat : ∀ {i : Nat}, i < gs.length → ((gs.take i).flatten).length + (ix gs (i : Int)).length = ((gs.take (i + 1)).flatten).length := fun {i} h => by
        rw [hfl h, List.length_append]
      have hflat2 : ∀ {i : Nat}, ((gs.take i).flatten).length ≤ ws.length := fun {i} => by
        have e : (gs.take i).flatten ++ (gs.drop i).flatten = ws := by rw [← List.flatten_append, List.take_append_drop, p3]
        rw [← e]; simp
      have hgm : ∀ {i : Nat}, i < gs.length → ∀ w ∈ ix gs (i : Int), (w.length : Int) ≤ 40 := fun {i} h w hw' => hb2 w (by rw [← p3]; exact List.mem_flatten.2 ⟨_, ix_get h, hw'⟩)
      have hgl : ∀ {i : Nat}, i < gs.length → (ix gs (i : Int)).length ≤ 30 := fun {i} h => by have := hflat h; have := hflat2 (i := i + 1); omega
      have hgt : ∀ {i : Nat}, i < gs.length → (tot (ix gs (i : Int)) : Int) ≤ 1200 := fun {i} h => by have := tot_bound (hgm h); have := hgl h; omega
      have hlen : gs.length ≤ ws.length := by
        have : ∀ (l : List (List (List Int))), (∀ g ∈ l, g ≠ []) → l.length ≤ l.flatten.length := by
          intro l
          induction l with
          | nil => simp
          | cons a r ih =>
            intro h
            have h1 := ih fun g hg => h g (by simp [hg])
            have h2 := List.length_pos_iff.2 (h a (by simp))
            simp at h1 ⊢; omega
        have := this gs fun g h => (p1 g h).1
        rwa [p3] at this
      simp [hg, hG, h1]
      refine W_iter (fun i : Nat => [(4, .int i), (7, .sl 0 ((gs.take i).flatten).length 0 ((gs.take i).flatten).length)]) (fun i => [loutL (gs.take i).flatten]) (fun i => i ≤ gs.length) (fun i => gs.length - i) 0 (by simp [sets]) (by omega) ?_
      intro i i0
      by_cases hi : i < gs.length
      · have hgi := p1 _ (ix_get hi)
        have hgp : 0 < (ix gs (i : Int)).length := List.length_pos_iff.2 hgi.1
        have hl30 := hgl hi
        have ht12 := hgt hi
        have hF1 := hfl hi
        have hF2 := hflat2 (i := i)
        generalize (gs.take i).flatten = F at hF1 hF2 ⊢
        simp [-More_nor, -List.map_take, -List.length_flatten, -List.map_flatten, hi]
        refine W_iter (fun k : Nat => [(5, .int k), (6, .int (tot ((ix gs (i : Int)).take k)))]) (fun _ => [loutL F]) (fun k => k ≤ (ix gs (i : Int)).length) (fun k => (ix gs (i : Int)).length - k) 0 (by simp [sets, tot]) (by omega) ?_
        intro k k0
        have hk2 := tot_le (ws := ix gs (i : Int)) (k := k)
        by_cases hk : k < (ix gs (i : Int)).length
        · have hk1 := tot_take hk
          have hk3 := tot_le (ws := ix gs (i : Int)) (k := k + 1)
          simp [-More_nor, -List.map_take, -List.length_flatten, -List.map_flatten, hi, hk]
          (repeat' apply And.intro) <;> try omega
          exact More_of (k + 1) (by simp; omega) rfl (by omega) (by omega)
        · have ek : k = (ix gs (i : Int)).length := by omega
          subst ek
          have e1 : (ix gs (i : Int)).take (ix gs (i : Int)).length = ix gs (i : Int) := List.take_of_length_le (by simp)
          rw [e1]
          have hne : ¬ ((ix gs (i : Int)).length : Int) = 0 := by omega
          have hmo : 1 < ((ix gs (i : Int)).length : Int) → ¬ most < (tot (ix gs (i : Int)) : Int) := fun h => by have := hgi.2 (by omega); omega
          by_cases c2 : i + 1 < gs.length
          · have hg2 := (p1 _ (ix_get c2)).1
            have hp2 := p2 i c2
            rw [show ((i + 1 : Nat) : Int) = (i : Int) + 1 by omega] at hg2
            have hl2 : 0 < (ix gs ((i : Int) + 1)).length := List.length_pos_iff.2 hg2
            have hz : (ix (ix gs ((i : Int) + 1)) 0).length ≤ 40 := by
              have := hgm c2 (ix (ix gs ((i : Int) + 1)) 0) (by
                rw [show ((i + 1 : Nat) : Int) = (i : Int) + 1 by omega]
                exact ix_mem (by omega) (by omega))
              omega
            have c2i : (i : Int) + 1 < (gs.length : Int) := by omega
            by_cases c1 : 1 < ((ix gs (i : Int)).length : Int)
            · have hmo' := hmo c1
              simp [-More_nor, -List.map_take, -List.length_flatten, -List.map_flatten, hi, hgi.1, c1, hmo', c2i, hg2, hl2, hp2]
              (repeat' apply And.intro) <;> first | omega | (split <;> simp; done) | skip
              exact More_of (i + 1) (by simp [-List.map_take, -List.length_flatten, -List.map_flatten, hF1]) (by rw [hF1]; simp [hgi.1]) (by omega) (by omega)
            · simp [-More_nor, -List.map_take, -List.length_flatten, -List.map_flatten, hi, hgi.1, c1, c2i, hg2, hl2, hp2]
              (repeat' apply And.intro) <;> first | omega | (split <;> simp; done) | skip
              exact More_of (i + 1) (by simp [-List.map_take, -List.length_flatten, -List.map_flatten, hF1]) (by rw [hF1]; simp [hgi.1]) (by omega) (by omega)
          · have c2i : ¬ (i : Int) + 1 < (gs.length : Int) := by omega
            by_cases c1 : 1 < ((ix gs (i : Int)).length : Int)
            · have hmo' := hmo c1
              simp [-More_nor, -List.map_take, -List.length_flatten, -List.map_flatten, hi, hgi.1, c1, hmo', c2i]
              (repeat' apply And.intro) <;> first | omega | (split <;> simp; done) | skip
              exact More_of (i + 1) (by simp [-List.map_take, -List.length_flatten, -List.map_flatten, hF1]) (by rw [hF1]; simp [hgi.1]) (by omega) (by omega)
            · simp [-More_nor, -List.map_take, -List.length_flatten, -List.map_flatten, hi, hgi.1, c1, c2i]
              (repeat' apply And.intro) <;> first | omega | (split <;> simp; done) | skip
              exact More_of (i + 1) (by simp [-List.map_take, -List.length_flatten, -List.map_flatten, hF1]) (by rw [hF1]; simp [hgi.1]) (by omega) (by omega)
      · have ei : i = gs.length := by omega
        subst ei
        have e1 : gs.take gs.length = gs := List.take_of_length_le (by simp)
        rw [e1, p3]
        obtain ⟨v, σ', hS, rfl⟩ := LX_s (rsameW_x ws ws hw.1 hw.1 (fun w hm => (hw.2 w hm).1) (fun w hm => (hw.2 w hm).1))
        have hv := vd_loutL (σ := [loutL ws]) (b := 0) (out := ws) rfl
        simp [hv, aw, hS]
end Ab
