/- Batches of words. Batches of words: the program's. The law on batches. Condition: none. -/
import Derived.Test.YtkedjdfangojmaaR02
set_option linter.all false
set_option maxRecDepth 100000
set_option maxHeartbeats 4000000
namespace Ab
def tot (ws : List (List Int)) : Nat := (ws.map List.length).sum
theorem tot_take {ws : List (List Int)} {i : Nat} (h : i < ws.length) : tot (ws.take (i + 1)) = tot (ws.take i) + (ix ws (i : Int)).length := by
  rw [List.take_add_one, List.getElem?_eq_getElem h, ix_nat h]; unfold tot; rw [List.map_append, List.sum_append]; rfl
theorem tot_app {a b : List (List Int)} : tot (a ++ b) = tot a + tot b := by simp [tot]
theorem tot_le {ws : List (List Int)} : ∀ {k : Nat}, tot (ws.take k) ≤ tot ws := by
  intro k
  have := tot_app (a := ws.take k) (b := ws.drop k)
  rw [List.take_append_drop] at this
  omega
/-- How many words make the first batch. -/
def isFirst (ws : List (List Int)) (most : Int) (k : Nat) : Prop := 1 ≤ k ∧ k ≤ ws.length ∧ (∀ j : Nat, 1 ≤ j → j < k → (tot (ws.take (j + 1)) : Int) ≤ most) ∧ (k < ws.length → most < (tot (ws.take (k + 1)) : Int))
theorem first_x (ws : List (List Int)) (most : Int) (h0 : ws ≠ []) (hm : 1 ≤ most ∧ most ≤ 9223372036854775807) (hl : (ws.length : Int) ≤ 1000000) (ht : (tot ws : Int) ≤ 1000000) : LX L F_batch_first [iLL ws, .int most] [] (fun v _ => ∃ k : Nat, v = .int k ∧ isFirst ws most k) := by
  refine go_batch_first rfl ?_
  have hp : 0 < ws.length := List.length_pos_iff.2 h0
  have hp1 : tot (ws.take 1) = (ix ws 0).length := by have := tot_take hp; simpa [tot] using this
  have hz : (ix ws 0).length ≤ tot ws := by rw [← hp1]; exact tot_le
  simp
  refine ⟨by omega, ?_⟩
  refine W_iter (fun k : Nat => [(2, .int k), (3, .int (tot (ws.take k)))]) (fun _ => []) (fun k => 1 ≤ k ∧ k ≤ ws.length ∧ ∀ j : Nat, 1 ≤ j → j < k → (tot (ws.take (j + 1)) : Int) ≤ most) (fun k => ws.length - k) 1 (by simp [sets, hp1]) ⟨by omega, by omega, fun j h1 h2 => by omega⟩ ?_
  intro k ⟨k0, k1, k2⟩
  have hk := tot_le (ws := ws) (k := k)
  by_cases hi : k < ws.length
  · have ht1 := tot_take hi
    have hk' := tot_le (ws := ws) (k := k + 1)
    by_cases hc : ((ix ws (k : Int)).length : Int) ≤ most - (tot (ws.take k) : Int)
    · simp [-More_nor, hi, hc]
      (repeat' apply And.intro) <;> try omega
      exact More_of (k + 1) (by simp [ht1]) rfl ⟨by omega, by omega, fun j h1 h2 => by
        by_cases e : j = k
        · subst e; omega
        · exact k2 j h1 (by omega)⟩ (by omega)
    · simp [hi, hc]
      (repeat' apply And.intro) <;> try omega
      exact ⟨k, rfl, k0, k1, k2, fun _ => by omega⟩
  · simp [hi]
    exact ⟨k, rfl, k0, k1, k2, fun h => by omega⟩
theorem first_s (ws : List (List Int)) (most : Int) (h0 : ws ≠ []) (hm : 1 ≤ most ∧ most ≤ 9223372036854775807) (hl : (ws.length : Int) ≤ 1000000) (ht : (tot ws : Int) ≤ 1000000) : ∃ k : Nat, PC F_batch_first [iLL ws, .int most] = some (.int k) ∧ isFirst ws most k := by
  obtain ⟨v, σ', h1, k, rfl, h2⟩ := LX_s (first_x ws most h0 hm hl ht)
  exact ⟨k, by simp only [PC, PCx, h1]; rfl, h2⟩
end Ab
namespace Ab
theorem putAt_room {a : List AV} {n : Nat} {z x : AV} : putAt (a ++ List.replicate (n + 1) z) a.length [x] = (a ++ [x]) ++ List.replicate n z := by
  simp only [putAt, List.replicate_succ]
  simp
/-- A list of words with room is given away. -/
theorem W_frzM {vars : List AV} {fl : Option (Nat × AV)} {ws : List (List Int)} {k : Nat} {Q : Ex → St → Prop} (hn : nth vars k = .sl 0 ws.length 0 ws.length) (h : Q .nor ⟨setN vars k (.imm true (ws.map iL)), fl, [⟨none, ws.map iL, .dead⟩]⟩) : W L (.frz k) ⟨vars, fl, [⟨none, ws.map iL, .live⟩]⟩ Q := by
  have hr : reach [⟨none, ws.map iL, .live⟩] vd (.sl 0 ws.length 0 ws.length) [] = [0] := by
    show reach [⟨none, ws.map iL, .live⟩] (11 + 1) (.sl 0 ws.length 0 ws.length) [] = [0]
    unfold reach
    simp only [List.contains_nil, Bool.false_eq_true, if_false, blk]
    exact reach_ws ws [0]
  have hv := vd_LL (σ := [⟨none, ws.map iL, .live⟩]) (fr := false) (b := 0) (xs := ws) (st := .live) rfl (by simp) rfl
  have hs : surely [⟨none, ws.map iL, .live⟩] (.sl 0 ws.length 0 ws.length) = true := by
    have : upto [⟨none, ws.map iL, .live⟩] 0 ws.length = some (⟨none, ws.map iL, .live⟩) := by
      unfold upto
      simp [blk]
    simp only [surely, this]
  refine ⟨0, .nor, _, ?_, h⟩
  simp only [exec, hn, hr]
  have hd : dieIf (fun b => !([0] : List Nat).contains b) 0 [⟨none, ws.map iL, .live⟩] = [⟨none, ws.map iL, .live⟩] := by simp [dieIf]
  rw [hd, hv]
  simp only [hs]
  simp [dieIf]
abbrev iG (gs : List (List (List Int))) : AV := .imm false (gs.map iLL)
abbrev gA (g : List (List Int)) : AV := .imm true (g.map iL)
abbrev gB (gs : List (List (List Int))) : Blk := ⟨none, gs.map gA, if gs = [] then .nul else .live⟩
theorem vd_gB {σ : List Blk} {b : Nat} {gs : List (List (List Int))} (h : blk σ b = some (gB gs)) : view σ false vd (.sl b gs.length 0 gs.length) = some (iG gs) := view_sm (k := 11) (f := gA) (g := iLL) h (by split <;> simp) rfl fun _ _ => rfl
def lastG (gs : List (List (List Int))) : List (List Int) := gs.getLast?.getD []
def gstep (most : Int) (gs : List (List (List Int))) (w : List Int) : List (List (List Int)) := if gs = [] ∨ most < (tot (lastG gs) : Int) + w.length then gs ++ [[w]] else gs.dropLast ++ [lastG gs ++ [w]]
/-- The batches. -/
def gro (most : Int) (ws : List (List Int)) : List (List (List Int)) := ws.foldl (gstep most) []
theorem lastG_app {gs : List (List (List Int))} {g : List (List Int)} : lastG (gs ++ [g]) = g := by simp [lastG]
/-- The next word does not fit. -/
def Full (most : Int) (gs : List (List (List Int))) (rest : List (List Int)) : Prop := rest = [] ∨ gs = [] ∨ most < (tot (lastG gs) : Int) + (ix rest 0).length
theorem gro_batch {most : Int} {gs : List (List (List Int))} {rest : List (List Int)} {k : Nat} (hF : Full most gs rest) (hk : isFirst rest most k) : (rest.take k).foldl (gstep most) gs = gs ++ [rest.take k] := by
  obtain ⟨k0, k1, k2, _⟩ := hk
  have hp : 0 < rest.length := by omega
  have go : ∀ j : Nat, 1 ≤ j → j ≤ k → (rest.take j).foldl (gstep most) gs = gs ++ [rest.take j] := by
    intro j
    induction j with
    | zero => intro h; omega
    | succ j ih =>
      intro _ h
      by_cases hj : j = 0
      · subst hj
        have e1 : rest.take (0 + 1) = [ix rest 0] := by
          rw [List.take_add_one, List.getElem?_eq_getElem hp]
          have := ix_nat (l := rest) hp
          simp at this ⊢
          exact this.symm
        rw [e1]
        show gstep most gs (ix rest 0) = _
        unfold gstep
        rw [if_pos]
        rcases hF with h' | h' | h'
        · simp [h'] at hp
        · exact .inl h'
        · exact .inr h'
      · have hjl : j < rest.length := by omega
        have e1 : rest.take (j + 1) = rest.take j ++ [ix rest (j : Int)] := by
          rw [List.take_add_one, List.getElem?_eq_getElem hjl, ix_nat hjl]; rfl
        have h2 := k2 j (by omega) (by omega)
        rw [e1, List.foldl_append, ih (by omega) (by omega)]
        show gstep most (gs ++ [rest.take j]) (ix rest (j : Int)) = _
        unfold gstep
        rw [lastG_app, if_neg, List.dropLast_concat]
        rw [e1, tot_app] at h2
        have h3 : tot [ix rest (j : Int)] = (ix rest (j : Int)).length := by simp [tot]
        simp
        omega
  exact go k k0 (Nat.le_refl k)
theorem full_next {most : Int} {gs : List (List (List Int))} {rest : List (List Int)} {k : Nat} (hk : isFirst rest most k) : Full most (gs ++ [rest.take k]) (rest.drop k) := by
  obtain ⟨k0, k1, k2, k3⟩ := hk
  by_cases h : k < rest.length
  · right; right
    have h1 := k3 h
    rw [tot_take h] at h1
    have h2 : ix (rest.drop k) 0 = ix rest (k : Int) := by
      rw [ix_nat h]
      have := ix_nat (l := rest.drop k) (n := 0) (by simp; omega)
      simpa using this
    rw [lastG_app, h2]
    omega
  · left; exact List.drop_of_length_le (by omega)
theorem firstIs_iL {ws : List (List Int)} : firstIs 1 (ws.map iL) = true := by cases ws <;> rfl
theorem Groups_s (ws : List (List Int)) (most : Int) (hm : -9223372036854775808 ≤ most ∧ most ≤ 9223372036854775807) (hl : (ws.length : Int) ≤ 1000000) (ht : (tot ws : Int) ≤ 1000000) (hw : ∀ w ∈ ws, (w.length : Int) ≤ 1000000) : PC F_batch_Groups [iLL ws, .int most] = some (.tup (if most < 1 then [iG [], .int 2] else [iG (gro most ws), .int 0])) := by
  refine PCx_of (go_batch_Groups rfl ?_)
  by_cases h1 : most < 1
  · simp [h1]
  · simp [h1]
    refine ⟨by omega, ?_⟩
    refine W_iter (fun i : Nat => [(2, .int i), (5, .sl 0 ws.length 0 i)]) (fun i => [⟨none, (ws.take i).map iL ++ List.replicate (ws.length - i) .snil, .live⟩]) (fun i => i ≤ ws.length) (fun i => ws.length - i) 0 (by simp [sets]) (by omega) ?_
    intro i hi0
    have hmin : min i ws.length = i := Nat.min_eq_left (by omega)
    by_cases hi : i < ws.length
    · have t1 : ws.take (i + 1) = ws.take i ++ [ix ws (i : Int)] := by
        rw [List.take_add_one, List.getElem?_eq_getElem hi, ix_nat hi]; rfl
      have hj := Join_s [(false, ix ws (i : Int))] (by simp) (by simp [cat]; exact hw _ (ix_mem (by omega) (by omega)))
      have hj : PC F_word_Join [.imm false [iL (ix ws (i : Int))]] = some (iL (ix ws (i : Int))) := by simpa [cat, wB] using hj
      simp [-More_nor, -List.map_take, -List.map_replicate, hi, hmin, hj]
      (repeat' apply And.intro) <;> try omega
      refine fun _ => ⟨by omega, by omega, More_of (i + 1) (by simp) ?_ (by omega) (by omega)⟩
      have hp := putAt_room (a := (ws.take i).map iL) (n := ws.length - (i + 1)) (z := .snil) (x := iL (ix ws (i : Int)))
      rw [List.length_map, List.length_take, hmin, show ws.length - (i + 1) + 1 = ws.length - i by omega] at hp
      rw [hp, t1, List.map_append]; rfl
    · have ei : i = ws.length := by omega
      subst ei
      have t2 : ws.take ws.length = ws := List.take_of_length_le (by simp)
      rw [t2]
      simp [-List.map_replicate]
      refine W_frzM rfl ?_
      simp
      refine W_iter (fun p : List (List (List Int)) × List (List Int) => [(5, .imm true (p.2.map iL)), (7, .sl 1 p.1.length 0 p.1.length)]) (fun p => [⟨none, ws.map iL, .dead⟩, gB p.1]) (fun p => p.2.foldl (gstep most) p.1 = gro most ws ∧ Full most p.1 p.2 ∧ p.1.length + p.2.length ≤ ws.length ∧ tot p.2 ≤ tot ws) (fun p => p.2.length) ([], ws) (by simp [sets]) ⟨rfl, .inr (.inl rfl), by simp, by simp⟩ ?_
      rintro ⟨gs, rest⟩ ⟨i1, i2, i3, i4⟩
      dsimp only at i1 i2 i3 i4 ⊢
      by_cases hr : rest = []
      · subst hr
        have hv := vd_gB (σ := [⟨none, ws.map iL, .dead⟩, gB gs]) (b := 1) rfl
        have i1 : gs = gro most ws := i1
        rw [← i1]; simp [hv]
      · have hrp : 0 < rest.length := List.length_pos_iff.2 hr
        obtain ⟨k, hk, hf⟩ := first_s rest most hr (by omega) (by omega) (by omega)
        have hb := gro_batch i2 hf
        have hn := full_next (gs := gs) hf
        obtain ⟨k0, k1, _, _⟩ := hf
        simp [-More_nor, -List.map_take, -List.map_drop, hr, hk, hrp, firstIs_iL]
        have e5 : List.take (rest.length - k) (List.drop k (rest.map iL)) = (rest.drop k).map iL := by rw [List.take_of_length_le (by simp), List.map_drop]
        refine ⟨k1, by split <;> simp, by omega, k1, More_of (gs ++ [rest.take k], rest.drop k) (by rw [e5]; simp [-List.map_drop]) (by simp) ⟨?_, hn, ?_, ?_⟩ ?_⟩
        · show (rest.drop k).foldl (gstep most) (gs ++ [rest.take k]) = _
          rw [← i1, ← hb, ← List.foldl_append, List.take_append_drop]
        · simp; omega
        · have := tot_app (a := rest.take k) (b := rest.drop k)
          rw [List.take_append_drop] at this
          dsimp only; omega
        · simp; omega
end Ab
namespace Ab
theorem rgreat_x (l : List (List Int)) (n s : Int) (hn : 0 ≤ n ∧ n ≤ 1000) (hs : 0 ≤ s ∧ s ≤ 1000) (hl : (l.length : Int) ≤ 9223372036854775807) (hw : ∀ w ∈ l, (w.length : Int) ≤ 9223372036854775807) : LX L F_ref02_Great [iLL l, .int n, .int s] [] (fun v _ => ∃ b, v = .bool b ∧ (b = false → (l.length : Int) ≤ n ∧ ∀ w ∈ l, (w.length : Int) ≤ s)) := by
  refine go_ref02_Great rfl ?_
  simp
  refine W_iter (fun i : Nat => [(3, .int i)]) (fun _ => []) (fun i => i ≤ l.length ∧ (i : Int) ≤ n + 1 ∧ ∀ j : Nat, j < i → ((ix l (j : Int)).length : Int) ≤ s) (fun i => l.length - i) 0 (by simp [sets]) ⟨by omega, by omega, fun j h => by omega⟩ ?_
  intro i ⟨i0, i1, i2⟩
  by_cases hi : i < l.length ∧ (i : Int) ≤ n
  · have hx := hw _ (ix_mem (l := l) (n := (i : Int)) (by omega) (by omega))
    by_cases hc : s < ((ix l (i : Int)).length : Int)
    · simp [hi.1, hi.2, hc]
    · simp [-More_nor, hi.1, hi.2, hc]
      (repeat' apply And.intro) <;> try omega
      exact More_of (i + 1) (by simp) rfl ⟨by omega, by omega, fun j hj => by
        by_cases e : j = i
        · subst e; omega
        · exact i2 j (by omega)⟩ (by omega)
  · have hor : l.length ≤ i ∨ n < (i : Int) := by omega
    have fin : ((l.length : Int) ≤ n → ∀ w ∈ l, (w.length : Int) ≤ s) := fun h w hm => by
      obtain ⟨j, hj, e⟩ := List.mem_iff_getElem.1 hm
      have := i2 j (by omega)
      rwa [ix_nat hj, e] at this
    by_cases h1 : i < l.length
    · simp [h1, show ¬ (i : Int) ≤ n by omega]
      omega
    · simp [h1]
      rcases Int.lt_or_le n (l.length : Int) with h | h
      · exact .inr h
      · exact .inl ⟨h, fin h⟩
theorem rgreat_s (l : List (List Int)) (n s : Int) (hn : 0 ≤ n ∧ n ≤ 1000) (hs : 0 ≤ s ∧ s ≤ 1000) (hl : (l.length : Int) ≤ 9223372036854775807) (hw : ∀ w ∈ l, (w.length : Int) ≤ 9223372036854775807) : ∃ b, PC F_ref02_Great [iLL l, .int n, .int s] = some (.bool b) ∧ (b = false → (l.length : Int) ≤ n ∧ ∀ w ∈ l, (w.length : Int) ≤ s) := by
  obtain ⟨v, σ', h1, b, rfl, h2⟩ := LX_s (rgreat_x l n s hn hs hl hw)
  exact ⟨b, by simp only [PC, PCx, h1]; rfl, h2⟩
theorem rsameW_x (a b : List (List Int)) (hl : (a.length : Int) ≤ 9223372036854775807) (hl2 : (b.length : Int) ≤ 9223372036854775807) (ha : ∀ w ∈ a, (w.length : Int) ≤ 9223372036854775807) (hb : ∀ w ∈ b, (w.length : Int) ≤ 9223372036854775807) : LX L F_ref01_SameWords [iLL a, iLL b] [] (fun v _ => v = .bool (decide (a = b))) := by
  refine go_ref01_SameWords rfl ?_
  by_cases hab : a.length = b.length
  · have habI : (a.length : Int) = b.length := by omega
    simp [habI]
    refine W_iter (fun i : Nat => [(2, .int i)]) (fun _ => []) (fun i => i ≤ a.length ∧ ∀ j : Nat, j < i → ix a (j : Int) = ix b (j : Int)) (fun i => a.length - i) 0 (by simp [sets]) ⟨by omega, fun j h => by omega⟩ ?_
    intro i ⟨i0, i1⟩
    by_cases hi : i < b.length
    · have hs := rsame_s (ix a (i : Int)) (ix b (i : Int)) (ha _ (ix_mem (by omega) (by omega))) (hb _ (ix_mem (by omega) (by omega)))
      by_cases hc : ix a (i : Int) = ix b (i : Int)
      · rw [decide_eq_true hc] at hs
        simp [-More_nor, show i < a.length by omega, hi, hs]
        (repeat' apply And.intro) <;> try omega
        exact More_of (i + 1) (by simp) rfl ⟨by omega, fun j hj => by
          by_cases e : j = i
          · subst e; exact hc
          · exact i1 j (by omega)⟩ (by omega)
      · rw [decide_eq_false hc] at hs
        simp [show i < a.length by omega, hi, hs]
        intro e; subst e; exact hc rfl
    · simp [show ¬ i < a.length by omega]
      refine List.ext_getElem hab fun j h1 h2 => ?_
      have := i1 j (by omega)
      rwa [ix_nat h1, ix_nat h2] at this
  · have habI : ¬ (a.length : Int) = b.length := by omega
    simp [habI]
    intro e; subst e; exact hab rfl
theorem rsameW_s (a b : List (List Int)) (hl : (a.length : Int) ≤ 9223372036854775807) (hl2 : (b.length : Int) ≤ 9223372036854775807) (ha : ∀ w ∈ a, (w.length : Int) ≤ 9223372036854775807) (hb : ∀ w ∈ b, (w.length : Int) ≤ 9223372036854775807) : PC F_ref01_SameWords [iLL a, iLL b] = some (.bool (decide (a = b))) := by
  obtain ⟨v, σ', h1, rfl⟩ := LX_s (rsameW_x a b hl hl2 ha hb)
  simp only [PC, PCx, h1]; rfl
/-- What the batches are. -/
def GP (most : Int) (gs : List (List (List Int))) : Prop := (∀ g ∈ gs, g ≠ [] ∧ (1 < g.length → (tot g : Int) ≤ most)) ∧ ∀ i : Nat, i + 1 < gs.length → most < (tot (ix gs (i : Int)) : Int) + (ix (ix gs ((i : Int) + 1)) 0).length
theorem gs_ix {gs : List (List (List Int))} {g : List (List Int)} {i : Nat} (h : i < gs.length) : ix (gs ++ [g]) (i : Int) = ix gs (i : Int) := by
  rw [ix_nat (by simp; omega), ix_nat h]; simp [h]
theorem gs_ixl {gs : List (List (List Int))} {g : List (List Int)} : ix (gs ++ [g]) (gs.length : Int) = g := by
  rw [ix_nat (by simp)]; simp
theorem gs_split {gs : List (List (List Int))} (h : gs ≠ []) : gs = gs.dropLast ++ [lastG gs] := by
  unfold lastG
  rw [List.getLast?_eq_some_getLast h]
  exact (List.dropLast_concat_getLast h).symm
theorem ix0_app {g : List (List Int)} {w : List Int} (h : g ≠ []) : ix (g ++ [w]) 0 = ix g 0 := by
  cases g with
  | nil => simp at h
  | cons a r => rfl
theorem gstep_ok {most : Int} {gs : List (List (List Int))} {w : List Int} (h : GP most gs) : GP most (gstep most gs w) := by
  obtain ⟨h1, h2⟩ := h
  unfold gstep
  split
  · rename_i hc
    refine ⟨fun g hg => ?_, fun i hi => ?_⟩
    · rcases List.mem_append.1 hg with hg | hg
      · exact h1 g hg
      · simp at hg; subst hg; simp
    · simp at hi
      by_cases e : i + 1 < gs.length
      · have e2 := gs_ix (gs := gs) (g := [w]) e
        rw [show ((i + 1 : Nat) : Int) = (i : Int) + 1 by omega] at e2
        rw [gs_ix (by omega), e2]; exact h2 i e
      · have e3 : i + 1 = gs.length := by omega
        have e2 := gs_ixl (gs := gs) (g := [w])
        rw [← e3, show ((i + 1 : Nat) : Int) = (i : Int) + 1 by omega] at e2
        rw [gs_ix (by omega), e2]
        have hne : gs ≠ [] := by intro h; subst h; simp at e3
        have hl : ix gs (i : Int) = lastG gs := by
          rw [ix_nat (by omega)]
          unfold lastG
          rw [List.getLast?_eq_some_getLast hne, List.getLast_eq_getElem]
          simp [← e3]
        rw [hl]
        rcases hc with hc | hc
        · exact absurd hc hne
        · exact hc
  · rename_i hc
    have hne : gs ≠ [] := fun e => hc (.inl e)
    have hf : (tot (lastG gs) : Int) + w.length ≤ most := by
      rcases Int.lt_or_le most ((tot (lastG gs) : Int) + w.length) with h | h
      · exact absurd (.inr h) hc
      · exact h
    have hs := gs_split hne
    generalize lastG gs = g at *
    generalize gs.dropLast = ds at *
    subst hs
    have hg0 := (h1 g (by simp)).1
    refine ⟨fun g' hg' => ?_, fun i hi => ?_⟩
    · rcases List.mem_append.1 hg' with hg' | hg'
      · exact h1 g' (by simp [hg'])
      · simp at hg'; subst hg'
        refine ⟨by simp, fun _ => ?_⟩
        rw [tot_app]; simp [tot] at hf ⊢; omega
    · simp at hi
      have h3 := h2 i (by simp; omega)
      by_cases e : i + 1 < ds.length
      · have e2 := fun g => gs_ix (gs := ds) (g := g) e
        rw [show ((i + 1 : Nat) : Int) = (i : Int) + 1 by omega] at e2
        rw [gs_ix (by omega), e2] at h3 ⊢
        exact h3
      · have e3 : i + 1 = ds.length := by omega
        have e2 := fun g => gs_ixl (gs := ds) (g := g)
        rw [← e3, show ((i + 1 : Nat) : Int) = (i : Int) + 1 by omega] at e2
        rw [gs_ix (by omega), e2] at h3 ⊢
        rwa [ix0_app hg0]
theorem gstep_flat {most : Int} {gs : List (List (List Int))} {w : List Int} : (gstep most gs w).flatten = gs.flatten ++ [w] := by
  unfold gstep
  split
  · simp
  · rename_i hc
    have hne : gs ≠ [] := fun e => hc (.inl e)
    conv => rhs; rw [gs_split hne]
    simp
theorem gro_ok {most : Int} : ∀ (ws : List (List Int)) (gs : List (List (List Int))), GP most gs → GP most (ws.foldl (gstep most) gs) ∧ (ws.foldl (gstep most) gs).flatten = gs.flatten ++ ws
  | [], gs, h => ⟨h, by simp⟩
  | w :: ws, gs, h => by
    have := gro_ok ws _ (gstep_ok (w := w) h)
    rw [gstep_flat] at this
    exact ⟨this.1, by simpa using this.2⟩
theorem gro_gp {most : Int} {ws : List (List Int)} : GP most (gro most ws) ∧ (gro most ws).flatten = ws := by
  have := gro_ok (most := most) ws [] ⟨fun g h => by simp at h, fun i h => by simp at h⟩
  exact ⟨this.1, by have := this.2; rwa [List.flatten_nil, List.nil_append] at this⟩
end Ab
