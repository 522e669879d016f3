/- Lists that grow from nil, and are given away. Condition: none. -/
import Derived.Test.YtmmkhoncblnicaaCovP
set_option linter.all false
set_option maxRecDepth 100000
set_option maxHeartbeats 4000000
namespace Ab
/-- A list of words that grows from nil. -/
abbrev loutL (out : List (List Int)) : Blk := ⟨none, out.map iL, if out = [] then .nul else .live⟩
theorem vd_loutL {σ : List Blk} {b : Nat} {out : List (List Int)} (h : blk σ b = some (loutL out)) : view σ false vd (.sl b out.length 0 out.length) = some (iLL out) := vd_LL (fr := false) h (by split <;> simp) rfl
abbrev louI (out : List Int) : Blk := ⟨none, out.map .int, if out = [] then .nul else .live⟩
theorem vd_louI {σ : List Blk} {b : Nat} {out : List Int} (h : blk σ b = some (louI out)) : view σ false vd (.sl b out.length 0 out.length) = some (iL out) := vd_iL h (by split <;> simp) rfl
theorem reach_ws {σ : List Blk} : ∀ (ws : List (List Int)) (acc : List Nat), (ws.map iL).foldl (fun acc y => reach σ 11 y acc) acc = acc
  | [], _ => rfl
  | w :: ws, acc => by simp only [List.map_cons, List.foldl_cons]; exact reach_ws ws acc
/-- A list of words is given away. -/
theorem W_frzL {vars : List AV} {fl : Option (Nat × AV)} {ws : List (List Int)} {k : Nat} {Q : Ex → St → Prop} (hn : nth vars k = .sl 0 ws.length 0 ws.length) (h : Q .nor ⟨setN vars k (.imm (decide (ws ≠ [])) (ws.map iL)), fl, [⟨none, ws.map iL, .dead⟩]⟩) : W L (.frz k) ⟨vars, fl, [loutL ws]⟩ Q := by
  have hr : reach [loutL ws] vd (.sl 0 ws.length 0 ws.length) [] = [0] := by
    show reach [loutL ws] (11 + 1) (.sl 0 ws.length 0 ws.length) [] = [0]
    unfold reach
    simp only [List.contains_nil, Bool.false_eq_true, if_false, blk]
    exact reach_ws ws [0]
  have hv := vd_loutL (σ := [loutL ws]) (b := 0) (out := ws) rfl
  have hs : surely [loutL ws] (.sl 0 ws.length 0 ws.length) = decide (ws ≠ []) := by
    have : upto [loutL ws] 0 ws.length = some (loutL ws) := by
      unfold upto
      by_cases h : ws = [] <;> simp [blk, h]
    simp only [surely, this]
    by_cases h : ws = [] <;> simp [h]
  refine ⟨0, .nor, _, ?_, h⟩
  simp only [exec, hn, hr]
  have hd : dieIf (fun b => !([0] : List Nat).contains b) 0 [loutL ws] = [loutL ws] := by simp [dieIf]
  rw [hd, hv]
  simp only [hs]
  by_cases h : ws = []
  · simp [h, dieIf]; rfl
  · simp [h, dieIf]
end Ab
