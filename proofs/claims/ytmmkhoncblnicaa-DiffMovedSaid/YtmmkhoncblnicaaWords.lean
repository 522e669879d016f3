/- Functions on words that many layers use. Condition: none. -/
import Derived.Test.YtmmkhoncblnicaaCom
set_option linter.all false
set_option maxRecDepth 100000
set_option maxHeartbeats 4000000
namespace Ab
/-- A list of numbers, or nil. -/
def wB (p : Bool × List Int) : AV := if p.1 = true ∧ p.2 = [] then .snil else iL p.2
theorem wB_cases (p : Bool × List Int) : wB p = .snil ∧ p.2 = [] ∨ wB p = iL p.2 := by
  unfold wB
  split
  · rename_i h; exact .inl ⟨rfl, h.2⟩
  · exact .inr rfl
theorem noLocs_intmap : ∀ l : List Int, noLocs (l.map .int) = true
  | [] => rfl
  | x :: l => by simp only [List.map_cons, noLocs, noLoc, Bool.true_and]; exact noLocs_intmap l
theorem noLoc_wB (p : Bool × List Int) : noLoc (wB p) = true := by
  rcases wB_cases p with h | h
  · rw [h.1]; rfl
  · rw [h]; rfl
theorem cells_wB (p : Bool × List Int) : (wB p).cells = [wB p] := by
  rcases wB_cases p with h | h
  · rw [h.1]
  · rw [h]
theorem shL_rep {k n : Nat} {z : Int} : shL k (List.replicate n (.int z)) = List.replicate n (.int z) := by
  induction n with
  | zero => rfl
  | succ n ih => simp only [List.replicate_succ, shL, shV, ih]
theorem Grow_s (n : Nat) (h : 0 < n) (hb : (n : Int) ≤ 1073741824) : L F_slices_Grow_Sint_int [.snil, .int n] [] = some (.sl 0 n 0 0, [⟨none, List.replicate n (.int 0), .live⟩]) := by
  refine go_slices_Grow_Sint_int (N := 0) ?_
  simp only [pGrow]
  rw [if_neg (by simp; omega), if_pos ⟨by omega, by rw [show (big : Int) = 1073741824 from rfl]; exact hb⟩]
  simp
theorem Grow_z : L F_slices_Grow_Sint_int [.snil, .int 0] [] = some (.snil, []) := go_slices_Grow_Sint_int (N := 0) rfl
/-- The concatenation. -/
def cat (ps : List (Bool × List Int)) : List Int := ps.flatMap (·.2)
theorem cat_take {ps : List (Bool × List Int)} {i : Int} (h0 : 0 ≤ i) (h1 : i < ps.length) : cat (ps.take (i + 1).toNat) = cat (ps.take i.toNat) ++ (ix ps i).2 := by
  have e : ps.take (i + 1).toNat = ps.take i.toNat ++ [ix ps i] := by
    rw [show (i + 1).toNat = i.toNat + 1 by omega, List.take_add_one, ix_eq h0 h1]
    rfl
  rw [e]; simp [cat]
theorem cat_le {ps : List (Bool × List Int)} (i : Nat) : (cat (ps.take i)).length ≤ (cat ps).length := by
  have : cat ps = cat (ps.take i) ++ cat (ps.drop i) := by
    unfold cat; rw [← List.flatMap_append, List.take_append_drop]
  rw [this]; simp
theorem putAt_fill {a b : List Int} {n : Nat} (h : a.length + b.length ≤ n) : putAt (a.map .int ++ List.replicate (n - a.length) (.int 0)) a.length (b.map .int) = (a ++ b).map .int ++ List.replicate (n - (a.length + b.length)) (.int 0) := by
  unfold putAt
  rw [List.take_left' (by simp), List.drop_append, List.drop_of_length_le (by simp)]
  simp
  omega
theorem chunk_n : ∀ {n : Nat} {cs : List AV}, cs.length ≤ n → chunk none n cs = cs
  | 0, cs, h => by
    have : cs = [] := List.eq_nil_of_length_eq_zero (by omega)
    subst this; rfl
  | n + 1, [], h => rfl
  | n + 1, c :: cs, h => by simp only [chunk]; rw [chunk_n (by simpa using h)]
theorem mapO_mp {α : Type} {f g : α → AV} {v : AV → Option AV} : ∀ {xs : List α}, (∀ x ∈ xs, v (f x) = some (g x)) → mapO v (xs.map f) = some (xs.map g)
  | [], _ => rfl
  | x :: xs, h => by
    have e := mapO_mp (f := f) (g := g) (v := v) (xs := xs) fun y hy => h y (by simp [hy])
    simp only [List.map_cons, mapO, h x (by simp), e]
/-- A slice over a whole block reads as its elements. -/
theorem view_sm {α : Type} {f g : α → AV} {σ : List Blk} {fr : Bool} {b k n : Nat} {xs : List α} {st : BSt} (h : blk σ b = some ⟨none, xs.map f, st⟩) (hs : st.isArr = true) (hn : n = xs.length) (hf : ∀ x ∈ xs, view σ fr k (f x) = some (g x)) :
    view σ fr (k + 1) (.sl b n 0 n) = some (.imm false (xs.map g)) := by
  subst hn
  have hu : upto σ b xs.length = some ⟨none, xs.map f, st⟩ := by
    unfold upto
    rw [h]
    cases st <;> simp at hs ⊢
  unfold view
  simp only [hu, kst, List.length_map, List.drop_zero, Nat.zero_add, Nat.mul_one, Nat.le_refl, if_true]
  rw [chunk_n (by simp), mapO_mp hf]
theorem vd_iL {σ : List Blk} {fr : Bool} {b n : Nat} {xs : List Int} {st : BSt} (h : blk σ b = some ⟨none, xs.map .int, st⟩) (hs : st.isArr = true) (hn : n = xs.length) : view σ fr vd (.sl b n 0 n) = some (iL xs) := view_sm (k := 11) h hs hn fun _ _ => rfl
theorem vd_bL {σ : List Blk} {fr : Bool} {b n : Nat} {xs : List Bool} {st : BSt} (h : blk σ b = some ⟨none, xs.map .bool, st⟩) (hs : st.isArr = true) (hn : n = xs.length) : view σ fr vd (.sl b n 0 n) = some (bL xs) := view_sm (k := 11) h hs hn fun _ _ => rfl
theorem Concat_s (ps : List (Bool × List Int)) (hp : (ps.length : Int) ≤ 1000000) (h : ((cat ps).length : Int) ≤ 1000000) : PC F_slices_Concat_Sint_int [.imm false (ps.map wB)] = some (iL (cat ps)) := by
  refine PCx_of (go_slices_Concat_Sint_int rfl ?_)
  simp
  refine W_iter (fun i : Int => [(1, .int i), (4, .int ((cat (ps.take i.toNat)).length : Int))]) (fun _ => []) (fun i => 0 ≤ i ∧ i ≤ ps.length) (fun i => (ps.length - i).toNat) 0 rfl (by simp) fun i ⟨i0, i1⟩ => ?_
  by_cases hi : i < ps.length
  · have e := cat_take i0 hi
    have l1 := cat_le (ps := ps) i.toNat
    have l2 := cat_le (ps := ps) (i + 1).toNat
    rw [e] at l2
    simp at l2
    rcases wB_cases (ix ps i) with ⟨h1, h2⟩ | h1
    · simp [-More_nor, hi, i0, h1]
      refine ⟨by omega, by omega, More_of (i + 1) (by simp [e, h2]) rfl ⟨by omega, by omega⟩ (by omega)⟩
    · simp [-More_nor, hi, i0, h1]
      refine ⟨by omega, by omega, fun _ => ⟨by omega, More_of (i + 1) (by simp [e]) rfl ⟨by omega, by omega⟩ (by omega)⟩⟩
  · have hit : ps.take i.toNat = ps := List.take_of_length_le (by omega)
    rw [hit]
    by_cases hz : (cat ps).length = 0
    · have hc : cat ps = [] := List.eq_nil_of_length_eq_zero hz
      simp [-More_nor, hi, hc, Grow_z, shV]
      refine W_iter (fun i : Int => [(6, .int i)]) (fun _ => []) (fun i => 0 ≤ i ∧ i ≤ ps.length) (fun i => (ps.length - i).toNat) 0 rfl (by simp) fun j ⟨j0, j1⟩ => ?_
      by_cases hj : j < ps.length
      · have hix : (ix ps j).2 = [] := by
          have := cat_take j0 hj
          have l2 := cat_le (ps := ps) (j + 1).toNat
          rw [this] at l2
          simp at l2
          exact List.eq_nil_of_length_eq_zero (by omega)
        rcases wB_cases (ix ps j) with ⟨h1, h2⟩ | h1
        · simp [hj, j0, h1]; omega
        · rw [hix] at h1
          simp [hj, j0, h1]; omega
      · simp [hj]
    · have hg := Grow_s (cat ps).length (by omega) (by omega)
      simp [-More_nor, -List.map_replicate, hi, hg, shV, shB, shL_rep]
      refine W_iter (fun i : Int => [(6, .int i), (9, .sl 0 (cat ps).length 0 (cat (ps.take i.toNat)).length)]) (fun i => [⟨none, (cat (ps.take i.toNat)).map .int ++ List.replicate ((cat ps).length - (cat (ps.take i.toNat)).length) (.int 0), .live⟩]) (fun i => 0 ≤ i ∧ i ≤ ps.length) (fun i => (ps.length - i).toNat) 0 (by simp [sets, cat]) (by simp) fun j ⟨j0, j1⟩ => ?_
      by_cases hj : j < ps.length
      · have e := cat_take j0 hj
        have l1 := cat_le (ps := ps) j.toNat
        have l2 := cat_le (ps := ps) (j + 1).toNat
        rw [e] at l2
        simp at l2
        have hp := putAt_fill (a := cat (ps.take j.toNat)) (b := (ix ps j).2) (n := (cat ps).length) l2
        have done : (ix ps j).2 = [] → cat (ps.take (j + 1).toNat) = cat (ps.take j.toNat) := fun h => by rw [e, h]; simp
        rcases wB_cases (ix ps j) with ⟨h1, h2⟩ | h1
        · simp [-More_nor, -List.map_replicate, hj, j0, h1]
          refine ⟨by omega, by omega, by omega, More_of (j + 1) (by simp [done h2]) (by simp only [done h2]) ⟨by omega, by omega⟩ (by omega)⟩
        · by_cases hn : (ix ps j).2 = []
          · rw [hn] at h1
            simp [-More_nor, -List.map_replicate, hj, j0, h1]
            refine ⟨by omega, by omega, by omega, More_of (j + 1) (by simp [done hn]) (by simp only [done hn]) ⟨by omega, by omega⟩ (by omega)⟩
          · have hnl : 0 < (ix ps j).2.length := List.length_pos_iff.2 hn
            simp [-More_nor, -List.map_replicate, hj, j0, h1, hn]
            refine ⟨by omega, by omega, fun hc => by omega, fun _ => ⟨by omega, by omega, More_of (j + 1) (by simp [e]) (by simp only [e, List.length_append]; rw [← hp]) ⟨by omega, by omega⟩ (by omega)⟩⟩
      · have hjt : ps.take j.toNat = ps := List.take_of_length_le (by omega)
        rw [hjt]
        have hv := vd_iL (σ := [⟨none, (cat ps).map .int, .live⟩]) (fr := false) (b := 0) (xs := cat ps) (st := .live) rfl (by simp) rfl
        simp [hj, hv]
/-- A word with one more symbol. -/
theorem Join_s (ps : List (Bool × List Int)) (hp : (ps.length : Int) ≤ 1000000) (h : ((cat ps).length : Int) ≤ 1000000) : PC F_word_Join [.imm false (ps.map wB)] = some (iL (cat ps)) := by
  refine PCx_of (go_word_Join rfl ?_)
  have e := Concat_s ps hp h
  have hl : noLocs (ps.map wB) = true := by
    clear e hp h
    induction ps with
    | nil => rfl
    | cons a r ih => simp only [List.map_cons, noLocs, noLoc_wB, Bool.true_and]; exact ih
  simp [hl, e]
theorem pU_sets {cs : List AV} {o : Nat} {x : AV} {K : List AV → Prop} {t : Tk K} : pU cs o [x] K t = (o < cs.length ∧ K (cs.set o x)) := by
  have e := pU_map (f := id) (xs := cs) (o := o) (y := x) (K := K) (t := t)
  simpa using e
end Ab
