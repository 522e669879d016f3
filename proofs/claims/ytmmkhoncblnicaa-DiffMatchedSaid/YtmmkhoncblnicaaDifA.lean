/- The changes of two machines: how they lie in memory; the check of two machines; changes in their order. Condition: none. -/
import Derived.Test.YtmmkhoncblnicaaEqv
import Derived.Test.YtmmkhoncblnicaaSorted
set_option linter.all false
set_option maxRecDepth 100000
set_option maxHeartbeats 4000000
namespace Ab
/-- A change. -/
structure Cg where
  w : List Int
  s : Int
  t : Int
  f : Int
  u : Int
  deriving DecidableEq, Inhabited
def Cg.av (c : Cg) : AV := .agg [iL c.w, .int c.s, .int c.t, .int c.f, .int c.u]
def cgc (l : List Cg) : List AV := l.flatMap fun c => [iL c.w, .int c.s, .int c.t, .int c.f, .int c.u]
theorem cgc_len : ∀ {l : List Cg}, (cgc l).length = 5 * l.length
  | [] => rfl
  | c :: l => by
    have := cgc_len (l := l)
    unfold cgc at this ⊢
    simp [this]; omega
theorem cgc_app {l m : List Cg} : cgc (l ++ m) = cgc l ++ cgc m := by simp [cgc]
theorem cgc_one {c : Cg} : cgc [c] = [iL c.w, .int c.s, .int c.t, .int c.f, .int c.u] := by simp [cgc]
theorem chunk_cgc : ∀ {l : List Cg}, chunk (some 5) l.length (cgc l) = l.map Cg.av
  | [] => rfl
  | c :: l => by
    have e : cgc (c :: l) = [iL c.w, .int c.s, .int c.t, .int c.f, .int c.u] ++ cgc l := by simp [cgc]
    rw [e]
    simp only [List.length_cons, chunk, List.map_cons]
    rw [List.take_left' (by simp), List.drop_left' (by simp), chunk_cgc]
    rfl
theorem upto_cg {σ : List Blk} {b n : Nat} {l : List Cg} (h : blk σ b = some ⟨some 5, cgc l, stOf l⟩) (hn : n = 5 * l.length) : upto σ b n = some ⟨some 5, cgc l, stOf l⟩ := by
  subst hn
  unfold upto
  rw [h]
  cases l <;> simp [stOf, cgc_len]
theorem view_cg {σ : List Blk} {fr : Bool} {b n m k : Nat} {l : List Cg} (h : blk σ b = some ⟨some 5, cgc l, stOf l⟩) (hn : n = 5 * l.length) (hm : m = l.length) (hf : fr = false) : view σ fr (k + 3) (.sl b n 0 m) = some (.imm false (l.map Cg.av)) := by
  have hu := upto_cg h hn
  subst hn hm hf
  unfold view
  simp only [hu, kst, cgc_len, List.drop_zero]
  rw [if_pos (by omega), chunk_cgc, mapO_mp (g := Cg.av)]
  intro c _
  simp [Cg.av, view, mapO]
theorem noLoc_cg (c : Cg) : noLoc c.av = true := by simp [Cg.av]
theorem dcheck_s (a b : Mly) (ha : a.fits) (hb : b.fits) : PC F_diff_check [a.av, b.av] = some (.int (chkE a b)) := by
  refine PCx_of (go_diff_check rfl ?_)
  simp
  refine W_iter (fun i : Nat => [(4, .int i)]) (fun _ => []) (fun i => i ≤ 2 ∧ (0 < i → a.validE = 0) ∧ (1 < i → b.validE = 0)) (fun i => 2 - i) 0 (by simp [sets]) (by simp) ?_
  intro i ⟨i1, i2, i3⟩
  have e1 := mValid_s a ha
  have e2 := mValid_s b hb
  match i, i1, i2, i3 with
  | 0, _, _, _ =>
    by_cases h1 : a.validE = 0
    · rw [h1] at e1
      simp [-More_nor, e1]
      exact More_of 1 (by simp) rfl ⟨by omega, fun _ => h1, by omega⟩ (by omega)
    · simp [-More_nor, e1, h1]
      unfold chkE; rw [if_pos h1]
  | 1, _, i2, _ =>
    have h1 := i2 (by omega)
    by_cases h2 : b.validE = 0
    · rw [h2] at e2
      simp [-More_nor, e2]
      exact More_of 2 (by simp) rfl ⟨by omega, fun _ => h1, fun _ => h2⟩ (by omega)
    · simp [-More_nor, e2, h2]
      unfold chkE; rw [if_neg (by omega), if_pos h2]
  | 2, _, i2, i3 =>
    have h1 := i2 (by omega)
    have h2 := i3 (by omega)
    simp [-More_nor]
    unfold chkE; rw [if_neg (by omega), if_neg (by omega)]
    exact ⟨fun h => by simp [h], fun h => by simp [h]⟩
theorem dcmp_s (x y : Cg) (hx : (x.w.length : Int) ≤ 1000000) (hy : (y.w.length : Int) ≤ 1000000) : PC F_diff_sorted_1 [x.av, y.av] = some (.int (slxC x.w y.w)) := by
  refine PCx_of (go_diff_sorted_1 rfl ?_)
  have e := wcmp_s x.w y.w (by omega) (by omega)
  simp [Cg.av, e]
/-- Changes in the order of their words. -/
def cgAsc (l : List Cg) : Prop := l.Pairwise fun x y => slxC x.w y.w < 0
/-- Words that fit. -/
def cgFit (l : List Cg) : Prop := ∀ c ∈ l, (c.w.length : Int) ≤ 1000000
theorem dsort_l {σ : List Blk} {b n m : Nat} {l : List Cg} (h : blk σ b = some ⟨some 5, cgc l, stOf l⟩) (hn : n = 5 * l.length) (hm : m = l.length) (hl : (l.length : Int) ≤ 1000000) (hw : cgFit l) (ha : cgAsc l) : L F_slices_SortFunc_Sapi_Change_api_Change [.sl b n 0 m, .func F_diff_sorted_1 []] σ = some (.tup [], σ) := by
  have hu := upto_cg h hn
  subst hm
  have hc : ∀ (i j : Nat) x y, (l.map Cg.av)[i]? = some x → (l.map Cg.av)[j]? = some y → ∃ c, pcl (lim G Q) F_diff_sorted_1 (x :: y :: []) = some (.int c) ∧ (c < 0 ↔ i < j) := by
    intro i j x y hx hy
    rw [List.getElem?_map] at hx hy
    cases hx' : l[i]? with
    | none => rw [hx'] at hx; simp at hx
    | some p =>
      cases hy' : l[j]? with
      | none => rw [hy'] at hy; simp at hy
      | some q =>
        rw [hx'] at hx; rw [hy'] at hy
        simp at hx hy; subst hx hy
        refine ⟨slxC p.w q.w, ?_, ?_⟩
        · have := dcmp_s p q (hw p (List.mem_of_getElem? hx')) (hw q (List.mem_of_getElem? hy'))
          unfold pcl
          rw [if_pos (by simp [noLoc_cg])]
          exact this
        · obtain ⟨hi, hpi⟩ := List.getElem?_eq_some_iff.1 hx'
          obtain ⟨hj, hqj⟩ := List.getElem?_eq_some_iff.1 hy'
          have hpw := List.pairwise_iff_getElem.1 ha
          rcases Nat.lt_trichotomy i j with hij | hij | hij
          · have := hpw i j hi hj hij
            rw [hpi, hqj] at this
            exact ⟨fun _ => hij, fun _ => this⟩
          · subst hij
            rw [hpi] at hqj; subst hqj
            have := slxC_ok.refl p.w
            omega
          · have := hpw j i hj hi hij
            rw [hpi, hqj] at this
            have h2 := slxC_ok.anti p.w q.w
            omega
  obtain ⟨N, hN⟩ := agreeS_lim Q_mono hc
  refine go_slices_SortFunc_Sapi_Change_api_Change (N := N) ?_
  simp only [pSortS, hu]
  by_cases h0 : l.length = 0
  · simp [h0]
  · rw [if_neg (by simpa using h0), List.drop_zero, chunk_cgc]
    have hst : stOf l = .live := by cases l <;> simp_all
    rw [if_pos]
    simp only [hst, cgc_len, Bool.and_eq_true, decide_eq_true_eq]
    refine ⟨⟨⟨⟨⟨rfl, rfl⟩, by omega⟩, by omega⟩, ?_⟩, hN⟩
    show 5 * l.length ≤ 1073741824; omega
theorem dsorted_l {σ : List Blk} {b n m : Nat} {l : List Cg} (h : blk σ b = some ⟨some 5, cgc l, stOf l⟩) (hn : n = 5 * l.length) (hm : m = l.length) (hl : (l.length : Int) ≤ 10000) (hw : cgFit l) (ha : cgAsc l) : L F_diff_sorted [.sl b n 0 m] σ = some (.tup [.sl b n 0 m, .int 0], σ) := by
  refine LX_eq (go_diff_sorted rfl ?_)
  have e := dsort_l h hn hm (by omega) hw ha
  have h1 : ¬ (10000 : Int) < (m : Int) := by omega
  simp [e, h1]
theorem dsorted_x {σ : List Blk} {b n m : Nat} (hl : (10000 : Int) < (m : Int)) : L F_diff_sorted [.sl b n 0 m] σ = some (.tup [.snil, .int 11], σ) := by
  refine LX_eq (go_diff_sorted rfl ?_)
  simp [hl]
end Ab
