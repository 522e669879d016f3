/- Observations: answers. Condition: none. -/
import Derived.Test.YtkedjdfangojmaaR02M
set_option linter.all false
set_option maxRecDepth 100000
set_option maxHeartbeats 4000000
namespace Ab
/-- A trace. -/
structure Tr where
  inp : List Int
  out : List Int
  deriving Inhabited
abbrev Tr.av (t : Tr) : AV := .agg [iL t.inp, iL t.out]
def okT (t : Tr) : Prop := okI t.inp ∧ okI t.out
structure Obs where
  inputs : Int
  traces : List Tr
  deriving Inhabited
abbrev Obs.av (o : Obs) : AV := .agg [.int o.inputs, .imm false (o.traces.map Tr.av)]
structure Obs.fits (o : Obs) : Prop where
  inputs : inR o.inputs = true
  len : (o.traces.length : Int) ≤ 9223372036854775807
  tr : ∀ t ∈ o.traces, okT t
abbrev tyTr : Ty := .st [.sl .int, .sl .int]
abbrev tyObs : Ty := .st [.int, .sl tyTr]
theorem has_Tr {x : AV} (h : tyTr.has x) : ∃ t : Tr, x = t.av ∧ okT t := by
  obtain ⟨xs, rfl, h⟩ := h
  simp only [Ty.hasL] at h
  obtain ⟨x0, s0, rfl, h0, x1, s1, rfl, h1, rfl⟩ := h
  obtain ⟨a0, rfl, k0⟩ := has_I h0
  obtain ⟨a1, rfl, k1⟩ := has_I h1
  exact ⟨⟨a0, a1⟩, rfl, k0, k1⟩
theorem has_Obs {x : AV} (h : tyObs.has x) : ∃ o : Obs, x = o.av ∧ o.fits := by
  obtain ⟨xs, rfl, h⟩ := h
  simp only [Ty.hasL] at h
  obtain ⟨x0, s0, rfl, h0, x1, s1, rfl, h1, rfl⟩ := h
  obtain ⟨a0, rfl, k0⟩ := has_int h0
  obtain ⟨a1, rfl, k1, k2⟩ := has_list (fun _ h => has_Tr h) h1
  exact ⟨⟨a0, a1⟩, rfl, ⟨k0, k1, k2⟩⟩
/-- Small observations, whose outputs are as long as the inputs. -/
structure Obs.Ok (o : Obs) : Prop where
  len : (o.traces.length : Int) ≤ 1000000
  inp : ∀ t ∈ o.traces, (t.inp.length : Int) ≤ 1000000
  out : ∀ t ∈ o.traces, t.out.length = t.inp.length
/-- The trace that answers a word. -/
def Obs.at (o : Obs) (w : List Int) : Int := idx (fun t : Tr => decide (w <+: t.inp)) o.traces
def Obs.ans (o : Obs) (w : List Int) : List Int × Bool := if w = [] then ([], true) else if o.at w < 0 then ([], false) else ((ix o.traces (o.at w)).out.take w.length, true)
theorem idx_ge {α : Type} {p : α → Bool} {xs : List α} : -1 ≤ idx p xs := by
  unfold idx; split <;> omega
theorem idx_hit {α : Type} [Inhabited α] {p : α → Bool} {xs : List α} (h : 0 ≤ idx p xs) : idx p xs < xs.length ∧ p (ix xs (idx p xs)) = true := by
  cases hi : xs.findIdx? p with
  | none => simp only [idx, hi] at h; omega
  | some i =>
    obtain ⟨h1, h2, _⟩ := List.findIdx?_eq_some_iff_getElem.1 hi
    simp only [idx, hi]
    refine ⟨by omega, ?_⟩
    rw [ix_nat h1]; exact h2
theorem answer1_s (t : Tr) (w : List Int) (ht : (t.inp.length : Int) ≤ 9223372036854775807) (hw : (w.length : Int) ≤ 9223372036854775807) : PC F_observe_Answer_1 [t.av, .pimm (iL w)] = some (.bool (decide (w <+: t.inp))) := by
  refine PCx_of (go_observe_Answer_1 rfl ?_)
  have hp := hasPre_s t.inp w ht hw
  simp [hp]
theorem IndexTr_s (xs : List Tr) (f : Nat) (caps : List AV) (p : Tr → Bool) (hl : (xs.length : Int) ≤ 9223372036854775807) (hc : noLocs caps = true)
    (hp : ∀ x ∈ xs, PC f (x.av :: caps.map wk) = some (.bool (p x))) : PC F_slices_IndexFunc_Sapi_Trace_api_Trace [.imm false (xs.map Tr.av), .func f caps] = some (.int (idx p xs)) := by
  refine PCx_of (go_slices_IndexFunc_Sapi_Trace_api_Trace rfl ?_)
  simp
  refine W_iter (fun i : Int => [(2, .int i)]) (fun _ => []) (fun i => 0 ≤ i ∧ i ≤ xs.length ∧ ∀ j, 0 ≤ j → j < i → p (ix xs j) = false) (fun i => (xs.length - i).toNat) 0 rfl (by simp; omega) fun i ⟨h0, h1, h2⟩ => ?_
  by_cases hi : i < xs.length
  · have hq := hp _ (ix_mem h0 hi)
    simp [hi, h0, hc, hq]
    exact ⟨fun h => (idx_some h0 hi h h2).symm, fun h => ⟨by omega, ⟨by omega, by omega, upto_succ h h2⟩, by omega⟩⟩
  · simp [hi]
    rw [idx_none fun j a b => h2 j a (by omega)]
theorem RJoin_s (ps : List (List Int)) (hp : (ps.length : Int) ≤ 1000000) (h : (ps.flatten.length : Int) ≤ 1000000) : PC F_ref01_Join [iLL ps] = some (iL ps.flatten) := by
  refine PCx_of (go_ref01_Join rfl ?_)
  have hle : ∀ i : Nat, (ps.take i).flatten.length ≤ ps.flatten.length := fun i => by
    have e : (ps.take i).flatten ++ (ps.drop i).flatten = ps.flatten := by rw [← List.flatten_append, List.take_append_drop]
    rw [← e]; simp
  simp
  refine W_iter (fun i : Nat => [(1, .int i), (2, .sl 0 ((ps.take i).flatten).length 0 ((ps.take i).flatten).length)]) (fun i => [louI (ps.take i).flatten]) (fun i => i ≤ ps.length) (fun i => ps.length - i) 0 (by simp [sets]) (by omega) ?_
  intro i i0
  by_cases hi : i < ps.length
  · have t1 : (ps.take (i + 1)).flatten = (ps.take i).flatten ++ ix ps (i : Int) := by
      rw [List.take_add_one, List.getElem?_eq_getElem hi, ix_nat hi, List.flatten_append]; simp
    have hb := hle (i + 1)
    rw [t1] at hb
    generalize (ps.take i).flatten = F at *
    rw [List.length_append] at hb
    by_cases hn : ix ps (i : Int) = []
    · have hn' : (ix ps (i : Int) = []) = True := eq_true hn
      have t2 : (ps.take (i + 1)).flatten = F := by rw [t1, hn]; simp
      simp [-More_nor, -List.length_flatten, hi, hn']
      refine ⟨by split <;> simp, by omega, by omega, More_of (i + 1) (by rw [t2]; simp [-List.length_flatten]) (by rw [t2]) (by omega) (by omega)⟩
    · simp [-More_nor, -List.length_flatten, hi, hn]
      refine ⟨by split <;> simp, by omega, by omega, More_of (i + 1) (by rw [t1]; simp [-List.length_flatten]) (by rw [t1]; simp [-List.length_flatten, hn]) (by omega) (by omega)⟩
  · have ei : i = ps.length := by omega
    subst ei
    rw [List.take_length]
    have hv := vd_louI (σ := [louI ps.flatten]) (b := 0) rfl
    simp [-List.length_flatten, hv]
theorem firstIs_int {l : List Int} : firstIs 1 (l.map .int) = true := by cases l <;> rfl
theorem Answer_s (o : Obs) (ho : o.Ok) (w : List Int) (hw : (w.length : Int) ≤ 1000000) : PC F_observe_Answer [o.av, iL w] = some (.tup [iL (o.ans w).1, .bool (o.ans w).2]) := by
  refine PCx_of (go_observe_Answer rfl ?_)
  have hl := ho.len
  have hx := IndexTr_s o.traces F_observe_Answer_1 [.pimm (iL w)] (fun t => decide (w <+: t.inp)) (by omega) rfl (fun t ht => answer1_s t w (by have := ho.inp t ht; omega) (by omega))
  unfold Obs.ans
  by_cases h0 : w = []
  · have h0' : (w = []) = True := eq_true h0
    simp [h0']
  · have hwl : ¬ (w.length : Int) = 0 := by have := List.length_pos_iff.2 h0; omega
    have hx : PC F_slices_IndexFunc_Sapi_Trace_api_Trace [.imm false (o.traces.map Tr.av), .func F_observe_Answer_1 [.pimm (iL w)]] = some (.int (o.at w)) := hx
    by_cases hn : o.at w < 0
    · simp [h0, hwl, hx, hn]
    · have hh := idx_hit (p := fun t : Tr => decide (w <+: t.inp)) (xs := o.traces) (show 0 ≤ o.at w by omega)
      have h1 : o.at w < o.traces.length := hh.1
      have h2 : w <+: (ix o.traces (o.at w)).inp := of_decide_eq_true (show decide (w <+: (ix o.traces (o.at w)).inp) = true from hh.2)
      have h4 := h2.length_le
      have hm := ix_mem (l := o.traces) (n := o.at w) (by omega) h1
      have h3 := ho.out _ hm
      have h5 := ho.inp _ hm
      have hcl := wclone_s ((ix o.traces (o.at w)).out.take w.length) (by simp; omega)
      have hmin : min (w.length : Int) ((ix o.traces (o.at w)).out.length : Int) = w.length := by omega
      have hcl' : PC F_slices_Clone_Sint_int [.imm false (List.take w.length ((ix o.traces (o.at w)).out.map .int))] = some (iL ((ix o.traces (o.at w)).out.take w.length)) := by rw [← List.map_take]; exact hcl
      simp [-List.map_take, h0, hwl, hx, hn, h1, hmin, hcl', firstIs_int]
      omega
theorem RAnswer_s (o : Obs) (ho : o.Ok) (w : List Int) (hw : (w.length : Int) ≤ 1000000) : PC F_ref16_Answer [o.av, iL w] = some (.tup [iL (o.ans w).1, .bool (o.ans w).2]) := by
  refine PCx_of (go_ref16_Answer rfl ?_)
  have hl := ho.len
  unfold Obs.ans
  by_cases h0 : w = []
  · have h0' : (w = []) = True := eq_true h0
    simp [h0']
  · have hwl : ¬ (w.length : Int) = 0 := by have := List.length_pos_iff.2 h0; omega
    simp [h0, hwl]
    refine W_iter (fun i : Int => [(2, .int i)]) (fun _ => []) (fun i => 0 ≤ i ∧ i ≤ o.traces.length ∧ ∀ j, 0 ≤ j → j < i → decide (w <+: (ix o.traces j).inp) = false) (fun i => (o.traces.length - i).toNat) 0 (by simp [sets]) (by simp; intro j h1 h2; omega) fun i ⟨i0, i1, i2⟩ => ?_
    by_cases hi : i < o.traces.length
    · have hm := ix_mem (l := o.traces) (n := i) i0 hi
      have h3 := ho.out _ hm
      have h5 := ho.inp _ hm
      have hp := rhasPre_s (ix o.traces i).inp w (by omega) (by omega)
      by_cases hh : w <+: (ix o.traces i).inp
      · have e : o.at w = i := idx_some i0 hi (decide_eq_true hh) i2
        rw [decide_eq_true hh] at hp
        have h4 := hh.length_le
        have hj := RJoin_s [(ix o.traces i).out.take w.length] (by simp) (by simp; omega)
        have hj' : PC F_ref01_Join [.imm false [.imm false (List.take w.length ((ix o.traces i).out.map .int))]] = some (iL ((ix o.traces i).out.take w.length)) := by
          rw [← List.map_take]; rw [show [(ix o.traces i).out.take w.length].flatten = (ix o.traces i).out.take w.length by simp] at hj; exact hj
        simp [-List.map_take, hi, i0, hp, e, firstIs_int, hj', show ¬ i < 0 by omega]
        omega
      · rw [decide_eq_false hh] at hp
        simp [-More_nor, hi, i0, hp]
        exact ⟨by omega, More_of (i + 1) (by simp) rfl ⟨by omega, by omega, by
          have := upto_succ (P := fun j => decide (w <+: (ix o.traces j).inp) = false) (i := i) (decide_eq_false hh) i2
          exact fun j a b => of_decide_eq_false (this j a b)⟩ (by omega)⟩
    · have e : o.at w = -1 := idx_none fun j a b => i2 j a (by omega)
      simp [hi, e]
end Ab
