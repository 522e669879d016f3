/- Observations: answers. Observations: which are valid. Which words are asked. Condition: none. -/
import Derived.Test.YtkedjdfangojmaaR02M
set_option linter.all false
set_option maxRecDepth 100000
set_option maxHeartbeats 4000000
namespace Ab
/-- A trace. -/
structure Tr where
  inp : List Int
  out : List Int
  deriving Inhabited
abbrev Tr.av (t : Tr) : AV := .agg [iL t.inp, iL t.out]
def okT (t : Tr) : Prop := okI t.inp ∧ okI t.out
structure Obs where
  inputs : Int
  traces : List Tr
  deriving Inhabited
abbrev Obs.av (o : Obs) : AV := .agg [.int o.inputs, .imm false (o.traces.map Tr.av)]
structure Obs.fits (o : Obs) : Prop where
  inputs : inR o.inputs = true
  len : (o.traces.length : Int) ≤ 9223372036854775807
  tr : ∀ t ∈ o.traces, okT t
abbrev tyTr : Ty := .st [.sl .int, .sl .int]
abbrev tyObs : Ty := .st [.int, .sl tyTr]
theorem has_Tr {x : AV} (h : tyTr.has x) : ∃ t : Tr, x = t.av ∧ okT t := by
  obtain ⟨xs, rfl, h⟩ := h
  simp only [Ty.hasL] at h
  obtain ⟨x0, s0, rfl, h0, x1, s1, rfl, h1, rfl⟩ := h
  obtain ⟨a0, rfl, k0⟩ := has_I h0
  obtain ⟨a1, rfl, k1⟩ := has_I h1
  exact ⟨⟨a0, a1⟩, rfl, k0, k1⟩
theorem has_Obs {x : AV} (h : tyObs.has x) : ∃ o : Obs, x = o.av ∧ o.fits := by
  obtain ⟨xs, rfl, h⟩ := h
  simp only [Ty.hasL] at h
  obtain ⟨x0, s0, rfl, h0, x1, s1, rfl, h1, rfl⟩ := h
  obtain ⟨a0, rfl, k0⟩ := has_int h0
  obtain ⟨a1, rfl, k1, k2⟩ := has_list (fun _ h => has_Tr h) h1
  exact ⟨⟨a0, a1⟩, rfl, ⟨k0, k1, k2⟩⟩
/-- Small observations, whose outputs are as long as the inputs. -/
structure Obs.Ok (o : Obs) : Prop where
  len : (o.traces.length : Int) ≤ 1000000
  inp : ∀ t ∈ o.traces, (t.inp.length : Int) ≤ 1000000
  out : ∀ t ∈ o.traces, t.out.length = t.inp.length
/-- The trace that answers a word. -/
def Obs.at (o : Obs) (w : List Int) : Int := idx (fun t : Tr => decide (w <+: t.inp)) o.traces
def Obs.ans (o : Obs) (w : List Int) : List Int × Bool := if w = [] then ([], true) else if o.at w < 0 then ([], false) else ((ix o.traces (o.at w)).out.take w.length, true)
theorem idx_ge {α : Type} {p : α → Bool} {xs : List α} : -1 ≤ idx p xs := by
  unfold idx; split <;> omega
theorem idx_hit {α : Type} [Inhabited α] {p : α → Bool} {xs : List α} (h : 0 ≤ idx p xs) : idx p xs < xs.length ∧ p (ix xs (idx p xs)) = true := by
  cases hi : xs.findIdx? p with
  | none => simp only [idx, hi] at h; omega
  | some i =>
    obtain ⟨h1, h2, _⟩ := List.findIdx?_eq_some_iff_getElem.1 hi
    simp only [idx, hi]
    refine ⟨by omega, ?_⟩
    rw [ix_nat h1]; exact h2
theorem answer1_s (t : Tr) (w : List Int) (ht : (t.inp.length : Int) ≤ 9223372036854775807) (hw : (w.length : Int) ≤ 9223372036854775807) : PC F_observe_Answer_1 [t.av, .pimm (iL w)] = some (.bool (decide (w <+: t.inp))) := by
  refine PCx_of (go_observe_Answer_1 rfl ?_)
  have hp := hasPre_s t.inp w ht hw
  simp [hp]
theorem IndexTr_s (xs : List Tr) (f : Nat) (caps : List AV) (p : Tr → Bool) (hl : (xs.length : Int) ≤ 9223372036854775807) (hc : noLocs caps = true)
    (hp : ∀ x ∈ xs, PC f (x.av :: caps.map wk) = some (.bool (p x))) : PC F_slices_IndexFunc_Sapi_Trace_api_Trace [.imm false (xs.map Tr.av), .func f caps] = some (.int (idx p xs)) := by
  refine PCx_of (go_slices_IndexFunc_Sapi_Trace_api_Trace rfl ?_)
  simp
  refine W_iter (fun i : Int => [(2, .int i)]) (fun _ => []) (fun i => 0 ≤ i ∧ i ≤ xs.length ∧ ∀ j, 0 ≤ j → j < i → p (ix xs j) = false) (fun i => (xs.length - i).toNat) 0 rfl (by simp; omega) fun i ⟨h0, h1, h2⟩ => ?_
  by_cases hi : i < xs.length
  · have hq := hp _ (ix_mem h0 hi)
    simp [hi, h0, hc, hq]
    exact ⟨fun h => (idx_some h0 hi h h2).symm, fun h => ⟨by omega, ⟨by omega, by omega, upto_succ h h2⟩, by omega⟩⟩
  · simp [hi]
    rw [idx_none fun j a b => h2 j a (by omega)]
theorem RJoin_s (ps : List (List Int)) (hp : (ps.length : Int) ≤ 1000000) (h : (ps.flatten.length : Int) ≤ 1000000) : PC F_ref01_Join [iLL ps] = some (iL ps.flatten) := by
  refine PCx_of (go_ref01_Join rfl ?_)
  have hle : ∀ i : Nat, (ps.take i).flatten.length ≤ ps.flatten.length := fun i => by
    have e : (ps.take i).flatten ++ (ps.drop i).flatten = ps.flatten := by rw [← List.flatten_append, List.take_append_drop]
    rw [← e]; simp
  simp
  refine W_iter (fun i : Nat => [(1, .int i), (2, .sl 0 ((ps.take i).flatten).length 0 ((ps.take i).flatten).length)]) (fun i => [louI (ps.take i).flatten]) (fun i => i ≤ ps.length) (fun i => ps.length - i) 0 (by simp [sets]) (by omega) ?_
  intro i i0
  by_cases hi : i < ps.length
  · have t1 : (ps.take (i + 1)).flatten = (ps.take i).flatten ++ ix ps (i : Int) := by
      rw [List.take_add_one, List.getElem?_eq_getElem hi, ix_nat hi, List.flatten_append]; simp
    have hb := hle (i + 1)
    rw [t1] at hb
    generalize (ps.take i).flatten = F at *
    rw [List.length_append] at hb
    by_cases hn : ix ps (i : Int) = []
    · have hn' : (ix ps (i : Int) = []) = True := eq_true hn
      have t2 : (ps.take (i + 1)).flatten = F := by rw [t1, hn]; simp
      simp [-More_nor, -List.length_flatten, hi, hn']
      refine ⟨by split <;> simp, by omega, by omega, More_of (i + 1) (by rw [t2]; simp [-List.length_flatten]) (by rw [t2]) (by omega) (by omega)⟩
    · simp [-More_nor, -List.length_flatten, hi, hn]
      refine ⟨by split <;> simp, by omega, by omega, More_of (i + 1) (by rw [t1]; simp [-List.length_flatten]) (by rw [t1]; simp [-List.length_flatten, hn]) (by omega) (by omega)⟩
  · have ei : i = ps.length := by omega
    subst ei
    rw [List.take_length]
    have hv := vd_louI (σ := [louI ps.flatten]) (b := 0) rfl
    simp [-List.length_flatten, hv]
theorem firstIs_int {l : List Int} : firstIs 1 (l.map .int) = true := by cases l <;> rfl
theorem Answer_s (o : Obs) (ho : o.Ok) (w : List Int) (hw : (w.length : Int) ≤ 1000000) : PC F_observe_Answer [o.av, iL w] = some (.tup [iL (o.ans w).1, .bool (o.ans w).2]) := by
  refine PCx_of (go_observe_Answer rfl ?_)
  have hl := ho.len
  have hx := IndexTr_s o.traces F_observe_Answer_1 [.pimm (iL w)] (fun t => decide (w <+: t.inp)) (by omega) rfl (fun t ht => answer1_s t w (by have := ho.inp t ht; omega) (by omega))
  unfold Obs.ans
  by_cases h0 : w = []
  · have h0' : (w = []) = True := eq_true h0
    simp [h0']
  · have hwl : ¬ (w.length : Int) = 0 := by have := List.length_pos_iff.2 h0; omega
    have hx : PC F_slices_IndexFunc_Sapi_Trace_api_Trace [.imm false (o.traces.map Tr.av), .func F_observe_Answer_1 [.pimm (iL w)]] = some (.int (o.at w)) := hx
    by_cases hn : o.at w < 0
    · simp [h0, hwl, hx, hn]
    · have hh := idx_hit (p := fun t : Tr => decide (w <+: t.inp)) (xs := o.traces) (show 0 ≤ o.at w by omega)
      have h1 : o.at w < o.traces.length := hh.1
      have h2 : w <+: (ix o.traces (o.at w)).inp := of_decide_eq_true (show decide (w <+: (ix o.traces (o.at w)).inp) = true from hh.2)
      have h4 := h2.length_le
      have hm := ix_mem (l := o.traces) (n := o.at w) (by omega) h1
      have h3 := ho.out _ hm
      have h5 := ho.inp _ hm
      have hcl := wclone_s ((ix o.traces (o.at w)).out.take w.length) (by simp; omega)
      have hmin : min (w.length : Int) ((ix o.traces (o.at w)).out.length : Int) = w.length := by omega
      have hcl' : PC F_slices_Clone_Sint_int [.imm false (List.take w.length ((ix o.traces (o.at w)).out.map .int))] = some (iL ((ix o.traces (o.at w)).out.take w.length)) := by rw [← List.map_take]; exact hcl
      simp [-List.map_take, h0, hwl, hx, hn, h1, hmin, hcl', firstIs_int]
      omega
theorem RAnswer_s (o : Obs) (ho : o.Ok) (w : List Int) (hw : (w.length : Int) ≤ 1000000) : PC F_ref16_Answer [o.av, iL w] = some (.tup [iL (o.ans w).1, .bool (o.ans w).2]) := by
  refine PCx_of (go_ref16_Answer rfl ?_)
  have hl := ho.len
  unfold Obs.ans
  by_cases h0 : w = []
  · have h0' : (w = []) = True := eq_true h0
    simp [h0']
  · have hwl : ¬ (w.length : Int) = 0 := by have := List.length_pos_iff.2 h0; omega
    simp [h0, hwl]
    refine W_iter (fun i : Int => [(2, .int i)]) (fun _ => []) (fun i => 0 ≤ i ∧ i ≤ o.traces.length ∧ ∀ j, 0 ≤ j → j < i → decide (w <+: (ix o.traces j).inp) = false) (fun i => (o.traces.length - i).toNat) 0 (by simp [sets]) (by simp; intro j h1 h2; omega) fun i ⟨i0, i1, i2⟩ => ?_
    by_cases hi : i < o.traces.length
    · have hm := ix_mem (l := o.traces) (n := i) i0 hi
      have h3 := ho.out _ hm
      have h5 := ho.inp _ hm
      have hp := rhasPre_s (ix o.traces i).inp w (by omega) (by omega)
      by_cases hh : w <+: (ix o.traces i).inp
      · have e : o.at w = i := idx_some i0 hi (decide_eq_true hh) i2
        rw [decide_eq_true hh] at hp
        have h4 := hh.length_le
        have hj := RJoin_s [(ix o.traces i).out.take w.length] (by simp) (by simp; omega)
        have hj' : PC F_ref01_Join [.imm false [.imm false (List.take w.length ((ix o.traces i).out.map .int))]] = some (iL ((ix o.traces i).out.take w.length)) := by
          rw [← List.map_take]; rw [show [(ix o.traces i).out.take w.length].flatten = (ix o.traces i).out.take w.length by simp] at hj; exact hj
        simp [-List.map_take, hi, i0, hp, e, firstIs_int, hj', show ¬ i < 0 by omega]
        omega
      · rw [decide_eq_false hh] at hp
        simp [-More_nor, hi, i0, hp]
        exact ⟨by omega, More_of (i + 1) (by simp) rfl ⟨by omega, by omega, by
          have := upto_succ (P := fun j => decide (w <+: (ix o.traces j).inp) = false) (i := i) (decide_eq_false hh) i2
          exact fun j a b => of_decide_eq_false (this j a b)⟩ (by omega)⟩
    · have e : o.at w = -1 := idx_none fun j a b => i2 j a (by omega)
      simp [hi, e]
end Ab
namespace Ab
/-- The error of a trace. -/
theorem Proper_x (t : Tr) (k : Int) (h1 : (t.inp.length : Int) ≤ 9223372036854775807) (h2 : (t.out.length : Int) ≤ 9223372036854775807) : LX L F_ref16_Proper [t.av, .int k] [] (fun v _ => ∃ e, v = .int e ∧ (e = 0 → wordE t.inp k = 0 ∧ t.out.length = t.inp.length ∧ ∀ x ∈ t.out, 0 ≤ x ∧ x ≤ 1048576)) := by
  refine go_ref16_Proper rfl ?_
  have hc := rCheck_s t.inp k h1
  by_cases he : wordE t.inp k = 0
  · rw [he] at hc
    by_cases hl : (t.out.length : Int) = t.inp.length
    · simp [hc, hl]
      refine W_iter (fun i : Nat => [(4, .int i)]) (fun _ => []) (fun i => i ≤ t.out.length ∧ ∀ j : Nat, j < i → 0 ≤ ix t.out (j : Int) ∧ ix t.out (j : Int) ≤ 1048576) (fun i => t.out.length - i) 0 (by simp [sets]) ⟨by omega, fun j h => by omega⟩ ?_
      intro i ⟨i0, i1⟩
      by_cases hi : i < t.out.length
      · by_cases hb : ix t.out (i : Int) < 0
        · simp [hi, hb]
        · by_cases hb2 : 1048576 < ix t.out (i : Int)
          · simp [hi, hb, hb2]
          · simp [-More_nor, hi, hb, hb2]
            (repeat' apply And.intro) <;> try omega
            exact More_of (i + 1) (by simp) rfl ⟨by omega, fun j hj => by
              by_cases e : j = i
              · subst e; omega
              · exact i1 j (by omega)⟩ (by omega)
      · simp [hi]
        refine ⟨he, by omega, fun x hx => ?_⟩
        obtain ⟨j, hj, e⟩ := List.mem_iff_getElem.1 hx
        have := i1 j (by omega)
        rwa [ix_nat hj, e] at this
    · simp [hc, hl]
  · simp [hc, he]
theorem Proper_s (t : Tr) (k : Int) (h1 : (t.inp.length : Int) ≤ 9223372036854775807) (h2 : (t.out.length : Int) ≤ 9223372036854775807) : ∃ e, PC F_ref16_Proper [t.av, .int k] = some (.int e) ∧ (e = 0 → wordE t.inp k = 0 ∧ t.out.length = t.inp.length ∧ ∀ x ∈ t.out, 0 ≤ x ∧ x ≤ 1048576) := by
  obtain ⟨v, σ', h, e, rfl, h3⟩ := LX_s (Proper_x t k h1 h2)
  exact ⟨e, by simp only [PC, PCx, h]; rfl, h3⟩
theorem Differ_x (a b : Tr) (ha : (a.inp.length : Int) ≤ 1000000) (hb : (b.inp.length : Int) ≤ 1000000) (ha2 : a.out.length = a.inp.length) (hb2 : b.out.length = b.inp.length) : LX L F_ref16_Differ [a.av, b.av] [] (fun v _ => ∃ e, v = .int e) := by
  refine go_ref16_Differ rfl ?_
  have hc := rcommon_s a.inp b.inp (by omega) (by omega)
  have hn := comN_le (a := a.inp) (b := b.inp)
  generalize comN a.inp b.inp = n at *
  simp [hc]
  refine W_iter (fun i : Nat => [(4, .int i)]) (fun _ => []) (fun i => i ≤ n) (fun i => n - i) 0 (by simp [sets]) (by omega) ?_
  intro i i0
  by_cases hi : i < n
  · have h1 : i < a.out.length := by omega
    have h2 : i < b.out.length := by omega
    by_cases he : ix a.out (i : Int) = ix b.out (i : Int)
    · have hee : (ix a.out (i : Int) = ix b.out (i : Int)) = True := eq_true he
      simp [-More_nor, hi, h1, h2, hee]
      (repeat' apply And.intro) <;> try omega
      exact More_of (i + 1) (by simp) rfl (by omega) (by omega)
    · simp [hi, h1, h2, he]
  · simp [hi]
theorem Differ_s (a b : Tr) (ha : (a.inp.length : Int) ≤ 1000000) (hb : (b.inp.length : Int) ≤ 1000000) (ha2 : a.out.length = a.inp.length) (hb2 : b.out.length = b.inp.length) : ∃ e, PC F_ref16_Differ [a.av, b.av] = some (.int e) := by
  obtain ⟨v, σ', h, e, rfl⟩ := LX_s (Differ_x a b ha hb ha2 hb2)
  exact ⟨e, by simp only [PC, PCx, h]; rfl⟩
theorem apart_x (o : Obs) (ho : o.Ok) : LX L F_ref16_apart [o.av] [] (fun v _ => ∃ e, v = .int e) := by
  refine go_ref16_apart rfl ?_
  have hl := ho.len
  simp
  refine W_iter (fun i : Nat => [(1, .int i)]) (fun _ => []) (fun i => i ≤ o.traces.length) (fun i => o.traces.length - i) 0 (by simp [sets]) (by omega) ?_
  intro i i0
  by_cases hi : i < o.traces.length
  · have hmi := ix_get (l := o.traces) hi
    simp [-More_nor, hi]
    refine ⟨by omega, ?_⟩
    refine W_iter (fun p : Nat × Bool × Bool => [(3, .int p.1), (4, .bool p.2.1), (5, .bool p.2.2)]) (fun _ => []) (fun p => i + 1 ≤ p.1 ∧ p.1 ≤ o.traces.length) (fun p => o.traces.length - p.1) (i + 1, false, false) (by simp [sets]) ⟨by dsimp only; omega, by dsimp only; omega⟩ ?_
    rintro ⟨k, b, c⟩ ⟨k0, k1⟩
    dsimp only at k0 k1 ⊢
    by_cases hk : k < o.traces.length
    · have hmk := ix_get (l := o.traces) hk
      have hp := rhasPre_s (ix o.traces (k : Int)).inp (ix o.traces (i : Int)).inp (by have := ho.inp _ hmk; omega) (by have := ho.inp _ hmi; omega)
      obtain ⟨e, hd⟩ := Differ_s (ix o.traces (i : Int)) (ix o.traces (k : Int)) (ho.inp _ hmi) (ho.inp _ hmk) (ho.out _ hmi) (ho.out _ hmk)
      cases b <;> cases c
      · simp [-More_nor, hi, hk, hp, hd]
        (repeat' apply And.intro) <;> try omega
        exact More_of (k + 1, decide ((ix o.traces (i : Int)).inp <+: (ix o.traces (k : Int)).inp), decide (0 ≤ e)) (by simp) rfl ⟨by dsimp only; omega, by dsimp only; omega⟩ (by dsimp only; omega)
      · simp [-More_nor, hi, hk, hp, hd]
        (repeat' apply And.intro) <;> try omega
        exact More_of (k + 1, decide ((ix o.traces (i : Int)).inp <+: (ix o.traces (k : Int)).inp), true) (by simp) rfl ⟨by dsimp only; omega, by dsimp only; omega⟩ (by dsimp only; omega)
      · simp [-More_nor, hi, hk, hp, hd]
        (repeat' apply And.intro) <;> try omega
        exact More_of (k + 1, true, decide (0 ≤ e)) (by simp) rfl ⟨by dsimp only; omega, by dsimp only; omega⟩ (by dsimp only; omega)
      · simp [-More_nor, hi, hk, hp, hd]
        (repeat' apply And.intro) <;> try omega
        exact More_of (k + 1, true, true) (by simp) rfl ⟨by dsimp only; omega, by dsimp only; omega⟩ (by dsimp only; omega)
    · have ek : k = o.traces.length := by omega
      subst ek
      cases b <;> cases c <;> simp [-More_nor]
      exact ⟨by omega, More_of (i + 1) (by simp) rfl (by omega) (by omega)⟩
  · simp [hi]
theorem apart_s (o : Obs) (ho : o.Ok) : ∃ e, PC F_ref16_apart [o.av] = some (.int e) := by
  obtain ⟨v, σ', h, e, rfl⟩ := LX_s (apart_x o ho)
  exact ⟨e, by simp only [PC, PCx, h]; rfl⟩
/-- What is asked of valid observations here. -/
theorem Valid_x (o : Obs) (h : o.fits) (hl : (o.traces.length : Int) ≤ 1000000) (hi : ∀ t ∈ o.traces, (t.inp.length : Int) ≤ 1000000 ∧ (t.out.length : Int) ≤ 1000000) : LX L F_ref16_Valid [o.av] [] (fun v _ => ∃ e, v = .int e ∧ (e = 0 → o.Ok)) := by
  refine go_ref16_Valid rfl ?_
  by_cases h1 : o.inputs < 1
  · simp [h1]
  by_cases h2 : 64 < o.inputs
  · simp [h1, h2]
  by_cases h3 : 10000 < (o.traces.length : Int)
  · simp [h1, h2, h3]
  simp [h1, h2, h3]
  refine W_iter (fun i : Nat => [(2, .int i)]) (fun _ => []) (fun i => i ≤ o.traces.length ∧ ∀ j : Nat, j < i → (ix o.traces (j : Int)).out.length = (ix o.traces (j : Int)).inp.length) (fun i => o.traces.length - i) 0 (by simp [sets]) ⟨by omega, fun j h => by omega⟩ ?_
  intro i ⟨i0, i1⟩
  by_cases hx : i < o.traces.length
  · have hm := ix_get (l := o.traces) hx
    obtain ⟨hb1, hb2⟩ := hi _ hm
    have hc := rCheck_s (ix o.traces (i : Int)).inp o.inputs (by omega)
    obtain ⟨e, hp, he⟩ := Proper_s (ix o.traces (i : Int)) o.inputs (by omega) (by omega)
    by_cases hw : wordE (ix o.traces (i : Int)).inp o.inputs = 0
    · rw [hw] at hc
      by_cases hz : (ix o.traces (i : Int)).inp = []
      · have hz' : ((ix o.traces (i : Int)).inp = []) = True := eq_true hz
        simp [hx, hc, hz']
      · by_cases hee : e = 0
        · subst hee
          have hok := (he rfl).2.1
          have next : ∀ j : Nat, j < i + 1 → (ix o.traces (j : Int)).out.length = (ix o.traces (j : Int)).inp.length := fun j hj => by
            by_cases e : j = i
            · subst e; exact hok
            · exact i1 j (by omega)
          by_cases hi0 : 0 < i
          · have hm2 := ix_mem (l := o.traces) (n := (i : Int) - 1) (by omega) (by omega)
            have hcm := rcmp_s (ix o.traces ((i : Int) - 1)).inp (ix o.traces (i : Int)).inp (by have := (hi _ hm2).1; omega) (by omega)
            by_cases hs : 0 ≤ slxC (ix o.traces ((i : Int) - 1)).inp (ix o.traces (i : Int)).inp
            · simp [hx, hc, hz, hp, hi0, hcm, hs, show (i : Int) - 1 < o.traces.length by omega]
              omega
            · simp [-More_nor, hx, hc, hz, hp, hi0, hcm, hs, show (i : Int) - 1 < o.traces.length by omega]
              (repeat' apply And.intro) <;> try omega
              exact More_of (i + 1) (by simp) rfl ⟨by omega, next⟩ (by omega)
          · simp [-More_nor, hx, hc, hz, hp, hi0]
            (repeat' apply And.intro) <;> try omega
            exact More_of (i + 1) (by simp) rfl ⟨by omega, next⟩ (by omega)
        · simp [hx, hc, hz, hp, hee]
    · simp [hx, hc, hw]
  · have ho : o.Ok := ⟨hl, fun t ht => (hi t ht).1, fun t ht => by
      obtain ⟨j, hj, e⟩ := List.mem_iff_getElem.1 ht
      have := i1 j (by omega)
      rwa [ix_nat hj, e] at this⟩
    obtain ⟨e, ha⟩ := apart_s o ho
    simp [hx, ha]
    exact fun _ => ho
theorem Valid_s (o : Obs) (h : o.fits) (hl : (o.traces.length : Int) ≤ 1000000) (hi : ∀ t ∈ o.traces, (t.inp.length : Int) ≤ 1000000 ∧ (t.out.length : Int) ≤ 1000000) : ∃ e, PC F_ref16_Valid [o.av] = some (.int e) ∧ (e = 0 → o.Ok) := by
  obtain ⟨v, σ', h, e, rfl, h3⟩ := LX_s (Valid_x o h hl hi)
  exact ⟨e, by simp only [PC, PCx, h]; rfl, h3⟩
theorem greatT_x (l : List Tr) (hl : (l.length : Int) ≤ 9223372036854775807) (hw : ∀ t ∈ l, (t.inp.length : Int) ≤ 9223372036854775807 ∧ (t.out.length : Int) ≤ 9223372036854775807) : LX L F_ref17_Great [.imm false (l.map Tr.av)] [] (fun v _ => ∃ b, v = .bool b ∧ (b = false → (l.length : Int) ≤ 30 ∧ ∀ t ∈ l, (t.inp.length : Int) ≤ 40 ∧ (t.out.length : Int) ≤ 40)) := by
  refine go_ref17_Great rfl ?_
  simp
  refine W_iter (fun i : Nat => [(1, .int i)]) (fun _ => []) (fun i => i ≤ l.length ∧ i ≤ 31 ∧ ∀ j : Nat, j < i → ((ix l (j : Int)).inp.length : Int) ≤ 40 ∧ ((ix l (j : Int)).out.length : Int) ≤ 40) (fun i => l.length - i) 0 (by simp [sets]) ⟨by omega, by omega, fun j h => by omega⟩ ?_
  intro i ⟨i0, i1, i2⟩
  by_cases hi : i < l.length ∧ i < 31
  · by_cases hc : 40 < ((ix l (i : Int)).inp.length : Int)
    · simp [hi.1, show (i : Int) < 31 by omega, hc]
    · by_cases hd : 40 < ((ix l (i : Int)).out.length : Int)
      · simp [hi.1, show (i : Int) < 31 by omega, hc, hd]
      · simp [-More_nor, hi.1, show (i : Int) < 31 by omega, hc, hd]
        (repeat' apply And.intro) <;> try omega
        exact More_of (i + 1) (by simp) rfl ⟨by omega, by omega, fun j hj => by
          by_cases e : j = i
          · subst e; omega
          · exact i2 j (by omega)⟩ (by omega)
  · have fin : ((l.length : Int) ≤ 30 → ∀ t ∈ l, (t.inp.length : Int) ≤ 40 ∧ (t.out.length : Int) ≤ 40) := fun h t hm => by
      obtain ⟨j, hj, e⟩ := List.mem_iff_getElem.1 hm
      have := i2 j (by omega)
      rwa [ix_nat hj, e] at this
    by_cases h1 : i < l.length
    · simp [h1, show ¬ (i : Int) < 31 by omega]
      omega
    · simp [h1]
      rcases Int.lt_or_le 30 (l.length : Int) with h | h
      · exact .inr h
      · exact .inl ⟨h, fin h⟩
theorem greatT_s (l : List Tr) (hl : (l.length : Int) ≤ 9223372036854775807) (hw : ∀ t ∈ l, (t.inp.length : Int) ≤ 9223372036854775807 ∧ (t.out.length : Int) ≤ 9223372036854775807) : ∃ b, PC F_ref17_Great [.imm false (l.map Tr.av)] = some (.bool b) ∧ (b = false → (l.length : Int) ≤ 30 ∧ ∀ t ∈ l, (t.inp.length : Int) ≤ 40 ∧ (t.out.length : Int) ≤ 40) := by
  obtain ⟨v, σ', h, e, rfl, h3⟩ := LX_s (greatT_x l hl hw)
  exact ⟨e, by simp only [PC, PCx, h]; rfl, h3⟩
end Ab
namespace Ab
theorem chunk_front : ∀ {ws : List AV} {rest : List AV}, chunk none ws.length (ws ++ rest) = ws
  | [], rest => rfl
  | w :: ws, rest => by
    show chunk none (ws.length + 1) (w :: (ws ++ rest)) = _
    simp [chunk, chunk_front]
theorem reach_snil {σ : List Blk} : ∀ (m : Nat) (acc : List Nat), (List.replicate m AV.snil).foldl (fun acc y => reach σ 11 y acc) acc = acc
  | 0, _ => rfl
  | m + 1, acc => by simp only [List.replicate_succ, List.foldl_cons]; exact reach_snil m acc
/-- A list of words with room left is given away. -/
theorem W_frzR {vars : List AV} {fl : Option (Nat × AV)} {ws : List (List Int)} {m n k : Nat} {Q : Ex → St → Prop} (hm : n = ws.length + m) (hn : nth vars k = .sl 0 n 0 ws.length) (h : Q .nor ⟨setN vars k (.imm true (ws.map iL)), fl, [⟨none, ws.map iL ++ List.replicate m .snil, .dead⟩]⟩) : W L (.frz k) ⟨vars, fl, [⟨none, ws.map iL ++ List.replicate m .snil, .live⟩]⟩ Q := by
  subst hm
  have hu : upto [⟨none, ws.map iL ++ List.replicate m .snil, .live⟩] 0 (ws.length + m) = some (⟨none, ws.map iL ++ List.replicate m .snil, .live⟩) := by
    unfold upto
    simp [blk]
  have hr : reach [⟨none, ws.map iL ++ List.replicate m .snil, .live⟩] vd (.sl 0 (ws.length + m) 0 ws.length) [] = [0] := by
    show reach [⟨none, ws.map iL ++ List.replicate m .snil, .live⟩] (11 + 1) (.sl 0 (ws.length + m) 0 ws.length) [] = [0]
    unfold reach
    simp only [List.contains_nil, Bool.false_eq_true, if_false, blk, List.foldl_append]
    rw [reach_ws ws [0], reach_snil]
  have hv : view [⟨none, ws.map iL ++ List.replicate m .snil, .live⟩] false vd (.sl 0 (ws.length + m) 0 ws.length) = some (iLL ws) := by
    show view _ false (11 + 1) _ = _
    unfold view
    simp only [hu, kst, List.drop_zero, Nat.zero_add, Nat.mul_one]
    rw [if_pos (by simp)]
    have h1 := chunk_front (ws := ws.map iL) (rest := List.replicate m .snil)
    rw [List.length_map] at h1
    rw [h1, mapO_mp (f := iL) (g := iL) (v := view _ false 11) (xs := ws) fun _ _ => rfl]
  have hs : surely [⟨none, ws.map iL ++ List.replicate m .snil, .live⟩] (.sl 0 (ws.length + m) 0 ws.length) = true := by
    simp only [surely, hu]
  refine ⟨0, .nor, _, ?_, h⟩
  simp only [exec, hn, hr]
  have hd : dieIf (fun b => !([0] : List Nat).contains b) 0 [⟨none, ws.map iL ++ List.replicate m .snil, .live⟩] = [⟨none, ws.map iL ++ List.replicate m .snil, .live⟩] := by simp [dieIf]
  rw [hd, hv]
  simp only [hs]
  simp [dieIf]
def Obs.open (o : Obs) (qs : List (List Int)) : List (List Int) := qs.filter fun w => !(o.ans w).2
theorem open_take {o : Obs} {qs : List (List Int)} {i : Nat} (h : i < qs.length) : o.open (qs.take (i + 1)) = o.open (qs.take i) ++ (if (o.ans (ix qs (i : Int))).2 = true then [] else [ix qs (i : Int)]) := by
  unfold Obs.open
  rw [List.take_add_one, List.getElem?_eq_getElem h, ix_nat h, List.filter_append]
  cases e : (o.ans qs[i]).2 <;> simp [List.filter_cons, e]
/-- The error of words. -/
def wordsE (qs : List (List Int)) (k : Int) : Int := firstN (fun i => wordE (ix qs i) k) qs.length
theorem check_s (qs : List (List Int)) (k : Int) (hl : (qs.length : Int) ≤ 1000000) (hw : ∀ w ∈ qs, (w.length : Int) ≤ 9223372036854775807) : PC F_ref20_check [iLL qs, .int k] = some (.int (wordsE qs k)) := by
  refine PCx_of (go_ref20_check rfl ?_)
  unfold wordsE
  simp
  refine W_iter (fun i : Nat => [(2, .int i)]) (fun _ => []) (fun i => i ≤ qs.length ∧ ∀ j : Int, 0 ≤ j → j < i → wordE (ix qs j) k = 0) (fun i => qs.length - i) 0 (by simp [sets]) ⟨by omega, fun j h1 h2 => by omega⟩ ?_
  intro i ⟨i0, i1⟩
  by_cases hi : i < qs.length
  · have hc := rCheck_s (ix qs (i : Int)) k (hw _ (ix_get hi))
    by_cases he : wordE (ix qs (i : Int)) k = 0
    · simp [-More_nor, hi, hc, he]
      (repeat' apply And.intro) <;> try omega
      exact More_of (i + 1) (by simp) rfl ⟨by omega, by
        have := upto_succ (P := fun j => wordE (ix qs j) k = 0) (i := (i : Int)) he i1
        simpa using this⟩ (by omega)
    · have hf := firstN_some (f := fun i => wordE (ix qs i) k) (n := qs.length) (i := (i : Int)) (by omega) (by omega) he i1
      simp [hi, hc, he, hf]
  · have ei : i = qs.length := by omega
    subst ei
    have hf := firstN_none (f := fun i => wordE (ix qs i) k) (n := qs.length) i1
    simp [hf]
abbrev planA (r : List (List Int) × Int) : AV := .tup [iLL r.1, .int r.2]
def Obs.plan (o : Obs) (qs : List (List Int)) : List (List Int) × Int := if wordsE qs o.inputs ≠ 0 then ([], wordsE qs o.inputs) else (maxW (o.open qs), 0)
theorem Plan_s (o : Obs) (ho : o.Ok) (qs : List (List Int)) (hl : (qs.length : Int) ≤ 1000000) (hw : fitW qs) : PC F_batch_Plan [o.av, iLL qs] = some (planA (o.plan qs)) := by
  refine PCx_of (go_batch_Plan rfl ?_)
  unfold Obs.plan wordsE
  simp
  refine W_iter (fun i : Nat => [(2, .int i)]) (fun _ => []) (fun i => i ≤ qs.length ∧ ∀ j : Int, 0 ≤ j → j < i → wordE (ix qs j) o.inputs = 0) (fun i => qs.length - i) 0 (by simp [sets]) ⟨by omega, fun j h1 h2 => by omega⟩ ?_
  intro i ⟨i0, i1⟩
  by_cases hi : i < qs.length
  · have hc := wCheck_s (ix qs (i : Int)) o.inputs (by have := hw _ (ix_get hi); omega)
    by_cases he : wordE (ix qs (i : Int)) o.inputs = 0
    · simp [-More_nor, hi, hc, he]
      (repeat' apply And.intro) <;> try omega
      exact More_of (i + 1) (by simp) rfl ⟨by omega, by
        have := upto_succ (P := fun j => wordE (ix qs j) o.inputs = 0) (i := (i : Int)) he i1
        simpa using this⟩ (by omega)
    · have hf := firstN_some (f := fun i => wordE (ix qs i) o.inputs) (n := qs.length) (i := (i : Int)) (by omega) (by omega) he i1
      simp [hi, hc, he, hf]
  · have ei : i = qs.length := by omega
    subst ei
    have hf := firstN_none (f := fun i => wordE (ix qs i) o.inputs) (n := qs.length) i1
    simp [hf]
    refine ⟨by omega, ?_⟩
    refine W_iter (fun i : Nat => [(8, .int i), (13, .sl 0 qs.length 0 (o.open (qs.take i)).length)]) (fun i => [⟨none, (o.open (qs.take i)).map iL ++ List.replicate (qs.length - (o.open (qs.take i)).length) .snil, .live⟩]) (fun i => i ≤ qs.length) (fun i => qs.length - i) 0 (by simp [sets, Obs.open]) (by omega) ?_
    intro i i0
    have hF2 : (o.open (qs.take i)).length ≤ i := by
      have := List.length_filter_le (fun w => !(o.ans w).2) (qs.take i)
      unfold Obs.open
      simp at this; omega
    by_cases hi : i < qs.length
    · have ha := Answer_s o ho (ix qs (i : Int)) (hw _ (ix_get hi))
      have t1 := open_take (o := o) hi
      generalize o.open (qs.take i) = F at *
      cases ek : (o.ans (ix qs (i : Int))).2 with
      | true =>
        rw [ek] at ha t1
        simp at t1
        simp [-More_nor, -List.map_replicate, hi, ha]
        exact ⟨by omega, More_of (i + 1) (by rw [t1]; simp) (by rw [t1]) (by omega) (by omega)⟩
      | false =>
        rw [ek] at ha t1
        simp at t1
        simp [-More_nor, -List.map_replicate, hi, ha]
        (repeat' apply And.intro) <;> try omega
        refine fun _ => ⟨by omega, by omega, More_of (i + 1) (by rw [t1]; simp) ?_ (by omega) (by omega)⟩
        have hp := putAt_room (a := F.map iL) (n := qs.length - (F.length + 1)) (z := .snil) (x := iL (ix qs (i : Int)))
        rw [List.length_map, show qs.length - (F.length + 1) + 1 = qs.length - F.length by omega] at hp
        rw [hp, t1, List.map_append, List.length_append]; rfl
    · have ei : i = qs.length := by omega
      subst ei
      have t2 : qs.take qs.length = qs := List.take_of_length_le (by simp)
      rw [t2] at hF2 ⊢
      have hmx := Maximal_s (o.open qs) (by omega) (fun w h => hw w (List.mem_filter.1 h).1)
      generalize o.open qs = F at *
      simp [-List.map_replicate]
      refine W_frzR (by omega) rfl ?_
      simp [hmx]
theorem RPlan_s (o : Obs) (ho : o.Ok) (qs : List (List Int)) (hl : (qs.length : Int) ≤ 1000000) (hw : fitW qs) : PC F_ref20_Plan [o.av, iLL qs] = some (planA (o.plan qs)) := by
  refine PCx_of (go_ref20_Plan rfl ?_)
  have hc := check_s qs o.inputs hl (fun w h => by have := hw w h; omega)
  unfold Obs.plan
  by_cases he : wordsE qs o.inputs = 0
  · rw [he] at hc
    simp [hc, he]
    refine W_iter (fun i : Nat => [(4, .int i), (6, .sl 0 (o.open (qs.take i)).length 0 (o.open (qs.take i)).length)]) (fun i => [loutL (o.open (qs.take i))]) (fun i => i ≤ qs.length) (fun i => qs.length - i) 0 (by simp [sets, Obs.open]) (by omega) ?_
    intro i i0
    have hF2 : (o.open (qs.take i)).length ≤ i := by
      have := List.length_filter_le (fun w => !(o.ans w).2) (qs.take i)
      unfold Obs.open
      simp at this; omega
    by_cases hi : i < qs.length
    · have ha := RAnswer_s o ho (ix qs (i : Int)) (hw _ (ix_get hi))
      have t1 := open_take (o := o) hi
      generalize o.open (qs.take i) = F at *
      cases ek : (o.ans (ix qs (i : Int))).2 with
      | true =>
        rw [ek] at ha t1
        simp at t1
        simp [-More_nor, hi, ha]
        exact ⟨by omega, More_of (i + 1) (by rw [t1]; simp) (by rw [t1]) (by omega) (by omega)⟩
      | false =>
        rw [ek] at ha t1
        simp at t1
        simp [-More_nor, hi, ha]
        refine ⟨by split <;> simp, by omega, by omega, More_of (i + 1) (by rw [t1]; simp) (by rw [t1]; simp) (by omega) (by omega)⟩
    · have ei : i = qs.length := by omega
      subst ei
      have t2 : qs.take qs.length = qs := List.take_of_length_le (by simp)
      rw [t2] at hF2 ⊢
      have hmx := RMaximal_s (o.open qs) (by omega) (fun w h => hw w (List.mem_filter.1 h).1)
      generalize o.open qs = F at *
      simp
      refine W_frzL rfl ?_
      simp [hmx]
  · simp [hc, he]
theorem plan_ok {o : Obs} {qs : List (List Int)} (hw : fitW qs) : ((o.plan qs).1.length ≤ qs.length) ∧ ∀ w ∈ (o.plan qs).1, w ∈ qs := by
  unfold Obs.plan
  split
  · simp
  · refine ⟨?_, fun w h => ?_⟩
    · have h1 : (maxW (o.open qs)).length ≤ (o.open qs).length := by
        have h2 : (maxW (o.open qs)).length ≤ (sortU (o.open qs)).length := List.length_filter_le _ _
        have h3 := compW_len (sortG slxC (o.open qs))
        rw [sortG_len] at h3
        have h4 : (sortU (o.open qs)).length ≤ (o.open qs).length := h3
        omega
      have := List.length_filter_le (fun w => !(o.ans w).2) qs
      unfold Obs.open at *
      dsimp only
      omega
    · exact (List.mem_filter.1 (maxW_mem.1 h).1).1
theorem BatchPlans_l (aw : PC F_law20_awake [] = some (.bool true)) (o : Obs) (h : o.fits) (qs : List (List Int)) (hq : okII qs) : PC F_law20_BatchPlans [o.av, iLL qs] = some (.bool true) := by
  refine PCx_of (go_law20_BatchPlans rfl ?_)
  obtain ⟨b, hg, hb⟩ := greatT_s o.traces h.len (fun t ht => ⟨(h.tr t ht).1.1, (h.tr t ht).2.1⟩)
  cases b with
  | true => simp [hg, aw]
  | false =>
    obtain ⟨c, hg2, hc⟩ := rgreat_s qs 30 40 (by omega) (by omega) hq.1 (fun w hm => (hq.2 w hm).1)
    cases c with
    | true => simp [hg, hg2, aw]
    | false =>
      obtain ⟨hb1, hb2⟩ := hb rfl
      obtain ⟨hc1, hc2⟩ := hc rfl
      obtain ⟨e, hv, ho⟩ := Valid_s o h (by omega) (fun t ht => by have := hb2 t ht; omega)
      by_cases he : e = 0
      · subst he
        have hfw : fitW qs := fun w hm => by have := hc2 w hm; omega
        have hP := Plan_s o (ho rfl) qs (by omega) hfw
        have hR := RPlan_s o (ho rfl) qs (by omega) hfw
        obtain ⟨k1, k2⟩ := plan_ok (o := o) hfw
        have hS := rsameW_s (o.plan qs).1 (o.plan qs).1 (by omega) (by omega) (fun w hm => by have := hc2 w (k2 w hm); omega) (fun w hm => by have := hc2 w (k2 w hm); omega)
        simp at hS
        simp [hg, hg2, hv, hP, hR, hS, aw]
      · simp [hg, hg2, hv, he, aw]
end Ab
