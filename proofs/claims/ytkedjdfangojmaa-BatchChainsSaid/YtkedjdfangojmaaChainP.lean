/- Schedules: their parts. Condition: none. -/
import Derived.Test.YtkedjdfangojmaaPlan
import Derived.Test.YtkedjdfangojmaaFrom
set_option linter.all false
set_option maxRecDepth 100000
set_option maxHeartbeats 4000000
namespace Ab
/-- A word that leads from a state to another. -/
theorem way_ok {m : Mly} (hm : m.Ok) {s t : Int} (hs : 0 ≤ s ∧ s < (m.next.length : Int)) : ((m.way s t).1.length : Int) ≤ 128 ∧ (∀ x ∈ (m.way s t).1, 0 ≤ x ∧ x < m.inputs) ∧ ((m.way s t).2.1 = true → m.run s (m.way s t).1 = t) ∧ (m.way s t).2.2 = 0 := by
  have hb := places_bf m hm s hs
  have hst := hm.states
  have hle := hb.bq.le
  unfold Mly.way
  split
  · rename_i p hp
    have h1 := List.find?_some hp
    have h2 := List.mem_of_find?_eq_some hp
    obtain ⟨j, hj, e⟩ := List.mem_iff_getElem.1 h2
    have e' : ix (m.places s) (j : Int) = p := by rw [ix_nat hj, e]
    have h3 := hb.run j (by omega) (by omega)
    have h4 := hb.bq.len j (by omega) (by omega)
    rw [e'] at h3 h4
    refine ⟨by dsimp only; omega, h3.2, fun _ => ?_, rfl⟩
    rw [h3.1]; simpa using h1
  · simp
/-- The error of a latency for a machine. -/
def Lat.fitE (l : Lat) (k : Int) : Int := if (l.step.length : Int) ≠ k then 1 else if l.bad = true then 2 else 0
theorem fits1_s (x : Int) : PC F_batch_fits_1 [.int x] = some (.bool (outC x)) := by
  refine PCx_of (go_batch_fits_1 rfl ?_)
  simp [outC]
  exact ⟨fun h => .inl h, fun h1 h2 => by omega⟩
theorem fits_s (m : Mly) (l : Lat) (h : l.fits) : PC F_batch_fits [m.av, l.av] = some (.int (l.fitE m.inputs)) := by
  refine PCx_of (go_batch_fits rfl ?_)
  have hc := ContainsFunc_s l.step F_batch_fits_1 [] outC h.len rfl rfl fun x _ => fits1_s x
  have h1 := fits1_s l.rst
  unfold Lat.fitE
  by_cases h0 : (l.step.length : Int) = m.inputs
  · unfold Lat.bad
    cases e1 : outC l.rst <;> cases e2 : l.step.any outC <;> rw [e1] at h1 <;> rw [e2] at hc <;> simp [hc, h1, h0]
  · simp [h0]
theorem rfits_s (l : Lat) (h : l.fits) (k : Int) : PC F_ref19_Fits [l.av, .int k] = some (.int (l.fitE k)) := by
  refine PCx_of (go_ref19_Fits rfl ?_)
  have hc := rcosts_s l h
  unfold Lat.fitE
  by_cases h0 : (l.step.length : Int) = k
  · cases hb : l.bad <;> rw [hb] at hc <;> simp at hc <;> simp [h0, hc]
  · simp [h0]
theorem steps_s (l : Lat) (hb : l.bad = false) (w : List Int) (hw : okW l w) (hl : (w.length : Int) ≤ 1000000) : PC F_batch_steps [l.av, iL w] = some (.int (l.steps w)) := by
  refine PCx_of (go_batch_steps rfl ?_)
  have hbd := steps_bd hb (w := w) hw
  simp
  refine W_iter (fun i : Nat => [(2, .int i), (5, .int (l.steps (w.take i)))]) (fun _ => []) (fun i => i ≤ w.length) (fun i => w.length - i) 0 (by simp [sets, Lat.steps]) (by omega) ?_
  intro i i0
  have b1 := hbd i i0
  by_cases hi : i < w.length
  · have hx := hw _ (ix_get (l := w) (i := i) hi)
    have hx1 := hx.1
    have hx2 := hx.2
    have b2 := hbd (i + 1) hi
    have e1 := steps_take (l := l) hi
    simp [-More_nor, hi, hx1, hx2]
    (repeat' apply And.intro) <;> try omega
    exact More_of (i + 1) (by simp [e1]) rfl (by omega) (by omega)
  · have ei : i = w.length := by omega
    subst ei
    simp
theorem rsteps_s (l : Lat) (hb : l.bad = false) (w : List Int) (hw : okW l w) (hl : (w.length : Int) ≤ 1000000) : PC F_ref20_steps [l.av, iL w] = some (.int (l.steps w)) := by
  refine PCx_of (go_ref20_steps rfl ?_)
  have hbd := steps_bd hb (w := w) hw
  simp
  refine W_iter (fun i : Nat => [(2, .int i), (3, .int (l.steps (w.take i)))]) (fun _ => []) (fun i => i ≤ w.length) (fun i => w.length - i) 0 (by simp [sets, Lat.steps]) (by omega) ?_
  intro i i0
  have b1 := hbd i i0
  by_cases hi : i < w.length
  · have hx := hw _ (ix_get (l := w) (i := i) hi)
    have hx1 := hx.1
    have hx2 := hx.2
    have b2 := hbd (i + 1) hi
    have e1 := steps_take (l := l) hi
    simp [-More_nor, hi, hx1, hx2]
    (repeat' apply And.intro) <;> try omega
    exact More_of (i + 1) (by simp [e1]) rfl (by omega) (by omega)
  · have ei : i = w.length := by omega
    subst ei
    simp
/-- The outputs and the last state of a run. -/
theorem ROuts_s (m : Mly) (hm : m.Ok) (s : Int) (hs : 0 ≤ s ∧ s < (m.next.length : Int)) (w : List Int) (hl : (w.length : Int) ≤ 1000000) (hw : ∀ x ∈ w, 0 ≤ x ∧ x < m.inputs) : PC F_ref06_Outs [m.av, .int s, iL w] = some (.tup [iL (m.outs s w), .int (m.run s w)]) := by
  refine PCx_of (go_ref06_Outs rfl ?_)
  have hml := hm.len
  simp
  refine W_iter (fun i : Nat => [(1, .int (m.run s (w.take i))), (3, .int i), (4, .sl 0 i 0 i)]) (fun i => [louI (m.outs s (w.take i))]) (fun i => i ≤ w.length) (fun i => w.length - i) 0 (by simp [sets, Mly.run, Mly.outs]) (by omega) ?_
  intro i hi1
  by_cases hi : i < w.length
  · have tk := take_snoc hi
    have hxs : ∀ x ∈ w.take i, 0 ≤ x ∧ x < m.inputs := fun x hx => hw x (List.mem_of_mem_take hx)
    have hr := run_rng hm hs hxs
    have ha := hw _ (ix_mem (l := w) (n := (i : Int)) (by omega) (by omega))
    have ho : (m.outs s (w.take i)).length = i := by rw [outs_len, List.length_take, Nat.min_eq_left (by omega)]
    have e1 : m.run s (w.take (i + 1)) = ix (ix m.next (m.run s (w.take i))) (ix w (i : Int)) := by rw [tk, run_app]; rfl
    have e2 : m.outs s (w.take (i + 1)) = m.outs s (w.take i) ++ [ix (ix m.out (m.run s (w.take i))) (ix w (i : Int))] := by rw [tk, outs_app]; rfl
    generalize m.outs s (w.take i) = O at *
    generalize m.run s (w.take i) = R at *
    have hrow := hm.row R hr.1 hr.2
    simp [-More_nor, hi, ho, hr.1, hr.2, ha.1, ha.2, hrow.1, hrow.2, show R < (m.out.length : Int) by omega]
    refine ⟨by split <;> simp, by omega, by omega, More_of (i + 1) (by simp [e1]) (by rw [e2]; simp) (by omega) (by omega)⟩
  · have ei : i = w.length := by omega
    subst ei
    have hv := vd_louI (σ := [louI (m.outs s w)]) (b := 0) rfl
    rw [outs_len] at hv
    simp [hv]
/-- A move of a schedule. -/
structure Mv where
  rst : Bool
  path : List Int
  word : List Int
  deriving Inhabited
abbrev Mv.av (x : Mv) : AV := .agg [.bool x.rst, iL x.path, iL x.word]
def mc (x : Mv) : List AV := [.bool x.rst, if x.rst = true then .snil else iL x.path, iL x.word]
def mcs (xs : List Mv) : List AV := xs.flatMap mc
theorem mcs_len : ∀ {xs : List Mv}, (mcs xs).length = 3 * xs.length
  | [] => rfl
  | x :: xs => by
    have := mcs_len (xs := xs)
    show (mc x ++ mcs xs).length = _
    rw [List.length_append, this]
    show 3 + _ = _
    simp; omega
theorem mcs_app {xs ys : List Mv} : mcs (xs ++ ys) = mcs xs ++ mcs ys := by simp [mcs]
theorem mcs_one {x : Mv} : mcs [x] = mc x := by simp [mcs]
theorem chunk_mc : ∀ {xs : List Mv}, chunk (some 3) xs.length (mcs xs) = xs.map fun x => .agg (mc x)
  | [] => rfl
  | x :: xs => by
    have e := chunk_mc (xs := xs)
    rw [List.map_cons, ← e]; rfl
def mvB (xs : List Mv) : Blk := ⟨some 3, mcs xs, if xs = [] then .nul else .live⟩
abbrev mvL (xs : List Mv) : AV := .imm false (xs.map Mv.av)
theorem view_mv {σ : List Blk} {b u n : Nat} {xs : List Mv} (h : blk σ b = some (mvB xs)) (hn : n = xs.length) (hu : u = 3 * n) (hr : ∀ x ∈ xs, x.rst = true → x.path = []) : view σ false vd (.sl b u 0 n) = some (mvL xs) := by
  subst hu hn
  have hu : upto σ b (3 * xs.length) = some (mvB xs) := by
    unfold upto
    rw [h]
    by_cases hx : xs = []
    · subst hx; rfl
    · simp [mvB, hx, mcs_len]
  show view σ false (11 + 1) _ = _
  unfold view
  simp only [hu, mvB, kst, mcs_len, List.drop_zero]
  rw [if_pos (by omega), chunk_mc, mapO_mp (g := Mv.av)]
  intro x hx
  have := hr x hx
  unfold mc
  cases e : x.rst with
  | true => simp [this e, e]
  | false => simp [e]
/-- The move for the word after another one. -/
def Mly.mv (m : Mly) (l : Lat) (top : List (List Int)) (i : Nat) : Mv :=
  if i ≠ 0 ∧ (m.way (m.run m.start (ix top ((i : Int) - 1))) m.start).2.1 = true ∧ l.steps (m.way (m.run m.start (ix top ((i : Int) - 1))) m.start).1 < l.rst then ⟨false, (m.way (m.run m.start (ix top ((i : Int) - 1))) m.start).1, ix top (i : Int)⟩ else ⟨true, [], ix top (i : Int)⟩
def Mv.cost (l : Lat) (x : Mv) : Int := (if x.rst = true then l.rst else l.steps x.path) + l.steps x.word
def Mly.mvs (m : Mly) (l : Lat) (top : List (List Int)) : Nat → List Mv
  | 0 => []
  | n + 1 => m.mvs l top n ++ [m.mv l top n]
def Mly.mvt (m : Mly) (l : Lat) (top : List (List Int)) : Nat → Int
  | 0 => 0
  | n + 1 => m.mvt l top n + (m.mv l top n).cost l
theorem mvs_len {m : Mly} {l : Lat} {top : List (List Int)} : ∀ {n : Nat}, (m.mvs l top n).length = n
  | 0 => rfl
  | n + 1 => by simp [Mly.mvs, mvs_len (n := n)]
theorem mv_rst {m : Mly} {l : Lat} {top : List (List Int)} {i : Nat} : (m.mv l top i).rst = true → (m.mv l top i).path = [] := by
  unfold Mly.mv
  split <;> simp
theorem mvs_rst {m : Mly} {l : Lat} {top : List (List Int)} : ∀ {n : Nat}, ∀ x ∈ m.mvs l top n, x.rst = true → x.path = []
  | 0, x, h => by simp [Mly.mvs] at h
  | n + 1, x, h => by
    rcases List.mem_append.1 h with h | h
    · exact mvs_rst x h
    · simp at h; subst h; exact mv_rst
end Ab
