/- Access words and transition covers. separate and its document: the small functions, Splits. Condition: none. -/
import Derived.Test.YtlgfempnnijfnaaGreatTrimW
import Derived.Test.YtlgfempnnijfnaaGreatHomB
import Derived.Test.YtlgfempnnijfnaaGreatMnlT
import Derived.Test.YtlgfempnnijfnaaGreatSepT
import Derived.Test.YtlgfempnnijfnaaGreatRMinC
import Derived.Test.YtlgfempnnijfnaaGreatRunR
set_option linter.all false
set_option maxRecDepth 100000
set_option maxHeartbeats 4000000
namespace Ab
def Mly.acc (m : Mly) : List Int × List (List Int) × Int := if m.validE ≠ 0 then ([], [], m.validE) else ((m.places m.start).map (·.1), (m.places m.start).map (·.2), 0)
end Ab
namespace Ab
theorem zeP2 (m : Mly) (h : m.fits) : PC zSMD [m.av] = some (.int (m.mchk m.mnlb)) := by
  refine zx72 (zbTq rfl ?_)
  have hv := zo3u m h
  have hm := zylc m h
  unfold Mly.mchk
  by_cases h0 : m.validE = 0
  · rw [h0] at hv
    cases hb : m.mnlb with
    | false => rw [hb] at hm; simp [hv, hm, h0]
    | true => rw [hb] at hm; simp [hv, hm, h0]
  · simp [hv, h0]
theorem zrRV {a : List AV} {n : Nat} {z x : AV} : putAt (a ++ List.replicate (n + 1) z) a.length [x] = (a ++ [x]) ++ List.replicate n z := by
  simp only [putAt, List.replicate_succ]
  simp
theorem zkvM {a : List Int} {n k : Nat} {x : Int} (hk : k = a.length) : putAt (a.map AV.int ++ List.replicate (n + 1) (.int 0)) k [.int x] = (a ++ [x]).map AV.int ++ List.replicate n (.int 0) := by
  have := zrRV (a := a.map AV.int) (n := n) (z := .int 0) (x := .int x)
  rw [List.length_map] at this
  rw [hk, this, List.map_append]; rfl
theorem z8Rb (m : Mly) (hm : m.Ok) (s : Int) (hs : 0 ≤ s ∧ s < (m.next.length : Int)) (w : List Int) (hl : (w.length : Int) ≤ 1000000) (hw : ∀ x ∈ w, 0 ≤ x ∧ x < m.inputs) : PC zvbW [m.av, .int s, iL w] = some (iL (m.outs s w)) := by
  refine zx72 (zDQF rfl ?_)
  simp [-List.map_replicate]
  refine ⟨by omega, ?_⟩
  refine zv8C (fun i : Nat => [(1, .int (m.run s (w.take i))), (3, .int i), (6, .sl 0 w.length 0 i)]) (fun i => [⟨none, (m.outs s (w.take i)).map .int ++ List.replicate (w.length - i) (.int 0), .live⟩]) (fun i => i ≤ w.length) (fun i => w.length - i) 0 (by simp [sets, Mly.run, Mly.outs]) (by omega) ?_
  intro i hi1
  have hml := hm.len
  by_cases hi : i < w.length
  · have tk := zyXT hi
    have hxs : ∀ x ∈ w.take i, 0 ≤ x ∧ x < m.inputs := fun x hx => hw x (List.mem_of_mem_take hx)
    have hr := zwd6 hm hs hxs
    have ha := hw _ (zmAQ (l := w) (n := (i : Int)) (by omega) (by omega))
    have ho : (m.outs s (w.take i)).length = i := by rw [zj8m, List.length_take, Nat.min_eq_left (by omega)]
    have e1 : m.run s (w.take (i + 1)) = ix (ix m.next (m.run s (w.take i))) (ix w (i : Int)) := by rw [tk, zuwq]; rfl
    have e2 : m.outs s (w.take (i + 1)) = m.outs s (w.take i) ++ [ix (ix m.out (m.run s (w.take i))) (ix w (i : Int))] := by rw [tk, zcni]; rfl
    have e3 := zkvM (a := m.outs s (w.take i)) (n := w.length - (i + 1)) (x := ix (ix m.out (m.run s (w.take i))) (ix w (i : Int))) ho.symm
    rw [show w.length - (i + 1) + 1 = w.length - i by omega, ← e2] at e3
    have hlen : ((m.outs s (w.take i)).map AV.int ++ List.replicate (w.length - i) (AV.int 0)).length = w.length := by simp [ho]; omega
    generalize hX : (m.outs s (w.take i)).map AV.int ++ List.replicate (w.length - i) (AV.int 0) = X at *
    generalize m.run s (w.take i) = R at *
    have hrow := hm.row R hr.1 hr.2
    have hro : R < (m.out.length : Int) := by omega
    have hiw : (w.length = i) = False := eq_false (by omega)
    have hiw' : (i = w.length) = False := eq_false (by omega)
    simp [-zJRc, hi, hr.1, hr.2, hro, ha.1, ha.2, hrow.1, hrow.2, hlen, hiw, hiw']
    exact ⟨by omega, by omega, by omega, zGkM (i + 1) (by simp [e1]) (by rw [e3]) (by omega) (by omega)⟩
  · have ei : i = w.length := by omega
    subst ei
    have hv7 := vd_iL (σ := [⟨none, (m.outs s w).map .int, .live⟩]) (fr := false) (b := 0) (xs := m.outs s w) (n := w.length) (st := .live) rfl (by simp [zj8m]) (by rw [zj8m])
    simp [hv7]
theorem zvxl (m : Mly) (hm : m.Ok) (s t : Int) (hs : 0 ≤ s ∧ s < (m.next.length : Int)) (ht : 0 ≤ t ∧ t < (m.next.length : Int)) (w : List Int) (hl : (w.length : Int) ≤ 1000000) (hw : ∀ x ∈ w, 0 ≤ x ∧ x < m.inputs) : PC zYpD [iL w, .pimm m.av, .pimm (.int s), .pimm (.int t)] = some (.bool (decide (m.outs s w ≠ m.outs t w))) := by
  refine zx72 (zdZN rfl ?_)
  have h1 := z8Rb m hm s hs w hl hw
  have h2 := z8Rb m hm t ht w hl hw
  have h3 := SEq_s (m.outs s w) (m.outs t w) (by rw [zj8m]; exact hl) (by rw [zj8m]; omega)
  simp [h1, h2, h3]
theorem zrhn {α : Type} {p : α → Bool} {l : List α} (h : ∀ x ∈ l, p x = false) : l.any p = false := by
  rw [List.any_eq_false]
  intro x hx; simp [h x hx]
theorem zX1V (m : Mly) (hm : m.Ok) (ws : List (List Int)) (s t : Int) (hs : 0 ≤ s ∧ s < (m.next.length : Int)) (ht : 0 ≤ t ∧ t < (m.next.length : Int)) (hn : (ws.length : Int) ≤ 1000000) (hl : ∀ w ∈ ws, (w.length : Int) ≤ 1000000) (hw : ∀ w ∈ ws, ∀ x ∈ w, 0 ≤ x ∧ x < m.inputs) : PC zGnf [iLL ws, .func zYpD [.pimm m.av, .pimm (.int s), .pimm (.int t)]] = some (.bool (m.sep s t ws)) := by
  refine zx72 (zILN rfl ?_)
  simp [-zJRc]
  refine zv8C (fun i : Nat => [(2, .int i)]) (fun _ => []) (fun i => i ≤ ws.length ∧ ∀ j : Nat, j < i → m.outs s (ix ws (j : Int)) = m.outs t (ix ws (j : Int))) (fun i => ws.length - i) 0 (by simp [sets]) ⟨by omega, fun j hj => by omega⟩ ?_
  rintro i ⟨hi1, hi2⟩
  by_cases hi : i < ws.length
  · have hmem := zmAQ (l := ws) (n := (i : Int)) (by omega) (by omega)
    have hc := zvxl m hm s t hs ht (ix ws (i : Int)) (hl _ hmem) (hw _ hmem)
    by_cases he : m.outs s (ix ws (i : Int)) = m.outs t (ix ws (i : Int))
    · have he' : decide (m.outs s (ix ws (i : Int)) ≠ m.outs t (ix ws (i : Int))) = false := by simpa using he
      rw [he'] at hc
      simp [-zJRc, hi, hc]
      refine ⟨by omega, zGkM (i + 1) (by simp) rfl ⟨by omega, fun j hj => ?_⟩ (by omega)⟩
      by_cases e : j = i
      · subst e; exact he
      · exact hi2 j (by omega)
    · have he' : decide (m.outs s (ix ws (i : Int)) ≠ m.outs t (ix ws (i : Int))) = true := by simpa using he
      rw [he'] at hc
      have : m.sep s t ws = true := sep_t.2 ⟨_, hmem, he⟩
      simp [-zJRc, hi, hc, this]
  · have : m.sep s t ws = false := by
      unfold Mly.sep
      refine zrhn fun w hw => ?_
      obtain ⟨j, hj, rfl⟩ := List.mem_iff_getElem.1 hw
      have := hi2 j (by omega)
      rw [zrZW hj] at this
      simpa using this
    simp [-zJRc, hi, this]
theorem zDqu (m : Mly) (hm : m.Ok) (ws : List (List Int)) (s t : Int) (hs : 0 ≤ s ∧ s < (m.next.length : Int)) (ht : 0 ≤ t ∧ t < (m.next.length : Int)) (hn : (ws.length : Int) ≤ 1000000) (hl : ∀ w ∈ ws, (w.length : Int) ≤ 1000000) (hw : ∀ w ∈ ws, ∀ x ∈ w, 0 ≤ x ∧ x < m.inputs) : PC z5pz [m.av, iLL ws, .int s, .int t] = some (.bool (m.sep s t ws)) := by
  refine zx72 (zTKn rfl ?_)
  have h := zX1V m hm ws s t hs ht hn hl hw
  simp [h]
end Ab
