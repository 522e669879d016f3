/- Equal lists of numbers, by the document. Splits, by the program and by its document; the law. Condition: none. -/
import Derived.Test.YtlgfempnnijfnaaGreatRunR
import Derived.Test.YtlgfempnnijfnaaGreatSepA
import Derived.Test.YtlgfempnnijfnaaGreatSmallM
set_option linter.all false
set_option maxRecDepth 100000
set_option maxHeartbeats 4000000
namespace Ab
theorem EqI_s (a b : List Int) (ha : (a.length : Int) ≤ 1000000) (hb : (b.length : Int) ≤ 1000000) : PC zyDr [iL a, iL b] = some (.bool (decide (a = b))) := by
  refine zx72 (zWmd rfl ?_)
  by_cases hl : a.length = b.length
  · simp [hl]
    refine zv8C (fun i : Int => [(2, .int i)]) (fun _ => []) (fun i => 0 ≤ i ∧ i ≤ b.length ∧ ∀ j, 0 ≤ j → j < i → ix a j = ix b j) (fun i => (b.length - i).toNat) 0 rfl ⟨by omega, by omega, zguy⟩ fun i ⟨i0, i1, i2⟩ => ?_
    by_cases hi : i < a.length
    · have hib : i < (b.length : Int) := by omega
      simp [-zJRc, hl, hib, i0]
      refine ⟨fun h => ⟨by omega, zGkM (i + 1) rfl rfl ⟨by omega, by omega, zvtS h i2⟩ (by omega)⟩, fun h e => ?_⟩
      subst e; exact h rfl
    · have hib : ¬ i < (b.length : Int) := by omega
      have e := zBCK hl fun j j0 j1 => i2 j j0 (by omega)
      simp [hl, hib]
      exact e
  · have hl' : ¬ (a.length : Int) = b.length := by omega
    have he : ¬ a = b := fun e => hl (by rw [e])
    simp [hl', he, hl]
end Ab
namespace Ab
theorem zZKO (m : Mly) (h : m.fits) (hv : m.validE = 0) (s : Int) (hs : 0 ≤ s ∧ s < (m.next.length : Int)) (w : List Int) (hw : wordE w m.inputs = 0) : PC zQBQ [m.av, .int s, iL w] = some (iL (m.outs s w)) := by
  refine zx72 (z7uW rfl ?_)
  have hl := (zFUS hw).1
  have hf := zekg m h s w (by omega)
  rw [zuwl hv hs, if_neg (by simpa using hw)] at hf
  simp [hf]
theorem zQcX (m : Mly) (h : m.fits) (hv : m.validE = 0) (s t : Int) (hs : 0 ≤ s ∧ s < (m.next.length : Int)) (ht : 0 ≤ t ∧ t < (m.next.length : Int)) (w : List Int) (hw : wordE w m.inputs = 0) : PC zHta [m.av, .int s, .int t, iL w] = some (.bool (decide (m.outs s w ≠ m.outs t w))) := by
  refine zx72 (zicv rfl ?_)
  have hl := (zFUS hw).1
  have h1 := zZKO m h hv s hs w hw
  have h2 := zZKO m h hv t ht w hw
  have h3 := EqI_s (m.outs s w) (m.outs t w) (by rw [zj8m]; omega) (by rw [zj8m]; omega)
  simp [h1, h2, h3]
theorem z1Ti (m : Mly) (h : m.fits) (hv : m.validE = 0) (ws : List (List Int)) (s t : Int) (hs : 0 ≤ s ∧ s < (m.next.length : Int)) (ht : 0 ≤ t ∧ t < (m.next.length : Int)) (hn : (ws.length : Int) ≤ 1000000) (hw : ∀ w ∈ ws, wordE w m.inputs = 0) : PC zel3 [m.av, .int s, .int t, iLL ws] = some (.bool (m.sep s t ws)) := by
  refine zx72 (zz61 rfl ?_)
  simp [-zJRc]
  refine zv8C (fun i : Nat => [(4, .int i)]) (fun _ => []) (fun i => i ≤ ws.length ∧ ∀ j : Nat, j < i → m.outs s (ix ws (j : Int)) = m.outs t (ix ws (j : Int))) (fun i => ws.length - i) 0 (by simp [sets]) ⟨by omega, fun j hj => by omega⟩ ?_
  rintro i ⟨hi1, hi2⟩
  by_cases hi : i < ws.length
  · have hmem := zmAQ (l := ws) (n := (i : Int)) (by omega) (by omega)
    have hc := zQcX m h hv s t hs ht (ix ws (i : Int)) (hw _ hmem)
    by_cases he : m.outs s (ix ws (i : Int)) = m.outs t (ix ws (i : Int))
    · have he' : decide (m.outs s (ix ws (i : Int)) ≠ m.outs t (ix ws (i : Int))) = false := by simpa using he
      rw [he'] at hc
      simp [-zJRc, hi, hc]
      refine ⟨by omega, zGkM (i + 1) (by simp) rfl ⟨by omega, fun j hj => ?_⟩ (by omega)⟩
      by_cases e : j = i
      · subst e; exact he
      · exact hi2 j (by omega)
    · have he' : decide (m.outs s (ix ws (i : Int)) ≠ m.outs t (ix ws (i : Int))) = true := by simpa using he
      rw [he'] at hc
      have : m.sep s t ws = true := sep_t.2 ⟨_, hmem, he⟩
      simp [-zJRc, hi, hc, this]
  · have : m.sep s t ws = false := by
      unfold Mly.sep
      refine zrhn fun w hw => ?_
      obtain ⟨j, hj, rfl⟩ := List.mem_iff_getElem.1 hw
      have := hi2 j (by omega)
      rw [zrZW hj] at this
      simpa using this
    simp [-zJRc, hi, this]
def wsE (ws : List (List Int)) (k : Int) : Int := firstN (fun i => wordE (ix ws i) k) ws.length
def Mly.splE (m : Mly) (ws : List (List Int)) : Int := if m.validE ≠ 0 then m.validE else wsE ws m.inputs
def Mly.spl (m : Mly) (ws : List (List Int)) : Bool := (List.range m.next.length).all fun (y : Nat) => (List.range y).all fun (x : Nat) => m.sep (x : Int) (y : Int) ws
def Mly.splB (m : Mly) (ws : List (List Int)) : Bool := decide (m.splE ws = 0) && m.spl ws
theorem spl_t {m : Mly} {ws : List (List Int)} : m.spl ws = true ↔ ∀ x y : Nat, x < y → y < m.next.length → m.sep (x : Int) (y : Int) ws = true := by
  unfold Mly.spl
  simp only [List.all_eq_true, List.mem_range]
  exact ⟨fun h x y hxy hy => h y hy x hxy, fun h y hy x hxy => h x y hxy hy⟩
theorem spl_f {m : Mly} {ws : List (List Int)} {x y : Nat} (hxy : x < y) (hy : y < m.next.length) (h : m.sep (x : Int) (y : Int) ws = false) : m.spl ws = false := by
  rw [Bool.eq_false_iff]
  intro hc
  have := spl_t.1 hc x y hxy hy
  rw [h] at this; simp at this
theorem z7j6 {ws : List (List Int)} {k : Int} (h : wsE ws k = 0) : ∀ w ∈ ws, wordE w k = 0 := fun w hw => by
  obtain ⟨j, hj, rfl⟩ := List.mem_iff_getElem.1 hw
  have := zdWJ.1 h (j : Int) (by omega) (by omega)
  rwa [zrZW hj] at this
theorem zde0 {ws : List (List Int)} {k : Int} (h : ∀ w ∈ ws, wordE w k = 0) : wsE ws k = 0 := zs2N fun j j0 j1 => h _ (zmAQ j0 j1)
theorem zyeu (m : Mly) (h : m.fits) (ws : List (List Int)) (hl : (ws.length : Int) ≤ 1000000) (hw : ∀ w ∈ ws, (w.length : Int) ≤ 9223372036854775807) : PC zn2q [m.av, iLL ws] = some (.tup [.bool (m.splB ws), .int (m.splE ws)]) := by
  refine zx72 (zlLk rfl ?_)
  have hv := zo3u m h
  by_cases h0 : m.validE = 0
  case neg =>
    have e1 : m.splE ws = m.validE := by unfold Mly.splE; rw [if_pos h0]
    have e2 : m.splB ws = false := by unfold Mly.splB; rw [e1]; simp [h0]
    rw [e1, e2]
    simp [hv, h0]
  have hm := zaDP h0
  have e1 : m.splE ws = wsE ws m.inputs := by unfold Mly.splE; rw [if_neg (by simpa using h0)]
  rw [h0] at hv
  simp [-zJRc, hv]
  refine zv8C (fun i : Int => [(4, .int i)]) (fun _ => []) (fun i => 0 ≤ i ∧ i ≤ ws.length ∧ ∀ j, 0 ≤ j → j < i → wordE (ix ws j) m.inputs = 0) (fun i => (ws.length - i).toNat) 0 rfl ⟨by omega, by omega, zguy⟩ fun i ⟨i0, i1, i2⟩ => ?_
  by_cases hi : i < ws.length
  · have hc := zJ4o (ix ws i) m.inputs (hw _ (zmAQ i0 hi))
    by_cases he : wordE (ix ws i) m.inputs = 0
    · simp [-zJRc, hi, i0, hc, he]
      exact ⟨by omega, zGkM (i + 1) rfl rfl ⟨by omega, by omega, zvtS he i2⟩ (by omega)⟩
    · have e3 : wsE ws m.inputs = wordE (ix ws i) m.inputs := zUdY (f := fun i => wordE (ix ws i) m.inputs) i0 hi he i2
      have e2 : m.splB ws = false := by unfold Mly.splB; rw [e1, e3]; simp [he]
      rw [e1, e3, e2]
      simp [-zJRc, hi, i0, hc, he]
  · have ew : wsE ws m.inputs = 0 := zs2N fun j j0 j1 => i2 j j0 (by omega)
    have hE := z7j6 ew
    rw [ew] at e1
    have e2 : m.splB ws = m.spl ws := by unfold Mly.splB; rw [e1]; simp
    rw [e1, e2]
    simp [-zJRc, hi]
    refine zv8C (fun i : Nat => [(9, .int i)]) (fun _ => []) (fun i => i ≤ m.next.length ∧ ∀ x y : Nat, x < y → y < m.next.length → x < i → m.sep (x : Int) (y : Int) ws = true) (fun i => m.next.length - i) 0 (by simp [sets]) ⟨by omega, fun x y _ _ hx => by omega⟩ ?_
    rintro i ⟨i1, i2⟩
    have hst := hm.states
    by_cases hi : i < m.next.length
    · simp [-zJRc, hi]
      refine ⟨by omega, ?_⟩
      refine zv8C (fun t : Nat => [(12, .int t)]) (fun _ => []) (fun t => i + 1 ≤ t ∧ t ≤ m.next.length ∧ ∀ y : Nat, i < y → y < t → m.sep (i : Int) (y : Int) ws = true) (fun t => m.next.length - t) (i + 1) (by simp [sets]) ⟨by omega, by omega, fun y _ hy => by omega⟩ ?_
      rintro t ⟨t1, t2, t3⟩
      by_cases ht : t < m.next.length
      · have hs := zDqu m hm ws (i : Int) (t : Int) ⟨by omega, by omega⟩ ⟨by omega, by omega⟩ hl (fun w hw => by have := (zFUS (hE w hw)).1; omega) (fun w hw => (zFUS (hE w hw)).2)
        cases hb : m.sep (i : Int) (t : Int) ws with
        | true =>
          rw [hb] at hs
          simp [-zJRc, ht, hs]
          refine ⟨by omega, zGkM (t + 1) (by simp) rfl ⟨by omega, by omega, fun y y1 y2 => ?_⟩ (by omega)⟩
          by_cases e : y = t
          · subst e; exact hb
          · exact t3 y y1 (by omega)
        | false =>
          rw [hb] at hs
          have := spl_f (x := i) (y := t) (by omega) ht hb
          simp [-zJRc, ht, hs, this]
      · simp [-zJRc, ht]
        refine ⟨by omega, zGkM (i + 1) (by simp) rfl ⟨by omega, fun x y hxy hy hx => ?_⟩ (by omega)⟩
        by_cases e : x = i
        · subst e; exact t3 y hxy (by omega)
        · exact i2 x y hxy hy (by omega)
    · have : m.spl ws = true := spl_t.2 fun x y hxy hy => i2 x y hxy hy (by omega)
      simp [-zJRc, hi, this]
theorem zrnz {m : Mly} (h : m.small = true) : m.next.length ≤ 8 ∧ m.inputs ≤ 4 := by
  unfold Mly.small at h
  simp only [Bool.and_eq_true, decide_eq_true_eq] at h
  exact ⟨by omega, by omega⟩
end Ab
