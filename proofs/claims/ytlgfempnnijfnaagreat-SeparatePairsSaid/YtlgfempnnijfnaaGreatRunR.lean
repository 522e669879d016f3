/- Equality of lists, of machines. Runs of a machine by the document; equality of lists. Condition: none. -/
import Derived.Test.YtlgfempnnijfnaaGreatGbf
import Derived.Test.YtlgfempnnijfnaaGreatMnlT
set_option linter.all false
set_option maxRecDepth 100000
set_option maxHeartbeats 4000000
namespace Ab
theorem zBCK {a b : List Int} (hl : a.length = b.length) (h : ∀ j, 0 ≤ j → j < (a.length : Int) → ix a j = ix b j) : a = b := by
  apply List.ext_getElem hl
  intro i h1 h2
  have := h i (by omega) (by omega)
  rwa [zrZW h1, zrZW h2] at this
structure Mly.Lil (m : Mly) : Prop where
  nl : (m.next.length : Int) ≤ 1000000
  ol : (m.out.length : Int) ≤ 1000000
  nr : ∀ r ∈ m.next, (r.length : Int) ≤ 1000000
  or : ∀ r ∈ m.out, (r.length : Int) ≤ 1000000
end Ab
namespace Ab
theorem SEq_s (a b : List Int) (ha : (a.length : Int) ≤ 1000000) (hb : (b.length : Int) ≤ 9223372036854775807) : PC zhAi [iL a, iL b] = some (.bool (decide (a = b))) := by
  refine zx72 (z5jk rfl ?_)
  by_cases hl : a.length = b.length
  · simp [hl]
    refine zv8C (fun i : Int => [(2, .int i)]) (fun _ => []) (fun i => 0 ≤ i ∧ i ≤ b.length ∧ ∀ j, 0 ≤ j → j < i → ix a j = ix b j) (fun i => (b.length - i).toNat) 0 rfl ⟨by omega, by omega, zguy⟩ fun i ⟨i0, i1, i2⟩ => ?_
    by_cases hi : i < a.length
    · have hib : i < (b.length : Int) := by omega
      simp [-zJRc, hl, hib, i0]
      refine ⟨fun h => ⟨by omega, zGkM (i + 1) rfl rfl ⟨by omega, by omega, zvtS h i2⟩ (by omega)⟩, fun h e => ?_⟩
      subst e; exact h rfl
    · have hib : ¬ i < (b.length : Int) := by omega
      have e := zBCK hl fun j j0 j1 => i2 j j0 (by omega)
      simp [hl, hib]
      exact e
  · have hl' : ¬ (a.length : Int) = b.length := by omega
    have he : ¬ a = b := fun e => hl (by rw [e])
    simp [hl', he, hl]
theorem z1nI (m : Mly) (hm : m.Ok) (s : Int) (hs : 0 ≤ s ∧ s < (m.next.length : Int)) (w : List Int) (hl : (w.length : Int) ≤ 1000000) (hw : ∀ x ∈ w, 0 ≤ x ∧ x < m.inputs) : PC zzjE [m.av, .int s, iL w] = some (.tup [iL (m.outs s w), .int (m.run s w)]) := by
  refine zx72 (zd0d rfl ?_)
  simp
  refine zv8C (fun i : Nat => [(1, .int (m.run s (w.take i))), (3, .int i), (4, .sl 0 i 0 i)]) (fun i => [louI (m.outs s (w.take i))]) (fun i => i ≤ w.length) (fun i => w.length - i) 0 (by simp [sets, Mly.run, Mly.outs]) (by omega) ?_
  intro i hi1
  have hml := hm.len
  by_cases hi : i < w.length
  · have tk := zyXT hi
    have hxs : ∀ x ∈ w.take i, 0 ≤ x ∧ x < m.inputs := fun x hx => hw x (List.mem_of_mem_take hx)
    have hr := zwd6 hm hs hxs
    have ha := hw _ (zmAQ (l := w) (n := (i : Int)) (by omega) (by omega))
    have ho : (m.outs s (w.take i)).length = i := by rw [zj8m, List.length_take, Nat.min_eq_left (by omega)]
    have e1 : m.run s (w.take (i + 1)) = ix (ix m.next (m.run s (w.take i))) (ix w (i : Int)) := by rw [tk, zuwq]; rfl
    have e2 : m.outs s (w.take (i + 1)) = m.outs s (w.take i) ++ [ix (ix m.out (m.run s (w.take i))) (ix w (i : Int))] := by rw [tk, zcni]; rfl
    generalize m.outs s (w.take i) = O at *
    generalize m.run s (w.take i) = R at *
    have hrow := hm.row R hr.1 hr.2
    have hro : R < (m.out.length : Int) := by omega
    simp [-zJRc, hi, hr.1, hr.2, hro, ha.1, ha.2, hrow.1, hrow.2, ho]
    refine ⟨by split <;> simp, by omega, by omega, zGkM (i + 1) (by simp [e1]) (by rw [e2]; simp) (by omega) (by omega)⟩
  · have ei : i = w.length := by omega
    subst ei
    have hv7 := zX4P (σ := [louI (m.outs s w)]) (b := 0) (out := m.outs s w) rfl
    rw [zj8m] at hv7
    simp [hv7]
theorem zekg (m : Mly) (h : m.fits) (s : Int) (w : List Int) (hl : (w.length : Int) ≤ 9223372036854775807) : PC zMrO [m.av, .int s, iL w] = some (fromA (m.from s w)) := by
  refine zx72 (z0Pb rfl ?_)
  have e2 := zcuG w m.inputs hl
  by_cases hv : m.validE = 0
  · have hm := zaDP hv
    by_cases hs : s < 0 ∨ (m.next.length : Int) ≤ s
    · have hf : m.from s w = ([], 0, 2) := by unfold Mly.from; rw [if_neg (by simpa using hv), if_pos hs]
      rw [hf]
      by_cases h0 : s < 0
      · simp [zrVN m h, hv, h0]
      · have h1 : (m.next.length : Int) ≤ s := by omega
        simp [zrVN m h, hv, h0, h1]
    · have h0 : ¬ s < 0 := by omega
      have h1 : ¬ (m.next.length : Int) ≤ s := by omega
      by_cases hw : wordE w m.inputs = 0
      · have hf : m.from s w = (m.outs s w, m.run s w, 0) := by unfold Mly.from; rw [if_neg (by simpa using hv), if_neg hs, if_neg (by simpa using hw)]
        rw [hf]
        have hw2 := zFUS hw
        have e3 := z1nI m hm s (by omega) w (by omega) hw2.2
        simp [zrVN m h, hv, h0, h1, e2, hw, e3]
      · have hf : m.from s w = ([], 0, wordE w m.inputs) := by unfold Mly.from; rw [if_neg (by simpa using hv), if_neg hs, if_pos hw]
        rw [hf]
        simp [zrVN m h, hv, h0, h1, e2, hw]
  · have hf : m.from s w = ([], 0, m.validE) := by unfold Mly.from; rw [if_pos hv]
    rw [hf]
    simp [zrVN m h, hv]
end Ab
