/- The law on changed machines. Condition: none. -/
import Derived.Test.YtchamabaodnjkaaMutG
import Derived.Test.YtchamabaodnjkaaInts
import Derived.Test.YtchamabaodnjkaaGreatM
set_option linter.all false
set_option maxRecDepth 100000
set_option maxHeartbeats 4000000
namespace Ab
theorem Ok.rowsN {m : Mly} (hm : m.Ok) : (∀ r ∈ m.next, (r.length : Int) ≤ 64) ∧ ∀ r ∈ m.out, (r.length : Int) ≤ 64 := by
  have hin := hm.inputs
  have hml := hm.len
  refine ⟨fun r hr => ?_, fun r hr => ?_⟩
  · obtain ⟨j, hj, e⟩ := List.mem_iff_getElem.1 hr
    have := (hm.row j (by omega) (by omega)).1
    rw [ix_nat hj, e] at this; omega
  · obtain ⟨j, hj, e⟩ := List.mem_iff_getElem.1 hr
    have := (hm.row j (by omega) (by omega)).2
    rw [ix_nat (by omega), e] at this; omega
theorem chg_lil {m : Mly} (hm : m.Ok) {x : Mut} (hx : x.Fits m) : (m.chg x).Lil := by
  have hin := hm.inputs
  have hml := hm.len
  have hst := hm.states
  obtain ⟨r1, r2⟩ := Ok.rowsN hm
  have hset : ∀ (l : List (List Int)) (s a v : Int), (∀ r ∈ l, (r.length : Int) ≤ 64) → 0 ≤ s → s < l.length → ∀ r ∈ setLL l s a v, (r.length : Int) ≤ 1000000 := fun l s a v hl s0 s1 r hr => by
    unfold setLL at hr
    rcases List.mem_or_eq_of_mem_set hr with h | h
    · have := hl r h; omega
    · rw [h, List.length_set]
      have := hl _ (ix_mem s0 s1); omega
  have hs := hx.st
  have ht := hm.nx x.st x.inp hs.1 hs.2 hx.inp.1 hx.inp.2
  have n1 := hset m.next x.st x.inp x.val r1 hs.1 hs.2
  have n3 := hset m.next x.st x.inp m.next.length r1 hs.1 hs.2
  have o1 := hset m.out x.st x.inp x.val r2 hs.1 (by omega)
  have b1 : ∀ r ∈ m.next, (r.length : Int) ≤ 1000000 := fun r hr => by have := r1 r hr; omega
  have b2 : ∀ r ∈ m.out, (r.length : Int) ≤ 1000000 := fun r hr => by have := r2 r hr; omega
  unfold Mly.chg
  split
  · exact ⟨by dsimp only; omega, by simp [setLL]; omega, b1, o1⟩
  split
  · exact ⟨by simp [setLL]; omega, by dsimp only; omega, n1, b2⟩
  · refine ⟨by simp [setLL]; omega, by simp; omega, fun r hr => ?_, fun r hr => ?_⟩
    · rcases List.mem_append.1 hr with h | h
      · exact n3 r h
      · simp at h; rw [h]; exact b1 _ (ix_mem ht.1 ht.2)
    · rcases List.mem_append.1 hr with h | h
      · exact b2 r h
      · simp at h; rw [h, List.length_set]; exact b2 _ (ix_mem ht.1 (by omega))
theorem apply_lil (m : Mly) (x : Mut) : (m.apply x).1.Lil := by
  have hz : (Mly.mk 0 0 [] []).Lil := ⟨by simp, by simp, by simp, by simp⟩
  unfold Mly.apply
  split
  · exact hz
  split
  · exact hz
  split
  · exact hz
  · rename_i h1 h2 _
    exact chg_lil (mvalidE_ok (by simpa using h1)) (by simpa using h2)
theorem MutantApplies_l (aw : PC F_law33_exampleHolds [] = some (.bool true)) (m : Mly) (h : m.fits) (x : Mut) : PC F_law33_MutantApplies [m.av, x.av] = some (.bool true) := by
  refine PCx_of (go_law33_MutantApplies rfl ?_)
  have hl := Same06_r _ (apply_lil m x)
  cases hg : m.great <;> simp [Great_s m h, hg, aw, Apply_s m h x, RApply_s m h x, hl]
end Ab
namespace Ab
abbrev tyMut : Ty := .st [.int, .int, .int, .int, .int]
theorem has_Mut {x : AV} (h : tyMut.has x) : ∃ m : Mut, x = m.av := by
  obtain ⟨xs, rfl, h⟩ := h
  simp only [Ty.hasL] at h
  obtain ⟨x0, s0, rfl, h0, x1, s1, rfl, h1, x2, s2, rfl, h2, x3, s3, rfl, h3, x4, s4, rfl, h4, rfl⟩ := h
  obtain ⟨a0, rfl, k0⟩ := has_int h0
  obtain ⟨a1, rfl, k1⟩ := has_int h1
  obtain ⟨a2, rfl, k2⟩ := has_int h2
  obtain ⟨a3, rfl, k3⟩ := has_int h3
  obtain ⟨a4, rfl, k4⟩ := has_int h4
  exact ⟨⟨a0, a1, a2, a3, a4⟩, rfl⟩
end Ab
