/- The law on tours. Condition: none. -/
import Derived.Test.YtbpkebkldaifgaaCovC
set_option linter.all false
set_option maxRecDepth 100000
set_option maxHeartbeats 4000000
namespace Ab
theorem tour_len {m : Mly} : ∀ {k : Nat} {s : Int} {T : List (List Bool)} {out : List Int}, out.length ≤ 1024 → (m.tour k s T out).1.length ≤ 1024
  | 0, s, T, out, h => h
  | k + 1, s, T, out, h => by
    unfold Mly.tour
    split
    · simp
    · split
      · simp
      · exact tour_len (by simp; omega)
theorem tourE_len {m : Mly} : (m.tourE.1.length : Int) ≤ 1000000 := by
  unfold Mly.tourE
  split
  · simp
  · have := tour_len (m := m) (k := (m.places m.start).length * m.inputs.toNat) (s := m.start) (T := m.blank) (out := []) (by simp)
    omega
theorem CoverTours_l (aw : PC F_law10_exampleHolds [] = some (.bool true)) (m : Mly) (h : m.fits) : PC F_law10_CoverTours [m.av] = some (.bool true) := by
  refine PCx_of (go_law10_CoverTours rfl ?_)
  have hl := tourE_len (m := m)
  cases hg : m.great <;> simp [Great_s m h, hg, aw, Tour_s m h, RTour_s m h, Equal_r _ hl]
end Ab
