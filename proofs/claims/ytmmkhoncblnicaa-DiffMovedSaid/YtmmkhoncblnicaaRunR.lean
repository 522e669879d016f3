/- Runs of a machine by the document; equality of lists. Condition: none. -/
import Derived.Test.YtmmkhoncblnicaaFrom
import Derived.Test.YtmmkhoncblnicaaInts
set_option linter.all false
set_option maxRecDepth 100000
set_option maxHeartbeats 4000000
namespace Ab
theorem MRun_s (m : Mly) (h : m.fits) (w : List Int) (hl : (w.length : Int) ≤ 9223372036854775807) : PC F_mealy_Run [m.av, iL w] = some (.tup [iL (m.from m.start w).1, .int (m.from m.start w).2.2]) := by
  refine PCx_of (go_mealy_Run rfl ?_)
  simp [From_s m h m.start w hl]
theorem from_len (m : Mly) (s : Int) (w : List Int) : ((m.from s w).1.length : Int) ≤ 1024 := by
  unfold Mly.from
  split
  · simp
  split
  · simp
  split
  · simp
  · rename_i h1 h2 h3
    have := (wordE_ok (w := w) (k := m.inputs) (by simpa using h3)).1
    dsimp only
    rw [outs_len]; exact this
end Ab
