/- The chapter's examples: a closed run of the interpreter, evaluated in the kernel. Condition: none. -/
import Derived.Test.YtmmkhoncblnicaaIr
set_option linter.all false
namespace Ab
def isTrue : Option (AV × List Blk) → Bool
  | some (.bool true, _) => true
  | _ => false
theorem isTrue_eq : ∀ {x}, isTrue x = true → ∃ σ, x = some (.bool true, σ)
  | some (.bool true, σ), _ => ⟨σ, rfl⟩
set_option maxRecDepth 100000 in
theorem awake0 : isTrue (callN G Q 16 16 F_law49_exampleHolds [] []) = true := by decide +kernel
theorem awake : PCx L F_law49_exampleHolds [] = some (.bool true) := by
  obtain ⟨σ, h⟩ := isTrue_eq awake0
  unfold PCx
  rw [show L F_law49_exampleHolds [] [] = some (.bool true, σ) from lim_of Q_mono (N := 16) h]
  rfl
end Ab
