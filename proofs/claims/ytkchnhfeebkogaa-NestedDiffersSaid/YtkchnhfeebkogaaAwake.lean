/- The chapter's examples: a closed run of the interpreter, evaluated in the kernel. Condition: none. -/
import Derived.Test.YtkchnhfeebkogaaIr
set_option linter.all false
namespace Ab
def isTrue : Option (AV × List Blk) → Bool
  | some (.bool true, _) => true
  | _ => false
theorem isTrue_eq : ∀ {x}, isTrue x = true → ∃ σ, x = some (.bool true, σ)
  | some (.bool true, σ), _ => ⟨σ, rfl⟩
set_option maxRecDepth 100000 in
theorem awake0 : isTrue (callN G Q 12 12 zfV6 [] []) = true := by decide +kernel
theorem awake : PCx L zfV6 [] = some (.bool true) := by
  obtain ⟨σ, h⟩ := isTrue_eq awake0
  unfold PCx
  rw [show L zfV6 [] [] = some (.bool true, σ) from zdKY z1GZ (N := 12) h]
  rfl
end Ab
