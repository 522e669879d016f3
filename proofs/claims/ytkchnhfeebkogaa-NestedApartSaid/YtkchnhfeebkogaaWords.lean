/- Functions on words that many layers use. Condition: none. -/
import Derived.Test.YtkchnhfeebkogaaN43Run
set_option linter.all false
set_option maxRecDepth 100000
set_option maxHeartbeats 4000000
namespace Ab
def wB (p : Bool × List Int) : AV := if p.1 = true ∧ p.2 = [] then .snil else iL p.2
theorem zwdp {α : Type} {f g : α → AV} {v : AV → Option AV} : ∀ {xs : List α}, (∀ x ∈ xs, v (f x) = some (g x)) → mapO v (xs.map f) = some (xs.map g)
  | [], _ => rfl
  | x :: xs, h => by
    have e := zwdp (f := f) (g := g) (v := v) (xs := xs) fun y hy => h y (by simp [hy])
    simp only [List.map_cons, mapO, h x (by simp), e]
end Ab
