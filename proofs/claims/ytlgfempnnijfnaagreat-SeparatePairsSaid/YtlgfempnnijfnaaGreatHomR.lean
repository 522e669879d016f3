/- The document's first open group is the program's. Condition: none. -/
import Derived.Test.YtlgfempnnijfnaaGreatHomB
set_option linter.all false
set_option maxRecDepth 100000
set_option maxHeartbeats 1000000
namespace Ab
def Mly.hob (m : Mly) (w : List Int) : Nat → List Int × List Int
  | 0 => ([], [])
  | s + 1 => if 1 < (m.cur w (m.outs (s : Int) w)).length ∧ ((m.hob w s).2 = [] ∨ lexC (m.outs (s : Int) w) (m.hob w s).1 < 0) then (m.outs (s : Int) w, m.cur w (m.outs (s : Int) w)) else m.hob w s
structure Hob (m : Mly) (w : List Int) (n : Nat) (b : List Int × List Int) : Prop where
  no : b.2 = [] → ∀ s : Nat, s < n → ¬ 1 < (m.cur w (m.outs (s : Int) w)).length
  yes : b.2 ≠ [] → b.2 = m.cur w b.1 ∧ 1 < b.2.length ∧ (∃ s : Nat, s < n ∧ m.outs (s : Int) w = b.1) ∧ ∀ s : Nat, s < n → 1 < (m.cur w (m.outs (s : Int) w)).length → lexC b.1 (m.outs (s : Int) w) ≤ 0
end Ab
