/- The mutations of a transition. Condition: none. -/
import Derived.Test.YtlgfempnnijfnaaGreatCompJ
set_option linter.all false
set_option maxRecDepth 100000
set_option maxHeartbeats 4000000
namespace Ab
structure Mut where
  kind : Int
  st : Int
  inp : Int
  val : Int
  val2 : Int
  deriving Inhabited, DecidableEq
abbrev Mut.av (x : Mut) : AV := .agg [.int x.kind, .int x.st, .int x.inp, .int x.val, .int x.val2]
def pick (k s a b x : Int) (outs : List Int) : List Mut := (outs.filter fun o => decide (o ≠ x)).map fun o => ⟨k, s, a, o, b⟩
end Ab
