/- What the printed functions lean on. Condition: none. -/
import Derived.Test.YtkchnhfeebkogaaAbL
import Derived.Test.YtkchnhfeebkogaaAbSortM
