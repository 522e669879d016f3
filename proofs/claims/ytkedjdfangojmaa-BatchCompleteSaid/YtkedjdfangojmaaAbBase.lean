/- What the printed functions lean on. Condition: none. -/
import Derived.Test.YtkedjdfangojmaaAbSimp
import Derived.Test.YtkedjdfangojmaaAbSortM
