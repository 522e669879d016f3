/- What the printed functions lean on. Condition: none. -/
import Derived.Test.YtmmkhoncblnicaaAbL
import Derived.Test.YtmmkhoncblnicaaAbSortM
