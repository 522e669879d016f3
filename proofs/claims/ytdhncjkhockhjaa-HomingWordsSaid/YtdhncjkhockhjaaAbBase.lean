/- What the printed functions lean on. Condition: none. -/
import Derived.Test.YtdhncjkhockhjaaAbL
import Derived.Test.YtdhncjkhockhjaaAbSortM
