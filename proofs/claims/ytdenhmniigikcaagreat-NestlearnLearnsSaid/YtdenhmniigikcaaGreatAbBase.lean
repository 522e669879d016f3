/- What the printed functions lean on. Condition: none. -/
import Derived.Test.YtdenhmniigikcaaGreatAbL
import Derived.Test.YtdenhmniigikcaaGreatAbSortM
