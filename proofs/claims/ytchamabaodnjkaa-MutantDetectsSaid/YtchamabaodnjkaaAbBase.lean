/- What the printed functions lean on. Condition: none. -/
import Derived.Test.YtchamabaodnjkaaAbL
import Derived.Test.YtchamabaodnjkaaAbSortM
