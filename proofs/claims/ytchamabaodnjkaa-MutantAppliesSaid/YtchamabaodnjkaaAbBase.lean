/- What the printed functions lean on. Condition: none. -/
import Derived.Test.YtchamabaodnjkaaAbSimp
import Derived.Test.YtchamabaodnjkaaAbSortM
