/- What the printed functions lean on. Condition: none. -/
import Derived.Test.YtbpkebkldaifgaaAbSimp
import Derived.Test.YtbpkebkldaifgaaAbSortM
