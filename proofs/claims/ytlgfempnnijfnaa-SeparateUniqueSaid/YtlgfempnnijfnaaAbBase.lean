/- What the printed functions lean on. Condition: none. -/
import Derived.Test.YtlgfempnnijfnaaAbL
import Derived.Test.YtlgfempnnijfnaaAbSortM
