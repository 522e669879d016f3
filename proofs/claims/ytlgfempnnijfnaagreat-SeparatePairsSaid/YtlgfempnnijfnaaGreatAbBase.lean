/- What the printed functions lean on. Condition: none. -/
import Derived.Test.YtlgfempnnijfnaaGreatAbL
import Derived.Test.YtlgfempnnijfnaaGreatAbSortM
