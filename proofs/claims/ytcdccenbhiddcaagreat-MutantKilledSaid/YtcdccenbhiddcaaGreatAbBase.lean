/- What the printed functions lean on. Condition: none. -/
import Derived.Test.YtcdccenbhiddcaaGreatAbL
import Derived.Test.YtcdccenbhiddcaaGreatAbSortM
