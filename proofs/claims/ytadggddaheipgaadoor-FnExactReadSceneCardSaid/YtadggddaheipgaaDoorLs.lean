/- The library's functions that are met by contracts. -/
import Derived.Test.YtadggddaheipgaaDoorLf
import Derived.Test.YtadggddaheipgaaDoorLj
import Derived.Test.YtadggddaheipgaaDoorLi
import Derived.Test.YtadggddaheipgaaDoorLn
import Derived.Test.YtadggddaheipgaaDoorLr
