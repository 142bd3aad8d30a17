/- The last of the functions' texts. -/
import Derived.Test.YtadggddaheipgaaDoorF1
