/- The last of the functions' texts. -/
import Derived.Test.YtofhnioboihbgaaF9
