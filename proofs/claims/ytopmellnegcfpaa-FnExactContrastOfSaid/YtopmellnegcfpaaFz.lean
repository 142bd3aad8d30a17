/- All functions of this seat. -/
import Derived.Test.YtopmellnegcfpaaF4
