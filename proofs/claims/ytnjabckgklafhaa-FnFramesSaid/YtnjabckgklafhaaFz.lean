/- The functions of this seat, all. -/
import Derived.Test.YtnjabckgklafhaaF5
