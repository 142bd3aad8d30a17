/- The last of the functions' texts. -/
import Derived.Test.YthpaonmddfibpaaDoorF1
