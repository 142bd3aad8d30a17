/- The library's functions that are met by contracts. -/
import Derived.Test.YthpaonmddfibpaaDoorLf
import Derived.Test.YthpaonmddfibpaaDoorLi
import Derived.Test.YthpaonmddfibpaaDoorLn
