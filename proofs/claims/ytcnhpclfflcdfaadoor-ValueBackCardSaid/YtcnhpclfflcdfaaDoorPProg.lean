/- The program, under this set's prefix. -/
import Derived.Test.YtcnhpclfflcdfaaDoorProg
