/- Printed by wip/tools/codes.py: all of the functions' texts. -/
import Derived.Test.YtbdcklchcdkhbaaB1
import Derived.Test.YtbdcklchcdkhbaaB2
import Derived.Test.YtbdcklchcdkhbaaB3
