/- Printed by wip/tools/codes.py: all of the functions' texts. -/
import Derived.Test.YtcdbikoonobodaaB1
import Derived.Test.YtcdbikoonobodaaB2
