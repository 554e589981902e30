/- Printed by wip/tools/codes.py: all of the functions' texts. -/
import Derived.Test.YtfojedaccfenfabB1
import Derived.Test.YtfojedaccfenfabB2
import Derived.Test.YtfojedaccfenfabB3
import Derived.Test.YtfojedaccfenfabB4
