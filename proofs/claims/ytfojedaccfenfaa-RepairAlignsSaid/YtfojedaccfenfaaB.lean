/- Printed by wip/tools/codes.py: all of the functions' texts. -/
import Derived.Test.YtfojedaccfenfaaB1
import Derived.Test.YtfojedaccfenfaaB2
import Derived.Test.YtfojedaccfenfaaB3
import Derived.Test.YtfojedaccfenfaaB4
import Derived.Test.YtfojedaccfenfaaB5
import Derived.Test.YtfojedaccfenfaaB6
import Derived.Test.YtfojedaccfenfaaB7
