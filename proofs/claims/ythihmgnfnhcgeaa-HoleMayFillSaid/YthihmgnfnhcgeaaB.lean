/- Printed by wip/tools/codes.py: all of the functions' texts. -/
import Derived.Test.YthihmgnfnhcgeaaB1
import Derived.Test.YthihmgnfnhcgeaaB2
import Derived.Test.YthihmgnfnhcgeaaB3
import Derived.Test.YthihmgnfnhcgeaaB4
import Derived.Test.YthihmgnfnhcgeaaB5
import Derived.Test.YthihmgnfnhcgeaaB6
