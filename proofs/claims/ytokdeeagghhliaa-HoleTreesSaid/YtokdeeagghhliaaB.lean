/- Printed by wip/tools/codes.py: all of the functions' texts. -/
import Derived.Test.YtokdeeagghhliaaB1
import Derived.Test.YtokdeeagghhliaaB2
import Derived.Test.YtokdeeagghhliaaB3
import Derived.Test.YtokdeeagghhliaaB4
