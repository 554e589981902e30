/- Printed by wip/tools/codes.py: all of the functions' texts. -/
import Derived.Test.YtoeehfnkcfeoaaaB1
import Derived.Test.YtoeehfnkcfeoaaaB2
import Derived.Test.YtoeehfnkcfeoaaaB3
import Derived.Test.YtoeehfnkcfeoaaaB4
