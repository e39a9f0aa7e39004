/- A part. -/
import Derived.Test.YtkpoodjhjfmfjaaGreatDoorZ03
import Derived.Test.YtkpoodjhjfmfjaaGreatDoorZ05
import Derived.Test.YtkpoodjhjfmfjaaGreatDoorZ09
import Derived.Test.YtkpoodjhjfmfjaaGreatDoorZlw
import Derived.Test.YtkpoodjhjfmfjaaGreatDoorZ11
import Derived.Test.YtkpoodjhjfmfjaaGreatDoorZ12
set_option linter.unusedVariables false
set_option linter.unusedSimpArgs false

