/- All printed blocks. -/
import Derived.Test.YtngacbdogjmpaaaGreatDoorX34G1
import Derived.Test.YtngacbdogjmpaaaGreatDoorX34G2
import Derived.Test.YtngacbdogjmpaaaGreatDoorX34G3
