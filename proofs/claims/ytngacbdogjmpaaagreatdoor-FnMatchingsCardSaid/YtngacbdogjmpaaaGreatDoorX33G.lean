/- All printed blocks. -/
import Derived.Test.YtngacbdogjmpaaaGreatDoorX33G1
import Derived.Test.YtngacbdogjmpaaaGreatDoorX33G2
import Derived.Test.YtngacbdogjmpaaaGreatDoorX33G3
