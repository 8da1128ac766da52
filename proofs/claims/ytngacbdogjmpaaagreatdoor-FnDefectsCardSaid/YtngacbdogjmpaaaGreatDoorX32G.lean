/- All printed blocks. -/
import Derived.Test.YtngacbdogjmpaaaGreatDoorX32G1
import Derived.Test.YtngacbdogjmpaaaGreatDoorX32G2
import Derived.Test.YtngacbdogjmpaaaGreatDoorX32G3
