/- All printed blocks. -/
import Derived.Test.YtngacbdogjmpaaaGreatDoorX06G1
import Derived.Test.YtngacbdogjmpaaaGreatDoorX06G2
import Derived.Test.YtngacbdogjmpaaaGreatDoorX06G3
