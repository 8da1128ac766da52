/- All printed blocks. -/
import Derived.Test.YtngacbdogjmpaaaGreatX36G1
import Derived.Test.YtngacbdogjmpaaaGreatX36G2
import Derived.Test.YtngacbdogjmpaaaGreatX36G3
import Derived.Test.YtngacbdogjmpaaaGreatX36G4
