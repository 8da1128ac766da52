/- All printed blocks. -/
import Derived.Test.YtngacbdogjmpaaaGreatX35G1
import Derived.Test.YtngacbdogjmpaaaGreatX35G2
import Derived.Test.YtngacbdogjmpaaaGreatX35G3
import Derived.Test.YtngacbdogjmpaaaGreatX35G4
