/- All printed blocks. -/
import Derived.Test.YtfcflpcmjlbedabG1
import Derived.Test.YtfcflpcmjlbedabG2
