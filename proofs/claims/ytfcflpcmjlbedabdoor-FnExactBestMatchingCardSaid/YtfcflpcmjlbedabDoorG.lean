/- All printed blocks. -/
import Derived.Test.YtfcflpcmjlbedabDoorG1
import Derived.Test.YtfcflpcmjlbedabDoorG2
