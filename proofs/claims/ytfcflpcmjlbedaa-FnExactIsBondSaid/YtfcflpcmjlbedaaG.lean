/- All printed blocks. -/
import Derived.Test.YtfcflpcmjlbedaaG1
import Derived.Test.YtfcflpcmjlbedaaG2
