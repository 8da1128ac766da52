/- All printed blocks. -/
import Derived.Test.YtfcflpcmjlbedaaDoorG1
import Derived.Test.YtfcflpcmjlbedaaDoorG2
