/- All printed blocks. -/
import Derived.Test.YtfcflpcmjlbedaaDoorG1
