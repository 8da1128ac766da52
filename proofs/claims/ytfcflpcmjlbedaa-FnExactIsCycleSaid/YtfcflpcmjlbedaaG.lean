/- All printed blocks. -/
import Derived.Test.YtfcflpcmjlbedaaG1
