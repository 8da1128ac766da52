/- All printed blocks. -/
import Derived.Test.YtkmjiikgkhhciaaX10G1
import Derived.Test.YtkmjiikgkhhciaaX10G2
