/- All printed blocks. -/
import Derived.Test.YtkmjiikgkhhciaaX22G1
import Derived.Test.YtkmjiikgkhhciaaX22G2
