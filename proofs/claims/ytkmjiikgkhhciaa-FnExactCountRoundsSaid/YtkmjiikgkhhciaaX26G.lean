/- All printed blocks. -/
import Derived.Test.YtkmjiikgkhhciaaX26G1
import Derived.Test.YtkmjiikgkhhciaaX26G2
