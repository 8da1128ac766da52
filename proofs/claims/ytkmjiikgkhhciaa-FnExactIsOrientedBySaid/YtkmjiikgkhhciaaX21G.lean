/- All printed blocks. -/
import Derived.Test.YtkmjiikgkhhciaaX21G1
import Derived.Test.YtkmjiikgkhhciaaX21G2
