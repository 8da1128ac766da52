/- All printed blocks. -/
import Derived.Test.YtkmjiikgkhhciaaX24G1
import Derived.Test.YtkmjiikgkhhciaaX24G2
