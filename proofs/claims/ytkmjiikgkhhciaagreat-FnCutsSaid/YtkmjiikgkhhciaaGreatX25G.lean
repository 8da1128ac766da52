/- All printed blocks. -/
import Derived.Test.YtkmjiikgkhhciaaGreatX25G1
import Derived.Test.YtkmjiikgkhhciaaGreatX25G2
import Derived.Test.YtkmjiikgkhhciaaGreatX25G3
