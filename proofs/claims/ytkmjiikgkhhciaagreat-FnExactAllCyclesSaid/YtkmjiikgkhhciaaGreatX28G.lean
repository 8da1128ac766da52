/- All printed blocks. -/
import Derived.Test.YtkmjiikgkhhciaaGreatX28G1
import Derived.Test.YtkmjiikgkhhciaaGreatX28G2
import Derived.Test.YtkmjiikgkhhciaaGreatX28G3
