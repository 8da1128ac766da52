/- All printed blocks. -/
import Derived.Test.YtkmjiikgkhhciaaGreatX29G1
import Derived.Test.YtkmjiikgkhhciaaGreatX29G2
import Derived.Test.YtkmjiikgkhhciaaGreatX29G3
