/- All printed blocks. -/
import Derived.Test.YtkmjiikgkhhciaaGreatX23G1
import Derived.Test.YtkmjiikgkhhciaaGreatX23G2
