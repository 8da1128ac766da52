/- All printed blocks. -/
import Derived.Test.YtkmjiikgkhhciaaX27G1
import Derived.Test.YtkmjiikgkhhciaaX27G2
