/- All printed blocks. -/
import Derived.Test.YtjljbokjpcfblaaGreatDoorX30G1
import Derived.Test.YtjljbokjpcfblaaGreatDoorX30G2
import Derived.Test.YtjljbokjpcfblaaGreatDoorX30G3
