/- All printed blocks. -/
import Derived.Test.YtodklioaeooocaaG1
import Derived.Test.YtodklioaeooocaaG2
import Derived.Test.YtodklioaeooocaaG3
import Derived.Test.YtodklioaeooocaaG4
