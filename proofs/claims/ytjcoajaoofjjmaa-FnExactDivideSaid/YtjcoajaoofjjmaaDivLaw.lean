/- Divide: both contracts. -/
import Derived.Test.YtjcoajaoofjjmaaDivI
import Derived.Test.YtjcoajaoofjjmaaDivS
import Derived.Test.YtjcoajaoofjjmaaRgt5
