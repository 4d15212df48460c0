/- The rights' contracts together. -/
import Derived.Test.YtjcoajaoofjjmaaRgt
import Derived.Test.YtjcoajaoofjjmaaRgtS
