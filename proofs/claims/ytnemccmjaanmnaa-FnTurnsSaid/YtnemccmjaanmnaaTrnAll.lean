/- The turns' contracts together. -/
import Derived.Test.YtnemccmjaanmnaaTrn
import Derived.Test.YtnemccmjaanmnaaTrnS
