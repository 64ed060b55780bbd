/- Trees: the law TreeChecks and what opens its argument. -/
import Derived.Test.YtklpiecolpnmlaaDoorTrA
import Derived.Test.YtklpiecolpnmlaaDoorTrO
