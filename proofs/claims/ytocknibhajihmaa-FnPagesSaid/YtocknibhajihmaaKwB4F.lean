/- All functions of this place. Conditions: none. -/
import Derived.Test.YtocknibhajihmaaKwB4Fc
