/- All functions of this place. Conditions: none. -/
import Derived.Test.YthficejgcbadjaaGreatKwC5Fd
