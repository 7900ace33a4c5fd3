/-
  The oracle of this seat.
-/
import Derived.Test.YtocofoiijfofaaaGreatDoorZOrcI
