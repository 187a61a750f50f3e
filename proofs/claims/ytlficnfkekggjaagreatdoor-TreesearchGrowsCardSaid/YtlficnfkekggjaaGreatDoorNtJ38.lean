
/-
  The laws of treesearch with their examples.
-/
import Derived.Test.YtlficnfkekggjaaGreatDoorNtL38
import Derived.Test.YtlficnfkekggjaaGreatDoorEvK38
import Derived.Test.YtlficnfkekggjaaGreatDoorEvLaid
namespace Go.Proofs.YtlficnfkekggjaaGreatDoor
theorem awakes38 : Awakes 10 := awake38_
end Go.Proofs.YtlficnfkekggjaaGreatDoor
