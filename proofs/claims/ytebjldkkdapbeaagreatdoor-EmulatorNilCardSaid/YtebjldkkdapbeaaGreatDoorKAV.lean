/- The reckoning: 'EmulatorNil' comes to true. -/
import Derived.Test.YtebjldkkdapbeaaGreatDoorKAT
namespace Go.Proofs.YtebjldkkdapbeaaGreatDoor.Eng
open Go
theorem reckoned : isTrue (callK (trGet tblA) 10000 60 8 [.any] ⟨0, .nil⟩) = true := by decide +kernel
end Go.Proofs.YtebjldkkdapbeaaGreatDoor.Eng
