/-
  DERIVED. GIVEN WITH THE SEED: THE CARDS: each row of YtebjldkkdapbeaaGreatDoorRows.lean that lists a variable, with what it lists TIED to the program's text (the seventh form; the later family's looks); each row that meets fmt, with fmt's text TOLD by the authors' own Lean function (tested against real Go, not proved from fmt's source: count such statements apart). THE CARD IS WHAT COUNTS. Prove the row's statement (the work); the ties are given (YtebjldkkdapbeaaGreatDoorTie.lean); close each card by the builder's one call (the guide's Derived/Test/ToyasCard.lean, 'card_holds'). Laid BY PROGRAM, IN A SANDBOX (cutbox-door.mjs). By AI agents, Wed Nov 11 2026. No macro, syntax, notation, axiom, sorry.
-/
import Derived.Test.YtebjldkkdapbeaaGreatDoorRows
import GoSem.ClaimSeven
namespace Go.Proofs.YtebjldkkdapbeaaGreatDoor
namespace Rows

/-- THE TIED CARD OF 'wayfarerlaw17.EmulatorStays'. -/
def emulatorStaysCard : Claim7 := { stood := { row := emulatorStaysRow, standIns := [], harness := (true, "7a31e5b3b33bf62bdf5118ca24d3a456cb3185964706e5c097de398d27ced77f"), looks := false }, kinds := [], alts := [], laidByText := true, laidKinds := [.data, .data, .data], laidTests := true, laidLooks := .later }
def EmulatorStaysCardSaid : Prop := Claim7.holds Tryz.pinned (.plain (OpenSpec.ofChange emulatorStaysSpec)) emulatorStaysCard

/-- THE TIED CARD OF 'wayfarerlaw17.EmulatorFresh'. -/
def emulatorFreshCard : Claim7 := { stood := { row := emulatorFreshRow, standIns := [], harness := (true, "7a31e5b3b33bf62bdf5118ca24d3a456cb3185964706e5c097de398d27ced77f"), looks := false }, kinds := [], alts := [], laidByText := true, laidKinds := [.data, .data, .data], laidTests := true, laidLooks := .later }
def EmulatorFreshCardSaid : Prop := Claim7.holds Tryz.pinned (.plain (OpenSpec.ofChange emulatorFreshSpec)) emulatorFreshCard

/-- THE TIED CARD OF 'wayfarerlaw17.EmulatorDoes'. -/
def emulatorDoesCard : Claim7 := { stood := { row := emulatorDoesRow, standIns := [], harness := (true, "7a31e5b3b33bf62bdf5118ca24d3a456cb3185964706e5c097de398d27ced77f"), looks := false }, kinds := [], alts := [], laidByText := true, laidKinds := [.data, .data, .data], laidTests := true, laidLooks := .later }
def EmulatorDoesCardSaid : Prop := Claim7.holds Tryz.pinned (.plain (OpenSpec.ofChange emulatorDoesSpec)) emulatorDoesCard

/-- THE TIED CARD OF 'wayfarerlaw17.EmulatorWrites'. -/
def emulatorWritesCard : Claim7 := { stood := { row := emulatorWritesRow, standIns := [], harness := (true, "7a31e5b3b33bf62bdf5118ca24d3a456cb3185964706e5c097de398d27ced77f"), looks := false }, kinds := [], alts := [], laidByText := true, laidKinds := [.data, .data, .data], laidTests := true, laidLooks := .later }
def EmulatorWritesCardSaid : Prop := Claim7.holds Tryz.pinned (.plain (OpenSpec.ofChange emulatorWritesSpec)) emulatorWritesCard

/-- THE TIED CARD OF 'wayfarerlaw18.ModelRows'. -/
def modelRowsCard : Claim7 := { stood := { row := modelRowsRow, standIns := [], harness := (true, "7a31e5b3b33bf62bdf5118ca24d3a456cb3185964706e5c097de398d27ced77f"), looks := false }, kinds := [], alts := [], laidByText := true, laidKinds := [.data, .data, .data], laidTests := true, laidLooks := .later }
def ModelRowsCardSaid : Prop := Claim7.holds Tryz.pinned (.plain (OpenSpec.ofChange modelRowsSpec)) modelRowsCard

/-- THE TIED CARD OF 'wayfarerlaw17.EmulatorNil'. -/
def emulatorNilCard : Claim7 := { stood := { row := emulatorNilRow, standIns := [], harness := (true, "7a31e5b3b33bf62bdf5118ca24d3a456cb3185964706e5c097de398d27ced77f"), looks := false }, kinds := [], alts := [], laidByText := true, laidKinds := [.data, .data, .data], laidTests := true, laidLooks := .later }
def EmulatorNilCardSaid : Prop := Claim7.holds Tryz.pinned (.plain (OpenSpec.ofChange emulatorNilSpec)) emulatorNilCard

/-- THE TIED CARD OF 'wayfarerlaw18.ModelShows'. -/
def modelShowsCard : Claim7 := { stood := { row := modelShowsRow, standIns := [], harness := (true, "7a31e5b3b33bf62bdf5118ca24d3a456cb3185964706e5c097de398d27ced77f"), looks := false }, kinds := [], alts := [], laidByText := true, laidKinds := [.data, .data, .data], laidTests := true, laidLooks := .later }
def ModelShowsCardSaid : Prop := Claim7.holds Tryz.pinned (.plain (OpenSpec.ofChange modelShowsSpec)) modelShowsCard

/-- THE TIED CARD OF 'wayfarerlaw18.ModelSame'. -/
def modelSameCard : Claim7 := { stood := { row := modelSameRow, standIns := [], harness := (true, "7a31e5b3b33bf62bdf5118ca24d3a456cb3185964706e5c097de398d27ced77f"), looks := false }, kinds := [], alts := [], laidByText := true, laidKinds := [.data, .data, .data], laidTests := true, laidLooks := .later }
def ModelSameCardSaid : Prop := Claim7.holds Tryz.pinned (.plain (OpenSpec.ofChange modelSameSpec)) modelSameCard

/-- THE SECOND FORM's CARD OF 'wayfarerlaw17.EmulatorStays'. -/
def emulatorStaysUptoCard : Claim7 := { stood := { row := emulatorStaysUptoRow, standIns := [], harness := (true, "7a31e5b3b33bf62bdf5118ca24d3a456cb3185964706e5c097de398d27ced77f"), looks := false }, kinds := [], alts := [], laidByText := true, laidKinds := [.data, .data, .data], laidTests := true, laidLooks := .later }
def EmulatorStaysUptoCardSaid : Prop := Claim7.holds Tryz.pinned (.plain (OpenSpec.upto emulatorStaysSpec)) emulatorStaysUptoCard

/-- THE SECOND FORM's CARD OF 'wayfarerlaw17.EmulatorFresh'. -/
def emulatorFreshUptoCard : Claim7 := { stood := { row := emulatorFreshUptoRow, standIns := [], harness := (true, "7a31e5b3b33bf62bdf5118ca24d3a456cb3185964706e5c097de398d27ced77f"), looks := false }, kinds := [], alts := [], laidByText := true, laidKinds := [.data, .data, .data], laidTests := true, laidLooks := .later }
def EmulatorFreshUptoCardSaid : Prop := Claim7.holds Tryz.pinned (.plain (OpenSpec.upto emulatorFreshSpec)) emulatorFreshUptoCard

/-- THE SECOND FORM's CARD OF 'wayfarerlaw17.EmulatorDoes'. -/
def emulatorDoesUptoCard : Claim7 := { stood := { row := emulatorDoesUptoRow, standIns := [], harness := (true, "7a31e5b3b33bf62bdf5118ca24d3a456cb3185964706e5c097de398d27ced77f"), looks := false }, kinds := [], alts := [], laidByText := true, laidKinds := [.data, .data, .data], laidTests := true, laidLooks := .later }
def EmulatorDoesUptoCardSaid : Prop := Claim7.holds Tryz.pinned (.plain (OpenSpec.upto emulatorDoesSpec)) emulatorDoesUptoCard

/-- THE SECOND FORM's CARD OF 'wayfarerlaw17.EmulatorWrites'. -/
def emulatorWritesUptoCard : Claim7 := { stood := { row := emulatorWritesUptoRow, standIns := [], harness := (true, "7a31e5b3b33bf62bdf5118ca24d3a456cb3185964706e5c097de398d27ced77f"), looks := false }, kinds := [], alts := [], laidByText := true, laidKinds := [.data, .data, .data], laidTests := true, laidLooks := .later }
def EmulatorWritesUptoCardSaid : Prop := Claim7.holds Tryz.pinned (.plain (OpenSpec.upto emulatorWritesSpec)) emulatorWritesUptoCard

/-- THE SECOND FORM's CARD OF 'wayfarerlaw18.ModelRows'. -/
def modelRowsUptoCard : Claim7 := { stood := { row := modelRowsUptoRow, standIns := [], harness := (true, "7a31e5b3b33bf62bdf5118ca24d3a456cb3185964706e5c097de398d27ced77f"), looks := false }, kinds := [], alts := [], laidByText := true, laidKinds := [.data, .data, .data], laidTests := true, laidLooks := .later }
def ModelRowsUptoCardSaid : Prop := Claim7.holds Tryz.pinned (.plain (OpenSpec.upto modelRowsSpec)) modelRowsUptoCard

/-- THE SECOND FORM's CARD OF 'wayfarerlaw17.EmulatorNil'. -/
def emulatorNilUptoCard : Claim7 := { stood := { row := emulatorNilUptoRow, standIns := [], harness := (true, "7a31e5b3b33bf62bdf5118ca24d3a456cb3185964706e5c097de398d27ced77f"), looks := false }, kinds := [], alts := [], laidByText := true, laidKinds := [.data, .data, .data], laidTests := true, laidLooks := .later }
def EmulatorNilUptoCardSaid : Prop := Claim7.holds Tryz.pinned (.plain (OpenSpec.upto emulatorNilSpec)) emulatorNilUptoCard

/-- THE SECOND FORM's CARD OF 'wayfarerlaw18.ModelShows'. -/
def modelShowsUptoCard : Claim7 := { stood := { row := modelShowsUptoRow, standIns := [], harness := (true, "7a31e5b3b33bf62bdf5118ca24d3a456cb3185964706e5c097de398d27ced77f"), looks := false }, kinds := [], alts := [], laidByText := true, laidKinds := [.data, .data, .data], laidTests := true, laidLooks := .later }
def ModelShowsUptoCardSaid : Prop := Claim7.holds Tryz.pinned (.plain (OpenSpec.upto modelShowsSpec)) modelShowsUptoCard

/-- THE SECOND FORM's CARD OF 'wayfarerlaw18.ModelSame'. -/
def modelSameUptoCard : Claim7 := { stood := { row := modelSameUptoRow, standIns := [], harness := (true, "7a31e5b3b33bf62bdf5118ca24d3a456cb3185964706e5c097de398d27ced77f"), looks := false }, kinds := [], alts := [], laidByText := true, laidKinds := [.data, .data, .data], laidTests := true, laidLooks := .later }
def ModelSameUptoCardSaid : Prop := Claim7.holds Tryz.pinned (.plain (OpenSpec.upto modelSameSpec)) modelSameUptoCard
end Rows
end Go.Proofs.YtebjldkkdapbeaaGreatDoor
