/-
  DERIVED. GIVEN WITH THE SEED: THE CARDS: each row of YtjlpclcdbnfikaaDoorRows.lean that lists a variable, with what it lists TIED to the program's text (the seventh form; the later family's looks); each row that meets fmt, with fmt's text TOLD by the authors' own Lean function (tested against real Go, not proved from fmt's source: count such statements apart). THE CARD IS WHAT COUNTS. Prove the row's statement (the work); the ties are given (YtjlpclcdbnfikaaDoorTie.lean); close each card by the builder's one call (the guide's Derived/Test/ToyasCard.lean, 'card_holds'). Laid BY PROGRAM, IN A SANDBOX (cutbox-door.mjs). By AI agents, Wed Nov 11 2026. No macro, syntax, notation, axiom, sorry.
-/
import Derived.Test.YtjlpclcdbnfikaaDoorRows
import GoSem.ClaimSeven
namespace Go.Proofs.YtjlpclcdbnfikaaDoor
namespace Rows

/-- THE TIED CARD OF 'chancellaw01.LatTells'. -/
def latTellsCard : Claim7 := { stood := { row := latTellsRow, standIns := [], harness := (true, "f860b914fac82c6c6172399969b33c5332c0222d8c335708f02495d5af48b7fd"), looks := false }, kinds := [], alts := [], laidByText := true, laidKinds := [.data, .data, .pinned], laidTests := true, laidLooks := .later }
def LatTellsCardSaid : Prop := Claim7.holds Tryd.pinned (.plain (OpenSpec.ofChange latTellsSpec)) latTellsCard

/-- THE TIED CARD OF 'chancellaw01.LatOrder'. -/
def latOrderCard : Claim7 := { stood := { row := latOrderRow, standIns := [], harness := (true, "f860b914fac82c6c6172399969b33c5332c0222d8c335708f02495d5af48b7fd"), looks := false }, kinds := [], alts := [], laidByText := true, laidKinds := [.data, .data, .pinned], laidTests := true, laidLooks := .later }
def LatOrderCardSaid : Prop := Claim7.holds Tryd.pinned (.plain (OpenSpec.ofChange latOrderSpec)) latOrderCard

/-- THE TIED CARD OF 'chancellaw01.LatJoins'. -/
def latJoinsCard : Claim7 := { stood := { row := latJoinsRow, standIns := [], harness := (true, "f860b914fac82c6c6172399969b33c5332c0222d8c335708f02495d5af48b7fd"), looks := false }, kinds := [], alts := [], laidByText := true, laidKinds := [.data, .data, .pinned], laidTests := true, laidLooks := .later }
def LatJoinsCardSaid : Prop := Claim7.holds Tryd.pinned (.plain (OpenSpec.ofChange latJoinsSpec)) latJoinsCard

/-- THE TIED CARD OF 'chancellaw01.LatLaws'. -/
def latLawsCard : Claim7 := { stood := { row := latLawsRow, standIns := [], harness := (true, "f860b914fac82c6c6172399969b33c5332c0222d8c335708f02495d5af48b7fd"), looks := false }, kinds := [], alts := [], laidByText := true, laidKinds := [.data, .data, .pinned], laidTests := true, laidLooks := .later }
def LatLawsCardSaid : Prop := Claim7.holds Tryd.pinned (.plain (OpenSpec.ofChange latLawsSpec)) latLawsCard

/-- THE TIED CARD OF 'chancellaw01.LatBack'. -/
def latBackCard : Claim7 := { stood := { row := latBackRow, standIns := [], harness := (true, "f860b914fac82c6c6172399969b33c5332c0222d8c335708f02495d5af48b7fd"), looks := false }, kinds := [], alts := [], laidByText := true, laidKinds := [.data, .data, .pinned], laidTests := true, laidLooks := .later }
def LatBackCardSaid : Prop := Claim7.holds Tryd.pinned (.plain (OpenSpec.ofChange latBackSpec)) latBackCard

/-- THE TIED CARD OF 'chancellaw01.LatNames'. -/
def latNamesCard : Claim7 := { stood := { row := latNamesRow, standIns := [], harness := (true, "f860b914fac82c6c6172399969b33c5332c0222d8c335708f02495d5af48b7fd"), looks := false }, kinds := [], alts := [], laidByText := true, laidKinds := [.data, .data, .pinned], laidTests := true, laidLooks := .later }
def LatNamesCardSaid : Prop := Claim7.holds Tryd.pinned (.plain (OpenSpec.ofChange latNamesSpec)) latNamesCard

/-- THE TIED CARD OF 'chancellaw01.LatTurned'. -/
def latTurnedCard : Claim7 := { stood := { row := latTurnedRow, standIns := [], harness := (true, "f860b914fac82c6c6172399969b33c5332c0222d8c335708f02495d5af48b7fd"), looks := false }, kinds := [], alts := [], laidByText := true, laidKinds := [.data, .data, .pinned], laidTests := true, laidLooks := .later }
def LatTurnedCardSaid : Prop := Claim7.holds Tryd.pinned (.plain (OpenSpec.ofChange latTurnedSpec)) latTurnedCard

/-- THE TIED CARD OF 'chancellaw11.SolveLeast'. -/
def solveLeastCard : Claim7 := { stood := { row := solveLeastRow, standIns := [], harness := (true, "f860b914fac82c6c6172399969b33c5332c0222d8c335708f02495d5af48b7fd"), looks := false }, kinds := [], alts := [], laidByText := true, laidKinds := [.data], laidTests := true, laidLooks := .later }
def SolveLeastCardSaid : Prop := Claim7.holds Tryd.pinned (.plain (OpenSpec.ofChange solveLeastSpec)) solveLeastCard

/-- THE TIED CARD OF 'chancellaw11.SolveMore'. -/
def solveMoreCard : Claim7 := { stood := { row := solveMoreRow, standIns := [], harness := (true, "f860b914fac82c6c6172399969b33c5332c0222d8c335708f02495d5af48b7fd"), looks := false }, kinds := [], alts := [], laidByText := true, laidKinds := [.data], laidTests := true, laidLooks := .later }
def SolveMoreCardSaid : Prop := Claim7.holds Tryd.pinned (.plain (OpenSpec.ofChange solveMoreSpec)) solveMoreCard

/-- THE TIED CARD OF 'chancellaw11.SolveTop'. -/
def solveTopCard : Claim7 := { stood := { row := solveTopRow, standIns := [], harness := (true, "f860b914fac82c6c6172399969b33c5332c0222d8c335708f02495d5af48b7fd"), looks := false }, kinds := [], alts := [], laidByText := true, laidKinds := [.data], laidTests := true, laidLooks := .later }
def SolveTopCardSaid : Prop := Claim7.holds Tryd.pinned (.plain (OpenSpec.ofChange solveTopSpec)) solveTopCard

/-- THE TIED CARD OF 'chancellaw11.SolveOrder'. -/
def solveOrderCard : Claim7 := { stood := { row := solveOrderRow, standIns := [], harness := (true, "f860b914fac82c6c6172399969b33c5332c0222d8c335708f02495d5af48b7fd"), looks := false }, kinds := [], alts := [], laidByText := true, laidKinds := [.data], laidTests := true, laidLooks := .later }
def SolveOrderCardSaid : Prop := Claim7.holds Tryd.pinned (.plain (OpenSpec.ofChange solveOrderSpec)) solveOrderCard

/-- THE TIED CARD OF 'chancellaw11.SolveVars'. -/
def solveVarsCard : Claim7 := { stood := { row := solveVarsRow, standIns := [], harness := (true, "f860b914fac82c6c6172399969b33c5332c0222d8c335708f02495d5af48b7fd"), looks := false }, kinds := [], alts := [], laidByText := true, laidKinds := [.data], laidTests := true, laidLooks := .later }
def SolveVarsCardSaid : Prop := Claim7.holds Tryd.pinned (.plain (OpenSpec.ofChange solveVarsSpec)) solveVarsCard

/-- THE SECOND FORM's CARD OF 'chancellaw01.LatTells'. -/
def latTellsUptoCard : Claim7 := { stood := { row := latTellsUptoRow, standIns := [], harness := (true, "f860b914fac82c6c6172399969b33c5332c0222d8c335708f02495d5af48b7fd"), looks := false }, kinds := [], alts := [], laidByText := true, laidKinds := [.data, .data, .pinned], laidTests := true, laidLooks := .later }
def LatTellsUptoCardSaid : Prop := Claim7.holds Tryd.pinned (.plain (OpenSpec.upto latTellsSpec)) latTellsUptoCard

/-- THE SECOND FORM's CARD OF 'chancellaw01.LatOrder'. -/
def latOrderUptoCard : Claim7 := { stood := { row := latOrderUptoRow, standIns := [], harness := (true, "f860b914fac82c6c6172399969b33c5332c0222d8c335708f02495d5af48b7fd"), looks := false }, kinds := [], alts := [], laidByText := true, laidKinds := [.data, .data, .pinned], laidTests := true, laidLooks := .later }
def LatOrderUptoCardSaid : Prop := Claim7.holds Tryd.pinned (.plain (OpenSpec.upto latOrderSpec)) latOrderUptoCard

/-- THE SECOND FORM's CARD OF 'chancellaw01.LatJoins'. -/
def latJoinsUptoCard : Claim7 := { stood := { row := latJoinsUptoRow, standIns := [], harness := (true, "f860b914fac82c6c6172399969b33c5332c0222d8c335708f02495d5af48b7fd"), looks := false }, kinds := [], alts := [], laidByText := true, laidKinds := [.data, .data, .pinned], laidTests := true, laidLooks := .later }
def LatJoinsUptoCardSaid : Prop := Claim7.holds Tryd.pinned (.plain (OpenSpec.upto latJoinsSpec)) latJoinsUptoCard

/-- THE SECOND FORM's CARD OF 'chancellaw01.LatLaws'. -/
def latLawsUptoCard : Claim7 := { stood := { row := latLawsUptoRow, standIns := [], harness := (true, "f860b914fac82c6c6172399969b33c5332c0222d8c335708f02495d5af48b7fd"), looks := false }, kinds := [], alts := [], laidByText := true, laidKinds := [.data, .data, .pinned], laidTests := true, laidLooks := .later }
def LatLawsUptoCardSaid : Prop := Claim7.holds Tryd.pinned (.plain (OpenSpec.upto latLawsSpec)) latLawsUptoCard

/-- THE SECOND FORM's CARD OF 'chancellaw01.LatBack'. -/
def latBackUptoCard : Claim7 := { stood := { row := latBackUptoRow, standIns := [], harness := (true, "f860b914fac82c6c6172399969b33c5332c0222d8c335708f02495d5af48b7fd"), looks := false }, kinds := [], alts := [], laidByText := true, laidKinds := [.data, .data, .pinned], laidTests := true, laidLooks := .later }
def LatBackUptoCardSaid : Prop := Claim7.holds Tryd.pinned (.plain (OpenSpec.upto latBackSpec)) latBackUptoCard

/-- THE SECOND FORM's CARD OF 'chancellaw01.LatNames'. -/
def latNamesUptoCard : Claim7 := { stood := { row := latNamesUptoRow, standIns := [], harness := (true, "f860b914fac82c6c6172399969b33c5332c0222d8c335708f02495d5af48b7fd"), looks := false }, kinds := [], alts := [], laidByText := true, laidKinds := [.data, .data, .pinned], laidTests := true, laidLooks := .later }
def LatNamesUptoCardSaid : Prop := Claim7.holds Tryd.pinned (.plain (OpenSpec.upto latNamesSpec)) latNamesUptoCard

/-- THE SECOND FORM's CARD OF 'chancellaw01.LatTurned'. -/
def latTurnedUptoCard : Claim7 := { stood := { row := latTurnedUptoRow, standIns := [], harness := (true, "f860b914fac82c6c6172399969b33c5332c0222d8c335708f02495d5af48b7fd"), looks := false }, kinds := [], alts := [], laidByText := true, laidKinds := [.data, .data, .pinned], laidTests := true, laidLooks := .later }
def LatTurnedUptoCardSaid : Prop := Claim7.holds Tryd.pinned (.plain (OpenSpec.upto latTurnedSpec)) latTurnedUptoCard

/-- THE SECOND FORM's CARD OF 'chancellaw11.SolveLeast'. -/
def solveLeastUptoCard : Claim7 := { stood := { row := solveLeastUptoRow, standIns := [], harness := (true, "f860b914fac82c6c6172399969b33c5332c0222d8c335708f02495d5af48b7fd"), looks := false }, kinds := [], alts := [], laidByText := true, laidKinds := [.data], laidTests := true, laidLooks := .later }
def SolveLeastUptoCardSaid : Prop := Claim7.holds Tryd.pinned (.plain (OpenSpec.upto solveLeastSpec)) solveLeastUptoCard

/-- THE SECOND FORM's CARD OF 'chancellaw11.SolveMore'. -/
def solveMoreUptoCard : Claim7 := { stood := { row := solveMoreUptoRow, standIns := [], harness := (true, "f860b914fac82c6c6172399969b33c5332c0222d8c335708f02495d5af48b7fd"), looks := false }, kinds := [], alts := [], laidByText := true, laidKinds := [.data], laidTests := true, laidLooks := .later }
def SolveMoreUptoCardSaid : Prop := Claim7.holds Tryd.pinned (.plain (OpenSpec.upto solveMoreSpec)) solveMoreUptoCard

/-- THE SECOND FORM's CARD OF 'chancellaw11.SolveTop'. -/
def solveTopUptoCard : Claim7 := { stood := { row := solveTopUptoRow, standIns := [], harness := (true, "f860b914fac82c6c6172399969b33c5332c0222d8c335708f02495d5af48b7fd"), looks := false }, kinds := [], alts := [], laidByText := true, laidKinds := [.data], laidTests := true, laidLooks := .later }
def SolveTopUptoCardSaid : Prop := Claim7.holds Tryd.pinned (.plain (OpenSpec.upto solveTopSpec)) solveTopUptoCard

/-- THE SECOND FORM's CARD OF 'chancellaw11.SolveOrder'. -/
def solveOrderUptoCard : Claim7 := { stood := { row := solveOrderUptoRow, standIns := [], harness := (true, "f860b914fac82c6c6172399969b33c5332c0222d8c335708f02495d5af48b7fd"), looks := false }, kinds := [], alts := [], laidByText := true, laidKinds := [.data], laidTests := true, laidLooks := .later }
def SolveOrderUptoCardSaid : Prop := Claim7.holds Tryd.pinned (.plain (OpenSpec.upto solveOrderSpec)) solveOrderUptoCard

/-- THE SECOND FORM's CARD OF 'chancellaw11.SolveVars'. -/
def solveVarsUptoCard : Claim7 := { stood := { row := solveVarsUptoRow, standIns := [], harness := (true, "f860b914fac82c6c6172399969b33c5332c0222d8c335708f02495d5af48b7fd"), looks := false }, kinds := [], alts := [], laidByText := true, laidKinds := [.data], laidTests := true, laidLooks := .later }
def SolveVarsUptoCardSaid : Prop := Claim7.holds Tryd.pinned (.plain (OpenSpec.upto solveVarsSpec)) solveVarsUptoCard
end Rows
end Go.Proofs.YtjlpclcdbnfikaaDoor
