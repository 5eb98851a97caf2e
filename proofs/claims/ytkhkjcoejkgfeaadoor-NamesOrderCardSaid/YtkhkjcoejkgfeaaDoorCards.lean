/-
  DERIVED. GIVEN WITH THE SEED: THE CARDS: each row of YtkhkjcoejkgfeaaDoorRows.lean that lists a variable, with what it lists TIED to the program's text (the seventh form; the later family's looks); each row that meets fmt, with fmt's text TOLD by the authors' own Lean function (tested against real Go, not proved from fmt's source: count such statements apart). THE CARD IS WHAT COUNTS. Prove the row's statement (the work); the ties are given (YtkhkjcoejkgfeaaDoorTie.lean); close each card by the builder's one call (the guide's Derived/Test/ToyasCard.lean, 'card_holds'). Laid BY PROGRAM, IN A SANDBOX (cutbox-door.mjs). By AI agents, Wed Nov 11 2026. No macro, syntax, notation, axiom, sorry.
-/
import Derived.Test.YtkhkjcoejkgfeaaDoorRows
import GoSem.ClaimSeven
namespace Go.Proofs.YtkhkjcoejkgfeaaDoor
namespace Rows

/-- THE TIED CARD OF 'moultlaw05.NamesBack'. -/
def namesBackCard : Claim7 := { stood := { row := namesBackRow, standIns := [], harness := (true, "c67a40ab331ea11b9499ba4829df297aedd51e2aa8492fd09f893724359617ae"), looks := false }, kinds := [], alts := [], laidByText := true, laidKinds := [.data, .data, .data], laidTests := true, laidLooks := .later }
def NamesBackCardSaid : Prop := Claim7.holds Tryd.pinned (.plain (OpenSpec.ofChange namesBackSpec)) namesBackCard

/-- THE TIED CARD OF 'moultlaw05.NamesRest'. -/
def namesRestCard : Claim7 := { stood := { row := namesRestRow, standIns := [], harness := (true, "c67a40ab331ea11b9499ba4829df297aedd51e2aa8492fd09f893724359617ae"), looks := false }, kinds := [], alts := [], laidByText := true, laidKinds := [.data, .data, .data], laidTests := true, laidLooks := .later }
def NamesRestCardSaid : Prop := Claim7.holds Tryd.pinned (.plain (OpenSpec.ofChange namesRestSpec)) namesRestCard

/-- THE TIED CARD OF 'moultlaw05.NamesNot'. -/
def namesNotCard : Claim7 := { stood := { row := namesNotRow, standIns := [], harness := (true, "c67a40ab331ea11b9499ba4829df297aedd51e2aa8492fd09f893724359617ae"), looks := false }, kinds := [], alts := [], laidByText := true, laidKinds := [.data, .data, .data], laidTests := true, laidLooks := .later }
def NamesNotCardSaid : Prop := Claim7.holds Tryd.pinned (.plain (OpenSpec.ofChange namesNotSpec)) namesNotCard

/-- THE TIED CARD OF 'moultlaw05.NamesOrder'. -/
def namesOrderCard : Claim7 := { stood := { row := namesOrderRow, standIns := [], harness := (true, "c67a40ab331ea11b9499ba4829df297aedd51e2aa8492fd09f893724359617ae"), looks := false }, kinds := [], alts := [], laidByText := true, laidKinds := [.data, .data, .data], laidTests := true, laidLooks := .later }
def NamesOrderCardSaid : Prop := Claim7.holds Tryd.pinned (.plain (OpenSpec.ofChange namesOrderSpec)) namesOrderCard

/-- THE SECOND FORM's CARD OF 'moultlaw05.NamesBack'. -/
def namesBackUptoCard : Claim7 := { stood := { row := namesBackUptoRow, standIns := [], harness := (true, "c67a40ab331ea11b9499ba4829df297aedd51e2aa8492fd09f893724359617ae"), looks := false }, kinds := [], alts := [], laidByText := true, laidKinds := [.data, .data, .data], laidTests := true, laidLooks := .later }
def NamesBackUptoCardSaid : Prop := Claim7.holds Tryd.pinned (.plain (OpenSpec.upto namesBackSpec)) namesBackUptoCard

/-- THE SECOND FORM's CARD OF 'moultlaw05.NamesRest'. -/
def namesRestUptoCard : Claim7 := { stood := { row := namesRestUptoRow, standIns := [], harness := (true, "c67a40ab331ea11b9499ba4829df297aedd51e2aa8492fd09f893724359617ae"), looks := false }, kinds := [], alts := [], laidByText := true, laidKinds := [.data, .data, .data], laidTests := true, laidLooks := .later }
def NamesRestUptoCardSaid : Prop := Claim7.holds Tryd.pinned (.plain (OpenSpec.upto namesRestSpec)) namesRestUptoCard

/-- THE SECOND FORM's CARD OF 'moultlaw05.NamesNot'. -/
def namesNotUptoCard : Claim7 := { stood := { row := namesNotUptoRow, standIns := [], harness := (true, "c67a40ab331ea11b9499ba4829df297aedd51e2aa8492fd09f893724359617ae"), looks := false }, kinds := [], alts := [], laidByText := true, laidKinds := [.data, .data, .data], laidTests := true, laidLooks := .later }
def NamesNotUptoCardSaid : Prop := Claim7.holds Tryd.pinned (.plain (OpenSpec.upto namesNotSpec)) namesNotUptoCard

/-- THE SECOND FORM's CARD OF 'moultlaw05.NamesOrder'. -/
def namesOrderUptoCard : Claim7 := { stood := { row := namesOrderUptoRow, standIns := [], harness := (true, "c67a40ab331ea11b9499ba4829df297aedd51e2aa8492fd09f893724359617ae"), looks := false }, kinds := [], alts := [], laidByText := true, laidKinds := [.data, .data, .data], laidTests := true, laidLooks := .later }
def NamesOrderUptoCardSaid : Prop := Claim7.holds Tryd.pinned (.plain (OpenSpec.upto namesOrderSpec)) namesOrderUptoCard
end Rows
end Go.Proofs.YtkhkjcoejkgfeaaDoor
