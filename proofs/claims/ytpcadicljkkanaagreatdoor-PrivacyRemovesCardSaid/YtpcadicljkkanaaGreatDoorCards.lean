/-
  DERIVED. GIVEN WITH THE SEED: THE CARDS: each row of YtpcadicljkkanaaGreatDoorRows.lean that lists a variable, with what it lists TIED to the program's text (the seventh form; the later family's looks); each row that meets fmt, with fmt's text TOLD by the authors' own Lean function (tested against real Go, not proved from fmt's source: count such statements apart). THE CARD IS WHAT COUNTS. Prove the row's statement (the work); the ties are given (YtpcadicljkkanaaGreatDoorTie.lean); close each card by the builder's one call (the guide's Derived/Test/ToyasCard.lean, 'card_holds'). Laid BY PROGRAM, IN A SANDBOX (cutbox-door.mjs). By AI agents, Wed Nov 11 2026. No macro, syntax, notation, axiom, sorry.
-/
import Derived.Test.YtpcadicljkkanaaGreatDoorRows
import GoSem.ClaimSeven
namespace Go.Proofs.YtpcadicljkkanaaGreatDoor
namespace Rows

/-- THE TIED CARD OF 'planispherelaw49.PrivacyMatchesReference'. -/
def privacyMatchesReferenceCard : Claim7 := { stood := { row := privacyMatchesReferenceRow, standIns := [], harness := (true, "eb47f8c714e25b24d9a4d93bcc0af6a0f2ae975874e2800d5c93397e75cf95ac"), looks := true }, kinds := [], alts := [], laidByText := true, laidKinds := [.data, .data, .data, .data, .pinned], laidTests := true, laidLooks := .later }
def PrivacyMatchesReferenceCardSaid : Prop := Claim7.holds Tryz.pinned (.plain (OpenSpec.ofChange privacyMatchesReferenceSpec)) privacyMatchesReferenceCard

/-- THE TIED CARD OF 'planispherelaw49.PrivacyLeaves'. -/
def privacyLeavesCard : Claim7 := { stood := { row := privacyLeavesRow, standIns := [], harness := (true, "eb47f8c714e25b24d9a4d93bcc0af6a0f2ae975874e2800d5c93397e75cf95ac"), looks := true }, kinds := [], alts := [], laidByText := true, laidKinds := [.data, .data, .data, .data, .pinned], laidTests := true, laidLooks := .later }
def PrivacyLeavesCardSaid : Prop := Claim7.holds Tryz.pinned (.plain (OpenSpec.ofChange privacyLeavesSpec)) privacyLeavesCard

/-- THE TIED CARD OF 'planispherelaw49.PrivacyOrder'. -/
def privacyOrderCard : Claim7 := { stood := { row := privacyOrderRow, standIns := [], harness := (true, "eb47f8c714e25b24d9a4d93bcc0af6a0f2ae975874e2800d5c93397e75cf95ac"), looks := true }, kinds := [], alts := [], laidByText := true, laidKinds := [.data, .data, .data, .data, .pinned], laidTests := true, laidLooks := .later }
def PrivacyOrderCardSaid : Prop := Claim7.holds Tryz.pinned (.plain (OpenSpec.ofChange privacyOrderSpec)) privacyOrderCard

/-- THE TIED CARD OF 'planispherelaw49.PrivacyRemoves'. -/
def privacyRemovesCard : Claim7 := { stood := { row := privacyRemovesRow, standIns := [], harness := (true, "eb47f8c714e25b24d9a4d93bcc0af6a0f2ae975874e2800d5c93397e75cf95ac"), looks := true }, kinds := [], alts := [], laidByText := true, laidKinds := [.data, .data, .data, .data, .pinned], laidTests := true, laidLooks := .later }
def PrivacyRemovesCardSaid : Prop := Claim7.holds Tryz.pinned (.plain (OpenSpec.ofChange privacyRemovesSpec)) privacyRemovesCard

/-- THE SECOND FORM's CARD OF 'planispherelaw49.PrivacyMatchesReference'. -/
def privacyMatchesReferenceUptoCard : Claim7 := { stood := { row := privacyMatchesReferenceUptoRow, standIns := [], harness := (true, "eb47f8c714e25b24d9a4d93bcc0af6a0f2ae975874e2800d5c93397e75cf95ac"), looks := true }, kinds := [], alts := [], laidByText := true, laidKinds := [.data, .data, .data, .data, .pinned], laidTests := true, laidLooks := .later }
def PrivacyMatchesReferenceUptoCardSaid : Prop := Claim7.holds Tryz.pinned (.plain (OpenSpec.upto privacyMatchesReferenceSpec)) privacyMatchesReferenceUptoCard

/-- THE SECOND FORM's CARD OF 'planispherelaw49.PrivacyLeaves'. -/
def privacyLeavesUptoCard : Claim7 := { stood := { row := privacyLeavesUptoRow, standIns := [], harness := (true, "eb47f8c714e25b24d9a4d93bcc0af6a0f2ae975874e2800d5c93397e75cf95ac"), looks := true }, kinds := [], alts := [], laidByText := true, laidKinds := [.data, .data, .data, .data, .pinned], laidTests := true, laidLooks := .later }
def PrivacyLeavesUptoCardSaid : Prop := Claim7.holds Tryz.pinned (.plain (OpenSpec.upto privacyLeavesSpec)) privacyLeavesUptoCard

/-- THE SECOND FORM's CARD OF 'planispherelaw49.PrivacyOrder'. -/
def privacyOrderUptoCard : Claim7 := { stood := { row := privacyOrderUptoRow, standIns := [], harness := (true, "eb47f8c714e25b24d9a4d93bcc0af6a0f2ae975874e2800d5c93397e75cf95ac"), looks := true }, kinds := [], alts := [], laidByText := true, laidKinds := [.data, .data, .data, .data, .pinned], laidTests := true, laidLooks := .later }
def PrivacyOrderUptoCardSaid : Prop := Claim7.holds Tryz.pinned (.plain (OpenSpec.upto privacyOrderSpec)) privacyOrderUptoCard

/-- THE SECOND FORM's CARD OF 'planispherelaw49.PrivacyRemoves'. -/
def privacyRemovesUptoCard : Claim7 := { stood := { row := privacyRemovesUptoRow, standIns := [], harness := (true, "eb47f8c714e25b24d9a4d93bcc0af6a0f2ae975874e2800d5c93397e75cf95ac"), looks := true }, kinds := [], alts := [], laidByText := true, laidKinds := [.data, .data, .data, .data, .pinned], laidTests := true, laidLooks := .later }
def PrivacyRemovesUptoCardSaid : Prop := Claim7.holds Tryz.pinned (.plain (OpenSpec.upto privacyRemovesSpec)) privacyRemovesUptoCard
end Rows
end Go.Proofs.YtpcadicljkkanaaGreatDoor
