/-
  DERIVED. GIVEN WITH THE SEED: THE CARDS: each row of YtpmigkbcldffeaaGreatDoorRows.lean that lists a variable, with what it lists TIED to the program's text (the seventh form; the later family's looks); each row that meets fmt, with fmt's text TOLD by the authors' own Lean function (tested against real Go, not proved from fmt's source: count such statements apart). THE CARD IS WHAT COUNTS. Prove the row's statement (the work); the ties are given (YtpmigkbcldffeaaGreatDoorTie.lean); close each card by the builder's one call (the guide's Derived/Test/ToyasCard.lean, 'card_holds'). Laid BY PROGRAM, IN A SANDBOX (cutbox-door.mjs). By AI agents, Wed Nov 11 2026. No macro, syntax, notation, axiom, sorry.
-/
import Derived.Test.YtpmigkbcldffeaaGreatDoorRows
import GoSem.ClaimSeven
namespace Go.Proofs.YtpmigkbcldffeaaGreatDoor
namespace Rows

/-- THE TIED CARD OF 'planispherelaw29.ModerateMatchesReference'. -/
def moderateMatchesReferenceCard : Claim7 := { stood := { row := moderateMatchesReferenceRow, standIns := [], harness := (true, "a8c0b9edbee94adf25457fb264e22d9987c1d13ea5c62981dc662fa73fa34eff"), looks := true }, kinds := [], alts := [], laidByText := true, laidKinds := [.data, .data, .data, .data, .pinned], laidTests := true, laidLooks := .later }
def ModerateMatchesReferenceCardSaid : Prop := Claim7.holds Tryz.pinned (.plain (OpenSpec.ofChange moderateMatchesReferenceSpec)) moderateMatchesReferenceCard

/-- THE TIED CARD OF 'planispherelaw29.ModerateLast'. -/
def moderateLastCard : Claim7 := { stood := { row := moderateLastRow, standIns := [], harness := (true, "a8c0b9edbee94adf25457fb264e22d9987c1d13ea5c62981dc662fa73fa34eff"), looks := true }, kinds := [], alts := [], laidByText := true, laidKinds := [.data, .data, .data, .data, .pinned], laidTests := true, laidLooks := .later }
def ModerateLastCardSaid : Prop := Claim7.holds Tryz.pinned (.plain (OpenSpec.ofChange moderateLastSpec)) moderateLastCard

/-- THE TIED CARD OF 'planispherelaw29.ModerateOthers'. -/
def moderateOthersCard : Claim7 := { stood := { row := moderateOthersRow, standIns := [], harness := (true, "a8c0b9edbee94adf25457fb264e22d9987c1d13ea5c62981dc662fa73fa34eff"), looks := true }, kinds := [], alts := [], laidByText := true, laidKinds := [.data, .data, .data, .data, .pinned], laidTests := true, laidLooks := .later }
def ModerateOthersCardSaid : Prop := Claim7.holds Tryz.pinned (.plain (OpenSpec.ofChange moderateOthersSpec)) moderateOthersCard

/-- THE TIED CARD OF 'planispherelaw29.ModeratePlain'. -/
def moderatePlainCard : Claim7 := { stood := { row := moderatePlainRow, standIns := [], harness := (true, "a8c0b9edbee94adf25457fb264e22d9987c1d13ea5c62981dc662fa73fa34eff"), looks := true }, kinds := [], alts := [], laidByText := true, laidKinds := [.data, .data, .data, .data, .pinned], laidTests := true, laidLooks := .later }
def ModeratePlainCardSaid : Prop := Claim7.holds Tryz.pinned (.plain (OpenSpec.ofChange moderatePlainSpec)) moderatePlainCard

/-- THE TIED CARD OF 'planispherelaw29.ModerateBeginnings'. -/
def moderateBeginningsCard : Claim7 := { stood := { row := moderateBeginningsRow, standIns := [], harness := (true, "a8c0b9edbee94adf25457fb264e22d9987c1d13ea5c62981dc662fa73fa34eff"), looks := true }, kinds := [], alts := [], laidByText := true, laidKinds := [.data, .data, .data, .data, .pinned], laidTests := true, laidLooks := .later }
def ModerateBeginningsCardSaid : Prop := Claim7.holds Tryz.pinned (.plain (OpenSpec.ofChange moderateBeginningsSpec)) moderateBeginningsCard

/-- THE SECOND FORM's CARD OF 'planispherelaw29.ModerateMatchesReference'. -/
def moderateMatchesReferenceUptoCard : Claim7 := { stood := { row := moderateMatchesReferenceUptoRow, standIns := [], harness := (true, "a8c0b9edbee94adf25457fb264e22d9987c1d13ea5c62981dc662fa73fa34eff"), looks := true }, kinds := [], alts := [], laidByText := true, laidKinds := [.data, .data, .data, .data, .pinned], laidTests := true, laidLooks := .later }
def ModerateMatchesReferenceUptoCardSaid : Prop := Claim7.holds Tryz.pinned (.plain (OpenSpec.upto moderateMatchesReferenceSpec)) moderateMatchesReferenceUptoCard

/-- THE SECOND FORM's CARD OF 'planispherelaw29.ModerateLast'. -/
def moderateLastUptoCard : Claim7 := { stood := { row := moderateLastUptoRow, standIns := [], harness := (true, "a8c0b9edbee94adf25457fb264e22d9987c1d13ea5c62981dc662fa73fa34eff"), looks := true }, kinds := [], alts := [], laidByText := true, laidKinds := [.data, .data, .data, .data, .pinned], laidTests := true, laidLooks := .later }
def ModerateLastUptoCardSaid : Prop := Claim7.holds Tryz.pinned (.plain (OpenSpec.upto moderateLastSpec)) moderateLastUptoCard

/-- THE SECOND FORM's CARD OF 'planispherelaw29.ModerateOthers'. -/
def moderateOthersUptoCard : Claim7 := { stood := { row := moderateOthersUptoRow, standIns := [], harness := (true, "a8c0b9edbee94adf25457fb264e22d9987c1d13ea5c62981dc662fa73fa34eff"), looks := true }, kinds := [], alts := [], laidByText := true, laidKinds := [.data, .data, .data, .data, .pinned], laidTests := true, laidLooks := .later }
def ModerateOthersUptoCardSaid : Prop := Claim7.holds Tryz.pinned (.plain (OpenSpec.upto moderateOthersSpec)) moderateOthersUptoCard

/-- THE SECOND FORM's CARD OF 'planispherelaw29.ModeratePlain'. -/
def moderatePlainUptoCard : Claim7 := { stood := { row := moderatePlainUptoRow, standIns := [], harness := (true, "a8c0b9edbee94adf25457fb264e22d9987c1d13ea5c62981dc662fa73fa34eff"), looks := true }, kinds := [], alts := [], laidByText := true, laidKinds := [.data, .data, .data, .data, .pinned], laidTests := true, laidLooks := .later }
def ModeratePlainUptoCardSaid : Prop := Claim7.holds Tryz.pinned (.plain (OpenSpec.upto moderatePlainSpec)) moderatePlainUptoCard

/-- THE SECOND FORM's CARD OF 'planispherelaw29.ModerateBeginnings'. -/
def moderateBeginningsUptoCard : Claim7 := { stood := { row := moderateBeginningsUptoRow, standIns := [], harness := (true, "a8c0b9edbee94adf25457fb264e22d9987c1d13ea5c62981dc662fa73fa34eff"), looks := true }, kinds := [], alts := [], laidByText := true, laidKinds := [.data, .data, .data, .data, .pinned], laidTests := true, laidLooks := .later }
def ModerateBeginningsUptoCardSaid : Prop := Claim7.holds Tryz.pinned (.plain (OpenSpec.upto moderateBeginningsSpec)) moderateBeginningsUptoCard
end Rows
end Go.Proofs.YtpmigkbcldffeaaGreatDoor
