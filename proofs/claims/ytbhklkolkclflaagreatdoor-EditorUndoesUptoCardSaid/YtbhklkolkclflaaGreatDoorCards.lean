/-
  DERIVED. GIVEN WITH THE SEED: THE CARDS: each row of YtbhklkolkclflaaGreatDoorRows.lean that lists a variable, with what it lists TIED to the program's text (the seventh form; the later family's looks); each row that meets fmt, with fmt's text TOLD by the authors' own Lean function (tested against real Go, not proved from fmt's source: count such statements apart). THE CARD IS WHAT COUNTS. Prove the row's statement (the work); the ties are given (YtbhklkolkclflaaGreatDoorTie.lean); close each card by the builder's one call (the guide's Derived/Test/ToyasCard.lean, 'card_holds'). Laid BY PROGRAM, IN A SANDBOX (cutbox-door.mjs). By AI agents, Wed Nov 11 2026. No macro, syntax, notation, axiom, sorry.
-/
import Derived.Test.YtbhklkolkclflaaGreatDoorRows
import GoSem.ClaimSeven
namespace Go.Proofs.YtbhklkolkclflaaGreatDoor
namespace Rows

/-- THE TIED CARD OF 'lanyardlaw20.IsearchFinds'. -/
def isearchFindsCard : Claim7 := { stood := { row := isearchFindsRow, standIns := [], harness := (true, "acaf9aaaa8a0736843dcef7aeaae6f6009a1cc8fa0a0dc4f5d0601de6ad4694e"), looks := false }, kinds := [], alts := [], laidByText := true, laidKinds := [.data, .pinned], laidTests := true, laidLooks := .later }
def IsearchFindsCardSaid : Prop := Claim7.holds Tryz.pinned (.plain (OpenSpec.ofChange isearchFindsSpec)) isearchFindsCard

/-- THE TIED CARD OF 'lanyardlaw20.IsearchThere'. -/
def isearchThereCard : Claim7 := { stood := { row := isearchThereRow, standIns := [], harness := (true, "acaf9aaaa8a0736843dcef7aeaae6f6009a1cc8fa0a0dc4f5d0601de6ad4694e"), looks := false }, kinds := [], alts := [], laidByText := true, laidKinds := [.data, .pinned], laidTests := true, laidLooks := .later }
def IsearchThereCardSaid : Prop := Claim7.holds Tryz.pinned (.plain (OpenSpec.ofChange isearchThereSpec)) isearchThereCard

/-- THE TIED CARD OF 'lanyardlaw17.EditorUndoes'. -/
def editorUndoesCard : Claim7 := { stood := { row := editorUndoesRow, standIns := [], harness := (true, "acaf9aaaa8a0736843dcef7aeaae6f6009a1cc8fa0a0dc4f5d0601de6ad4694e"), looks := false }, kinds := [], alts := [], laidByText := true, laidKinds := [.data, .pinned], laidTests := true, laidLooks := .later }
def EditorUndoesCardSaid : Prop := Claim7.holds Tryz.pinned (.plain (OpenSpec.ofChange editorUndoesSpec)) editorUndoesCard

/-- THE TIED CARD OF 'lanyardlaw20.IsearchDrops'. -/
def isearchDropsCard : Claim7 := { stood := { row := isearchDropsRow, standIns := [], harness := (true, "acaf9aaaa8a0736843dcef7aeaae6f6009a1cc8fa0a0dc4f5d0601de6ad4694e"), looks := false }, kinds := [], alts := [], laidByText := true, laidKinds := [.data, .pinned], laidTests := true, laidLooks := .later }
def IsearchDropsCardSaid : Prop := Claim7.holds Tryz.pinned (.plain (OpenSpec.ofChange isearchDropsSpec)) isearchDropsCard

/-- THE TIED CARD OF 'lanyardlaw17.EditorRefused'. -/
def editorRefusedCard : Claim7 := { stood := { row := editorRefusedRow, standIns := [], harness := (true, "acaf9aaaa8a0736843dcef7aeaae6f6009a1cc8fa0a0dc4f5d0601de6ad4694e"), looks := false }, kinds := [], alts := [], laidByText := true, laidKinds := [.data, .pinned], laidTests := true, laidLooks := .later }
def EditorRefusedCardSaid : Prop := Claim7.holds Tryz.pinned (.plain (OpenSpec.ofChange editorRefusedSpec)) editorRefusedCard

/-- THE TIED CARD OF 'lanyardlaw17.EditorNone'. -/
def editorNoneCard : Claim7 := { stood := { row := editorNoneRow, standIns := [], harness := (true, "acaf9aaaa8a0736843dcef7aeaae6f6009a1cc8fa0a0dc4f5d0601de6ad4694e"), looks := false }, kinds := [], alts := [], laidByText := true, laidKinds := [.data, .pinned], laidTests := true, laidLooks := .later }
def EditorNoneCardSaid : Prop := Claim7.holds Tryz.pinned (.plain (OpenSpec.ofChange editorNoneSpec)) editorNoneCard

/-- THE TIED CARD OF 'lanyardlaw20.IsearchNone'. -/
def isearchNoneCard : Claim7 := { stood := { row := isearchNoneRow, standIns := [], harness := (true, "acaf9aaaa8a0736843dcef7aeaae6f6009a1cc8fa0a0dc4f5d0601de6ad4694e"), looks := false }, kinds := [], alts := [], laidByText := true, laidKinds := [.data, .pinned], laidTests := true, laidLooks := .later }
def IsearchNoneCardSaid : Prop := Claim7.holds Tryz.pinned (.plain (OpenSpec.ofChange isearchNoneSpec)) isearchNoneCard

/-- THE TIED CARD OF 'lanyardlaw17.EditorOutside'. -/
def editorOutsideCard : Claim7 := { stood := { row := editorOutsideRow, standIns := [], harness := (true, "acaf9aaaa8a0736843dcef7aeaae6f6009a1cc8fa0a0dc4f5d0601de6ad4694e"), looks := false }, kinds := [], alts := [], laidByText := true, laidKinds := [.data, .pinned], laidTests := true, laidLooks := .later }
def EditorOutsideCardSaid : Prop := Claim7.holds Tryz.pinned (.plain (OpenSpec.ofChange editorOutsideSpec)) editorOutsideCard

/-- THE SECOND FORM's CARD OF 'lanyardlaw20.IsearchFinds'. -/
def isearchFindsUptoCard : Claim7 := { stood := { row := isearchFindsUptoRow, standIns := [], harness := (true, "acaf9aaaa8a0736843dcef7aeaae6f6009a1cc8fa0a0dc4f5d0601de6ad4694e"), looks := false }, kinds := [], alts := [], laidByText := true, laidKinds := [.data, .pinned], laidTests := true, laidLooks := .later }
def IsearchFindsUptoCardSaid : Prop := Claim7.holds Tryz.pinned (.plain (OpenSpec.upto isearchFindsSpec)) isearchFindsUptoCard

/-- THE SECOND FORM's CARD OF 'lanyardlaw20.IsearchThere'. -/
def isearchThereUptoCard : Claim7 := { stood := { row := isearchThereUptoRow, standIns := [], harness := (true, "acaf9aaaa8a0736843dcef7aeaae6f6009a1cc8fa0a0dc4f5d0601de6ad4694e"), looks := false }, kinds := [], alts := [], laidByText := true, laidKinds := [.data, .pinned], laidTests := true, laidLooks := .later }
def IsearchThereUptoCardSaid : Prop := Claim7.holds Tryz.pinned (.plain (OpenSpec.upto isearchThereSpec)) isearchThereUptoCard

/-- THE SECOND FORM's CARD OF 'lanyardlaw17.EditorUndoes'. -/
def editorUndoesUptoCard : Claim7 := { stood := { row := editorUndoesUptoRow, standIns := [], harness := (true, "acaf9aaaa8a0736843dcef7aeaae6f6009a1cc8fa0a0dc4f5d0601de6ad4694e"), looks := false }, kinds := [], alts := [], laidByText := true, laidKinds := [.data, .pinned], laidTests := true, laidLooks := .later }
def EditorUndoesUptoCardSaid : Prop := Claim7.holds Tryz.pinned (.plain (OpenSpec.upto editorUndoesSpec)) editorUndoesUptoCard

/-- THE SECOND FORM's CARD OF 'lanyardlaw20.IsearchDrops'. -/
def isearchDropsUptoCard : Claim7 := { stood := { row := isearchDropsUptoRow, standIns := [], harness := (true, "acaf9aaaa8a0736843dcef7aeaae6f6009a1cc8fa0a0dc4f5d0601de6ad4694e"), looks := false }, kinds := [], alts := [], laidByText := true, laidKinds := [.data, .pinned], laidTests := true, laidLooks := .later }
def IsearchDropsUptoCardSaid : Prop := Claim7.holds Tryz.pinned (.plain (OpenSpec.upto isearchDropsSpec)) isearchDropsUptoCard

/-- THE SECOND FORM's CARD OF 'lanyardlaw17.EditorRefused'. -/
def editorRefusedUptoCard : Claim7 := { stood := { row := editorRefusedUptoRow, standIns := [], harness := (true, "acaf9aaaa8a0736843dcef7aeaae6f6009a1cc8fa0a0dc4f5d0601de6ad4694e"), looks := false }, kinds := [], alts := [], laidByText := true, laidKinds := [.data, .pinned], laidTests := true, laidLooks := .later }
def EditorRefusedUptoCardSaid : Prop := Claim7.holds Tryz.pinned (.plain (OpenSpec.upto editorRefusedSpec)) editorRefusedUptoCard

/-- THE SECOND FORM's CARD OF 'lanyardlaw17.EditorNone'. -/
def editorNoneUptoCard : Claim7 := { stood := { row := editorNoneUptoRow, standIns := [], harness := (true, "acaf9aaaa8a0736843dcef7aeaae6f6009a1cc8fa0a0dc4f5d0601de6ad4694e"), looks := false }, kinds := [], alts := [], laidByText := true, laidKinds := [.data, .pinned], laidTests := true, laidLooks := .later }
def EditorNoneUptoCardSaid : Prop := Claim7.holds Tryz.pinned (.plain (OpenSpec.upto editorNoneSpec)) editorNoneUptoCard

/-- THE SECOND FORM's CARD OF 'lanyardlaw20.IsearchNone'. -/
def isearchNoneUptoCard : Claim7 := { stood := { row := isearchNoneUptoRow, standIns := [], harness := (true, "acaf9aaaa8a0736843dcef7aeaae6f6009a1cc8fa0a0dc4f5d0601de6ad4694e"), looks := false }, kinds := [], alts := [], laidByText := true, laidKinds := [.data, .pinned], laidTests := true, laidLooks := .later }
def IsearchNoneUptoCardSaid : Prop := Claim7.holds Tryz.pinned (.plain (OpenSpec.upto isearchNoneSpec)) isearchNoneUptoCard

/-- THE SECOND FORM's CARD OF 'lanyardlaw17.EditorOutside'. -/
def editorOutsideUptoCard : Claim7 := { stood := { row := editorOutsideUptoRow, standIns := [], harness := (true, "acaf9aaaa8a0736843dcef7aeaae6f6009a1cc8fa0a0dc4f5d0601de6ad4694e"), looks := false }, kinds := [], alts := [], laidByText := true, laidKinds := [.data, .pinned], laidTests := true, laidLooks := .later }
def EditorOutsideUptoCardSaid : Prop := Claim7.holds Tryz.pinned (.plain (OpenSpec.upto editorOutsideSpec)) editorOutsideUptoCard
end Rows
end Go.Proofs.YtbhklkolkclflaaGreatDoor
