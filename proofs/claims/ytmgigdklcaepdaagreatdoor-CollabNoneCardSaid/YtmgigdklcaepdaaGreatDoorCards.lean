/-
  DERIVED. GIVEN WITH THE SEED: THE CARDS: each row of YtmgigdklcaepdaaGreatDoorRows.lean that lists a variable, with what it lists TIED to the program's text (the seventh form; the later family's looks); each row that meets fmt, with fmt's text TOLD by the authors' own Lean function (tested against real Go, not proved from fmt's source: count such statements apart). THE CARD IS WHAT COUNTS. Prove the row's statement (the work); the ties are given (YtmgigdklcaepdaaGreatDoorTie.lean); close each card by the builder's one call (the guide's Derived/Test/ToyasCard.lean, 'card_holds'). Laid BY PROGRAM, IN A SANDBOX (cutbox-door.mjs). By AI agents, Wed Nov 11 2026. No macro, syntax, notation, axiom, sorry.
-/
import Derived.Test.YtmgigdklcaepdaaGreatDoorRows
import GoSem.ClaimSeven
namespace Go.Proofs.YtmgigdklcaepdaaGreatDoor
namespace Rows

/-- THE TIED CARD OF 'counterpanelaw25.ClientNone'. -/
def clientNoneCard : Claim7 := { stood := { row := clientNoneRow, standIns := [], harness := (true, "9eb7be00cbd767bbbd81ca9c1c8755db3a0d6e38e395c4ed20247b1fa3edfba8"), looks := true }, kinds := [], alts := [], laidByText := true, laidKinds := [.pinned, .data, .sentinel, .sentinel, .data, .data, .data], laidTests := true, laidLooks := .later }
def ClientNoneCardSaid : Prop := Claim7.holds Tryz.pinned (.plain (OpenSpec.ofChange clientNoneSpec)) clientNoneCard

/-- THE TIED CARD OF 'counterpanelaw26.CollabNone'. -/
def collabNoneCard : Claim7 := { stood := { row := collabNoneRow, standIns := [], harness := (true, "9eb7be00cbd767bbbd81ca9c1c8755db3a0d6e38e395c4ed20247b1fa3edfba8"), looks := true }, kinds := [], alts := [], laidByText := true, laidKinds := [.sentinel, .sentinel, .data, .data, .data, .pinned, .data], laidTests := true, laidLooks := .later }
def CollabNoneCardSaid : Prop := Claim7.holds Tryz.pinned (.plain (OpenSpec.ofChange collabNoneSpec)) collabNoneCard

/-- THE SECOND FORM's CARD OF 'counterpanelaw25.ClientNone'. -/
def clientNoneUptoCard : Claim7 := { stood := { row := clientNoneUptoRow, standIns := [], harness := (true, "9eb7be00cbd767bbbd81ca9c1c8755db3a0d6e38e395c4ed20247b1fa3edfba8"), looks := true }, kinds := [], alts := [], laidByText := true, laidKinds := [.pinned, .data, .sentinel, .sentinel, .data, .data, .data], laidTests := true, laidLooks := .later }
def ClientNoneUptoCardSaid : Prop := Claim7.holds Tryz.pinned (.plain (OpenSpec.upto clientNoneSpec)) clientNoneUptoCard

/-- THE SECOND FORM's CARD OF 'counterpanelaw26.CollabNone'. -/
def collabNoneUptoCard : Claim7 := { stood := { row := collabNoneUptoRow, standIns := [], harness := (true, "9eb7be00cbd767bbbd81ca9c1c8755db3a0d6e38e395c4ed20247b1fa3edfba8"), looks := true }, kinds := [], alts := [], laidByText := true, laidKinds := [.sentinel, .sentinel, .data, .data, .data, .pinned, .data], laidTests := true, laidLooks := .later }
def CollabNoneUptoCardSaid : Prop := Claim7.holds Tryz.pinned (.plain (OpenSpec.upto collabNoneSpec)) collabNoneUptoCard
end Rows
end Go.Proofs.YtmgigdklcaepdaaGreatDoor
