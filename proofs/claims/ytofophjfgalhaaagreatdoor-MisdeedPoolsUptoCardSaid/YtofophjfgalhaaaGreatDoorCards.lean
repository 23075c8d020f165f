/-
  DERIVED. GIVEN WITH THE SEED: THE CARDS: each row of YtofophjfgalhaaaGreatDoorRows.lean that lists a variable, with what it lists TIED to the program's text (the seventh form; the later family's looks); each row that meets fmt, with fmt's text TOLD by the authors' own Lean function (tested against real Go, not proved from fmt's source: count such statements apart). THE CARD IS WHAT COUNTS. Prove the row's statement (the work); the ties are given (YtofophjfgalhaaaGreatDoorTie.lean); close each card by the builder's one call (the guide's Derived/Test/ToyasCard.lean, 'card_holds'). Laid BY PROGRAM, IN A SANDBOX (cutbox-door.mjs). By AI agents, Wed Nov 11 2026. No macro, syntax, notation, axiom, sorry.
-/
import Derived.Test.YtofophjfgalhaaaGreatDoorRows
import GoSem.ClaimSeven
namespace Go.Proofs.YtofophjfgalhaaaGreatDoor
namespace Rows

/-- THE TIED CARD OF 'assentlaw11.MisdeedVerifies'. -/
def misdeedVerifiesCard : Claim7 := { stood := { row := misdeedVerifiesRow, standIns := [], harness := (true, "be8391039242d54b0f9a6c1549da5aa765cae02a272de0b9f13bc1a5e4c37cf4"), looks := false }, kinds := [], alts := [], laidByText := true, laidKinds := [.data, .data, .data], laidTests := true, laidLooks := .later }
def MisdeedVerifiesCardSaid : Prop := Claim7.holds Tryz.pinned (.plain (OpenSpec.ofChange misdeedVerifiesSpec)) misdeedVerifiesCard

/-- THE TIED CARD OF 'assentlaw17.BlameLooks'. -/
def blameLooksCard : Claim7 := { stood := { row := blameLooksRow, standIns := [], harness := (true, "be8391039242d54b0f9a6c1549da5aa765cae02a272de0b9f13bc1a5e4c37cf4"), looks := false }, kinds := [], alts := [], laidByText := true, laidKinds := [.data, .data, .data, .data], laidTests := true, laidLooks := .later }
def BlameLooksCardSaid : Prop := Claim7.holds Tryz.pinned (.plain (OpenSpec.ofChange blameLooksSpec)) blameLooksCard

/-- THE TIED CARD OF 'assentlaw17.BlameHonest'. -/
def blameHonestCard : Claim7 := { stood := { row := blameHonestRow, standIns := [], harness := (true, "be8391039242d54b0f9a6c1549da5aa765cae02a272de0b9f13bc1a5e4c37cf4"), looks := false }, kinds := [], alts := [], laidByText := true, laidKinds := [.data, .data, .data], laidTests := true, laidLooks := .later }
def BlameHonestCardSaid : Prop := Claim7.holds Tryz.pinned (.plain (OpenSpec.ofChange blameHonestSpec)) blameHonestCard

/-- THE TIED CARD OF 'assentlaw11.MisdeedNil'. -/
def misdeedNilCard : Claim7 := { stood := { row := misdeedNilRow, standIns := [], harness := (true, "be8391039242d54b0f9a6c1549da5aa765cae02a272de0b9f13bc1a5e4c37cf4"), looks := false }, kinds := [], alts := [], laidByText := true, laidKinds := [.data, .data], laidTests := true, laidLooks := .later }
def MisdeedNilCardSaid : Prop := Claim7.holds Tryz.pinned (.plain (OpenSpec.ofChange misdeedNilSpec)) misdeedNilCard

/-- THE TIED CARD OF 'assentlaw11.MisdeedPools'. -/
def misdeedPoolsCard : Claim7 := { stood := { row := misdeedPoolsRow, standIns := [], harness := (true, "be8391039242d54b0f9a6c1549da5aa765cae02a272de0b9f13bc1a5e4c37cf4"), looks := false }, kinds := [], alts := [], laidByText := true, laidKinds := [.data, .data, .data], laidTests := true, laidLooks := .later }
def MisdeedPoolsCardSaid : Prop := Claim7.holds Tryz.pinned (.plain (OpenSpec.ofChange misdeedPoolsSpec)) misdeedPoolsCard

/-- THE TIED CARD OF 'assentlaw11.MisdeedPicks'. -/
def misdeedPicksCard : Claim7 := { stood := { row := misdeedPicksRow, standIns := [], harness := (true, "be8391039242d54b0f9a6c1549da5aa765cae02a272de0b9f13bc1a5e4c37cf4"), looks := false }, kinds := [], alts := [], laidByText := true, laidKinds := [.data, .data, .data], laidTests := true, laidLooks := .later }
def MisdeedPicksCardSaid : Prop := Claim7.holds Tryz.pinned (.plain (OpenSpec.ofChange misdeedPicksSpec)) misdeedPicksCard

/-- THE SECOND FORM's CARD OF 'assentlaw11.MisdeedVerifies'. -/
def misdeedVerifiesUptoCard : Claim7 := { stood := { row := misdeedVerifiesUptoRow, standIns := [], harness := (true, "be8391039242d54b0f9a6c1549da5aa765cae02a272de0b9f13bc1a5e4c37cf4"), looks := false }, kinds := [], alts := [], laidByText := true, laidKinds := [.data, .data, .data], laidTests := true, laidLooks := .later }
def MisdeedVerifiesUptoCardSaid : Prop := Claim7.holds Tryz.pinned (.plain (OpenSpec.upto misdeedVerifiesSpec)) misdeedVerifiesUptoCard

/-- THE SECOND FORM's CARD OF 'assentlaw17.BlameLooks'. -/
def blameLooksUptoCard : Claim7 := { stood := { row := blameLooksUptoRow, standIns := [], harness := (true, "be8391039242d54b0f9a6c1549da5aa765cae02a272de0b9f13bc1a5e4c37cf4"), looks := false }, kinds := [], alts := [], laidByText := true, laidKinds := [.data, .data, .data, .data], laidTests := true, laidLooks := .later }
def BlameLooksUptoCardSaid : Prop := Claim7.holds Tryz.pinned (.plain (OpenSpec.upto blameLooksSpec)) blameLooksUptoCard

/-- THE SECOND FORM's CARD OF 'assentlaw17.BlameHonest'. -/
def blameHonestUptoCard : Claim7 := { stood := { row := blameHonestUptoRow, standIns := [], harness := (true, "be8391039242d54b0f9a6c1549da5aa765cae02a272de0b9f13bc1a5e4c37cf4"), looks := false }, kinds := [], alts := [], laidByText := true, laidKinds := [.data, .data, .data], laidTests := true, laidLooks := .later }
def BlameHonestUptoCardSaid : Prop := Claim7.holds Tryz.pinned (.plain (OpenSpec.upto blameHonestSpec)) blameHonestUptoCard

/-- THE SECOND FORM's CARD OF 'assentlaw11.MisdeedNil'. -/
def misdeedNilUptoCard : Claim7 := { stood := { row := misdeedNilUptoRow, standIns := [], harness := (true, "be8391039242d54b0f9a6c1549da5aa765cae02a272de0b9f13bc1a5e4c37cf4"), looks := false }, kinds := [], alts := [], laidByText := true, laidKinds := [.data, .data], laidTests := true, laidLooks := .later }
def MisdeedNilUptoCardSaid : Prop := Claim7.holds Tryz.pinned (.plain (OpenSpec.upto misdeedNilSpec)) misdeedNilUptoCard

/-- THE SECOND FORM's CARD OF 'assentlaw11.MisdeedPools'. -/
def misdeedPoolsUptoCard : Claim7 := { stood := { row := misdeedPoolsUptoRow, standIns := [], harness := (true, "be8391039242d54b0f9a6c1549da5aa765cae02a272de0b9f13bc1a5e4c37cf4"), looks := false }, kinds := [], alts := [], laidByText := true, laidKinds := [.data, .data, .data], laidTests := true, laidLooks := .later }
def MisdeedPoolsUptoCardSaid : Prop := Claim7.holds Tryz.pinned (.plain (OpenSpec.upto misdeedPoolsSpec)) misdeedPoolsUptoCard

/-- THE SECOND FORM's CARD OF 'assentlaw11.MisdeedPicks'. -/
def misdeedPicksUptoCard : Claim7 := { stood := { row := misdeedPicksUptoRow, standIns := [], harness := (true, "be8391039242d54b0f9a6c1549da5aa765cae02a272de0b9f13bc1a5e4c37cf4"), looks := false }, kinds := [], alts := [], laidByText := true, laidKinds := [.data, .data, .data], laidTests := true, laidLooks := .later }
def MisdeedPicksUptoCardSaid : Prop := Claim7.holds Tryz.pinned (.plain (OpenSpec.upto misdeedPicksSpec)) misdeedPicksUptoCard
end Rows
end Go.Proofs.YtofophjfgalhaaaGreatDoor
