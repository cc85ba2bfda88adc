/-
  DERIVED. GIVEN WITH THE SEED: THE CARDS: each row of YtpighccmakogpaaDoorRows.lean that lists a variable, with what it lists TIED to the program's text (the seventh form; the later family's looks); each row that meets fmt, with fmt's text TOLD by the authors' own Lean function (tested against real Go, not proved from fmt's source: count such statements apart). THE CARD IS WHAT COUNTS. Prove the row's statement (the work); the ties are given (YtpighccmakogpaaDoorTie.lean); close each card by the builder's one call (the guide's Derived/Test/ToyasCard.lean, 'card_holds'). Laid BY PROGRAM, IN A SANDBOX (cutbox-door.mjs). By AI agents, Wed Nov 11 2026. No macro, syntax, notation, axiom, sorry.
-/
import Derived.Test.YtpighccmakogpaaDoorRows
import GoSem.ClaimSeven
namespace Go.Proofs.YtpighccmakogpaaDoor
namespace Rows

/-- THE TIED CARD OF 'gamehallkeep3.RatingTurns'. -/
def ratingTurnsCard : Claim7 := { stood := { row := ratingTurnsRow, standIns := [], harness := (true, "bb8e8397c7d243ebe644b66d8887d6dc980cedaae969ea0a98aa4472e0759625"), looks := false }, kinds := [], alts := [], laidByText := true, laidKinds := [.data], laidTests := true, laidLooks := .later }
def RatingTurnsCardSaid : Prop := Claim7.holds Tryd.pinned (.plain (OpenSpec.ofChange ratingTurnsSpec)) ratingTurnsCard

/-- THE TIED CARD OF 'gamehallkeep3.RatingParts'. -/
def ratingPartsCard : Claim7 := { stood := { row := ratingPartsRow, standIns := [], harness := (true, "bb8e8397c7d243ebe644b66d8887d6dc980cedaae969ea0a98aa4472e0759625"), looks := false }, kinds := [], alts := [], laidByText := true, laidKinds := [.data], laidTests := true, laidLooks := .later }
def RatingPartsCardSaid : Prop := Claim7.holds Tryd.pinned (.plain (OpenSpec.ofChange ratingPartsSpec)) ratingPartsCard

/-- THE TIED CARD OF 'gamehallkeep3.RatingKept'. -/
def ratingKeptCard : Claim7 := { stood := { row := ratingKeptRow, standIns := [], harness := (true, "bb8e8397c7d243ebe644b66d8887d6dc980cedaae969ea0a98aa4472e0759625"), looks := false }, kinds := [], alts := [], laidByText := true, laidKinds := [.data], laidTests := true, laidLooks := .later }
def RatingKeptCardSaid : Prop := Claim7.holds Tryd.pinned (.plain (OpenSpec.ofChange ratingKeptSpec)) ratingKeptCard

/-- THE SECOND FORM's CARD OF 'gamehallkeep3.RatingTurns'. -/
def ratingTurnsUptoCard : Claim7 := { stood := { row := ratingTurnsUptoRow, standIns := [], harness := (true, "bb8e8397c7d243ebe644b66d8887d6dc980cedaae969ea0a98aa4472e0759625"), looks := false }, kinds := [], alts := [], laidByText := true, laidKinds := [.data], laidTests := true, laidLooks := .later }
def RatingTurnsUptoCardSaid : Prop := Claim7.holds Tryd.pinned (.plain (OpenSpec.upto ratingTurnsSpec)) ratingTurnsUptoCard

/-- THE SECOND FORM's CARD OF 'gamehallkeep3.RatingParts'. -/
def ratingPartsUptoCard : Claim7 := { stood := { row := ratingPartsUptoRow, standIns := [], harness := (true, "bb8e8397c7d243ebe644b66d8887d6dc980cedaae969ea0a98aa4472e0759625"), looks := false }, kinds := [], alts := [], laidByText := true, laidKinds := [.data], laidTests := true, laidLooks := .later }
def RatingPartsUptoCardSaid : Prop := Claim7.holds Tryd.pinned (.plain (OpenSpec.upto ratingPartsSpec)) ratingPartsUptoCard

/-- THE SECOND FORM's CARD OF 'gamehallkeep3.RatingKept'. -/
def ratingKeptUptoCard : Claim7 := { stood := { row := ratingKeptUptoRow, standIns := [], harness := (true, "bb8e8397c7d243ebe644b66d8887d6dc980cedaae969ea0a98aa4472e0759625"), looks := false }, kinds := [], alts := [], laidByText := true, laidKinds := [.data], laidTests := true, laidLooks := .later }
def RatingKeptUptoCardSaid : Prop := Claim7.holds Tryd.pinned (.plain (OpenSpec.upto ratingKeptSpec)) ratingKeptUptoCard
end Rows
end Go.Proofs.YtpighccmakogpaaDoor
