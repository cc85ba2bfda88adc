/-
  DERIVED. GIVEN WITH THE SEED: THE CARDS: each row of YtpnbiakaknbofaaGreatDoorRows.lean that lists a variable, with what it lists TIED to the program's text (the seventh form; the later family's looks); each row that meets fmt, with fmt's text TOLD by the authors' own Lean function (tested against real Go, not proved from fmt's source: count such statements apart). THE CARD IS WHAT COUNTS. Prove the row's statement (the work); the ties are given (YtpnbiakaknbofaaGreatDoorTie.lean); close each card by the builder's one call (the guide's Derived/Test/ToyasCard.lean, 'card_holds'). Laid BY PROGRAM, IN A SANDBOX (cutbox-door.mjs). By AI agents, Wed Nov 11 2026. No macro, syntax, notation, axiom, sorry.
-/
import Derived.Test.YtpnbiakaknbofaaGreatDoorRows
import GoSem.ClaimSeven
namespace Go.Proofs.YtpnbiakaknbofaaGreatDoor
namespace Rows

/-- THE TIED CARD OF 'gamehallkeep3.MatchRefuses'. -/
def matchRefusesCard : Claim7 := { stood := { row := matchRefusesRow, standIns := [], harness := (true, "371426b75816c12dbaadd1ec39f0dae827ba1f0c9eee2edb14927ce75f9d1d58"), looks := true }, kinds := [], alts := [], laidByText := true, laidKinds := [.data, .data, .data], laidTests := true, laidLooks := .later }
def MatchRefusesCardSaid : Prop := Claim7.holds Tryz.pinned (.plain (OpenSpec.ofChange matchRefusesSpec)) matchRefusesCard

/-- THE TIED CARD OF 'gamehallkeep3.MatchEnds'. -/
def matchEndsCard : Claim7 := { stood := { row := matchEndsRow, standIns := [], harness := (true, "371426b75816c12dbaadd1ec39f0dae827ba1f0c9eee2edb14927ce75f9d1d58"), looks := true }, kinds := [], alts := [], laidByText := true, laidKinds := [.data, .data, .data], laidTests := true, laidLooks := .later }
def MatchEndsCardSaid : Prop := Claim7.holds Tryz.pinned (.plain (OpenSpec.ofChange matchEndsSpec)) matchEndsCard

/-- THE TIED CARD OF 'gamehallkeep3.MatchLoads'. -/
def matchLoadsCard : Claim7 := { stood := { row := matchLoadsRow, standIns := [], harness := (true, "371426b75816c12dbaadd1ec39f0dae827ba1f0c9eee2edb14927ce75f9d1d58"), looks := true }, kinds := [], alts := [], laidByText := true, laidKinds := [.data, .data, .data, .data, .sentinel, .sentinel, .pinned], laidTests := true, laidLooks := .later }
def MatchLoadsCardSaid : Prop := Claim7.holds Tryz.pinned (.plain (OpenSpec.ofChange matchLoadsSpec)) matchLoadsCard

/-- THE TIED CARD OF 'gamehallkeep3.RefereeLegal'. -/
def refereeLegalCard : Claim7 := { stood := { row := refereeLegalRow, standIns := [], harness := (true, "371426b75816c12dbaadd1ec39f0dae827ba1f0c9eee2edb14927ce75f9d1d58"), looks := true }, kinds := [], alts := [], laidByText := true, laidKinds := [.data, .data, .data, .data, .sentinel, .sentinel, .pinned], laidTests := true, laidLooks := .later }
def RefereeLegalCardSaid : Prop := Claim7.holds Tryz.pinned (.plain (OpenSpec.ofChange refereeLegalSpec)) refereeLegalCard

/-- THE TIED CARD OF 'gamehallkeep3.RefereeEarlier'. -/
def refereeEarlierCard : Claim7 := { stood := { row := refereeEarlierRow, standIns := [], harness := (true, "371426b75816c12dbaadd1ec39f0dae827ba1f0c9eee2edb14927ce75f9d1d58"), looks := true }, kinds := [], alts := [], laidByText := true, laidKinds := [.data, .data, .data, .data, .sentinel, .sentinel, .pinned], laidTests := true, laidLooks := .later }
def RefereeEarlierCardSaid : Prop := Claim7.holds Tryz.pinned (.plain (OpenSpec.ofChange refereeEarlierSpec)) refereeEarlierCard

/-- THE TIED CARD OF 'gamehalltop.TopClocks'. -/
def topClocksCard : Claim7 := { stood := { row := topClocksRow, standIns := [], harness := (true, "371426b75816c12dbaadd1ec39f0dae827ba1f0c9eee2edb14927ce75f9d1d58"), looks := true }, kinds := [], alts := [], laidByText := true, laidKinds := [.data, .data, .data, .data], laidTests := true, laidLooks := .later }
def TopClocksCardSaid : Prop := Claim7.holds Tryz.pinned (.plain (OpenSpec.ofChange topClocksSpec)) topClocksCard

/-- THE SECOND FORM's CARD OF 'gamehallkeep3.MatchRefuses'. -/
def matchRefusesUptoCard : Claim7 := { stood := { row := matchRefusesUptoRow, standIns := [], harness := (true, "371426b75816c12dbaadd1ec39f0dae827ba1f0c9eee2edb14927ce75f9d1d58"), looks := true }, kinds := [], alts := [], laidByText := true, laidKinds := [.data, .data, .data], laidTests := true, laidLooks := .later }
def MatchRefusesUptoCardSaid : Prop := Claim7.holds Tryz.pinned (.plain (OpenSpec.upto matchRefusesSpec)) matchRefusesUptoCard

/-- THE SECOND FORM's CARD OF 'gamehallkeep3.MatchEnds'. -/
def matchEndsUptoCard : Claim7 := { stood := { row := matchEndsUptoRow, standIns := [], harness := (true, "371426b75816c12dbaadd1ec39f0dae827ba1f0c9eee2edb14927ce75f9d1d58"), looks := true }, kinds := [], alts := [], laidByText := true, laidKinds := [.data, .data, .data], laidTests := true, laidLooks := .later }
def MatchEndsUptoCardSaid : Prop := Claim7.holds Tryz.pinned (.plain (OpenSpec.upto matchEndsSpec)) matchEndsUptoCard

/-- THE SECOND FORM's CARD OF 'gamehallkeep3.MatchLoads'. -/
def matchLoadsUptoCard : Claim7 := { stood := { row := matchLoadsUptoRow, standIns := [], harness := (true, "371426b75816c12dbaadd1ec39f0dae827ba1f0c9eee2edb14927ce75f9d1d58"), looks := true }, kinds := [], alts := [], laidByText := true, laidKinds := [.data, .data, .data, .data, .sentinel, .sentinel, .pinned], laidTests := true, laidLooks := .later }
def MatchLoadsUptoCardSaid : Prop := Claim7.holds Tryz.pinned (.plain (OpenSpec.upto matchLoadsSpec)) matchLoadsUptoCard

/-- THE SECOND FORM's CARD OF 'gamehallkeep3.RefereeLegal'. -/
def refereeLegalUptoCard : Claim7 := { stood := { row := refereeLegalUptoRow, standIns := [], harness := (true, "371426b75816c12dbaadd1ec39f0dae827ba1f0c9eee2edb14927ce75f9d1d58"), looks := true }, kinds := [], alts := [], laidByText := true, laidKinds := [.data, .data, .data, .data, .sentinel, .sentinel, .pinned], laidTests := true, laidLooks := .later }
def RefereeLegalUptoCardSaid : Prop := Claim7.holds Tryz.pinned (.plain (OpenSpec.upto refereeLegalSpec)) refereeLegalUptoCard

/-- THE SECOND FORM's CARD OF 'gamehallkeep3.RefereeEarlier'. -/
def refereeEarlierUptoCard : Claim7 := { stood := { row := refereeEarlierUptoRow, standIns := [], harness := (true, "371426b75816c12dbaadd1ec39f0dae827ba1f0c9eee2edb14927ce75f9d1d58"), looks := true }, kinds := [], alts := [], laidByText := true, laidKinds := [.data, .data, .data, .data, .sentinel, .sentinel, .pinned], laidTests := true, laidLooks := .later }
def RefereeEarlierUptoCardSaid : Prop := Claim7.holds Tryz.pinned (.plain (OpenSpec.upto refereeEarlierSpec)) refereeEarlierUptoCard

/-- THE SECOND FORM's CARD OF 'gamehalltop.TopClocks'. -/
def topClocksUptoCard : Claim7 := { stood := { row := topClocksUptoRow, standIns := [], harness := (true, "371426b75816c12dbaadd1ec39f0dae827ba1f0c9eee2edb14927ce75f9d1d58"), looks := true }, kinds := [], alts := [], laidByText := true, laidKinds := [.data, .data, .data, .data], laidTests := true, laidLooks := .later }
def TopClocksUptoCardSaid : Prop := Claim7.holds Tryz.pinned (.plain (OpenSpec.upto topClocksSpec)) topClocksUptoCard
end Rows
end Go.Proofs.YtpnbiakaknbofaaGreatDoor
