/-
  NARROWER THAN 'FOR EVERY INPUT', by the rows' own cells (each row's printed sentence says how): RatingTurns: laid · RatingParts: laid · RatingKept: laid.
  DERIVED. THE GIVEN ROWS OF THIS SEAT. 3 by the template 'for every input the law returns true; each argument reads behind the call as it read before'; 0 by the template 'total and deterministic' (their statements: YtpighccmakogpaaDoorTotals.lean).
  GIVEN WITH THE SEED: the statements are not yours to turn. If you find one false, say at which input.
  Laid BY PROGRAM, IN A SANDBOX (cutbox-rows.mjs): the forced cells as the released guide's own fill.sh prints them over the translation ae5ee18d2ad550aa… (all of the seat's roots in one cut). By AI agents, Wed Nov 11 2026. No macro, syntax, notation, axiom, sorry.
-/
import Derived.Test.YtpighccmakogpaaDoorChecked
import GoSem.Claim
import GoSem.ClaimJoined
import GoSem.ClaimMapViews
import Derived.JoinedTies
import Derived.KernelRfl
namespace Go.Proofs.YtpighccmakogpaaDoor
/- THE CELL 'sum', in the pinned program and in every row, IS THE sha256 OF THE DUMP (.gsa) THAT YtpighccmakogpaaDoorProg.lean LOADS. Nothing in Lean hashes anything: it is a label: what it is worth is what the hold of that sum in a sandbox is worth. -/
noncomputable def Tryd.pinned : Pinned := { name := "ytpighccmakogpaadoor", sum := "ae5ee18d2ad550aa5c10c3b3454b5c2575b5766c7b09dd374c11d6b0a4f34b7c", checked := Tryd.checked }
namespace Rows
def none {H : Type} : Left H := { results := [], args := [] }

/- WHAT THE LISTED PACKAGE-LEVEL VARIABLES READ AS WHEN THE CALL BEGINS. Each datum BY PROGRAM (the guide's laid-datum.mjs) off the statement by which the dump's own 'gosem.cut.vars' lays the variable. In a bare row this is a premise. The card (YtpighccmakogpaaDoorCards.lean) ties it to the program's text. -/
def laid_gamehall_rating_steps {H : Type} : DataW H := .agg [.lit (.int .i64 4), .lit (.int .i64 11), .lit (.int .i64 18), .lit (.int .i64 26), .lit (.int .i64 33), .lit (.int .i64 40), .lit (.int .i64 47), .lit (.int .i64 54), .lit (.int .i64 62), .lit (.int .i64 69), .lit (.int .i64 77), .lit (.int .i64 84), .lit (.int .i64 92), .lit (.int .i64 99), .lit (.int .i64 107), .lit (.int .i64 114), .lit (.int .i64 122), .lit (.int .i64 130), .lit (.int .i64 138), .lit (.int .i64 146), .lit (.int .i64 154), .lit (.int .i64 163), .lit (.int .i64 171), .lit (.int .i64 180), .lit (.int .i64 189), .lit (.int .i64 198), .lit (.int .i64 207), .lit (.int .i64 216), .lit (.int .i64 226), .lit (.int .i64 236), .lit (.int .i64 246), .lit (.int .i64 257), .lit (.int .i64 268), .lit (.int .i64 279), .lit (.int .i64 291), .lit (.int .i64 303), .lit (.int .i64 316), .lit (.int .i64 329), .lit (.int .i64 345), .lit (.int .i64 358), .lit (.int .i64 375), .lit (.int .i64 392)]

/-- 'gamehallkeep3.RatingTurns': WHATEVER THE INPUT: true; the input reads as it did. -/
def ratingTurnsSpec : ChangeSpec := { name := "ratingTurns", fn := fun _ => fun
  | [d1, d2, d3, d4, d5] => { results := [.lit (.bool true)], args := [d1, d2, d3, d4, d5] }
  | _ => none }
def ratingTurnsRow : OpenClaim := { program := "ytpighccmakogpaadoor", sum := "ae5ee18d2ad550aa5c10c3b3454b5c2575b5766c7b09dd374c11d6b0a4f34b7c", func := "gamehall/gamehallkeep3.RatingTurns", spec := "ratingTurns", recurses := true, named := ["gamehall/rating.steps"], apart := false, laid := [("gamehall/rating.steps", laid_gamehall_rating_steps)] }
def RatingTurnsSaid : Prop := ratingTurnsRow.holds Tryd.pinned (OpenSpec.ofChange ratingTurnsSpec)

/-- ITS FALSE NEIGHBOUR: 'it returns false'. Refute it at one input. -/
def ratingTurnsWrong : ChangeSpec := { name := "ratingTurns", fn := fun _ => fun
  | [d1, d2, d3, d4, d5] => { results := [.lit (.bool false)], args := [d1, d2, d3, d4, d5] }
  | _ => none }
def RatingTurnsWrongFalsely : Prop := ratingTurnsRow.holds Tryd.pinned (OpenSpec.ofChange ratingTurnsWrong)

/-- 'gamehallkeep3.RatingParts': WHATEVER THE INPUT: true; the input reads as it did. -/
def ratingPartsSpec : ChangeSpec := { name := "ratingParts", fn := fun _ => fun
  | [d1, d2, d3, d4] => { results := [.lit (.bool true)], args := [d1, d2, d3, d4] }
  | _ => none }
def ratingPartsRow : OpenClaim := { program := "ytpighccmakogpaadoor", sum := "ae5ee18d2ad550aa5c10c3b3454b5c2575b5766c7b09dd374c11d6b0a4f34b7c", func := "gamehall/gamehallkeep3.RatingParts", spec := "ratingParts", recurses := true, named := ["gamehall/rating.steps"], apart := false, laid := [("gamehall/rating.steps", laid_gamehall_rating_steps)] }
def RatingPartsSaid : Prop := ratingPartsRow.holds Tryd.pinned (OpenSpec.ofChange ratingPartsSpec)

/-- ITS FALSE NEIGHBOUR: 'it returns false'. Refute it at one input. -/
def ratingPartsWrong : ChangeSpec := { name := "ratingParts", fn := fun _ => fun
  | [d1, d2, d3, d4] => { results := [.lit (.bool false)], args := [d1, d2, d3, d4] }
  | _ => none }
def RatingPartsWrongFalsely : Prop := ratingPartsRow.holds Tryd.pinned (OpenSpec.ofChange ratingPartsWrong)

/-- 'gamehallkeep3.RatingKept': WHATEVER THE INPUT: true; the input reads as it did. -/
def ratingKeptSpec : ChangeSpec := { name := "ratingKept", fn := fun _ => fun
  | [d1, d2, d3] => { results := [.lit (.bool true)], args := [d1, d2, d3] }
  | _ => none }
def ratingKeptRow : OpenClaim := { program := "ytpighccmakogpaadoor", sum := "ae5ee18d2ad550aa5c10c3b3454b5c2575b5766c7b09dd374c11d6b0a4f34b7c", func := "gamehall/gamehallkeep3.RatingKept", spec := "ratingKept", recurses := true, named := ["gamehall/rating.steps"], apart := false, laid := [("gamehall/rating.steps", laid_gamehall_rating_steps)] }
def RatingKeptSaid : Prop := ratingKeptRow.holds Tryd.pinned (OpenSpec.ofChange ratingKeptSpec)

/-- ITS FALSE NEIGHBOUR: 'it returns false'. Refute it at one input. -/
def ratingKeptWrong : ChangeSpec := { name := "ratingKept", fn := fun _ => fun
  | [d1, d2, d3] => { results := [.lit (.bool false)], args := [d1, d2, d3] }
  | _ => none }
def RatingKeptWrongFalsely : Prop := ratingKeptRow.holds Tryd.pinned (OpenSpec.ofChange ratingKeptWrong)

/- THE SECOND FORM. 'bulk': how many values and letters a reading holds, each counted each time it is reached (what is shared counts as often as it is met; a slice's spare places count too). A statement '..UptoSaid' is the law's where the arguments, and the package variables that the reading takes, are together of bulk at most 1048576: NARROWER than '..Said'. Prove '..Said' where nothing that the law and all that it calls make is longer than what came in: it says more and counts as full. Else prove '..UptoSaid'. A law counts once. -/
mutual
def uptoBulk {H : Type} : DataW H → Nat
  | .lit (.string bytes) => bytes.length + 1
  | .lit _ => 1
  | .nil => 1
  | .ptr d => uptoBulk d + 1
  | .slice elems spare => uptoBulkAll elems + uptoBulkAll spare + 1
  | .agg parts => uptoBulkAll parts + 1
  | .iface _ d => uptoBulk d + 1
  | .map entries => uptoBulkEntries entries + 1
  | .held _ => 1
def uptoBulkAll {H : Type} : List (DataW H) → Nat
  | [] => 0
  | d :: r => uptoBulk d + uptoBulkAll r
def uptoBulkEntries {H : Type} : List (Lit × DataW H) → Nat
  | [] => 0
  | x :: r => uptoBulkEntry x + uptoBulkEntries r
def uptoBulkEntry {H : Type} : Lit × DataW H → Nat
  | (.string bytes, d) => bytes.length + uptoBulk d + 1
  | (_, d) => uptoBulk d + 1
 end
def uptoSmall : (H : Type) → List (DataW H) → Bool := fun _ ds => decide (uptoBulkAll ds ≤ 1048576)
def OpenSpec.upto (s : _root_.Go.ChangeSpec) : _root_.Go.OpenSpec := { _root_.Go.OpenSpec.ofChange s with cond := some uptoSmall }

/-- 'gamehallkeep3.RatingTurns', WHERE WHAT IT READS IS OF BULK AT MOST 1048576: true; the input reads as it did. -/
def ratingTurnsUptoRow : OpenClaim := { program := "ytpighccmakogpaadoor", sum := "ae5ee18d2ad550aa5c10c3b3454b5c2575b5766c7b09dd374c11d6b0a4f34b7c", func := "gamehall/gamehallkeep3.RatingTurns", spec := "ratingTurns", recurses := true, named := ["gamehall/rating.steps"], apart := false, laid := [("gamehall/rating.steps", laid_gamehall_rating_steps)], narrowed := true }
def RatingTurnsUptoSaid : Prop := ratingTurnsUptoRow.holds Tryd.pinned (OpenSpec.upto ratingTurnsSpec)

/-- 'gamehallkeep3.RatingParts', WHERE WHAT IT READS IS OF BULK AT MOST 1048576: true; the input reads as it did. -/
def ratingPartsUptoRow : OpenClaim := { program := "ytpighccmakogpaadoor", sum := "ae5ee18d2ad550aa5c10c3b3454b5c2575b5766c7b09dd374c11d6b0a4f34b7c", func := "gamehall/gamehallkeep3.RatingParts", spec := "ratingParts", recurses := true, named := ["gamehall/rating.steps"], apart := false, laid := [("gamehall/rating.steps", laid_gamehall_rating_steps)], narrowed := true }
def RatingPartsUptoSaid : Prop := ratingPartsUptoRow.holds Tryd.pinned (OpenSpec.upto ratingPartsSpec)

/-- 'gamehallkeep3.RatingKept', WHERE WHAT IT READS IS OF BULK AT MOST 1048576: true; the input reads as it did. -/
def ratingKeptUptoRow : OpenClaim := { program := "ytpighccmakogpaadoor", sum := "ae5ee18d2ad550aa5c10c3b3454b5c2575b5766c7b09dd374c11d6b0a4f34b7c", func := "gamehall/gamehallkeep3.RatingKept", spec := "ratingKept", recurses := true, named := ["gamehall/rating.steps"], apart := false, laid := [("gamehall/rating.steps", laid_gamehall_rating_steps)], narrowed := true }
def RatingKeptUptoSaid : Prop := ratingKeptUptoRow.holds Tryd.pinned (OpenSpec.upto ratingKeptSpec)

end Rows
end Go.Proofs.YtpighccmakogpaaDoor
