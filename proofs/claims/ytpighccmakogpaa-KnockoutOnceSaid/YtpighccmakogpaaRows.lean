/-
  No cell of these rows narrows 'for every input' (looked for: loops, veiled, ifaces, maps, wideKeys, modest, calm, conditions, laid).
  DERIVED. THE GIVEN ROWS OF THIS SEAT. 9 by the template 'for every input the law returns true; each argument reads behind the call as it read before'; 0 by the template 'total and deterministic' (their statements: YtpighccmakogpaaTotals.lean).
  GIVEN WITH THE SEED: the statements are not yours to turn. If you find one false, say at which input.
  Laid BY PROGRAM, IN A SANDBOX (cutbox-rows.mjs): the forced cells as the released guide's own fill.sh prints them over the translation e39aa86f72695f7b… (all of the seat's roots in one cut). By AI agents, Wed Nov 11 2026. No macro, syntax, notation, axiom, sorry.
-/
import Derived.Test.YtpighccmakogpaaChecked
import GoSem.Claim
import GoSem.ClaimJoined
import GoSem.ClaimMapViews
import Derived.JoinedTies
import Derived.KernelRfl
namespace Go.Proofs.Ytpighccmakogpaa
/- THE CELL 'sum', in the pinned program and in every row, IS THE sha256 OF THE DUMP (.gsa) THAT YtpighccmakogpaaProg.lean LOADS. Nothing in Lean hashes anything: it is a label: what it is worth is what the hold of that sum in a sandbox is worth. -/
noncomputable def Try.pinned : Pinned := { name := "ytpighccmakogpaa", sum := "e39aa86f72695f7b8c6f47649d7660d8941df9330e6cb7f81308b5e0a3a8fdd5", checked := Try.checked }
namespace Rows
def none {H : Type} : Left H := { results := [], args := [] }

/-- 'gamehallkeep3.KnockoutByes': WHATEVER THE INPUT: true; the input reads as it did. -/
def knockoutByesSpec : ChangeSpec := { name := "knockoutByes", fn := fun _ => fun
  | [d] => { results := [.lit (.bool true)], args := [d] }
  | _ => none }
def knockoutByesRow : OpenClaim := { program := "ytpighccmakogpaa", sum := "e39aa86f72695f7b8c6f47649d7660d8941df9330e6cb7f81308b5e0a3a8fdd5", func := "gamehall/gamehallkeep3.KnockoutByes", spec := "knockoutByes", apart := false }
def KnockoutByesSaid : Prop := knockoutByesRow.holds Try.pinned (OpenSpec.ofChange knockoutByesSpec)

/-- ITS FALSE NEIGHBOUR: 'it returns false'. Refute it at one input. -/
def knockoutByesWrong : ChangeSpec := { name := "knockoutByes", fn := fun _ => fun
  | [d] => { results := [.lit (.bool false)], args := [d] }
  | _ => none }
def KnockoutByesWrongFalsely : Prop := knockoutByesRow.holds Try.pinned (OpenSpec.ofChange knockoutByesWrong)

/-- 'gamehallkeep3.RobinRest': WHATEVER THE INPUT: true; the input reads as it did. -/
def robinRestSpec : ChangeSpec := { name := "robinRest", fn := fun _ => fun
  | [d1, d2, d3] => { results := [.lit (.bool true)], args := [d1, d2, d3] }
  | _ => none }
def robinRestRow : OpenClaim := { program := "ytpighccmakogpaa", sum := "e39aa86f72695f7b8c6f47649d7660d8941df9330e6cb7f81308b5e0a3a8fdd5", func := "gamehall/gamehallkeep3.RobinRest", spec := "robinRest", apart := false }
def RobinRestSaid : Prop := robinRestRow.holds Try.pinned (OpenSpec.ofChange robinRestSpec)

/-- ITS FALSE NEIGHBOUR: 'it returns false'. Refute it at one input. -/
def robinRestWrong : ChangeSpec := { name := "robinRest", fn := fun _ => fun
  | [d1, d2, d3] => { results := [.lit (.bool false)], args := [d1, d2, d3] }
  | _ => none }
def RobinRestWrongFalsely : Prop := robinRestRow.holds Try.pinned (OpenSpec.ofChange robinRestWrong)

/-- 'gamehallkeep3.OfferOnce': WHATEVER THE INPUT: true; the input reads as it did. -/
def offerOnceSpec : ChangeSpec := { name := "offerOnce", fn := fun _ => fun
  | [d1, d2, d3, d4] => { results := [.lit (.bool true)], args := [d1, d2, d3, d4] }
  | _ => none }
def offerOnceRow : OpenClaim := { program := "ytpighccmakogpaa", sum := "e39aa86f72695f7b8c6f47649d7660d8941df9330e6cb7f81308b5e0a3a8fdd5", func := "gamehall/gamehallkeep3.OfferOnce", spec := "offerOnce", apart := false }
def OfferOnceSaid : Prop := offerOnceRow.holds Try.pinned (OpenSpec.ofChange offerOnceSpec)

/-- ITS FALSE NEIGHBOUR: 'it returns false'. Refute it at one input. -/
def offerOnceWrong : ChangeSpec := { name := "offerOnce", fn := fun _ => fun
  | [d1, d2, d3, d4] => { results := [.lit (.bool false)], args := [d1, d2, d3, d4] }
  | _ => none }
def OfferOnceWrongFalsely : Prop := offerOnceRow.holds Try.pinned (OpenSpec.ofChange offerOnceWrong)

/-- 'gamehallkeep3.RobinFair': WHATEVER THE INPUT: true; the input reads as it did. -/
def robinFairSpec : ChangeSpec := { name := "robinFair", fn := fun _ => fun
  | [d1, d2] => { results := [.lit (.bool true)], args := [d1, d2] }
  | _ => none }
def robinFairRow : OpenClaim := { program := "ytpighccmakogpaa", sum := "e39aa86f72695f7b8c6f47649d7660d8941df9330e6cb7f81308b5e0a3a8fdd5", func := "gamehall/gamehallkeep3.RobinFair", spec := "robinFair", apart := false }
def RobinFairSaid : Prop := robinFairRow.holds Try.pinned (OpenSpec.ofChange robinFairSpec)

/-- ITS FALSE NEIGHBOUR: 'it returns false'. Refute it at one input. -/
def robinFairWrong : ChangeSpec := { name := "robinFair", fn := fun _ => fun
  | [d1, d2] => { results := [.lit (.bool false)], args := [d1, d2] }
  | _ => none }
def RobinFairWrongFalsely : Prop := robinFairRow.holds Try.pinned (OpenSpec.ofChange robinFairWrong)

/-- 'gamehallkeep3.RobinWhole': WHATEVER THE INPUT: true; the input reads as it did. -/
def robinWholeSpec : ChangeSpec := { name := "robinWhole", fn := fun _ => fun
  | [d1, d2] => { results := [.lit (.bool true)], args := [d1, d2] }
  | _ => none }
def robinWholeRow : OpenClaim := { program := "ytpighccmakogpaa", sum := "e39aa86f72695f7b8c6f47649d7660d8941df9330e6cb7f81308b5e0a3a8fdd5", func := "gamehall/gamehallkeep3.RobinWhole", spec := "robinWhole", apart := false }
def RobinWholeSaid : Prop := robinWholeRow.holds Try.pinned (OpenSpec.ofChange robinWholeSpec)

/-- ITS FALSE NEIGHBOUR: 'it returns false'. Refute it at one input. -/
def robinWholeWrong : ChangeSpec := { name := "robinWhole", fn := fun _ => fun
  | [d1, d2] => { results := [.lit (.bool false)], args := [d1, d2] }
  | _ => none }
def RobinWholeWrongFalsely : Prop := robinWholeRow.holds Try.pinned (OpenSpec.ofChange robinWholeWrong)

/-- 'gamehallkeep3.RobinRefuses': WHATEVER THE INPUT: true; the input reads as it did. -/
def robinRefusesSpec : ChangeSpec := { name := "robinRefuses", fn := fun _ => fun
  | [d1, d2, d3] => { results := [.lit (.bool true)], args := [d1, d2, d3] }
  | _ => none }
def robinRefusesRow : OpenClaim := { program := "ytpighccmakogpaa", sum := "e39aa86f72695f7b8c6f47649d7660d8941df9330e6cb7f81308b5e0a3a8fdd5", func := "gamehall/gamehallkeep3.RobinRefuses", spec := "robinRefuses", apart := false }
def RobinRefusesSaid : Prop := robinRefusesRow.holds Try.pinned (OpenSpec.ofChange robinRefusesSpec)

/-- ITS FALSE NEIGHBOUR: 'it returns false'. Refute it at one input. -/
def robinRefusesWrong : ChangeSpec := { name := "robinRefuses", fn := fun _ => fun
  | [d1, d2, d3] => { results := [.lit (.bool false)], args := [d1, d2, d3] }
  | _ => none }
def RobinRefusesWrongFalsely : Prop := robinRefusesRow.holds Try.pinned (OpenSpec.ofChange robinRefusesWrong)

/-- 'gamehallkeep3.OfferMoves': WHATEVER THE INPUT: true; the input reads as it did. -/
def offerMovesSpec : ChangeSpec := { name := "offerMoves", fn := fun _ => fun
  | [d1, d2, d3] => { results := [.lit (.bool true)], args := [d1, d2, d3] }
  | _ => none }
def offerMovesRow : OpenClaim := { program := "ytpighccmakogpaa", sum := "e39aa86f72695f7b8c6f47649d7660d8941df9330e6cb7f81308b5e0a3a8fdd5", func := "gamehall/gamehallkeep3.OfferMoves", spec := "offerMoves", apart := false }
def OfferMovesSaid : Prop := offerMovesRow.holds Try.pinned (OpenSpec.ofChange offerMovesSpec)

/-- ITS FALSE NEIGHBOUR: 'it returns false'. Refute it at one input. -/
def offerMovesWrong : ChangeSpec := { name := "offerMoves", fn := fun _ => fun
  | [d1, d2, d3] => { results := [.lit (.bool false)], args := [d1, d2, d3] }
  | _ => none }
def OfferMovesWrongFalsely : Prop := offerMovesRow.holds Try.pinned (OpenSpec.ofChange offerMovesWrong)

/-- 'gamehallkeep3.KnockoutBest': WHATEVER THE INPUT: true; the input reads as it did. -/
def knockoutBestSpec : ChangeSpec := { name := "knockoutBest", fn := fun _ => fun
  | [d] => { results := [.lit (.bool true)], args := [d] }
  | _ => none }
def knockoutBestRow : OpenClaim := { program := "ytpighccmakogpaa", sum := "e39aa86f72695f7b8c6f47649d7660d8941df9330e6cb7f81308b5e0a3a8fdd5", func := "gamehall/gamehallkeep3.KnockoutBest", spec := "knockoutBest", apart := false }
def KnockoutBestSaid : Prop := knockoutBestRow.holds Try.pinned (OpenSpec.ofChange knockoutBestSpec)

/-- ITS FALSE NEIGHBOUR: 'it returns false'. Refute it at one input. -/
def knockoutBestWrong : ChangeSpec := { name := "knockoutBest", fn := fun _ => fun
  | [d] => { results := [.lit (.bool false)], args := [d] }
  | _ => none }
def KnockoutBestWrongFalsely : Prop := knockoutBestRow.holds Try.pinned (OpenSpec.ofChange knockoutBestWrong)

/-- 'gamehallkeep3.KnockoutOnce': WHATEVER THE INPUT: true; the input reads as it did. -/
def knockoutOnceSpec : ChangeSpec := { name := "knockoutOnce", fn := fun _ => fun
  | [d1, d2] => { results := [.lit (.bool true)], args := [d1, d2] }
  | _ => none }
def knockoutOnceRow : OpenClaim := { program := "ytpighccmakogpaa", sum := "e39aa86f72695f7b8c6f47649d7660d8941df9330e6cb7f81308b5e0a3a8fdd5", func := "gamehall/gamehallkeep3.KnockoutOnce", spec := "knockoutOnce", apart := false }
def KnockoutOnceSaid : Prop := knockoutOnceRow.holds Try.pinned (OpenSpec.ofChange knockoutOnceSpec)

/-- ITS FALSE NEIGHBOUR: 'it returns false'. Refute it at one input. -/
def knockoutOnceWrong : ChangeSpec := { name := "knockoutOnce", fn := fun _ => fun
  | [d1, d2] => { results := [.lit (.bool false)], args := [d1, d2] }
  | _ => none }
def KnockoutOnceWrongFalsely : Prop := knockoutOnceRow.holds Try.pinned (OpenSpec.ofChange knockoutOnceWrong)

/- THE SECOND FORM. 'bulk': how many values and letters a reading holds, each counted each time it is reached (what is shared counts as often as it is met; a slice's spare places count too). A statement '..UptoSaid' is the law's where the arguments, and the package variables that the reading takes, are together of bulk at most 1048576: NARROWER than '..Said'. Prove '..Said' where nothing that the law and all that it calls make is longer than what came in: it says more and counts as full. Else prove '..UptoSaid'. A law counts once. -/
mutual
def uptoBulk {H : Type} : DataW H → Nat
  | .lit (.string bytes) => bytes.length + 1
  | .lit _ => 1
  | .nil => 1
  | .ptr d => uptoBulk d + 1
  | .slice elems spare => uptoBulkAll elems + uptoBulkAll spare + 1
  | .agg parts => uptoBulkAll parts + 1
  | .iface _ d => uptoBulk d + 1
  | .map entries => uptoBulkEntries entries + 1
  | .held _ => 1
def uptoBulkAll {H : Type} : List (DataW H) → Nat
  | [] => 0
  | d :: r => uptoBulk d + uptoBulkAll r
def uptoBulkEntries {H : Type} : List (Lit × DataW H) → Nat
  | [] => 0
  | x :: r => uptoBulkEntry x + uptoBulkEntries r
def uptoBulkEntry {H : Type} : Lit × DataW H → Nat
  | (.string bytes, d) => bytes.length + uptoBulk d + 1
  | (_, d) => uptoBulk d + 1
 end
def uptoSmall : (H : Type) → List (DataW H) → Bool := fun _ ds => decide (uptoBulkAll ds ≤ 1048576)
def OpenSpec.upto (s : _root_.Go.ChangeSpec) : _root_.Go.OpenSpec := { _root_.Go.OpenSpec.ofChange s with cond := some uptoSmall }

/-- 'gamehallkeep3.KnockoutByes', WHERE WHAT IT READS IS OF BULK AT MOST 1048576: true; the input reads as it did. -/
def knockoutByesUptoRow : OpenClaim := { program := "ytpighccmakogpaa", sum := "e39aa86f72695f7b8c6f47649d7660d8941df9330e6cb7f81308b5e0a3a8fdd5", func := "gamehall/gamehallkeep3.KnockoutByes", spec := "knockoutByes", apart := false, narrowed := true }
def KnockoutByesUptoSaid : Prop := knockoutByesUptoRow.holds Try.pinned (OpenSpec.upto knockoutByesSpec)

/-- 'gamehallkeep3.RobinRest', WHERE WHAT IT READS IS OF BULK AT MOST 1048576: true; the input reads as it did. -/
def robinRestUptoRow : OpenClaim := { program := "ytpighccmakogpaa", sum := "e39aa86f72695f7b8c6f47649d7660d8941df9330e6cb7f81308b5e0a3a8fdd5", func := "gamehall/gamehallkeep3.RobinRest", spec := "robinRest", apart := false, narrowed := true }
def RobinRestUptoSaid : Prop := robinRestUptoRow.holds Try.pinned (OpenSpec.upto robinRestSpec)

/-- 'gamehallkeep3.OfferOnce', WHERE WHAT IT READS IS OF BULK AT MOST 1048576: true; the input reads as it did. -/
def offerOnceUptoRow : OpenClaim := { program := "ytpighccmakogpaa", sum := "e39aa86f72695f7b8c6f47649d7660d8941df9330e6cb7f81308b5e0a3a8fdd5", func := "gamehall/gamehallkeep3.OfferOnce", spec := "offerOnce", apart := false, narrowed := true }
def OfferOnceUptoSaid : Prop := offerOnceUptoRow.holds Try.pinned (OpenSpec.upto offerOnceSpec)

/-- 'gamehallkeep3.RobinFair', WHERE WHAT IT READS IS OF BULK AT MOST 1048576: true; the input reads as it did. -/
def robinFairUptoRow : OpenClaim := { program := "ytpighccmakogpaa", sum := "e39aa86f72695f7b8c6f47649d7660d8941df9330e6cb7f81308b5e0a3a8fdd5", func := "gamehall/gamehallkeep3.RobinFair", spec := "robinFair", apart := false, narrowed := true }
def RobinFairUptoSaid : Prop := robinFairUptoRow.holds Try.pinned (OpenSpec.upto robinFairSpec)

/-- 'gamehallkeep3.RobinWhole', WHERE WHAT IT READS IS OF BULK AT MOST 1048576: true; the input reads as it did. -/
def robinWholeUptoRow : OpenClaim := { program := "ytpighccmakogpaa", sum := "e39aa86f72695f7b8c6f47649d7660d8941df9330e6cb7f81308b5e0a3a8fdd5", func := "gamehall/gamehallkeep3.RobinWhole", spec := "robinWhole", apart := false, narrowed := true }
def RobinWholeUptoSaid : Prop := robinWholeUptoRow.holds Try.pinned (OpenSpec.upto robinWholeSpec)

/-- 'gamehallkeep3.RobinRefuses', WHERE WHAT IT READS IS OF BULK AT MOST 1048576: true; the input reads as it did. -/
def robinRefusesUptoRow : OpenClaim := { program := "ytpighccmakogpaa", sum := "e39aa86f72695f7b8c6f47649d7660d8941df9330e6cb7f81308b5e0a3a8fdd5", func := "gamehall/gamehallkeep3.RobinRefuses", spec := "robinRefuses", apart := false, narrowed := true }
def RobinRefusesUptoSaid : Prop := robinRefusesUptoRow.holds Try.pinned (OpenSpec.upto robinRefusesSpec)

/-- 'gamehallkeep3.OfferMoves', WHERE WHAT IT READS IS OF BULK AT MOST 1048576: true; the input reads as it did. -/
def offerMovesUptoRow : OpenClaim := { program := "ytpighccmakogpaa", sum := "e39aa86f72695f7b8c6f47649d7660d8941df9330e6cb7f81308b5e0a3a8fdd5", func := "gamehall/gamehallkeep3.OfferMoves", spec := "offerMoves", apart := false, narrowed := true }
def OfferMovesUptoSaid : Prop := offerMovesUptoRow.holds Try.pinned (OpenSpec.upto offerMovesSpec)

/-- 'gamehallkeep3.KnockoutBest', WHERE WHAT IT READS IS OF BULK AT MOST 1048576: true; the input reads as it did. -/
def knockoutBestUptoRow : OpenClaim := { program := "ytpighccmakogpaa", sum := "e39aa86f72695f7b8c6f47649d7660d8941df9330e6cb7f81308b5e0a3a8fdd5", func := "gamehall/gamehallkeep3.KnockoutBest", spec := "knockoutBest", apart := false, narrowed := true }
def KnockoutBestUptoSaid : Prop := knockoutBestUptoRow.holds Try.pinned (OpenSpec.upto knockoutBestSpec)

/-- 'gamehallkeep3.KnockoutOnce', WHERE WHAT IT READS IS OF BULK AT MOST 1048576: true; the input reads as it did. -/
def knockoutOnceUptoRow : OpenClaim := { program := "ytpighccmakogpaa", sum := "e39aa86f72695f7b8c6f47649d7660d8941df9330e6cb7f81308b5e0a3a8fdd5", func := "gamehall/gamehallkeep3.KnockoutOnce", spec := "knockoutOnce", apart := false, narrowed := true }
def KnockoutOnceUptoSaid : Prop := knockoutOnceUptoRow.holds Try.pinned (OpenSpec.upto knockoutOnceSpec)

end Rows
end Go.Proofs.Ytpighccmakogpaa
