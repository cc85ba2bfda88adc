/-
  No cell of these rows narrows 'for every input' (looked for: loops, veiled, ifaces, maps, wideKeys, modest, calm, conditions, laid).
  DERIVED. THE GIVEN ROWS OF THIS SEAT. 4 by the template 'for every input the law returns true; each argument reads behind the call as it read before'; 0 by the template 'total and deterministic' (their statements: YticbohfmkiafiaaTotals.lean).
  GIVEN WITH THE SEED: the statements are not yours to turn. If you find one false, say at which input.
  Laid BY PROGRAM, IN A SANDBOX (cutbox-rows.mjs): the forced cells as the released guide's own fill.sh prints them over the translation fefb7d833938ac59… (all of the seat's roots in one cut). By AI agents, Wed Nov 11 2026. No macro, syntax, notation, axiom, sorry.
-/
import Derived.Test.YticbohfmkiafiaaChecked
import GoSem.Claim
import GoSem.ClaimJoined
import GoSem.ClaimMapViews
import Derived.JoinedTies
import Derived.KernelRfl
namespace Go.Proofs.Yticbohfmkiafiaa
/- THE CELL 'sum', in the pinned program and in every row, IS THE sha256 OF THE DUMP (.gsa) THAT YticbohfmkiafiaaProg.lean LOADS. Nothing in Lean hashes anything: it is a label: what it is worth is what the hold of that sum in a sandbox is worth. -/
noncomputable def Try.pinned : Pinned := { name := "yticbohfmkiafiaa", sum := "fefb7d833938ac597bc255ad4e14612de9774dfe6e6b233d01ad25dd604a3aad", checked := Try.checked }
namespace Rows
def none {H : Type} : Left H := { results := [], args := [] }

/-- 'gamehallkeep3.BookTwice': WHATEVER THE INPUT: true; the input reads as it did. -/
def bookTwiceSpec : ChangeSpec := { name := "bookTwice", fn := fun _ => fun
  | [d1, d2, d3, d4] => { results := [.lit (.bool true)], args := [d1, d2, d3, d4] }
  | _ => none }
def bookTwiceRow : OpenClaim := { program := "yticbohfmkiafiaa", sum := "fefb7d833938ac597bc255ad4e14612de9774dfe6e6b233d01ad25dd604a3aad", func := "gamehall/gamehallkeep3.BookTwice", spec := "bookTwice", inPlace := ["slices.overlaps[gamehall/api.BookEntry]"], unfollowed := true, recurses := true, apart := false }
def BookTwiceSaid : Prop := bookTwiceRow.holds Try.pinned (OpenSpec.ofChange bookTwiceSpec)

/-- ITS FALSE NEIGHBOUR: 'it returns false'. Refute it at one input. -/
def bookTwiceWrong : ChangeSpec := { name := "bookTwice", fn := fun _ => fun
  | [d1, d2, d3, d4] => { results := [.lit (.bool false)], args := [d1, d2, d3, d4] }
  | _ => none }
def BookTwiceWrongFalsely : Prop := bookTwiceRow.holds Try.pinned (OpenSpec.ofChange bookTwiceWrong)

/-- 'gamehallkeep3.BookOrder': WHATEVER THE INPUT: true; the input reads as it did. -/
def bookOrderSpec : ChangeSpec := { name := "bookOrder", fn := fun _ => fun
  | [d1, d2] => { results := [.lit (.bool true)], args := [d1, d2] }
  | _ => none }
def bookOrderRow : OpenClaim := { program := "yticbohfmkiafiaa", sum := "fefb7d833938ac597bc255ad4e14612de9774dfe6e6b233d01ad25dd604a3aad", func := "gamehall/gamehallkeep3.BookOrder", spec := "bookOrder", inPlace := ["slices.overlaps[gamehall/api.BookEntry]"], unfollowed := true, recurses := true, apart := false }
def BookOrderSaid : Prop := bookOrderRow.holds Try.pinned (OpenSpec.ofChange bookOrderSpec)

/-- ITS FALSE NEIGHBOUR: 'it returns false'. Refute it at one input. -/
def bookOrderWrong : ChangeSpec := { name := "bookOrder", fn := fun _ => fun
  | [d1, d2] => { results := [.lit (.bool false)], args := [d1, d2] }
  | _ => none }
def BookOrderWrongFalsely : Prop := bookOrderRow.holds Try.pinned (OpenSpec.ofChange bookOrderWrong)

/-- 'gamehallkeep3.BookFollows': WHATEVER THE INPUT: true; the input reads as it did. -/
def bookFollowsSpec : ChangeSpec := { name := "bookFollows", fn := fun _ => fun
  | [d1, d2, d3] => { results := [.lit (.bool true)], args := [d1, d2, d3] }
  | _ => none }
def bookFollowsRow : OpenClaim := { program := "yticbohfmkiafiaa", sum := "fefb7d833938ac597bc255ad4e14612de9774dfe6e6b233d01ad25dd604a3aad", func := "gamehall/gamehallkeep3.BookFollows", spec := "bookFollows", inPlace := ["slices.overlaps[gamehall/api.BookEntry]"], unfollowed := true, recurses := true, apart := false }
def BookFollowsSaid : Prop := bookFollowsRow.holds Try.pinned (OpenSpec.ofChange bookFollowsSpec)

/-- ITS FALSE NEIGHBOUR: 'it returns false'. Refute it at one input. -/
def bookFollowsWrong : ChangeSpec := { name := "bookFollows", fn := fun _ => fun
  | [d1, d2, d3] => { results := [.lit (.bool false)], args := [d1, d2, d3] }
  | _ => none }
def BookFollowsWrongFalsely : Prop := bookFollowsRow.holds Try.pinned (OpenSpec.ofChange bookFollowsWrong)

/-- 'gamehallkeep3.BookDraws': WHATEVER THE INPUT: true; the input reads as it did. -/
def bookDrawsSpec : ChangeSpec := { name := "bookDraws", fn := fun _ => fun
  | [d1, d2, d3] => { results := [.lit (.bool true)], args := [d1, d2, d3] }
  | _ => none }
def bookDrawsRow : OpenClaim := { program := "yticbohfmkiafiaa", sum := "fefb7d833938ac597bc255ad4e14612de9774dfe6e6b233d01ad25dd604a3aad", func := "gamehall/gamehallkeep3.BookDraws", spec := "bookDraws", inPlace := ["slices.overlaps[gamehall/api.BookEntry]"], unfollowed := true, recurses := true, apart := false }
def BookDrawsSaid : Prop := bookDrawsRow.holds Try.pinned (OpenSpec.ofChange bookDrawsSpec)

/-- ITS FALSE NEIGHBOUR: 'it returns false'. Refute it at one input. -/
def bookDrawsWrong : ChangeSpec := { name := "bookDraws", fn := fun _ => fun
  | [d1, d2, d3] => { results := [.lit (.bool false)], args := [d1, d2, d3] }
  | _ => none }
def BookDrawsWrongFalsely : Prop := bookDrawsRow.holds Try.pinned (OpenSpec.ofChange bookDrawsWrong)

/- THE SECOND FORM. 'bulk': how many values and letters a reading holds, each counted each time it is reached (what is shared counts as often as it is met; a slice's spare places count too). A statement '..UptoSaid' is the law's where the arguments, and the package variables that the reading takes, are together of bulk at most 1048576: NARROWER than '..Said'. Prove '..Said' where nothing that the law and all that it calls make is longer than what came in: it says more and counts as full. Else prove '..UptoSaid'. A law counts once. -/
mutual
def uptoBulk {H : Type} : DataW H → Nat
  | .lit (.string bytes) => bytes.length + 1
  | .lit _ => 1
  | .nil => 1
  | .ptr d => uptoBulk d + 1
  | .slice elems spare => uptoBulkAll elems + uptoBulkAll spare + 1
  | .agg parts => uptoBulkAll parts + 1
  | .iface _ d => uptoBulk d + 1
  | .map entries => uptoBulkEntries entries + 1
  | .held _ => 1
def uptoBulkAll {H : Type} : List (DataW H) → Nat
  | [] => 0
  | d :: r => uptoBulk d + uptoBulkAll r
def uptoBulkEntries {H : Type} : List (Lit × DataW H) → Nat
  | [] => 0
  | x :: r => uptoBulkEntry x + uptoBulkEntries r
def uptoBulkEntry {H : Type} : Lit × DataW H → Nat
  | (.string bytes, d) => bytes.length + uptoBulk d + 1
  | (_, d) => uptoBulk d + 1
 end
def uptoSmall : (H : Type) → List (DataW H) → Bool := fun _ ds => decide (uptoBulkAll ds ≤ 1048576)
def OpenSpec.upto (s : _root_.Go.ChangeSpec) : _root_.Go.OpenSpec := { _root_.Go.OpenSpec.ofChange s with cond := some uptoSmall }

/-- 'gamehallkeep3.BookTwice', WHERE WHAT IT READS IS OF BULK AT MOST 1048576: true; the input reads as it did. -/
def bookTwiceUptoRow : OpenClaim := { program := "yticbohfmkiafiaa", sum := "fefb7d833938ac597bc255ad4e14612de9774dfe6e6b233d01ad25dd604a3aad", func := "gamehall/gamehallkeep3.BookTwice", spec := "bookTwice", inPlace := ["slices.overlaps[gamehall/api.BookEntry]"], unfollowed := true, recurses := true, apart := false, narrowed := true }
def BookTwiceUptoSaid : Prop := bookTwiceUptoRow.holds Try.pinned (OpenSpec.upto bookTwiceSpec)

/-- 'gamehallkeep3.BookOrder', WHERE WHAT IT READS IS OF BULK AT MOST 1048576: true; the input reads as it did. -/
def bookOrderUptoRow : OpenClaim := { program := "yticbohfmkiafiaa", sum := "fefb7d833938ac597bc255ad4e14612de9774dfe6e6b233d01ad25dd604a3aad", func := "gamehall/gamehallkeep3.BookOrder", spec := "bookOrder", inPlace := ["slices.overlaps[gamehall/api.BookEntry]"], unfollowed := true, recurses := true, apart := false, narrowed := true }
def BookOrderUptoSaid : Prop := bookOrderUptoRow.holds Try.pinned (OpenSpec.upto bookOrderSpec)

/-- 'gamehallkeep3.BookFollows', WHERE WHAT IT READS IS OF BULK AT MOST 1048576: true; the input reads as it did. -/
def bookFollowsUptoRow : OpenClaim := { program := "yticbohfmkiafiaa", sum := "fefb7d833938ac597bc255ad4e14612de9774dfe6e6b233d01ad25dd604a3aad", func := "gamehall/gamehallkeep3.BookFollows", spec := "bookFollows", inPlace := ["slices.overlaps[gamehall/api.BookEntry]"], unfollowed := true, recurses := true, apart := false, narrowed := true }
def BookFollowsUptoSaid : Prop := bookFollowsUptoRow.holds Try.pinned (OpenSpec.upto bookFollowsSpec)

/-- 'gamehallkeep3.BookDraws', WHERE WHAT IT READS IS OF BULK AT MOST 1048576: true; the input reads as it did. -/
def bookDrawsUptoRow : OpenClaim := { program := "yticbohfmkiafiaa", sum := "fefb7d833938ac597bc255ad4e14612de9774dfe6e6b233d01ad25dd604a3aad", func := "gamehall/gamehallkeep3.BookDraws", spec := "bookDraws", inPlace := ["slices.overlaps[gamehall/api.BookEntry]"], unfollowed := true, recurses := true, apart := false, narrowed := true }
def BookDrawsUptoSaid : Prop := bookDrawsUptoRow.holds Try.pinned (OpenSpec.upto bookDrawsSpec)

end Rows
end Go.Proofs.Yticbohfmkiafiaa
