/-
  No cell of these rows narrows 'for every input' (looked for: loops, veiled, ifaces, maps, wideKeys, modest, calm, conditions, laid).
  DERIVED. THE GIVEN ROWS OF THIS SEAT. 8 by the template 'for every input the law returns true; each argument reads behind the call as it read before'; 0 by the template 'total and deterministic' (their statements: YtphgopfhobockaaTotals.lean).
  GIVEN WITH THE SEED: the statements are not yours to turn. If you find one false, say at which input.
  Laid BY PROGRAM, IN A SANDBOX (cutbox-rows.mjs): the forced cells as the released guide's own fill.sh prints them over the translation 12f013d4941e6a4e… (all of the seat's roots in one cut). By AI agents, Wed Nov 11 2026. No macro, syntax, notation, axiom, sorry.
-/
import Derived.Test.YtphgopfhobockaaChecked
import GoSem.Claim
import GoSem.ClaimJoined
import GoSem.ClaimMapViews
import Derived.JoinedTies
import Derived.KernelRfl
namespace Go.Proofs.Ytphgopfhobockaa
/- THE CELL 'sum', in the pinned program and in every row, IS THE sha256 OF THE DUMP (.gsa) THAT YtphgopfhobockaaProg.lean LOADS. Nothing in Lean hashes anything: it is a label: what it is worth is what the hold of that sum in a sandbox is worth. -/
noncomputable def Try.pinned : Pinned := { name := "ytphgopfhobockaa", sum := "12f013d4941e6a4e5a977c2ac4f6305a78b029a1f6fce0985a8e48504faf8579", checked := Try.checked }
namespace Rows
def none {H : Type} : Left H := { results := [], args := [] }

/-- 'gamehallkeep3.MovetextAlone': WHATEVER THE INPUT: true; the input reads as it did. -/
def movetextAloneSpec : ChangeSpec := { name := "movetextAlone", fn := fun _ => fun
  | [d1, d2] => { results := [.lit (.bool true)], args := [d1, d2] }
  | _ => none }
def movetextAloneRow : OpenClaim := { program := "ytphgopfhobockaa", sum := "12f013d4941e6a4e5a977c2ac4f6305a78b029a1f6fce0985a8e48504faf8579", func := "gamehall/gamehallkeep3.MovetextAlone", spec := "movetextAlone", unfollowed := true, recurses := true, apart := false }
def MovetextAloneSaid : Prop := movetextAloneRow.holds Try.pinned (OpenSpec.ofChange movetextAloneSpec)

/-- ITS FALSE NEIGHBOUR: 'it returns false'. Refute it at one input. -/
def movetextAloneWrong : ChangeSpec := { name := "movetextAlone", fn := fun _ => fun
  | [d1, d2] => { results := [.lit (.bool false)], args := [d1, d2] }
  | _ => none }
def MovetextAloneWrongFalsely : Prop := movetextAloneRow.holds Try.pinned (OpenSpec.ofChange movetextAloneWrong)

/-- 'gamehallkeep3.PremoveClears': WHATEVER THE INPUT: true; the input reads as it did. -/
def premoveClearsSpec : ChangeSpec := { name := "premoveClears", fn := fun _ => fun
  | [d1, d2, d3] => { results := [.lit (.bool true)], args := [d1, d2, d3] }
  | _ => none }
def premoveClearsRow : OpenClaim := { program := "ytphgopfhobockaa", sum := "12f013d4941e6a4e5a977c2ac4f6305a78b029a1f6fce0985a8e48504faf8579", func := "gamehall/gamehallkeep3.PremoveClears", spec := "premoveClears", unfollowed := true, recurses := true, apart := false }
def PremoveClearsSaid : Prop := premoveClearsRow.holds Try.pinned (OpenSpec.ofChange premoveClearsSpec)

/-- ITS FALSE NEIGHBOUR: 'it returns false'. Refute it at one input. -/
def premoveClearsWrong : ChangeSpec := { name := "premoveClears", fn := fun _ => fun
  | [d1, d2, d3] => { results := [.lit (.bool false)], args := [d1, d2, d3] }
  | _ => none }
def PremoveClearsWrongFalsely : Prop := premoveClearsRow.holds Try.pinned (OpenSpec.ofChange premoveClearsWrong)

/-- 'gamehallkeep3.ClaimSteps': WHATEVER THE INPUT: true; the input reads as it did. -/
def claimStepsSpec : ChangeSpec := { name := "claimSteps", fn := fun _ => fun
  | [d1, d2] => { results := [.lit (.bool true)], args := [d1, d2] }
  | _ => none }
def claimStepsRow : OpenClaim := { program := "ytphgopfhobockaa", sum := "12f013d4941e6a4e5a977c2ac4f6305a78b029a1f6fce0985a8e48504faf8579", func := "gamehall/gamehallkeep3.ClaimSteps", spec := "claimSteps", unfollowed := true, recurses := true, apart := false }
def ClaimStepsSaid : Prop := claimStepsRow.holds Try.pinned (OpenSpec.ofChange claimStepsSpec)

/-- ITS FALSE NEIGHBOUR: 'it returns false'. Refute it at one input. -/
def claimStepsWrong : ChangeSpec := { name := "claimSteps", fn := fun _ => fun
  | [d1, d2] => { results := [.lit (.bool false)], args := [d1, d2] }
  | _ => none }
def ClaimStepsWrongFalsely : Prop := claimStepsRow.holds Try.pinned (OpenSpec.ofChange claimStepsWrong)

/-- 'gamehallkeep3.PremovePlays': WHATEVER THE INPUT: true; the input reads as it did. -/
def premovePlaysSpec : ChangeSpec := { name := "premovePlays", fn := fun _ => fun
  | [d1, d2, d3] => { results := [.lit (.bool true)], args := [d1, d2, d3] }
  | _ => none }
def premovePlaysRow : OpenClaim := { program := "ytphgopfhobockaa", sum := "12f013d4941e6a4e5a977c2ac4f6305a78b029a1f6fce0985a8e48504faf8579", func := "gamehall/gamehallkeep3.PremovePlays", spec := "premovePlays", unfollowed := true, recurses := true, apart := false }
def PremovePlaysSaid : Prop := premovePlaysRow.holds Try.pinned (OpenSpec.ofChange premovePlaysSpec)

/-- ITS FALSE NEIGHBOUR: 'it returns false'. Refute it at one input. -/
def premovePlaysWrong : ChangeSpec := { name := "premovePlays", fn := fun _ => fun
  | [d1, d2, d3] => { results := [.lit (.bool false)], args := [d1, d2, d3] }
  | _ => none }
def PremovePlaysWrongFalsely : Prop := premovePlaysRow.holds Try.pinned (OpenSpec.ofChange premovePlaysWrong)

/-- 'gamehallkeep3.ClaimWins': WHATEVER THE INPUT: true; the input reads as it did. -/
def claimWinsSpec : ChangeSpec := { name := "claimWins", fn := fun _ => fun
  | [d1, d2] => { results := [.lit (.bool true)], args := [d1, d2] }
  | _ => none }
def claimWinsRow : OpenClaim := { program := "ytphgopfhobockaa", sum := "12f013d4941e6a4e5a977c2ac4f6305a78b029a1f6fce0985a8e48504faf8579", func := "gamehall/gamehallkeep3.ClaimWins", spec := "claimWins", unfollowed := true, recurses := true, apart := false }
def ClaimWinsSaid : Prop := claimWinsRow.holds Try.pinned (OpenSpec.ofChange claimWinsSpec)

/-- ITS FALSE NEIGHBOUR: 'it returns false'. Refute it at one input. -/
def claimWinsWrong : ChangeSpec := { name := "claimWins", fn := fun _ => fun
  | [d1, d2] => { results := [.lit (.bool false)], args := [d1, d2] }
  | _ => none }
def ClaimWinsWrongFalsely : Prop := claimWinsRow.holds Try.pinned (OpenSpec.ofChange claimWinsWrong)

/-- 'gamehallkeep3.PatternMore': WHATEVER THE INPUT: true; the input reads as it did. -/
def patternMoreSpec : ChangeSpec := { name := "patternMore", fn := fun _ => fun
  | [d1, d2, d3, d4] => { results := [.lit (.bool true)], args := [d1, d2, d3, d4] }
  | _ => none }
def patternMoreRow : OpenClaim := { program := "ytphgopfhobockaa", sum := "12f013d4941e6a4e5a977c2ac4f6305a78b029a1f6fce0985a8e48504faf8579", func := "gamehall/gamehallkeep3.PatternMore", spec := "patternMore", unfollowed := true, recurses := true, apart := false }
def PatternMoreSaid : Prop := patternMoreRow.holds Try.pinned (OpenSpec.ofChange patternMoreSpec)

/-- ITS FALSE NEIGHBOUR: 'it returns false'. Refute it at one input. -/
def patternMoreWrong : ChangeSpec := { name := "patternMore", fn := fun _ => fun
  | [d1, d2, d3, d4] => { results := [.lit (.bool false)], args := [d1, d2, d3, d4] }
  | _ => none }
def PatternMoreWrongFalsely : Prop := patternMoreRow.holds Try.pinned (OpenSpec.ofChange patternMoreWrong)

/-- 'gamehallkeep3.MovetextParts': WHATEVER THE INPUT: true; the input reads as it did. -/
def movetextPartsSpec : ChangeSpec := { name := "movetextParts", fn := fun _ => fun
  | [d1, d2, d3] => { results := [.lit (.bool true)], args := [d1, d2, d3] }
  | _ => none }
def movetextPartsRow : OpenClaim := { program := "ytphgopfhobockaa", sum := "12f013d4941e6a4e5a977c2ac4f6305a78b029a1f6fce0985a8e48504faf8579", func := "gamehall/gamehallkeep3.MovetextParts", spec := "movetextParts", inPlace := ["internal/abi.NoEscape", "internal/bytealg.MakeNoZero"], unfollowed := true, recurses := true, apart := false }
def MovetextPartsSaid : Prop := movetextPartsRow.holds Try.pinned (OpenSpec.ofChange movetextPartsSpec)

/-- ITS FALSE NEIGHBOUR: 'it returns false'. Refute it at one input. -/
def movetextPartsWrong : ChangeSpec := { name := "movetextParts", fn := fun _ => fun
  | [d1, d2, d3] => { results := [.lit (.bool false)], args := [d1, d2, d3] }
  | _ => none }
def MovetextPartsWrongFalsely : Prop := movetextPartsRow.holds Try.pinned (OpenSpec.ofChange movetextPartsWrong)

/-- 'gamehallkeep3.HandicapNone': WHATEVER THE INPUT: true; the input reads as it did. -/
def handicapNoneSpec : ChangeSpec := { name := "handicapNone", fn := fun _ => fun
  | [d1, d2, d3, d4] => { results := [.lit (.bool true)], args := [d1, d2, d3, d4] }
  | _ => none }
def handicapNoneRow : OpenClaim := { program := "ytphgopfhobockaa", sum := "12f013d4941e6a4e5a977c2ac4f6305a78b029a1f6fce0985a8e48504faf8579", func := "gamehall/gamehallkeep3.HandicapNone", spec := "handicapNone", unfollowed := true, recurses := true, apart := false }
def HandicapNoneSaid : Prop := handicapNoneRow.holds Try.pinned (OpenSpec.ofChange handicapNoneSpec)

/-- ITS FALSE NEIGHBOUR: 'it returns false'. Refute it at one input. -/
def handicapNoneWrong : ChangeSpec := { name := "handicapNone", fn := fun _ => fun
  | [d1, d2, d3, d4] => { results := [.lit (.bool false)], args := [d1, d2, d3, d4] }
  | _ => none }
def HandicapNoneWrongFalsely : Prop := handicapNoneRow.holds Try.pinned (OpenSpec.ofChange handicapNoneWrong)

/- THE SECOND FORM. 'bulk': how many values and letters a reading holds, each counted each time it is reached (what is shared counts as often as it is met; a slice's spare places count too). A statement '..UptoSaid' is the law's where the arguments, and the package variables that the reading takes, are together of bulk at most 1048576: NARROWER than '..Said'. Prove '..Said' where nothing that the law and all that it calls make is longer than what came in: it says more and counts as full. Else prove '..UptoSaid'. A law counts once. -/
mutual
def uptoBulk {H : Type} : DataW H → Nat
  | .lit (.string bytes) => bytes.length + 1
  | .lit _ => 1
  | .nil => 1
  | .ptr d => uptoBulk d + 1
  | .slice elems spare => uptoBulkAll elems + uptoBulkAll spare + 1
  | .agg parts => uptoBulkAll parts + 1
  | .iface _ d => uptoBulk d + 1
  | .map entries => uptoBulkEntries entries + 1
  | .held _ => 1
def uptoBulkAll {H : Type} : List (DataW H) → Nat
  | [] => 0
  | d :: r => uptoBulk d + uptoBulkAll r
def uptoBulkEntries {H : Type} : List (Lit × DataW H) → Nat
  | [] => 0
  | x :: r => uptoBulkEntry x + uptoBulkEntries r
def uptoBulkEntry {H : Type} : Lit × DataW H → Nat
  | (.string bytes, d) => bytes.length + uptoBulk d + 1
  | (_, d) => uptoBulk d + 1
 end
def uptoSmall : (H : Type) → List (DataW H) → Bool := fun _ ds => decide (uptoBulkAll ds ≤ 1048576)
def OpenSpec.upto (s : _root_.Go.ChangeSpec) : _root_.Go.OpenSpec := { _root_.Go.OpenSpec.ofChange s with cond := some uptoSmall }

/-- 'gamehallkeep3.MovetextAlone', WHERE WHAT IT READS IS OF BULK AT MOST 1048576: true; the input reads as it did. -/
def movetextAloneUptoRow : OpenClaim := { program := "ytphgopfhobockaa", sum := "12f013d4941e6a4e5a977c2ac4f6305a78b029a1f6fce0985a8e48504faf8579", func := "gamehall/gamehallkeep3.MovetextAlone", spec := "movetextAlone", unfollowed := true, recurses := true, apart := false, narrowed := true }
def MovetextAloneUptoSaid : Prop := movetextAloneUptoRow.holds Try.pinned (OpenSpec.upto movetextAloneSpec)

/-- 'gamehallkeep3.PremoveClears', WHERE WHAT IT READS IS OF BULK AT MOST 1048576: true; the input reads as it did. -/
def premoveClearsUptoRow : OpenClaim := { program := "ytphgopfhobockaa", sum := "12f013d4941e6a4e5a977c2ac4f6305a78b029a1f6fce0985a8e48504faf8579", func := "gamehall/gamehallkeep3.PremoveClears", spec := "premoveClears", unfollowed := true, recurses := true, apart := false, narrowed := true }
def PremoveClearsUptoSaid : Prop := premoveClearsUptoRow.holds Try.pinned (OpenSpec.upto premoveClearsSpec)

/-- 'gamehallkeep3.ClaimSteps', WHERE WHAT IT READS IS OF BULK AT MOST 1048576: true; the input reads as it did. -/
def claimStepsUptoRow : OpenClaim := { program := "ytphgopfhobockaa", sum := "12f013d4941e6a4e5a977c2ac4f6305a78b029a1f6fce0985a8e48504faf8579", func := "gamehall/gamehallkeep3.ClaimSteps", spec := "claimSteps", unfollowed := true, recurses := true, apart := false, narrowed := true }
def ClaimStepsUptoSaid : Prop := claimStepsUptoRow.holds Try.pinned (OpenSpec.upto claimStepsSpec)

/-- 'gamehallkeep3.PremovePlays', WHERE WHAT IT READS IS OF BULK AT MOST 1048576: true; the input reads as it did. -/
def premovePlaysUptoRow : OpenClaim := { program := "ytphgopfhobockaa", sum := "12f013d4941e6a4e5a977c2ac4f6305a78b029a1f6fce0985a8e48504faf8579", func := "gamehall/gamehallkeep3.PremovePlays", spec := "premovePlays", unfollowed := true, recurses := true, apart := false, narrowed := true }
def PremovePlaysUptoSaid : Prop := premovePlaysUptoRow.holds Try.pinned (OpenSpec.upto premovePlaysSpec)

/-- 'gamehallkeep3.ClaimWins', WHERE WHAT IT READS IS OF BULK AT MOST 1048576: true; the input reads as it did. -/
def claimWinsUptoRow : OpenClaim := { program := "ytphgopfhobockaa", sum := "12f013d4941e6a4e5a977c2ac4f6305a78b029a1f6fce0985a8e48504faf8579", func := "gamehall/gamehallkeep3.ClaimWins", spec := "claimWins", unfollowed := true, recurses := true, apart := false, narrowed := true }
def ClaimWinsUptoSaid : Prop := claimWinsUptoRow.holds Try.pinned (OpenSpec.upto claimWinsSpec)

/-- 'gamehallkeep3.PatternMore', WHERE WHAT IT READS IS OF BULK AT MOST 1048576: true; the input reads as it did. -/
def patternMoreUptoRow : OpenClaim := { program := "ytphgopfhobockaa", sum := "12f013d4941e6a4e5a977c2ac4f6305a78b029a1f6fce0985a8e48504faf8579", func := "gamehall/gamehallkeep3.PatternMore", spec := "patternMore", unfollowed := true, recurses := true, apart := false, narrowed := true }
def PatternMoreUptoSaid : Prop := patternMoreUptoRow.holds Try.pinned (OpenSpec.upto patternMoreSpec)

/-- 'gamehallkeep3.MovetextParts', WHERE WHAT IT READS IS OF BULK AT MOST 1048576: true; the input reads as it did. -/
def movetextPartsUptoRow : OpenClaim := { program := "ytphgopfhobockaa", sum := "12f013d4941e6a4e5a977c2ac4f6305a78b029a1f6fce0985a8e48504faf8579", func := "gamehall/gamehallkeep3.MovetextParts", spec := "movetextParts", inPlace := ["internal/abi.NoEscape", "internal/bytealg.MakeNoZero"], unfollowed := true, recurses := true, apart := false, narrowed := true }
def MovetextPartsUptoSaid : Prop := movetextPartsUptoRow.holds Try.pinned (OpenSpec.upto movetextPartsSpec)

/-- 'gamehallkeep3.HandicapNone', WHERE WHAT IT READS IS OF BULK AT MOST 1048576: true; the input reads as it did. -/
def handicapNoneUptoRow : OpenClaim := { program := "ytphgopfhobockaa", sum := "12f013d4941e6a4e5a977c2ac4f6305a78b029a1f6fce0985a8e48504faf8579", func := "gamehall/gamehallkeep3.HandicapNone", spec := "handicapNone", unfollowed := true, recurses := true, apart := false, narrowed := true }
def HandicapNoneUptoSaid : Prop := handicapNoneUptoRow.holds Try.pinned (OpenSpec.upto handicapNoneSpec)

end Rows
end Go.Proofs.Ytphgopfhobockaa
