/- JournalGrows returns true whatever the input. No condition. -/
import Derived.Test.YtfalgaldkadgoaaRows
import Derived.Test.YtfalgaldkadgoaaPJournal
import Derived.JoinedOf
namespace Go.Proofs.Ytfalgaldkadgoaa
open Go.VM Go.Proofs
namespace JournalGrowsL
theorem own : ownKnob Try.prog.godebug = none := by kernel_rfl
theorem laid : laidOutB Try.prog = true := by kernel_rfl
theorem lifted (os : Os) (started : os.Started) (H : Type) (enc : TypeId × Value → H) :
    ReturnsInHanded {} Try.checked os 3 .any (Rows.journalGrowsSpec.pre6 enc Try.prog Try.f3 Rows.journalGrowsRow.domain false) (Rows.journalGrowsSpec.post enc Try.prog Try.f3 false true false false) :=
  law_row (C := Try.checked) (us := [.sl (.str), .str, .str]) (F := fun x => G.f3 300 x.1 x.2.1 x.2.2.1) (b := 4) own started (by kernel_rfl) Try.func3
    (ChangeSpec.witness6 (enc := enc) (C := Try.checked) false ⟨#[], #[.slice none 0 0, .string ByteArray.empty, .string ByteArray.empty], []⟩ 8 (by kernel_rfl) (by kernel_rfl) (by kernel_rfl) (by kernel_rfl))
    rfl (by kernel_rfl) (by kernel_rfl) (by kernel_rfl) laid (by kernel_rfl) 3 (by kernel_rfl) (fun ds h => match ds, h with | [_, _, _], _ => rfl) (G.f3_ok 300) (fun x hx => G.f3_pure x.1 x.2.1 x.2.2.1)
theorem over : Rows.journalGrowsRow.holds Try.pinned (OpenSpec.ofChange Rows.journalGrowsSpec) :=
  OpenClaim.holds_of_wide 3 Try.f3 rfl rfl rfl rfl rfl rfl rfl ⟨rfl, rfl, rfl, rfl, rfl⟩ rfl rfl rfl rfl rfl (by kernel_rfl) Try.func3 (by kernel_rfl)
    (of_decide_eq_true (by kernel_rfl)) (by unfold Func.isWrapper; first | (rw [if_pos (by decide +kernel)]; kernel_rfl) | (rw [if_neg (by decide +kernel)]; exact ⟨rfl, rfl⟩))
    (fun os started H enc _ => lifted os started H enc)
end JournalGrowsL
/-- The row, under a short name, for the claim. -/
theorem journalGrows_holds : Rows.JournalGrowsSaid := JournalGrowsL.over
#print axioms journalGrows_holds
end Go.Proofs.Ytfalgaldkadgoaa
