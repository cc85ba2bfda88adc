/- RobinWhole returns true whatever the input. No condition. -/
import Derived.Test.YtpighccmakogpaaRows
import Derived.Test.YtpighccmakogpaaPRobinWhole
import Derived.JoinedOf
namespace Go.Proofs.Ytpighccmakogpaa
open Go.VM Go.Proofs
namespace RobinWholeL
theorem own : ownKnob Try.prog.godebug = none := by kernel_rfl
theorem laid : laidOutB Try.prog = true := by kernel_rfl
theorem lifted (os : Os) (started : os.Started) (H : Type) (enc : TypeId × Value → H) :
    ReturnsInHanded {} Try.checked os 7 .any (Rows.robinWholeSpec.pre6 enc Try.prog Try.f7 Rows.robinWholeRow.domain false) (Rows.robinWholeSpec.post enc Try.prog Try.f7 false true false false) :=
  law_row (C := Try.checked) (us := [.int .i64, .bool]) (F := fun x => G.f7 100 x.1 x.2.1) (b := 4) own started (by kernel_rfl) Try.func7
    (ChangeSpec.witness6 (enc := enc) (C := Try.checked) false ⟨#[], #[.int .i64 0, .bool false], []⟩ 8 (by kernel_rfl) (by kernel_rfl) (by kernel_rfl) (by kernel_rfl))
    rfl (by kernel_rfl) (by kernel_rfl) (by kernel_rfl) laid (by kernel_rfl) 2 (by kernel_rfl) (fun ds h => match ds, h with | [_, _], _ => rfl) (G.f7_ok 100) (fun x hx => G.f7_pure x.1 x.2.1)
theorem over : Rows.robinWholeRow.holds Try.pinned (OpenSpec.ofChange Rows.robinWholeSpec) :=
  OpenClaim.holds_of_wide 7 Try.f7 rfl rfl rfl rfl rfl rfl rfl ⟨rfl, rfl, rfl, rfl, rfl⟩ rfl rfl rfl rfl rfl (by kernel_rfl) Try.func7 (by kernel_rfl)
    (of_decide_eq_true (by kernel_rfl)) (by unfold Func.isWrapper; first | (rw [if_pos (by decide +kernel)]; kernel_rfl) | (rw [if_neg (by decide +kernel)]; exact ⟨rfl, rfl⟩))
    (fun os started H enc _ => lifted os started H enc)
end RobinWholeL
/-- The row, under a short name, for the claim. -/
theorem robinWhole_holds : Rows.RobinWholeSaid := RobinWholeL.over
#print axioms robinWhole_holds
end Go.Proofs.Ytpighccmakogpaa
