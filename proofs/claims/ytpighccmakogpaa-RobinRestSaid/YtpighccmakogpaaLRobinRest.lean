/- RobinRest returns true whatever the input. No condition. -/
import Derived.Test.YtpighccmakogpaaRows
import Derived.Test.YtpighccmakogpaaPRobinRest
import Derived.JoinedOf
namespace Go.Proofs.Ytpighccmakogpaa
open Go.VM Go.Proofs
namespace RobinRestL
theorem own : ownKnob Try.prog.godebug = none := by kernel_rfl
theorem laid : laidOutB Try.prog = true := by kernel_rfl
theorem lifted (os : Os) (started : os.Started) (H : Type) (enc : TypeId × Value → H) :
    ReturnsInHanded {} Try.checked os 4 .any (Rows.robinRestSpec.pre6 enc Try.prog Try.f4 Rows.robinRestRow.domain false) (Rows.robinRestSpec.post enc Try.prog Try.f4 false true false false) :=
  law_row (C := Try.checked) (us := [.int .i64, .bool, .int .i64]) (own := true) (F := fun x => G.f4 100 x.1 x.2.1 x.2.2.1) (b := 4) own started (by kernel_rfl) Try.func4
    (ChangeSpec.witness6 (enc := enc) (C := Try.checked) false ⟨#[], #[.int .i64 0, .bool false, .int .i64 0], []⟩ 8 (by kernel_rfl) (by kernel_rfl) (by kernel_rfl) (by kernel_rfl))
    rfl (by kernel_rfl) (by kernel_rfl) (by kernel_rfl) laid (by kernel_rfl) 3 (by kernel_rfl) (fun ds h => match ds, h with | [_, _, _], _ => rfl) (G.f4_ok 100) (fun x hx => G.rest_pure x.1 x.2.1 x.2.2.1)
theorem over : Rows.robinRestRow.holds Try.pinned (OpenSpec.ofChange Rows.robinRestSpec) :=
  OpenClaim.holds_of_wide 4 Try.f4 rfl rfl rfl rfl rfl rfl rfl ⟨rfl, rfl, rfl, rfl, rfl⟩ rfl rfl rfl rfl rfl (by kernel_rfl) Try.func4 (by kernel_rfl)
    (of_decide_eq_true (by kernel_rfl)) (by unfold Func.isWrapper; first | (rw [if_pos (by decide +kernel)]; kernel_rfl) | (rw [if_neg (by decide +kernel)]; exact ⟨rfl, rfl⟩))
    (fun os started H enc _ => lifted os started H enc)
end RobinRestL
/-- The row, under a short name, for the claim. -/
theorem robinRest_holds : Rows.RobinRestSaid := RobinRestL.over
#print axioms robinRest_holds
end Go.Proofs.Ytpighccmakogpaa
