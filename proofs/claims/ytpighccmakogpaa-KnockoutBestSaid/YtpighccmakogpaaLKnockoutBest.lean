/- KnockoutBest returns true whatever the input. No condition. -/
import Derived.Test.YtpighccmakogpaaRows
import Derived.Test.YtpighccmakogpaaPKnockoutBest
import Derived.JoinedOf
namespace Go.Proofs.Ytpighccmakogpaa
open Go.VM Go.Proofs
namespace KnockoutBestL
theorem own : ownKnob Try.prog.godebug = none := by kernel_rfl
theorem laid : laidOutB Try.prog = true := by kernel_rfl
theorem lifted (os : Os) (started : os.Started) (H : Type) (enc : TypeId × Value → H) :
    ReturnsInHanded {} Try.checked os 10 .any (Rows.knockoutBestSpec.pre6 enc Try.prog Try.f10 Rows.knockoutBestRow.domain false) (Rows.knockoutBestSpec.post enc Try.prog Try.f10 false true false false) :=
  law_row (C := Try.checked) (us := [.int .i64]) (own := true) (F := fun x => G.f10 100 x.1) (b := 4) own started (by kernel_rfl) Try.func10
    (ChangeSpec.witness6 (enc := enc) (C := Try.checked) false ⟨#[], #[.int .i64 0], []⟩ 8 (by kernel_rfl) (by kernel_rfl) (by kernel_rfl) (by kernel_rfl))
    rfl (by kernel_rfl) (by kernel_rfl) (by kernel_rfl) laid (by kernel_rfl) 1 (by kernel_rfl) (fun ds h => match ds, h with | [_], _ => rfl) (G.f10_ok 100) (fun x hx => G.best_pure x.1)
theorem over : Rows.knockoutBestRow.holds Try.pinned (OpenSpec.ofChange Rows.knockoutBestSpec) :=
  OpenClaim.holds_of_wide 10 Try.f10 rfl rfl rfl rfl rfl rfl rfl ⟨rfl, rfl, rfl, rfl, rfl⟩ rfl rfl rfl rfl rfl (by kernel_rfl) Try.func10 (by kernel_rfl)
    (of_decide_eq_true (by kernel_rfl)) (by unfold Func.isWrapper; first | (rw [if_pos (by decide +kernel)]; kernel_rfl) | (rw [if_neg (by decide +kernel)]; exact ⟨rfl, rfl⟩))
    (fun os started H enc _ => lifted os started H enc)
end KnockoutBestL
/-- The row, under a short name, for the claim. -/
theorem knockoutBest_holds : Rows.KnockoutBestSaid := KnockoutBestL.over
#print axioms knockoutBest_holds
end Go.Proofs.Ytpighccmakogpaa
