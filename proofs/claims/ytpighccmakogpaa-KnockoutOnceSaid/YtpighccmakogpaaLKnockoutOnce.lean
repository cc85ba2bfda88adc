/- KnockoutOnce returns true whatever the input. No condition. -/
import Derived.Test.YtpighccmakogpaaRows
import Derived.Test.YtpighccmakogpaaPKnockoutOnce
import Derived.JoinedOf
namespace Go.Proofs.Ytpighccmakogpaa
open Go.VM Go.Proofs
namespace KnockoutOnceL
theorem own : ownKnob Try.prog.godebug = none := by kernel_rfl
theorem laid : laidOutB Try.prog = true := by kernel_rfl
theorem lifted (os : Os) (started : os.Started) (H : Type) (enc : TypeId × Value → H) :
    ReturnsInHanded {} Try.checked os 11 .any (Rows.knockoutOnceSpec.pre6 enc Try.prog Try.f11 Rows.knockoutOnceRow.domain false) (Rows.knockoutOnceSpec.post enc Try.prog Try.f11 false true false false) :=
  law_row (C := Try.checked) (us := [.int .i64, .sl (.int .i64)]) (F := fun x => G.f11 100 x.1 x.2.1) (b := 4) own started (by kernel_rfl) Try.func11
    (ChangeSpec.witness6 (enc := enc) (C := Try.checked) false ⟨#[], #[.int .i64 0, .slice none 0 0], []⟩ 8 (by kernel_rfl) (by kernel_rfl) (by kernel_rfl) (by kernel_rfl))
    rfl (by kernel_rfl) (by kernel_rfl) (by kernel_rfl) laid (by kernel_rfl) 2 (by kernel_rfl) (fun ds h => match ds, h with | [_, _], _ => rfl) (G.f11_ok 100) (fun x hx => G.f11_pure x.1 x.2.1)
theorem over : Rows.knockoutOnceRow.holds Try.pinned (OpenSpec.ofChange Rows.knockoutOnceSpec) :=
  OpenClaim.holds_of_wide 11 Try.f11 rfl rfl rfl rfl rfl rfl rfl ⟨rfl, rfl, rfl, rfl, rfl⟩ rfl rfl rfl rfl rfl (by kernel_rfl) Try.func11 (by kernel_rfl)
    (of_decide_eq_true (by kernel_rfl)) (by unfold Func.isWrapper; first | (rw [if_pos (by decide +kernel)]; kernel_rfl) | (rw [if_neg (by decide +kernel)]; exact ⟨rfl, rfl⟩))
    (fun os started H enc _ => lifted os started H enc)
end KnockoutOnceL
/-- The row, under a short name, for the claim. -/
theorem knockoutOnce_holds : Rows.KnockoutOnceSaid := KnockoutOnceL.over
#print axioms knockoutOnce_holds
end Go.Proofs.Ytpighccmakogpaa
