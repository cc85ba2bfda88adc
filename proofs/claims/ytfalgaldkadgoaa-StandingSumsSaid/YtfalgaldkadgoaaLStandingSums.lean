/- StandingSums returns true whatever the input. No condition. -/
import Derived.Test.YtfalgaldkadgoaaRows
import Derived.Test.YtfalgaldkadgoaaPSums
import Derived.JoinedOf
namespace Go.Proofs.Ytfalgaldkadgoaa
open Go.VM Go.Proofs
namespace StandingSumsL
theorem own : ownKnob Try.prog.godebug = none := by kernel_rfl
theorem laid : laidOutB Try.prog = true := by kernel_rfl
theorem lifted (os : Os) (started : os.Started) (H : Type) (enc : TypeId × Value → H) :
    ReturnsInHanded {} Try.checked os 13 .any (Rows.standingSumsSpec.pre6 enc Try.prog Try.f13 Rows.standingSumsRow.domain false) (Rows.standingSumsSpec.post enc Try.prog Try.f13 false true false false) :=
  law_row (C := Try.checked) (us := [.int .i64, .sl (.pair (.int .i64) (.pair (.int .i64) (.pair (.int .i64) (.unit))))]) (F := fun x => G.f13 100 x.1 x.2.1) (b := 4) own started (by kernel_rfl) Try.func13
    (ChangeSpec.witness6 (enc := enc) (C := Try.checked) false ⟨#[], #[.int .i64 0, .slice none 0 0], []⟩ 8 (by kernel_rfl) (by kernel_rfl) (by kernel_rfl) (by kernel_rfl))
    rfl (by kernel_rfl) (by kernel_rfl) (by kernel_rfl) laid (by kernel_rfl) 2 (by kernel_rfl) (fun ds h => match ds, h with | [_, _], _ => rfl) (G.f13_ok 100) (fun x hx => G.sums_pure x.1 x.2.1)
theorem over : Rows.standingSumsRow.holds Try.pinned (OpenSpec.ofChange Rows.standingSumsSpec) :=
  OpenClaim.holds_of_wide 13 Try.f13 rfl rfl rfl rfl rfl rfl rfl ⟨rfl, rfl, rfl, rfl, rfl⟩ rfl rfl rfl rfl rfl (by kernel_rfl) Try.func13 (by kernel_rfl)
    (of_decide_eq_true (by kernel_rfl)) (by unfold Func.isWrapper; first | (rw [if_pos (by decide +kernel)]; kernel_rfl) | (rw [if_neg (by decide +kernel)]; exact ⟨rfl, rfl⟩))
    (fun os started H enc _ => lifted os started H enc)
end StandingSumsL
/-- The row, under a short name, for the claim. -/
theorem standingSums_holds : Rows.StandingSumsSaid := StandingSumsL.over
#print axioms standingSums_holds
end Go.Proofs.Ytfalgaldkadgoaa
