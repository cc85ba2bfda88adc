/- ClockDelays returns true whatever the input. No condition. -/
import Derived.Test.YtfalgaldkadgoaaRows
import Derived.Test.YtfalgaldkadgoaaPClockDelays
import Derived.JoinedOf
namespace Go.Proofs.Ytfalgaldkadgoaa
open Go.VM Go.Proofs
namespace ClockDelaysL
theorem own : ownKnob Try.prog.godebug = none := by kernel_rfl
theorem laid : laidOutB Try.prog = true := by kernel_rfl
theorem lifted (os : Os) (started : os.Started) (H : Type) (enc : TypeId × Value → H) :
    ReturnsInHanded {} Try.checked os 5 .any (Rows.clockDelaysSpec.pre6 enc Try.prog Try.f5 Rows.clockDelaysRow.domain false) (Rows.clockDelaysSpec.post enc Try.prog Try.f5 false true false false) :=
  law_row (C := Try.checked) (us := [.pair (.sl (.pair (.int .i64) (.pair (.int .i64) (.unit)))) (.pair (.int .i64) (.pair (.int .i64) (.unit))), .pair (.pair (.int .i64) (.pair (.int .i64) (.unit))) (.pair (.pair (.int .i64) (.pair (.int .i64) (.unit))) (.pair (.pair (.int .i64) (.pair (.int .i64) (.unit))) (.pair (.int .i64) (.pair (.int .i64) (.pair (.bool) (.pair (.int .i64) (.unit))))))), .int .i64, .int .i64]) (F := fun x => G.f5 100 x.1 x.2.1 x.2.2.1 x.2.2.2.1) (b := 4) own started (by kernel_rfl) Try.func5
    (ChangeSpec.witness6 (enc := enc) (C := Try.checked) false ⟨#[], #[.agg #[.slice none 0 0, .int .i64 0, .int .i64 0], .agg #[.int .i64 0, .int .i64 0, .int .i64 0, .int .i64 0, .int .i64 0, .int .i64 0, .int .i64 0, .int .i64 0, .bool false, .int .i64 0], .int .i64 0, .int .i64 0], []⟩ 8 (by kernel_rfl) (by kernel_rfl) (by kernel_rfl) (by kernel_rfl))
    rfl (by kernel_rfl) (by kernel_rfl) (by kernel_rfl) laid (by kernel_rfl) 4 (by kernel_rfl) (fun ds h => match ds, h with | [_, _, _, _], _ => rfl) (G.f5_ok 100) (fun x hx => G.f5_pure x.1 x.2.1 x.2.2.1 x.2.2.2.1)
theorem over : Rows.clockDelaysRow.holds Try.pinned (OpenSpec.ofChange Rows.clockDelaysSpec) :=
  OpenClaim.holds_of_wide 5 Try.f5 rfl rfl rfl rfl rfl rfl rfl ⟨rfl, rfl, rfl, rfl, rfl⟩ rfl rfl rfl rfl rfl (by kernel_rfl) Try.func5 (by kernel_rfl)
    (of_decide_eq_true (by kernel_rfl)) (by unfold Func.isWrapper; first | (rw [if_pos (by decide +kernel)]; kernel_rfl) | (rw [if_neg (by decide +kernel)]; exact ⟨rfl, rfl⟩))
    (fun os started H enc _ => lifted os started H enc)
end ClockDelaysL
/-- The row, under a short name, for the claim. -/
theorem clockDelays_holds : Rows.ClockDelaysSaid := ClockDelaysL.over
#print axioms clockDelays_holds
end Go.Proofs.Ytfalgaldkadgoaa
