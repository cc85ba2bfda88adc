/- PatternTwice returns true whatever the input. No condition. -/
import Derived.Test.YtfalgaldkadgoaaRows
import Derived.Test.YtfalgaldkadgoaaPTwice
import Derived.JoinedOf
namespace Go.Proofs.Ytfalgaldkadgoaa
open Go.VM Go.Proofs
namespace PatternTwiceL
theorem own : ownKnob Try.prog.godebug = none := by kernel_rfl
theorem laid : laidOutB Try.prog = true := by kernel_rfl
theorem lifted (os : Os) (started : os.Started) (H : Type) (enc : TypeId × Value → H) :
    ReturnsInHanded {} Try.checked os 11 .any (Rows.patternTwiceSpec.pre6 enc Try.prog Try.f11 Rows.patternTwiceRow.domain false) (Rows.patternTwiceSpec.post enc Try.prog Try.f11 false true false false) :=
  law_row (C := Try.checked) (us := [.pair (.str) (.pair (.int .i64) (.pair (.int .i64) (.pair (.sl (.pair (.int .u8) (.pair (.int .i64) (.pair (.int .i64) (.pair (.sl (.pair (.int .i64) (.pair (.int .i64) (.pair (.int .i64) (.pair (.int .i64) (.unit)))))) (.unit)))))) (.pair (.sl (.int .i64)) (.pair (.bool) (.pair (.bool) (.pair (.sl (.pair (.int .i64) (.pair (.int .i64) (.pair (.int .i64) (.pair (.bool) (.unit)))))) (.pair (.int .i64) (.pair (.int .i64) (.pair (.int .i64) (.unit))))))))))), .pair (.int .i64) (.pair (.int .i64) (.pair (.sl (.int .i64)) (.pair (.int .i64) (.unit))))]) (F := fun x => G.f11 100 x.1 x.2.1) (b := 4) own started (by kernel_rfl) Try.func11
    (ChangeSpec.witness6 (enc := enc) (C := Try.checked) false ⟨#[], #[.agg #[.string ByteArray.empty, .int .i64 0, .int .i64 0, .slice none 0 0, .slice none 0 0, .bool false, .bool false, .slice none 0 0, .int .i64 0, .int .i64 0, .int .i64 0], .agg #[.int .i64 0, .int .i64 0, .slice none 0 0, .int .i64 0]], []⟩ 8 (by kernel_rfl) (by kernel_rfl) (by kernel_rfl) (by kernel_rfl))
    rfl (by kernel_rfl) (by kernel_rfl) (by kernel_rfl) laid (by kernel_rfl) 2 (by kernel_rfl) (fun ds h => match ds, h with | [_, _], _ => rfl) (G.f11_ok 100) (fun x hx => G.twice_pure x.1 x.2.1)
theorem over : Rows.patternTwiceRow.holds Try.pinned (OpenSpec.ofChange Rows.patternTwiceSpec) :=
  OpenClaim.holds_of_wide 11 Try.f11 rfl rfl rfl rfl rfl rfl rfl ⟨rfl, rfl, rfl, rfl, rfl⟩ rfl rfl rfl rfl rfl (by kernel_rfl) Try.func11 (by kernel_rfl)
    (of_decide_eq_true (by kernel_rfl)) (by unfold Func.isWrapper; first | (rw [if_pos (by decide +kernel)]; kernel_rfl) | (rw [if_neg (by decide +kernel)]; exact ⟨rfl, rfl⟩))
    (fun os started H enc _ => lifted os started H enc)
end PatternTwiceL
/-- The row, under a short name, for the claim. -/
theorem patternTwice_holds : Rows.PatternTwiceSaid := PatternTwiceL.over
#print axioms patternTwice_holds
end Go.Proofs.Ytfalgaldkadgoaa
