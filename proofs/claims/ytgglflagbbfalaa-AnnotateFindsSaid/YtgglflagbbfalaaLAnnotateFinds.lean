/- AnnotateFinds returns true whatever the input. No condition. -/
import Derived.Test.YtgglflagbbfalaaRows
import Derived.Test.YtgglflagbbfalaaPFinds
import Derived.JoinedOf
namespace Go.Proofs.Ytgglflagbbfalaa
open Go.VM Go.Proofs
namespace AnnotateFindsL
theorem own : ownKnob Try.prog.godebug = none := by kernel_rfl
theorem laid : laidOutB Try.prog = true := by kernel_rfl
theorem lifted (os : Os) (started : os.Started) (H : Type) (enc : TypeId × Value → H) :
    ReturnsInHanded {} Try.checked os 3 .any (Rows.annotateFindsSpec.pre6 enc Try.prog Try.f3 Rows.annotateFindsRow.domain false) (Rows.annotateFindsSpec.post enc Try.prog Try.f3 false true false false) :=
  law_row (C := Try.checked) (us := [.pair (.str) (.pair (.int .i64) (.pair (.int .i64) (.pair (.sl (.pair (.int .u8) (.pair (.int .i64) (.pair (.int .i64) (.pair (.sl (.pair (.int .i64) (.pair (.int .i64) (.pair (.int .i64) (.pair (.int .i64) (.unit)))))) (.unit)))))) (.pair (.sl (.int .i64)) (.pair (.bool) (.pair (.bool) (.pair (.sl (.pair (.int .i64) (.pair (.int .i64) (.pair (.int .i64) (.pair (.bool) (.unit)))))) (.pair (.int .i64) (.pair (.int .i64) (.pair (.int .i64) (.unit))))))))))), .pair (.sl (.pair (.str) (.pair (.str) (.unit)))) (.pair (.str) (.pair (.sl (.pair (.int .i64) (.pair (.pair (.int .i64) (.pair (.int .i64) (.pair (.int .i64) (.unit)))) (.pair (.str) (.unit))))) (.pair (.int .i64) (.unit)))), .int .i64]) (F := fun x => G.f3 9000 x.1 x.2.1 x.2.2.1) (b := 4) own started (by kernel_rfl) Try.func3
    (ChangeSpec.witness6 (enc := enc) (C := Try.checked) false ⟨#[], #[.agg #[.string ByteArray.empty, .int .i64 0, .int .i64 0, .slice none 0 0, .slice none 0 0, .bool false, .bool false, .slice none 0 0, .int .i64 0, .int .i64 0, .int .i64 0], .agg #[.slice none 0 0, .string ByteArray.empty, .slice none 0 0, .int .i64 0], .int .i64 0], []⟩ 8 (by kernel_rfl) (by kernel_rfl) (by kernel_rfl) (by kernel_rfl))
    rfl (by kernel_rfl) (by kernel_rfl) (by kernel_rfl) laid (by kernel_rfl) 3 (by kernel_rfl) (fun ds h => match ds, h with | [_, _, _], _ => rfl) (G.f3_ok 9000) (fun x hx => G.finds_pure x.1 x.2.1 x.2.2.1)
theorem over : Rows.annotateFindsRow.holds Try.pinned (OpenSpec.ofChange Rows.annotateFindsSpec) :=
  OpenClaim.holds_of_wide 3 Try.f3 rfl rfl rfl rfl rfl rfl rfl ⟨rfl, rfl, rfl, rfl, rfl⟩ rfl rfl rfl rfl rfl (by kernel_rfl) Try.func3 (by kernel_rfl)
    (of_decide_eq_true (by kernel_rfl)) (by unfold Func.isWrapper; first | (rw [if_pos (by decide +kernel)]; kernel_rfl) | (rw [if_neg (by decide +kernel)]; exact ⟨rfl, rfl⟩))
    (fun os started H enc _ => lifted os started H enc)
end AnnotateFindsL
/-- The row, under a short name, for the claim. -/
theorem annotateFinds_holds : Rows.AnnotateFindsSaid := AnnotateFindsL.over
#print axioms annotateFinds_holds
end Go.Proofs.Ytgglflagbbfalaa
