/- OfferMoves returns true whatever the input. No condition. -/
import Derived.Test.YtpighccmakogpaaRows
import Derived.Test.YtpighccmakogpaaPOfferMoves
import Derived.JoinedOf
namespace Go.Proofs.Ytpighccmakogpaa
open Go.VM Go.Proofs
namespace OfferMovesL
theorem own : ownKnob Try.prog.godebug = none := by kernel_rfl
theorem laid : laidOutB Try.prog = true := by kernel_rfl
theorem lifted (os : Os) (started : os.Started) (H : Type) (enc : TypeId × Value → H) :
    ReturnsInHanded {} Try.checked os 9 .any (Rows.offerMovesSpec.pre6 enc Try.prog Try.f9 Rows.offerMovesRow.domain false) (Rows.offerMovesSpec.post enc Try.prog Try.f9 false true false false) :=
  law_row (C := Try.checked) (us := [.pair (.pair (.int .i64) (.pair (.int .i64) .unit)) (.pair (.pair (.pair (.int .i64) (.pair (.int .i64) .unit)) (.pair (.pair (.int .i64) (.pair (.int .i64) .unit)) .unit)) .unit), .int .i64, .int .i64]) (own := true) (F := fun x => G.f9 100 x.1 x.2.1 x.2.2.1) (b := 4) own started (by kernel_rfl) Try.func9
    (ChangeSpec.witness6 (enc := enc) (C := Try.checked) false ⟨#[], #[.agg #[.int .i64 0, .int .i64 0, .int .i64 0, .int .i64 0, .int .i64 0, .int .i64 0], .int .i64 0, .int .i64 0], []⟩ 8 (by kernel_rfl) (by kernel_rfl) (by kernel_rfl) (by kernel_rfl))
    rfl (by kernel_rfl) (by kernel_rfl) (by kernel_rfl) laid (by kernel_rfl) 3 (by kernel_rfl) (fun ds h => match ds, h with | [_, _, _], _ => rfl) (G.f9_ok 100) (fun x hx => G.moves_pure x.1 x.2.1 x.2.2.1)
theorem over : Rows.offerMovesRow.holds Try.pinned (OpenSpec.ofChange Rows.offerMovesSpec) :=
  OpenClaim.holds_of_wide 9 Try.f9 rfl rfl rfl rfl rfl rfl rfl ⟨rfl, rfl, rfl, rfl, rfl⟩ rfl rfl rfl rfl rfl (by kernel_rfl) Try.func9 (by kernel_rfl)
    (of_decide_eq_true (by kernel_rfl)) (by unfold Func.isWrapper; first | (rw [if_pos (by decide +kernel)]; kernel_rfl) | (rw [if_neg (by decide +kernel)]; exact ⟨rfl, rfl⟩))
    (fun os started H enc _ => lifted os started H enc)
end OfferMovesL
/-- The row, under a short name, for the claim. -/
theorem offerMoves_holds : Rows.OfferMovesSaid := OfferMovesL.over
#print axioms offerMoves_holds
end Go.Proofs.Ytpighccmakogpaa
