/- MovetextParts returns true whatever the input. No condition. -/
import Derived.Test.YtphgopfhobockaaRows
import Derived.Test.YtphgopfhobockaaPParts
import Derived.JoinedOf
namespace Go.Proofs.Ytphgopfhobockaa
open Go.VM Go.Proofs
namespace MovetextPartsL
theorem own : ownKnob Try.prog.godebug = none := by kernel_rfl
theorem laid : laidOutB Try.prog = true := by kernel_rfl
theorem lifted (os : Os) (started : os.Started) (H : Type) (enc : TypeId × Value → H) :
    ReturnsInHanded {} Try.checked os 9 .any (Rows.movetextPartsSpec.pre6 enc Try.prog Try.f9 Rows.movetextPartsRow.domain false) (Rows.movetextPartsSpec.post enc Try.prog Try.f9 false true false false) :=
  law_row (C := Try.checked) (us := [.pair (.str) (.pair (.int .i64) (.pair (.int .i64) (.pair (.sl (.pair (.int .u8) (.pair (.int .i64) (.pair (.int .i64) (.pair (.sl (.pair (.int .i64) (.pair (.int .i64) (.pair (.int .i64) (.pair (.int .i64) (.unit)))))) (.unit)))))) (.pair (.sl (.int .i64)) (.pair (.bool) (.pair (.bool) (.pair (.sl (.pair (.int .i64) (.pair (.int .i64) (.pair (.int .i64) (.pair (.bool) (.unit)))))) (.pair (.int .i64) (.pair (.int .i64) (.pair (.int .i64) (.unit))))))))))), .sl (.pair (.int .i64) (.pair (.int .i64) (.pair (.int .i64) (.unit)))), .int .i64]) (F := fun x => G.f9 9000 x.1 x.2.1 x.2.2.1) (b := 4) own started (by kernel_rfl) Try.func9
    (ChangeSpec.witness6 (enc := enc) (C := Try.checked) false ⟨#[], #[.agg #[.string ByteArray.empty, .int .i64 0, .int .i64 0, .slice none 0 0, .slice none 0 0, .bool false, .bool false, .slice none 0 0, .int .i64 0, .int .i64 0, .int .i64 0], .slice none 0 0, .int .i64 0], []⟩ 8 (by kernel_rfl) (by kernel_rfl) (by kernel_rfl) (by kernel_rfl))
    rfl (by kernel_rfl) (by kernel_rfl) (by kernel_rfl) laid (by kernel_rfl) 3 (by kernel_rfl) (fun ds h => match ds, h with | [_, _, _], _ => rfl) (G.f9_ok 9000) (fun x hx => G.parts_pure x.1 x.2.1 x.2.2.1)
theorem over : Rows.movetextPartsRow.holds Try.pinned (OpenSpec.ofChange Rows.movetextPartsSpec) :=
  OpenClaim.holds_of_wide 9 Try.f9 rfl rfl rfl rfl rfl rfl rfl ⟨rfl, rfl, rfl, rfl, rfl⟩ rfl rfl rfl rfl rfl (by kernel_rfl) Try.func9 (by kernel_rfl)
    (of_decide_eq_true (by kernel_rfl)) (by unfold Func.isWrapper; first | (rw [if_pos (by decide +kernel)]; kernel_rfl) | (rw [if_neg (by decide +kernel)]; exact ⟨rfl, rfl⟩))
    (fun os started H enc _ => lifted os started H enc)
end MovetextPartsL
/-- The row, under a short name, for the claim. -/
theorem movetextParts_holds : Rows.MovetextPartsSaid := MovetextPartsL.over
#print axioms movetextParts_holds
end Go.Proofs.Ytphgopfhobockaa
