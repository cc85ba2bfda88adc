/- HandicapNone returns true whatever the input. No condition. -/
import Derived.Test.YtnjjioeehbanjaaRows
import Derived.Test.YtnjjioeehbanjaaPNone
import Derived.JoinedOf
namespace Go.Proofs.Ytnjjioeehbanjaa
open Go.VM Go.Proofs
namespace HandicapNoneL
theorem own : ownKnob Try.prog.godebug = none := by kernel_rfl
theorem laid : laidOutB Try.prog = true := by kernel_rfl
theorem pure (x : (lTy (lay 0 (valKs [.pair (.str) (.pair (.int .i64) (.pair (.int .i64) (.pair (.sl (.pair (.int .u8) (.pair (.int .i64) (.pair (.int .i64) (.pair (.sl (.pair (.int .i64) (.pair (.int .i64) (.pair (.int .i64) (.pair (.int .i64) (.unit)))))) (.unit)))))) (.pair (.sl (.int .i64)) (.pair (.bool) (.pair (.bool) (.pair (.sl (.pair (.int .i64) (.pair (.int .i64) (.pair (.int .i64) (.pair (.bool) (.unit)))))) (.pair (.int .i64) (.pair (.int .i64) (.pair (.int .i64) (.unit))))))))))), .int .i64, .sl (.int .i64), .int .i64]))).den) (hx : WfDs [.pair (.str) (.pair (.int .i64) (.pair (.int .i64) (.pair (.sl (.pair (.int .u8) (.pair (.int .i64) (.pair (.int .i64) (.pair (.sl (.pair (.int .i64) (.pair (.int .i64) (.pair (.int .i64) (.pair (.int .i64) (.unit)))))) (.unit)))))) (.pair (.sl (.int .i64)) (.pair (.bool) (.pair (.bool) (.pair (.sl (.pair (.int .i64) (.pair (.int .i64) (.pair (.int .i64) (.pair (.bool) (.unit)))))) (.pair (.int .i64) (.pair (.int .i64) (.pair (.int .i64) (.unit))))))))))), .int .i64, .sl (.int .i64), .int .i64] 0 x) : G.f7 9000 x.1 x.2.1 x.2.2.1 x.2.2.2.1 = some (true, ()) :=
  (fun x hx => G.none_x x) x hx
theorem lifted (os : Os) (started : os.Started) (H : Type) (enc : TypeId × Value → H) :
    ReturnsInHanded {} Try.checked os 7 .any (Rows.handicapNoneSpec.pre6 enc Try.prog Try.f7 Rows.handicapNoneRow.domain false) (Rows.handicapNoneSpec.post enc Try.prog Try.f7 false true false false) :=
  law_row (C := Try.checked) (us := [.pair (.str) (.pair (.int .i64) (.pair (.int .i64) (.pair (.sl (.pair (.int .u8) (.pair (.int .i64) (.pair (.int .i64) (.pair (.sl (.pair (.int .i64) (.pair (.int .i64) (.pair (.int .i64) (.pair (.int .i64) (.unit)))))) (.unit)))))) (.pair (.sl (.int .i64)) (.pair (.bool) (.pair (.bool) (.pair (.sl (.pair (.int .i64) (.pair (.int .i64) (.pair (.int .i64) (.pair (.bool) (.unit)))))) (.pair (.int .i64) (.pair (.int .i64) (.pair (.int .i64) (.unit))))))))))), .int .i64, .sl (.int .i64), .int .i64]) (F := fun x => G.f7 9000 x.1 x.2.1 x.2.2.1 x.2.2.2.1) (b := 4) own started (by kernel_rfl) Try.func7
    (ChangeSpec.witness6 (enc := enc) (C := Try.checked) false ⟨#[], #[.agg #[.string ByteArray.empty, .int .i64 0, .int .i64 0, .slice none 0 0, .slice none 0 0, .bool false, .bool false, .slice none 0 0, .int .i64 0, .int .i64 0, .int .i64 0], .int .i64 0, .slice none 0 0, .int .i64 0], []⟩ 8 (by kernel_rfl) (by kernel_rfl) (by kernel_rfl) (by kernel_rfl))
    rfl (by kernel_rfl) (by kernel_rfl) (by kernel_rfl) laid (by kernel_rfl) 4 (by kernel_rfl) (fun ds h => match ds, h with | [_, _, _, _], _ => rfl) (G.f7_ok 9000) (fun x hx => pure x hx)
theorem over : Rows.handicapNoneRow.holds Try.pinned (OpenSpec.ofChange Rows.handicapNoneSpec) :=
  OpenClaim.holds_of_wide 7 Try.f7 rfl rfl rfl rfl rfl rfl rfl ⟨rfl, rfl, rfl, rfl, rfl⟩ rfl rfl rfl rfl rfl (by kernel_rfl) Try.func7 (by kernel_rfl)
    (of_decide_eq_true (by kernel_rfl)) (by unfold Func.isWrapper; first | (rw [if_pos (by decide +kernel)]; kernel_rfl) | (rw [if_neg (by decide +kernel)]; exact ⟨rfl, rfl⟩))
    (fun os started H enc _ => lifted os started H enc)
end HandicapNoneL
/-- The row, under a short name, for the claim. -/
theorem handicapNone_holds : Rows.HandicapNoneSaid := HandicapNoneL.over
#print axioms handicapNone_holds
end Go.Proofs.Ytnjjioeehbanjaa
