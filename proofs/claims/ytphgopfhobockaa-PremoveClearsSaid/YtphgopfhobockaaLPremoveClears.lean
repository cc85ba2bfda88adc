/- PremoveClears returns true whatever the input. No condition. -/
import Derived.Test.YtphgopfhobockaaRows
import Derived.Test.YtphgopfhobockaaPPre2
import Derived.JoinedOf
namespace Go.Proofs.Ytphgopfhobockaa
open Go.VM Go.Proofs
namespace PremoveClearsL
theorem own : ownKnob Try.prog.godebug = none := by kernel_rfl
theorem laid : laidOutB Try.prog = true := by kernel_rfl
theorem lifted (os : Os) (started : os.Started) (H : Type) (enc : TypeId × Value → H) :
    ReturnsInHanded {} Try.checked os 4 .any (Rows.premoveClearsSpec.pre6 enc Try.prog Try.f4 Rows.premoveClearsRow.domain false) (Rows.premoveClearsSpec.post enc Try.prog Try.f4 false true false false) :=
  law_row (C := Try.checked) (us := [.sl (.pair (.int .i64) (.pair (.pair (.int .i64) (.pair (.int .i64) (.pair (.int .i64) (.unit)))) (.unit))), .int .i64, .pair (.int .i64) (.pair (.int .i64) (.pair (.int .i64) (.unit)))]) (F := fun x => G.f4 100 x.1 x.2.1 x.2.2.1) (b := 4) own started (by kernel_rfl) Try.func4
    (ChangeSpec.witness6 (enc := enc) (C := Try.checked) false ⟨#[], #[.slice none 0 0, .int .i64 0, .agg #[.int .i64 0, .int .i64 0, .int .i64 0]], []⟩ 8 (by kernel_rfl) (by kernel_rfl) (by kernel_rfl) (by kernel_rfl))
    rfl (by kernel_rfl) (by kernel_rfl) (by kernel_rfl) laid (by kernel_rfl) 3 (by kernel_rfl) (fun ds h => match ds, h with | [_, _, _], _ => rfl) (G.f4_ok 100) (fun x hx => G.clears_pure x.1 x.2.1 x.2.2.1)
theorem over : Rows.premoveClearsRow.holds Try.pinned (OpenSpec.ofChange Rows.premoveClearsSpec) :=
  OpenClaim.holds_of_wide 4 Try.f4 rfl rfl rfl rfl rfl rfl rfl ⟨rfl, rfl, rfl, rfl, rfl⟩ rfl rfl rfl rfl rfl (by kernel_rfl) Try.func4 (by kernel_rfl)
    (of_decide_eq_true (by kernel_rfl)) (by unfold Func.isWrapper; first | (rw [if_pos (by decide +kernel)]; kernel_rfl) | (rw [if_neg (by decide +kernel)]; exact ⟨rfl, rfl⟩))
    (fun os started H enc _ => lifted os started H enc)
end PremoveClearsL
/-- The row, under a short name, for the claim. -/
theorem premoveClears_holds : Rows.PremoveClearsSaid := PremoveClearsL.over
#print axioms premoveClears_holds
end Go.Proofs.Ytphgopfhobockaa
