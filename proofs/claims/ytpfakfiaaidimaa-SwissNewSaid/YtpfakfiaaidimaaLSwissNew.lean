/- SwissNew returns true whatever the input. No condition. -/
import Derived.Test.YtpfakfiaaidimaaRows
import Derived.Test.YtpfakfiaaidimaaPSwNew
import Derived.JoinedOf
namespace Go.Proofs.Ytpfakfiaaidimaa
open Go.VM Go.Proofs
namespace SwissNewL
theorem own : ownKnob Try.prog.godebug = none := by kernel_rfl
theorem laid : laidOutB Try.prog = true := by kernel_rfl
theorem lifted (os : Os) (started : os.Started) (H : Type) (enc : TypeId × Value → H) :
    ReturnsInHanded {} Try.checked os 3 .any (Rows.swissNewSpec.pre6 enc Try.prog Try.f3 Rows.swissNewRow.domain false) (Rows.swissNewSpec.post enc Try.prog Try.f3 false true false false) :=
  law_row (C := Try.checked) (us := [.sl (.pair (.int .i64) (.pair (.sl (.int .i64)) (.pair (.int .i64) (.pair (.bool) (.unit)))))]) (F := fun x => G.f3 9000 x.1) (b := 4) own started (by kernel_rfl) Try.func3
    (ChangeSpec.witness6 (enc := enc) (C := Try.checked) false ⟨#[], #[.slice none 0 0], []⟩ 8 (by kernel_rfl) (by kernel_rfl) (by kernel_rfl) (by kernel_rfl))
    rfl (by kernel_rfl) (by kernel_rfl) (by kernel_rfl) laid (by kernel_rfl) 1 (by kernel_rfl) (fun ds h => match ds, h with | [_], _ => rfl) (G.f3_ok 9000) (fun x hx => G.new_pure x.1)
theorem over : Rows.swissNewRow.holds Try.pinned (OpenSpec.ofChange Rows.swissNewSpec) :=
  OpenClaim.holds_of_wide 3 Try.f3 rfl rfl rfl rfl rfl rfl rfl ⟨rfl, rfl, rfl, rfl, rfl⟩ rfl rfl rfl rfl rfl (by kernel_rfl) Try.func3 (by kernel_rfl)
    (of_decide_eq_true (by kernel_rfl)) (by unfold Func.isWrapper; first | (rw [if_pos (by decide +kernel)]; kernel_rfl) | (rw [if_neg (by decide +kernel)]; exact ⟨rfl, rfl⟩))
    (fun os started H enc _ => lifted os started H enc)
end SwissNewL
/-- The row, under a short name, for the claim. -/
theorem swissNew_holds : Rows.SwissNewSaid := SwissNewL.over
#print axioms swissNew_holds
end Go.Proofs.Ytpfakfiaaidimaa
