/- SwissCosts returns true whatever the input. No condition. -/
import Derived.Test.YtpfakfiaaidimaaRows
import Derived.Test.YtpfakfiaaidimaaPSwCosts
import Derived.JoinedOf
namespace Go.Proofs.Ytpfakfiaaidimaa
open Go.VM Go.Proofs
namespace SwissCostsL
theorem own : ownKnob Try.prog.godebug = none := by kernel_rfl
theorem laid : laidOutB Try.prog = true := by kernel_rfl
theorem lifted (os : Os) (started : os.Started) (H : Type) (enc : TypeId × Value → H) :
    ReturnsInHanded {} Try.checked os 4 .any (Rows.swissCostsSpec.pre6 enc Try.prog Try.f4 Rows.swissCostsRow.domain false) (Rows.swissCostsSpec.post enc Try.prog Try.f4 false true false false) :=
  law_row (C := Try.checked) (us := [.sl (.pair (.int .i64) (.pair (.sl (.int .i64)) (.pair (.int .i64) (.pair (.bool) (.unit))))), .int .i64, .int .i64]) (F := fun x => G.f4 9000 x.1 x.2.1 x.2.2.1) (b := 4) own started (by kernel_rfl) Try.func4
    (ChangeSpec.witness6 (enc := enc) (C := Try.checked) false ⟨#[], #[.slice none 0 0, .int .i64 0, .int .i64 0], []⟩ 8 (by kernel_rfl) (by kernel_rfl) (by kernel_rfl) (by kernel_rfl))
    rfl (by kernel_rfl) (by kernel_rfl) (by kernel_rfl) laid (by kernel_rfl) 3 (by kernel_rfl) (fun ds h => match ds, h with | [_, _, _], _ => rfl) (G.f4_ok 9000) (fun x hx => G.costs_pure x.1 x.2.1 x.2.2.1)
theorem over : Rows.swissCostsRow.holds Try.pinned (OpenSpec.ofChange Rows.swissCostsSpec) :=
  OpenClaim.holds_of_wide 4 Try.f4 rfl rfl rfl rfl rfl rfl rfl ⟨rfl, rfl, rfl, rfl, rfl⟩ rfl rfl rfl rfl rfl (by kernel_rfl) Try.func4 (by kernel_rfl)
    (of_decide_eq_true (by kernel_rfl)) (by unfold Func.isWrapper; first | (rw [if_pos (by decide +kernel)]; kernel_rfl) | (rw [if_neg (by decide +kernel)]; exact ⟨rfl, rfl⟩))
    (fun os started H enc _ => lifted os started H enc)
end SwissCostsL
/-- The row, under a short name, for the claim. -/
theorem swissCosts_holds : Rows.SwissCostsSaid := SwissCostsL.over
#print axioms swissCosts_holds
end Go.Proofs.Ytpfakfiaaidimaa
