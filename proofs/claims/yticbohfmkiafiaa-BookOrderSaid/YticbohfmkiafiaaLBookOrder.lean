import Derived.Test.YticbohfmkiafiaaRows
import Derived.Test.YticbohfmkiafiaaPBookOrder
import Derived.JoinedOf
namespace Go.Proofs.Yticbohfmkiafiaa
open Go.VM Go.Proofs
namespace BookOrderL
theorem own : ownKnob Try.prog.godebug = none := by kernel_rfl
theorem laid : laidOutB Try.prog = true := by kernel_rfl
theorem pure (x : (lTy (lay 0 (valKs [.sl (.pair (.int .u64) (.pair (.pair (.int .i64) (.pair (.int .i64) (.pair (.int .i64) (.unit)))) (.pair (.int .i64) (.unit)))), .sl (.pair (.int .u64) (.pair (.pair (.int .i64) (.pair (.int .i64) (.pair (.int .i64) (.unit)))) (.pair (.int .i64) (.unit))))]))).den) (hx : WfDs [.sl (.pair (.int .u64) (.pair (.pair (.int .i64) (.pair (.int .i64) (.pair (.int .i64) (.unit)))) (.pair (.int .i64) (.unit)))), .sl (.pair (.int .u64) (.pair (.pair (.int .i64) (.pair (.int .i64) (.pair (.int .i64) (.unit)))) (.pair (.int .i64) (.unit))))] 0 x) : G.f4 9000 x.1 x.2.1 = some (true, ()) :=
  (fun x hx => G.order_x x) x hx
theorem lifted (os : Os) (started : os.Started) (H : Type) (enc : TypeId × Value → H) :
    ReturnsInHanded {} Try.checked os 4 .any (Rows.bookOrderSpec.pre6 enc Try.prog Try.f4 Rows.bookOrderRow.domain false) (Rows.bookOrderSpec.post enc Try.prog Try.f4 false true false false) :=
  law_row (C := Try.checked) (us := [.sl (.pair (.int .u64) (.pair (.pair (.int .i64) (.pair (.int .i64) (.pair (.int .i64) (.unit)))) (.pair (.int .i64) (.unit)))), .sl (.pair (.int .u64) (.pair (.pair (.int .i64) (.pair (.int .i64) (.pair (.int .i64) (.unit)))) (.pair (.int .i64) (.unit))))]) (F := fun x => G.f4 9000 x.1 x.2.1) (b := 4) own started (by kernel_rfl) Try.func4
    (ChangeSpec.witness6 (enc := enc) (C := Try.checked) false ⟨#[], #[.slice none 0 0, .slice none 0 0], []⟩ 8 (by kernel_rfl) (by kernel_rfl) (by kernel_rfl) (by kernel_rfl))
    rfl (by kernel_rfl) (by kernel_rfl) (by kernel_rfl) laid (by kernel_rfl) 2 (by kernel_rfl) (fun ds h => match ds, h with | [_, _], _ => rfl) (G.f4_ok 9000) (fun x hx => pure x hx)
theorem over : Rows.bookOrderRow.holds Try.pinned (OpenSpec.ofChange Rows.bookOrderSpec) :=
  OpenClaim.holds_of_wide 4 Try.f4 rfl rfl rfl rfl rfl rfl rfl ⟨rfl, rfl, rfl, rfl, rfl⟩ rfl rfl rfl rfl rfl (by kernel_rfl) Try.func4 (by kernel_rfl)
    (of_decide_eq_true (by kernel_rfl)) (by unfold Func.isWrapper; first | (rw [if_pos (by decide +kernel)]; kernel_rfl) | (rw [if_neg (by decide +kernel)]; exact ⟨rfl, rfl⟩))
    (fun os started H enc _ => lifted os started H enc)
end BookOrderL
theorem bookOrder_holds : Rows.BookOrderSaid := BookOrderL.over
#print axioms bookOrder_holds
end Go.Proofs.Yticbohfmkiafiaa
