/- Lines for guards; moves. -/
import Derived.Test.YtgglflagbbfalaaPPlace
namespace Go.Proofs.Ytgglflagbbfalaa.G
open Go.VM Go.Proofs

abbrev MV := Int × Int × Int × Unit
abbrev M0 : MV := (0, 0, 0, ())
theorem ws {n : Int} (h : -9223372036854775808 ≤ n ∧ n ≤ 9223372036854775807) : w64 n = n := by
  unfold w64; rw [IntKind.wrap_i64]; omega
theorem bt2 {α : Type} {p q : Prop} [Decidable p] [Decidable q] {A B : α} (h : p ∧ q) : (bif decide p && decide q then A else B) = A := by
  rw [decide_eq_true h.1, decide_eq_true h.2]; rfl
theorem bt1 {α : Type} {p : Prop} [Decidable p] {A B : α} (h : p) : (bif decide p then A else B) = A := by
  rw [decide_eq_true h]; rfl
theorem bf1 {α : Type} {p : Prop} [Decidable p] {A B : α} (h : ¬ p) : (bif decide p then A else B) = B := by
  rw [decide_eq_false h]; rfl
theorem be1 {α : Type} {a b : Int} {A B : α} (h : a = b) : (bif a == b then A else B) = A := by rw [h, beq_self_eq_true]; rfl
theorem bn1 {α : Type} {a b : Int} {A B : α} (h : a ≠ b) : (bif a == b then A else B) = B := by rw [show (a == b) = false by simpa using h]; rfl
theorem bne1 {α : Type} {a b : Int} {A B : α} (h : a ≠ b) : (bif a != b then A else B) = A := by rw [show (a != b) = true by simpa using h]; rfl
theorem beq1 {α : Type} {a b : Int} {A B : α} (h : a = b) : (bif a != b then A else B) = B := by rw [show (a != b) = false by simp [h]]; rfl
theorem drop_rd {α : Type} (d : α) (l : List α) (i : Nat) (h : i < l.length) : l.drop i = rd d l (i : Int) :: l.drop (i + 1) := by
  rw [List.drop_eq_getElem_cons h]
  unfold rd
  simp [List.getD_eq_getElem?_getD, List.getElem?_eq_getElem h]

end Go.Proofs.Ytgglflagbbfalaa.G
