/- Paths; first moves. -/
import Derived.Test.YtphgopfhobockaaTStep
namespace Go.Proofs.Ytphgopfhobockaa.G
open Go.VM Go.Proofs
section
variable {r : RU} {p : PO}
theorem path_get : ∀ {ms : List MV} {p : PO} {qs : List PO}, Path r p ms qs → ∀ i : Nat, i < ms.length → f50 9000 r (rd P00 (p :: qs) (i : Int)) (rd M0 ms (i : Int)) = some (rd P00 (p :: qs) ((i + 1 : Nat) : Int), ())
  | [], _, _, _, i, hi => by simp at hi
  | m :: ms, p, qs, ⟨q, qs', hq, hd, _, _, _, h⟩, i, hi => by
    subst hq
    cases i with
    | zero => exact hd
    | succ i => exact path_get h i (by simpa using hi)
theorem take_rd {α : Type} (d : α) (l : List α) (i : Nat) (h : i < l.length) : l.take (i + 1) = l.take i ++ [rd d l (i : Int)] := by
  rw [List.take_add_one]
  congr 1
  simp [rd, List.getD_eq_getElem?_getD, List.getElem?_eq_getElem h]
theorem rd_take {α : Type} (d : α) (l : List α) (i n : Nat) (h : i < n) : rd d (l.take n) (i : Int) = rd d l (i : Int) := by
  simp [rd, List.getD_eq_getElem?_getD, h]
end
theorem tic_rz : ∃ t : RU, f39 9000 = some (t, ()) ∧ Rz t := by
  refine ⟨_, rfl, ?_⟩
  unfold Rz
  kernel_rfl
theorem cut40 (l : List MV) : f23 9000 l = some (l.take 40, ()) := by
  unfold f23
  rw [bt2 (by split <;> omega)]
  congr 2
  unfold sliceOf
  rw [show (0 : Int).toNat = 0 from rfl, List.drop_zero]
  split
  · rfl
  · rw [List.take_of_length_le (by omega), List.take_of_length_le (by omega)]
theorem Plays.det : ∀ {ms : List MV} {g a b : GM}, Plays g ms a → Plays g ms b → a = b
  | [], g, a, b, h1, h2 => by rw [← show g = a from h1]; exact h2
  | m :: ms, g, a, b, ⟨x, h1, h2⟩, ⟨y, h3, h4⟩ => by
    rw [h1] at h3
    simp only [Option.some.injEq, Prod.mk.injEq, true_and, and_true] at h3
    subst h3
    exact Plays.det h2 h4
end Go.Proofs.Ytphgopfhobockaa.G
