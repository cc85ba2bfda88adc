/- What contains what. -/
import Derived.Test.YtgglflagbbfalaaTGen3
namespace Go.Proofs.Ytgglflagbbfalaa.G
open Go.VM Go.Proofs
theorem idx103 (g : List MV) (m : MV) (hg : g.length ≤ 8000) : ∀ (j i : Nat), i ≤ g.length → g.length < i + j → l62_2 9000 j g m g.length i = some (.inl ()) ∨ ∃ k : Nat, l62_2 9000 j g m g.length i = some (.inr ((k : Int), ())) ∧ m ∈ g
  | 0, i, h, h' => by omega
  | j + 1, i, h, h' => by
    rw [l62_2]
    by_cases hi : i < g.length
    · have e : ((i : Int) + 1) = ((i + 1 : Nat) : Int) := by omega
      rw [bt1 (show (i : Int) < g.length by omega), bt2 ⟨by omega, by omega⟩, ws (by omega), e]
      cases hb : (m.1 == (rd ((0, 0, 0, ()) : MV) g (i : Int)).1) && ((m.2.1 == (rd ((0, 0, 0, ()) : MV) g (i : Int)).2.1) && ((m.2.2.1 == (rd ((0, 0, 0, ()) : MV) g (i : Int)).2.2.1) && true))
      · exact idx103 g m hg j (i + 1) (by omega) (by omega)
      · refine .inr ⟨i, rfl, ?_⟩
        simp only [Bool.and_eq_true, beq_iff_eq, Bool.and_true] at hb
        have : m = rd ((0, 0, 0, ()) : MV) g (i : Int) := Prod.ext hb.1 (Prod.ext hb.2.1 (Prod.ext hb.2.2 rfl))
        rw [this]
        exact rd_mem _ g i hi
    · rw [bf1 (show ¬ (i : Int) < g.length by omega)]
      exact .inl rfl
theorem has_tot (g : List MV) (m : MV) (hg : g.length ≤ 8000) : ∃ b, f48 9000 g m = some (b, ()) ∧ (b = true → m ∈ g) := by
  unfold f48 f62
  rcases idx103 g m hg 9000 0 (by omega) (by omega) with h | ⟨k, h, h1⟩
  · rw [show ((0 : Nat) : Int) = 0 from rfl] at h
    rw [h]
    exact ⟨false, rfl, fun h => by cases h⟩
  · rw [show ((0 : Nat) : Int) = 0 from rfl] at h
    rw [h]
    exact ⟨_, rfl, fun _ => h1⟩
end Go.Proofs.Ytgglflagbbfalaa.G
