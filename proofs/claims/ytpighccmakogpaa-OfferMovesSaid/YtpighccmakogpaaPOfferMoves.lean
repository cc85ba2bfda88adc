import Derived.Test.YtpighccmakogpaaGOfferMoves
namespace Go.Proofs.Ytpighccmakogpaa.G
open Go.VM Go.Proofs
theorem w1 : w64 (0 + 1) = 1 := by decide
theorem w2 : w64 (1 + 1) = 2 := by decide
theorem w3 : w64 (1 - 0) = 1 := by decide
theorem w4 : w64 (1 - 1) = 0 := by decide
theorem w5 : w64 2 = 2 := by decide
theorem w6 : w64 1 = 1 := by decide
theorem w7 : w64 0 = 0 := by decide

theorem in_0 (k j : Nat) (b0 b1 a b c d s6 : Int) : l38_7 k (j + 3) (b0, b1, a, b, c, d, ()) 0 s6 0 =
    if a < -1 ∨ a > 400 ∨ b < -1 ∨ b > 400 then some (.inr (4, ())) else some (.inl ((b0, b1, a, b, c, d, ()), 0, s6, ())) := by
  simp only [l38_7, w1, w2]
  simp [Bool.cond_decide]
  repeat' split
  all_goals first | rfl | omega | simp_all | skip
theorem in_1 (k j : Nat) (b0 b1 a b c d s6 : Int) : l38_7 k (j + 3) (b0, b1, a, b, c, d, ()) 1 s6 0 =
    if c < -1 ∨ c > 400 ∨ d < -1 ∨ d > 400 then some (.inr (4, ())) else some (.inl ((b0, b1, a, b, c, d, ()), 1, s6, ())) := by
  simp only [l38_7, w1, w2]
  simp [Bool.cond_decide]
  repeat' split
  all_goals first | rfl | omega | simp_all | skip

/-- What is offered is well formed. -/
def V (b0 b1 a b c d : Int) : Prop :=
  (-1 ≤ b0 ∧ b0 ≤ 1 ∧ -1 ≤ a ∧ a ≤ 400 ∧ -1 ≤ b ∧ b ≤ 400 ∧ (b0 = 0 → 0 ≤ a) ∧ (b0 = 1 → 0 ≤ b)) ∧
  (-1 ≤ b1 ∧ b1 ≤ 1 ∧ -1 ≤ c ∧ c ≤ 400 ∧ -1 ≤ d ∧ d ≤ 400 ∧ (b1 = 0 → 0 ≤ c) ∧ (b1 = 1 → 0 ≤ d))

theorem in_k0 (b0 b1 a b c d s6 : Int) : l38_7 100 100 (b0, b1, a, b, c, d, ()) 0 s6 0 =
    if a < -1 ∨ a > 400 ∨ b < -1 ∨ b > 400 then some (.inr (4, ())) else some (.inl ((b0, b1, a, b, c, d, ()), 0, s6, ())) := in_0 100 97 ..
theorem in_k1 (b0 b1 a b c d s6 : Int) : l38_7 100 100 (b0, b1, a, b, c, d, ()) 1 s6 0 =
    if c < -1 ∨ c > 400 ∨ d < -1 ∨ d > 400 then some (.inr (4, ())) else some (.inl ((b0, b1, a, b, c, d, ()), 1, s6, ())) := in_1 100 97 ..

theorem out_2 (j : Nat) (b0 b1 a b c d : Int) : l38_2 100 (j + 1) (b0, b1, a, b, c, d, ()) 2 = some (.inl ()) := by
  simp [l38_2]
theorem out_1 (j : Nat) (b0 b1 a b c d : Int) : ∃ e : Int, (l38_2 100 (j + 2) (b0, b1, a, b, c, d, ()) 1 = (if e = 0 then some (.inl ()) else some (.inr (e, ())))) ∧
    (e = 0 ↔ (-1 ≤ b1 ∧ b1 ≤ 1 ∧ -1 ≤ c ∧ c ≤ 400 ∧ -1 ≤ d ∧ d ≤ 400 ∧ (b1 = 0 → 0 ≤ c) ∧ (b1 = 1 → 0 ≤ d))) := by
  rw [l38_2]
  simp only [in_k1, w2]
  by_cases h1 : b1 < -1
  · exact ⟨4, by simp [h1], by omega⟩
  by_cases h2 : b1 > 1
  · exact ⟨4, by simp [h1, h2], by omega⟩
  by_cases h3 : c < -1 ∨ c > 400 ∨ d < -1 ∨ d > 400
  · exact ⟨4, by simp [h1, h2, h3], by omega⟩
  have hb : b1 = -1 ∨ b1 = 0 ∨ b1 = 1 := by omega
  rcases hb with rfl | rfl | rfl
  · exact ⟨0, by simp [h3, w5, out_2], by omega⟩
  · by_cases h4 : c < 0
    · exact ⟨3, by simp [h3, h4], by omega⟩
    · exact ⟨0, by simp [h3, h4, w5, out_2], by omega⟩
  · by_cases h4 : d < 0
    · exact ⟨3, by simp [h3, h4], by omega⟩
    · exact ⟨0, by simp [h3, h4, w5, out_2], by omega⟩
theorem out_0 (j : Nat) (b0 b1 a b c d : Int) : ∃ e : Int, (l38_2 100 (j + 3) (b0, b1, a, b, c, d, ()) 0 = (if e = 0 then some (.inl ()) else some (.inr (e, ())))) ∧ (e = 0 ↔ V b0 b1 a b c d) := by
  obtain ⟨e, he, hv⟩ := out_1 j b0 b1 a b c d
  rw [l38_2]
  unfold V
  simp only [in_k0, w1]
  by_cases h1 : b0 < -1
  · exact ⟨4, by simp [h1], by omega⟩
  by_cases h2 : b0 > 1
  · exact ⟨4, by simp [h1, h2], by omega⟩
  by_cases h3 : a < -1 ∨ a > 400 ∨ b < -1 ∨ b > 400
  · exact ⟨4, by simp [h1, h2, h3], by omega⟩
  have hb : b0 = -1 ∨ b0 = 0 ∨ b0 = 1 := by omega
  rcases hb with rfl | rfl | rfl
  · exact ⟨e, by simp [h3, w6, he], by omega⟩
  · by_cases h4 : a < 0
    · exact ⟨3, by simp [h3, h4], by omega⟩
    · exact ⟨e, by simp [h3, h4, w6, he], by omega⟩
  · by_cases h4 : b < 0
    · exact ⟨3, by simp [h3, h4], by omega⟩
    · exact ⟨e, by simp [h3, h4, w6, he], by omega⟩
theorem chk (b0 b1 a b c d : Int) : ∃ e : Int, f38 100 ((b0, b1, ()), ((a, b, ()), (c, d, ()), ()), ()) = some (e, ()) ∧ (e = 0 ↔ V b0 b1 a b c d) := by
  obtain ⟨e, he, hv⟩ := out_0 97 b0 b1 a b c d
  refine ⟨e, ?_, hv⟩
  have he : l38_2 100 100 (b0, b1, a, b, c, d, ()) 0 = _ := he
  simp only [f38, he]
  by_cases h : e = 0 <;> simp [h]
theorem args_ok {b0 b1 a b c d x1 x2 x3 : Int} (hv : V b0 b1 a b c d) (h : 0 ≤ x1 ∧ x1 ≤ 1 ∧ 0 ≤ x2 ∧ x2 ≤ 1 ∧ 0 ≤ x3 ∧ x3 ≤ 400) : f34 100 ((b0, b1, ()), ((a, b, ()), (c, d, ()), ()), ()) x1 x2 x3 = some (0, ()) := by
  obtain ⟨e, he, hv'⟩ := chk b0 b1 a b c d
  have : e = 0 := hv'.2 hv
  subst this
  simp only [f34, he]
  simp [show ¬ x1 < 0 by omega, show ¬ 1 < x1 by omega, show ¬ x2 < 0 by omega, show ¬ 1 < x2 by omega, show ¬ x3 < 0 by omega, show ¬ 400 < x3 by omega]
theorem args_bad {b0 b1 a b c d x1 x2 x3 : Int} (h : ¬ (V b0 b1 a b c d ∧ 0 ≤ x1 ∧ x1 ≤ 1 ∧ 0 ≤ x2 ∧ x2 ≤ 1 ∧ 0 ≤ x3 ∧ x3 ≤ 400)) : ∃ e, f34 100 ((b0, b1, ()), ((a, b, ()), (c, d, ()), ()), ()) x1 x2 x3 = some (e, ()) ∧ e ≠ 0 := by
  obtain ⟨e, he, hv'⟩ := chk b0 b1 a b c d
  simp only [f34, he]
  by_cases h0 : e = 0
  · have hv := hv'.1 h0
    refine ⟨1, ?_, by decide⟩
    subst h0
    have h : ¬ (0 ≤ x1 ∧ x1 ≤ 1 ∧ 0 ≤ x2 ∧ x2 ≤ 1 ∧ 0 ≤ x3 ∧ x3 ≤ 400) := fun k => h ⟨hv, k⟩
    simp [Bool.cond_decide]
    repeat' split
    all_goals first | rfl | omega
  · have hne : (e != 0) = true := by simpa using h0
    exact ⟨e, by simp [hne], h0⟩
theorem off_ok : f18 100 = some (true, ()) := by decide +kernel


theorem back_in (s7 : Int) (h : s7 = 0 ∨ s7 = 1) (s18 : Int) (a b c d : Int) (s4 : Int × Int × Int × Int × Int × Int × Unit) : ∃ a' b' c' d' : Int, l27_9 100 100 0 ((-1), (-1), a, b, c, d, ()) s4 s7 s18 0 = some (0, ((-1), (-1), a', b', c', d', ()), s4, s18, ()) := by
  rcases h with rfl | rfl
  · exact ⟨_, _, _, _, by rw [l27_9, l27_9, l27_9]; simp [w1, w5, w6]; rfl⟩
  · exact ⟨_, _, _, _, by rw [l27_9, l27_9, l27_9]; simp [w1, w5, w6]; rfl⟩
theorem back_out (a b c d : Int) (s4 : Int × Int × Int × Int × Int × Int × Unit) : ∃ a' b' c' d' : Int, l27_6 100 100 0 ((-1), (-1), a, b, c, d, ()) s4 0 = some (((-1), (-1), a', b', c', d', ()), s4, ()) := by
  obtain ⟨a1, b1, c1, d1, h1⟩ := back_in 0 (.inl rfl) 0 a b c d s4
  obtain ⟨a2, b2, c2, d2, h2⟩ := back_in 1 (.inr rfl) 1 a1 b1 c1 d1 s4
  exact ⟨a2, b2, c2, d2, by
    rw [l27_6]; simp [h1, w6]
    rw [l27_6]; simp [h2, w5]
    rw [l27_6]; simp⟩
theorem back_ok {b0 b1 a b c d : Int} (hv : V b0 b1 a b c d) : ∃ t : (Int × Int × Unit) × (Int × Int × Unit) × Unit, f27 100 ((b0, b1, ()), ((a, b, ()), (c, d, ()), ()), ()) 0 = some ((((-1), (-1), ()), t, ()), 0, ()) := by
  have hk := args_ok (x1 := 0) (x2 := 0) (x3 := 0) hv (by omega)
  obtain ⟨a', b', c', d', h⟩ := back_out a b c d (0, 0, 0, 0, 0, 0, ())
  exact ⟨((a', b', ()), (c', d', ()), ()), by simp [f27, hk, h]⟩

theorem moves_pure (o : (Int × Int × Unit) × ((Int × Int × Unit) × (Int × Int × Unit) × Unit) × Unit) (x2 x3 : Int) : f9 100 o x2 x3 = some (true, ()) := by
  obtain ⟨⟨b0, b1, ⟨⟩⟩, ⟨⟨a, b, ⟨⟩⟩, ⟨c, d, ⟨⟩⟩, ⟨⟩⟩, ⟨⟩⟩ := o
  by_cases h : V b0 b1 a b c d ∧ 0 ≤ (0 : Int) ∧ (0 : Int) ≤ 1 ∧ 0 ≤ x2 ∧ x2 ≤ 1 ∧ 0 ≤ x3 ∧ x3 ≤ 400
  · obtain ⟨hv, hr⟩ := h
    have hk := args_ok hv hr
    have e2 : x2 = 0 ∨ x2 = 1 := by omega
    simp only [f9, off_ok]
    rcases e2 with rfl | rfl
    · by_cases h1 : b0 ≥ 0
      · simp [f19, hk, h1]
      by_cases h2 : a = x3
      · subst h2; simp [f19, hk, h1]
      have h2' : (a == x3) = false := by simpa using h2
      have hv1 : V 0 b1 x3 b c d := by unfold V at hv ⊢; omega
      have k1 : f34 100 ((0, b1, ()), ((x3, b, ()), (c, d, ()), ()), ()) 0 1 x3 = some (0, ()) := args_ok hv1 (by omega)
      have k2 : f34 100 ((0, b1, ()), ((x3, b, ()), (c, d, ()), ()), ()) 0 1 0 = some (0, ()) := args_ok hv1 (by omega)
      have k3 : f34 100 ((0, b1, ()), ((x3, b, ()), (c, d, ()), ()), ()) 0 0 0 = some (0, ()) := args_ok hv1 (by omega)
      obtain ⟨t, ht⟩ := back_ok hv1
      simp [f19, f25, f26, hk, h1, h2', k1, k2, k3, ht, w3, w4, w6, w7]
    · by_cases h1 : b0 ≥ 0
      · simp [f19, hk, h1]
      by_cases h2 : b = x3
      · subst h2; simp [f19, hk, h1]
      have h2' : (b == x3) = false := by simpa using h2
      have hv1 : V 1 b1 a x3 c d := by unfold V at hv ⊢; omega
      have k1 : f34 100 ((1, b1, ()), ((a, x3, ()), (c, d, ()), ()), ()) 0 0 x3 = some (0, ()) := args_ok hv1 (by omega)
      have k2 : f34 100 ((1, b1, ()), ((a, x3, ()), (c, d, ()), ()), ()) 0 0 0 = some (0, ()) := args_ok hv1 (by omega)
      have k3 : f34 100 ((1, b1, ()), ((a, x3, ()), (c, d, ()), ()), ()) 0 1 0 = some (0, ()) := args_ok hv1 (by omega)
      obtain ⟨t, ht⟩ := back_ok hv1
      simp [f19, f25, f26, hk, h1, h2', k1, k2, k3, ht, w3, w4, w6, w7]
  · obtain ⟨e, he, h0⟩ := args_bad h
    have hne : (e != 0) = true := by simpa using h0
    simp [f9, off_ok, f19, he, hne]
end Go.Proofs.Ytpighccmakogpaa.G
