import Derived.Test.YtpighccmakogpaaGOfferOnce
namespace Go.Proofs.Ytpighccmakogpaa.G
open Go.VM Go.Proofs
theorem w1 : w64 (0 + 1) = 1 := by decide
theorem w2 : w64 (1 + 1) = 2 := by decide
theorem w3 : w64 (1 - 0) = 1 := by decide
theorem w4 : w64 (1 - 1) = 0 := by decide
theorem w5 : w64 2 = 2 := by decide
theorem w6 : w64 1 = 1 := by decide
theorem w7 : w64 0 = 0 := by decide

theorem in_0 (k j : Nat) (b0 b1 a b c d s6 : Int) : l38_7 k (j + 3) (b0, b1, a, b, c, d, ()) 0 s6 0 =
    if a < -1 ∨ a > 400 ∨ b < -1 ∨ b > 400 then some (.inr (4, ())) else some (.inl ((b0, b1, a, b, c, d, ()), 0, s6, ())) := by
  simp only [l38_7, w1, w2]
  simp [Bool.cond_decide]
  repeat' split
  all_goals first | rfl | omega | simp_all | skip
theorem in_1 (k j : Nat) (b0 b1 a b c d s6 : Int) : l38_7 k (j + 3) (b0, b1, a, b, c, d, ()) 1 s6 0 =
    if c < -1 ∨ c > 400 ∨ d < -1 ∨ d > 400 then some (.inr (4, ())) else some (.inl ((b0, b1, a, b, c, d, ()), 1, s6, ())) := by
  simp only [l38_7, w1, w2]
  simp [Bool.cond_decide]
  repeat' split
  all_goals first | rfl | omega | simp_all | skip

/-- What is offered is well formed. -/
def V (b0 b1 a b c d : Int) : Prop :=
  (-1 ≤ b0 ∧ b0 ≤ 1 ∧ -1 ≤ a ∧ a ≤ 400 ∧ -1 ≤ b ∧ b ≤ 400 ∧ (b0 = 0 → 0 ≤ a) ∧ (b0 = 1 → 0 ≤ b)) ∧
  (-1 ≤ b1 ∧ b1 ≤ 1 ∧ -1 ≤ c ∧ c ≤ 400 ∧ -1 ≤ d ∧ d ≤ 400 ∧ (b1 = 0 → 0 ≤ c) ∧ (b1 = 1 → 0 ≤ d))

theorem in_k0 (b0 b1 a b c d s6 : Int) : l38_7 100 100 (b0, b1, a, b, c, d, ()) 0 s6 0 =
    if a < -1 ∨ a > 400 ∨ b < -1 ∨ b > 400 then some (.inr (4, ())) else some (.inl ((b0, b1, a, b, c, d, ()), 0, s6, ())) := in_0 100 97 ..
theorem in_k1 (b0 b1 a b c d s6 : Int) : l38_7 100 100 (b0, b1, a, b, c, d, ()) 1 s6 0 =
    if c < -1 ∨ c > 400 ∨ d < -1 ∨ d > 400 then some (.inr (4, ())) else some (.inl ((b0, b1, a, b, c, d, ()), 1, s6, ())) := in_1 100 97 ..

theorem out_2 (j : Nat) (b0 b1 a b c d : Int) : l38_2 100 (j + 1) (b0, b1, a, b, c, d, ()) 2 = some (.inl ()) := by
  simp [l38_2]
theorem out_1 (j : Nat) (b0 b1 a b c d : Int) : ∃ e : Int, (l38_2 100 (j + 2) (b0, b1, a, b, c, d, ()) 1 = (if e = 0 then some (.inl ()) else some (.inr (e, ())))) ∧
    (e = 0 ↔ (-1 ≤ b1 ∧ b1 ≤ 1 ∧ -1 ≤ c ∧ c ≤ 400 ∧ -1 ≤ d ∧ d ≤ 400 ∧ (b1 = 0 → 0 ≤ c) ∧ (b1 = 1 → 0 ≤ d))) := by
  rw [l38_2]
  simp only [in_k1, w2]
  by_cases h1 : b1 < -1
  · exact ⟨4, by simp [h1], by omega⟩
  by_cases h2 : b1 > 1
  · exact ⟨4, by simp [h1, h2], by omega⟩
  by_cases h3 : c < -1 ∨ c > 400 ∨ d < -1 ∨ d > 400
  · exact ⟨4, by simp [h1, h2, h3], by omega⟩
  have hb : b1 = -1 ∨ b1 = 0 ∨ b1 = 1 := by omega
  rcases hb with rfl | rfl | rfl
  · exact ⟨0, by simp [h3, w5, out_2], by omega⟩
  · by_cases h4 : c < 0
    · exact ⟨3, by simp [h3, h4], by omega⟩
    · exact ⟨0, by simp [h3, h4, w5, out_2], by omega⟩
  · by_cases h4 : d < 0
    · exact ⟨3, by simp [h3, h4], by omega⟩
    · exact ⟨0, by simp [h3, h4, w5, out_2], by omega⟩
theorem out_0 (j : Nat) (b0 b1 a b c d : Int) : ∃ e : Int, (l38_2 100 (j + 3) (b0, b1, a, b, c, d, ()) 0 = (if e = 0 then some (.inl ()) else some (.inr (e, ())))) ∧ (e = 0 ↔ V b0 b1 a b c d) := by
  obtain ⟨e, he, hv⟩ := out_1 j b0 b1 a b c d
  rw [l38_2]
  unfold V
  simp only [in_k0, w1]
  by_cases h1 : b0 < -1
  · exact ⟨4, by simp [h1], by omega⟩
  by_cases h2 : b0 > 1
  · exact ⟨4, by simp [h1, h2], by omega⟩
  by_cases h3 : a < -1 ∨ a > 400 ∨ b < -1 ∨ b > 400
  · exact ⟨4, by simp [h1, h2, h3], by omega⟩
  have hb : b0 = -1 ∨ b0 = 0 ∨ b0 = 1 := by omega
  rcases hb with rfl | rfl | rfl
  · exact ⟨e, by simp [h3, w6, he], by omega⟩
  · by_cases h4 : a < 0
    · exact ⟨3, by simp [h3, h4], by omega⟩
    · exact ⟨e, by simp [h3, h4, w6, he], by omega⟩
  · by_cases h4 : b < 0
    · exact ⟨3, by simp [h3, h4], by omega⟩
    · exact ⟨e, by simp [h3, h4, w6, he], by omega⟩
theorem chk (b0 b1 a b c d : Int) : ∃ e : Int, f38 100 ((b0, b1, ()), ((a, b, ()), (c, d, ()), ()), ()) = some (e, ()) ∧ (e = 0 ↔ V b0 b1 a b c d) := by
  obtain ⟨e, he, hv⟩ := out_0 97 b0 b1 a b c d
  refine ⟨e, ?_, hv⟩
  have he : l38_2 100 100 (b0, b1, a, b, c, d, ()) 0 = _ := he
  simp only [f38, he]
  by_cases h : e = 0 <;> simp [h]
theorem args_ok {b0 b1 a b c d x1 x2 x3 : Int} (hv : V b0 b1 a b c d) (h : 0 ≤ x1 ∧ x1 ≤ 1 ∧ 0 ≤ x2 ∧ x2 ≤ 1 ∧ 0 ≤ x3 ∧ x3 ≤ 400) : f34 100 ((b0, b1, ()), ((a, b, ()), (c, d, ()), ()), ()) x1 x2 x3 = some (0, ()) := by
  obtain ⟨e, he, hv'⟩ := chk b0 b1 a b c d
  have : e = 0 := hv'.2 hv
  subst this
  simp only [f34, he]
  simp [show ¬ x1 < 0 by omega, show ¬ 1 < x1 by omega, show ¬ x2 < 0 by omega, show ¬ 1 < x2 by omega, show ¬ x3 < 0 by omega, show ¬ 400 < x3 by omega]
theorem args_bad {b0 b1 a b c d x1 x2 x3 : Int} (h : ¬ (V b0 b1 a b c d ∧ 0 ≤ x1 ∧ x1 ≤ 1 ∧ 0 ≤ x2 ∧ x2 ≤ 1 ∧ 0 ≤ x3 ∧ x3 ≤ 400)) : ∃ e, f34 100 ((b0, b1, ()), ((a, b, ()), (c, d, ()), ()), ()) x1 x2 x3 = some (e, ()) ∧ e ≠ 0 := by
  obtain ⟨e, he, hv'⟩ := chk b0 b1 a b c d
  simp only [f34, he]
  by_cases h0 : e = 0
  · have hv := hv'.1 h0
    refine ⟨1, ?_, by decide⟩
    subst h0
    have h : ¬ (0 ≤ x1 ∧ x1 ≤ 1 ∧ 0 ≤ x2 ∧ x2 ≤ 1 ∧ 0 ≤ x3 ∧ x3 ≤ 400) := fun k => h ⟨hv, k⟩
    simp [Bool.cond_decide]
    repeat' split
    all_goals first | rfl | omega
  · have hne : (e != 0) = true := by simpa using h0
    exact ⟨e, by simp [hne], h0⟩
theorem off_ok : f18 100 = some (true, ()) := by decide +kernel

theorem plies (x y : Int) : ∃ p, f35 100 x y = some (p, ()) := by
  simp only [f35, f39]
  simp only [Bool.cond_decide]
  by_cases h1 : x < 0
  · exact ⟨0, by simp [h1]⟩
  by_cases h2 : x > 1
  · exact ⟨0, by simp [h1, h2]⟩
  by_cases h3 : y < 1
  · exact ⟨0, by simp [h1, h2, h3]⟩
  have h4 : ¬ y < 0 := by omega
  cases h5 : y.tmod 2 == x
  · exact ⟨1, by simp [h1, h2, h3, h4, h5, show ¬ 1 > y by omega]⟩
  · by_cases h6 : 2 > y
    · exact ⟨0, by simp [h1, h2, h3, h4, h5, h6]⟩
    · exact ⟨2, by simp [h1, h2, h3, h4, h5, h6]⟩
theorem once_pure (o : (Int × Int × Unit) × ((Int × Int × Unit) × (Int × Int × Unit) × Unit) × Unit) (x1 x2 x3 : Int) : f5 100 o x1 x2 x3 = some (true, ()) := by
  obtain ⟨⟨b0, b1, ⟨⟩⟩, ⟨⟨a, b, ⟨⟩⟩, ⟨c, d, ⟨⟩⟩, ⟨⟩⟩, ⟨⟩⟩ := o
  by_cases h : V b0 b1 a b c d ∧ 0 ≤ x1 ∧ x1 ≤ 1 ∧ 0 ≤ x2 ∧ x2 ≤ 1 ∧ 0 ≤ x3 ∧ x3 ≤ 400
  · obtain ⟨hv, hr⟩ := h
    have hk := args_ok hv hr
    have e1 : x1 = 0 ∨ x1 = 1 := by omega
    have e2 : x2 = 0 ∨ x2 = 1 := by omega
    simp only [f5, off_ok]
    rcases e1 with rfl | rfl <;> rcases e2 with rfl | rfl
    · by_cases h1 : b0 ≥ 0
      · simp [f19, hk, h1]
      by_cases h2 : a = x3
      · subst h2; simp [f19, hk, h1]
      have h2' : (a == x3) = false := by simpa using h2
      have hv1 : V 0 b1 x3 b c d := by unfold V at hv ⊢; omega
      have hv2 : V (-1) b1 x3 b c d := by unfold V at hv ⊢; omega
      have k1 := args_ok hv1 hr
      have k2 : f34 100 ((0, b1, ()), ((x3, b, ()), (c, d, ()), ()), ()) 0 1 x3 = some (0, ()) := args_ok hv1 (by omega)
      have k3 := args_ok hv2 hr
      simp [f19, f20, hk, h1, h2', k1, k2, k3, w3, w4, w6, w7]
    · by_cases h1 : b0 ≥ 0
      · simp [f19, hk, h1]
      by_cases h2 : b = x3
      · subst h2; simp [f19, hk, h1]
      have h2' : (b == x3) = false := by simpa using h2
      have hv1 : V 1 b1 a x3 c d := by unfold V at hv ⊢; omega
      have hv2 : V (-1) b1 a x3 c d := by unfold V at hv ⊢; omega
      have k1 := args_ok hv1 hr
      have k2 : f34 100 ((1, b1, ()), ((a, x3, ()), (c, d, ()), ()), ()) 0 0 x3 = some (0, ()) := args_ok hv1 (by omega)
      have k3 := args_ok hv2 hr
      simp [f19, f20, hk, h1, h2', k1, k2, k3, w3, w4, w6, w7]
    · by_cases h1 : b1 ≥ 0
      · simp [f19, hk, h1]
      by_cases h2 : c = x3
      · subst h2; simp [f19, hk, h1]
      have h2' : (c == x3) = false := by simpa using h2
      obtain ⟨p, hp⟩ : ∃ p, f35 100 0 x3 = some (p, ()) := plies 0 x3
      by_cases h3 : p = 0
      · simp [f19, hk, h1, h2', hp, h3]
      have h3' : (p == 0) = false := by simpa using h3
      have hv1 : V b0 0 a b x3 d := by unfold V at hv ⊢; omega
      have hv2 : V b0 (-1) a b x3 d := by unfold V at hv ⊢; omega
      have k1 := args_ok hv1 hr
      have k2 : f34 100 ((b0, 0, ()), ((a, b, ()), (x3, d, ()), ()), ()) 1 1 x3 = some (0, ()) := args_ok hv1 (by omega)
      have k3 := args_ok hv2 hr
      simp [f19, f20, hk, h1, h2', hp, h3', k1, k2, k3, w3, w4, w6, w7]
    · by_cases h1 : b1 ≥ 0
      · simp [f19, hk, h1]
      by_cases h2 : d = x3
      · subst h2; simp [f19, hk, h1]
      have h2' : (d == x3) = false := by simpa using h2
      obtain ⟨p, hp⟩ : ∃ p, f35 100 1 x3 = some (p, ()) := plies 1 x3
      by_cases h3 : p = 0
      · simp [f19, hk, h1, h2', hp, h3]
      have h3' : (p == 0) = false := by simpa using h3
      have hv1 : V b0 1 a b c x3 := by unfold V at hv ⊢; omega
      have hv2 : V b0 (-1) a b c x3 := by unfold V at hv ⊢; omega
      have k1 := args_ok hv1 hr
      have k2 : f34 100 ((b0, 1, ()), ((a, b, ()), (c, x3, ()), ()), ()) 1 0 x3 = some (0, ()) := args_ok hv1 (by omega)
      have k3 := args_ok hv2 hr
      simp [f19, f20, hk, h1, h2', hp, h3', k1, k2, k3, w3, w4, w6, w7]
  · obtain ⟨e, he, h0⟩ := args_bad h
    have hne : (e != 0) = true := by simpa using h0
    simp [f5, off_ok, f19, he, hne]
end Go.Proofs.Ytpighccmakogpaa.G
