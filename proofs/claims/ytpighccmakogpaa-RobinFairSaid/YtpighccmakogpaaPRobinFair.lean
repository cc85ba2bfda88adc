import Derived.Test.YtpighccmakogpaaGRobinFair
namespace Go.Proofs.Ytpighccmakogpaa.G
open Go.VM Go.Proofs
def okB (r : Option (Bool × Unit)) : Bool := match r with | some (true, ()) => true | _ => false
theorem okB_eq {r : Option (Bool × Unit)} (h : okB r = true) : r = some (true, ()) := by
  unfold okB at h
  split at h
  · rfl
  · cases h
theorem c2t : okB (f6 100 2 true) = true := by decide +kernel
theorem c2f : okB (f6 100 2 false) = true := by decide +kernel
theorem c3t : okB (f6 100 3 true) = true := by decide +kernel
theorem c3f : okB (f6 100 3 false) = true := by decide +kernel
theorem c4t : okB (f6 100 4 true) = true := by decide +kernel
theorem c4f : okB (f6 100 4 false) = true := by decide +kernel
theorem c5t : okB (f6 100 5 true) = true := by decide +kernel
theorem c5f : okB (f6 100 5 false) = true := by decide +kernel
theorem c6t : okB (f6 100 6 true) = true := by decide +kernel
theorem c6f : okB (f6 100 6 false) = true := by decide +kernel
theorem c7t : okB (f6 100 7 true) = true := by decide +kernel
theorem c7f : okB (f6 100 7 false) = true := by decide +kernel
theorem c8t : okB (f6 100 8 true) = true := by decide +kernel
theorem c8f : okB (f6 100 8 false) = true := by decide +kernel
theorem c9t : okB (f6 100 9 true) = true := by decide +kernel
theorem c9f : okB (f6 100 9 false) = true := by decide +kernel
theorem c10t : okB (f6 100 10 true) = true := by decide +kernel
theorem c10f : okB (f6 100 10 false) = true := by decide +kernel
theorem c11t : okB (f6 100 11 true) = true := by decide +kernel
theorem c11f : okB (f6 100 11 false) = true := by decide +kernel
theorem c12t : okB (f6 100 12 true) = true := by decide +kernel
theorem c12f : okB (f6 100 12 false) = true := by decide +kernel
theorem c13t : okB (f6 100 13 true) = true := by decide +kernel
theorem c13f : okB (f6 100 13 false) = true := by decide +kernel
theorem c14t : okB (f6 100 14 true) = true := by decide +kernel
theorem c14f : okB (f6 100 14 false) = true := by decide +kernel
theorem c15t : okB (f6 100 15 true) = true := by decide +kernel
theorem c15f : okB (f6 100 15 false) = true := by decide +kernel
theorem c16t : okB (f6 100 16 true) = true := by decide +kernel
theorem c16f : okB (f6 100 16 false) = true := by decide +kernel
theorem c17t : okB (f6 100 17 true) = true := by decide +kernel
theorem c17f : okB (f6 100 17 false) = true := by decide +kernel
theorem c18t : okB (f6 100 18 true) = true := by decide +kernel
theorem c18f : okB (f6 100 18 false) = true := by decide +kernel
theorem c19t : okB (f6 100 19 true) = true := by decide +kernel
theorem c19f : okB (f6 100 19 false) = true := by decide +kernel
theorem c20t : okB (f6 100 20 true) = true := by decide +kernel
theorem c20f : okB (f6 100 20 false) = true := by decide +kernel
theorem c21t : okB (f6 100 21 true) = true := by decide +kernel
theorem c21f : okB (f6 100 21 false) = true := by decide +kernel
theorem c22t : okB (f6 100 22 true) = true := by decide +kernel
theorem c22f : okB (f6 100 22 false) = true := by decide +kernel
theorem c23t : okB (f6 100 23 true) = true := by decide +kernel
theorem c23f : okB (f6 100 23 false) = true := by decide +kernel
theorem c24t : okB (f6 100 24 true) = true := by decide +kernel
theorem c24f : okB (f6 100 24 false) = true := by decide +kernel
theorem c25t : okB (f6 100 25 true) = true := by decide +kernel
theorem c25f : okB (f6 100 25 false) = true := by decide +kernel
theorem c26t : okB (f6 100 26 true) = true := by decide +kernel
theorem c26f : okB (f6 100 26 false) = true := by decide +kernel
theorem c27t : okB (f6 100 27 true) = true := by decide +kernel
theorem c27f : okB (f6 100 27 false) = true := by decide +kernel
theorem c28t : okB (f6 100 28 true) = true := by decide +kernel
theorem c28f : okB (f6 100 28 false) = true := by decide +kernel
theorem c29t : okB (f6 100 29 true) = true := by decide +kernel
theorem c29f : okB (f6 100 29 false) = true := by decide +kernel
theorem c30t : okB (f6 100 30 true) = true := by decide +kernel
theorem c30f : okB (f6 100 30 false) = true := by decide +kernel
theorem c31t : okB (f6 100 31 true) = true := by decide +kernel
theorem c31f : okB (f6 100 31 false) = true := by decide +kernel
theorem c32t : okB (f6 100 32 true) = true := by decide +kernel
theorem c32f : okB (f6 100 32 false) = true := by decide +kernel
theorem fair_pure (x : Int) (t : Bool) : f6 100 x t = some (true, ()) := by
  have hb : f15 100 = some (true, ()) := by decide +kernel
  by_cases h : x < 2
  · have h2 : f21 100 x t = some (0, 4, ()) := by simp [f21, h]
    simp [f6, hb, h2]
  by_cases h' : x > 32
  · have h2 : f21 100 x t = some (0, 4, ()) := by simp [f21, h, h']
    simp [f6, hb, h2]
  have hx : x = 2 ∨ x = 3 ∨ x = 4 ∨ x = 5 ∨ x = 6 ∨ x = 7 ∨ x = 8 ∨ x = 9 ∨ x = 10 ∨ x = 11 ∨ x = 12 ∨ x = 13 ∨ x = 14 ∨ x = 15 ∨ x = 16 ∨ x = 17 ∨ x = 18 ∨ x = 19 ∨ x = 20 ∨ x = 21 ∨ x = 22 ∨ x = 23 ∨ x = 24 ∨ x = 25 ∨ x = 26 ∨ x = 27 ∨ x = 28 ∨ x = 29 ∨ x = 30 ∨ x = 31 ∨ x = 32 := by omega
  rcases hx with rfl | rfl | rfl | rfl | rfl | rfl | rfl | rfl | rfl | rfl | rfl | rfl | rfl | rfl | rfl | rfl | rfl | rfl | rfl | rfl | rfl | rfl | rfl | rfl | rfl | rfl | rfl | rfl | rfl | rfl | rfl
  · cases t
    · exact okB_eq c2f
    · exact okB_eq c2t
  · cases t
    · exact okB_eq c3f
    · exact okB_eq c3t
  · cases t
    · exact okB_eq c4f
    · exact okB_eq c4t
  · cases t
    · exact okB_eq c5f
    · exact okB_eq c5t
  · cases t
    · exact okB_eq c6f
    · exact okB_eq c6t
  · cases t
    · exact okB_eq c7f
    · exact okB_eq c7t
  · cases t
    · exact okB_eq c8f
    · exact okB_eq c8t
  · cases t
    · exact okB_eq c9f
    · exact okB_eq c9t
  · cases t
    · exact okB_eq c10f
    · exact okB_eq c10t
  · cases t
    · exact okB_eq c11f
    · exact okB_eq c11t
  · cases t
    · exact okB_eq c12f
    · exact okB_eq c12t
  · cases t
    · exact okB_eq c13f
    · exact okB_eq c13t
  · cases t
    · exact okB_eq c14f
    · exact okB_eq c14t
  · cases t
    · exact okB_eq c15f
    · exact okB_eq c15t
  · cases t
    · exact okB_eq c16f
    · exact okB_eq c16t
  · cases t
    · exact okB_eq c17f
    · exact okB_eq c17t
  · cases t
    · exact okB_eq c18f
    · exact okB_eq c18t
  · cases t
    · exact okB_eq c19f
    · exact okB_eq c19t
  · cases t
    · exact okB_eq c20f
    · exact okB_eq c20t
  · cases t
    · exact okB_eq c21f
    · exact okB_eq c21t
  · cases t
    · exact okB_eq c22f
    · exact okB_eq c22t
  · cases t
    · exact okB_eq c23f
    · exact okB_eq c23t
  · cases t
    · exact okB_eq c24f
    · exact okB_eq c24t
  · cases t
    · exact okB_eq c25f
    · exact okB_eq c25t
  · cases t
    · exact okB_eq c26f
    · exact okB_eq c26t
  · cases t
    · exact okB_eq c27f
    · exact okB_eq c27t
  · cases t
    · exact okB_eq c28f
    · exact okB_eq c28t
  · cases t
    · exact okB_eq c29f
    · exact okB_eq c29t
  · cases t
    · exact okB_eq c30f
    · exact okB_eq c30t
  · cases t
    · exact okB_eq c31f
    · exact okB_eq c31t
  · cases t
    · exact okB_eq c32f
    · exact okB_eq c32t
end Go.Proofs.Ytpighccmakogpaa.G
