import Derived.Test.YtpighccmakogpaaGKnockoutBest
namespace Go.Proofs.Ytpighccmakogpaa.G
open Go.VM Go.Proofs
def okB (r : Option (Bool × Unit)) : Bool := match r with | some (true, ()) => true | _ => false
theorem okB_eq {r : Option (Bool × Unit)} (h : okB r = true) : r = some (true, ()) := by
  unfold okB at h
  split at h
  · rfl
  · cases h
theorem c2 : okB (f10 100 2) = true := by decide +kernel
theorem c3 : okB (f10 100 3) = true := by decide +kernel
theorem c4 : okB (f10 100 4) = true := by decide +kernel
theorem c5 : okB (f10 100 5) = true := by decide +kernel
theorem c6 : okB (f10 100 6) = true := by decide +kernel
theorem c7 : okB (f10 100 7) = true := by decide +kernel
theorem c8 : okB (f10 100 8) = true := by decide +kernel
theorem c9 : okB (f10 100 9) = true := by decide +kernel
theorem c10 : okB (f10 100 10) = true := by decide +kernel
theorem c11 : okB (f10 100 11) = true := by decide +kernel
theorem c12 : okB (f10 100 12) = true := by decide +kernel
theorem c13 : okB (f10 100 13) = true := by decide +kernel
theorem c14 : okB (f10 100 14) = true := by decide +kernel
theorem c15 : okB (f10 100 15) = true := by decide +kernel
theorem c16 : okB (f10 100 16) = true := by decide +kernel
theorem c17 : okB (f10 100 17) = true := by decide +kernel
theorem c18 : okB (f10 100 18) = true := by decide +kernel
theorem c19 : okB (f10 100 19) = true := by decide +kernel
theorem c20 : okB (f10 100 20) = true := by decide +kernel
theorem c21 : okB (f10 100 21) = true := by decide +kernel
theorem c22 : okB (f10 100 22) = true := by decide +kernel
theorem c23 : okB (f10 100 23) = true := by decide +kernel
theorem c24 : okB (f10 100 24) = true := by decide +kernel
theorem c25 : okB (f10 100 25) = true := by decide +kernel
theorem c26 : okB (f10 100 26) = true := by decide +kernel
theorem c27 : okB (f10 100 27) = true := by decide +kernel
theorem c28 : okB (f10 100 28) = true := by decide +kernel
theorem c29 : okB (f10 100 29) = true := by decide +kernel
theorem c30 : okB (f10 100 30) = true := by decide +kernel
theorem c31 : okB (f10 100 31) = true := by decide +kernel
theorem c32 : okB (f10 100 32) = true := by decide +kernel
theorem best_pure (x : Int) : f10 100 x = some (true, ()) := by
  have hb : f12 100 = some (true, ()) := by decide +kernel
  by_cases h : x < 2
  · have h1 : f31 100 x = some (4, ()) := by simp [f31, h]
    have h2 : f14 100 x = some (0, 4, ()) := by simp [f14, h1]
    simp [f10, hb, h2]
  by_cases h' : x > 32
  · have h1 : f31 100 x = some (4, ()) := by simp [f31, h, h']
    have h2 : f14 100 x = some (0, 4, ()) := by simp [f14, h1]
    simp [f10, hb, h2]
  have hx : x = 2 ∨ x = 3 ∨ x = 4 ∨ x = 5 ∨ x = 6 ∨ x = 7 ∨ x = 8 ∨ x = 9 ∨ x = 10 ∨ x = 11 ∨ x = 12 ∨ x = 13 ∨ x = 14 ∨ x = 15 ∨ x = 16 ∨ x = 17 ∨ x = 18 ∨ x = 19 ∨ x = 20 ∨ x = 21 ∨ x = 22 ∨ x = 23 ∨ x = 24 ∨ x = 25 ∨ x = 26 ∨ x = 27 ∨ x = 28 ∨ x = 29 ∨ x = 30 ∨ x = 31 ∨ x = 32 := by omega
  rcases hx with rfl | rfl | rfl | rfl | rfl | rfl | rfl | rfl | rfl | rfl | rfl | rfl | rfl | rfl | rfl | rfl | rfl | rfl | rfl | rfl | rfl | rfl | rfl | rfl | rfl | rfl | rfl | rfl | rfl | rfl | rfl
  · exact okB_eq c2
  · exact okB_eq c3
  · exact okB_eq c4
  · exact okB_eq c5
  · exact okB_eq c6
  · exact okB_eq c7
  · exact okB_eq c8
  · exact okB_eq c9
  · exact okB_eq c10
  · exact okB_eq c11
  · exact okB_eq c12
  · exact okB_eq c13
  · exact okB_eq c14
  · exact okB_eq c15
  · exact okB_eq c16
  · exact okB_eq c17
  · exact okB_eq c18
  · exact okB_eq c19
  · exact okB_eq c20
  · exact okB_eq c21
  · exact okB_eq c22
  · exact okB_eq c23
  · exact okB_eq c24
  · exact okB_eq c25
  · exact okB_eq c26
  · exact okB_eq c27
  · exact okB_eq c28
  · exact okB_eq c29
  · exact okB_eq c30
  · exact okB_eq c31
  · exact okB_eq c32
end Go.Proofs.Ytpighccmakogpaa.G
