import Derived.Test.YtpighccmakogpaaGRobinRest
namespace Go.Proofs.Ytpighccmakogpaa.G
open Go.VM Go.Proofs
def okB (r : Option (Bool × Unit)) : Bool := match r with | some (true, ()) => true | _ => false
theorem okB_eq {r : Option (Bool × Unit)} (h : okB r = true) : r = some (true, ()) := by
  unfold okB at h
  split at h
  · rfl
  · cases h
theorem c2t0 : (List.range 2).all (fun r => okB (f4 100 2 true ((r : Int) + 0))) = true := by decide +kernel
theorem c2f0 : (List.range 1).all (fun r => okB (f4 100 2 false ((r : Int) + 0))) = true := by decide +kernel
theorem c3t0 : (List.range 6).all (fun r => okB (f4 100 3 true ((r : Int) + 0))) = true := by decide +kernel
theorem c3f0 : (List.range 3).all (fun r => okB (f4 100 3 false ((r : Int) + 0))) = true := by decide +kernel
theorem c4t0 : (List.range 6).all (fun r => okB (f4 100 4 true ((r : Int) + 0))) = true := by decide +kernel
theorem c4f0 : (List.range 3).all (fun r => okB (f4 100 4 false ((r : Int) + 0))) = true := by decide +kernel
theorem c5t0 : (List.range 10).all (fun r => okB (f4 100 5 true ((r : Int) + 0))) = true := by decide +kernel
theorem c5f0 : (List.range 5).all (fun r => okB (f4 100 5 false ((r : Int) + 0))) = true := by decide +kernel
theorem c6t0 : (List.range 10).all (fun r => okB (f4 100 6 true ((r : Int) + 0))) = true := by decide +kernel
theorem c6f0 : (List.range 5).all (fun r => okB (f4 100 6 false ((r : Int) + 0))) = true := by decide +kernel
theorem c7t0 : (List.range 14).all (fun r => okB (f4 100 7 true ((r : Int) + 0))) = true := by decide +kernel
theorem c7f0 : (List.range 7).all (fun r => okB (f4 100 7 false ((r : Int) + 0))) = true := by decide +kernel
theorem c8t0 : (List.range 14).all (fun r => okB (f4 100 8 true ((r : Int) + 0))) = true := by decide +kernel
theorem c8f0 : (List.range 7).all (fun r => okB (f4 100 8 false ((r : Int) + 0))) = true := by decide +kernel
theorem c9t0 : (List.range 16).all (fun r => okB (f4 100 9 true ((r : Int) + 0))) = true := by decide +kernel
theorem c9t16 : (List.range 2).all (fun r => okB (f4 100 9 true ((r : Int) + 16))) = true := by decide +kernel
theorem c9f0 : (List.range 9).all (fun r => okB (f4 100 9 false ((r : Int) + 0))) = true := by decide +kernel
theorem c10t0 : (List.range 16).all (fun r => okB (f4 100 10 true ((r : Int) + 0))) = true := by decide +kernel
theorem c10t16 : (List.range 2).all (fun r => okB (f4 100 10 true ((r : Int) + 16))) = true := by decide +kernel
theorem c10f0 : (List.range 9).all (fun r => okB (f4 100 10 false ((r : Int) + 0))) = true := by decide +kernel
theorem c11t0 : (List.range 16).all (fun r => okB (f4 100 11 true ((r : Int) + 0))) = true := by decide +kernel
theorem c11t16 : (List.range 6).all (fun r => okB (f4 100 11 true ((r : Int) + 16))) = true := by decide +kernel
theorem c11f0 : (List.range 11).all (fun r => okB (f4 100 11 false ((r : Int) + 0))) = true := by decide +kernel
theorem c12t0 : (List.range 16).all (fun r => okB (f4 100 12 true ((r : Int) + 0))) = true := by decide +kernel
theorem c12t16 : (List.range 6).all (fun r => okB (f4 100 12 true ((r : Int) + 16))) = true := by decide +kernel
theorem c12f0 : (List.range 11).all (fun r => okB (f4 100 12 false ((r : Int) + 0))) = true := by decide +kernel
theorem c13t0 : (List.range 16).all (fun r => okB (f4 100 13 true ((r : Int) + 0))) = true := by decide +kernel
theorem c13t16 : (List.range 10).all (fun r => okB (f4 100 13 true ((r : Int) + 16))) = true := by decide +kernel
theorem c13f0 : (List.range 13).all (fun r => okB (f4 100 13 false ((r : Int) + 0))) = true := by decide +kernel
theorem c14t0 : (List.range 16).all (fun r => okB (f4 100 14 true ((r : Int) + 0))) = true := by decide +kernel
theorem c14t16 : (List.range 10).all (fun r => okB (f4 100 14 true ((r : Int) + 16))) = true := by decide +kernel
theorem c14f0 : (List.range 13).all (fun r => okB (f4 100 14 false ((r : Int) + 0))) = true := by decide +kernel
theorem c15t0 : (List.range 16).all (fun r => okB (f4 100 15 true ((r : Int) + 0))) = true := by decide +kernel
theorem c15t16 : (List.range 14).all (fun r => okB (f4 100 15 true ((r : Int) + 16))) = true := by decide +kernel
theorem c15f0 : (List.range 15).all (fun r => okB (f4 100 15 false ((r : Int) + 0))) = true := by decide +kernel
theorem c16t0 : (List.range 16).all (fun r => okB (f4 100 16 true ((r : Int) + 0))) = true := by decide +kernel
theorem c16t16 : (List.range 14).all (fun r => okB (f4 100 16 true ((r : Int) + 16))) = true := by decide +kernel
theorem c16f0 : (List.range 15).all (fun r => okB (f4 100 16 false ((r : Int) + 0))) = true := by decide +kernel
theorem c17t0 : (List.range 16).all (fun r => okB (f4 100 17 true ((r : Int) + 0))) = true := by decide +kernel
theorem c17t16 : (List.range 16).all (fun r => okB (f4 100 17 true ((r : Int) + 16))) = true := by decide +kernel
theorem c17t32 : (List.range 2).all (fun r => okB (f4 100 17 true ((r : Int) + 32))) = true := by decide +kernel
theorem c17f0 : (List.range 16).all (fun r => okB (f4 100 17 false ((r : Int) + 0))) = true := by decide +kernel
theorem c17f16 : (List.range 1).all (fun r => okB (f4 100 17 false ((r : Int) + 16))) = true := by decide +kernel
theorem c18t0 : (List.range 16).all (fun r => okB (f4 100 18 true ((r : Int) + 0))) = true := by decide +kernel
theorem c18t16 : (List.range 16).all (fun r => okB (f4 100 18 true ((r : Int) + 16))) = true := by decide +kernel
theorem c18t32 : (List.range 2).all (fun r => okB (f4 100 18 true ((r : Int) + 32))) = true := by decide +kernel
theorem c18f0 : (List.range 16).all (fun r => okB (f4 100 18 false ((r : Int) + 0))) = true := by decide +kernel
theorem c18f16 : (List.range 1).all (fun r => okB (f4 100 18 false ((r : Int) + 16))) = true := by decide +kernel
theorem c19t0 : (List.range 16).all (fun r => okB (f4 100 19 true ((r : Int) + 0))) = true := by decide +kernel
theorem c19t16 : (List.range 16).all (fun r => okB (f4 100 19 true ((r : Int) + 16))) = true := by decide +kernel
theorem c19t32 : (List.range 6).all (fun r => okB (f4 100 19 true ((r : Int) + 32))) = true := by decide +kernel
theorem c19f0 : (List.range 16).all (fun r => okB (f4 100 19 false ((r : Int) + 0))) = true := by decide +kernel
theorem c19f16 : (List.range 3).all (fun r => okB (f4 100 19 false ((r : Int) + 16))) = true := by decide +kernel
theorem c20t0 : (List.range 16).all (fun r => okB (f4 100 20 true ((r : Int) + 0))) = true := by decide +kernel
theorem c20t16 : (List.range 16).all (fun r => okB (f4 100 20 true ((r : Int) + 16))) = true := by decide +kernel
theorem c20t32 : (List.range 6).all (fun r => okB (f4 100 20 true ((r : Int) + 32))) = true := by decide +kernel
theorem c20f0 : (List.range 16).all (fun r => okB (f4 100 20 false ((r : Int) + 0))) = true := by decide +kernel
theorem c20f16 : (List.range 3).all (fun r => okB (f4 100 20 false ((r : Int) + 16))) = true := by decide +kernel
theorem c21t0 : (List.range 16).all (fun r => okB (f4 100 21 true ((r : Int) + 0))) = true := by decide +kernel
theorem c21t16 : (List.range 16).all (fun r => okB (f4 100 21 true ((r : Int) + 16))) = true := by decide +kernel
theorem c21t32 : (List.range 10).all (fun r => okB (f4 100 21 true ((r : Int) + 32))) = true := by decide +kernel
theorem c21f0 : (List.range 16).all (fun r => okB (f4 100 21 false ((r : Int) + 0))) = true := by decide +kernel
theorem c21f16 : (List.range 5).all (fun r => okB (f4 100 21 false ((r : Int) + 16))) = true := by decide +kernel
theorem c22t0 : (List.range 16).all (fun r => okB (f4 100 22 true ((r : Int) + 0))) = true := by decide +kernel
theorem c22t16 : (List.range 16).all (fun r => okB (f4 100 22 true ((r : Int) + 16))) = true := by decide +kernel
theorem c22t32 : (List.range 10).all (fun r => okB (f4 100 22 true ((r : Int) + 32))) = true := by decide +kernel
theorem c22f0 : (List.range 16).all (fun r => okB (f4 100 22 false ((r : Int) + 0))) = true := by decide +kernel
theorem c22f16 : (List.range 5).all (fun r => okB (f4 100 22 false ((r : Int) + 16))) = true := by decide +kernel
theorem c23t0 : (List.range 16).all (fun r => okB (f4 100 23 true ((r : Int) + 0))) = true := by decide +kernel
theorem c23t16 : (List.range 16).all (fun r => okB (f4 100 23 true ((r : Int) + 16))) = true := by decide +kernel
theorem c23t32 : (List.range 14).all (fun r => okB (f4 100 23 true ((r : Int) + 32))) = true := by decide +kernel
theorem c23f0 : (List.range 16).all (fun r => okB (f4 100 23 false ((r : Int) + 0))) = true := by decide +kernel
theorem c23f16 : (List.range 7).all (fun r => okB (f4 100 23 false ((r : Int) + 16))) = true := by decide +kernel
theorem c24t0 : (List.range 16).all (fun r => okB (f4 100 24 true ((r : Int) + 0))) = true := by decide +kernel
theorem c24t16 : (List.range 16).all (fun r => okB (f4 100 24 true ((r : Int) + 16))) = true := by decide +kernel
theorem c24t32 : (List.range 14).all (fun r => okB (f4 100 24 true ((r : Int) + 32))) = true := by decide +kernel
theorem c24f0 : (List.range 16).all (fun r => okB (f4 100 24 false ((r : Int) + 0))) = true := by decide +kernel
theorem c24f16 : (List.range 7).all (fun r => okB (f4 100 24 false ((r : Int) + 16))) = true := by decide +kernel
theorem c25t0 : (List.range 16).all (fun r => okB (f4 100 25 true ((r : Int) + 0))) = true := by decide +kernel
theorem c25t16 : (List.range 16).all (fun r => okB (f4 100 25 true ((r : Int) + 16))) = true := by decide +kernel
theorem c25t32 : (List.range 16).all (fun r => okB (f4 100 25 true ((r : Int) + 32))) = true := by decide +kernel
theorem c25t48 : (List.range 2).all (fun r => okB (f4 100 25 true ((r : Int) + 48))) = true := by decide +kernel
theorem c25f0 : (List.range 16).all (fun r => okB (f4 100 25 false ((r : Int) + 0))) = true := by decide +kernel
theorem c25f16 : (List.range 9).all (fun r => okB (f4 100 25 false ((r : Int) + 16))) = true := by decide +kernel
theorem c26t0 : (List.range 16).all (fun r => okB (f4 100 26 true ((r : Int) + 0))) = true := by decide +kernel
theorem c26t16 : (List.range 16).all (fun r => okB (f4 100 26 true ((r : Int) + 16))) = true := by decide +kernel
theorem c26t32 : (List.range 16).all (fun r => okB (f4 100 26 true ((r : Int) + 32))) = true := by decide +kernel
theorem c26t48 : (List.range 2).all (fun r => okB (f4 100 26 true ((r : Int) + 48))) = true := by decide +kernel
theorem c26f0 : (List.range 16).all (fun r => okB (f4 100 26 false ((r : Int) + 0))) = true := by decide +kernel
theorem c26f16 : (List.range 9).all (fun r => okB (f4 100 26 false ((r : Int) + 16))) = true := by decide +kernel
theorem c27t0 : (List.range 16).all (fun r => okB (f4 100 27 true ((r : Int) + 0))) = true := by decide +kernel
theorem c27t16 : (List.range 16).all (fun r => okB (f4 100 27 true ((r : Int) + 16))) = true := by decide +kernel
theorem c27t32 : (List.range 16).all (fun r => okB (f4 100 27 true ((r : Int) + 32))) = true := by decide +kernel
theorem c27t48 : (List.range 6).all (fun r => okB (f4 100 27 true ((r : Int) + 48))) = true := by decide +kernel
theorem c27f0 : (List.range 16).all (fun r => okB (f4 100 27 false ((r : Int) + 0))) = true := by decide +kernel
theorem c27f16 : (List.range 11).all (fun r => okB (f4 100 27 false ((r : Int) + 16))) = true := by decide +kernel
theorem c28t0 : (List.range 16).all (fun r => okB (f4 100 28 true ((r : Int) + 0))) = true := by decide +kernel
theorem c28t16 : (List.range 16).all (fun r => okB (f4 100 28 true ((r : Int) + 16))) = true := by decide +kernel
theorem c28t32 : (List.range 16).all (fun r => okB (f4 100 28 true ((r : Int) + 32))) = true := by decide +kernel
theorem c28t48 : (List.range 6).all (fun r => okB (f4 100 28 true ((r : Int) + 48))) = true := by decide +kernel
theorem c28f0 : (List.range 16).all (fun r => okB (f4 100 28 false ((r : Int) + 0))) = true := by decide +kernel
theorem c28f16 : (List.range 11).all (fun r => okB (f4 100 28 false ((r : Int) + 16))) = true := by decide +kernel
theorem c29t0 : (List.range 16).all (fun r => okB (f4 100 29 true ((r : Int) + 0))) = true := by decide +kernel
theorem c29t16 : (List.range 16).all (fun r => okB (f4 100 29 true ((r : Int) + 16))) = true := by decide +kernel
theorem c29t32 : (List.range 16).all (fun r => okB (f4 100 29 true ((r : Int) + 32))) = true := by decide +kernel
theorem c29t48 : (List.range 10).all (fun r => okB (f4 100 29 true ((r : Int) + 48))) = true := by decide +kernel
theorem c29f0 : (List.range 16).all (fun r => okB (f4 100 29 false ((r : Int) + 0))) = true := by decide +kernel
theorem c29f16 : (List.range 13).all (fun r => okB (f4 100 29 false ((r : Int) + 16))) = true := by decide +kernel
theorem c30t0 : (List.range 16).all (fun r => okB (f4 100 30 true ((r : Int) + 0))) = true := by decide +kernel
theorem c30t16 : (List.range 16).all (fun r => okB (f4 100 30 true ((r : Int) + 16))) = true := by decide +kernel
theorem c30t32 : (List.range 16).all (fun r => okB (f4 100 30 true ((r : Int) + 32))) = true := by decide +kernel
theorem c30t48 : (List.range 10).all (fun r => okB (f4 100 30 true ((r : Int) + 48))) = true := by decide +kernel
theorem c30f0 : (List.range 16).all (fun r => okB (f4 100 30 false ((r : Int) + 0))) = true := by decide +kernel
theorem c30f16 : (List.range 13).all (fun r => okB (f4 100 30 false ((r : Int) + 16))) = true := by decide +kernel
theorem c31t0 : (List.range 16).all (fun r => okB (f4 100 31 true ((r : Int) + 0))) = true := by decide +kernel
theorem c31t16 : (List.range 16).all (fun r => okB (f4 100 31 true ((r : Int) + 16))) = true := by decide +kernel
theorem c31t32 : (List.range 16).all (fun r => okB (f4 100 31 true ((r : Int) + 32))) = true := by decide +kernel
theorem c31t48 : (List.range 14).all (fun r => okB (f4 100 31 true ((r : Int) + 48))) = true := by decide +kernel
theorem c31f0 : (List.range 16).all (fun r => okB (f4 100 31 false ((r : Int) + 0))) = true := by decide +kernel
theorem c31f16 : (List.range 15).all (fun r => okB (f4 100 31 false ((r : Int) + 16))) = true := by decide +kernel
theorem c32t0 : (List.range 16).all (fun r => okB (f4 100 32 true ((r : Int) + 0))) = true := by decide +kernel
theorem c32t16 : (List.range 16).all (fun r => okB (f4 100 32 true ((r : Int) + 16))) = true := by decide +kernel
theorem c32t32 : (List.range 16).all (fun r => okB (f4 100 32 true ((r : Int) + 32))) = true := by decide +kernel
theorem c32t48 : (List.range 14).all (fun r => okB (f4 100 32 true ((r : Int) + 48))) = true := by decide +kernel
theorem c32f0 : (List.range 16).all (fun r => okB (f4 100 32 false ((r : Int) + 0))) = true := by decide +kernel
theorem c32f16 : (List.range 15).all (fun r => okB (f4 100 32 false ((r : Int) + 16))) = true := by decide +kernel
theorem part {n : Int} {t : Bool} {m : Nat} {a r : Int} (h : (List.range m).all (fun r => okB (f4 100 n t ((r : Int) + a))) = true) (h0 : a ≤ r) (h1 : r < a + m) : f4 100 n t r = some (true, ()) := by
  have := List.all_eq_true.1 h (r - a).toNat (by rw [List.mem_range]; omega)
  have e : (((r - a).toNat : Nat) : Int) + a = r := by omega
  rw [e] at this
  exact okB_eq this
theorem rest_pure (x : Int) (t : Bool) (r : Int) : f4 100 x t r = some (true, ()) := by
  have hb : f15 100 = some (true, ()) := by decide +kernel
  by_cases h : x < 2
  · have h2 : f21 100 x t = some (0, 4, ()) := by simp [f21, h]
    simp [f4, hb, f16, f17, h2, w64, IntKind.wrap, IntKind.signed, IntKind.bits]
  by_cases h' : x > 32
  · have h2 : f21 100 x t = some (0, 4, ()) := by simp [f21, h, h']
    simp [f4, hb, f16, f17, h2, w64, IntKind.wrap, IntKind.signed, IntKind.bits]
  have hx : x = 2 ∨ x = 3 ∨ x = 4 ∨ x = 5 ∨ x = 6 ∨ x = 7 ∨ x = 8 ∨ x = 9 ∨ x = 10 ∨ x = 11 ∨ x = 12 ∨ x = 13 ∨ x = 14 ∨ x = 15 ∨ x = 16 ∨ x = 17 ∨ x = 18 ∨ x = 19 ∨ x = 20 ∨ x = 21 ∨ x = 22 ∨ x = 23 ∨ x = 24 ∨ x = 25 ∨ x = 26 ∨ x = 27 ∨ x = 28 ∨ x = 29 ∨ x = 30 ∨ x = 31 ∨ x = 32 := by omega
  rcases hx with rfl | rfl | rfl | rfl | rfl | rfl | rfl | rfl | rfl | rfl | rfl | rfl | rfl | rfl | rfl | rfl | rfl | rfl | rfl | rfl | rfl | rfl | rfl | rfl | rfl | rfl | rfl | rfl | rfl | rfl | rfl
  · cases t
    · by_cases hr : r < 0
      · simp [f4, hb, f16, f17, f21, hr, w64, IntKind.wrap, IntKind.signed, IntKind.bits]
      by_cases hr2 : r ≥ 1
      · simp [f4, hb, f16, f17, f21, hr, hr2, w64, IntKind.wrap, IntKind.signed, IntKind.bits]
      by_cases hs0 : r < 1
      · exact part c2f0 (by omega) (by omega)
      omega
    · by_cases hr : r < 0
      · simp [f4, hb, f16, f17, f21, hr, w64, IntKind.wrap, IntKind.signed, IntKind.bits]
      by_cases hr2 : r ≥ 2
      · simp [f4, hb, f16, f17, f21, hr, hr2, w64, IntKind.wrap, IntKind.signed, IntKind.bits]
      by_cases hs0 : r < 2
      · exact part c2t0 (by omega) (by omega)
      omega
  · cases t
    · by_cases hr : r < 0
      · simp [f4, hb, f16, f17, f21, hr, w64, IntKind.wrap, IntKind.signed, IntKind.bits]
      by_cases hr2 : r ≥ 3
      · simp [f4, hb, f16, f17, f21, hr, hr2, w64, IntKind.wrap, IntKind.signed, IntKind.bits]
      by_cases hs0 : r < 3
      · exact part c3f0 (by omega) (by omega)
      omega
    · by_cases hr : r < 0
      · simp [f4, hb, f16, f17, f21, hr, w64, IntKind.wrap, IntKind.signed, IntKind.bits]
      by_cases hr2 : r ≥ 6
      · simp [f4, hb, f16, f17, f21, hr, hr2, w64, IntKind.wrap, IntKind.signed, IntKind.bits]
      by_cases hs0 : r < 6
      · exact part c3t0 (by omega) (by omega)
      omega
  · cases t
    · by_cases hr : r < 0
      · simp [f4, hb, f16, f17, f21, hr, w64, IntKind.wrap, IntKind.signed, IntKind.bits]
      by_cases hr2 : r ≥ 3
      · simp [f4, hb, f16, f17, f21, hr, hr2, w64, IntKind.wrap, IntKind.signed, IntKind.bits]
      by_cases hs0 : r < 3
      · exact part c4f0 (by omega) (by omega)
      omega
    · by_cases hr : r < 0
      · simp [f4, hb, f16, f17, f21, hr, w64, IntKind.wrap, IntKind.signed, IntKind.bits]
      by_cases hr2 : r ≥ 6
      · simp [f4, hb, f16, f17, f21, hr, hr2, w64, IntKind.wrap, IntKind.signed, IntKind.bits]
      by_cases hs0 : r < 6
      · exact part c4t0 (by omega) (by omega)
      omega
  · cases t
    · by_cases hr : r < 0
      · simp [f4, hb, f16, f17, f21, hr, w64, IntKind.wrap, IntKind.signed, IntKind.bits]
      by_cases hr2 : r ≥ 5
      · simp [f4, hb, f16, f17, f21, hr, hr2, w64, IntKind.wrap, IntKind.signed, IntKind.bits]
      by_cases hs0 : r < 5
      · exact part c5f0 (by omega) (by omega)
      omega
    · by_cases hr : r < 0
      · simp [f4, hb, f16, f17, f21, hr, w64, IntKind.wrap, IntKind.signed, IntKind.bits]
      by_cases hr2 : r ≥ 10
      · simp [f4, hb, f16, f17, f21, hr, hr2, w64, IntKind.wrap, IntKind.signed, IntKind.bits]
      by_cases hs0 : r < 10
      · exact part c5t0 (by omega) (by omega)
      omega
  · cases t
    · by_cases hr : r < 0
      · simp [f4, hb, f16, f17, f21, hr, w64, IntKind.wrap, IntKind.signed, IntKind.bits]
      by_cases hr2 : r ≥ 5
      · simp [f4, hb, f16, f17, f21, hr, hr2, w64, IntKind.wrap, IntKind.signed, IntKind.bits]
      by_cases hs0 : r < 5
      · exact part c6f0 (by omega) (by omega)
      omega
    · by_cases hr : r < 0
      · simp [f4, hb, f16, f17, f21, hr, w64, IntKind.wrap, IntKind.signed, IntKind.bits]
      by_cases hr2 : r ≥ 10
      · simp [f4, hb, f16, f17, f21, hr, hr2, w64, IntKind.wrap, IntKind.signed, IntKind.bits]
      by_cases hs0 : r < 10
      · exact part c6t0 (by omega) (by omega)
      omega
  · cases t
    · by_cases hr : r < 0
      · simp [f4, hb, f16, f17, f21, hr, w64, IntKind.wrap, IntKind.signed, IntKind.bits]
      by_cases hr2 : r ≥ 7
      · simp [f4, hb, f16, f17, f21, hr, hr2, w64, IntKind.wrap, IntKind.signed, IntKind.bits]
      by_cases hs0 : r < 7
      · exact part c7f0 (by omega) (by omega)
      omega
    · by_cases hr : r < 0
      · simp [f4, hb, f16, f17, f21, hr, w64, IntKind.wrap, IntKind.signed, IntKind.bits]
      by_cases hr2 : r ≥ 14
      · simp [f4, hb, f16, f17, f21, hr, hr2, w64, IntKind.wrap, IntKind.signed, IntKind.bits]
      by_cases hs0 : r < 14
      · exact part c7t0 (by omega) (by omega)
      omega
  · cases t
    · by_cases hr : r < 0
      · simp [f4, hb, f16, f17, f21, hr, w64, IntKind.wrap, IntKind.signed, IntKind.bits]
      by_cases hr2 : r ≥ 7
      · simp [f4, hb, f16, f17, f21, hr, hr2, w64, IntKind.wrap, IntKind.signed, IntKind.bits]
      by_cases hs0 : r < 7
      · exact part c8f0 (by omega) (by omega)
      omega
    · by_cases hr : r < 0
      · simp [f4, hb, f16, f17, f21, hr, w64, IntKind.wrap, IntKind.signed, IntKind.bits]
      by_cases hr2 : r ≥ 14
      · simp [f4, hb, f16, f17, f21, hr, hr2, w64, IntKind.wrap, IntKind.signed, IntKind.bits]
      by_cases hs0 : r < 14
      · exact part c8t0 (by omega) (by omega)
      omega
  · cases t
    · by_cases hr : r < 0
      · simp [f4, hb, f16, f17, f21, hr, w64, IntKind.wrap, IntKind.signed, IntKind.bits]
      by_cases hr2 : r ≥ 9
      · simp [f4, hb, f16, f17, f21, hr, hr2, w64, IntKind.wrap, IntKind.signed, IntKind.bits]
      by_cases hs0 : r < 9
      · exact part c9f0 (by omega) (by omega)
      omega
    · by_cases hr : r < 0
      · simp [f4, hb, f16, f17, f21, hr, w64, IntKind.wrap, IntKind.signed, IntKind.bits]
      by_cases hr2 : r ≥ 18
      · simp [f4, hb, f16, f17, f21, hr, hr2, w64, IntKind.wrap, IntKind.signed, IntKind.bits]
      by_cases hs0 : r < 16
      · exact part c9t0 (by omega) (by omega)
      by_cases hs16 : r < 18
      · exact part c9t16 (by omega) (by omega)
      omega
  · cases t
    · by_cases hr : r < 0
      · simp [f4, hb, f16, f17, f21, hr, w64, IntKind.wrap, IntKind.signed, IntKind.bits]
      by_cases hr2 : r ≥ 9
      · simp [f4, hb, f16, f17, f21, hr, hr2, w64, IntKind.wrap, IntKind.signed, IntKind.bits]
      by_cases hs0 : r < 9
      · exact part c10f0 (by omega) (by omega)
      omega
    · by_cases hr : r < 0
      · simp [f4, hb, f16, f17, f21, hr, w64, IntKind.wrap, IntKind.signed, IntKind.bits]
      by_cases hr2 : r ≥ 18
      · simp [f4, hb, f16, f17, f21, hr, hr2, w64, IntKind.wrap, IntKind.signed, IntKind.bits]
      by_cases hs0 : r < 16
      · exact part c10t0 (by omega) (by omega)
      by_cases hs16 : r < 18
      · exact part c10t16 (by omega) (by omega)
      omega
  · cases t
    · by_cases hr : r < 0
      · simp [f4, hb, f16, f17, f21, hr, w64, IntKind.wrap, IntKind.signed, IntKind.bits]
      by_cases hr2 : r ≥ 11
      · simp [f4, hb, f16, f17, f21, hr, hr2, w64, IntKind.wrap, IntKind.signed, IntKind.bits]
      by_cases hs0 : r < 11
      · exact part c11f0 (by omega) (by omega)
      omega
    · by_cases hr : r < 0
      · simp [f4, hb, f16, f17, f21, hr, w64, IntKind.wrap, IntKind.signed, IntKind.bits]
      by_cases hr2 : r ≥ 22
      · simp [f4, hb, f16, f17, f21, hr, hr2, w64, IntKind.wrap, IntKind.signed, IntKind.bits]
      by_cases hs0 : r < 16
      · exact part c11t0 (by omega) (by omega)
      by_cases hs16 : r < 22
      · exact part c11t16 (by omega) (by omega)
      omega
  · cases t
    · by_cases hr : r < 0
      · simp [f4, hb, f16, f17, f21, hr, w64, IntKind.wrap, IntKind.signed, IntKind.bits]
      by_cases hr2 : r ≥ 11
      · simp [f4, hb, f16, f17, f21, hr, hr2, w64, IntKind.wrap, IntKind.signed, IntKind.bits]
      by_cases hs0 : r < 11
      · exact part c12f0 (by omega) (by omega)
      omega
    · by_cases hr : r < 0
      · simp [f4, hb, f16, f17, f21, hr, w64, IntKind.wrap, IntKind.signed, IntKind.bits]
      by_cases hr2 : r ≥ 22
      · simp [f4, hb, f16, f17, f21, hr, hr2, w64, IntKind.wrap, IntKind.signed, IntKind.bits]
      by_cases hs0 : r < 16
      · exact part c12t0 (by omega) (by omega)
      by_cases hs16 : r < 22
      · exact part c12t16 (by omega) (by omega)
      omega
  · cases t
    · by_cases hr : r < 0
      · simp [f4, hb, f16, f17, f21, hr, w64, IntKind.wrap, IntKind.signed, IntKind.bits]
      by_cases hr2 : r ≥ 13
      · simp [f4, hb, f16, f17, f21, hr, hr2, w64, IntKind.wrap, IntKind.signed, IntKind.bits]
      by_cases hs0 : r < 13
      · exact part c13f0 (by omega) (by omega)
      omega
    · by_cases hr : r < 0
      · simp [f4, hb, f16, f17, f21, hr, w64, IntKind.wrap, IntKind.signed, IntKind.bits]
      by_cases hr2 : r ≥ 26
      · simp [f4, hb, f16, f17, f21, hr, hr2, w64, IntKind.wrap, IntKind.signed, IntKind.bits]
      by_cases hs0 : r < 16
      · exact part c13t0 (by omega) (by omega)
      by_cases hs16 : r < 26
      · exact part c13t16 (by omega) (by omega)
      omega
  · cases t
    · by_cases hr : r < 0
      · simp [f4, hb, f16, f17, f21, hr, w64, IntKind.wrap, IntKind.signed, IntKind.bits]
      by_cases hr2 : r ≥ 13
      · simp [f4, hb, f16, f17, f21, hr, hr2, w64, IntKind.wrap, IntKind.signed, IntKind.bits]
      by_cases hs0 : r < 13
      · exact part c14f0 (by omega) (by omega)
      omega
    · by_cases hr : r < 0
      · simp [f4, hb, f16, f17, f21, hr, w64, IntKind.wrap, IntKind.signed, IntKind.bits]
      by_cases hr2 : r ≥ 26
      · simp [f4, hb, f16, f17, f21, hr, hr2, w64, IntKind.wrap, IntKind.signed, IntKind.bits]
      by_cases hs0 : r < 16
      · exact part c14t0 (by omega) (by omega)
      by_cases hs16 : r < 26
      · exact part c14t16 (by omega) (by omega)
      omega
  · cases t
    · by_cases hr : r < 0
      · simp [f4, hb, f16, f17, f21, hr, w64, IntKind.wrap, IntKind.signed, IntKind.bits]
      by_cases hr2 : r ≥ 15
      · simp [f4, hb, f16, f17, f21, hr, hr2, w64, IntKind.wrap, IntKind.signed, IntKind.bits]
      by_cases hs0 : r < 15
      · exact part c15f0 (by omega) (by omega)
      omega
    · by_cases hr : r < 0
      · simp [f4, hb, f16, f17, f21, hr, w64, IntKind.wrap, IntKind.signed, IntKind.bits]
      by_cases hr2 : r ≥ 30
      · simp [f4, hb, f16, f17, f21, hr, hr2, w64, IntKind.wrap, IntKind.signed, IntKind.bits]
      by_cases hs0 : r < 16
      · exact part c15t0 (by omega) (by omega)
      by_cases hs16 : r < 30
      · exact part c15t16 (by omega) (by omega)
      omega
  · cases t
    · by_cases hr : r < 0
      · simp [f4, hb, f16, f17, f21, hr, w64, IntKind.wrap, IntKind.signed, IntKind.bits]
      by_cases hr2 : r ≥ 15
      · simp [f4, hb, f16, f17, f21, hr, hr2, w64, IntKind.wrap, IntKind.signed, IntKind.bits]
      by_cases hs0 : r < 15
      · exact part c16f0 (by omega) (by omega)
      omega
    · by_cases hr : r < 0
      · simp [f4, hb, f16, f17, f21, hr, w64, IntKind.wrap, IntKind.signed, IntKind.bits]
      by_cases hr2 : r ≥ 30
      · simp [f4, hb, f16, f17, f21, hr, hr2, w64, IntKind.wrap, IntKind.signed, IntKind.bits]
      by_cases hs0 : r < 16
      · exact part c16t0 (by omega) (by omega)
      by_cases hs16 : r < 30
      · exact part c16t16 (by omega) (by omega)
      omega
  · cases t
    · by_cases hr : r < 0
      · simp [f4, hb, f16, f17, f21, hr, w64, IntKind.wrap, IntKind.signed, IntKind.bits]
      by_cases hr2 : r ≥ 17
      · simp [f4, hb, f16, f17, f21, hr, hr2, w64, IntKind.wrap, IntKind.signed, IntKind.bits]
      by_cases hs0 : r < 16
      · exact part c17f0 (by omega) (by omega)
      by_cases hs16 : r < 17
      · exact part c17f16 (by omega) (by omega)
      omega
    · by_cases hr : r < 0
      · simp [f4, hb, f16, f17, f21, hr, w64, IntKind.wrap, IntKind.signed, IntKind.bits]
      by_cases hr2 : r ≥ 34
      · simp [f4, hb, f16, f17, f21, hr, hr2, w64, IntKind.wrap, IntKind.signed, IntKind.bits]
      by_cases hs0 : r < 16
      · exact part c17t0 (by omega) (by omega)
      by_cases hs16 : r < 32
      · exact part c17t16 (by omega) (by omega)
      by_cases hs32 : r < 34
      · exact part c17t32 (by omega) (by omega)
      omega
  · cases t
    · by_cases hr : r < 0
      · simp [f4, hb, f16, f17, f21, hr, w64, IntKind.wrap, IntKind.signed, IntKind.bits]
      by_cases hr2 : r ≥ 17
      · simp [f4, hb, f16, f17, f21, hr, hr2, w64, IntKind.wrap, IntKind.signed, IntKind.bits]
      by_cases hs0 : r < 16
      · exact part c18f0 (by omega) (by omega)
      by_cases hs16 : r < 17
      · exact part c18f16 (by omega) (by omega)
      omega
    · by_cases hr : r < 0
      · simp [f4, hb, f16, f17, f21, hr, w64, IntKind.wrap, IntKind.signed, IntKind.bits]
      by_cases hr2 : r ≥ 34
      · simp [f4, hb, f16, f17, f21, hr, hr2, w64, IntKind.wrap, IntKind.signed, IntKind.bits]
      by_cases hs0 : r < 16
      · exact part c18t0 (by omega) (by omega)
      by_cases hs16 : r < 32
      · exact part c18t16 (by omega) (by omega)
      by_cases hs32 : r < 34
      · exact part c18t32 (by omega) (by omega)
      omega
  · cases t
    · by_cases hr : r < 0
      · simp [f4, hb, f16, f17, f21, hr, w64, IntKind.wrap, IntKind.signed, IntKind.bits]
      by_cases hr2 : r ≥ 19
      · simp [f4, hb, f16, f17, f21, hr, hr2, w64, IntKind.wrap, IntKind.signed, IntKind.bits]
      by_cases hs0 : r < 16
      · exact part c19f0 (by omega) (by omega)
      by_cases hs16 : r < 19
      · exact part c19f16 (by omega) (by omega)
      omega
    · by_cases hr : r < 0
      · simp [f4, hb, f16, f17, f21, hr, w64, IntKind.wrap, IntKind.signed, IntKind.bits]
      by_cases hr2 : r ≥ 38
      · simp [f4, hb, f16, f17, f21, hr, hr2, w64, IntKind.wrap, IntKind.signed, IntKind.bits]
      by_cases hs0 : r < 16
      · exact part c19t0 (by omega) (by omega)
      by_cases hs16 : r < 32
      · exact part c19t16 (by omega) (by omega)
      by_cases hs32 : r < 38
      · exact part c19t32 (by omega) (by omega)
      omega
  · cases t
    · by_cases hr : r < 0
      · simp [f4, hb, f16, f17, f21, hr, w64, IntKind.wrap, IntKind.signed, IntKind.bits]
      by_cases hr2 : r ≥ 19
      · simp [f4, hb, f16, f17, f21, hr, hr2, w64, IntKind.wrap, IntKind.signed, IntKind.bits]
      by_cases hs0 : r < 16
      · exact part c20f0 (by omega) (by omega)
      by_cases hs16 : r < 19
      · exact part c20f16 (by omega) (by omega)
      omega
    · by_cases hr : r < 0
      · simp [f4, hb, f16, f17, f21, hr, w64, IntKind.wrap, IntKind.signed, IntKind.bits]
      by_cases hr2 : r ≥ 38
      · simp [f4, hb, f16, f17, f21, hr, hr2, w64, IntKind.wrap, IntKind.signed, IntKind.bits]
      by_cases hs0 : r < 16
      · exact part c20t0 (by omega) (by omega)
      by_cases hs16 : r < 32
      · exact part c20t16 (by omega) (by omega)
      by_cases hs32 : r < 38
      · exact part c20t32 (by omega) (by omega)
      omega
  · cases t
    · by_cases hr : r < 0
      · simp [f4, hb, f16, f17, f21, hr, w64, IntKind.wrap, IntKind.signed, IntKind.bits]
      by_cases hr2 : r ≥ 21
      · simp [f4, hb, f16, f17, f21, hr, hr2, w64, IntKind.wrap, IntKind.signed, IntKind.bits]
      by_cases hs0 : r < 16
      · exact part c21f0 (by omega) (by omega)
      by_cases hs16 : r < 21
      · exact part c21f16 (by omega) (by omega)
      omega
    · by_cases hr : r < 0
      · simp [f4, hb, f16, f17, f21, hr, w64, IntKind.wrap, IntKind.signed, IntKind.bits]
      by_cases hr2 : r ≥ 42
      · simp [f4, hb, f16, f17, f21, hr, hr2, w64, IntKind.wrap, IntKind.signed, IntKind.bits]
      by_cases hs0 : r < 16
      · exact part c21t0 (by omega) (by omega)
      by_cases hs16 : r < 32
      · exact part c21t16 (by omega) (by omega)
      by_cases hs32 : r < 42
      · exact part c21t32 (by omega) (by omega)
      omega
  · cases t
    · by_cases hr : r < 0
      · simp [f4, hb, f16, f17, f21, hr, w64, IntKind.wrap, IntKind.signed, IntKind.bits]
      by_cases hr2 : r ≥ 21
      · simp [f4, hb, f16, f17, f21, hr, hr2, w64, IntKind.wrap, IntKind.signed, IntKind.bits]
      by_cases hs0 : r < 16
      · exact part c22f0 (by omega) (by omega)
      by_cases hs16 : r < 21
      · exact part c22f16 (by omega) (by omega)
      omega
    · by_cases hr : r < 0
      · simp [f4, hb, f16, f17, f21, hr, w64, IntKind.wrap, IntKind.signed, IntKind.bits]
      by_cases hr2 : r ≥ 42
      · simp [f4, hb, f16, f17, f21, hr, hr2, w64, IntKind.wrap, IntKind.signed, IntKind.bits]
      by_cases hs0 : r < 16
      · exact part c22t0 (by omega) (by omega)
      by_cases hs16 : r < 32
      · exact part c22t16 (by omega) (by omega)
      by_cases hs32 : r < 42
      · exact part c22t32 (by omega) (by omega)
      omega
  · cases t
    · by_cases hr : r < 0
      · simp [f4, hb, f16, f17, f21, hr, w64, IntKind.wrap, IntKind.signed, IntKind.bits]
      by_cases hr2 : r ≥ 23
      · simp [f4, hb, f16, f17, f21, hr, hr2, w64, IntKind.wrap, IntKind.signed, IntKind.bits]
      by_cases hs0 : r < 16
      · exact part c23f0 (by omega) (by omega)
      by_cases hs16 : r < 23
      · exact part c23f16 (by omega) (by omega)
      omega
    · by_cases hr : r < 0
      · simp [f4, hb, f16, f17, f21, hr, w64, IntKind.wrap, IntKind.signed, IntKind.bits]
      by_cases hr2 : r ≥ 46
      · simp [f4, hb, f16, f17, f21, hr, hr2, w64, IntKind.wrap, IntKind.signed, IntKind.bits]
      by_cases hs0 : r < 16
      · exact part c23t0 (by omega) (by omega)
      by_cases hs16 : r < 32
      · exact part c23t16 (by omega) (by omega)
      by_cases hs32 : r < 46
      · exact part c23t32 (by omega) (by omega)
      omega
  · cases t
    · by_cases hr : r < 0
      · simp [f4, hb, f16, f17, f21, hr, w64, IntKind.wrap, IntKind.signed, IntKind.bits]
      by_cases hr2 : r ≥ 23
      · simp [f4, hb, f16, f17, f21, hr, hr2, w64, IntKind.wrap, IntKind.signed, IntKind.bits]
      by_cases hs0 : r < 16
      · exact part c24f0 (by omega) (by omega)
      by_cases hs16 : r < 23
      · exact part c24f16 (by omega) (by omega)
      omega
    · by_cases hr : r < 0
      · simp [f4, hb, f16, f17, f21, hr, w64, IntKind.wrap, IntKind.signed, IntKind.bits]
      by_cases hr2 : r ≥ 46
      · simp [f4, hb, f16, f17, f21, hr, hr2, w64, IntKind.wrap, IntKind.signed, IntKind.bits]
      by_cases hs0 : r < 16
      · exact part c24t0 (by omega) (by omega)
      by_cases hs16 : r < 32
      · exact part c24t16 (by omega) (by omega)
      by_cases hs32 : r < 46
      · exact part c24t32 (by omega) (by omega)
      omega
  · cases t
    · by_cases hr : r < 0
      · simp [f4, hb, f16, f17, f21, hr, w64, IntKind.wrap, IntKind.signed, IntKind.bits]
      by_cases hr2 : r ≥ 25
      · simp [f4, hb, f16, f17, f21, hr, hr2, w64, IntKind.wrap, IntKind.signed, IntKind.bits]
      by_cases hs0 : r < 16
      · exact part c25f0 (by omega) (by omega)
      by_cases hs16 : r < 25
      · exact part c25f16 (by omega) (by omega)
      omega
    · by_cases hr : r < 0
      · simp [f4, hb, f16, f17, f21, hr, w64, IntKind.wrap, IntKind.signed, IntKind.bits]
      by_cases hr2 : r ≥ 50
      · simp [f4, hb, f16, f17, f21, hr, hr2, w64, IntKind.wrap, IntKind.signed, IntKind.bits]
      by_cases hs0 : r < 16
      · exact part c25t0 (by omega) (by omega)
      by_cases hs16 : r < 32
      · exact part c25t16 (by omega) (by omega)
      by_cases hs32 : r < 48
      · exact part c25t32 (by omega) (by omega)
      by_cases hs48 : r < 50
      · exact part c25t48 (by omega) (by omega)
      omega
  · cases t
    · by_cases hr : r < 0
      · simp [f4, hb, f16, f17, f21, hr, w64, IntKind.wrap, IntKind.signed, IntKind.bits]
      by_cases hr2 : r ≥ 25
      · simp [f4, hb, f16, f17, f21, hr, hr2, w64, IntKind.wrap, IntKind.signed, IntKind.bits]
      by_cases hs0 : r < 16
      · exact part c26f0 (by omega) (by omega)
      by_cases hs16 : r < 25
      · exact part c26f16 (by omega) (by omega)
      omega
    · by_cases hr : r < 0
      · simp [f4, hb, f16, f17, f21, hr, w64, IntKind.wrap, IntKind.signed, IntKind.bits]
      by_cases hr2 : r ≥ 50
      · simp [f4, hb, f16, f17, f21, hr, hr2, w64, IntKind.wrap, IntKind.signed, IntKind.bits]
      by_cases hs0 : r < 16
      · exact part c26t0 (by omega) (by omega)
      by_cases hs16 : r < 32
      · exact part c26t16 (by omega) (by omega)
      by_cases hs32 : r < 48
      · exact part c26t32 (by omega) (by omega)
      by_cases hs48 : r < 50
      · exact part c26t48 (by omega) (by omega)
      omega
  · cases t
    · by_cases hr : r < 0
      · simp [f4, hb, f16, f17, f21, hr, w64, IntKind.wrap, IntKind.signed, IntKind.bits]
      by_cases hr2 : r ≥ 27
      · simp [f4, hb, f16, f17, f21, hr, hr2, w64, IntKind.wrap, IntKind.signed, IntKind.bits]
      by_cases hs0 : r < 16
      · exact part c27f0 (by omega) (by omega)
      by_cases hs16 : r < 27
      · exact part c27f16 (by omega) (by omega)
      omega
    · by_cases hr : r < 0
      · simp [f4, hb, f16, f17, f21, hr, w64, IntKind.wrap, IntKind.signed, IntKind.bits]
      by_cases hr2 : r ≥ 54
      · simp [f4, hb, f16, f17, f21, hr, hr2, w64, IntKind.wrap, IntKind.signed, IntKind.bits]
      by_cases hs0 : r < 16
      · exact part c27t0 (by omega) (by omega)
      by_cases hs16 : r < 32
      · exact part c27t16 (by omega) (by omega)
      by_cases hs32 : r < 48
      · exact part c27t32 (by omega) (by omega)
      by_cases hs48 : r < 54
      · exact part c27t48 (by omega) (by omega)
      omega
  · cases t
    · by_cases hr : r < 0
      · simp [f4, hb, f16, f17, f21, hr, w64, IntKind.wrap, IntKind.signed, IntKind.bits]
      by_cases hr2 : r ≥ 27
      · simp [f4, hb, f16, f17, f21, hr, hr2, w64, IntKind.wrap, IntKind.signed, IntKind.bits]
      by_cases hs0 : r < 16
      · exact part c28f0 (by omega) (by omega)
      by_cases hs16 : r < 27
      · exact part c28f16 (by omega) (by omega)
      omega
    · by_cases hr : r < 0
      · simp [f4, hb, f16, f17, f21, hr, w64, IntKind.wrap, IntKind.signed, IntKind.bits]
      by_cases hr2 : r ≥ 54
      · simp [f4, hb, f16, f17, f21, hr, hr2, w64, IntKind.wrap, IntKind.signed, IntKind.bits]
      by_cases hs0 : r < 16
      · exact part c28t0 (by omega) (by omega)
      by_cases hs16 : r < 32
      · exact part c28t16 (by omega) (by omega)
      by_cases hs32 : r < 48
      · exact part c28t32 (by omega) (by omega)
      by_cases hs48 : r < 54
      · exact part c28t48 (by omega) (by omega)
      omega
  · cases t
    · by_cases hr : r < 0
      · simp [f4, hb, f16, f17, f21, hr, w64, IntKind.wrap, IntKind.signed, IntKind.bits]
      by_cases hr2 : r ≥ 29
      · simp [f4, hb, f16, f17, f21, hr, hr2, w64, IntKind.wrap, IntKind.signed, IntKind.bits]
      by_cases hs0 : r < 16
      · exact part c29f0 (by omega) (by omega)
      by_cases hs16 : r < 29
      · exact part c29f16 (by omega) (by omega)
      omega
    · by_cases hr : r < 0
      · simp [f4, hb, f16, f17, f21, hr, w64, IntKind.wrap, IntKind.signed, IntKind.bits]
      by_cases hr2 : r ≥ 58
      · simp [f4, hb, f16, f17, f21, hr, hr2, w64, IntKind.wrap, IntKind.signed, IntKind.bits]
      by_cases hs0 : r < 16
      · exact part c29t0 (by omega) (by omega)
      by_cases hs16 : r < 32
      · exact part c29t16 (by omega) (by omega)
      by_cases hs32 : r < 48
      · exact part c29t32 (by omega) (by omega)
      by_cases hs48 : r < 58
      · exact part c29t48 (by omega) (by omega)
      omega
  · cases t
    · by_cases hr : r < 0
      · simp [f4, hb, f16, f17, f21, hr, w64, IntKind.wrap, IntKind.signed, IntKind.bits]
      by_cases hr2 : r ≥ 29
      · simp [f4, hb, f16, f17, f21, hr, hr2, w64, IntKind.wrap, IntKind.signed, IntKind.bits]
      by_cases hs0 : r < 16
      · exact part c30f0 (by omega) (by omega)
      by_cases hs16 : r < 29
      · exact part c30f16 (by omega) (by omega)
      omega
    · by_cases hr : r < 0
      · simp [f4, hb, f16, f17, f21, hr, w64, IntKind.wrap, IntKind.signed, IntKind.bits]
      by_cases hr2 : r ≥ 58
      · simp [f4, hb, f16, f17, f21, hr, hr2, w64, IntKind.wrap, IntKind.signed, IntKind.bits]
      by_cases hs0 : r < 16
      · exact part c30t0 (by omega) (by omega)
      by_cases hs16 : r < 32
      · exact part c30t16 (by omega) (by omega)
      by_cases hs32 : r < 48
      · exact part c30t32 (by omega) (by omega)
      by_cases hs48 : r < 58
      · exact part c30t48 (by omega) (by omega)
      omega
  · cases t
    · by_cases hr : r < 0
      · simp [f4, hb, f16, f17, f21, hr, w64, IntKind.wrap, IntKind.signed, IntKind.bits]
      by_cases hr2 : r ≥ 31
      · simp [f4, hb, f16, f17, f21, hr, hr2, w64, IntKind.wrap, IntKind.signed, IntKind.bits]
      by_cases hs0 : r < 16
      · exact part c31f0 (by omega) (by omega)
      by_cases hs16 : r < 31
      · exact part c31f16 (by omega) (by omega)
      omega
    · by_cases hr : r < 0
      · simp [f4, hb, f16, f17, f21, hr, w64, IntKind.wrap, IntKind.signed, IntKind.bits]
      by_cases hr2 : r ≥ 62
      · simp [f4, hb, f16, f17, f21, hr, hr2, w64, IntKind.wrap, IntKind.signed, IntKind.bits]
      by_cases hs0 : r < 16
      · exact part c31t0 (by omega) (by omega)
      by_cases hs16 : r < 32
      · exact part c31t16 (by omega) (by omega)
      by_cases hs32 : r < 48
      · exact part c31t32 (by omega) (by omega)
      by_cases hs48 : r < 62
      · exact part c31t48 (by omega) (by omega)
      omega
  · cases t
    · by_cases hr : r < 0
      · simp [f4, hb, f16, f17, f21, hr, w64, IntKind.wrap, IntKind.signed, IntKind.bits]
      by_cases hr2 : r ≥ 31
      · simp [f4, hb, f16, f17, f21, hr, hr2, w64, IntKind.wrap, IntKind.signed, IntKind.bits]
      by_cases hs0 : r < 16
      · exact part c32f0 (by omega) (by omega)
      by_cases hs16 : r < 31
      · exact part c32f16 (by omega) (by omega)
      omega
    · by_cases hr : r < 0
      · simp [f4, hb, f16, f17, f21, hr, w64, IntKind.wrap, IntKind.signed, IntKind.bits]
      by_cases hr2 : r ≥ 62
      · simp [f4, hb, f16, f17, f21, hr, hr2, w64, IntKind.wrap, IntKind.signed, IntKind.bits]
      by_cases hs0 : r < 16
      · exact part c32t0 (by omega) (by omega)
      by_cases hs16 : r < 32
      · exact part c32t16 (by omega) (by omega)
      by_cases hs32 : r < 48
      · exact part c32t32 (by omega) (by omega)
      by_cases hs48 : r < 62
      · exact part c32t48 (by omega) (by omega)
      omega
end Go.Proofs.Ytpighccmakogpaa.G
