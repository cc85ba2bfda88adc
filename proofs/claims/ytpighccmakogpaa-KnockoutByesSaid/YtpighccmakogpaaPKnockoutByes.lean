import Derived.Test.YtpighccmakogpaaGKnockoutByes
namespace Go.Proofs.Ytpighccmakogpaa.G
open Go.VM Go.Proofs
theorem byes_all : (List.range 31).all (fun n => match f3 100 ((n : Int) + 2) with | some (true, ()) => true | _ => false) = true := by decide +kernel
theorem byes_pure (x : Int) : f3 100 x = some (true, ()) := by
  have hb : f12 100 = some (true, ()) := by decide +kernel
  by_cases h : x < 2
  · have h1 : f31 100 x = some (4, ()) := by simp [f31, h]
    have h2 : f14 100 x = some (0, 4, ()) := by simp [f14, h1]
    have h3 : f30 100 x = some ([], 4, ()) := by simp [f30, h2]
    have h4 : f13 100 x = some ([], 4, ()) := by simp [f13, h3]
    simp [f3, hb, h4, h2]
  by_cases h' : x > 32
  · have h1 : f31 100 x = some (4, ()) := by simp [f31, h, h']
    have h2 : f14 100 x = some (0, 4, ()) := by simp [f14, h1]
    have h3 : f30 100 x = some ([], 4, ()) := by simp [f30, h2]
    have h4 : f13 100 x = some ([], 4, ()) := by simp [f13, h3]
    simp [f3, hb, h4, h2]
  have hn : (x - 2).toNat ∈ List.range 31 := by rw [List.mem_range]; omega
  have hx : (((x - 2).toNat : Nat) : Int) + 2 = x := by omega
  have := List.all_eq_true.1 byes_all _ hn
  rw [hx] at this
  split at this
  · assumption
  · cases this
end Go.Proofs.Ytpighccmakogpaa.G
