/- The stable sort's parts: two pieces change places. -/
import Derived.Test.YtfalgaldkadgoaaPSort
namespace Go.Proofs.Ytfalgaldkadgoaa.G
open Go.VM Go.Proofs

theorem swapRange_l (l0 : List RW) (a b n : Nat) (hl : l0.length ≤ 32) (hab : a + n ≤ b) (hb : b + n ≤ l0.length) : ∀ (j i : Nat) (l : List RW), i ≤ n → n < i + j → l.length = l0.length → l.Perm l0 →
    (∀ p, at' l p = if a ≤ p ∧ p < a + i then at' l0 (p - a + b) else if b ≤ p ∧ p < b + i then at' l0 (p - b + a) else at' l0 p) →
    ∃ l', l81_1 100 j l a b n i = some (l', ()) ∧ l'.length = l0.length ∧ l'.Perm l0 ∧
      ∀ p, at' l' p = if a ≤ p ∧ p < a + n then at' l0 (p - a + b) else if b ≤ p ∧ p < b + n then at' l0 (p - b + a) else at' l0 p
  | 0, i, l, h1, h2, _, _, _ => by omega
  | j + 1, i, l, h1, h2, h3, h4, h5 => by
    rw [l81_1]
    by_cases c : i < n
    · have e1 : w64 ((b : Int) + (i : Int)) = ((b + i : Nat) : Int) := by rw [ws (by omega)]; omega
      have e2 : w64 ((a : Int) + (i : Int)) = ((a + i : Nat) : Int) := by rw [ws (by omega)]; omega
      simp only [e1, e2]
      rw [decide_eq_true (show (i : Int) < (n : Int) by omega), decide_eq_true (show (0 : Int) ≤ ((b + i : Nat) : Int) by omega), decide_eq_true (show ((b + i : Nat) : Int) < (l.length : Int) by omega), decide_eq_true (show (0 : Int) ≤ ((a + i : Nat) : Int) by omega), decide_eq_true (show ((a + i : Nat) : Int) < (l.length : Int) by omega)]
      simp only [Bool.and_self, cond_true, List.length_set, Int.toNat_natCast]
      rw [ws (n := (i : Int) + 1) (by omega), show ((i : Int) + 1) = ((i + 1 : Nat) : Int) by omega]
      rw [decide_eq_true (show ((b + i : Nat) : Int) < (l.length : Int) by omega)]
      simp only [Bool.and_self, cond_true]
      have ha' : a + i < l.length := by omega
      have hb' : b + i < l.length := by omega
      refine swapRange_l l0 a b n hl hab hb j (i + 1) (swp l (a + i) (b + i)) (by omega) (by omega) (by rw [swp_len]; exact h3) ((swp_perm l _ _ ha' hb').trans h4) fun p => ?_
      rw [at_swp l (a + i) (b + i) p ha' hb', h5 (a + i), h5 (b + i), h5 p]
      rw [if_neg (show ¬ (a ≤ a + i ∧ a + i < a + i) by omega), if_neg (show ¬ (b ≤ a + i ∧ a + i < b + i) by omega), if_neg (show ¬ (a ≤ b + i ∧ b + i < a + i) by omega), if_neg (show ¬ (b ≤ b + i ∧ b + i < b + i) by omega)]
      by_cases p1 : b + i = p
      · subst p1
        rw [if_pos rfl, if_neg (show ¬ (a ≤ b + i ∧ b + i < a + (i + 1)) by omega), if_pos (show b ≤ b + i ∧ b + i < b + (i + 1) by omega), show b + i - b + a = a + i by omega]
      · rw [if_neg p1]
        by_cases p2 : a + i = p
        · subst p2
          rw [if_pos rfl, if_pos (show a ≤ a + i ∧ a + i < a + (i + 1) by omega), show a + i - a + b = b + i by omega]
        · rw [if_neg p2]
          by_cases q1 : a ≤ p ∧ p < a + i
          · rw [if_pos q1, if_pos (show a ≤ p ∧ p < a + (i + 1) by omega)]
          · rw [if_neg q1, if_neg (show ¬ (a ≤ p ∧ p < a + (i + 1)) by omega)]
            by_cases q2 : b ≤ p ∧ p < b + i
            · rw [if_pos q2, if_pos (show b ≤ p ∧ p < b + (i + 1) by omega)]
            · rw [if_neg q2, if_neg (show ¬ (b ≤ p ∧ p < b + (i + 1)) by omega)]
    · rw [decide_eq_false (show ¬ (i : Int) < (n : Int) by omega)]
      have : i = n := by omega
      subst this
      exact ⟨l, rfl, h3, h4, h5⟩
theorem swapRange (l : List RW) (a b n : Nat) (hl : l.length ≤ 32) (hab : a + n ≤ b) (hb : b + n ≤ l.length) : ∃ l', f81 100 l a b n = some (l', ()) ∧ l'.length = l.length ∧ l'.Perm l ∧
    ∀ p, at' l' p = if a ≤ p ∧ p < a + n then at' l (p - a + b) else if b ≤ p ∧ p < b + n then at' l (p - b + a) else at' l p := by
  unfold f81
  obtain ⟨l', e1, e2⟩ := swapRange_l l a b n hl hab hb 100 0 l (by omega) (by omega) rfl (.refl _) fun p => by
    rw [if_neg (by omega), if_neg (by omega)]
  rw [show ((0 : Nat) : Int) = 0 from rfl] at e1
  rw [e1]
  exact ⟨l', rfl, e2⟩
end Go.Proofs.Ytfalgaldkadgoaa.G
