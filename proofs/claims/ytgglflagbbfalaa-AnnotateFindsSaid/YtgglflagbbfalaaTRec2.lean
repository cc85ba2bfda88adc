/- Records: how deep variations are; there is an answer. -/
import Derived.Test.YtgglflagbbfalaaTRec1
namespace Go.Proofs.Ytgglflagbbfalaa.G
open Go.VM Go.Proofs
theorem first2 (l : List ND) (hl : l.length ≤ 200) (s : Int) (hs : 0 ≤ s ∧ s < l.length) : ∀ (j i : Nat), i ≤ l.length → l.length < i + j → (∃ v, l30_2 9000 j l s l (l.length : Int) i = some (.inl (v, ()))) ∨ ∃ v, l30_2 9000 j l s l (l.length : Int) i = some (.inr (v, ()))
  | 0, i, h, h' => by omega
  | j + 1, i, h, h' => by
    rw [l30_2]
    by_cases hi : i < l.length
    · have e : ((i : Int) + 1) = ((i + 1 : Nat) : Int) := by omega
      rw [bt1 (show (i : Int) < l.length by omega), bt2 ⟨by omega, by omega⟩, bt2 ⟨hs.1, hs.2⟩, ws (by omega), e]
      generalize ((rd ((0, (0, 0, 0, ()), (⟨#[]⟩ : ByteArray), ()) : ND) l (i : Int)).1 == (rd ((0, (0, 0, 0, ()), (⟨#[]⟩ : ByteArray), ()) : ND) l s).1) = b
      cases b
      · exact first2 l hl s hs j (i + 1) (by omega) (by omega)
      · exact .inr ⟨_, rfl⟩
    · rw [bf1 (show ¬ (i : Int) < l.length by omega)]
      exact .inl ⟨_, rfl⟩
theorem first_tot (l : List ND) (hl : l.length ≤ 200) (s : Int) (hs : 0 ≤ s ∧ s < l.length) : ∃ v, f30 9000 l s = some (v, ()) := by
  unfold f30
  rcases first2 l hl s hs 9000 0 (by omega) (by omega) with ⟨v, h⟩ | ⟨v, h⟩ <;> rw [show ((0 : Nat) : Int) = 0 from rfl] at h <;> rw [h] <;> exact ⟨_, rfl⟩
theorem deep4 (l : List ND) (hl : l.length ≤ 200) (hp : ∀ i : Nat, i < l.length → (rd N0 l (i : Int)).1 < l.length) : ∀ (j i : Nat) (m : Int) (lv : List Int), i ≤ l.length → l.length < i + j → lv.length = l.length →
    ∃ v, l18_4 9000 j l m lv l (l.length : Int) i = some (v, ())
  | 0, i, m, lv, h, h', _ => by omega
  | j + 1, i, m, lv, h, h', hlv => by
    rw [l18_4]
    by_cases hi : i < l.length
    · have e : ((i : Int) + 1) = ((i + 1 : Nat) : Int) := by omega
      rw [bt1 (show (i : Int) < l.length by omega), bt2 ⟨by omega, by omega⟩, ws (n := (i : Int) + 1) (by omega), e]
      obtain ⟨v, hv⟩ := first_tot l hl (i : Int) ⟨by omega, by omega⟩
      have hpi := hp i hi
      rw [show rd ((0, (0, 0, 0, ()), (⟨#[]⟩ : ByteArray), ()) : ND) l (i : Int) = rd N0 l (i : Int) from rfl]
      by_cases c : (rd N0 l (i : Int)).1 ≥ 0
      · rw [bt1 c, bt2 ⟨by omega, by omega⟩, bt2 ⟨by omega, by omega⟩, hv]
        simp only [Option.bind_some]
        by_cases c2 : v = (i : Int)
        · rw [beq1 c2, bt2 ⟨by omega, by simp; omega⟩]
          exact deep4 l hl hp j (i + 1) _ _ (by omega) (by omega) (by simpa using hlv)
        · rw [bne1 c2, bt2 ⟨by omega, by simp; omega⟩, bt2 ⟨by omega, by simp; omega⟩, bt2 ⟨by omega, by simp; omega⟩]
          exact deep4 l hl hp j (i + 1) _ _ (by omega) (by omega) (by simpa using hlv)
      · rw [bf1 c, hv]
        simp only [Option.bind_some]
        by_cases c2 : v = (i : Int)
        · rw [beq1 c2, bt2 ⟨by omega, by omega⟩]
          exact deep4 l hl hp j (i + 1) _ _ (by omega) (by omega) (by simpa using hlv)
        · rw [bne1 c2, bt2 ⟨by omega, by omega⟩, bt2 ⟨by omega, by omega⟩, bt2 ⟨by omega, by simp; omega⟩]
          exact deep4 l hl hp j (i + 1) _ _ (by omega) (by omega) (by simpa using hlv)
    · rw [bf1 (show ¬ (i : Int) < l.length by omega)]
      exact ⟨_, rfl⟩
theorem deep_tot (l : List ND) (hl : l.length ≤ 200) (hp : ∀ i : Nat, i < l.length → (rd N0 l (i : Int)).1 < l.length) : ∃ v, f18 9000 l = some (v, ()) := by
  unfold f18
  rw [decide_eq_true (show (0 : Int) ≤ l.length by omega), decide_eq_true (show (l.length : Int) ≤ l.length by omega), decide_eq_true (show ((8 : Nat) : Int) * l.length ≤ 281474976710656 by omega), decide_eq_true (show (l.length : Int) ≤ 9223372036854775807 by omega)]
  simp only [Bool.and_self, cond_true]
  obtain ⟨v, hv⟩ := deep4 l hl hp 9000 0 0 (List.replicate (l.length : Int).toNat 0) (by omega) (by omega) (by simp)
  rw [show ((0 : Nat) : Int) = 0 from rfl] at hv
  rw [hv]
  exact ⟨_, rfl⟩
end Go.Proofs.Ytgglflagbbfalaa.G
