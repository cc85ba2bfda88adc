import Derived.Test.YticbohfmkiafiaaTBk5
namespace Go.Proofs.Yticbohfmkiafiaa.G
open Go.VM Go.Proofs
theorem cut40b (l : List BE) : (if 40 < (l.length : Int) then (40 : Int) else (l.length : Int)) = ((min 40 l.length : Nat) : Int) ∧ sliceOf l 0 ((min 40 l.length : Nat) : Int) = l.take 40 := by
  refine ⟨by split <;> omega, ?_⟩
  unfold sliceOf
  rw [show (0 : Int).toNat = 0 from rfl, List.drop_zero, Int.toNat_natCast]
  by_cases h : 40 ≤ l.length
  · rw [Nat.min_eq_left h]
  · rw [Nat.min_eq_right (by omega), List.take_of_length_le (by omega), List.take_of_length_le (by omega)]
theorem order_pure (a b : List BE) : f4 9000 a b = some (true, ()) := by
  unfold f4
  rw [books_eq]
  simp only [Option.bind_some, Bool.not_true, cond_false]
  rw [(cut40b a).1, (cut40b b).1, (cut40b a).2, (cut40b b).2, bt2 ⟨by omega, by omega⟩, bt2 ⟨by omega, by omega⟩]
  generalize ha : a.take 40 = xs
  generalize hb : b.take 40 = ys
  have hxl : xs.length ≤ 40 := by rw [← ha]; simp; omega
  have hyl : ys.length ≤ 40 := by rw [← hb]; simp; omega
  by_cases h : Good xs ∧ Good ys
  · rw [merge_eq h.1 h.2 (by omega), merge_eq h.2 h.1 (by omega)]
    simp only [Option.bind_some]
    obtain ⟨k1, k2, k3⟩ := putsL_all h.1.bok h.2.w
    obtain ⟨m1, m2, m3⟩ := putsL_all h.2.bok h.1.w
    have he : putsL ys xs = putsL xs ys := book_ext m1 k1 (fun q => by rw [k3, m3, Int.add_comm])
    rw [he, beq_self_eq_true, cond_true, same_book _ (by omega)]
    rfl
  · obtain ⟨e1, he1, h1⟩ := merge_err h
    obtain ⟨e2, he2, h2⟩ := merge_err (xs := ys) (ys := xs) (fun hh => h ⟨hh.2, hh.1⟩)
    rw [h1, h2]
    simp only [Option.bind_some]
    rw [show (e1 == 0) = false by simpa using he1, show (e2 == 0) = false by simpa using he2, beq_self_eq_true, cond_true, same_book [] (by decide)]
    rfl
theorem order_x (x : List BE × List BE × Unit) : f4 9000 x.1 x.2.1 = some (true, ()) := order_pure _ _
end Go.Proofs.Yticbohfmkiafiaa.G
