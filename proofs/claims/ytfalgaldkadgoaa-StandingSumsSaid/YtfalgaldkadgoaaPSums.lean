/- The points of a table are two for each game; who is ahead has no fewer. -/
import Derived.Test.YtfalgaldkadgoaaPTable2
namespace Go.Proofs.Ytfalgaldkadgoaa.G
open Go.VM Go.Proofs

theorem one_tab : f37 100 = some (true, ()) := by kernel_rfl
theorem w_add (a b : Int) : w64 (w64 a + b) = w64 (a + b) := by
  unfold w64; rw [IntKind.wrap_i64, IntKind.wrap_i64, IntKind.wrap_i64]; omega
/-- Points fall along the table, places rise. -/
theorem falls {S R : List RW} (hs : Srt S 0 S.length) (hR : ∀ p, p < S.length → (at' R p).2.1 = (at' S p).2.1 ∧ Done S R p) (i : Nat) (h : i + 1 < S.length) :
    (at' R (i + 1)).2.1 ≤ (at' R i).2.1 ∧ (at' R i).2.2.2.1 ≤ (at' R (i + 1)).2.2.2.1 := by
  obtain ⟨a1, f, t, a2, a3, a4⟩ := hR i (by omega)
  obtain ⟨b1, f', t', b2, b3, b4⟩ := hR (i + 1) h
  constructor
  · have := hs i (i + 1) (by omega) (by omega) h
    rw [(oc_eq _ _).2] at this
    unfold Less at this
    rw [a1, b1]
    omega
  · rw [a2, b2]
    by_cases c : f' ≤ i
    · have := (b4.uniq a4 c (by have := b4.2.1; omega)).1
      omega
    · have := a4.1; omega
theorem sums_l (n : Int) (l : List GM) (R : List RW) (hl : R.length ≤ 32) (hf : ∀ i, i + 1 < R.length → (at' R (i + 1)).2.1 ≤ (at' R i).2.1 ∧ (at' R i).2.2.2.1 ≤ (at' R (i + 1)).2.2.2.1) : ∀ (j i : Nat), i ≤ R.length → R.length < i + j →
    l13_9 100 j n l R (w64 ((R.map fun r => r.2.1).take i).sum) () R.length i = some (.inl (n, l, R, w64 (R.map fun r => r.2.1).sum, ()))
  | 0, i, h1, h2 => by omega
  | j + 1, i, h1, h2 => by
    rw [l13_9]
    by_cases c : i < R.length
    · have ih := sums_l n l R hl hf j (i + 1) (by omega) (by omega)
      have st : w64 ((R.map fun r => r.2.1).take (i + 1)).sum = w64 (w64 ((R.map fun r => r.2.1).take i).sum + (rd W0 R (i : Int)).2.1) := by
        rw [List.take_succ_eq_append_getElem (by simpa using c), List.sum_append, w_add]
        have e : rd W0 R (i : Int) = at' R i := rfl
        rw [e]
        simp [at_get R i c]
      rw [st] at ih
      rw [bt1 (show (i : Int) < R.length by omega), bt2 (show (0 : Int) ≤ i ∧ (i : Int) < R.length by omega), ws (n := (i : Int) + 1) (by omega), show ((i : Int) + 1) = ((i + 1 : Nat) : Int) by omega]
      by_cases d : 0 < i
      · rw [bt1 (show (i : Int) > 0 by omega), show w64 ((i : Int) - 1) = ((i - 1 : Nat) : Int) by rw [ws (by omega)]; omega, bt2 (by omega), bt2 (by omega)]
        have := hf (i - 1) (by omega)
        rw [show i - 1 + 1 = i by omega] at this
        rw [bf1 (show ¬ (rd W0 R ((i - 1 : Nat) : Int)).2.1 < (rd W0 R (i : Int)).2.1 by have e : rd W0 R (i : Int) = at' R i := rfl; have e' : rd W0 R ((i - 1 : Nat) : Int) = at' R (i - 1) := rfl; rw [e, e']; omega)]
        rw [bf1 (show ¬ (rd W0 R ((i - 1 : Nat) : Int)).2.2.2.1 > (rd W0 R (i : Int)).2.2.2.1 by have e : rd W0 R (i : Int) = at' R i := rfl; have e' : rd W0 R ((i - 1 : Nat) : Int) = at' R (i - 1) := rfl; rw [e, e']; omega)]
        exact ih
      · rw [bf1 (show ¬ (i : Int) > 0 by omega)]
        exact ih
    · rw [bf1 (show ¬ (i : Int) < R.length by omega), List.take_of_length_le (by simp; omega)]
/-- A list's first elements. -/
theorem cutL {α : Type} (l : List α) (b : Nat) : sliceOf l 0 (if (b : Int) < (l.length : Int) then (b : Int) else (l.length : Int)) = l.take b ∧ (0 : Int) ≤ (if (b : Int) < (l.length : Int) then (b : Int) else (l.length : Int)) ∧ (if (b : Int) < (l.length : Int) then (b : Int) else (l.length : Int)) ≤ (l.length : Int) := by
  unfold sliceOf
  split
  · refine ⟨by simp, by omega, by omega⟩
  · refine ⟨?_, by omega, by omega⟩
    simp
    rw [List.take_of_length_le (by omega)]
theorem sums_pure (n : Int) (l : List GM) : f13 100 n l = some (true, ()) := by
  unfold f13
  rw [one_tab]
  simp only [Option.bind_some, Bool.not_true, cond_false]
  obtain ⟨c1, c2, c3⟩ := cutL l 60
  rw [show ((60 : Nat) : Int) = 60 from rfl] at c1 c2 c3
  rw [bt2 ⟨c2, c3⟩, c1]
  have hl : (l.take 60).length ≤ 60 := by simp; omega
  generalize l.take 60 = l at hl
  rcases table_tot n l hl with ⟨e, he, h⟩ | ⟨h1, h2, R, S, h, h3, h4, h5, h6, h7⟩
  · rw [h]
    simp only [Option.bind_some]
    rw [show (e != 0) = true by simpa using he]
    rfl
  · rw [h]
    simp only [Option.bind_some, show ((0 : Int) != 0) = false from rfl, cond_false]
    have := sums_l n l R (by omega) (fun i hi => falls h5 h7 i (by omega)) 100 0 (by omega) (by omega)
    rw [show w64 ((R.map fun r => r.2.1).take 0).sum = 0 by simp; rw [ws (by omega)], show ((0 : Nat) : Int) = 0 from rfl] at this
    rw [this]
    have e : (R.map fun r => r.2.1) = (S.map fun r => r.2.1) := by
      apply List.ext_getElem
      · simp [h4]
      · intro i x1 x2
        simp only [List.length_map] at x1 x2
        have := (h7 i x2).1
        rw [at_get R i x1, at_get S i x2] at this
        simpa using this
    rw [e, h6]
    simp [h3]
end Go.Proofs.Ytfalgaldkadgoaa.G
