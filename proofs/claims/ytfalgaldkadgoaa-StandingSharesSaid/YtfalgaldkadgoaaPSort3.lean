/- The stable sort's parts: rotation, and what a change within a piece keeps. -/
import Derived.Test.YtfalgaldkadgoaaPSort2
namespace Go.Proofs.Ytfalgaldkadgoaa.G
open Go.VM Go.Proofs

/-- A guard that holds. -/
theorem bt2 {α : Type} {p q : Prop} [Decidable p] [Decidable q] {A B : α} (h : p ∧ q) : (bif decide p && decide q then A else B) = A := by
  rw [decide_eq_true h.1, decide_eq_true h.2]; rfl
theorem bt1 {α : Type} {p : Prop} [Decidable p] {A B : α} (h : p) : (bif decide p then A else B) = A := by
  rw [decide_eq_true h]; rfl
theorem bf1 {α : Type} {p : Prop} [Decidable p] {A B : α} (h : ¬ p) : (bif decide p then A else B) = B := by
  rw [decide_eq_false h]; rfl
/-- The second of two pieces, of i and j rows, comes ahead of the first one. -/
def Rot (l l' : List RW) (s i j : Nat) : Prop := ∀ p, at' l' p = if s ≤ p ∧ p < s + j then at' l (p + i) else if s + j ≤ p ∧ p < s + i + j then at' l (p - j) else at' l p

theorem rotate_l (m : Nat) : ∀ (f i j : Nat) (l : List RW), l.length ≤ 32 → 0 < i → 0 < j → i ≤ m → m + j ≤ l.length → i + j < f →
    ∃ l', ((l80_2 100 f l m () i j).bind fun o1 => (f81 100 o1.1 (w64 (o1.2.1 - o1.2.2.2.1)) o1.2.1 o1.2.2.2.1).bind fun r2 => some r2) = some (l', ()) ∧
      l'.length = l.length ∧ l'.Perm l ∧ Rot l l' (m - i) i j
  | 0, i, j, l, h1, h2, h3, h4, h5, h6 => by omega
  | f + 1, i, j, l, h1, h2, h3, h4, h5, h6 => by
    rw [l80_2]
    have em : w64 ((m : Int) - (i : Int)) = ((m - i : Nat) : Int) := by rw [ws (by omega)]; omega
    by_cases c : i = j
    · subst c
      rw [show ((i : Int) != (i : Int)) = false by simp]
      simp only [cond_false, Option.bind_some, em]
      obtain ⟨l', e1, e2, e3, e4⟩ := swapRange l (m - i) m i h1 (by omega) h5
      rw [e1]
      refine ⟨l', rfl, e2, e3, fun p => ?_⟩
      rw [e4 p]
      by_cases p1 : m - i ≤ p ∧ p < m - i + i
      · rw [if_pos p1, if_pos p1, show p - (m - i) + m = p + i by omega]
      · rw [if_neg p1, if_neg p1]
        by_cases p2 : m ≤ p ∧ p < m + i
        · rw [if_pos p2, if_pos (by omega), show p - m + (m - i) = p - i by omega]
        · rw [if_neg p2, if_neg (by omega)]
    · rw [show ((i : Int) != (j : Int)) = true by simp; omega]
      simp only [cond_true, em]
      by_cases d : j < i
      · rw [bt1 (show (i : Int) > (j : Int) by omega)]
        obtain ⟨l', e1, e2, e3, e4⟩ := swapRange l (m - i) m j h1 (by omega) h5
        rw [e1]
        simp only [Option.bind_some]
        rw [show w64 ((i : Int) - (j : Int)) = ((i - j : Nat) : Int) by rw [ws (by omega)]; omega]
        obtain ⟨l2, g1, g2, g3, g4⟩ := rotate_l m f (i - j) j l' (by omega) (by omega) h3 (by omega) (by omega) (by omega)
        refine ⟨l2, g1, by omega, g3.trans e3, fun p => ?_⟩
        rw [g4 p]
        by_cases p1 : m - i ≤ p ∧ p < m - i + j
        · rw [if_neg (by omega), if_neg (by omega), if_pos p1, e4 p, if_pos p1, show p - (m - i) + m = p + i by omega]
        · rw [if_neg p1]
          by_cases p2 : m - i + j ≤ p ∧ p < m - i + i + j
          · rw [if_pos p2]
            by_cases p3 : p < m - i + j + j
            · rw [if_pos (by omega), e4, if_neg (by omega), if_pos (by omega)]
              congr 1; omega
            · rw [if_neg (by omega), if_pos (by omega), e4, if_neg (by omega), if_neg (by omega)]
          · rw [if_neg p2, if_neg (by omega), if_neg (by omega), e4, if_neg (by omega), if_neg (by omega)]
      · rw [bf1 (show ¬ (i : Int) > (j : Int) by omega)]
        rw [show w64 ((w64 ((m : Int) + (j : Int))) - (i : Int)) = ((m + j - i : Nat) : Int) by rw [ws (n := (m : Int) + j) (by omega), ws (by omega)]; omega]
        obtain ⟨l', e1, e2, e3, e4⟩ := swapRange l (m - i) (m + j - i) i h1 (by omega) (by omega)
        rw [e1]
        simp only [Option.bind_some]
        rw [show w64 ((j : Int) - (i : Int)) = ((j - i : Nat) : Int) by rw [ws (by omega)]; omega]
        obtain ⟨l2, g1, g2, g3, g4⟩ := rotate_l m f i (j - i) l' (by omega) h2 (by omega) (by omega) (by omega) (by omega)
        refine ⟨l2, g1, by omega, g3.trans e3, fun p => ?_⟩
        rw [g4 p]
        by_cases p1 : m - i ≤ p ∧ p < m - i + j
        · rw [if_pos p1]
          by_cases p3 : p < m - i + (j - i)
          · rw [if_pos (by omega), e4, if_neg (by omega), if_neg (by omega)]
          · rw [if_neg (by omega), if_pos (by omega), e4, if_pos (by omega)]
            congr 1; omega
        · rw [if_neg p1]
          by_cases p2 : m - i + j ≤ p ∧ p < m - i + i + j
          · rw [if_pos p2, if_neg (by omega), if_neg (by omega), e4, if_neg (by omega), if_pos (by omega)]
            congr 1; omega
          · rw [if_neg p2, if_neg (by omega), if_neg (by omega), e4, if_neg (by omega), if_neg (by omega)]
theorem rotate (l : List RW) (a m b : Nat) (hl : l.length ≤ 32) (ham : a < m) (hmb : m < b) (hb : b ≤ l.length) :
    ∃ l', f80 100 l a m b = some (l', ()) ∧ l'.length = l.length ∧ l'.Perm l ∧ Rot l l' a (m - a) (b - m) := by
  unfold f80
  rw [show w64 ((m : Int) - (a : Int)) = ((m - a : Nat) : Int) by rw [ws (by omega)]; omega, show w64 ((b : Int) - (m : Int)) = ((b - m : Nat) : Int) by rw [ws (by omega)]; omega]
  obtain ⟨l', e⟩ := rotate_l m 100 (m - a) (b - m) l hl (by omega) (by omega) (by omega) (by omega) (by omega)
  rw [show m - (m - a) = a by omega] at e
  exact ⟨l', e⟩

/-- A piece keeps its rows. -/
theorem Same.loc {l l' : List RW} {a b : Nat} (h : Same l l' a b) (hb : b ≤ l.length) (p : Nat) (hp : a ≤ p ∧ p < b) : ∃ q, a ≤ q ∧ q < b ∧ at' l' p = at' l q := by
  obtain ⟨h1, h2, h3⟩ := h
  have ea : l'.take a = l.take a := by
    apply List.ext_getElem
    · simp [h1]
    · intro i x1 x2
      simp only [List.length_take] at x1 x2
      have := h3 i (by omega)
      rw [at_get l' i (by omega), at_get l i (by omega)] at this
      simpa using this
  have eb : l'.drop b = l.drop b := by
    apply List.ext_getElem
    · simp [h1]
    · intro i x1 x2
      simp only [List.length_drop] at x1 x2
      have := h3 (b + i) (by omega)
      rw [at_get l' (b + i) (by omega), at_get l (b + i) (by omega)] at this
      simpa using this
  have sp : ∀ x : List RW, x.length = l.length → x = x.take a ++ ((x.drop a).take (b - a) ++ x.drop b) := by
    intro x _
    have e1 : x.drop a = (x.drop a).take (b - a) ++ x.drop b := by
      have e0 := (List.take_append_drop (b - a) (x.drop a)).symm
      rw [List.drop_drop, show a + (b - a) = b by omega] at e0
      exact e0
    rw [← e1]; exact (List.take_append_drop a x).symm
  have pm : ((l'.drop a).take (b - a)).Perm ((l.drop a).take (b - a)) := by
    rw [sp l' h1, sp l rfl, ea, eb] at h2
    exact (List.perm_append_right_iff _).mp ((List.perm_append_left_iff _).mp h2)
  have hm : l'[p]'(by omega) ∈ (l'.drop a).take (b - a) := by
    apply List.mem_iff_getElem.mpr
    exact ⟨p - a, by simp; omega, by simp [show a + (p - a) = p by omega]⟩
  obtain ⟨i, hi, e⟩ := List.mem_iff_getElem.mp (pm.mem_iff.mp hm)
  simp only [List.length_take, List.length_drop] at hi
  refine ⟨a + i, by omega, by omega, ?_⟩
  rw [at_get l' p (by omega), at_get l (a + i) (by omega), ← e]
  simp
theorem Rot.same {l l' : List RW} {a m b : Nat} (h : Rot l l' a (m - a) (b - m)) (h1 : l'.length = l.length) (h2 : l'.Perm l) (ham : a < m) (hmb : m < b) : Same l l' a b :=
  ⟨h1, h2, fun p hp => by rw [h p, if_neg (by omega), if_neg (by omega)]⟩
theorem mid_eq (x y : Nat) (h : x + y ≤ 1000) : w64 ((IntKind.u64.wrap (w64 ((x : Int) + (y : Int)))).fdiv (2 ^ (min (1 : Int).toNat 64))) = (((x + y) / 2 : Nat) : Int) := by
  rw [ws (n := (x : Int) + y) (by omega), IntKind.wrap_u64, show ((2 : Int) ^ (min (1 : Int).toNat 64)) = 2 by rfl, Int.fdiv_eq_ediv_of_nonneg _ (by omega), ws (by omega)]
  omega
end Go.Proofs.Ytfalgaldkadgoaa.G
