/- Tables: rows sorted, places shared. -/
import Derived.Test.YtfalgaldkadgoaaPTable1
namespace Go.Proofs.Ytfalgaldkadgoaa.G
open Go.VM Go.Proofs

theorem blocks_l (ho : Ord) (l : List RW) (n : Nat) (hn : n = l.length) (hl : n ≤ 32) (j : Nat) (hj : 2 < j) :
    ∃ l', ((l69_2 100 j l n () 20 0 20).bind fun o1 => (f76 100 o1.1 o1.2.2.2.2.1 o1.2.1).bind fun r2 => (l69_7 100 100 r2.1 o1.2.1 () o1.2.2.2.1).bind fun o3 => some o3) = some (l', ()) ∧ Same l l' 0 n ∧ Srt l' 0 n := by
  obtain ⟨j, rfl⟩ : ∃ i, j = i + 2 := ⟨j - 2, by omega⟩
  rw [l69_2]
  by_cases c : 20 ≤ n
  · rw [bt1 (show (20 : Int) ≤ n by omega)]
    obtain ⟨l1, a1, a2, a3⟩ := insertion ho l 0 20 (by omega) (by omega) (by omega)
    rw [show ((0 : Nat) : Int) = 0 from rfl, show ((20 : Nat) : Int) = 20 from rfl] at a1
    rw [a1]
    simp only [Option.bind_some]
    rw [show w64 ((20 : Int) + 20) = 40 by rw [ws (by omega)]; rfl, l69_2, bf1 (show ¬ (40 : Int) ≤ n by omega)]
    simp only [Option.bind_some]
    have hl1 := a2.1
    obtain ⟨l2, b1, b2, b3⟩ := insertion ho l1 20 n (by omega) (by omega) c
    rw [show ((20 : Nat) : Int) = 20 from rfl] at b1
    rw [b1]
    simp only [Option.bind_some]
    have hl2 := b2.1
    have s1 : Srt l2 0 20 := a3.of_same fun p _ h => b2.2.2 p (by omega)
    have sm : Same l l2 0 n := (a2.mono (Nat.le_refl _) c).trans (b2.mono (by omega) (Nat.le_refl _))
    rw [show (100 : Nat) = 98 + 1 + 1 from rfl, l69_7]
    by_cases d : 20 < n
    · rw [bt1 (show (20 : Int) < n by omega), l69_9, show w64 (2 * (20 : Int)) = 40 by rw [ws (by omega)]; rfl, bf1 (show ¬ (40 : Int) ≤ n by omega)]
      simp only [Option.bind_some]
      rw [show w64 ((0 : Int) + 20) = 20 by rw [ws (by omega)]; rfl, bt1 (show (20 : Int) < n by omega)]
      obtain ⟨l3, c1, c2, c3⟩ := symMerge ho 100 l2 0 20 n (by omega) (by omega) d (by omega) (by omega) s1 b3
      rw [show ((0 : Nat) : Int) = 0 from rfl, show ((20 : Nat) : Int) = 20 from rfl] at c1
      have c1 : f77 (98 + 1 + 1) l2 0 20 n = some (l3, ()) := c1
      rw [c1]
      simp only [Option.bind_some]
      rw [show w64 ((20 : Int) * 2) = 40 by rw [ws (by omega)]; rfl, l69_7, bf1 (show ¬ (40 : Int) < n by omega)]
      exact ⟨l3, rfl, sm.trans c2, c3⟩
    · rw [bf1 (show ¬ (20 : Int) < n by omega)]
      have : n = 20 := by omega
      refine ⟨l2, rfl, sm, ?_⟩
      rw [this]; exact s1
  · rw [bf1 (show ¬ (20 : Int) ≤ n by omega)]
    simp only [Option.bind_some]
    obtain ⟨l1, a1, a2, a3⟩ := insertion ho l 0 n (by omega) (by omega) (by omega)
    rw [show ((0 : Nat) : Int) = 0 from rfl] at a1
    rw [a1]
    simp only [Option.bind_some]
    rw [show (100 : Nat) = 99 + 1 from rfl, l69_7, bf1 (show ¬ (20 : Int) < n by omega)]
    exact ⟨l1, rfl, a2, a3⟩
/-- The stable sort of at most 32 rows. -/
theorem stable (l : List RW) (hl : l.length ≤ 32) : ∃ l', f58 100 l = some (l', ()) ∧ l'.length = l.length ∧ l'.Perm l ∧ Srt l' 0 l.length := by
  unfold f58 f69
  obtain ⟨l', e1, e2, e3⟩ := blocks_l ord l l.length rfl hl 100 (by omega)
  rw [e1]
  exact ⟨l', rfl, e2.1, e2.2.1, e3⟩

/-! ### Places -/
def key (a : RW) : Int × Int × Int × Int × Int := (a.2.1, a.2.2.1.1, a.2.2.1.2.1, a.2.2.1.2.2.1, a.2.2.1.2.2.2.1)
theorem key_iff (a b : RW) : key a = key b ↔ ¬ Less a b ∧ ¬ Less b a := by
  unfold key Less
  simp only [Prod.mk.injEq]
  omega
theorem f59_zero (a b : RW) : ∃ c, f59 100 a b = some (c, ()) ∧ (c = 0 ↔ key a = key b) := by
  unfold f59 key
  simp only [cmp_eq, Option.bind_some, Prod.mk.injEq]
  by_cases h1 : b.2.1 < a.2.1
  · exact ⟨-1, by simp [h1], by omega⟩
  by_cases h2 : b.2.1 > a.2.1
  · exact ⟨1, by simp [h1, h2], by omega⟩
  simp only [if_neg h1, if_neg h2, show ((0 : Int) != 0) = false from rfl, cond_false]
  by_cases h3 : b.2.2.1.1 < a.2.2.1.1
  · exact ⟨-1, by simp [h3], by omega⟩
  by_cases h4 : b.2.2.1.1 > a.2.2.1.1
  · exact ⟨1, by simp [h3, h4], by omega⟩
  simp only [if_neg h3, if_neg h4, show ((0 : Int) != 0) = false from rfl, cond_false]
  by_cases h5 : b.2.2.1.2.1 < a.2.2.1.2.1
  · exact ⟨-1, by simp [h5], by omega⟩
  by_cases h6 : b.2.2.1.2.1 > a.2.2.1.2.1
  · exact ⟨1, by simp [h5, h6], by omega⟩
  simp only [if_neg h5, if_neg h6, show ((0 : Int) != 0) = false from rfl, cond_false]
  by_cases h7 : b.2.2.1.2.2.1 < a.2.2.1.2.2.1
  · exact ⟨-1, by simp [h7], by omega⟩
  by_cases h8 : b.2.2.1.2.2.1 > a.2.2.1.2.2.1
  · exact ⟨1, by simp [h7, h8], by omega⟩
  simp only [if_neg h7, if_neg h8, show ((0 : Int) != 0) = false from rfl, cond_false]
  by_cases h9 : b.2.2.1.2.2.2.1 < a.2.2.1.2.2.2.1
  · exact ⟨-1, by simp [h9], by omega⟩
  by_cases h10 : b.2.2.1.2.2.2.1 > a.2.2.1.2.2.2.1
  · exact ⟨1, by simp [h9, h10], by omega⟩
  exact ⟨0, by simp [h9, h10], by omega⟩
/-- Row i with such places. -/
def st (l : List RW) (i : Nat) (f t : Int) : List RW := l.set i ((at' l i).1, (at' l i).2.1, (at' l i).2.2.1, f, t, ())
theorem st_len (l : List RW) (i : Nat) (f t : Int) : (st l i f t).length = l.length := by unfold st; simp
theorem at_st (l : List RW) (i p : Nat) (f t : Int) (h : i < l.length) : at' (st l i f t) p = if i = p then ((at' l i).1, (at' l i).2.1, (at' l i).2.2.1, f, t, ()) else at' l p := by
  unfold st; rw [at_set l i p _ h]
theorem st_st (l : List RW) (i : Nat) (f t f' t' : Int) (h : i < l.length) : st (st l i f t) i f' t' = st l i f' t' := by
  have e := at_st l i i f t h
  rw [if_pos rfl] at e
  unfold st at e ⊢
  rw [e]; simp
theorem key_st (l : List RW) (i p : Nat) (f t : Int) (h : i < l.length) : key (at' (st l i f t) p) = key (at' l p) := by
  rw [at_st l i p f t h]
  split
  · subst_vars; rfl
  · rfl

theorem from_l (l : List RW) (i n : Nat) (a b t : Int) (hi : i < l.length) (hl : l.length ≤ 32) : ∀ (j f : Nat), f ≤ i → f < j → (∀ q, f ≤ q → q ≤ i → key (at' l q) = key (at' l i)) →
    ∃ f' : Nat, l38_16 100 j n (st l i f t) i a b = some ((n : Int), st l i f' t, (i : Int), a, b, ()) ∧ f' ≤ i ∧ (∀ q, f' ≤ q → q ≤ i → key (at' l q) = key (at' l i)) ∧ (0 < f' → key (at' l (f' - 1)) ≠ key (at' l i))
  | 0, f, h1, h2, h3 => by omega
  | j + 1, f, h1, h2, h3 => by
    rw [l38_16]
    have ei := at_st l i i (f : Int) t hi
    rw [if_pos rfl] at ei
    have ei' : rd W0 (st l i f t) (i : Int) = _ := ei
    simp only [ei', st_len]
    rw [bt2 (by omega)]
    by_cases c : 0 < f
    · have e1 : w64 ((f : Int) - 1) = ((f - 1 : Nat) : Int) := by rw [ws (by omega)]; omega
      rw [bt1 (show (f : Int) > 0 by omega), bt2 (by omega), e1, bt2 (by omega), bt2 (by omega)]
      have e2 : rd W0 (st l i f t) ((f - 1 : Nat) : Int) = at' l (f - 1) := by
        have := at_st l i (f - 1) (f : Int) t hi
        rw [if_neg (by omega)] at this; exact this
      rw [e2]
      obtain ⟨z, g1, g2⟩ := f59_zero (at' l (f - 1)) ((at' l i).1, (at' l i).2.1, (at' l i).2.2.1, (f : Int), t, ())
      rw [g1]
      simp only [Option.bind_some]
      by_cases k : key (at' l (f - 1)) = key (at' l i)
      · have : z = 0 := g2.mpr k
        subst this
        rw [show ((0 : Int) == 0) = true from rfl]
        simp only [cond_true]
        rw [bt2 (by omega), bt2 (by omega)]
        have e3 : (st l i f t).set (i : Int).toNat ((at' l i).1, (at' l i).2.1, (at' l i).2.2.1, ((f - 1 : Nat) : Int), t, ()) = st l i ((f - 1 : Nat) : Int) t := by
          unfold st; simp
        rw [e3]
        refine from_l l i n a b t hi hl j (f - 1) (by omega) (by omega) fun q q1 q2 => ?_
        by_cases q3 : q = f - 1
        · subst q3; exact k
        · exact h3 q (by omega) q2
      · have : z ≠ 0 := fun h => k (g2.mp h)
        rw [show (z == 0) = false by simpa using this]
        exact ⟨f, rfl, h1, h3, fun _ => k⟩
    · rw [bf1 (show ¬ (f : Int) > 0 by omega)]
      exact ⟨f, rfl, h1, h3, fun h => by omega⟩
theorem to_l (l : List RW) (i n : Nat) (a b f : Int) (hn : n = l.length) (hi : i < l.length) (hl : l.length ≤ 32) : ∀ (j t : Nat), i ≤ t → t < n → n < t + j → (∀ q, i ≤ q → q ≤ t → key (at' l q) = key (at' l i)) →
    ∃ t' : Nat, l38_19 100 j n (st l i f t) i a b = some ((n : Int), st l i f t', (i : Int), a, b, ()) ∧ i ≤ t' ∧ t' < n ∧ (∀ q, i ≤ q → q ≤ t' → key (at' l q) = key (at' l i)) ∧ (t' + 1 < n → key (at' l (t' + 1)) ≠ key (at' l i))
  | 0, t, h1, h2, h3, h4 => by omega
  | j + 1, t, h1, h2, h3, h4 => by
    rw [l38_19]
    have ei := at_st l i i f (t : Int) hi
    rw [if_pos rfl] at ei
    have ei' : rd W0 (st l i f t) (i : Int) = _ := ei
    simp only [ei', st_len]
    have e1 : w64 ((t : Int) + 1) = ((t + 1 : Nat) : Int) := by rw [ws (by omega)]; omega
    rw [bt2 (by omega), e1]
    by_cases c : t + 1 < n
    · rw [bt1 (show ((t + 1 : Nat) : Int) < n by omega), bt2 (by omega), bt2 (by omega), bt2 (by omega)]
      have e2 : rd W0 (st l i f t) ((t + 1 : Nat) : Int) = at' l (t + 1) := by
        have := at_st l i (t + 1) f (t : Int) hi
        rw [if_neg (by omega)] at this; exact this
      rw [e2]
      obtain ⟨z, g1, g2⟩ := f59_zero (at' l (t + 1)) ((at' l i).1, (at' l i).2.1, (at' l i).2.2.1, f, (t : Int), ())
      rw [g1]
      simp only [Option.bind_some]
      by_cases k : key (at' l (t + 1)) = key (at' l i)
      · have : z = 0 := g2.mpr k
        subst this
        rw [show ((0 : Int) == 0) = true from rfl]
        simp only [cond_true]
        rw [bt2 (by omega), bt2 (by omega)]
        have e3 : (st l i f t).set (i : Int).toNat ((at' l i).1, (at' l i).2.1, (at' l i).2.2.1, f, ((t + 1 : Nat) : Int), ()) = st l i f ((t + 1 : Nat) : Int) := by
          unfold st; simp
        rw [e3]
        refine to_l l i n a b f hn hi hl j (t + 1) (by omega) c (by omega) fun q q1 q2 => ?_
        by_cases q3 : q = t + 1
        · subst q3; exact k
        · exact h4 q q1 (by omega)
      · have : z ≠ 0 := fun h => k (g2.mp h)
        rw [show (z == 0) = false by simpa using this]
        exact ⟨t, rfl, h1, h2, h4, fun _ => k⟩
    · rw [bf1 (show ¬ ((t + 1 : Nat) : Int) < n by omega)]
      exact ⟨t, rfl, h1, h2, h4, fun h => by omega⟩
/-- Row p shares the places from f to t. -/
def FT (S : List RW) (p f t : Nat) : Prop := f ≤ p ∧ p ≤ t ∧ t < S.length ∧ (∀ q, f ≤ q → q ≤ t → key (at' S q) = key (at' S p)) ∧ (0 < f → key (at' S (f - 1)) ≠ key (at' S p)) ∧ (t + 1 < S.length → key (at' S (t + 1)) ≠ key (at' S p))
theorem FT.uniq {S : List RW} {p f t q f' t' : Nat} (h : FT S p f t) (h' : FT S q f' t') (h1 : f ≤ q) (h2 : q ≤ t) : f = f' ∧ t = t' := by
  obtain ⟨a1, a2, a3, a4, a5, a6⟩ := h
  obtain ⟨b1, b2, b3, b4, b5, b6⟩ := h'
  have e := a4 q h1 h2
  constructor
  · apply Nat.le_antisymm
    · refine Nat.le_of_not_lt fun c => ?_
      have := b4 (f - 1) (by omega) (by omega)
      exact a5 (by omega) (this.trans e)
    · refine Nat.le_of_not_lt fun c => ?_
      exact b5 (by omega) ((a4 (f' - 1) (by omega) (by omega)).trans e.symm)
  · apply Nat.le_antisymm
    · refine Nat.le_of_not_lt fun c => ?_
      exact b6 (by omega) ((a4 (t' + 1) (by omega) (by omega)).trans e.symm)
    · refine Nat.le_of_not_lt fun c => ?_
      have := b4 (t + 1) (by omega) (by omega)
      exact a6 (by omega) (this.trans e)
/-- A finished row. -/
def Done (S R : List RW) (p : Nat) : Prop := ∃ f t : Nat, (at' R p).2.2.2.1 = f + 1 ∧ (at' R p).2.2.2.2.1 = t + 1 ∧ FT S p f t
theorem places_l (S : List RW) (n : Nat) (hn : n = S.length) (hl : n ≤ 32) : ∀ (j i : Nat) (R : List RW), i ≤ n → n < i + j → R.length = n → (∀ p, p < n → (at' R p).2.1 = (at' S p).2.1 ∧ key (at' R p) = key (at' S p)) → (∀ p, p < i → Done S R p) →
    ∃ R', l38_13 100 j n R n i = some (R', ()) ∧ R'.length = n ∧ (∀ p, p < n → (at' R' p).2.1 = (at' S p).2.1 ∧ Done S R' p)
  | 0, i, R, h1, h2, _, _, _ => by omega
  | j + 1, i, R, h1, h2, h3, h4, h5 => by
    rw [l38_13]
    by_cases c : i < n
    · rw [bt1 (show (i : Int) < n by omega), bt2 (show (0 : Int) ≤ i ∧ (i : Int) < R.length by omega)]
      have hi : i < R.length := by omega
      have hk : ∀ p q, p < n → q < n → (key (at' R p) = key (at' R q) ↔ key (at' S p) = key (at' S q)) := fun p q hp hq => by rw [(h4 p hp).2, (h4 q hq).2]
      have e0 : R.set (i : Int).toNat ((rd W0 R i).1, (rd W0 R i).2.1, (rd W0 R i).2.2.1, (i : Int), (rd W0 R i).2.2.2.2) = st R i i (at' R i).2.2.2.2.1 := by unfold st; simp
      rw [e0]
      obtain ⟨f, f1, f2, f3, f4⟩ := from_l R i n n i (at' R i).2.2.2.2.1 hi (by omega) 100 i (Nat.le_refl _) (by omega) (fun q q1 q2 => by rw [show q = i by omega])
      rw [f1]
      simp only [Option.bind_some, st_len]
      rw [bt2 (show (0 : Int) ≤ i ∧ (i : Int) < R.length by omega)]
      have ei := at_st R i i (f : Int) (at' R i).2.2.2.2.1 hi
      rw [if_pos rfl] at ei
      have ei' : rd W0 (st R i f (at' R i).2.2.2.2.1) (i : Int) = _ := ei
      rw [ei']
      have e1 : (st R i f (at' R i).2.2.2.2.1).set (i : Int).toNat ((at' R i).1, (at' R i).2.1, (at' R i).2.2.1, (f : Int), (i : Int), ()) = st R i f i := by unfold st; simp
      dsimp only
      rw [e1]
      obtain ⟨t, t1, t2, t3, t4, t5⟩ := to_l R i n n i f (by omega) hi (by omega) 100 i (Nat.le_refl _) c (by omega) (fun q q1 q2 => by rw [show q = i by omega])
      rw [t1]
      simp only [Option.bind_some, st_len, List.length_set]
      rw [bt2 (show (0 : Int) ≤ i ∧ (i : Int) < R.length by omega), bt2 (show (0 : Int) ≤ i ∧ (i : Int) < R.length by omega), bt2 (show (0 : Int) ≤ i ∧ (i : Int) < R.length by omega), bt2 (show (0 : Int) ≤ i ∧ (i : Int) < R.length by omega)]
      have ej := at_st R i i (f : Int) (t : Int) hi
      rw [if_pos rfl] at ej
      have ej' : rd W0 (st R i f t) (i : Int) = _ := ej
      rw [ej']
      have e2 : (st R i f t).set (i : Int).toNat ((at' R i).1, (at' R i).2.1, (at' R i).2.2.1, w64 ((f : Int) + 1), (t : Int), ()) = st R i ((f : Int) + 1) t := by
        rw [ws (by omega)]; unfold st; simp
      dsimp only
      rw [e2]
      have ek := at_st R i i ((f : Int) + 1) (t : Int) hi
      rw [if_pos rfl] at ek
      have ek' : rd W0 (st R i ((f : Int) + 1) t) (i : Int) = _ := ek
      rw [ek']
      have e3 : (st R i ((f : Int) + 1) t).set (i : Int).toNat ((at' R i).1, (at' R i).2.1, (at' R i).2.2.1, (f : Int) + 1, w64 ((t : Int) + 1), ()) = st R i ((f : Int) + 1) ((t : Int) + 1) := by
        rw [ws (by omega)]; unfold st; simp
      dsimp only
      rw [e3, ws (n := (i : Int) + 1) (by omega)]
      have new := fun p => at_st R i p ((f : Int) + 1) ((t : Int) + 1) hi
      refine places_l S n hn hl j (i + 1) (st R i ((f : Int) + 1) ((t : Int) + 1)) (by omega) (by omega) (by rw [st_len]; exact h3) (fun p hp => ⟨?_, by rw [key_st R i p _ _ hi]; exact (h4 p hp).2⟩) (fun p hp => ?_)
      · rw [new p]; split
        · rename_i e; subst e; exact (h4 i hp).1
        · exact (h4 p hp).1
      · by_cases e : i = p
        · subst e
          refine ⟨f, t, by rw [new i, if_pos rfl], by rw [new i, if_pos rfl], f2, t2, by omega, fun q q1 q2 => ?_, fun h h' => ?_, fun h h' => ?_⟩
          · by_cases q3 : q ≤ i
            · exact (hk q i (by omega) c).mp (f3 q q1 q3)
            · exact (hk q i (by omega) c).mp (t4 q (by omega) q2)
          · exact f4 h ((hk (f - 1) i (by omega) c).mpr h')
          · exact t5 (by omega) ((hk (t + 1) i (by omega) c).mpr h')
        · obtain ⟨f', t', g1, g2, g3⟩ := h5 p (by omega)
          exact ⟨f', t', by rw [new p, if_neg e]; exact g1, by rw [new p, if_neg e]; exact g2, g3⟩
    · rw [bf1 (show ¬ (i : Int) < n by omega)]
      have : i = n := by omega
      subst this
      exact ⟨R, rfl, h3, fun p hp => ⟨(h4 p hp).1, h5 p hp⟩⟩
theorem rows_l (n : Nat) (l : List GM) (s : List Int) (hl : l.length ≤ 60) (hs : s.length = n) (hn : n ≤ 32) (ht : TOK n l) : ∀ (j i : Nat) (R : List RW), i ≤ n → n < i + j → R.length = i → (R.map fun r => r.2.1) = s.take i →
    ∃ R', l38_6 100 j n l s R n i = some ((n : Int), R', ()) ∧ R'.length = n ∧ (R'.map fun r => r.2.1) = s
  | 0, i, R, h1, h2, _, _ => by omega
  | j + 1, i, R, h1, h2, h3, h4 => by
    rw [l38_6]
    by_cases c : i < n
    · obtain ⟨b, e, h⟩ := breaks_tot n l hl i (by omega) ht
      rw [bt1 (show (i : Int) < n by omega), h]
      simp only [Option.bind_some]
      rw [bt2 (by omega), bt1 (by unfold roomN; simp; omega), ws (n := (i : Int) + 1) (by omega)]
      refine rows_l n l s hl hs hn ht j (i + 1) _ (by omega) (by omega) (by simp; omega) ?_
      rw [List.map_append, h4]
      have : rd 0 s (i : Int) = s[i]'(by omega) := by unfold rd; simp [show i < s.length by omega]
      simp only [List.map_cons, List.map_nil, this]
      rw [List.take_succ_eq_append_getElem (by omega)]
    · rw [bf1 (show ¬ (i : Int) < n by omega)]
      have : i = n := by omega
      subst this
      exact ⟨R, rfl, h3, by rw [h4, List.take_of_length_le (by omega)]⟩
theorem perm_sum {l m : List Int} (h : l.Perm m) : l.sum = m.sum := by
  induction h with
  | nil => rfl
  | cons x _ ih => simp [ih]
  | swap x y l => simp only [List.sum_cons]; omega
  | trans _ _ h1 h2 => exact h1.trans h2
/-- What the table is: an error; or n rows, sorted, two points for each game, places shared. -/
theorem table_tot (n : Int) (l : List GM) (hl : l.length ≤ 60) : (∃ e, e ≠ 0 ∧ f38 100 n l = some ([], e, ())) ∨
    (1 ≤ n ∧ n ≤ 32 ∧ ∃ R S, f38 100 n l = some (R, 0, ()) ∧ (R.length : Int) = n ∧ S.length = R.length ∧ Srt S 0 S.length ∧ (S.map fun r => r.2.1).sum = 2 * l.length ∧ (∀ p, p < S.length → (at' R p).2.1 = (at' S p).2.1 ∧ Done S R p)) := by
  unfold f38
  rcases points_tot n l hl with ⟨e, he, h⟩ | ⟨ht, s, h, h2, h3⟩
  · refine .inl ⟨e, he, ?_⟩
    rw [h]
    simp only [Option.bind_some]
    rw [show (e != 0) = true by simpa using he]
    rfl
  · refine .inr ⟨ht.1, ht.2.1, ?_⟩
    rw [h]
    simp only [Option.bind_some, show ((0 : Int) != 0) = false from rfl, cond_false]
    have t1 := ht.1
    have t2 := ht.2.1
    obtain ⟨n, rfl⟩ := Int.eq_ofNat_of_zero_le (show 0 ≤ n by omega)
    obtain ⟨R, e1, e2, e3⟩ := rows_l n l s hl (by omega) (by omega) ht 100 0 [] (by omega) (by omega) rfl rfl
    rw [show ((0 : Nat) : Int) = 0 from rfl] at e1
    rw [e1]
    simp only [Option.bind_some]
    obtain ⟨S, g1, g2, g3, g4⟩ := stable R (by omega)
    rw [g1]
    simp only [Option.bind_some]
    obtain ⟨R', k1, k2, k3⟩ := places_l S n (by omega) (by omega) 100 0 S (by omega) (by omega) (by omega) (fun p _ => ⟨rfl, rfl⟩) (fun p h => by omega)
    rw [show ((0 : Nat) : Int) = 0 from rfl] at k1
    rw [show (S.length : Int) = n by omega, k1]
    refine ⟨R', S, rfl, by omega, by omega, by rw [g2]; exact g4, ?_, fun p hp => k3 p (by omega)⟩
    rw [← h3, ← e3]
    exact perm_sum (g3.map _)
end Go.Proofs.Ytfalgaldkadgoaa.G
