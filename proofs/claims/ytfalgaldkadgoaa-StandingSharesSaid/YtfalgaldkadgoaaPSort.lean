/- The stable sort's parts, as plain facts: insertion sort. -/
import Derived.Test.YtfalgaldkadgoaaGStanding
namespace Go.Proofs.Ytfalgaldkadgoaa.G
open Go.VM Go.Proofs

theorem ws {n : Int} (h : -9223372036854775808 ≤ n ∧ n ≤ 9223372036854775807) : w64 n = n := by
  unfold w64; rw [IntKind.wrap_i64]; omega
abbrev RW := Int × Int × (Int × Int × Int × Int × Unit) × Int × Int × Unit
abbrev W0 : RW := (0, 0, (0, 0, 0, 0, ()), 0, 0, ())
abbrev at' (l : List RW) (p : Nat) : RW := rd W0 l (p : Int)
theorem at_set (l : List RW) (i p : Nat) (v : RW) (h : i < l.length) : at' (l.set i v) p = if i = p then v else at' l p := by
  unfold at' rd
  simp only [Int.toNat_natCast, List.getD_eq_getElem?_getD, List.getElem?_set]
  by_cases e : i = p
  · subst e; simp [h]
  · simp [e]
theorem at_get (l : List RW) (i : Nat) (h : i < l.length) : at' l i = l[i] := by
  unfold at' rd; simp [h]
/-- Two places change. -/
def swp (l : List RW) (i j : Nat) : List RW := (l.set i (at' l j)).set j (at' l i)
theorem swp_len (l : List RW) (i j : Nat) : (swp l i j).length = l.length := by unfold swp; simp
theorem swp_perm (l : List RW) (i j : Nat) (hi : i < l.length) (hj : j < l.length) : (swp l i j).Perm l := by
  unfold swp
  rw [at_get l i hi, at_get l j hj]
  exact List.set_set_perm hi hj
theorem at_swp (l : List RW) (i j p : Nat) (hi : i < l.length) (hj : j < l.length) : at' (swp l i j) p = if j = p then at' l i else if i = p then at' l j else at' l p := by
  unfold swp
  rw [at_set _ j p _ (by simpa using hj), at_set l i p _ hi]

/-- The order, as the program works it out. -/
noncomputable def oc (a b : RW) : Int := ((f59 100 a b).getD (0, ())).1
def Ord : Prop := (∀ a b, f59 100 a b = some (oc a b, ())) ∧ (∀ a b c, ¬ oc b a < 0 → ¬ oc c b < 0 → ¬ oc c a < 0) ∧ ∀ a b, oc a b < 0 → ¬ oc b a < 0
/-- Sorted from a to b. -/
def Srt (l : List RW) (a b : Nat) : Prop := ∀ p q, a ≤ p → p < q → q < b → ¬ oc (at' l q) (at' l p) < 0
def Same (l l' : List RW) (a b : Nat) : Prop := l'.length = l.length ∧ l'.Perm l ∧ ∀ p, (p < a ∨ b ≤ p) → at' l' p = at' l p

theorem ins_inner (ho : Ord) (l0 : List RW) (a b i : Nat) (hl0 : l0.length ≤ 32) (hi : i < l0.length) : ∀ (j : Nat) (l : List RW) (jj : Nat), a ≤ jj → jj ≤ i → jj < a + j → Same l0 l a (i + 1) →
    (∀ p q, a ≤ p → p < q → q ≤ i → p ≠ jj → q ≠ jj → ¬ oc (at' l q) (at' l p) < 0) → (∀ q, jj < q → q ≤ i → ¬ oc (at' l q) (at' l jj) < 0) →
    ∃ l', l76_4 100 j l a b () i jj = some (l', (a : Int), (b : Int), (), (i : Int), ()) ∧ Same l0 l' a (i + 1) ∧ Srt l' a (i + 1)
  | 0, l, jj, h1, h2, h3, _, _, _ => by omega
  | j + 1, l, jj, h1, h2, h3, hs, hp, hq => by
    have hl : l.length = l0.length := hs.1
    rw [l76_4]
    by_cases c1 : a < jj
    · have e1 : w64 ((jj : Int) - 1) = ((jj - 1 : Nat) : Int) := by rw [ws (by omega)]; omega
      simp only [e1]
      rw [decide_eq_true (show (jj : Int) > (a : Int) by omega), decide_eq_true (show (0 : Int) ≤ jj by omega), decide_eq_true (show (jj : Int) < (l.length : Int) by omega), decide_eq_true (show (0 : Int) ≤ ((jj - 1 : Nat) : Int) by omega), decide_eq_true (show ((jj - 1 : Nat) : Int) < (l.length : Int) by omega), ho.1]
      simp only [Bool.and_self, cond_true, Option.bind_some, List.length_set]
      by_cases c2 : oc (at' l jj) (at' l (jj - 1)) < 0
      · rw [decide_eq_true c2, decide_eq_true (show ((jj - 1 : Nat) : Int) < (l.length : Int) by omega)]
        simp only [cond_true]
        have hi' : jj < l.length := by omega
        have hj' : jj - 1 < l.length := by omega
        have sw : ∀ p, at' (swp l jj (jj - 1)) p = if jj - 1 = p then at' l jj else if jj = p then at' l (jj - 1) else at' l p := fun p => at_swp l jj (jj - 1) p hi' hj'
        refine ins_inner ho l0 a b i hl0 hi j (swp l jj (jj - 1)) (jj - 1) (by omega) (by omega) (by omega) ⟨by rw [swp_len]; exact hl, (swp_perm l jj (jj - 1) hi' hj').trans hs.2.1, fun p hpp => ?_⟩ ?_ ?_
        · rw [sw p, if_neg (by omega), if_neg (by omega)]
          exact hs.2.2 p hpp
        · intro p q a1 a2 a3 a4 a5
          rw [sw p, sw q, if_neg (show ¬ jj - 1 = q by omega), if_neg (show ¬ jj - 1 = p by omega)]
          by_cases e : jj = q
          · subst e
            rw [if_pos rfl, if_neg (show ¬ jj = p by omega)]
            exact hp p (jj - 1) a1 (by omega) (by omega) (by omega) (by omega)
          · rw [if_neg e]
            by_cases e2 : jj = p
            · subst e2
              rw [if_pos rfl]
              exact hp (jj - 1) q (by omega) (by omega) a3 (by omega) (by omega)
            · rw [if_neg e2]
              exact hp p q a1 a2 a3 (Ne.symm e2) (Ne.symm e)
        · intro q a1 a2
          rw [sw q, sw (jj - 1), if_neg (show ¬ jj - 1 = q by omega), if_pos (show jj - 1 = jj - 1 from rfl)]
          by_cases e : jj = q
          · subst e
            rw [if_pos rfl]
            exact ho.2.2 _ _ c2
          · rw [if_neg e]
            exact hq q (by omega) a2
      · rw [decide_eq_false c2]
        refine ⟨l, rfl, hs, fun p q a1 a2 a3 => ?_⟩
        by_cases e : q = jj
        · subst e
          by_cases e2 : p = q - 1
          · subst e2; exact c2
          · exact ho.2.1 _ _ _ (hp p (q - 1) a1 (by omega) (by omega) (by omega) (by omega)) c2
        · by_cases e2 : p = jj
          · subst e2; exact hq q a2 (by omega)
          · exact hp p q a1 a2 (by omega) e2 e
    · rw [decide_eq_false (show ¬ (jj : Int) > (a : Int) by omega)]
      refine ⟨l, rfl, hs, fun p q a1 a2 a3 => ?_⟩
      by_cases e2 : p = jj
      · subst e2; exact hq q a2 (by omega)
      · exact hp p q a1 a2 (by omega) e2 (by omega)

theorem Same.refl (l : List RW) (a b : Nat) : Same l l a b := ⟨rfl, .refl _, fun _ _ => rfl⟩
theorem Same.trans {l l' l'' : List RW} {a b : Nat} (h : Same l l' a b) (h' : Same l' l'' a b) : Same l l'' a b :=
  ⟨h'.1.trans h.1, h'.2.1.trans h.2.1, fun p hp => (h'.2.2 p hp).trans (h.2.2 p hp)⟩
theorem Same.mono {l l' : List RW} {a b a' b' : Nat} (h : Same l l' a b) (ha : a' ≤ a) (hb : b ≤ b') : Same l l' a' b' :=
  ⟨h.1, h.2.1, fun p hp => h.2.2 p (by omega)⟩
theorem ins_outer (ho : Ord) (l0 : List RW) (a b : Nat) (hl0 : l0.length ≤ 32) (hb : b ≤ l0.length) : ∀ (j : Nat) (l : List RW) (i : Nat), a < i → (0 < j ∧ b < i + j) → i ≤ 33 → Same l0 l a b → Srt l a (min i b) →
    ∃ l', l76_1 100 j l a b () i = some (l', ()) ∧ Same l0 l' a b ∧ Srt l' a b
  | 0, l, i, h1, h2, _, _, _ => by omega
  | j + 1, l, i, h1, h2, h3, hs, hsrt => by
    rw [l76_1]
    by_cases c1 : i < b
    · have hl : l.length = l0.length := hs.1
      obtain ⟨l', e1, e2, e3⟩ := ins_inner ho l a b i (by omega) (by omega) 100 l i (by omega) (Nat.le_refl _) (by omega) (Same.refl _ _ _)
        (fun p q a1 a2 a3 a4 a5 => hsrt p q a1 a2 (by omega)) (fun q a1 a2 => by omega)
      rw [decide_eq_true (show (i : Int) < (b : Int) by omega), e1]
      simp only [cond_true, Option.bind_some]
      rw [ws (n := (i : Int) + 1) (by omega), show ((i : Int) + 1) = ((i + 1 : Nat) : Int) by omega]
      exact ins_outer ho l0 a b hl0 hb j l' (i + 1) (by omega) ⟨by omega, by omega⟩ (by omega) (hs.trans (e2.mono (Nat.le_refl _) (by omega))) (fun p q a1 a2 a3 => e3 p q a1 a2 (by omega))
    · rw [decide_eq_false (show ¬ (i : Int) < (b : Int) by omega)]
      exact ⟨l, rfl, hs, fun p q a1 a2 a3 => hsrt p q a1 a2 (by omega)⟩
/-- Insertion sort of a piece of at most 32 rows. -/
theorem insertion (ho : Ord) (l : List RW) (a b : Nat) (hl : l.length ≤ 32) (hb : b ≤ l.length) (hab : a ≤ b) : ∃ l', f76 100 l a b = some (l', ()) ∧ Same l l' a b ∧ Srt l' a b := by
  unfold f76
  obtain ⟨l', e1, e2, e3⟩ := ins_outer ho l a b hl hb 100 l (a + 1) (by omega) ⟨by omega, by omega⟩ (by omega) (Same.refl _ _ _) (fun p q a1 a2 a3 => by omega)
  rw [ws (n := (a : Int) + 1) (by omega), show ((a : Int) + 1) = ((a + 1 : Nat) : Int) by omega, e1]
  exact ⟨l', rfl, e2, e3⟩

/-! ### The order -/
theorem cmp_eq (x y : Int) : f70 100 x y = some (if x < y then -1 else if x > y then 1 else 0, ()) := by
  unfold f70 f78
  by_cases h1 : x < y
  · simp [h1]
  · by_cases h2 : x > y
    · simp [h1, h2, show x ≠ y by omega]
    · have : x = y := by omega
      subst this; simp
/-- The lesser one of two keys, place by place. -/
def Less (a b : RW) : Prop := b.2.1 < a.2.1 ∨ (b.2.1 = a.2.1 ∧ (b.2.2.1.1 < a.2.2.1.1 ∨ (b.2.2.1.1 = a.2.2.1.1 ∧ (b.2.2.1.2.1 < a.2.2.1.2.1 ∨ (b.2.2.1.2.1 = a.2.2.1.2.1 ∧ (b.2.2.1.2.2.1 < a.2.2.1.2.2.1 ∨ (b.2.2.1.2.2.1 = a.2.2.1.2.2.1 ∧ b.2.2.1.2.2.2.1 < a.2.2.1.2.2.2.1)))))))
theorem f59_eq (a b : RW) : ∃ c, f59 100 a b = some (c, ()) ∧ (c < 0 ↔ Less a b) := by
  unfold f59 Less
  simp only [cmp_eq, Option.bind_some]
  by_cases h1 : b.2.1 < a.2.1
  · exact ⟨-1, by simp [h1], by omega⟩
  by_cases h2 : b.2.1 > a.2.1
  · exact ⟨1, by simp [h1, h2], by omega⟩
  simp only [if_neg h1, if_neg h2, show ((0 : Int) != 0) = false from rfl, cond_false]
  by_cases h3 : b.2.2.1.1 < a.2.2.1.1
  · exact ⟨-1, by simp [h3], by omega⟩
  by_cases h4 : b.2.2.1.1 > a.2.2.1.1
  · exact ⟨1, by simp [h3, h4], by omega⟩
  simp only [if_neg h3, if_neg h4, show ((0 : Int) != 0) = false from rfl, cond_false]
  by_cases h5 : b.2.2.1.2.1 < a.2.2.1.2.1
  · exact ⟨-1, by simp [h5], by omega⟩
  by_cases h6 : b.2.2.1.2.1 > a.2.2.1.2.1
  · exact ⟨1, by simp [h5, h6], by omega⟩
  simp only [if_neg h5, if_neg h6, show ((0 : Int) != 0) = false from rfl, cond_false]
  by_cases h7 : b.2.2.1.2.2.1 < a.2.2.1.2.2.1
  · exact ⟨-1, by simp [h7], by omega⟩
  by_cases h8 : b.2.2.1.2.2.1 > a.2.2.1.2.2.1
  · exact ⟨1, by simp [h7, h8], by omega⟩
  simp only [if_neg h7, if_neg h8, show ((0 : Int) != 0) = false from rfl, cond_false]
  by_cases h9 : b.2.2.1.2.2.2.1 < a.2.2.1.2.2.2.1
  · exact ⟨-1, by simp [h9], by omega⟩
  by_cases h10 : b.2.2.1.2.2.2.1 > a.2.2.1.2.2.2.1
  · exact ⟨1, by simp [h9, h10], by omega⟩
  exact ⟨0, by simp [h9, h10], by omega⟩
theorem oc_eq (a b : RW) : f59 100 a b = some (oc a b, ()) ∧ (oc a b < 0 ↔ Less a b) := by
  obtain ⟨c, h1, h2⟩ := f59_eq a b
  have : oc a b = c := by unfold oc; rw [h1]; rfl
  rw [this]; exact ⟨h1, h2⟩
theorem ord : Ord := by
  refine ⟨fun a b => (oc_eq a b).1, fun a b c h1 h2 => ?_, fun a b h => ?_⟩
  · rw [(oc_eq _ _).2] at *
    unfold Less at *
    omega
  · rw [(oc_eq _ _).2] at *
    unfold Less at *
    omega
end Go.Proofs.Ytfalgaldkadgoaa.G
