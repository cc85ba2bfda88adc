/- The stable sort's parts: symMerge. -/
import Derived.Test.YtfalgaldkadgoaaPSort3
namespace Go.Proofs.Ytfalgaldkadgoaa.G
open Go.VM Go.Proofs

def L (x y : RW) : Prop := ¬ oc y x < 0
theorem L.trans (ho : Ord) {x y z : RW} (h : L x y) (h' : L y z) : L x z := ho.2.1 _ _ _ h h'
theorem L.lt (ho : Ord) {x y : RW} (h : oc x y < 0) : L x y := ho.2.2 _ _ h
theorem L.rfl' (ho : Ord) (x : RW) : L x x := fun h => ho.2.2 _ _ h h
theorem Srt.le (ho : Ord) {l : List RW} {a b p q : Nat} (h : Srt l a b) (h1 : a ≤ p) (h2 : p ≤ q) (h3 : q < b) : L (at' l p) (at' l q) := by
  by_cases e : p = q
  · subst e; exact L.rfl' ho _
  · exact h p q h1 (by omega) h3
theorem Rot.none {l : List RW} {s i j : Nat} (h : i = 0 ∨ j = 0) : Rot l l s i j := fun p => by
  rcases h with h | h
  · subst h
    by_cases p1 : s ≤ p ∧ p < s + j
    · rw [if_pos p1]; rfl
    · rw [if_neg p1, if_neg (by omega)]
  · subst h
    rw [if_neg (by omega)]
    by_cases p1 : s + 0 ≤ p ∧ p < s + i + 0
    · rw [if_pos p1]; rfl
    · rw [if_neg p1]

abbrev Rec := List RW → Int → Int → Int → Option (List RW × Unit)
theorem find1 (ho : Ord) (rec : Rec) (l : List RW) (a m b : Nat) (hl : l.length ≤ 32) (ha : a < l.length) (hb : b ≤ l.length) (hs : Srt l m b) : ∀ (f i j : Nat), m ≤ i → i ≤ j → j ≤ b → j - i < f →
    (∀ q, m ≤ q → q < i → oc (at' l q) (at' l a) < 0) → (∀ q, j ≤ q → q < b → L (at' l a) (at' l q)) →
    ∃ i' : Nat, l77_3 100 rec f l a () i j = some (l, (a : Int), (i' : Int), ()) ∧ m ≤ i' ∧ i' ≤ b ∧ (∀ q, m ≤ q → q < i' → oc (at' l q) (at' l a) < 0) ∧ (∀ q, i' ≤ q → q < b → L (at' l a) (at' l q))
  | 0, i, j, h1, h2, h3, h4, _, _ => by omega
  | f + 1, i, j, h1, h2, h3, h4, h5, h6 => by
    rw [l77_3]
    by_cases c : i < j
    · rw [bt1 (show (i : Int) < (j : Int) by omega), mid_eq i j (by omega), bt2 (by omega), bt2 (by omega), ho.1]
      simp only [Option.bind_some]
      by_cases d : oc (at' l ((i + j) / 2)) (at' l a) < 0
      · rw [bt1 d, show w64 (((((i + j) / 2 : Nat)) : Int) + 1) = (((i + j) / 2 + 1 : Nat) : Int) by rw [ws (by omega)]; omega]
        refine find1 ho rec l a m b hl ha hb hs f ((i + j) / 2 + 1) j (by omega) (by omega) h3 (by omega) (fun q a1 a2 => ?_) h6
        refine Classical.byContradiction fun e => ?_
        exact L.trans ho e (Srt.le ho hs a1 (show q ≤ (i + j) / 2 by omega) (by omega)) d
      · rw [bf1 d]
        exact find1 ho rec l a m b hl ha hb hs f i ((i + j) / 2) h1 (by omega) (by omega) (by omega) h5 (fun q a1 a2 => L.trans ho d (Srt.le ho hs (by omega) a1 a2))
    · rw [bf1 (show ¬ (i : Int) < (j : Int) by omega)]
      exact ⟨i, rfl, h1, by omega, h5, fun q a1 a2 => h6 q (by omega) a2⟩
theorem move1 (rec : Rec) (i : Nat) : ∀ (f k : Nat) (l : List RW), l.length ≤ 32 → k < i → i ≤ l.length → i - k < f + 1 → 0 < f →
    ∃ l', l77_9 100 rec f l i k = some (l', ()) ∧ l'.length = l.length ∧ l'.Perm l ∧ Rot l l' k 1 (i - 1 - k)
  | 0, k, l, h1, h2, h3, h4, h5 => by omega
  | f + 1, k, l, h1, h2, h3, h4, _ => by
    rw [l77_9, show w64 ((i : Int) - 1) = ((i - 1 : Nat) : Int) by rw [ws (by omega)]; omega]
    by_cases c : k < i - 1
    · rw [bt1 (show (k : Int) < ((i - 1 : Nat) : Int) by omega)]
      rw [show w64 ((k : Int) + 1) = ((k + 1 : Nat) : Int) by rw [ws (by omega)]; omega]
      simp only [Int.toNat_natCast, List.length_set]
      rw [bt2 (by omega), bt2 (by omega), bt2 (by omega), bt2 (by omega)]
      obtain ⟨l', e1, e2, e3, e4⟩ := move1 rec i f (k + 1) (swp l k (k + 1)) (by rw [swp_len]; omega) (by omega) (by rw [swp_len]; omega) (by omega) (by omega)
      rw [swp_len] at e2
      refine ⟨l', e1, e2, e3.trans (swp_perm l _ _ (by omega) (by omega)), fun p => ?_⟩
      have sw := fun p => at_swp l k (k + 1) p (by omega) (by omega)
      rw [e4 p]
      by_cases p1 : k ≤ p ∧ p < k + (i - 1 - k)
      · rw [if_pos p1]
        by_cases p2 : p = k
        · subst p2
          rw [if_neg (by omega), if_neg (by omega), sw, if_neg (by omega), if_pos rfl]
        · rw [if_pos (by omega), sw, if_neg (by omega), if_neg (by omega)]
      · rw [if_neg p1]
        by_cases p2 : k + (i - 1 - k) ≤ p ∧ p < k + 1 + (i - 1 - k)
        · rw [if_pos p2, if_neg (by omega), if_pos (by omega), sw, if_pos (by omega)]
          congr 1; omega
        · rw [if_neg p2, if_neg (by omega), if_neg (by omega), sw, if_neg (by omega), if_neg (by omega)]
    · rw [bf1 (show ¬ (k : Int) < ((i - 1 : Nat) : Int) by omega)]
      exact ⟨l, rfl, rfl, .refl _, Rot.none (Or.inr (by omega))⟩
theorem find2 (ho : Ord) (rec : Rec) (l : List RW) (a m : Nat) (hl : l.length ≤ 32) (hm : m < l.length) (hs : Srt l a m) : ∀ (f i j : Nat), a ≤ i → i ≤ j → j ≤ m → j - i < f →
    (∀ q, a ≤ q → q < i → L (at' l q) (at' l m)) → (∀ q, j ≤ q → q < m → oc (at' l m) (at' l q) < 0) →
    ∃ i' : Nat, l77_15 100 rec f l m () i j = some (l, (m : Int), (i' : Int), ()) ∧ a ≤ i' ∧ i' ≤ m ∧ (∀ q, a ≤ q → q < i' → L (at' l q) (at' l m)) ∧ (∀ q, i' ≤ q → q < m → oc (at' l m) (at' l q) < 0)
  | 0, i, j, h1, h2, h3, h4, _, _ => by omega
  | f + 1, i, j, h1, h2, h3, h4, h5, h6 => by
    rw [l77_15]
    by_cases c : i < j
    · rw [bt1 (show (i : Int) < (j : Int) by omega), mid_eq i j (by omega), bt2 (by omega), bt2 (by omega), ho.1]
      simp only [Option.bind_some]
      by_cases d : oc (at' l m) (at' l ((i + j) / 2)) < 0
      · rw [decide_eq_true d]
        simp only [Bool.not_true, cond_false]
        refine find2 ho rec l a m hl hm hs f i ((i + j) / 2) h1 (by omega) (by omega) (by omega) h5 (fun q a1 a2 => ?_)
        refine Classical.byContradiction fun e => ?_
        exact L.trans ho (Srt.le ho hs (by omega) a1 a2) e d
      · rw [decide_eq_false d, show w64 (((((i + j) / 2 : Nat)) : Int) + 1) = (((i + j) / 2 + 1 : Nat) : Int) by rw [ws (by omega)]; omega]
        simp only [Bool.not_false, cond_true]
        exact find2 ho rec l a m hl hm hs f ((i + j) / 2 + 1) j (by omega) (by omega) h3 (by omega) (fun q a1 a2 => L.trans ho (Srt.le ho hs a1 (show q ≤ (i + j) / 2 by omega) (by omega)) d) h6
    · rw [bf1 (show ¬ (i : Int) < (j : Int) by omega)]
      exact ⟨i, rfl, h1, by omega, h5, fun q a1 a2 => h6 q (by omega) a2⟩
theorem move2 (rec : Rec) (i : Nat) : ∀ (f k : Nat) (l : List RW), l.length ≤ 32 → i ≤ k → k < l.length → k - i < f →
    ∃ l', l77_21 100 rec f l i k = some (l', ()) ∧ l'.length = l.length ∧ l'.Perm l ∧ Rot l l' i (k - i) 1
  | 0, k, l, h1, h2, h3, h4 => by omega
  | f + 1, k, l, h1, h2, h3, h4 => by
    rw [l77_21]
    by_cases c : i < k
    · rw [bt1 (show (k : Int) > (i : Int) by omega)]
      rw [show w64 ((k : Int) - 1) = ((k - 1 : Nat) : Int) by rw [ws (by omega)]; omega]
      simp only [Int.toNat_natCast, List.length_set]
      rw [bt2 (by omega), bt2 (by omega), bt2 (by omega), bt2 (by omega)]
      obtain ⟨l', e1, e2, e3, e4⟩ := move2 rec i f (k - 1) (swp l k (k - 1)) (by rw [swp_len]; omega) (by omega) (by rw [swp_len]; omega) (by omega)
      rw [swp_len] at e2
      refine ⟨l', e1, e2, e3.trans (swp_perm l _ _ (by omega) (by omega)), fun p => ?_⟩
      have sw := fun p => at_swp l k (k - 1) p (by omega) (by omega)
      rw [e4 p]
      by_cases p1 : i ≤ p ∧ p < i + 1
      · rw [if_pos p1, if_pos p1, sw, if_pos (by omega)]
        congr 1; omega
      · rw [if_neg p1, if_neg p1]
        by_cases p2 : i + 1 ≤ p ∧ p < i + (k - i) + 1
        · rw [if_pos p2]
          by_cases p3 : p = k
          · subst p3
            rw [if_neg (by omega), sw, if_neg (by omega), if_pos rfl]
          · rw [if_pos (by omega), sw, if_neg (by omega), if_neg (by omega)]
        · rw [if_neg p2, if_neg (by omega), sw, if_neg (by omega), if_neg (by omega)]
    · rw [bf1 (show ¬ (k : Int) > (i : Int) by omega)]
      exact ⟨l, rfl, rfl, .refl _, Rot.none (Or.inl (by omega))⟩
/-- The search for the place from which on the second piece's rows are the lesser ones. -/
theorem find3 (ho : Ord) (rec : Rec) (l : List RW) (a m b mid n p s0 r0 : Nat) (hl : l.length ≤ 32) (hb : b ≤ l.length) (hs : Srt l a m) (ht : Srt l m b)
    (hc : ∀ c, s0 ≤ c → c < r0 → a ≤ c ∧ c < m ∧ c ≤ p ∧ m ≤ p - c ∧ p - c < b) : ∀ (f i j : Nat), s0 ≤ i → i ≤ j → j ≤ r0 → j - i < f → j ≤ 40 →
    (∀ q, s0 ≤ q → q < i → L (at' l q) (at' l (p - q))) → (∀ q, j ≤ q → q < r0 → oc (at' l (p - q)) (at' l q) < 0) →
    ∃ i' : Nat, l77_33 100 rec f l a m b () mid n i j p = some (l, (a : Int), (m : Int), (b : Int), (), (mid : Int), (n : Int), (i' : Int), ()) ∧ s0 ≤ i' ∧ i' ≤ r0 ∧
      (∀ q, s0 ≤ q → q < i' → L (at' l q) (at' l (p - q))) ∧ (∀ q, i' ≤ q → q < r0 → oc (at' l (p - q)) (at' l q) < 0)
  | 0, i, j, h1, h2, h3, h4, _, _, _ => by omega
  | f + 1, i, j, h1, h2, h3, h4, h40, h5, h6 => by
    rw [l77_33]
    by_cases c : i < j
    · have k := hc ((i + j) / 2) (by omega) (by omega)
      rw [bt1 (show (i : Int) < (j : Int) by omega), mid_eq i j (by omega), show w64 ((p : Int) - (((i + j) / 2 : Nat) : Int)) = ((p - (i + j) / 2 : Nat) : Int) by rw [ws (by omega)]; omega, bt2 (by omega), bt2 (by omega), ho.1]
      simp only [Option.bind_some]
      by_cases d : oc (at' l (p - (i + j) / 2)) (at' l ((i + j) / 2)) < 0
      · rw [decide_eq_true d]
        simp only [Bool.not_true, cond_false]
        refine find3 ho rec l a m b mid n p s0 r0 hl hb hs ht hc f i ((i + j) / 2) h1 (by omega) (by omega) (by omega) (by omega) h5 (fun q a1 a2 => ?_)
        refine Classical.byContradiction fun e => ?_
        have kq := hc q (by omega) a2
        exact L.trans ho (L.trans ho (Srt.le ho hs (by omega) a1 (by omega)) e) (Srt.le ho ht kq.2.2.2.1 (show p - q ≤ p - (i + j) / 2 by omega) (by omega)) d
      · rw [decide_eq_false d, show w64 (((((i + j) / 2 : Nat)) : Int) + 1) = (((i + j) / 2 + 1 : Nat) : Int) by rw [ws (by omega)]; omega]
        simp only [Bool.not_false, cond_true]
        refine find3 ho rec l a m b mid n p s0 r0 hl hb hs ht hc f ((i + j) / 2 + 1) j (by omega) (by omega) h3 (by omega) h40 (fun q a1 a2 => ?_) h6
        have kq := hc q a1 (by omega)
        exact L.trans ho (L.trans ho (Srt.le ho hs kq.1 (show q ≤ (i + j) / 2 by omega) (by omega)) d) (Srt.le ho ht (by omega) (show p - (i + j) / 2 ≤ p - q by omega) (by omega))
    · rw [bf1 (show ¬ (i : Int) < (j : Int) by omega)]
      exact ⟨i, rfl, h1, by omega, h5, fun q a1 a2 => h6 q (by omega) a2⟩
end Go.Proofs.Ytfalgaldkadgoaa.G
