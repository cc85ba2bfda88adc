/- Swiss pairings: sums; what pairings cost; pairings, also of some players only. -/
import Derived.Test.YtpfakfiaaidimaaTSw1
namespace Go.Proofs.Ytpfakfiaaidimaa.G
open Go.VM Go.Proofs

/-! ### Sums -/
def S (f : Nat → Int) : Nat → Int
  | 0 => 0
  | n + 1 => S f n + f n
theorem S_congr {f g : Nat → Int} : ∀ {n : Nat}, (∀ i, i < n → f i = g i) → S f n = S g n
  | 0, _ => rfl
  | n + 1, h => by rw [S, S, S_congr (fun i hi => h i (by omega)), h n (by omega)]
theorem S_upd {f g : Nat → Int} {i : Nat} : ∀ {n : Nat}, i < n → (∀ j, j < n → j ≠ i → g j = f j) → S g n = S f n - f i + g i
  | 0, h, _ => by omega
  | n + 1, h, hg => by
    rw [S, S]
    by_cases e : i = n
    · subst e
      rw [S_congr (fun j hj => hg j (by omega) (by omega))]
      omega
    · rw [S_upd (i := i) (by omega) (fun j hj hji => hg j (by omega) hji), hg n (by omega) (by omega)]
      omega
theorem S_upd2 {f g : Nat → Int} {i i' n : Nat} (h1 : i < n) (h2 : i' < n) (hne : i ≠ i') (hg : ∀ j, j < n → j ≠ i → j ≠ i' → g j = f j) : S g n = S f n - f i - f i' + g i + g i' := by
  have e1 := S_upd (f := f) (g := fun j => if j = i then g i else f j) h1 (fun j _ hj => if_neg hj)
  have e2 := S_upd (f := fun j => if j = i then g i else f j) (g := g) h2 (fun j hj hj2 => by
    by_cases e : j = i
    · subst e; simp
    · simp only [if_neg e]; exact hg j hj e hj2)
  simp only [if_true, if_neg (fun h => hne h.symm : ¬ i' = i)] at e1 e2
  omega
theorem S_le {f g : Nat → Int} : ∀ {n : Nat}, (∀ i, i < n → f i ≤ g i) → S f n ≤ S g n
  | 0, _ => Int.le_refl _
  | n + 1, h => by
    have := S_le (fun i hi => h i (by omega) : ∀ i, i < n → f i ≤ g i)
    have := h n (by omega)
    rw [S, S]; omega
theorem S_zero : ∀ (n : Nat), S (fun _ => 0) n = 0
  | 0 => rfl
  | n + 1 => by rw [S, S_zero n]; rfl
theorem S_const (c : Int) : ∀ (n : Nat), S (fun _ => c) n = n * c
  | 0 => by simp [S]
  | n + 1 => by rw [S, S_const c n, Int.natCast_add, Int.add_mul]; simp
theorem S_bound {f : Nat → Int} {n : Nat} (B : Int) (h : ∀ i, i < n → 0 ≤ f i ∧ f i ≤ B) : 0 ≤ S f n ∧ S f n ≤ n * B := by
  have h1 := S_le (f := fun _ => 0) (g := f) (n := n) (fun i hi => (h i hi).1)
  have h2 := S_le (f := f) (g := fun _ => B) (n := n) (fun i hi => (h i hi).2)
  rw [S_zero] at h1
  rw [S_const] at h2
  exact ⟨h1, h2⟩

/-! ### Costs -/
noncomputable def sc (l : List PL) (i : Nat) : Int := (rd D0 l (i : Int)).1
noncomputable def co (l : List PL) (i : Nat) : Int := (rd D0 l (i : Int)).2.2.1
noncomputable def hb (l : List PL) (i : Nat) : Bool := (rd D0 l (i : Int)).2.2.2.1
noncomputable def cc (l : List PL) (i j : Nat) : Int := 100 * ((sc l i - sc l j) * (sc l i - sc l j)) + (co l i + co l j) * (co l i + co l j)
noncomputable def bb (l : List PL) (i : Nat) : Int := 100 * (sc l i * sc l i)
theorem sqb {d : Int} (h1 : -40 ≤ d) (h2 : d ≤ 40) : 0 ≤ d * d ∧ d * d ≤ 1600 := by
  have a : 0 ≤ d * d := by
    rcases Int.le_total 0 d with h | h
    · exact Int.mul_nonneg h h
    · exact Int.mul_nonneg_of_nonpos_of_nonpos h h
  have b : 0 ≤ (40 - d) * (40 + d) := Int.mul_nonneg (by omega) (by omega)
  have e : (40 - d) * (40 + d) = 1600 - d * d := by
    rw [Int.sub_mul, Int.mul_add, Int.mul_add, Int.mul_comm d 40]; omega
  omega
theorem cc_symm (l : List PL) (i j : Nat) : cc l i j = cc l j i := by
  unfold cc
  rw [show sc l i - sc l j = -(sc l j - sc l i) by omega, Int.neg_mul_neg, Int.add_comm (co l i) (co l j)]
section
variable {l : List PL}
theorem cc_bound (hl : SwOK l) {i j : Nat} (hi : i < l.length) (hj : j < l.length) : 0 ≤ cc l i j ∧ cc l i j ≤ 161600 := by
  obtain ⟨⟨a1, a2⟩, ⟨a3, a4⟩, _⟩ := hl.pl i hi
  obtain ⟨⟨b1, b2⟩, ⟨b3, b4⟩, _⟩ := hl.pl j hj
  have h1 := sqb (d := sc l i - sc l j) (by unfold sc; omega) (by unfold sc; omega)
  have h2 := sqb (d := co l i + co l j) (by unfold co; omega) (by unfold co; omega)
  unfold cc
  omega
theorem bb_bound (hl : SwOK l) {i : Nat} (hi : i < l.length) : 0 ≤ bb l i ∧ bb l i ≤ 160000 := by
  obtain ⟨⟨a1, a2⟩, _⟩ := hl.pl i hi
  have h1 := sqb (d := sc l i) (by unfold sc; omega) (by unfold sc; omega)
  unfold bb
  omega
theorem cost_eq (hl : SwOK l) {i j : Nat} (hi : i < l.length) (hj : j < l.length) : f17 9000 l i j = some (cc l i j, ()) := by
  obtain ⟨⟨a1, a2⟩, ⟨a3, a4⟩, _⟩ := hl.pl i hi
  obtain ⟨⟨b1, b2⟩, ⟨b3, b4⟩, _⟩ := hl.pl j hj
  unfold f17
  rw [bt2 ⟨by omega, by omega⟩, bt2 ⟨by omega, by omega⟩, bt2 ⟨by omega, by omega⟩, bt2 ⟨by omega, by omega⟩]
  have e1 : w64 ((rd D0 l (i : Int)).1 - (rd D0 l (j : Int)).1) = sc l i - sc l j := by unfold sc; rw [ws (by omega)]
  have e2 : w64 ((rd D0 l (i : Int)).2.2.1 + (rd D0 l (j : Int)).2.2.1) = co l i + co l j := by unfold co; rw [ws (by omega)]
  have g1 : -40 ≤ sc l i - sc l j ∧ sc l i - sc l j ≤ 40 := by unfold sc; omega
  have g2 : -40 ≤ co l i + co l j ∧ co l i + co l j ≤ 40 := by unfold co; omega
  have h1 := sqb g1.1 g1.2
  have h2 := sqb g2.1 g2.2
  have e3 : w64 (100 * (sc l i - sc l j)) = 100 * (sc l i - sc l j) := ws (by omega)
  have e4 : w64 ((100 * (sc l i - sc l j)) * (sc l i - sc l j)) = 100 * ((sc l i - sc l j) * (sc l i - sc l j)) := by rw [Int.mul_assoc]; exact ws (by omega)
  have e5 : w64 ((co l i + co l j) * (co l i + co l j)) = (co l i + co l j) * (co l i + co l j) := ws (by omega)
  rw [e1, e2, e3, e4, e5, ws (by omega)]
  rfl
theorem bye_eq (hl : SwOK l) {i : Nat} (hi : i < l.length) : f22 9000 l i = some (bb l i, ()) := by
  obtain ⟨⟨a1, a2⟩, _⟩ := hl.pl i hi
  unfold f22
  rw [bt2 ⟨by omega, by omega⟩, bt2 ⟨by omega, by omega⟩]
  have g1 : -40 ≤ sc l i ∧ sc l i ≤ 40 := by unfold sc; omega
  have h1 := sqb g1.1 g1.2
  have e3 : w64 (100 * (rd D0 l (i : Int)).1) = 100 * sc l i := by unfold sc; exact ws (by omega)
  have e4 : w64 ((100 * sc l i) * (rd D0 l (i : Int)).1) = bb l i := by
    unfold bb
    rw [show (rd D0 l (i : Int)).1 = sc l i from rfl, Int.mul_assoc]; exact ws (by omega)
  rw [e3, e4]
end

/-! ### Pairings -/
noncomputable def gv (v : List Int) (i : Nat) : Int := rd (0 : Int) v (i : Int)
theorem gv_set (v : List Int) (i : Nat) (x : Int) (h : i < v.length) (a : Nat) : gv (v.set i x) a = if a = i then x else gv v a := by
  unfold gv rd
  simp only [Int.toNat_natCast, List.getD_eq_getElem?_getD]
  by_cases e : a = i
  · subst e; rw [if_pos rfl]; simp [h]
  · rw [if_neg e, List.getElem?_set_ne (fun h => e h.symm)]
/-- A pairing, perhaps of some players only (-2: nobody yet). -/
structure PW (l : List PL) (v : List Int) : Prop where
  len : v.length = l.length
  ok : ∀ i, i < l.length → gv v i = -2 ∨ (gv v i = -1 ∧ hb l i = false ∧ l.length % 2 = 1) ∨ ∃ j, j < l.length ∧ gv v i = (j : Int) ∧ j ≠ i ∧ gv v j = (i : Int) ∧ ¬ met l i j
  one : ∀ i j, i < l.length → j < l.length → gv v i = -1 → gv v j = -1 → i = j
def Full (l : List PL) (v : List Int) : Prop := PW l v ∧ ∀ i, i < l.length → gv v i ≠ -2
def Ex (l : List PL) (p v : List Int) : Prop := ∀ i, i < l.length → gv p i ≠ -2 → gv v i = gv p i
/-- Twice what a player adds to the cost. -/
noncomputable def term (l : List PL) (v : List Int) (i : Nat) : Int := if gv v i = -1 then 2 * bb l i else if 0 ≤ gv v i then cc l i (gv v i).toNat else 0
noncomputable def cst (l : List PL) (v : List Int) : Int := S (term l v) l.length
noncomputable def cn (l : List PL) (v : List Int) (x : Int) : Int := S (fun i => if gv v i = x then 1 else 0) l.length
section
variable {l : List PL}
theorem term_bound (hl : SwOK l) {v : List Int} (h : PW l v) {i : Nat} (hi : i < l.length) : 0 ≤ term l v i ∧ term l v i ≤ 320000 := by
  unfold term
  rcases h.ok i hi with e | ⟨e, _⟩ | ⟨j, hj, e, _⟩
  · rw [e]; simp
  · rw [if_pos e]; have := bb_bound hl hi; omega
  · rw [if_neg (by omega), if_pos (by omega), e, Int.toNat_natCast]; have := cc_bound hl hi hj; omega
theorem cst_bound (hl : SwOK l) {v : List Int} (h : PW l v) : 0 ≤ cst l v ∧ cst l v ≤ 2560000 := by
  have := S_bound (f := term l v) (n := l.length) 320000 (fun i hi => term_bound hl h hi)
  have hn := hl.n8
  unfold cst
  omega
theorem cst_ext (hl : SwOK l) {p v : List Int} (hp : PW l p) (hv : PW l v) (he : Ex l p v) : cst l p ≤ cst l v := by
  refine S_le (fun i hi => ?_)
  by_cases e : gv p i = -2
  · have := (term_bound hl hv hi).1
    unfold term at this ⊢
    rw [e]; simpa using this
  · unfold term
    rw [he i hi e]
    exact Int.le_refl _
theorem cst_same {p v : List Int} (he : ∀ i, i < l.length → gv v i = gv p i) : cst l p = cst l v :=
  S_congr (fun i hi => by unfold term; rw [he i hi])
/-- Two players are paired. -/
theorem pair_gv {v : List Int} (hv : v.length = l.length) {i j : Nat} (hi : i < l.length) (hj : j < l.length) (a : Nat) : gv ((v.set i j).set j i) a = if a = j then (i : Int) else if a = i then (j : Int) else gv v a := by
  rw [gv_set _ _ _ (by simp; omega), gv_set _ _ _ (by omega)]
theorem pair_ok (hl : SwOK l) {v : List Int} (h : PW l v) {i j : Nat} (hi : i < l.length) (hj : j < l.length) (hij : i ≠ j) (h1 : gv v i = -2) (h2 : gv v j = -2) (hm : ¬ met l i j) : PW l ((v.set i j).set j i) := by
  have g := pair_gv h.len hi hj
  refine ⟨by simp [h.len], fun a ha => ?_, fun a b ha hb e1 e2 => ?_⟩
  · by_cases e1 : a = j
    · subst e1
      exact .inr (.inr ⟨i, hi, by rw [g, if_pos rfl], hij, by rw [g, if_neg hij, if_pos rfl], fun hh => hm ((hl.met hi hj).2 hh)⟩)
    by_cases e2 : a = i
    · subst e2
      exact .inr (.inr ⟨j, hj, by rw [g, if_neg e1, if_pos rfl], fun h => hij h.symm, by rw [g, if_pos rfl], hm⟩)
    · rw [g a, if_neg e1, if_neg e2]
      rcases h.ok a ha with e | e | ⟨b, hb, e3, e4, e5, e6⟩
      · exact .inl e
      · exact .inr (.inl e)
      · refine .inr (.inr ⟨b, hb, e3, e4, ?_, e6⟩)
        rw [g, if_neg (fun h => by subst h; rw [h2] at e5; omega), if_neg (fun h => by subst h; rw [h1] at e5; omega)]
        exact e5
  · rw [g] at e1 e2
    have f : ∀ a : Nat, (if a = j then (i : Int) else if a = i then (j : Int) else gv v a) = -1 → gv v a = -1 := by
      intro a e
      split at e
      · omega
      · split at e
        · omega
        · exact e
    exact h.one a b ha hb (f a e1) (f b e2)
theorem pair_cst {v : List Int} (hv : v.length = l.length) {i j : Nat} (hi : i < l.length) (hj : j < l.length) (hij : i ≠ j) (h1 : gv v i = -2) (h2 : gv v j = -2) : cst l ((v.set i j).set j i) = cst l v + 2 * cc l i j := by
  have g := pair_gv hv hi hj
  unfold cst
  rw [S_upd2 (f := term l v) hi hj hij (fun a _ e1 e2 => by unfold term; rw [g, if_neg e2, if_neg e1])]
  have t1 : term l v i = 0 := by unfold term; rw [h1]; rfl
  have t2 : term l v j = 0 := by unfold term; rw [h2]; rfl
  have t3 : term l ((v.set i j).set j i) i = cc l i j := by unfold term; rw [g, if_neg hij, if_pos rfl, if_neg (by omega), if_pos (by omega), Int.toNat_natCast]
  have t4 : term l ((v.set i j).set j i) j = cc l j i := by unfold term; rw [g, if_pos rfl, if_neg (by omega), if_pos (by omega), Int.toNat_natCast]
  rw [t1, t2, t3, t4, cc_symm l j i]
  omega
theorem pair_cn {v : List Int} (hv : v.length = l.length) {i j : Nat} (hi : i < l.length) (hj : j < l.length) (hij : i ≠ j) (h1 : gv v i = -2) (h2 : gv v j = -2) : cn l ((v.set i j).set j i) (-2) = cn l v (-2) - 2 ∧ cn l ((v.set i j).set j i) (-1) = cn l v (-1) := by
  have g := pair_gv hv hi hj
  unfold cn
  have key : ∀ x : Int, S (fun a => if gv ((v.set i j).set j i) a = x then 1 else 0) l.length = S (fun a => if gv v a = x then 1 else 0) l.length - (if gv v i = x then 1 else 0) - (if gv v j = x then 1 else 0) + (if (j : Int) = x then 1 else 0) + (if (i : Int) = x then 1 else 0) := by
    intro x
    rw [S_upd2 (f := fun a => if gv v a = x then 1 else 0) hi hj hij (fun a _ e1 e2 => by rw [g, if_neg e2, if_neg e1])]
    rw [g i, g j, if_neg hij, if_pos rfl, if_pos rfl]
  rw [key, key, h1, h2]
  simp only [if_true, show ¬ ((-2 : Int) = -1) by omega, show ¬ ((j : Int) = -2) by omega, show ¬ ((i : Int) = -2) by omega, show ¬ ((j : Int) = -1) by omega, show ¬ ((i : Int) = -1) by omega, if_false]
  omega
/-- A player has the bye. -/
theorem bye_ok {v : List Int} (h : PW l v) {i : Nat} (hi : i < l.length) (h1 : gv v i = -2) (h2 : ∀ a, a < l.length → gv v a ≠ -1) (h3 : hb l i = false) (h4 : l.length % 2 = 1) : PW l (v.set i (-1)) := by
  have g := gv_set v i (-1) (by rw [h.len]; exact hi)
  refine ⟨by simp [h.len], fun a ha => ?_, fun a b ha hb e1 e2 => ?_⟩
  · rw [g]
    by_cases e : a = i
    · subst e; rw [if_pos rfl]; exact .inr (.inl ⟨rfl, h3, h4⟩)
    · rw [if_neg e]
      rcases h.ok a ha with e | e | ⟨b, hb, e3, e4, e5, e6⟩
      · exact .inl e
      · exact .inr (.inl e)
      · refine .inr (.inr ⟨b, hb, e3, e4, ?_, e6⟩)
        rw [g, if_neg (fun h => by subst h; rw [h1] at e5; omega)]
        exact e5
  · rw [g] at e1 e2
    have f : ∀ a : Nat, a < l.length → (if a = i then (-1 : Int) else gv v a) = -1 → a = i := by
      intro a ha e
      split at e
      · assumption
      · exact absurd e (h2 a ha)
    rw [f a ha e1, f b hb e2]
theorem bye_cst {v : List Int} (hv : v.length = l.length) {i : Nat} (hi : i < l.length) (h1 : gv v i = -2) : cst l (v.set i (-1)) = cst l v + 2 * bb l i := by
  have g := gv_set v i (-1) (by rw [hv]; exact hi)
  unfold cst
  rw [S_upd (f := term l v) hi (fun a _ e => by unfold term; rw [g, if_neg e])]
  have t1 : term l v i = 0 := by unfold term; rw [h1]; rfl
  have t3 : term l (v.set i (-1)) i = 2 * bb l i := by unfold term; rw [g, if_pos rfl, if_pos rfl]
  rw [t1, t3]
  omega
theorem bye_cn {v : List Int} (hv : v.length = l.length) {i : Nat} (hi : i < l.length) (h1 : gv v i = -2) : cn l (v.set i (-1)) (-2) = cn l v (-2) - 1 ∧ cn l (v.set i (-1)) (-1) = cn l v (-1) + 1 := by
  have g := gv_set v i (-1) (by rw [hv]; exact hi)
  unfold cn
  have key : ∀ x : Int, S (fun a => if gv (v.set i (-1)) a = x then 1 else 0) l.length = S (fun a => if gv v a = x then 1 else 0) l.length - (if gv v i = x then 1 else 0) + (if (-1 : Int) = x then 1 else 0) := by
    intro x
    rw [S_upd (f := fun a => if gv v a = x then 1 else 0) hi (fun a _ e => by rw [g, if_neg e])]
    rw [g i, if_pos rfl]
  rw [key, key, h1]
  simp only [if_true, show ¬ ((-2 : Int) = -1) by omega, show ¬ ((-1 : Int) = -2) by omega, if_false]
  omega
end
end Go.Proofs.Ytpfakfiaaidimaa.G
