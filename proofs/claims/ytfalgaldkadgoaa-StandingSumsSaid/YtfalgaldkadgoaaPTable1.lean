/- Tables: the points are two for each game; the rest answers. -/
import Derived.Test.YtfalgaldkadgoaaPSort5
namespace Go.Proofs.Ytfalgaldkadgoaa.G
open Go.VM Go.Proofs

def Ans (R : Prop) (v : Option (Int × Unit)) : Prop := ∃ e, v = some (e, ()) ∧ (e = 0 → R)
theorem Ans.bif {R : Prop} {b : Bool} {x y : Option (Int × Unit)} (h1 : b = true → Ans R x) (h2 : b = false → Ans R y) : Ans R (bif b then x else y) := by
  cases b
  · exact h2 rfl
  · exact h1 rfl
theorem Ans.bad {R : Prop} {e : Int} (h : e ≠ 0) : Ans R (some (e, ())) := ⟨e, rfl, fun h' => absurd h' h⟩
theorem Ans.good {R : Prop} (h : R) : Ans R (some (0, ())) := ⟨0, rfl, fun _ => h⟩
def Lp {α : Type} (x : α) (R : Prop) (v : Option (α ⊕ (Int × Unit))) : Prop := (v = some (.inl x) ∧ R) ∨ ∃ e, v = some (.inr (e, ())) ∧ e ≠ 0
theorem Lp.bif {α : Type} {z : α} {R : Prop} {b : Bool} {x y : Option (α ⊕ (Int × Unit))} (h1 : b = true → Lp z R x) (h2 : b = false → Lp z R y) : Lp z R (bif b then x else y) := by
  cases b
  · exact h2 rfl
  · exact h1 rfl
theorem Lp.bad {α : Type} {z : α} {R : Prop} {e : Int} (h : e ≠ 0) : Lp z R (some (.inr (e, ()))) := .inr ⟨e, rfl, h⟩
theorem Lp.mono {α : Type} {z : α} {R R' : Prop} {v : Option (α ⊕ (Int × Unit))} (h : Lp z R v) (f : R → R') : Lp z R' v := h.imp (fun h => ⟨h.1, f h.2⟩) id
theorem Ans.loop {α : Type} {z : α} {R S : Prop} {v : Option (α ⊕ (Int × Unit))} {g : α → Option (Int × Unit)} (h : Lp z R v) (hg : R → Ans S (g z)) : Ans S (v.bind fun w => Sum.elim g (fun y => some y) w) := by
  rcases h with ⟨e, hr⟩ | ⟨e, h1, h2⟩
  · rw [e]; exact hg hr
  · rw [h1]; exact Ans.bad h2
theorem dF {p : Prop} [Decidable p] (h : decide p = false) : ¬ p := of_decide_eq_false h
theorem all_step {P : Nat → Prop} {i n : Nat} (h : P i) (h2 : ∀ m, i + 1 ≤ m → m < n → P m) : ∀ m, i ≤ m → m < n → P m := fun m hm hm' => by
  by_cases e : m = i
  · subst e; exact h
  · exact h2 m (by omega) hm'

abbrev GM := Int × Int × Int × Unit
abbrev M0 : GM := (0, 0, 0, ())
/-- A game between two players of n. -/
def GOK (n : Int) (g : GM) : Prop := 0 ≤ g.1 ∧ g.1 < n ∧ 0 ≤ g.2.1 ∧ g.2.1 < n ∧ g.1 ≠ g.2.1 ∧ 0 ≤ g.2.2.1 ∧ g.2.2.1 ≤ 2
theorem check_l (n : Int) (l : List GM) : ∀ (j i : Nat), i ≤ l.length → l.length < i + j → l.length ≤ 1000 →
    Lp () (∀ m : Nat, i ≤ m → m < l.length → GOK n (rd M0 l m)) (l67_4 100 j n l l.length i)
  | 0, i, h, h', _ => by omega
  | j + 1, i, h, h', hs => by
    rw [l67_4]
    by_cases hi : i < l.length
    · rw [bt1 (show (i : Int) < l.length by omega), bt2 (show (0 : Int) ≤ i ∧ (i : Int) < l.length by omega), ws (n := (i : Int) + 1) (by omega)]
      refine Lp.bif (fun _ => Lp.bad (by decide)) fun h1 => Lp.bif (fun _ => Lp.bad (by decide)) fun h2 => Lp.bif (fun _ => Lp.bad (by decide)) fun h3 => Lp.bif (fun _ => Lp.bad (by decide)) fun h4 => Lp.bif (fun _ => Lp.bad (by decide)) fun h5 => ?_
      have h1 : ¬ ((if (rd M0 l (i : Int)).2.1 < (rd M0 l (i : Int)).1 then (rd M0 l (i : Int)).2.1 else (rd M0 l (i : Int)).1) < 0) := dF h1
      have h2 : ¬ ((if (rd M0 l (i : Int)).2.1 > (rd M0 l (i : Int)).1 then (rd M0 l (i : Int)).2.1 else (rd M0 l (i : Int)).1) ≥ n) := dF h2
      have h3 : (rd M0 l (i : Int)).1 ≠ (rd M0 l (i : Int)).2.1 := beq_eq_false_iff_ne.1 h3
      have h4 : ¬ ((rd M0 l (i : Int)).2.2.1 < 0) := dF h4
      have h5 : ¬ ((rd M0 l (i : Int)).2.2.1 > 2) := dF h5
      refine (check_l n l j (i + 1) (by omega) (by omega) hs).mono (all_step ?_)
      refine ⟨?_, ?_, ?_, ?_, h3, by omega, by omega⟩ <;> (split at h1 <;> split at h2 <;> omega)
    · rw [bf1 (show ¬ (i : Int) < l.length by omega)]
      exact .inl ⟨rfl, fun m h1 h2 => by omega⟩
/-- Games of a tournament. -/
def TOK (n : Int) (l : List GM) : Prop := 1 ≤ n ∧ n ≤ 32 ∧ ∀ m : Nat, m < l.length → GOK n (rd M0 l m)
theorem check_tot (n : Int) (l : List GM) (hl : l.length ≤ 60) : Ans (TOK n l) (f67 100 n l) := by
  unfold f67
  refine Ans.bif (fun _ => Ans.bad (by decide)) fun h1 => Ans.bif (fun _ => Ans.bad (by decide)) fun h2 => Ans.bif (fun _ => Ans.bad (by decide)) fun h3 => ?_
  have h1 := dF h1
  have h2 := dF h2
  exact Ans.loop (check_l n l 100 0 (by omega) (by omega) (by omega)) fun h => Ans.good ⟨by omega, by omega, fun m hm => h m (by omega) hm⟩

theorem sum_set : ∀ (l : List Int) (i : Nat) (v : Int), i < l.length → (l.set i v).sum = l.sum - l.getD i 0 + v
  | [], i, v, h => by simp at h
  | x :: l, 0, v, h => by simp; omega
  | x :: l, i + 1, v, h => by
    simp only [List.set_cons_succ, List.sum_cons, List.getD_cons_succ]
    rw [sum_set l i v (by simpa using h)]; omega
theorem le_sum : ∀ (l : List Int), (∀ i : Nat, i < l.length → 0 ≤ l.getD i 0) → 0 ≤ l.sum ∧ ∀ i : Nat, i < l.length → l.getD i 0 ≤ l.sum
  | [], _ => ⟨by simp, fun i h => by simp at h⟩
  | x :: l, h => by
    have ⟨a, b⟩ := le_sum l fun i hi => by simpa using h (i + 1) (by simpa using hi)
    have hx : 0 ≤ x := by simpa using h 0 (by simp)
    refine ⟨by simp; omega, fun i hi => ?_⟩
    cases i with
    | zero => simp; omega
    | succ i => have := b i (by simpa using hi); simp only [List.getD_cons_succ, List.sum_cons]; omega
theorem getD_set (l : List Int) (i j : Nat) (v : Int) (h : i < l.length) : (l.set i v).getD j 0 = if i = j then v else l.getD j 0 := by
  simp only [List.getD_eq_getElem?_getD, List.getElem?_set]
  by_cases e : i = j
  · subst e; simp [h]
  · simp [e]
theorem points_l (n : Nat) (l : List GM) (hl : l.length ≤ 60) (hg : ∀ m : Nat, m < l.length → GOK n (rd M0 l m)) : ∀ (j i : Nat) (s : List Int), i ≤ l.length → l.length < i + j → s.length = n →
    (∀ p : Nat, p < s.length → 0 ≤ s.getD p 0) → s.sum = 2 * i → ∃ s', l56_6 100 j s l l.length i = some (s', ()) ∧ s'.length = n ∧ s'.sum = 2 * l.length
  | 0, i, s, h, h', _, _, _ => by omega
  | j + 1, i, s, h, h', hn, hp, hs => by
    rw [l56_6]
    by_cases hi : i < l.length
    · obtain ⟨g1, g2, g3, g4, g5, g6, g7⟩ := hg i hi
      rw [bt1 (show (i : Int) < l.length by omega), bt2 (show (0 : Int) ≤ i ∧ (i : Int) < l.length by omega), ws (n := (i : Int) + 1) (by omega)]
      generalize hF : (rd M0 l (i : Int)).1 = F at *
      generalize hS : (rd M0 l (i : Int)).2.1 = S at *
      generalize hP : (rd M0 l (i : Int)).2.2.1 = P at *
      obtain ⟨F, rfl⟩ := Int.eq_ofNat_of_zero_le g1
      obtain ⟨S, rfl⟩ := Int.eq_ofNat_of_zero_le g3
      simp only [List.length_set, Int.toNat_natCast] at *
      rw [bt2 (by omega), bt2 (by omega), bt2 (by omega), bt2 (by omega)]
      have b := le_sum s hp
      have bF := b.2 F (by omega)
      have bS := b.2 S (by omega)
      have pF := hp F (by omega)
      have pS := hp S (by omega)
      have hFS : F ≠ S := by omega
      have e1 : rd 0 s (F : Int) = s.getD F 0 := by unfold rd; simp
      have e2 : ∀ v, rd 0 (s.set F v) (S : Int) = s.getD S 0 := by
        intro v
        unfold rd
        rw [Int.toNat_natCast, getD_set _ _ _ _ (by omega), if_neg hFS]
      rw [e1, e2, ws (n := s.getD F 0 + P) (by omega), ws (n := 2 - P) (by omega), ws (n := s.getD S 0 + (2 - P)) (by omega)]
      refine points_l n l hl hg j (i + 1) _ (by omega) (by omega) (by simp; omega) (fun p hpp => ?_) ?_
      · rw [getD_set _ _ _ _ (by simp; omega), getD_set _ _ _ _ (by omega)]
        simp only [List.length_set] at hpp
        have := hp p hpp
        split
        · omega
        · split <;> omega
      · rw [sum_set _ _ _ (by simp; omega), sum_set _ _ _ (by omega), getD_set _ _ _ _ (by omega), if_neg hFS]; omega
    · rw [bf1 (show ¬ (i : Int) < l.length by omega)]
      exact ⟨s, rfl, hn, by omega⟩
/-- What the points are: an error, or two for each game. -/
theorem points_tot (n : Int) (l : List GM) (hl : l.length ≤ 60) : (∃ e, e ≠ 0 ∧ f56 100 n l = some ([], e, ())) ∨ (TOK n l ∧ ∃ s, f56 100 n l = some (s, 0, ()) ∧ (s.length : Int) = n ∧ s.sum = 2 * l.length) := by
  unfold f56
  obtain ⟨e, h1, h2⟩ := check_tot n l hl
  rw [h1]
  by_cases he : e = 0
  · subst he
    have ht := h2 rfl
    refine .inr ⟨ht, ?_⟩
    obtain ⟨t1, t2, t3⟩ := ht
    obtain ⟨n, rfl⟩ := Int.eq_ofNat_of_zero_le (show 0 ≤ n by omega)
    simp only [Option.bind_some, show ((0 : Int) != 0) = false from rfl, cond_false] at *
    rw [decide_eq_true (show (0 : Int) ≤ n by omega), decide_eq_true (show (n : Int) ≤ n by omega), decide_eq_true (show ((8 : Nat) : Int) * n ≤ 281474976710656 by omega), decide_eq_true (show (n : Int) ≤ 9223372036854775807 by omega)]
    simp only [Bool.and_self, cond_true, Int.toNat_natCast]
    obtain ⟨s', e1, e2, e3⟩ := points_l n l hl t3 100 0 (List.replicate n 0) (by omega) (by omega) (by simp) (fun p hp => by simp only [List.length_replicate] at hp; simp [hp]) (by simp)
    rw [show ((0 : Nat) : Int) = 0 from rfl] at e1
    rw [e1]
    exact ⟨s', rfl, by omega, e3⟩
  · refine .inl ⟨e, he, ?_⟩
    simp only [Option.bind_some]
    rw [show (e != 0) = true by simpa using he]
    rfl
theorem breaks_l (n : Nat) (l : List GM) (p : Int) (z : Int × Int × Int × Int × Unit) (s : List Int) (hs : s.length = n) (hl : l.length ≤ 60) (hg : ∀ m : Nat, m < l.length → GOK n (rd M0 l m)) :
    ∀ (j i : Nat) (b : Int × Int × Int × Int × Unit), i ≤ l.length → l.length < i + j → ∃ b', l57_8 100 j p z s b l l.length i = some (z, b', ())
  | 0, i, b, h, h' => by omega
  | j + 1, i, b, h, h' => by
    rw [l57_8]
    by_cases hi : i < l.length
    · obtain ⟨g1, g2, g3, g4, g5, g6, g7⟩ := hg i hi
      rw [bt1 (show (i : Int) < l.length by omega), bt2 (show (0 : Int) ≤ i ∧ (i : Int) < l.length by omega), ws (n := (i : Int) + 1) (by omega)]
      have ih := fun b => breaks_l n l p z s hs hl hg j (i + 1) b (by omega) (by omega)
      have key : ∀ (q : Bool) (x y : Int), 0 ≤ x → x < n → ∃ b', ((some (x, y, true, ()) : Option (Int × Int × Bool × Unit)).bind fun r1 =>
          bif !r1.2.2.1 then l57_8 100 j p z s b l (l.length : Int) ((i : Int) + 1)
          else
          bif decide (0 ≤ r1.1) && decide (r1.1 < (s.length : Int)) then
            bif decide (0 ≤ r1.1) && decide (r1.1 < (s.length : Int)) then
              bif r1.2.1 == 2 then
                bif q then
                  l57_8 100 j p z s (w64 (b.1 + (rd 0 s r1.1)), w64 (b.2.1 + (w64 (r1.2.1 * (rd 0 s r1.1)))), w64 (b.2.2.1 + 1), w64 (b.2.2.2.1 + 1), ()) l (l.length : Int) ((i : Int) + 1)
                else
                  l57_8 100 j p z s (w64 (b.1 + (rd 0 s r1.1)), w64 (b.2.1 + (w64 (r1.2.1 * (rd 0 s r1.1)))), w64 (b.2.2.1 + 1), b.2.2.2) l (l.length : Int) ((i : Int) + 1)
              else
              bif q then
                l57_8 100 j p z s (w64 (b.1 + (rd 0 s r1.1)), w64 (b.2.1 + (w64 (r1.2.1 * (rd 0 s r1.1)))), b.2.2.1, w64 (b.2.2.2.1 + 1), ()) l (l.length : Int) ((i : Int) + 1)
              else
                l57_8 100 j p z s (w64 (b.1 + (rd 0 s r1.1)), w64 (b.2.1 + (w64 (r1.2.1 * (rd 0 s r1.1)))), b.2.2) l (l.length : Int) ((i : Int) + 1)
            else none
          else none) = some (z, b', ()) := by
        intro q x y x1 x2
        simp only [Option.bind_some, Bool.not_true, cond_false]
        rw [bt2 (by omega), bt2 (by omega)]
        cases y == 2 <;> cases q <;> exact ih _
      unfold f68
      cases c1 : p == (rd M0 l (i : Int)).1
      · cases c2 : p == (rd M0 l (i : Int)).2.1
        · simp only [cond_false, Option.bind_some, Bool.not_false, cond_true]
          exact ih b
        · simp only [cond_false, cond_true]
          exact key true _ _ g1 g2
      · simp only [cond_true]
        exact key _ _ _ g3 g4
    · rw [bf1 (show ¬ (i : Int) < l.length by omega)]
      exact ⟨b, rfl⟩
theorem breaks_tot (n : Int) (l : List GM) (hl : l.length ≤ 60) (p : Int) (hp : 0 ≤ p ∧ p < n) (ht : TOK n l) : ∃ b e, f57 100 n l p = some (b, e, ()) := by
  unfold f57
  rcases points_tot n l hl with ⟨e, he, h⟩ | ⟨_, s, h, h2, h3⟩
  · rw [h]
    simp only [Option.bind_some]
    rw [show (e != 0) = true by simpa using he]
    exact ⟨_, _, rfl⟩
  · rw [h]
    simp only [Option.bind_some, show ((0 : Int) != 0) = false from rfl, cond_false]
    rw [bf1 (by omega), bf1 (by omega)]
    obtain ⟨n, rfl⟩ := Int.eq_ofNat_of_zero_le (show 0 ≤ n by omega)
    obtain ⟨b', e⟩ := breaks_l n l p (0, 0, 0, 0, ()) s (by omega) hl ht.2.2 100 0 (0, 0, 0, 0, ()) (by omega) (by omega)
    rw [show ((0 : Nat) : Int) = 0 from rfl] at e
    rw [e]
    exact ⟨_, _, rfl⟩
end Go.Proofs.Ytfalgaldkadgoaa.G
