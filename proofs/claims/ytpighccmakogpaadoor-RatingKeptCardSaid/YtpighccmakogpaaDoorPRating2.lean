/- Ratings: games, one after the other and all at once. -/
import Derived.Test.YtpighccmakogpaaDoorPRating
namespace Go.Proofs.YtpighccmakogpaaDoor.G
open Go.VM Go.Proofs

theorem sum_set : ∀ (l : List Int) (i : Nat) (v : Int), i < l.length → (l.set i v).sum = l.sum - l.getD i 0 + v
  | [], i, v, h => by simp at h
  | x :: l, 0, v, h => by simp; omega
  | x :: l, i + 1, v, h => by
    simp only [List.set_cons_succ, List.sum_cons, List.getD_cons_succ]
    rw [sum_set l i v (by simpa using h)]; omega
theorem getD_set (l : List Int) (i j : Nat) (v : Int) (h : i < l.length) : (l.set i v).getD j 0 = if i = j then v else l.getD j 0 := by
  simp only [List.getD_eq_getElem?_getD, List.getElem?_set]
  by_cases e : i = j
  · subst e; simp [h]
  · simp [e]
/-- Points that move. -/
theorem moved (l : List Int) (F S : Nat) (v : Int) (hF : F < l.length) (hS : S < l.length) (h : F ≠ S) : ((l.set F (l.getD F 0 + v)).set S (l.getD S 0 - v)).sum = l.sum := by
  rw [sum_set _ _ _ (by simpa using hS), sum_set _ _ _ hF, getD_set _ _ _ _ hF, if_neg h]; omega
abbrev GM := Int × Int × Int × Unit
abbrev M0 : GM := (0, 0, 0, ())
theorem minmax {a b n : Int} (h1 : ¬ (if b < a then b else a) < 0) (h2 : ¬ (if b > a then b else a) ≥ n) : 0 ≤ a ∧ a < n ∧ 0 ≤ b ∧ b < n := by
  split at h1 <;> split at h2 <;> omega
def clamp (d a b : Int) : Int := max (max (min (min d (1000000 - a)) (b + 1000000)) (-1000000 - a)) (b - 1000000)
theorem game_tot (l : List Int) (g : GM) (k : Int) (hl : l.length ≤ 64) : (∃ e, e ≠ 0 ∧ f12 100 l g k = some ([], e, ())) ∨ (COK l ∧ ∃ l', f12 100 l g k = some (l', 0, ()) ∧ COK l' ∧ l'.length = l.length ∧ l'.sum = l.sum) := by
  unfold f12
  rcases check_tot l with ⟨h1, h2⟩ | ⟨e, h1, h2, h3⟩
  · rw [h1]
    simp only [Option.bind_some]
    rw [beq1 rfl]
    by_cases c1 : (if g.2.1 < g.1 then g.2.1 else g.1) < 0
    · rw [bt1 c1]; exact .inl ⟨3, by omega, rfl⟩
    rw [bf1 c1]
    by_cases c2 : (if g.2.1 > g.1 then g.2.1 else g.1) ≥ (l.length : Int)
    · rw [bt1 c2]; exact .inl ⟨3, by omega, rfl⟩
    rw [bf1 c2]
    by_cases c3 : g.1 = g.2.1
    · rw [be1 c3]; exact .inl ⟨3, by omega, rfl⟩
    rw [bn1 c3]
    obtain ⟨a1, a2, a3, a4⟩ := minmax c1 c2
    rw [bt2 ⟨a1, a2⟩, bt2 ⟨a3, a4⟩]
    generalize hF : g.1 = F at *
    generalize hS : g.2.1 = S at *
    obtain ⟨F, rfl⟩ := Int.eq_ofNat_of_zero_le a1
    obtain ⟨S, rfl⟩ := Int.eq_ofNat_of_zero_le a3
    have hF' : F < l.length := by omega
    have hS' : S < l.length := by omega
    have hne : F ≠ S := by omega
    rw [rd0, rd0]
    rcases change_tot (l.getD F 0) (l.getD S 0) g.2.2.1 k with ⟨q1, q2⟩ | ⟨e, q1, q2, q3⟩
    · rw [q1]
      simp only [Option.bind_some, List.nil_append, List.length_set, Int.toNat_natCast, rd0, List.length_nil, Nat.zero_add]
      generalize k * (50 * g.2.2.1 - Ex (l.getD F 0 - l.getD S 0)) = d at *
      have r1 : Rg (l.getD F 0) := h2.2.2 F hF'
      have r2 : Rg (l.getD S 0) := h2.2.2 S hS'
      unfold Rg at r1 r2
      rw [beq1 rfl, bt2 ⟨a1, a2⟩, bt2 ⟨a3, a4⟩, bt2 ⟨a1, a2⟩, bt2 ⟨a3, a4⟩, bt1 (by unfold roomN; omega), bt2 ⟨a1, a2⟩, bt2 ⟨a1, a2⟩, bt2 ⟨a3, a4⟩, bt2 ⟨a3, a4⟩]
      rw [ws (n := 1000000 - l.getD F 0) (by omega), ws (n := l.getD S 0 + 1000000) (by omega), ws (n := -1000000 - l.getD F 0) (by omega), ws (n := l.getD S 0 - 1000000) (by omega)]
      generalize hd : (if l.getD S 0 - 1000000 > (if -1000000 - l.getD F 0 > (if l.getD S 0 + 1000000 < (if 1000000 - l.getD F 0 < d then 1000000 - l.getD F 0 else d) then l.getD S 0 + 1000000 else if 1000000 - l.getD F 0 < d then 1000000 - l.getD F 0 else d) then -1000000 - l.getD F 0 else if l.getD S 0 + 1000000 < (if 1000000 - l.getD F 0 < d then 1000000 - l.getD F 0 else d) then l.getD S 0 + 1000000 else if 1000000 - l.getD F 0 < d then 1000000 - l.getD F 0 else d) then l.getD S 0 - 1000000
          else if -1000000 - l.getD F 0 > (if l.getD S 0 + 1000000 < (if 1000000 - l.getD F 0 < d then 1000000 - l.getD F 0 else d) then l.getD S 0 + 1000000 else if 1000000 - l.getD F 0 < d then 1000000 - l.getD F 0 else d) then -1000000 - l.getD F 0 else if l.getD S 0 + 1000000 < (if 1000000 - l.getD F 0 < d then 1000000 - l.getD F 0 else d) then l.getD S 0 + 1000000 else if 1000000 - l.getD F 0 < d then 1000000 - l.getD F 0 else d) = v
      have hv : -1000000 ≤ l.getD F 0 + v ∧ l.getD F 0 + v ≤ 1000000 ∧ -1000000 ≤ l.getD S 0 - v ∧ l.getD S 0 - v ≤ 1000000 := by
        subst hd
        generalize l.getD F 0 = a at *
        generalize l.getD S 0 = b at *
        generalize hw : (if 1000000 - a < d then 1000000 - a else d) = w
        have hw' : w ≤ 1000000 - a := by subst hw; split <;> omega
        generalize hu : (if b + 1000000 < w then b + 1000000 else w) = u
        have hu' : u ≤ 1000000 - a ∧ u ≤ b + 1000000 := by subst hu; split <;> omega
        generalize ht : (if -1000000 - a > u then -1000000 - a else u) = t
        have ht' : t ≤ 1000000 - a ∧ t ≤ b + 1000000 ∧ -1000000 - a ≤ t := by subst ht; split <;> omega
        split <;> omega
      have e1 : ∀ z, (l.set F z).getD S 0 = l.getD S 0 := fun z => by rw [getD_set _ _ _ _ hF', if_neg hne]
      rw [ws (n := l.getD F 0 + v) (by omega), e1, ws (n := l.getD S 0 - v) (by omega)]
      refine .inr ⟨h2, _, rfl, ⟨by simp; exact h2.1, by simp; exact h2.2.1, fun m hm => ?_⟩, by simp, moved l F S v hF' hS' hne⟩
      simp only [List.length_set] at hm
      have := h2.2.2 m hm
      unfold Rg at this ⊢
      rw [getD_set _ _ _ _ (by simpa using hS'), getD_set _ _ _ _ hF']
      split
      · omega
      · split <;> omega
    · rw [q2]
      simp only [Option.bind_some]
      rw [bne1 q1]
      exact .inl ⟨e, q1, rfl⟩
  · rw [h2]
    simp only [Option.bind_some]
    rw [bne1 h1]
    exact .inl ⟨e, h1, rfl⟩

/-- Games one after the other. -/
noncomputable def Go (k : Int) : List GM → List Int → List Int × Int
  | [], l => (l, 0)
  | g :: r, l => if ((f12 100 l g k).getD ([], 0, ())).2.1 = 0 then Go k r ((f12 100 l g k).getD ([], 0, ())).1 else ([], ((f12 100 l g k).getD ([], 0, ())).2.1)
theorem Go_pos {k : Int} {g : GM} {r : List GM} {l : List Int} (h : ((f12 100 l g k).getD ([], 0, ())).2.1 = 0) : Go k (g :: r) l = Go k r ((f12 100 l g k).getD ([], 0, ())).1 := if_pos h
theorem Go_neg {k : Int} {g : GM} {r : List GM} {l : List Int} (h : ¬ ((f12 100 l g k).getD ([], 0, ())).2.1 = 0) : Go k (g :: r) l = ([], ((f12 100 l g k).getD ([], 0, ())).2.1) := if_neg h
theorem Go_app (k : Int) : ∀ (a b : List GM) (l : List Int), Go k (a ++ b) l = if (Go k a l).2 = 0 then Go k b (Go k a l).1 else ([], (Go k a l).2)
  | [], b, l => by simp [Go]
  | g :: a, b, l => by
    rw [List.cons_append]
    by_cases c : ((f12 100 l g k).getD ([], 0, ())).2.1 = 0
    · rw [Go_pos c, Go_pos c]; exact Go_app k a b _
    · rw [Go_neg c, Go_neg c, if_neg c]
theorem Go_ok (k : Int) : ∀ (a : List GM) (l : List Int), l.length ≤ 64 → (Go k a l).2 = 0 → (Go k a l).1.length = l.length ∧ (Go k a l).1.sum = l.sum ∧ (COK l → COK (Go k a l).1)
  | [], l, _, _ => ⟨rfl, rfl, id⟩
  | g :: a, l, hl, h => by
    rcases game_tot l g k hl with ⟨e, h1, h2⟩ | ⟨_, l', h2, h3, h4, h5⟩
    · rw [Go_neg (by rw [h2]; exact h1), h2] at h
      exact absurd h h1
    · have e : Go k (g :: a) l = Go k a l' := by rw [Go_pos (by rw [h2]; rfl), h2]; rfl
      rw [e] at h ⊢
      obtain ⟨i1, i2, i3⟩ := Go_ok k a l' (by omega) h
      exact ⟨by omega, by omega, fun _ => i3 h3⟩
theorem Go_err (k : Int) : ∀ (a : List GM) (l : List Int), (Go k a l).2 ≠ 0 → (Go k a l).1 = []
  | [], l, h => absurd rfl h
  | g :: a, l, h => by
    by_cases c : ((f12 100 l g k).getD ([], 0, ())).2.1 = 0
    · rw [Go_pos c] at h ⊢; exact Go_err k a _ h
    · rw [Go_neg c]
theorem all_l (k : Int) (gs : List GM) (hgs : gs.length ≤ 60) : ∀ (j i : Nat) (l : List Int), i ≤ gs.length → gs.length < i + j → l.length ≤ 64 →
    l9_8 100 j k l gs gs.length i = if (Go k (gs.drop i) l).2 = 0 then some (.inl ((Go k (gs.drop i) l).1, ())) else some (.inr ([], (Go k (gs.drop i) l).2, ()))
  | 0, i, l, h1, h2, _ => by omega
  | j + 1, i, l, h1, h2, hl => by
    rw [l9_8]
    by_cases c : i < gs.length
    · rw [bt1 (show (i : Int) < gs.length by omega), bt2 (show (0 : Int) ≤ i ∧ (i : Int) < gs.length by omega), ws (n := (i : Int) + 1) (by omega), show (i : Int) + 1 = ((i + 1 : Nat) : Int) by omega]
      have hd : gs.drop i = rd M0 gs (i : Int) :: gs.drop (i + 1) := by
        rw [List.drop_eq_getElem_cons c]
        congr 1
        unfold rd
        rw [Int.toNat_natCast, List.getD_eq_getElem?_getD, List.getElem?_eq_getElem c]; rfl
      rw [hd]
      rcases game_tot l (rd M0 gs (i : Int)) k hl with ⟨e, q1, q2⟩ | ⟨_, l', q2, q3, q4, q5⟩
      · have e' : Go k (rd M0 gs (i : Int) :: gs.drop (i + 1)) l = ([], e) := by rw [Go_neg (by rw [q2]; exact q1), q2]; rfl
        rw [q2, e']
        simp only [Option.bind_some]
        rw [bne1 q1, if_neg q1]
      · have e' : Go k (rd M0 gs (i : Int) :: gs.drop (i + 1)) l = Go k (gs.drop (i + 1)) l' := by rw [Go_pos (by rw [q2]; rfl), q2]; rfl
        rw [q2, e']
        simp only [Option.bind_some]
        rw [beq1 rfl]
        exact all_l k gs hgs j (i + 1) l' (by omega) (by omega) (by omega)
    · rw [bf1 (show ¬ (i : Int) < gs.length by omega), List.drop_eq_nil_of_le (by omega)]
      rfl
/-- All games: a check, then one after the other. -/
theorem all_tot (l : List Int) (gs : List GM) (k : Int) (hl : l.length ≤ 64) (hgs : gs.length ≤ 60) : (¬ COK l ∧ ∃ e, e ≠ 0 ∧ f11 100 l = some (e, ()) ∧ f9 100 l gs k = some ([], e, ())) ∨ (COK l ∧ f9 100 l gs k = some ((Go k gs l).1, (Go k gs l).2, ())) := by
  unfold f9
  rcases check_tot l with ⟨h1, h2⟩ | ⟨e, h1, h2, h3⟩
  · refine .inr ⟨h2, ?_⟩
    rw [h1]
    simp only [Option.bind_some]
    rw [beq1 rfl, bf1 (show ¬ (gs.length : Int) > 256 by omega), bt1 (by unfold roomN; simp; omega)]
    simp only [List.nil_append]
    have := all_l k gs hgs 100 0 l (by omega) (by omega) hl
    rw [show ((0 : Nat) : Int) = 0 from rfl, List.drop_zero] at this
    rw [this]
    by_cases c : (Go k gs l).2 = 0
    · rw [if_pos c, c]; rfl
    · rw [if_neg c, Go_err k gs l c]; rfl
  · rw [h2]
    simp only [Option.bind_some]
    rw [bne1 h1]
    exact .inl ⟨h3, e, h1, rfl, rfl⟩
/-- A list's first elements. -/
theorem cutL {α : Type} (l : List α) (b : Nat) : sliceOf l 0 (if (b : Int) < (l.length : Int) then (b : Int) else (l.length : Int)) = l.take b ∧ (0 : Int) ≤ (if (b : Int) < (l.length : Int) then (b : Int) else (l.length : Int)) ∧ (if (b : Int) < (l.length : Int) then (b : Int) else (l.length : Int)) ≤ (l.length : Int) := by
  unfold sliceOf
  split
  · refine ⟨by simp, by omega, by omega⟩
  · refine ⟨?_, by omega, by omega⟩
    simp
    rw [List.take_of_length_le (by omega)]
theorem same_l (x : List Int) (a b : Int) (hx : x.length ≤ 64) : ∀ (j i : Nat), i ≤ x.length → x.length < i + j → l4_13 100 j x a x b x.length i = some (.inl (a, b, ()))
  | 0, i, h1, h2 => by omega
  | j + 1, i, h1, h2 => by
    rw [l4_13]
    by_cases c : i < x.length
    · rw [bt1 (show (i : Int) < x.length by omega), bt2 (show (0 : Int) ≤ i ∧ (i : Int) < x.length by omega), bt2 (show (0 : Int) ≤ i ∧ (i : Int) < x.length by omega), beq1 rfl, ws (n := (i : Int) + 1) (by omega)]
      exact same_l x a b hx j (i + 1) (by omega) (by omega)
    · rw [bf1 (show ¬ (i : Int) < x.length by omega)]
theorem parts_pure (l : List Int) (gs : List GM) (k n : Int) : f4 100 l gs k n = some (true, ()) := by
  unfold f4
  rw [rates_ok]
  simp only [Option.bind_some, Bool.not_true, cond_false]
  obtain ⟨c1, c2, c3⟩ := cutL l 64
  rw [show ((64 : Nat) : Int) = 64 from rfl] at c1 c2 c3
  obtain ⟨d1, d2, d3⟩ := cutL gs 60
  rw [show ((60 : Nat) : Int) = 60 from rfl] at d1 d2 d3
  rw [bt2 ⟨c2, c3⟩, bt2 ⟨d2, d3⟩, c1, d1]
  have hl : (l.take 64).length ≤ 64 := by simp; omega
  have hgs : (gs.take 60).length ≤ 60 := by simp; omega
  generalize l.take 64 = l at hl
  generalize gs.take 60 = gs at hgs
  have hm : ∃ m : Nat, m ≤ gs.length ∧ (if (if (gs.length : Int) < n then (gs.length : Int) else n) > 0 then if (gs.length : Int) < n then (gs.length : Int) else n else 0) = (m : Int) := by
    by_cases q : (gs.length : Int) < n
    · rw [if_pos q]
      by_cases q2 : (gs.length : Int) > 0
      · rw [if_pos q2]; exact ⟨gs.length, Nat.le_refl _, rfl⟩
      · rw [if_neg q2]; exact ⟨0, by omega, rfl⟩
    · rw [if_neg q]
      by_cases q2 : n > 0
      · rw [if_pos q2]; exact ⟨n.toNat, by omega, by omega⟩
      · rw [if_neg q2]; exact ⟨0, by omega, rfl⟩
  obtain ⟨m, hm1, hm2⟩ := hm
  rw [hm2]
  have e1 : sliceOf gs 0 (m : Int) = gs.take m := by unfold sliceOf; simp
  have e2 : sliceOf gs (m : Int) (gs.length : Int) = gs.drop m := by unfold sliceOf; simp
  rw [e1, e2]
  have happ : Go k gs l = if (Go k (gs.take m) l).2 = 0 then Go k (gs.drop m) (Go k (gs.take m) l).1 else ([], (Go k (gs.take m) l).2) := by
    rw [← Go_app, List.take_append_drop]
  obtain ⟨r, hr⟩ : ∃ r, f9 100 l gs k = some r := by
    rcases all_tot l gs k hl hgs with ⟨_, e, _, _, h⟩ | ⟨_, h⟩ <;> exact ⟨_, h⟩
  have hr' := hr
  rw [hr]
  simp only [Option.bind_some]
  rw [bt2 ⟨by omega, by omega⟩]
  rcases all_tot l (gs.take m) k hl (by simp; omega) with ⟨h0, e, h1, h2, h3⟩ | ⟨h0, h3⟩
  · rw [h3]
    simp only [Option.bind_some]
    rcases all_tot l gs k hl hgs with ⟨_, e', h1', h2', h3'⟩ | ⟨h0', _⟩
    · rw [h3'] at hr'
      cases hr'
      rw [h2] at h2'
      cases h2'
      rw [bne1 h1, be1 rfl]
      rfl
    · exact absurd h0' h0
  · rw [h3]
    simp only [Option.bind_some]
    rcases all_tot l gs k hl hgs with ⟨h0', _⟩ | ⟨_, h3'⟩
    · exact absurd h0 h0'
    rw [h3'] at hr'
    cases hr'
    simp only
    by_cases c : (Go k (gs.take m) l).2 = 0
    · rw [if_pos c] at happ
      obtain ⟨g1, g2, g3⟩ := Go_ok k (gs.take m) l hl c
      rw [beq1 c, decide_eq_true (show (0 : Int) ≤ m by omega), decide_eq_true (show (m : Int) ≤ gs.length by omega), decide_eq_true (show (gs.length : Int) ≤ gs.length by omega)]
      simp only [Bool.and_self, cond_true]
      rcases all_tot (Go k (gs.take m) l).1 (gs.drop m) k (by omega) (by simp; omega) with ⟨q0, _⟩ | ⟨_, q⟩
      · exact absurd (g3 h0) q0
      · rw [q, ← happ]
        simp only [Option.bind_some]
        rw [beq1 rfl]
        have hx : (Go k gs l).1.length ≤ 64 := by
          by_cases z : (Go k gs l).2 = 0
          · have := (Go_ok k gs l hl z).1; omega
          · rw [Go_err k gs l z]; simp
        have := same_l (Go k gs l).1 (Go k gs l).2 (Go k gs l).2 hx 100 0 (by omega) (by omega)
        rw [show ((0 : Nat) : Int) = 0 from rfl] at this
        rw [this]
        simp
    · rw [if_neg c] at happ
      rw [bne1 c, happ, be1 rfl]
      rfl
end Go.Proofs.YtpighccmakogpaaDoor.G
