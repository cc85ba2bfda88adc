/- Ratings: no point is lost. -/
import Derived.Test.YtpighccmakogpaaDoorPRating2
namespace Go.Proofs.YtpighccmakogpaaDoor.G
open Go.VM Go.Proofs

theorem set_sum2 (l : List Int) (F S : Nat) (a b d : Int) (hF : F < l.length) (hS : S < l.length) (h : F ≠ S) (ha : a = l.getD F 0 + d) (hb : b = (l.set F a).getD S 0 - d) : ((l.set F a).set S b).sum = l.sum := by
  rw [sum_set _ _ _ (by simpa using hS), sum_set _ _ _ hF, hb, ha]; omega
theorem period_l (l : List Int) (k : Int) (hl : COK l) (gs : List GM) (hgs : gs.length ≤ 60) : ∀ (j i : Nat) (o : List Int), i ≤ gs.length → gs.length < i + j → o.length = l.length → o.sum = l.sum → (∀ m : Nat, m < o.length → -1000000 - 6400 * i ≤ o.getD m 0 ∧ o.getD m 0 ≤ 1000000 + 6400 * i) →
    (∃ e, e ≠ 0 ∧ l10_8 100 j l k o gs gs.length i = some (.inr ([], e, ()))) ∨ (∃ o', l10_8 100 j l k o gs gs.length i = some (.inl (o', ())) ∧ o'.length = l.length ∧ o'.sum = l.sum)
  | 0, i, o, h1, h2, _, _, _ => by omega
  | j + 1, i, o, h1, h2, ho, hs, hb => by
    rw [l10_8]
    by_cases c : i < gs.length
    · rw [bt1 (show (i : Int) < gs.length by omega), bt2 (show (0 : Int) ≤ i ∧ (i : Int) < gs.length by omega), ws (n := (i : Int) + 1) (by omega), show (i : Int) + 1 = ((i + 1 : Nat) : Int) by omega]
      show (∃ e, e ≠ 0 ∧ (bif decide ((if (rd M0 gs (i : Int)).2.1 < (rd M0 gs (i : Int)).1 then (rd M0 gs (i : Int)).2.1 else (rd M0 gs (i : Int)).1) < 0) then _ else _) = _) ∨ _
      generalize rd M0 gs (i : Int) = g
      by_cases c1 : (if g.2.1 < g.1 then g.2.1 else g.1) < 0
      · rw [bt1 c1]; exact .inl ⟨3, by omega, rfl⟩
      rw [bf1 c1]
      by_cases c2 : (if g.2.1 > g.1 then g.2.1 else g.1) ≥ (l.length : Int)
      · rw [bt1 c2]; exact .inl ⟨3, by omega, rfl⟩
      rw [bf1 c2]
      by_cases c3 : g.1 = g.2.1
      · rw [be1 c3]; exact .inl ⟨3, by omega, rfl⟩
      rw [bn1 c3]
      obtain ⟨a1, a2, a3, a4⟩ := minmax c1 c2
      rw [bt2 ⟨a1, a2⟩, bt2 ⟨a3, a4⟩]
      generalize hF : g.1 = F at *
      generalize hS : g.2.1 = S at *
      obtain ⟨F, rfl⟩ := Int.eq_ofNat_of_zero_le a1
      obtain ⟨S, rfl⟩ := Int.eq_ofNat_of_zero_le a3
      have hF' : F < o.length := by omega
      have hS' : S < o.length := by omega
      have hne : F ≠ S := by omega
      rw [rd0, rd0]
      rcases change_tot (l.getD F 0) (l.getD S 0) g.2.2.1 k with ⟨q1, q2⟩ | ⟨e, q1, q2, q3⟩
      · rw [q1]
        simp only [Option.bind_some, List.length_set, Int.toNat_natCast, rd0]
        obtain ⟨_, _, p0, p2, k1, k64⟩ := q2
        have hx := Ex_bound (l.getD F 0 - l.getD S 0)
        have hk : -6400 ≤ k * (50 * g.2.2.1 - Ex (l.getD F 0 - l.getD S 0)) ∧ k * (50 * g.2.2.1 - Ex (l.getD F 0 - l.getD S 0)) ≤ 6400 := by
          have hy : -100 ≤ 50 * g.2.2.1 - Ex (l.getD F 0 - l.getD S 0) ∧ 50 * g.2.2.1 - Ex (l.getD F 0 - l.getD S 0) ≤ 100 := by omega
          generalize 50 * g.2.2.1 - Ex (l.getD F 0 - l.getD S 0) = y at hy
          obtain ⟨n, rfl⟩ := Int.eq_ofNat_of_zero_le (show 0 ≤ k by omega)
          constructor
          · calc (-6400 : Int) ≤ n * (-100) := by omega
              _ ≤ n * y := Int.mul_le_mul_of_nonneg_left hy.1 (by omega)
          · calc (n : Int) * y ≤ n * 100 := Int.mul_le_mul_of_nonneg_left hy.2 (by omega)
              _ ≤ 6400 := by omega
        generalize k * (50 * g.2.2.1 - Ex (l.getD F 0 - l.getD S 0)) = d at *
        have bF := hb F hF'
        have bS := hb S hS'
        have e1 : ∀ z, (o.set F z).getD S 0 = o.getD S 0 := fun z => by rw [getD_set _ _ _ _ hF', if_neg hne]
        rw [beq1 rfl, bt2 (by omega), bt2 (by omega), bt2 (by omega), bt2 (by omega), e1, ws (n := o.getD F 0 + d) (by omega), ws (n := o.getD S 0 - d) (by omega)]
        refine period_l l k hl gs hgs j (i + 1) _ (by omega) (by omega) (by simpa using ho) (by rw [← hs]; exact moved o F S d hF' hS' hne) (fun m hm => ?_)
        simp only [List.length_set] at hm
        have := hb m hm
        rw [getD_set _ _ _ _ (by simpa using hS'), getD_set _ _ _ _ hF']
        split
        · omega
        · split <;> omega
      · rw [q2]
        simp only [Option.bind_some]
        rw [bne1 q1]
        exact .inl ⟨e, q1, rfl⟩
    · rw [bf1 (show ¬ (i : Int) < gs.length by omega)]
      exact .inr ⟨o, rfl, ho, hs⟩
theorem period_tot (l : List Int) (gs : List GM) (k : Int) (hgs : gs.length ≤ 60) : (∃ e, e ≠ 0 ∧ f10 100 l gs k = some ([], e, ())) ∨ ∃ o, f10 100 l gs k = some (o, 0, ()) ∧ o.length = l.length ∧ o.sum = l.sum := by
  unfold f10
  rcases check_tot l with ⟨h1, h2⟩ | ⟨e, h1, h2, h3⟩
  · rw [h1]
    simp only [Option.bind_some]
    have hl := h2.2.1
    rw [beq1 rfl, bf1 (show ¬ (gs.length : Int) > 256 by omega), bt1 (by unfold roomN; simp; omega)]
    simp only [List.nil_append]
    rcases period_l l k h2 gs hgs 100 0 l (by omega) (by omega) rfl rfl (fun m hm => by have := h2.2.2 m hm; unfold Rg at this; omega) with ⟨e, h4, h5⟩ | ⟨o, h5, h6, h7⟩
    · rw [show ((0 : Nat) : Int) = 0 from rfl] at h5
      rw [h5]; exact .inl ⟨e, h4, rfl⟩
    · rw [show ((0 : Nat) : Int) = 0 from rfl] at h5
      rw [h5]
      simp only [Option.bind_some, Sum.elim_inl]
      rcases check_tot o with ⟨g1, _⟩ | ⟨e, g1, g2, _⟩
      · rw [g1]
        simp only [Option.bind_some]
        rw [beq1 rfl]; exact .inr ⟨o, rfl, h6, h7⟩
      · rw [g2]
        simp only [Option.bind_some]
        rw [bne1 g1]; exact .inl ⟨e, g1, rfl⟩
  · rw [h2]
    simp only [Option.bind_some]
    rw [bne1 h1]; exact .inl ⟨e, h1, rfl⟩
def bs (e : Int) (x : List Int) (i : Nat) : Int := if e = 0 then w64 (x.take i).sum else 0
theorem w_take (x : List Int) (i : Nat) (h : i < x.length) : w64 (w64 (x.take i).sum + x.getD i 0) = w64 (x.take (i + 1)).sum := by
  rw [w_add, List.take_succ_eq_append_getElem h, List.sum_append]; simp [h]
theorem kept_l (l x y : List Int) (ex ey : Int) (hl : l.length ≤ 64) (hx : ex = 0 → x.length = l.length) (hy : ey = 0 → y.length = l.length) : ∀ (j i : Nat), i ≤ l.length → l.length < i + j →
    l5_8 100 j l x ex y ey (w64 (l.take i).sum) (bs ex x i) (bs ey y i) l.length i = some (l, x, ex, y, ey, w64 (l.take l.length).sum, bs ex x l.length, bs ey y l.length, ())
  | 0, i, h1, h2 => by omega
  | j + 1, i, h1, h2 => by
    rw [l5_8]
    by_cases c : i < l.length
    · have ih := kept_l l x y ex ey hl hx hy j (i + 1) (by omega) (by omega)
      rw [bt1 (show (i : Int) < l.length by omega), bt2 (show (0 : Int) ≤ i ∧ (i : Int) < l.length by omega), ws (n := (i : Int) + 1) (by omega), show (i : Int) + 1 = ((i + 1 : Nat) : Int) by omega, rd0, rd0, rd0, w_take l i c]
      by_cases p : ex = 0
      · have hxl := hx p
        have e1 : w64 (bs ex x i + x.getD i 0) = bs ex x (i + 1) := by unfold bs; rw [if_pos p, if_pos p]; exact w_take x i (by omega)
        rw [be1 p, be1 (by omega), bt2 (by omega), e1]
        by_cases q : ey = 0
        · have hyl := hy q
          have e2 : w64 (bs ey y i + y.getD i 0) = bs ey y (i + 1) := by unfold bs; rw [if_pos q, if_pos q]; exact w_take y i (by omega)
          rw [be1 q, be1 (by omega), bt2 (by omega), e2]
          exact ih
        · have e2 : bs ey y i = bs ey y (i + 1) := by unfold bs; rw [if_neg q, if_neg q]
          rw [bn1 q, e2]; exact ih
      · have e1 : bs ex x i = bs ex x (i + 1) := by unfold bs; rw [if_neg p, if_neg p]
        rw [bn1 p, e1]
        by_cases q : ey = 0
        · have hyl := hy q
          have e2 : w64 (bs ey y i + y.getD i 0) = bs ey y (i + 1) := by unfold bs; rw [if_pos q, if_pos q]; exact w_take y i (by omega)
          rw [be1 q, be1 (by omega), bt2 (by omega), e2]
          exact ih
        · have e2 : bs ey y i = bs ey y (i + 1) := by unfold bs; rw [if_neg q, if_neg q]
          rw [bn1 q, e2]; exact ih
    · rw [bf1 (show ¬ (i : Int) < l.length by omega)]
      have : i = l.length := by omega
      rw [this]
theorem kept_pure (l : List Int) (gs : List GM) (k : Int) : f5 100 l gs k = some (true, ()) := by
  unfold f5
  rw [rates_ok]
  simp only [Option.bind_some, Bool.not_true, cond_false]
  obtain ⟨c1, c2, c3⟩ := cutL l 64
  rw [show ((64 : Nat) : Int) = 64 from rfl] at c1 c2 c3
  obtain ⟨d1, d2, d3⟩ := cutL gs 60
  rw [show ((60 : Nat) : Int) = 60 from rfl] at d1 d2 d3
  rw [bt2 ⟨c2, c3⟩, bt2 ⟨d2, d3⟩, c1, d1]
  have hl : (l.take 64).length ≤ 64 := by simp; omega
  have hgs : (gs.take 60).length ≤ 60 := by simp; omega
  generalize l.take 64 = l at hl
  generalize gs.take 60 = gs at hgs
  obtain ⟨x, ex, h1, h2⟩ : ∃ x ex, f9 100 l gs k = some (x, ex, ()) ∧ (ex = 0 → x.length = l.length ∧ x.sum = l.sum) := by
    rcases all_tot l gs k hl hgs with ⟨_, e, he, _, h⟩ | ⟨_, h⟩
    · exact ⟨[], e, h, fun h => absurd h he⟩
    · exact ⟨_, _, h, fun h => ⟨(Go_ok k gs l hl h).1, (Go_ok k gs l hl h).2.1⟩⟩
  obtain ⟨y, ey, g1, g2⟩ : ∃ y ey, f10 100 l gs k = some (y, ey, ()) ∧ (ey = 0 → y.length = l.length ∧ y.sum = l.sum) := by
    rcases period_tot l gs k hgs with ⟨e, he, h⟩ | ⟨o, h, h3, h4⟩
    · exact ⟨[], e, h, fun h => absurd h he⟩
    · exact ⟨o, 0, h, fun _ => ⟨h3, h4⟩⟩
  rw [h1, g1]
  simp only [Option.bind_some]
  have := kept_l l x y ex ey hl (fun h => (h2 h).1) (fun h => (g2 h).1) 100 0 (by omega) (by omega)
  rw [show w64 (l.take 0).sum = 0 by simp; exact ws (by omega), show bs ex x 0 = 0 by unfold bs; simp; intro _; exact ws (by omega), show bs ey y 0 = 0 by unfold bs; simp; intro _; exact ws (by omega), show ((0 : Nat) : Int) = 0 from rfl] at this
  rw [this]
  simp only [Option.bind_some]
  have eb : ∀ (e : Int) (z : List Int), e = 0 → z.length = l.length → z.sum = l.sum → w64 (l.take l.length).sum = bs e z l.length := by
    intro e z h h3 h4
    unfold bs
    rw [if_pos h, List.take_length, ← h3, List.take_length, h4]
  by_cases p : ex = 0
  · rw [beq1 p, be1 (eb ex x p (h2 p).1 (h2 p).2), be1 (by have := (h2 p).1; omega)]
    by_cases q : ey = 0
    · rw [beq1 q, be1 (eb ey y q (g2 q).1 (g2 q).2), show ((y.length : Int) == (l.length : Int)) = true by simp [(g2 q).1]]
    · rw [bne1 q]
  · rw [bne1 p]
    by_cases q : ey = 0
    · rw [beq1 q, be1 (eb ey y q (g2 q).1 (g2 q).2), show ((y.length : Int) == (l.length : Int)) = true by simp [(g2 q).1]]
    · rw [bne1 q]
end Go.Proofs.YtpighccmakogpaaDoor.G
