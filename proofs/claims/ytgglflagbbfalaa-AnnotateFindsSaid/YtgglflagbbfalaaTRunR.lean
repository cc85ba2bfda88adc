/- Runs. -/
import Derived.Test.YtgglflagbbfalaaTRun
namespace Go.Proofs.Ytgglflagbbfalaa.G
open Go.VM Go.Proofs
section
variable {r : RU}
theorem run5 (hz : Rz r) (l : List MV) (s4 : PO) (hll : l.length ≤ 400) : ∀ (j i : Nat) (g : GM), i ≤ l.length → l.length < i + j → GOK r g → g.2.2.1.length + (l.length - i) ≤ 400 →
    (∃ g', Plays g (l.drop i) g' ∧ l10_5 9000 j s4 g l l.length i = some (.inl (s4, g', ()))) ∨ ((∃ e, e ≠ 0 ∧ l10_5 9000 j s4 g l l.length i = some (.inr (P00, 0, e, ()))) ∧ ¬ ∃ g', Plays g (l.drop i) g')
  | 0, i, g, h, h', _, _ => by omega
  | j + 1, i, g, h, h', hg, hl => by
    rw [l10_5]
    by_cases hi : i < l.length
    · have e : ((i : Int) + 1) = ((i + 1 : Nat) : Int) := by omega
      rw [bt1 (show (i : Int) < l.length by omega), bt2 ⟨by omega, by omega⟩, drop_rd M0 l i hi]
      rw [show rd ((0, 0, 0, ()) : MV) l (i : Int) = rd M0 l (i : Int) from rfl]
      rcases play_tot hz hg (by omega) (rd M0 l (i : Int)) with ⟨e2, he, hp⟩ | ⟨q, hp, hok, _⟩
      · rw [hp]
        simp only [Option.bind_some]
        rw [bne1 he]
        refine .inr ⟨⟨e2, he, rfl⟩, ?_⟩
        rintro ⟨g', g1, h1, _⟩
        rw [hp] at h1
        simp only [Option.some.injEq, Prod.mk.injEq] at h1
        exact he h1.1
      · rw [hp]
        simp only [Option.bind_some]
        rw [beq1 rfl, ws (by omega), e]
        rcases run5 hz l s4 hll j (i + 1) _ (by omega) (by omega) hok (by simp; omega) with ⟨g', h1, h2⟩ | ⟨⟨e2, he, h1⟩, h2⟩
        · exact .inl ⟨g', ⟨_, hp, h1⟩, h2⟩
        · refine .inr ⟨⟨e2, he, h1⟩, ?_⟩
          rintro ⟨g', g1, h3, h4⟩
          rw [hp] at h3
          simp only [Option.some.injEq, Prod.mk.injEq, true_and, and_true] at h3
          subst h3
          exact h2 ⟨g', h4⟩
    · rw [bf1 (show ¬ (i : Int) < l.length by omega), List.drop_eq_nil_of_le (by omega)]
      exact .inl ⟨g, rfl, rfl⟩
/-- **What a run says**: the last position and the result, or an error, where the moves cannot be played. -/
theorem run_tot (r : RU) (l : List MV) (hl : l.length ≤ 400) : (Rz r ∧ ∃ g x, Plays (g0 r) l g ∧ GOK r g ∧ g.2.2.1 = l ∧ f22 9000 g = some (x, ()) ∧ f10 9000 r l = some (g.now, x, 0, ())) ∨
    ((∃ e, e ≠ 0 ∧ f10 9000 r l = some (P00, 0, e, ())) ∧ ¬ (Rz r ∧ ∃ g, Plays (g0 r) l g)) := by
  unfold f10
  rcases new_tot r with ⟨hz, hn⟩ | ⟨e, he, hn⟩
  · rw [hn]
    simp only [Option.bind_some, Sum.elim_inl]
    rw [beq1 rfl]
    have := run5 hz l P00 hl 9000 0 (g0 r) (by omega) (by omega) (g0_ok r) (by show 0 + (l.length - 0) ≤ 400; omega)
    rw [show ((0 : Nat) : Int) = 0 from rfl, List.drop_zero] at this
    rcases this with ⟨g, h1, h2⟩ | ⟨⟨e, he, h1⟩, h2⟩
    · obtain ⟨k1, k2⟩ := Plays.ok hz h1 (g0_ok r) (by show 0 + l.length ≤ 400; omega)
      have k2 : g.2.2.1 = l := by rw [k2]; rfl
      rw [h2]
      simp only [Option.bind_some, Sum.elim_inl]
      rw [pos_eq hz.ok k1 (by rw [k2]; exact hl)]
      simp only [Option.bind_some]
      obtain ⟨_, x, _, hx, _⟩ := result_tot hz.ok k1 (by rw [k2]; exact hl)
      rw [hx]
      exact .inl ⟨hz, g, x, h1, k1, k2, hx, rfl⟩
    · rw [h1]
      exact .inr ⟨⟨e, he, rfl⟩, fun h => h2 h.2⟩
  · rw [hn]
    simp only [Option.bind_some, Sum.elim_inr]
    rw [bne1 he]
    refine .inr ⟨⟨e, he, rfl⟩, fun h => ?_⟩
    have := new_eq h.1
    rw [hn] at this
    cases this
end
end Go.Proofs.Ytgglflagbbfalaa.G
