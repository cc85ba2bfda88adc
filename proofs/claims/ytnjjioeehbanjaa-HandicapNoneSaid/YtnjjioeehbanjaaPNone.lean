/- HandicapNone: without any piece less, nothing changes; the least number of pieces less. -/
import Derived.Test.YtnjjioeehbanjaaTTicB
namespace Go.Proofs.Ytnjjioeehbanjaa.G
open Go.VM Go.Proofs
theorem tic_eq : f26 9000 = some (TIC, ()) := by kernel_rfl
theorem tic_rz : Rz TIC := check_tic
theorem fresh_tic : fresh TIC = POS0 := rfl
theorem cnt0 (D : Nat) (b : BD) : f57_at 9000 (D + 1) (50000, ()) b 0 = some (1, (49999, ()), b, ()) := by
  rw [f57_at]
  unfold f57_body
  dsimp only
  rw [show w64 (50000 - 1) = 49999 by decide, bf1 (by decide), be1 rfl]
theorem val0 (D : Nat) (v : Int) : f42_at 9000 (D + 1) (TIC, fresh TIC, v, [], ()) 0 = some (0, (TIC, fresh TIC, v, [], ()), ()) := by
  rw [f42_at]
  unfold f42_body f49
  dsimp only
  rw [show f61 9000 TIC (fresh TIC) = some (0, ()) from res_tic, Option.bind_some, Option.bind_some]
  dsimp only
  rw [beq1 rfl, be1 rfl]
theorem hand_eq : f15 9000 = some (true, ()) := by
  unfold f15
  rw [tic_eq, Option.bind_some]
  dsimp only
  unfold f18
  rw [begin_eq tic_rz, Option.bind_some]
  dsimp only
  rw [beq1 rfl]
  have hp : POK TIC (fresh TIC) := pok_tic
  obtain ⟨v, hv⟩ := bnew_tot tic_rz hp
  have hs : f31 9000 TIC (fresh TIC) 0 = some (0, 0, ()) := by
    unfold f31 f40 f45 f56
    rw [hv, Option.bind_some, Sum.elim_inl]
    dsimp only
    rw [beq1 rfl, bf1 (by decide), bf1 (by decide), Option.bind_some, Sum.elim_inl]
    dsimp only
    rw [beq1 rfl]
    have hc : f57 9000 (50000, ()) (TIC, fresh TIC, v, [], ()) 0 = some (1, (49999, ()), (TIC, fresh TIC, v, [], ()), ()) := by
      have h := cnt0 (9000 - 1) (TIC, fresh TIC, v, [], ())
      rw [show (9000 - 1 + 1 : Nat) = 9000 from rfl] at h
      unfold f57
      exact h
    rw [hc, Option.bind_some]
    dsimp only
    rw [bf1 (by decide), Option.bind_some, Option.bind_some]
    dsimp only
    rw [beq1 rfl]
    have hw : f42 9000 (TIC, fresh TIC, v, [], ()) 0 = some (0, (TIC, fresh TIC, v, [], ()), ()) := by
      have h := val0 (9000 - 1) v
      rw [show (9000 - 1 + 1 : Nat) = 9000 from rfl] at h
      unfold f42
      exact h
    rw [Option.bind_some, Sum.elim_inl]
    dsimp only
    rw [hw, Option.bind_some]
  rw [hs, Option.bind_some]
  dsimp only
  rw [beq1 rfl, bf1 (by decide), bf1 (by decide), Option.bind_some]
  rfl
section
variable {r : RU}
/-! ### Rules without pieces -/
theorem wo13 (pl : Int) (sq : List Int) (s6 s9 : RU) (s11 : Int) (a : List Int) (b c : Int) (l : List Int) (hl : l.length ≤ 50) : ∀ (j i : Nat), i ≤ l.length → l.length < i + j →
    l17_13 9000 j pl sq s6 s9 s11 a b c l l.length i = some (.inl (pl, sq, s6, s9, s11, a, b, c, ())) ∨ ∃ z, l17_13 9000 j pl sq s6 s9 s11 a b c l l.length i = some (.inr (z, 7, ()))
  | 0, i, h, h' => by omega
  | j + 1, i, h, h' => by
    rw [l17_13]
    by_cases hi : i < l.length
    · have e : ((i : Int) + 1) = ((i + 1 : Nat) : Int) := by omega
      rw [bt1 (show (i : Int) < l.length by omega), bt2 ⟨by omega, by omega⟩]
      cases rd 0 l (i : Int) == s11
      · rw [cond_false, ws (by omega), e]
        exact wo13 pl sq s6 s9 s11 a b c l hl j (i + 1) (by omega) (by omega)
      · exact .inr ⟨_, rfl⟩
    · rw [bf1 (show ¬ (i : Int) < l.length by omega)]
      exact .inl rfl
theorem wo8 (pl : Int) (sq : List Int) (hl : sq.length ≤ 50) (s6 : RU) : ∀ (j i : Nat) (s9 : RU), i ≤ sq.length → sq.length < i + j →
    (∃ o, l17_8 9000 j pl sq s6 s9 sq sq.length i = some (.inl (s6, o, ()))) ∨ ∃ z e, e ≠ 0 ∧ l17_8 9000 j pl sq s6 s9 sq sq.length i = some (.inr (z, e, ()))
  | 0, i, s9, h, h' => by omega
  | j + 1, i, s9, h, h' => by
    rw [l17_8]
    by_cases hi : i < sq.length
    · have e : ((i : Int) + 1) = ((i + 1 : Nat) : Int) := by omega
      rw [bt1 (show (i : Int) < sq.length by omega), bt2 ⟨by omega, by omega⟩]
      by_cases h0 : rd 0 sq (i : Int) < 0
      · rw [bt1 h0]; exact .inr ⟨_, 4, by decide, rfl⟩
      rw [bf1 h0]
      by_cases h1 : rd 0 sq (i : Int) ≥ (s9.2.2.2.2.1.length : Int)
      · rw [bt1 h1]; exact .inr ⟨_, 4, by decide, rfl⟩
      rw [bf1 h1, bt2 ⟨by omega, by omega⟩]
      rcases wo13 pl sq s6 s9 (rd 0 sq (i : Int)) sq (sq.length : Int) (i : Int) (sliceOf sq 0 (i : Int)) (by unfold sliceOf; simp; omega) 9000 0 (by omega) (by unfold sliceOf; simp; omega) with h | ⟨z, h⟩
      · rw [show ((0 : Nat) : Int) = 0 from rfl] at h
        rw [h, Option.bind_some, Sum.elim_inl]
        dsimp only
        rw [bt2 ⟨by omega, by omega⟩, own_eq, Option.bind_some]
        dsimp only
        generalize (bif rd 0 s9.2.2.2.2.1 (rd 0 sq (i : Int)) == 0 then (-1 : Int) else (w64 (rd 0 s9.2.2.2.2.1 (rd 0 sq (i : Int)) - 1)).tmod 2) = ow
        cases ow != pl
        · rw [cond_false, bt2 ⟨by omega, by omega⟩, ws (by omega), e]
          exact wo8 pl sq hl s6 j (i + 1) _ (by omega) (by omega)
        · exact .inr ⟨_, 8, by decide, rfl⟩
      · rw [show ((0 : Nat) : Int) = 0 from rfl] at h
        rw [h, Option.bind_some, Sum.elim_inr]
        exact .inr ⟨_, 7, by decide, rfl⟩
    · rw [bf1 (show ¬ (i : Int) < sq.length by omega)]
      exact .inl ⟨_, rfl⟩
abbrev Z0 : RU := ((⟨#[]⟩ : ByteArray), 0, 0, [], [], false, false, [], 0, 0, 0, ())
/-- What cannot be: the rules are wrong, or there is no such player. -/
theorem wo_bad (r : RU) (pl : Int) (h : ¬ (Rz r ∧ 0 ≤ pl ∧ pl ≤ 1)) : ∃ e, e ≠ 0 ∧ ∀ sq, f17 9000 r pl sq = some (Z0, e, ()) := by
  obtain ⟨e, he, _⟩ := rules_tot r
  by_cases h0 : e = 0
  rotate_left
  · refine ⟨e, h0, fun sq => ?_⟩
    unfold f17
    rw [he, Option.bind_some]
    dsimp only
    rw [bne1 h0]
  · have hz : Rz r := by unfold Rz; rw [he, h0]
    refine ⟨1, by decide, fun sq => ?_⟩
    unfold f17
    rw [he, Option.bind_some]
    dsimp only
    rw [beq1 h0]
    have h2 : ¬ (0 ≤ pl ∧ pl ≤ 1) := fun hh => h ⟨hz, hh⟩
    by_cases h1 : pl < 0
    · rw [bt1 h1]
    · rw [bf1 h1, bt1 (show pl > 1 by omega)]
theorem wo8_nil (j : Nat) (pl : Int) : l17_8 9000 (j + 1) pl [] Z0 r [] (([] : List Int).length : Int) 0 = some (.inl (Z0, r, ())) := by
  rw [l17_8, bf1 (by decide)]
theorem wo_nil (hz : Rz r) {pl : Int} (h : 0 ≤ pl ∧ pl ≤ 1) : f17 9000 r pl [] = some (r, 0, ()) := by
  unfold f17
  rw [show f27 9000 r = some (0, ()) from hz, Option.bind_some]
  dsimp only
  rw [beq1 rfl, bf1 (by omega), bf1 (by omega), rcopy_eq hz.ok, Option.bind_some]
  dsimp only
  have h8 : l17_8 9000 9000 pl [] Z0 r [] (([] : List Int).length : Int) 0 = some (.inl (Z0, r, ())) := wo8_nil (9000 - 1) pl
  rw [h8, Option.bind_some, Sum.elim_inl]
  dsimp only
  rw [show f27 9000 r = some (0, ()) from hz, Option.bind_some]
  dsimp only
  rw [beq1 rfl]
theorem wo_tot (r : RU) (pl : Int) (sq : List Int) (hl : sq.length ≤ 50) : ∃ o e, f17 9000 r pl sq = some (o, e, ()) := by
  by_cases h : Rz r ∧ 0 ≤ pl ∧ pl ≤ 1
  rotate_left
  · obtain ⟨e, _, he⟩ := wo_bad r pl h
    exact ⟨_, _, he sq⟩
  obtain ⟨hz, h0, h1⟩ := h
  unfold f17
  rw [show f27 9000 r = some (0, ()) from hz, Option.bind_some]
  dsimp only
  rw [beq1 rfl, bf1 (by omega), bf1 (by omega), rcopy_eq hz.ok, Option.bind_some]
  dsimp only
  rcases wo8 pl sq hl Z0 9000 0 r (by omega) (by omega) with ⟨o, h⟩ | ⟨z, e, _, h⟩
  · rw [show ((0 : Nat) : Int) = 0 from rfl] at h
    rw [h, Option.bind_some, Sum.elim_inl]
    dsimp only
    obtain ⟨e, he, _⟩ := rules_tot o
    rw [he, Option.bind_some]
    dsimp only
    cases e != 0
    · exact ⟨_, _, rfl⟩
    · exact ⟨_, _, rfl⟩
  · rw [show ((0 : Nat) : Int) = 0 from rfl] at h
    rw [h, Option.bind_some, Sum.elim_inr]
    exact ⟨_, _, rfl⟩
/-- The search for the least number, from one piece less on. -/
theorem least5 (pl : Int) (sq : List Int) (hl : sq.length ≤ 50) (x : Int) : ∀ (j i : Nat), 1 ≤ i → i ≤ sq.length + 1 → sq.length + 1 < i + j →
    l19_5 9000 j pl sq x r ((sq.length + 1 : Nat) : Int) i = some (.inl ()) ∨ (∃ e, e ≠ 0 ∧ l19_5 9000 j pl sq x r ((sq.length + 1 : Nat) : Int) i = some (.inr (0, e, ()))) ∨ ∃ n : Int, n ≠ 0 ∧ l19_5 9000 j pl sq x r ((sq.length + 1 : Nat) : Int) i = some (.inr (n, 0, ()))
  | 0, i, h, h', h'' => by omega
  | j + 1, i, h, h', h'' => by
    rw [l19_5]
    by_cases hi : i < sq.length + 1
    · have e : ((i : Int) + 1) = ((i + 1 : Nat) : Int) := by omega
      rw [bt1 (show (i : Int) < ((sq.length + 1 : Nat) : Int) by omega), bt2 ⟨by omega, by omega⟩]
      obtain ⟨o, e1, ho⟩ := wo_tot r pl (sliceOf sq 0 (i : Int)) (by unfold sliceOf; simp; omega)
      rw [ho, Option.bind_some]
      dsimp only
      by_cases h1 : e1 = 0
      rotate_left
      · rw [bne1 h1]; exact .inr (.inl ⟨e1, h1, rfl⟩)
      rw [beq1 h1]
      obtain ⟨w, e2, hw⟩ := wins_tot o x
      rw [hw, Option.bind_some]
      dsimp only
      by_cases h2 : e2 = 0
      rotate_left
      · rw [bne1 h2]; exact .inr (.inl ⟨e2, h2, rfl⟩)
      rw [beq1 h2]
      cases w != w64 (1 + pl)
      · rw [cond_false, ws (by omega), e]
        exact least5 pl sq hl x j (i + 1) (by omega) (by omega) (by omega)
      · exact .inr (.inr ⟨(i : Int), by omega, rfl⟩)
    · rw [bf1 (show ¬ (i : Int) < ((sq.length + 1 : Nat) : Int) by omega)]
      exact .inl rfl
theorem least0 (hz : Rz r) {pl : Int} (hp : 0 ≤ pl ∧ pl ≤ 1) (sq : List Int) (x : Int) {a f : Int} (hw : f18 9000 r x = some (a, f, ())) (j : Nat) :
    l19_5 9000 (j + 1) pl sq x r ((sq.length + 1 : Nat) : Int) 0 = (bif f != 0 then some (.inr (0, f, ())) else bif a != w64 (1 + pl) then some (.inr (0, 0, ())) else l19_5 9000 j pl sq x r ((sq.length + 1 : Nat) : Int) ((1 : Nat) : Int)) := by
  rw [l19_5, bt1 (by omega), bt2 ⟨by omega, by omega⟩, show sliceOf sq 0 0 = [] by unfold sliceOf; simp, wo_nil hz hp, Option.bind_some]
  dsimp only
  rw [beq1 rfl, hw, Option.bind_some]
  dsimp only
  rw [show w64 (0 + 1) = ((1 : Nat) : Int) by decide]
end
theorem cut3 {α : Type} (l : List α) : (sliceOf l 0 (if 3 < (l.length : Int) then 3 else (l.length : Int))).length ≤ 3 ∧ (0 : Int) ≤ (if 3 < (l.length : Int) then 3 else (l.length : Int)) ∧ (if 3 < (l.length : Int) then 3 else (l.length : Int)) ≤ (l.length : Int) := by
  unfold sliceOf
  by_cases h : 3 < (l.length : Int)
  · rw [if_pos h]
    exact ⟨by simp; omega, by omega, by omega⟩
  · rw [if_neg h]
    exact ⟨by simp; omega, by omega, by omega⟩
/-- **HandicapNone**. -/
theorem none_pure (r : RU) (pl : Int) (sq0 : List Int) (x : Int) : f7 9000 r pl sq0 x = some (true, ()) := by
  unfold f7
  rw [hand_eq, Option.bind_some]
  dsimp only
  rw [Bool.not_true, cond_false]
  obtain ⟨c1, c2, c3⟩ := cut3 sq0
  rw [bt2 ⟨c2, c3⟩]
  generalize sliceOf sq0 0 (if 3 < (sq0.length : Int) then 3 else (sq0.length : Int)) = sq at c1 ⊢
  unfold f16
  rw [Option.bind_some]
  dsimp only
  cases decide ((r.2.2.2.2.1.length : Int) > 20)
  rotate_left
  · rfl
  rw [cond_false]
  cases decide (x > 3)
  rotate_left
  · rfl
  rw [cond_false]
  obtain ⟨a, f, hw⟩ := wins_tot r x
  by_cases hg : Rz r ∧ 0 ≤ pl ∧ pl ≤ 1
  rotate_left
  · obtain ⟨e, he, hb⟩ := wo_bad r pl hg
    obtain ⟨b, g, hw2⟩ := wins_tot Z0 x
    rw [hb [], Option.bind_some, hw, Option.bind_some]
    dsimp only
    rw [hw2, Option.bind_some]
    have hl : f19 9000 r pl sq x = some (0, e, ()) := by
      unfold f19
      rw [hb sq, Option.bind_some]
      dsimp only
      rw [bne1 he]
    rw [hl, Option.bind_some]
    dsimp only
    rw [bne1 he, be1 rfl]
    rfl
  obtain ⟨hz, hp⟩ := hg
  obtain ⟨o, i, ho⟩ := wo_tot r pl sq (by omega)
  rw [wo_nil hz hp, Option.bind_some, hw, Option.bind_some]
  dsimp only
  rw [Option.bind_some]
  dsimp only
  by_cases hi : i = 0
  rotate_left
  · have hl : f19 9000 r pl sq x = some (0, i, ()) := by
      unfold f19
      rw [ho, Option.bind_some]
      dsimp only
      rw [bne1 hi]
    rw [hl, Option.bind_some]
    dsimp only
    rw [beq1 rfl, ho, Option.bind_some]
    dsimp only
    rw [bne1 hi, be1 rfl]
    rfl
  -- the search
  have key : (f ≠ 0 ∧ f19 9000 r pl sq x = some (0, f, ())) ∨ (f = 0 ∧ a ≠ w64 (1 + pl) ∧ f19 9000 r pl sq x = some (0, 0, ())) ∨
      (f = 0 ∧ a = w64 (1 + pl) ∧ ∃ n e, f19 9000 r pl sq x = some (n, e, ()) ∧ (e = 0 → n ≠ 0)) := by
    have h5 := least0 hz hp sq x hw (9000 - 1)
    rw [show l19_5 9000 (9000 - 1 + 1) pl sq x r ((sq.length + 1 : Nat) : Int) 0 = l19_5 9000 9000 pl sq x r ((sq.length + 1 : Nat) : Int) 0 from rfl] at h5
    have hw1 : w64 ((sq.length : Int) + 1) = ((sq.length + 1 : Nat) : Int) := by rw [ws (by omega)]; rfl
    have hL : f19 9000 r pl sq x = (l19_5 9000 9000 pl sq x r ((sq.length + 1 : Nat) : Int) 0).bind fun w27 => Sum.elim (fun _ => some (0, 8, ())) (fun y3 => some y3) w27 := by
      unfold f19
      rw [ho, Option.bind_some]
      dsimp only
      rw [beq1 hi, hw1]
    rw [hL, h5]
    by_cases hf : f = 0
    rotate_left
    · rw [bne1 hf]
      exact .inl ⟨hf, rfl⟩
    rw [beq1 hf]
    by_cases ha : a = w64 (1 + pl)
    rotate_left
    · rw [bne1 ha]
      exact .inr (.inl ⟨hf, ha, rfl⟩)
    rw [beq1 ha]
    refine .inr (.inr ⟨hf, ha, ?_⟩)
    rcases least5 (r := r) pl sq (by omega) x (9000 - 1) 1 (by omega) (by omega) (by omega) with h | ⟨e, he, h⟩ | ⟨n, hn, h⟩
    · rw [h]
      exact ⟨0, 8, rfl, fun h => by simp at h⟩
    · rw [h]
      exact ⟨0, e, rfl, fun h => absurd h he⟩
    · rw [h]
      exact ⟨n, 0, rfl, fun _ => hn⟩
  rcases key with ⟨hf, hl⟩ | ⟨hf, ha, hl⟩ | ⟨hf, ha, n, e, hl, hn⟩
  · rw [hl, Option.bind_some]
    dsimp only
    rw [beq1 rfl, ho, Option.bind_some]
    dsimp only
    rw [beq1 hi, beq1 rfl, beq1 rfl, bne1 hf, be1 rfl]
    simp
  · rw [hl, Option.bind_some]
    dsimp only
    rw [beq1 rfl, ho, Option.bind_some]
    dsimp only
    rw [beq1 hi, beq1 rfl, beq1 rfl, beq1 hf, beq1 rfl, be1 rfl]
    simp [ha]
  · rw [hl, Option.bind_some]
    dsimp only
    rw [beq1 rfl, ho, Option.bind_some]
    dsimp only
    rw [beq1 hi, beq1 rfl, beq1 rfl, beq1 hf]
    by_cases he : e = 0
    · rw [beq1 he, be1 he]
      have := hn he
      simp [ha, this]
    · rw [bne1 he]
      by_cases h8 : e = 8
      · rw [beq1 h8, bn1 he]
        simp [ha]
      · rw [bne1 h8, be1 rfl]
        simp
theorem none_x (x : RU × Int × List Int × Int × Unit) : f7 9000 x.1 x.2.1 x.2.2.1 x.2.2.2.1 = some (true, ()) := none_pure x.1 x.2.1 x.2.2.1 x.2.2.2.1
end Go.Proofs.Ytnjjioeehbanjaa.G
