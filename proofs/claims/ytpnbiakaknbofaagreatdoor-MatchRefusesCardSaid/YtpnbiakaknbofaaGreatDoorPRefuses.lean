/- MatchRefuses: an event that is refused changes nothing. -/
import Derived.Test.YtpnbiakaknbofaaGreatDoorTJou
namespace Go.Proofs.YtpnbiakaknbofaaGreatDoor.G
open Go.VM Go.Proofs
theorem pm_l (s : ST) (hl : s.2.2.2.2.2.1.length ≤ 90) : ∀ (j i : Nat), i ≤ s.2.2.2.2.2.1.length → s.2.2.2.2.2.1.length < i + j → l15_4 9000 j s s (s.2.2.2.2.2.1.length : Int) i = some (.inl (s, s, ()))
  | 0, i, h, h' => by omega
  | j + 1, i, h, h' => by
    rw [l15_4]
    by_cases hi : i < s.2.2.2.2.2.1.length
    · rw [bt1 (show (i : Int) < s.2.2.2.2.2.1.length by omega), bt2 ⟨by omega, by omega⟩, bt2 ⟨by omega, by omega⟩, ws (by omega)]
      simp only [beq_self_eq_true, Bool.and_self, Bool.not_true, cond_false]
      exact pm_l s hl j (i + 1) (by omega) (by omega)
    · rw [bf1 (show ¬ (i : Int) < s.2.2.2.2.2.1.length by omega)]
theorem same_st (s : ST) (h1 : s.1.length ≤ 50) (h2 : s.2.2.2.2.2.1.length ≤ 50) : f15 9000 s s = some (true, ()) := by
  unfold f15
  rw [line_eq _ h1]
  simp only [Option.bind_some, Bool.not_true, cond_false]
  rw [beq1 rfl]
  have := pm_l s (by omega) 9000 0 (by omega) (by omega)
  rw [show ((0 : Nat) : Int) = 0 from rfl] at this
  rw [this]
  simp only [Option.bind_some, Sum.elim_inl, beq_self_eq_true, cond_true, Bool.and_self]
section
variable {r : RU}
theorem refuses10 (hz : Rz r) (l : List EV) (hl : l.length ≤ 25) (hw : ∀ e ∈ l, EvOK e) : ∀ (j i : Nat) (m : MT), i ≤ l.length → l.length < i + j → MOK r m → m.2.2.2.2.2.1.length ≤ i + 1 → l3_10 9000 j m l (l.length : Int) i = some (.inl ())
  | 0, i, m, h, h', _, _ => by omega
  | j + 1, i, m, h, h', hm, hn => by
    rw [l3_10]
    by_cases hi : i < l.length
    · obtain ⟨n1, n2⟩ := hm.len (by omega)
      have hst := state_eq (m := m) (by omega) (by omega)
      have hjo := journal_eq (m := m) (by omega)
      rw [bt1 (show (i : Int) < l.length by omega), bt2 ⟨by omega, by omega⟩, hst]
      simp only [Option.bind_some]
      rw [hjo]
      simp only [Option.bind_some]
      have e : ((i : Int) + 1) = ((i + 1 : Nat) : Int) := by omega
      rcases mdo_tot hz hm (e := rd ((0, 0, 0, 0, (0, 0, 0, ()), ()) : EV) l (i : Int)) (hw _ (rd_memL _ l i hi)) (by omega) with ⟨x, hx, hd⟩ | ⟨m', hd, hm', ⟨h1, hev⟩, _⟩
      · rw [hd]
        simp only [Option.bind_some]
        rw [bne1 hx, hst]
        simp only [Option.bind_some]
        rw [same_st (stOf m) (by show m.2.2.1.2.2.1.length ≤ 50; omega) (by show m.2.2.2.1.2.2.2.2.2.1.length ≤ 50; omega)]
        simp only [Option.bind_some, Bool.not_true, cond_false]
        rw [hjo]
        simp only [Option.bind_some]
        rw [beq1 rfl, bn1 hx, ws (by omega), e]
        exact refuses10 hz l hl hw j (i + 1) m (by omega) (by omega) hm (by omega)
      · rw [hd]
        simp only [Option.bind_some]
        have hlen : m'.2.2.2.2.2.1.length = m.2.2.2.2.2.1.length + 1 := by rw [hev]; simp
        rw [beq1 rfl, be1 rfl, journal_eq (m := m') (by omega)]
        simp only [Option.bind_some]
        rw [beq1 (by rw [ws (n := (m.2.2.2.2.2.1.length : Int) + 1) (by omega)]; omega), ws (by omega), e]
        exact refuses10 hz l hl hw j (i + 1) m' (by omega) (by omega) hm' (by omega)
    · rw [bf1 (show ¬ (i : Int) < l.length by omega)]
end
/-- **MatchRefuses**. -/
theorem refuses_pure (r : RU) (cr : CR) (l : List EV) (hl : ∀ e ∈ l, WfD EVT e) : f3 9000 r cr l = some (true, ()) := by
  unfold f3
  rw [plays_eq]
  simp only [Option.bind_some, Bool.not_true, cond_false]
  obtain ⟨c1, c2, c3⟩ := cut25 l
  rw [bt2 ⟨c2, c3⟩, c1]
  unfold f10
  simp only [Option.bind_some]
  cases decide ((r.2.2.2.2.1.length : Int) > 20)
  rotate_left
  · rfl
  simp only [cond_false]
  rcases mnew_tot r cr 0 with ⟨⟨e, he, h⟩, _⟩ | ⟨hz, m, c, h, hm, _, _, s, h0, hms, _⟩
  · rw [h]
    simp only [Option.bind_some, Sum.elim_inr]
    rw [bne1 he]
  · rw [h]
    simp only [Option.bind_some, Sum.elim_inl]
    rw [beq1 rfl]
    have := refuses10 hz (l.take 25) (by simp; omega) (fun e he => evok_of (hl e (List.mem_of_mem_take he))) 9000 0 m (by omega) (by simp; omega) hm (by rw [hms]; simp)
    rw [show ((0 : Nat) : Int) = 0 from rfl] at this
    rw [this]
    rfl
theorem refuses_x (x : RU × CR × List EV × Unit) (h : ∀ e ∈ x.2.2.1, WfD EVT e) : f3 9000 x.1 x.2.1 x.2.2.1 = some (true, ()) := refuses_pure x.1 x.2.1 x.2.2.1 h
end Go.Proofs.YtpnbiakaknbofaaGreatDoor.G
