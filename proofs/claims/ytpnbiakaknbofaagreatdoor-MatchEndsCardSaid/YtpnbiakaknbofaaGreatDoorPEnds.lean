/- MatchEnds: the moves of a match replay to its position and its result; an ended match takes no event. -/
import Derived.Test.YtpnbiakaknbofaaGreatDoorTRunE
namespace Go.Proofs.YtpnbiakaknbofaaGreatDoor.G
open Go.VM Go.Proofs
theorem Plays.det : ∀ {ms : List MV} {g a b : GM}, Plays g ms a → Plays g ms b → a = b
  | [], g, a, b, h1, h2 => by rw [← show g = a from h1]; exact h2
  | m :: ms, g, a, b, ⟨x, h1, h2⟩, ⟨y, h3, h4⟩ => by
    rw [h1] at h3
    simp only [Option.some.injEq, Prod.mk.injEq, true_and, and_true] at h3
    subst h3
    exact Plays.det h2 h4
section
variable {r : RU}
theorem ends10 (hz : Rz r) (last : EV) (l : List EV) (hl : l.length ≤ 25) (hw : ∀ e ∈ l, EvOK e) : ∀ (j i : Nat) (m : MT), i ≤ l.length → l.length < i + j → MOK r m → m.2.2.2.2.2.1.length ≤ i + 1 →
    ∃ m', l4_10 9000 j r last m l (l.length : Int) i = some (r, last, m', ()) ∧ MOK r m' ∧ m'.2.2.2.2.2.1.length ≤ l.length + 1
  | 0, i, m, h, h', _, _ => by omega
  | j + 1, i, m, h, h', hm, hn => by
    rw [l4_10]
    by_cases hi : i < l.length
    · rw [bt1 (show (i : Int) < l.length by omega), bt2 ⟨by omega, by omega⟩]
      have e : ((i : Int) + 1) = ((i + 1 : Nat) : Int) := by omega
      rcases mdo_tot hz hm (e := rd ((0, 0, 0, 0, (0, 0, 0, ()), ()) : EV) l (i : Int)) (hw _ (rd_memL _ l i hi)) (by omega) with ⟨x, hx, hd⟩ | ⟨m', hd, hm', ⟨h1, hev⟩, _⟩
      · rw [hd]
        simp only [Option.bind_some]
        rw [ws (by omega), e]
        exact ends10 hz last l hl hw j (i + 1) m (by omega) (by omega) hm (by omega)
      · rw [hd]
        simp only [Option.bind_some]
        have hlen : m'.2.2.2.2.2.1.length = m.2.2.2.2.2.1.length + 1 := by rw [hev]; simp
        rw [ws (by omega), e]
        exact ends10 hz last l hl hw j (i + 1) m' (by omega) (by omega) hm' (by omega)
    · rw [bf1 (show ¬ (i : Int) < l.length by omega)]
      exact ⟨m, rfl, hm, by omega⟩
theorem mpos_eq (hz : Rz r) {m : MT} (hm : MOK r m) (hl : m.2.2.2.2.2.1.length ≤ 45) : f18 9000 m = some (m.2.2.1.now, m, ()) ∧ POK r m.2.2.1.now := by
  obtain ⟨n1, _⟩ := hm.len hl
  have hok := hm.g.ok hz (by omega)
  refine ⟨?_, (hok.now_eq hz.ok (by omega)).2⟩
  unfold f18
  rw [pos_eq hz.ok hok (by omega)]
  rfl
theorem sameP_refl (p : PO) : SameP p p := ⟨rfl, rfl, rfl, rfl⟩
/-- The moves of a match replay to its position and to the result of the board. -/
theorem replay (hz : Rz r) {m : MT} (hm : MOK r m) (hl : m.2.2.2.2.2.1.length ≤ 45) : ∃ x, f16 9000 r m.2.2.1.2.2.1 = some (m.2.2.1.now, x, 0, ()) ∧ ResOK m.2.2.2.1 x := by
  obtain ⟨n1, _⟩ := hm.len hl
  obtain ⟨x, hx, hr⟩ := hm.st
  rcases run_tot r m.2.2.1.2.2.1 (by omega) with ⟨_, g, y, hp, _, _, hy, hrun⟩ | ⟨_, h⟩
  · have := Plays.det hp hm.g
    subst this
    rw [hx] at hy
    simp only [Option.some.injEq, Prod.mk.injEq, and_true] at hy
    subst hy
    exact ⟨x, hrun, hr⟩
  · exact absurd ⟨hz, _, hm.g⟩ h
end
/-- **MatchEnds**. -/
theorem ends_pure (r : RU) (cr : CR) (l : List EV) (last : EV) (hl : ∀ e ∈ l, WfD EVT e) (hlast : WfD EVT last) : f4 9000 r cr l last = some (true, ()) := by
  unfold f4
  rw [plays_eq]
  simp only [Option.bind_some, Bool.not_true, cond_false]
  obtain ⟨c1, c2, c3⟩ := cut25 l
  rw [bt2 ⟨c2, c3⟩, c1]
  unfold f10
  simp only [Option.bind_some]
  cases decide ((r.2.2.2.2.1.length : Int) > 20)
  rotate_left
  · rfl
  simp only [cond_false]
  rcases mnew_tot r cr 0 with ⟨⟨e, he, h⟩, _⟩ | ⟨hz, m, c, h, hm, _, _, s, h0, hms, _⟩
  · rw [h]
    simp only [Option.bind_some, Sum.elim_inr]
    rw [bne1 he]
  · rw [h]
    simp only [Option.bind_some, Sum.elim_inl]
    rw [beq1 rfl]
    obtain ⟨m1, h1, hm1, hn1⟩ := ends10 hz last (l.take 25) (by simp; omega) (fun e he => evok_of (hl e (List.mem_of_mem_take he))) 9000 0 m (by omega) (by simp; omega) hm (by rw [hms]; simp)
    have hn1 : m1.2.2.2.2.2.1.length ≤ 26 := by
      have : (l.take 25).length ≤ 25 := by simp; omega
      omega
    rw [show ((0 : Nat) : Int) = 0 from rfl] at h1
    rw [h1]
    simp only [Option.bind_some]
    obtain ⟨n1, n2⟩ := hm1.len (by omega)
    rw [state_eq (by omega) (by omega)]
    simp only [Option.bind_some]
    obtain ⟨x, hx, hr⟩ := replay hz hm1 (by omega)
    rw [show (stOf m1).1 = m1.2.2.1.2.2.1 from rfl, hx]
    simp only [Option.bind_some]
    rw [beq1 rfl]
    obtain ⟨hp, hpok⟩ := mpos_eq hz hm1 (by omega)
    rw [hp]
    simp only [Option.bind_some]
    rw [same_eq hpok, decide_eq_true (sameP_refl _)]
    simp only [Option.bind_some, Bool.not_true, cond_false]
    rw [show (stOf m1).2.1 = m1.2.2.2.1.2.1 from rfl, show (stOf m1).2.2.1 = m1.2.2.2.1.2.2.1 from rfl]
    have hd : m1.2.2.2.1.2.1 ≠ 0 → ∃ y, y ≠ 0 ∧ f14 9000 m1 last = some (y, m1, ()) := by
      intro hne
      rcases mdo_tot hz hm1 (evok_of hlast) (by omega) with h | ⟨_, _, _, _, h⟩
      · exact h
      · exact absurd h hne
    rcases hr with ⟨a, b, c⟩ | ⟨a, b, c⟩ | ⟨a, b, c⟩
    · rw [be1 a, be1 c, b]; rfl
    · obtain ⟨y, hy, hdo⟩ := hd a
      rw [bn1 a, hdo]
      simp only [Option.bind_some]
      rw [bne1 hy, c, show ((m1.2.2.2.1.2.2.1 == 1) == ((0 : Int) != 0)) = true by simp [b]]
      rfl
    · obtain ⟨y, hy, hdo⟩ := hd (by rw [a]; exact b)
      rw [bn1 (by rw [a]; exact b), hdo]
      simp only [Option.bind_some]
      rw [bne1 hy, a, c, show (((1 : Int) == 1) == (x != 0)) = true by simp [b]]
      simp only [cond_true]
      rw [bn1 b]
      simp
theorem ends_x (x : RU × CR × List EV × EV × Unit) (h : ∀ e ∈ x.2.2.1, WfD EVT e) (h2 : WfD EVT x.2.2.2.1) : f4 9000 x.1 x.2.1 x.2.2.1 x.2.2.2.1 = some (true, ()) := ends_pure x.1 x.2.1 x.2.2.1 x.2.2.2.1 h h2
end Go.Proofs.YtpnbiakaknbofaaGreatDoor.G
