/- ClockDelays, as a plain fact. -/
import Derived.Test.YtfalgaldkadgoaaPClock
namespace Go.Proofs.Ytfalgaldkadgoaa.G
open Go.VM Go.Proofs

theorem press1 (ps : PS) (inc l0 l1 m0 m1 p0 p1 since fallen now : Int) : ∃ A M P : Int, ∀ dly, RuOK ps inc dly → usd dly since false now ≤ l1 → since ≤ now → now ≤ 100000000 → fallen < 0 → ClOK ps l0 l1 m0 m1 p0 p1 1 since fallen →
    f22 100 (ps, inc, dly, ()) ((l0, l1, ()), (m0, m1, ()), (p0, p1, ()), 1, since, false, fallen, ()) now =
      some (((l0, if 100000000000 < l1 + (inc - usd dly since false now) + A then 100000000000 else l1 + (inc - usd dly since false now) + A, ()), (m0, M, ()), (p0, P, ()), 0, now, false, fallen, ()), 0, ()) := by
  by_cases ov : (rd ((0, 0, ()) : Int × Int × Unit) ps p1).1 > 0
  · by_cases ov2 : (if 400 < m1 + 1 then 400 else m1 + 1) ≥ (rd ((0, 0, ()) : Int × Int × Unit) ps p1).1
    · refine ⟨(rd ((0, 0, ()) : Int × Int × Unit) ps (p1 + 1)).2.1, 0, p1 + 1, fun dly hr hu ha hb hf hc => ?_⟩
      obtain ⟨t0, t1, f0, f1, s0, s1, ⟨a1, a2, a3, a4, a5, a6⟩, b3, b4, b5, b6, b7, b8⟩ := id hc
      obtain ⟨r1, r2, r3, r4, r5, r6, r7⟩ := id hr
      have hu0 := usd_le (dly := dly) (since := since) (stopped := false) r5 ha
      rcases f28_spec ps inc dly l0 l1 m0 m1 p0 p1 1 since false fallen now with ⟨_, _, _, hn⟩ | ⟨h, _⟩
      · exact absurd ⟨hr, hc, ha, hb⟩ hn
      unfold lk at h
      rw [if_neg (fun h => by have : lft l0 l1 1 = l1 := rfl; omega)] at h
      have h45 := f45_spec ps inc dly (l0, l1, ()) (m0, m1, ()) (p0, p1, ()) 1 since false fallen now r5 r6 s0 ha hb
      obtain ⟨g, eg⟩ := rd_good hr b3 b4
      obtain ⟨g1, g2, g3, g4, g5⟩ := g
      rw [eg] at g1 g2 g3 g4 g5
      have hlast : p1 + 1 < ps.length := by
        have : ¬ p1 = (ps.length : Int) - 1 := fun h => by have := g5.2 h; omega
        omega
      obtain ⟨k, ek⟩ := rd_good hr (p := p1 + 1) (by omega) hlast
      obtain ⟨k1, k2, k3, k4, _⟩ := k
      rw [ek] at k1 k2 k3 k4
      have e1 : w64 (inc - usd dly since false now) = inc - usd dly since false now := wid (by omega)
      have e2 : w64 (l1 + (inc - usd dly since false now)) = l1 + (inc - usd dly since false now) := wid (by omega)
      have e3 : w64 (m1 + 1) = m1 + 1 := wid (by omega)
      have e4 : w64 (p1 + 1) = p1 + 1 := wid (by omega)
      have e5 : w64 (l1 + (inc - usd dly since false now) + (rd ((0, 0, ()) : Int × Int × Unit) ps (p1 + 1)).2.1) = l1 + (inc - usd dly since false now) + (rd ((0, 0, ()) : Int × Int × Unit) ps (p1 + 1)).2.1 := wid (by omega)
      have e6 : w64 (1 - 1) = 0 := by decide
      have d0 : decide (fallen ≥ 0) = false := decide_eq_false (by omega)
      have d1 : decide (0 ≤ p1) = true := decide_eq_true b3
      have d2 : decide (p1 < (ps.length : Int)) = true := decide_eq_true b4
      have d3 : decide (0 ≤ p1 + 1) = true := decide_eq_true (by omega)
      have d4 : decide (p1 + 1 < (ps.length : Int)) = true := decide_eq_true hlast
      unfold f22 c22_11 c22_12 c22_15
      simp only [h, h45, e1, e2, e3, e4, e5, e6, d0, d1, d2, d3, d4, decide_eq_true ov, decide_eq_true ov2, Option.bind_some, show ((0 : Int) != 0) = false from rfl, show ((1 : Int) == 0) = false from rfl, show ((1 : Int) == 1) = true from rfl, cond_true, cond_false, Bool.and_self]
    · refine ⟨0, if 400 < m1 + 1 then 400 else m1 + 1, p1, fun dly hr hu ha hb hf hc => ?_⟩
      obtain ⟨t0, t1, f0, f1, s0, s1, ⟨a1, a2, a3, a4, a5, a6⟩, b3, b4, b5, b6, b7, b8⟩ := id hc
      obtain ⟨r1, r2, r3, r4, r5, r6, r7⟩ := id hr
      have hu0 := usd_le (dly := dly) (since := since) (stopped := false) r5 ha
      rcases f28_spec ps inc dly l0 l1 m0 m1 p0 p1 1 since false fallen now with ⟨_, _, _, hn⟩ | ⟨h, _⟩
      · exact absurd ⟨hr, hc, ha, hb⟩ hn
      unfold lk at h
      rw [if_neg (fun h => by have : lft l0 l1 1 = l1 := rfl; omega)] at h
      have h45 := f45_spec ps inc dly (l0, l1, ()) (m0, m1, ()) (p0, p1, ()) 1 since false fallen now r5 r6 s0 ha hb
      have e1 : w64 (inc - usd dly since false now) = inc - usd dly since false now := wid (by omega)
      have e2 : w64 (l1 + (inc - usd dly since false now)) = l1 + (inc - usd dly since false now) := wid (by omega)
      have e3 : w64 (m1 + 1) = m1 + 1 := wid (by omega)
      have e6 : w64 (1 - 1) = 0 := by decide
      have d0 : decide (fallen ≥ 0) = false := decide_eq_false (by omega)
      have d1 : decide (0 ≤ p1) = true := decide_eq_true b3
      have d2 : decide (p1 < (ps.length : Int)) = true := decide_eq_true b4
      unfold f22 c22_11 c22_12
      simp only [h, h45, e1, e2, e3, e6, d0, d1, d2, decide_eq_true ov, decide_eq_false ov2, Option.bind_some, show ((0 : Int) != 0) = false from rfl, show ((1 : Int) == 0) = false from rfl, show ((1 : Int) == 1) = true from rfl, cond_true, cond_false, Bool.and_self, Int.add_zero]
  · refine ⟨0, if 400 < m1 + 1 then 400 else m1 + 1, p1, fun dly hr hu ha hb hf hc => ?_⟩
    obtain ⟨t0, t1, f0, f1, s0, s1, ⟨a1, a2, a3, a4, a5, a6⟩, b3, b4, b5, b6, b7, b8⟩ := id hc
    obtain ⟨r1, r2, r3, r4, r5, r6, r7⟩ := id hr
    have hu0 := usd_le (dly := dly) (since := since) (stopped := false) r5 ha
    rcases f28_spec ps inc dly l0 l1 m0 m1 p0 p1 1 since false fallen now with ⟨_, _, _, hn⟩ | ⟨h, _⟩
    · exact absurd ⟨hr, hc, ha, hb⟩ hn
    unfold lk at h
    rw [if_neg (fun h => by have : lft l0 l1 1 = l1 := rfl; omega)] at h
    have h45 := f45_spec ps inc dly (l0, l1, ()) (m0, m1, ()) (p0, p1, ()) 1 since false fallen now r5 r6 s0 ha hb
    have e1 : w64 (inc - usd dly since false now) = inc - usd dly since false now := wid (by omega)
    have e2 : w64 (l1 + (inc - usd dly since false now)) = l1 + (inc - usd dly since false now) := wid (by omega)
    have e3 : w64 (m1 + 1) = m1 + 1 := wid (by omega)
    have e6 : w64 (1 - 1) = 0 := by decide
    have d0 : decide (fallen ≥ 0) = false := decide_eq_false (by omega)
    have d1 : decide (0 ≤ p1) = true := decide_eq_true b3
    have d2 : decide (p1 < (ps.length : Int)) = true := decide_eq_true b4
    unfold f22 c22_11 c22_12
    simp only [h, h45, e1, e2, e3, e6, d0, d1, d2, decide_eq_false ov, Option.bind_some, show ((0 : Int) != 0) = false from rfl, show ((1 : Int) == 0) = false from rfl, show ((1 : Int) == 1) = true from rfl, cond_true, cond_false, Bool.and_self, Int.add_zero]


theorem f22_or (ps : PS) (inc dly l0 l1 m0 m1 p0 p1 turn since : Int) (stopped : Bool) (fallen now : Int) :
    (∃ e, f22 100 (ps, inc, dly, ()) ((l0, l1, ()), (m0, m1, ()), (p0, p1, ()), turn, since, stopped, fallen, ()) now = some (Z, e, ()) ∧ e ≠ 0) ∨
    (RuOK ps inc dly ∧ ClOK ps l0 l1 m0 m1 p0 p1 turn since fallen ∧ since ≤ now ∧ now ≤ 100000000 ∧ fallen < 0 ∧ stopped = false ∧ usd dly since false now ≤ lft l0 l1 turn) := by
  rcases f28_spec ps inc dly l0 l1 m0 m1 p0 p1 turn since stopped fallen now with ⟨e, h, he, _⟩ | ⟨h, hr, hc, ha, hb⟩
  · left
    unfold f22
    exact ⟨e, by simp only [h, Option.bind_some, bne_iff_ne.2 he, cond_true], he⟩
  have t0 := hc.1
  unfold lk at h
  by_cases c1 : fallen < 0 ∧ usd dly since stopped now > lft l0 l1 turn
  · rw [if_pos c1] at h
    left
    exact ⟨14, f22_over h (by simpa using t0), by decide⟩
  rw [if_neg c1] at h
  by_cases c2 : fallen ≥ 0
  · left
    exact ⟨14, f22_over h (by simpa using c2), by decide⟩
  cases hst : stopped
  rotate_left
  · left
    refine ⟨10, ?_, by decide⟩
    subst hst
    unfold f22
    simp only [h, Option.bind_some, show ((0 : Int) != 0) = false from rfl, cond_false]
    rw [decide_eq_false c2]; rfl
  · right
    subst hst
    exact ⟨hr, hc, ha, hb, by omega, rfl, by omega⟩

theorem usd_anti {d d' since now : Int} (h : d ≤ d') : usd d' since false now ≤ usd d since false now := by
  unfold usd
  simp only [Bool.false_eq_true, if_false]
  split <;> split <;> omega

theorem f5_pure (x0 : PS × Int × Int × Unit) (x1 : CL) (more now : Int) : f5 100 x0 x1 more now = some (true, ()) := by
  obtain ⟨ps, inc, dly, ⟨⟩⟩ := x0
  obtain ⟨⟨l0, l1, ⟨⟩⟩, ⟨m0, m1, ⟨⟩⟩, ⟨p0, p1, ⟨⟩⟩, turn, since, stopped, fallen, ⟨⟩⟩ := x1
  unfold f5
  simp only [f20_pure, Option.bind_some, Bool.not_true, cond_false]
  rcases f22_or ps inc dly l0 l1 m0 m1 p0 p1 turn since stopped fallen now with ⟨e, h, he⟩ | ⟨hr, hc, ha, hb, hf, hs, hu⟩
  · simp only [h, Option.bind_some, bne_iff_ne.2 he, cond_true]; rfl
  subst hs
  obtain ⟨r1, r2, r3, r4, r5, r6, r7⟩ := id hr
  obtain ⟨t0, t1, _⟩ := id hc
  generalize hD : (if 100000000 < (w64 (dly + (if (if 1000 < more then 1000 else more) > 0 then if 1000 < more then 1000 else more else 0))) then 100000000 else w64 (dly + (if (if 1000 < more then 1000 else more) > 0 then if 1000 < more then 1000 else more else 0)) : Int) = D
  have hD2 : dly ≤ D ∧ D ≤ 100000000 := by
    subst hD
    generalize hM : (if (if 1000 < more then 1000 else more) > 0 then if 1000 < more then 1000 else more else 0 : Int) = M
    have hM2 : 0 ≤ M ∧ M ≤ 1000 := by
      subst hM
      by_cases q : 1000 < more
      · simp [q]
      · simp only [if_neg q]; split <;> omega
    rw [wid (by omega)]
    split <;> omega
  have hr2 : RuOK ps inc D := ⟨r1, r2, r3, r4, by omega, hD2.2, r7⟩
  have hu2 := usd_anti (since := since) (now := now) hD2.1
  rcases (show turn = 0 ∨ turn = 1 by omega) with rfl | rfl
  · obtain ⟨A, M, P, hP⟩ := press0 ps inc l0 l1 m0 m1 p0 p1 since fallen now
    have hu' : usd dly since false now ≤ l0 := hu
    have h1 := hP dly hr hu' ha hb hf hc
    have h2 := hP D hr2 (by omega) ha hb hf hc
    simp only [h1, h2, Option.bind_some, show ((0 : Int) != 0) = false from rfl, show ((0 : Int) == 0) = true from rfl, show w64 (1 - 0) = 1 from by decide, show ((1 : Int) == 0) = false from rfl, show ((1 : Int) == 1) = true from rfl, cond_true, cond_false, beq_self_eq_true, Bool.and_true]
    rw [decide_eq_true]
    · rfl
    · generalize usd D since false now = u2 at *
      generalize usd dly since false now = u1 at *
      show (if 100000000000 < l0 + (inc - u2) + A then 100000000000 else l0 + (inc - u2) + A) ≥ (if 100000000000 < l0 + (inc - u1) + A then 100000000000 else l0 + (inc - u1) + A : Int)
      split <;> split <;> omega
  · obtain ⟨A, M, P, hP⟩ := press1 ps inc l0 l1 m0 m1 p0 p1 since fallen now
    have hu' : usd dly since false now ≤ l1 := hu
    have h1 := hP dly hr hu' ha hb hf hc
    have h2 := hP D hr2 (by omega) ha hb hf hc
    simp only [h1, h2, Option.bind_some, show ((0 : Int) != 0) = false from rfl, show ((0 : Int) == 0) = true from rfl, show w64 (1 - 1) = 0 from by decide, show ((1 : Int) == 0) = false from rfl, show ((1 : Int) == 1) = true from rfl, cond_true, cond_false, beq_self_eq_true, Bool.and_true]
    rw [decide_eq_true]
    · rfl
    · generalize usd D since false now = u2 at *
      generalize usd dly since false now = u1 at *
      show (if 100000000000 < l1 + (inc - u2) + A then 100000000000 else l1 + (inc - u2) + A) ≥ (if 100000000000 < l1 + (inc - u1) + A then 100000000000 else l1 + (inc - u1) + A : Int)
      split <;> split <;> omega
end Go.Proofs.Ytfalgaldkadgoaa.G
