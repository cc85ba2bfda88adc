import Derived.Test.YtpnbiakaknbofaaGreatDoorTMatch4
/- A match of one move; states that are equal. -/
namespace Go.Proofs.YtpnbiakaknbofaaGreatDoor.G
open Go.VM Go.Proofs
section
variable {r : RU}
theorem more10_nil (hz : Rz r) (e : EV) (cr : CR) (w : ST × Int × List JE × Unit) (j : Nat) (hj : 0 < j) (g : GM) (s : ST) (hg : GP r g) (hl : g.2.2.1.length ≤ 300) (hs : s.2.2.2.2.2.1 = []) : l42_10 9000 j (r, cr, g, w) s e = some ((r, cr, g, w), s, ()) := by
  obtain ⟨j, rfl⟩ : ∃ i, j = i + 1 := ⟨j - 1, by omega⟩
  have hok := hg.ok hz (by omega)
  rw [l42_10]
  obtain ⟨_, x, _, hx, _⟩ := result_tot hz.ok hok (by omega)
  simp only [hx, Option.bind_some]
  by_cases h0 : x = 0
  rotate_left
  · rw [bn1 h0]
  rw [be1 h0, moves_eq (by omega)]
  simp only [Option.bind_some]
  rw [bt1 (by omega), pos_eq hz.ok hok (by omega)]
  simp only [Option.bind_some]
  obtain ⟨hn, hp⟩ := hok.now_eq hz.ok (by omega)
  obtain ⟨m, ok, rest, e2, hnx, h1, h2⟩ := next_tot hz hp s.2.2.2.2.2.1 (by rw [hs]; simp)
  rw [hnx]
  simp only [Option.bind_some]
  rw [hs] at h1 h2
  cases ok
  · have hr : rest = [] := List.eq_nil_of_length_eq_zero (by have := (h1 rfl).1; simpa using this)
    subst hr
    have e : ((s.1, s.2.1, s.2.2.1, s.2.2.2.1, s.2.2.2.2.1, [], ()) : ST) = s := by rw [← hs]
    simp only [Bool.not_false, cond_true]
    rw [e]
  · exact absurd (h2 rfl).1 (by simp)
abbrev CRm : CR := ([(0, 60000, ())], 1000, 0, ())
abbrev C0 : CL := ((60000, 60000, ()), (0, 0, ()), (0, 0, ()), 0, 0, false, -1, ())
abbrev C1 : CL := ((60990, 60000, ()), (1, 0, ()), (0, 0, ()), 1, 10, false, -1, ())
abbrev O0 : OF := ((-1, -1, ()), ((-1, -1, ()), (-1, -1, ()), ()), ())
abbrev Ev4 : EV := (0, 0, 0, 10, (-1, 4, 0, ()), ())
theorem tic_eq : f22 9000 = some (TIC, ()) := by kernel_rfl
theorem start_m : f31 9000 CRm 0 = some (C0, 0, ()) := by kernel_rfl
theorem look_m : f60 9000 CRm C0 10 = some (C0, 0, ()) := by kernel_rfl
theorem press_m : f115 9000 CRm C0 10 = some (C1, 0, ()) := by kernel_rfl
theorem omove_m : f116 9000 O0 0 = some (O0, 0, ()) := by kernel_rfl
theorem has4 : f74 9000 D9 (-1, 4, 0, ()) = some (true, ()) := by kernel_rfl
theorem tic_rz : Rz TIC := check_tic
theorem fresh_tic : fresh TIC = POS0 := rfl
theorem ev4_ok : EvOK Ev4 := by
  intro x hx
  have hx : x ∈ [(0 : Int), 0, 0, 10, -1, 4, 0] := hx
  rw [inI64_eq]
  simp only [List.mem_cons, List.not_mem_nil, or_false] at hx
  rcases hx with rfl | rfl | rfl | rfl | rfl | rfl | rfl <;> decide
theorem plays_eq : f9 9000 = some (true, ()) := by
  unfold f9 f28 f29
  rw [tic_eq]
  simp only [Option.bind_some]
  rcases mnew_tot TIC CRm 0 with ⟨_, hno⟩ | ⟨hz, m, c, h, hm, hc, _, s, h0, hms, hs, hx⟩
  · exact absurd ⟨tic_rz, C0, start_m⟩ hno
  rw [h]
  simp only [Option.bind_some, Sum.elim_inl]
  rw [beq1 rfl]
  rw [start_m] at hc
  simp only [Option.some.injEq, Prod.mk.injEq, and_true] at hc
  rw [gres_tic] at hx
  simp only [Option.some.injEq, Prod.mk.injEq, and_true] at hx
  obtain ⟨s1, s2, s3, s4⟩ := s
  have hs : s4 = (C0, O0, [], ()) := by rw [hc]; exact hs
  have hx : (0 : Int) = s2 := hx
  subst hs hx hms
  have hrs : s3 = 0 := by
    obtain ⟨x, hx, hst⟩ := hm.st
    have hx : f53 9000 (g0 TIC) = some (x, ()) := hx
    rw [gres_tic] at hx
    simp only [Option.some.injEq, Prod.mk.injEq, and_true] at hx
    subst hx
    rcases hst with h | h | h
    · exact h.2.1
    · exact absurd rfl h.1
    · exact absurd rfl h.2.1
  subst hrs
  have hg : GP TIC (g0 TIC) := rfl
  obtain ⟨g1, hpl⟩ := play_tic (-1, 4, 0, ()) has4
  obtain ⟨k1, k2⟩ := hg.play tic_rz (by simp [g0]) hpl
  have k2 : g1.2.2.1 = [(-1, 4, 0, ())] := k2
  generalize hM : ((TIC, CRm, g0 TIC, (s1, 0, 0, C0, O0, [], ()), 0, [(startT 0, h0, ())], ()) : MT) = M at *
  have hchk : f41 9000 M Ev4 = some (0, M, ()) := by
    rw [← hM]
    unfold f41
    dsimp only
    rw [look_m]
    rfl
  have hmade : f76 9000 M (s1, 0, 0, C0, O0, [], ()) (-1, 4, 0, ()) 10 = some (0, (TIC, CRm, g1, (s1, 0, 0, C0, O0, [], ()), 0, [(startT 0, h0, ())], ()), (s1, 0, 0, C1, O0, [], ()), ()) := by
    unfold f76
    rw [turn_eq (by rw [← hM]; simp [g0])]
    rw [← hM]
    simp only [Option.bind_some]
    rw [press_m]
    simp only [Option.bind_some]
    rw [beq1 rfl]
    rw [show ((g0 TIC).2.2.1.length : Int).tmod 2 = 0 from rfl, omove_m]
    simp only [Option.bind_some]
    rw [beq1 rfl, hpl]
    simp only [Option.bind_some]
    rw [beq1 rfl]
  have hmove : f42 9000 M (s1, 0, 0, C0, O0, [], ()) Ev4 = some (0, (TIC, CRm, g1, (s1, 0, 0, C0, O0, [], ()), 0, [(startT 0, h0, ())], ()), (s1, 0, 0, C1, O0, [], ()), ()) := by
    unfold f42
    rw [turn_eq (by rw [← hM]; simp [g0])]
    simp only [Option.bind_some]
    rw [beq1 (by rw [← hM]; rfl)]
    rw [show M.2.2.1 = g0 TIC by rw [← hM], pos_eq tic_rz.ok (g0_ok TIC) (by simp [g0])]
    simp only [Option.bind_some]
    rw [show M.1 = TIC by rw [← hM], show (g0 TIC).now = POS0 from rfl, gen_tic]
    simp only [Option.bind_some]
    rw [has4]
    simp only [Option.bind_some, Bool.not_true, cond_false]
    rw [moves_eq (by simp [g0])]
    simp only [Option.bind_some]
    rw [bn1 (by simp [g0])]
    have e : ((TIC, M.2.1, g0 TIC, M.2.2.2) : MT) = M := by rw [← hM]
    rw [e, hmade]
    simp only [Option.bind_some]
    rw [beq1 rfl, more10_nil tic_rz Ev4 CRm ((s1, 0, 0, C0, O0, [], ()), 0, [(startT 0, h0, ())], ()) 9000 (by decide) g1 (s1, 0, 0, C1, O0, [], ()) k1 (by rw [k2]; simp) rfl]
    rfl
  obtain ⟨m', hfin, hm', hev⟩ := fin_ok tic_rz CRm g1 (s1, 0, 0, C1, O0, [], ()) 10 ev4_ok (ev := [(startT 0, h0, ())]) (by have := hm.ch; rw [← hM] at this; exact this) (by simp) k1 (by rw [k2]; simp) (.inl ⟨rfl, rfl⟩)
  obtain ⟨s', h1, rfl, hs'⟩ := hev
  have hdo : f14 9000 M Ev4 = some (0, (TIC, CRm, g1, s', 10, [(startT 0, h0, ())] ++ [(entT Ev4, h1, ())], ()), ()) := by
    unfold f14
    rw [hchk]
    simp only [Option.bind_some]
    rw [beq1 rfl, be1 rfl, show M.2.2.2.1 = (s1, 0, 0, C0, O0, [], ()) by rw [← hM], hmove]
    simp only [Option.bind_some]
    rw [beq1 rfl]
    exact hfin
  rw [hdo]
  simp only [Option.bind_some]
  rw [state_eq (by show g1.2.2.1.length ≤ _; rw [k2]; simp) (by show s'.2.2.2.2.2.1.length ≤ _; rw [hs']; simp)]
  simp only [Option.bind_some]
  rw [be1 rfl]
  unfold stOf
  dsimp only
  rw [be1 (by rw [k2]; rfl), hs']
  rfl
end
end Go.Proofs.YtpnbiakaknbofaaGreatDoor.G
/- Events that come from outside; the first 25 of them. -/
namespace Go.Proofs.YtpnbiakaknbofaaGreatDoor.G
open Go.VM Go.Proofs
abbrev EVT : Ty := .pair (.int .i64) (.pair (.int .i64) (.pair (.int .i64) (.pair (.int .i64) (.pair (.pair (.int .i64) (.pair (.int .i64) (.pair (.int .i64) .unit))) .unit))))
theorem wf_in {n : Int} (h : WfD (.int .i64) n) : inI64 n = true := by
  have h : (Lit.int .i64 n).wf = true := h
  rw [inI64_eq]
  simp only [Lit.wf, Bool.and_eq_true, decide_eq_true_eq] at h
  have h1 : IntKind.i64.min = -9223372036854775808 := rfl
  have h2 : IntKind.i64.max = 9223372036854775807 := rfl
  rw [h1, h2] at h
  rw [decide_eq_true h.1, decide_eq_true h.2]
  rfl
theorem evok_of {e : EV} (h : WfD EVT e) : EvOK e := by
  obtain ⟨h1, h2, h3, h4, ⟨h5, h6, h7, _⟩, _⟩ := h
  intro x hx
  have hx : x ∈ [e.1, e.2.1, e.2.2.1, e.2.2.2.1, e.2.2.2.2.1.1, e.2.2.2.2.1.2.1, e.2.2.2.2.1.2.2.1] := hx
  simp only [List.mem_cons, List.not_mem_nil, or_false] at hx
  rcases hx with rfl | rfl | rfl | rfl | rfl | rfl | rfl
  · exact wf_in h1
  · exact wf_in h2
  · exact wf_in h3
  · exact wf_in h4
  · exact wf_in h5
  · exact wf_in h6
  · exact wf_in h7
theorem cut25 {α : Type} (l : List α) : sliceOf l 0 (if 25 < (l.length : Int) then 25 else (l.length : Int)) = l.take 25 ∧ (0 : Int) ≤ (if 25 < (l.length : Int) then 25 else (l.length : Int)) ∧ (if 25 < (l.length : Int) then 25 else (l.length : Int)) ≤ (l.length : Int) := by
  unfold sliceOf
  by_cases h : 25 < (l.length : Int)
  · rw [if_pos h]
    exact ⟨by simp, by omega, by omega⟩
  · rw [if_neg h]
    refine ⟨?_, by omega, by omega⟩
    simp only [Int.toNat_natCast, Int.toNat_zero, List.drop_zero]
    rw [List.take_of_length_le (Nat.le_refl _), List.take_of_length_le (by omega)]
end Go.Proofs.YtpnbiakaknbofaaGreatDoor.G
/- The same moves twice. -/
namespace Go.Proofs.YtpnbiakaknbofaaGreatDoor.G
open Go.VM Go.Proofs
theorem line_l (a : List MV) (hl : a.length ≤ 50) : ∀ (j i : Nat), i ≤ a.length → a.length < i + j → l50_4 9000 j a a a.length i = some (.inl ())
  | 0, i, h, h' => by omega
  | j + 1, i, h, h' => by
    rw [l50_4]
    by_cases hi : i < a.length
    · rw [bt1 (show (i : Int) < a.length by omega), bt2 ⟨by omega, by omega⟩, bt2 ⟨by omega, by omega⟩, ws (by omega)]
      simp only [beq_self_eq_true, Bool.and_self, Bool.not_true, cond_false]
      exact line_l a hl j (i + 1) (by omega) (by omega)
    · rw [bf1 (show ¬ (i : Int) < a.length by omega)]
theorem line_eq (a : List MV) (hl : a.length ≤ 50) : f50 9000 a a = some (true, ()) := by
  unfold f50
  rw [beq1 rfl]
  have := line_l a hl 9000 0 (by omega) (by omega)
  rw [show ((0 : Nat) : Int) = 0 from rfl] at this
  rw [this]
  rfl
end Go.Proofs.YtpnbiakaknbofaaGreatDoor.G
/- The journal is shown. -/
namespace Go.Proofs.YtpnbiakaknbofaaGreatDoor.G
open Go.VM Go.Proofs
theorem clone_je (l : List JE) (hl : l.length ≤ 1000) : f40 9000 l = some (l, ()) := by
  unfold f40
  have e : decide ((([] : List JE).length + l.length) * 24 ≤ roomN) = true := decide_eq_true (by simp only [List.length_nil]; unfold roomN; omega)
  rw [e]
  cases l with
  | nil => exact both_same _
  | cons a r => rfl
theorem journal_eq {m : MT} (hl : m.2.2.2.2.2.1.length ≤ 1000) : f13 9000 m = some (m.2.2.2.2.2.1, m, ()) := by
  unfold f13
  rw [clone_je _ hl]
  rfl
end Go.Proofs.YtpnbiakaknbofaaGreatDoor.G
/- The same state twice. -/
namespace Go.Proofs.YtpnbiakaknbofaaGreatDoor.G
open Go.VM Go.Proofs
theorem pm_l (s : ST) (hl : s.2.2.2.2.2.1.length ≤ 90) : ∀ (j i : Nat), i ≤ s.2.2.2.2.2.1.length → s.2.2.2.2.2.1.length < i + j → l15_4 9000 j s s (s.2.2.2.2.2.1.length : Int) i = some (.inl (s, s, ()))
  | 0, i, h, h' => by omega
  | j + 1, i, h, h' => by
    rw [l15_4]
    by_cases hi : i < s.2.2.2.2.2.1.length
    · rw [bt1 (show (i : Int) < s.2.2.2.2.2.1.length by omega), bt2 ⟨by omega, by omega⟩, bt2 ⟨by omega, by omega⟩, ws (by omega)]
      simp only [beq_self_eq_true, Bool.and_self, Bool.not_true, cond_false]
      exact pm_l s hl j (i + 1) (by omega) (by omega)
    · rw [bf1 (show ¬ (i : Int) < s.2.2.2.2.2.1.length by omega)]
theorem same_st (s : ST) (h1 : s.1.length ≤ 50) (h2 : s.2.2.2.2.2.1.length ≤ 50) : f15 9000 s s = some (true, ()) := by
  unfold f15
  rw [line_eq _ h1]
  simp only [Option.bind_some, Bool.not_true, cond_false]
  rw [beq1 rfl]
  have := pm_l s (by omega) 9000 0 (by omega) (by omega)
  rw [show ((0 : Nat) : Int) = 0 from rfl] at this
  rw [this]
  simp only [Option.bind_some, Sum.elim_inl, beq_self_eq_true, cond_true, Bool.and_self]
end Go.Proofs.YtpnbiakaknbofaaGreatDoor.G
