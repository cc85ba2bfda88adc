import Derived.Test.YtpnbiakaknbofaaGreatDoorTMatch4
/- A match of one move; states that are equal. -/
namespace Go.Proofs.YtpnbiakaknbofaaGreatDoor.G
open Go.VM Go.Proofs
section
variable {r : RU}
theorem more10_nil (hz : Rz r) (e : EV) (cr : CR) (w : ST × Int × List JE × Unit) (j : Nat) (hj : 0 < j) (g : GM) (s : ST) (hg : GP r g) (hl : g.2.2.1.length ≤ 300) (hs : s.2.2.2.2.2.1 = []) : l42_10 9000 j (r, cr, g, w) s e = some ((r, cr, g, w), s, ()) := by
  obtain ⟨j, rfl⟩ : ∃ i, j = i + 1 := ⟨j - 1, by omega⟩
  have hok := hg.ok hz (by omega)
  rw [l42_10]
  obtain ⟨_, x, _, hx, _⟩ := result_tot hz.ok hok (by omega)
  simp only [hx, Option.bind_some]
  by_cases h0 : x = 0
  rotate_left
  · rw [bn1 h0]
  rw [be1 h0, moves_eq (by omega)]
  simp only [Option.bind_some]
  rw [bt1 (by omega), pos_eq hz.ok hok (by omega)]
  simp only [Option.bind_some]
  obtain ⟨hn, hp⟩ := hok.now_eq hz.ok (by omega)
  obtain ⟨m, ok, rest, e2, hnx, h1, h2⟩ := next_tot hz hp s.2.2.2.2.2.1 (by rw [hs]; simp)
  rw [hnx]
  simp only [Option.bind_some]
  rw [hs] at h1 h2
  cases ok
  · have hr : rest = [] := List.eq_nil_of_length_eq_zero (by have := (h1 rfl).1; simpa using this)
    subst hr
    have e : ((s.1, s.2.1, s.2.2.1, s.2.2.2.1, s.2.2.2.2.1, [], ()) : ST) = s := by rw [← hs]
    simp only [Bool.not_false, cond_true]
    rw [e]
  · exact absurd (h2 rfl).1 (by simp)
abbrev CRm : CR := ([(0, 60000, ())], 1000, 0, ())
abbrev C0 : CL := ((60000, 60000, ()), (0, 0, ()), (0, 0, ()), 0, 0, false, -1, ())
abbrev C1 : CL := ((60990, 60000, ()), (1, 0, ()), (0, 0, ()), 1, 10, false, -1, ())
abbrev O0 : OF := ((-1, -1, ()), ((-1, -1, ()), (-1, -1, ()), ()), ())
abbrev Ev4 : EV := (0, 0, 0, 10, (-1, 4, 0, ()), ())
theorem tic_eq : f22 9000 = some (TIC, ()) := by kernel_rfl
theorem start_m : f31 9000 CRm 0 = some (C0, 0, ()) := by kernel_rfl
theorem look_m : f60 9000 CRm C0 10 = some (C0, 0, ()) := by kernel_rfl
theorem press_m : f115 9000 CRm C0 10 = some (C1, 0, ()) := by kernel_rfl
theorem omove_m : f116 9000 O0 0 = some (O0, 0, ()) := by kernel_rfl
theorem has4 : f74 9000 D9 (-1, 4, 0, ()) = some (true, ()) := by kernel_rfl
theorem tic_rz : Rz TIC := check_tic
theorem fresh_tic : fresh TIC = POS0 := rfl
theorem ev4_ok : EvOK Ev4 := by
  intro x hx
  have hx : x ∈ [(0 : Int), 0, 0, 10, -1, 4, 0] := hx
  rw [inI64_eq]
  simp only [List.mem_cons, List.not_mem_nil, or_false] at hx
  rcases hx with rfl | rfl | rfl | rfl | rfl | rfl | rfl <;> decide
/-- A match of one move. -/
theorem plays_eq : f9 9000 = some (true, ()) := by
  unfold f9 f28 f29
  rw [tic_eq]
  simp only [Option.bind_some]
  rcases mnew_tot TIC CRm 0 with ⟨_, hno⟩ | ⟨hz, m, c, h, hm, hc, _, s, h0, hms, hs, hx⟩
  · exact absurd ⟨tic_rz, C0, start_m⟩ hno
  rw [h]
  simp only [Option.bind_some, Sum.elim_inl]
  rw [beq1 rfl]
  rw [start_m] at hc
  simp only [Option.some.injEq, Prod.mk.injEq, and_true] at hc
  rw [gres_tic] at hx
  simp only [Option.some.injEq, Prod.mk.injEq, and_true] at hx
  obtain ⟨s1, s2, s3, s4⟩ := s
  have hs : s4 = (C0, O0, [], ()) := by rw [hc]; exact hs
  have hx : (0 : Int) = s2 := hx
  subst hs hx hms
  have hrs : s3 = 0 := by
    obtain ⟨x, hx, hst⟩ := hm.st
    have hx : f53 9000 (g0 TIC) = some (x, ()) := hx
    rw [gres_tic] at hx
    simp only [Option.some.injEq, Prod.mk.injEq, and_true] at hx
    subst hx
    rcases hst with h | h | h
    · exact h.2.1
    · exact absurd rfl h.1
    · exact absurd rfl h.2.1
  subst hrs
  have hg : GP TIC (g0 TIC) := rfl
  obtain ⟨g1, hpl⟩ := play_tic (-1, 4, 0, ()) has4
  obtain ⟨k1, k2⟩ := hg.play tic_rz (by simp [g0]) hpl
  have k2 : g1.2.2.1 = [(-1, 4, 0, ())] := k2
  generalize hM : ((TIC, CRm, g0 TIC, (s1, 0, 0, C0, O0, [], ()), 0, [(startT 0, h0, ())], ()) : MT) = M at *
  have hchk : f41 9000 M Ev4 = some (0, M, ()) := by
    rw [← hM]
    unfold f41
    dsimp only
    rw [look_m]
    rfl
  have hmade : f76 9000 M (s1, 0, 0, C0, O0, [], ()) (-1, 4, 0, ()) 10 = some (0, (TIC, CRm, g1, (s1, 0, 0, C0, O0, [], ()), 0, [(startT 0, h0, ())], ()), (s1, 0, 0, C1, O0, [], ()), ()) := by
    unfold f76
    rw [turn_eq (by rw [← hM]; simp [g0])]
    rw [← hM]
    simp only [Option.bind_some]
    rw [press_m]
    simp only [Option.bind_some]
    rw [beq1 rfl]
    rw [show ((g0 TIC).2.2.1.length : Int).tmod 2 = 0 from rfl, omove_m]
    simp only [Option.bind_some]
    rw [beq1 rfl, hpl]
    simp only [Option.bind_some]
    rw [beq1 rfl]
  have hmove : f42 9000 M (s1, 0, 0, C0, O0, [], ()) Ev4 = some (0, (TIC, CRm, g1, (s1, 0, 0, C0, O0, [], ()), 0, [(startT 0, h0, ())], ()), (s1, 0, 0, C1, O0, [], ()), ()) := by
    unfold f42
    rw [turn_eq (by rw [← hM]; simp [g0])]
    simp only [Option.bind_some]
    rw [beq1 (by rw [← hM]; rfl)]
    rw [show M.2.2.1 = g0 TIC by rw [← hM], pos_eq tic_rz.ok (g0_ok TIC) (by simp [g0])]
    simp only [Option.bind_some]
    rw [show M.1 = TIC by rw [← hM], show (g0 TIC).now = POS0 from rfl, gen_tic]
    simp only [Option.bind_some]
    rw [has4]
    simp only [Option.bind_some, Bool.not_true, cond_false]
    rw [moves_eq (by simp [g0])]
    simp only [Option.bind_some]
    rw [bn1 (by simp [g0])]
    have e : ((TIC, M.2.1, g0 TIC, M.2.2.2) : MT) = M := by rw [← hM]
    rw [e, hmade]
    simp only [Option.bind_some]
    rw [beq1 rfl, more10_nil tic_rz Ev4 CRm ((s1, 0, 0, C0, O0, [], ()), 0, [(startT 0, h0, ())], ()) 9000 (by decide) g1 (s1, 0, 0, C1, O0, [], ()) k1 (by rw [k2]; simp) rfl]
    rfl
  obtain ⟨m', hfin, hm', hev⟩ := fin_ok tic_rz CRm g1 (s1, 0, 0, C1, O0, [], ()) 10 ev4_ok (ev := [(startT 0, h0, ())]) (by have := hm.ch; rw [← hM] at this; exact this) (by simp) k1 (by rw [k2]; simp) (.inl ⟨rfl, rfl⟩)
  obtain ⟨s', h1, rfl, hs'⟩ := hev
  have hdo : f14 9000 M Ev4 = some (0, (TIC, CRm, g1, s', 10, [(startT 0, h0, ())] ++ [(entT Ev4, h1, ())], ()), ()) := by
    unfold f14
    rw [hchk]
    simp only [Option.bind_some]
    rw [beq1 rfl, be1 rfl, show M.2.2.2.1 = (s1, 0, 0, C0, O0, [], ()) by rw [← hM], hmove]
    simp only [Option.bind_some]
    rw [beq1 rfl]
    exact hfin
  rw [hdo]
  simp only [Option.bind_some]
  rw [state_eq (by show g1.2.2.1.length ≤ _; rw [k2]; simp) (by show s'.2.2.2.2.2.1.length ≤ _; rw [hs']; simp)]
  simp only [Option.bind_some]
  rw [be1 rfl]
  unfold stOf
  dsimp only
  rw [be1 (by rw [k2]; rfl), hs']
  rfl
end
end Go.Proofs.YtpnbiakaknbofaaGreatDoor.G
/- Events that come from outside; the first 25 of them. -/
namespace Go.Proofs.YtpnbiakaknbofaaGreatDoor.G
open Go.VM Go.Proofs
abbrev EVT : Ty := .pair (.int .i64) (.pair (.int .i64) (.pair (.int .i64) (.pair (.int .i64) (.pair (.pair (.int .i64) (.pair (.int .i64) (.pair (.int .i64) .unit))) .unit))))
theorem wf_in {n : Int} (h : WfD (.int .i64) n) : inI64 n = true := by
  have h : (Lit.int .i64 n).wf = true := h
  rw [inI64_eq]
  simp only [Lit.wf, Bool.and_eq_true, decide_eq_true_eq] at h
  have h1 : IntKind.i64.min = -9223372036854775808 := rfl
  have h2 : IntKind.i64.max = 9223372036854775807 := rfl
  rw [h1, h2] at h
  rw [decide_eq_true h.1, decide_eq_true h.2]
  rfl
theorem evok_of {e : EV} (h : WfD EVT e) : EvOK e := by
  obtain ⟨h1, h2, h3, h4, ⟨h5, h6, h7, _⟩, _⟩ := h
  intro x hx
  have hx : x ∈ [e.1, e.2.1, e.2.2.1, e.2.2.2.1, e.2.2.2.2.1.1, e.2.2.2.2.1.2.1, e.2.2.2.2.1.2.2.1] := hx
  simp only [List.mem_cons, List.not_mem_nil, or_false] at hx
  rcases hx with rfl | rfl | rfl | rfl | rfl | rfl | rfl
  · exact wf_in h1
  · exact wf_in h2
  · exact wf_in h3
  · exact wf_in h4
  · exact wf_in h5
  · exact wf_in h6
  · exact wf_in h7
theorem cut25 {α : Type} (l : List α) : sliceOf l 0 (if 25 < (l.length : Int) then 25 else (l.length : Int)) = l.take 25 ∧ (0 : Int) ≤ (if 25 < (l.length : Int) then 25 else (l.length : Int)) ∧ (if 25 < (l.length : Int) then 25 else (l.length : Int)) ≤ (l.length : Int) := by
  unfold sliceOf
  by_cases h : 25 < (l.length : Int)
  · rw [if_pos h]
    exact ⟨by simp, by omega, by omega⟩
  · rw [if_neg h]
    refine ⟨?_, by omega, by omega⟩
    simp only [Int.toNat_natCast, Int.toNat_zero, List.drop_zero]
    rw [List.take_of_length_le (Nat.le_refl _), List.take_of_length_le (by omega)]
end Go.Proofs.YtpnbiakaknbofaaGreatDoor.G
/- Runs. -/
namespace Go.Proofs.YtpnbiakaknbofaaGreatDoor.G
open Go.VM Go.Proofs
section
variable {r : RU}
theorem run5 (hz : Rz r) (l : List MV) (s4 : PO) (hll : l.length ≤ 400) : ∀ (j i : Nat) (g : GM), i ≤ l.length → l.length < i + j → GOK r g → g.2.2.1.length + (l.length - i) ≤ 400 →
    (∃ g', Plays g (l.drop i) g' ∧ l16_5 9000 j s4 g l l.length i = some (.inl (s4, g', ()))) ∨ ((∃ e, e ≠ 0 ∧ l16_5 9000 j s4 g l l.length i = some (.inr (P00, 0, e, ()))) ∧ ¬ ∃ g', Plays g (l.drop i) g')
  | 0, i, g, h, h', _, _ => by omega
  | j + 1, i, g, h, h', hg, hl => by
    rw [l16_5]
    by_cases hi : i < l.length
    · have e : ((i : Int) + 1) = ((i + 1 : Nat) : Int) := by omega
      rw [bt1 (show (i : Int) < l.length by omega), bt2 ⟨by omega, by omega⟩, drop_rd M0 l i hi]
      rw [show rd ((0, 0, 0, ()) : MV) l (i : Int) = rd M0 l (i : Int) from rfl]
      rcases play_tot hz hg (by omega) (rd M0 l (i : Int)) with ⟨e2, he, hp⟩ | ⟨q, hp, hok, _⟩
      · rw [hp]
        simp only [Option.bind_some]
        rw [bne1 he]
        refine .inr ⟨⟨e2, he, rfl⟩, ?_⟩
        rintro ⟨g', g1, h1, _⟩
        rw [hp] at h1
        simp only [Option.some.injEq, Prod.mk.injEq] at h1
        exact he h1.1
      · rw [hp]
        simp only [Option.bind_some]
        rw [beq1 rfl, ws (by omega), e]
        rcases run5 hz l s4 hll j (i + 1) _ (by omega) (by omega) hok (by simp; omega) with ⟨g', h1, h2⟩ | ⟨⟨e2, he, h1⟩, h2⟩
        · exact .inl ⟨g', ⟨_, hp, h1⟩, h2⟩
        · refine .inr ⟨⟨e2, he, h1⟩, ?_⟩
          rintro ⟨g', g1, h3, h4⟩
          rw [hp] at h3
          simp only [Option.some.injEq, Prod.mk.injEq, true_and, and_true] at h3
          subst h3
          exact h2 ⟨g', h4⟩
    · rw [bf1 (show ¬ (i : Int) < l.length by omega), List.drop_eq_nil_of_le (by omega)]
      exact .inl ⟨g, rfl, rfl⟩
/-- **What a run says**: the last position and the result, or an error, where the moves cannot be played. -/
theorem run_tot (r : RU) (l : List MV) (hl : l.length ≤ 400) : (Rz r ∧ ∃ g x, Plays (g0 r) l g ∧ GOK r g ∧ g.2.2.1 = l ∧ f53 9000 g = some (x, ()) ∧ f16 9000 r l = some (g.now, x, 0, ())) ∨
    ((∃ e, e ≠ 0 ∧ f16 9000 r l = some (P00, 0, e, ())) ∧ ¬ (Rz r ∧ ∃ g, Plays (g0 r) l g)) := by
  unfold f16
  rcases new_tot r with ⟨hz, hn⟩ | ⟨e, he, hn⟩
  · rw [hn]
    simp only [Option.bind_some, Sum.elim_inl]
    rw [beq1 rfl]
    have := run5 hz l P00 hl 9000 0 (g0 r) (by omega) (by omega) (g0_ok r) (by show 0 + (l.length - 0) ≤ 400; omega)
    rw [show ((0 : Nat) : Int) = 0 from rfl, List.drop_zero] at this
    rcases this with ⟨g, h1, h2⟩ | ⟨⟨e, he, h1⟩, h2⟩
    · obtain ⟨k1, k2⟩ := Plays.ok hz h1 (g0_ok r) (by show 0 + l.length ≤ 400; omega)
      have k2 : g.2.2.1 = l := by rw [k2]; rfl
      rw [h2]
      simp only [Option.bind_some, Sum.elim_inl]
      rw [pos_eq hz.ok k1 (by rw [k2]; exact hl)]
      simp only [Option.bind_some]
      obtain ⟨_, x, _, hx, _⟩ := result_tot hz.ok k1 (by rw [k2]; exact hl)
      rw [hx]
      exact .inl ⟨hz, g, x, h1, k1, k2, hx, rfl⟩
    · rw [h1]
      exact .inr ⟨⟨e, he, rfl⟩, fun h => h2 h.2⟩
  · rw [hn]
    simp only [Option.bind_some, Sum.elim_inr]
    rw [bne1 he]
    refine .inr ⟨⟨e, he, rfl⟩, fun h => ?_⟩
    have := new_eq h.1
    rw [hn] at this
    cases this
end
end Go.Proofs.YtpnbiakaknbofaaGreatDoor.G
