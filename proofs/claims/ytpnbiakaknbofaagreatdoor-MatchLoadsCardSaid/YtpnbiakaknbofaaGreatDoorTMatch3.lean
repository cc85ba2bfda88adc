import Derived.Test.YtpnbiakaknbofaaGreatDoorTAble
/- Matches: what the parts of Do answer. -/
namespace Go.Proofs.YtpnbiakaknbofaaGreatDoor.G
open Go.VM Go.Proofs
abbrev CR := PS × Int × Int × Unit
abbrev ST := List MV × Int × Int × CL × OF × List PM × Unit
abbrev MT := RU × CR × GM × ST × Int × List JE × Unit
theorem Plays.snoc1 : ∀ {ms : List MV} {g g1 g2 : GM} {m : MV}, Plays g ms g1 → f51 9000 g1 m = some (0, g2, ()) → Plays g (ms ++ [m]) g2
  | [], g, g1, g2, m, h, hp => by
    have h : g = g1 := h
    subst h
    exact ⟨g2, hp, rfl⟩
  | x :: ms, g, g1, g2, m, ⟨g3, h1, h2⟩, hp => ⟨g3, h1, Plays.snoc1 h2 hp⟩
section
variable {r : RU}
theorem back_eq (hz : Rz r) {ms : List MV} {m : MV} {g : GM} (h : Plays (g0 r) (ms ++ [m]) g) (hl : ms.length + 1 ≤ 400) : ∃ g', f82 9000 g = some (0, g', ()) ∧ Plays (g0 r) ms g' := by
  obtain ⟨g1, h1, g2, h2, h3⟩ := Plays.cut h
  have h3 : g2 = g := h3
  subst h3
  obtain ⟨k1, k2⟩ := Plays.ok hz h1 (g0_ok r) (by show 0 + ms.length ≤ 400; omega)
  have k2 : g1.2.2.1 = ms := by rw [k2]; rfl
  rcases play_tot hz k1 (by rw [k2]; omega) m with ⟨e, he, hp⟩ | ⟨q, hp, hok, _⟩
  · rw [h2] at hp
    simp only [Option.some.injEq, Prod.mk.injEq] at hp
    exact absurd hp.1.symm he
  · rw [h2] at hp
    simp only [Option.some.injEq, Prod.mk.injEq, true_and, and_true] at hp
    subst hp
    have hlen := k1.len
    rw [k2] at hlen
    refine ⟨g1, ?_, h1⟩
    have hr : g1.1 = r := k1.1
    unfold f82
    dsimp only
    rw [bn1 (by simp; omega), ws (by simp; omega), ws (by simp; omega), bt2 ⟨by simp, by simp; omega⟩, bt2 ⟨by simp, by simp; omega⟩, first_eq, first_eq]
    simp only [List.length_append, List.length_singleton]
    rw [show (((g1.2.1.length + 1 : Nat) : Int) - 1).toNat = g1.2.1.length by omega, show (((g1.2.2.1.length + 1 : Nat) : Int) - 1).toNat = g1.2.2.1.length by omega, List.take_left, List.take_left, ← hr]
def GP (r : RU) (g : GM) : Prop := Plays (g0 r) g.2.2.1 g
theorem GP.ok (hz : Rz r) {g : GM} (h : GP r g) (hl : g.2.2.1.length ≤ 400) : GOK r g :=
  (Plays.ok hz h (g0_ok r) (by show 0 + g.2.2.1.length ≤ 400; omega)).1
theorem GP.play (hz : Rz r) {g g1 : GM} {m : MV} (h : GP r g) (hl : g.2.2.1.length ≤ 400) (hp : f51 9000 g m = some (0, g1, ())) : GP r g1 ∧ g1.2.2.1 = g.2.2.1 ++ [m] := by
  rcases play_tot hz (h.ok hz hl) hl m with ⟨e, he, h2⟩ | ⟨q, h2, _⟩
  · rw [hp] at h2
    simp only [Option.some.injEq, Prod.mk.injEq] at h2
    exact absurd h2.1.symm he
  · have hp' := hp
    rw [hp] at h2
    simp only [Option.some.injEq, Prod.mk.injEq, true_and, and_true] at h2
    subst h2
    exact ⟨Plays.snoc1 h hp', rfl⟩
theorem GP.back (hz : Rz r) {g : GM} (h : GP r g) (hl : g.2.2.1.length ≤ 400) (h0 : g.2.2.1 ≠ []) : ∃ g1, f82 9000 g = some (0, g1, ()) ∧ GP r g1 ∧ g1.2.2.1.length + 1 = g.2.2.1.length := by
  rcases List.eq_nil_or_concat g.2.2.1 with he | ⟨ms, m, he⟩
  · exact absurd he h0
  · rw [List.concat_eq_append] at he
    have hlen : ms.length + 1 = g.2.2.1.length := by rw [he]; simp
    have h' : Plays (g0 r) (ms ++ [m]) g := by rw [← he]; exact h
    obtain ⟨g1, hb, hp⟩ := back_eq hz h' (by omega)
    have hm := (Plays.ok hz hp (g0_ok r) (by show 0 + ms.length ≤ 400; omega)).2
    have hm : g1.2.2.1 = ms := by rw [hm]; rfl
    exact ⟨g1, hb, by unfold GP; rw [hm]; exact hp, by rw [hm]; exact hlen⟩
theorem moves_eq {g : GM} (hl : g.2.2.1.length ≤ 400) : f38 9000 g = some (g.2.2.1, g, ()) := by
  unfold f38
  rw [bt1 (by unfold roomN; omega)]
theorem turn_eq {m : MT} (hl : m.2.2.1.2.2.1.length ≤ 400) : f47 9000 m = some ((m.2.2.1.2.2.1.length : Int).tmod 2, m, ()) := by
  unfold f47
  rw [moves_eq hl]
  rfl
theorem made_tot (hz : Rz r) {m : MT} (hg : GP r m.2.2.1) (hl : m.2.2.1.2.2.1.length ≤ 400) (s : ST) (mv : MV) (now : Int) : (∃ e, e ≠ 0 ∧ f76 9000 m s mv now = some (e, m, s, ())) ∨
    ∃ g1 c o, f51 9000 m.2.2.1 mv = some (0, g1, ()) ∧ f76 9000 m s mv now = some (0, (m.1, m.2.1, g1, m.2.2.2), (s.1, s.2.1, s.2.2.1, c, o, s.2.2.2.2.2), ()) := by
  unfold f76
  rw [turn_eq hl]
  simp only [Option.bind_some]
  obtain ⟨c, e, hc⟩ := press_tot m.2.1 s.2.2.2.1 now
  rw [hc]
  simp only [Option.bind_some]
  by_cases h0 : e = 0
  rotate_left
  · rw [bne1 h0]; exact .inl ⟨e, h0, rfl⟩
  rw [beq1 h0]
  obtain ⟨o, e2, ho⟩ := omove_tot s.2.2.2.2.1 ((m.2.2.1.2.2.1.length : Int).tmod 2)
  rw [ho]
  simp only [Option.bind_some]
  by_cases h1 : e2 = 0
  rotate_left
  · rw [bne1 h1]; exact .inl ⟨e2, h1, rfl⟩
  rw [beq1 h1]
  rcases play_tot hz (hg.ok hz hl) hl mv with ⟨e3, he, hp⟩ | ⟨q, hp, _⟩
  · rw [hp]
    simp only [Option.bind_some]
    rw [bne1 he]
    exact .inl ⟨e3, he, rfl⟩
  · rw [hp]
    simp only [Option.bind_some]
    rw [beq1 rfl]
    exact .inr ⟨_, c, o, rfl, rfl⟩
theorem more10 (hz : Rz r) (e : EV) (cr : CR) (w : ST × Int × List JE × Unit) : ∀ (j : Nat) (g : GM) (s : ST), GP r g → g.2.2.1.length + s.2.2.2.2.2.1.length ≤ 300 → s.2.2.2.2.2.1.length ≤ 50 → s.2.2.2.2.2.1.length < j →
    ∃ g' s', l42_10 9000 j (r, cr, g, w) s e = some ((r, cr, g', w), s', ()) ∧ GP r g' ∧ g'.2.2.1.length + s'.2.2.2.2.2.1.length ≤ g.2.2.1.length + s.2.2.2.2.2.1.length ∧ s'.2.1 = s.2.1 ∧ s'.2.2.1 = s.2.2.1
  | 0, g, s, _, _, _, h => by omega
  | j + 1, g, s, hg, hl, h50, hj => by
    have hok := hg.ok hz (by omega)
    rw [l42_10]
    obtain ⟨_, x, _, hx, _⟩ := result_tot hz.ok hok (by omega)
    simp only [hx, Option.bind_some]
    by_cases h0 : x = 0
    rotate_left
    · rw [bn1 h0]
      exact ⟨g, s, rfl, hg, Nat.le_refl _, rfl, rfl⟩
    rw [be1 h0, moves_eq (by omega)]
    simp only [Option.bind_some]
    rw [bt1 (by omega), pos_eq hz.ok hok (by omega)]
    simp only [Option.bind_some]
    obtain ⟨hn, hp⟩ := hok.now_eq hz.ok (by omega)
    obtain ⟨m, ok, rest, e2, hnx, h1, h2⟩ := next_tot hz hp s.2.2.2.2.2.1 h50
    rw [hnx]
    simp only [Option.bind_some]
    cases ok
    · exact ⟨g, _, rfl, hg, by have := (h1 rfl).1; show _ + rest.length ≤ _; omega, rfl, rfl⟩
    · simp only [Bool.not_true, cond_false]
      have hrl := (h2 rfl).1
      rcases made_tot hz (m := (r, cr, g, w)) hg (by show g.2.2.1.length ≤ 400; omega) (s.1, s.2.1, s.2.2.1, s.2.2.2.1, s.2.2.2.2.1, rest, ()) m e.2.2.2.1 with ⟨e3, he, hm⟩ | ⟨g1, c, o, hpl, hm⟩
      · rw [hm]
        simp only [Option.bind_some]
        rw [bne1 he]
        exact ⟨g, _, rfl, hg, by show _ + rest.length ≤ _; omega, rfl, rfl⟩
      · rw [hm]
        simp only [Option.bind_some]
        rw [beq1 rfl]
        obtain ⟨k1, k2⟩ := hg.play hz (by omega) hpl
        have hlen : g1.2.2.1.length = g.2.2.1.length + 1 := by rw [k2]; simp
        obtain ⟨g', s', q1, q2, q3, q4, q5⟩ := more10 hz e cr w j g1 (s.1, s.2.1, s.2.2.1, c, o, rest, ()) k1 (by show _ + rest.length ≤ 300; omega) (by show rest.length ≤ 50; omega) (by show rest.length < j; omega)
        refine ⟨g', s', q1, q2, ?_, q4, q5⟩
        have q3 : g'.2.2.1.length + s'.2.2.2.2.2.1.length ≤ g1.2.2.1.length + rest.length := q3
        omega
theorem move_tot (hz : Rz r) {m : MT} (hr : m.1 = r) (hg : GP r m.2.2.1) (s : ST) (e : EV) (hl : m.2.2.1.2.2.1.length + s.2.2.2.2.2.1.length ≤ 250) (h50 : s.2.2.2.2.2.1.length ≤ 50) : (∃ x, x ≠ 0 ∧ f42 9000 m s e = some (x, m, s, ())) ∨
    ∃ g' s', f42 9000 m s e = some (0, (m.1, m.2.1, g', m.2.2.2), s', ()) ∧ GP r g' ∧ g'.2.2.1.length + s'.2.2.2.2.2.1.length ≤ m.2.2.1.2.2.1.length + s.2.2.2.2.2.1.length + 1 ∧ s'.2.1 = s.2.1 ∧ s'.2.2.1 = s.2.2.1 := by
  have hok := hg.ok hz (by omega)
  unfold f42
  rw [turn_eq (by omega)]
  simp only [Option.bind_some]
  by_cases h1 : e.2.1 = (m.2.2.1.2.2.1.length : Int).tmod 2
  rotate_left
  · rw [bne1 h1]; exact .inl ⟨12, by decide, rfl⟩
  rw [beq1 h1, pos_eq hz.ok hok (by omega)]
  simp only [Option.bind_some]
  obtain ⟨hn, hp⟩ := hok.now_eq hz.ok (by omega)
  obtain ⟨gl, hgl, hg1, _⟩ := gen_tot hp
  rw [hr, hgl]
  simp only [Option.bind_some]
  obtain ⟨b, hb, _⟩ := has_tot gl e.2.2.2.2.1 hg1
  rw [hb]
  simp only [Option.bind_some]
  cases b
  · exact .inl ⟨13, by decide, rfl⟩
  simp only [Bool.not_true, cond_false]
  rw [moves_eq (by omega)]
  simp only [Option.bind_some]
  rw [bn1 (by omega)]
  have hm0 : ((r, m.2.1, m.2.2.1, m.2.2.2) : MT) = m := by rw [← hr]
  rw [hm0]
  rcases made_tot hz hg (by omega) s e.2.2.2.2.1 e.2.2.2.1 with ⟨e3, he, hm⟩ | ⟨g1, c, o, hpl, hm⟩
  · rw [hm]
    simp only [Option.bind_some]
    rw [bne1 he]
    exact .inl ⟨e3, he, rfl⟩
  · rw [hm]
    simp only [Option.bind_some]
    rw [beq1 rfl]
    obtain ⟨k1, k2⟩ := hg.play hz (by omega) hpl
    have hlen : g1.2.2.1.length = m.2.2.1.2.2.1.length + 1 := by rw [k2]; simp
    rw [hr]
    obtain ⟨g', s', q1, q2, q3, q4, q5⟩ := more10 hz e m.2.1 m.2.2.2 9000 g1 (s.1, s.2.1, s.2.2.1, c, o, s.2.2.2.2.2) k1 (by show _ + s.2.2.2.2.2.1.length ≤ 300; omega) h50 (by show s.2.2.2.2.2.1.length < 9000; omega)
    rw [q1]
    refine .inr ⟨g', s', rfl, q2, ?_, q4, q5⟩
    have q3 : g'.2.2.1.length + s'.2.2.2.2.2.1.length ≤ g1.2.2.1.length + s.2.2.2.2.2.1.length := q3
    omega
end
end Go.Proofs.YtpnbiakaknbofaaGreatDoor.G
/- Matches: what Do answers. -/
namespace Go.Proofs.YtpnbiakaknbofaaGreatDoor.G
open Go.VM Go.Proofs
section
variable {r : RU}
theorem undo14 (hz : Rz r) (cr : CR) (w : ST × Int × List JE × Unit) (s : ST) (e : EV) (a b c : Int) : ∀ (j i n : Nat) (g : GM), n = i + j → GP r g → g.2.2.1.length ≤ 400 → j ≤ g.2.2.1.length → n ≤ 90 → ∀ f : Nat, j < f →
    ∃ g', l44_14 9000 f (r, cr, g, w) s e a b (n : Int) (i : Int) = some ((r, cr, g', w), s, e, a, b, ()) ∧ GP r g' ∧ g'.2.2.1.length ≤ g.2.2.1.length
  | j, i, n, g, _, _, _, _, _, 0, h => by omega
  | 0, i, n, g, hn, hg, hl, hj, h9, f + 1, _ => by
    rw [l44_14, bf1 (by omega)]
    exact ⟨g, rfl, hg, Nat.le_refl _⟩
  | j + 1, i, n, g, hn, hg, hl, hj, h9, f + 1, hf => by
    rw [l44_14, bt1 (by omega)]
    obtain ⟨g1, hb, h1, h2⟩ := hg.back hz hl (fun h => by rw [h] at hj; simp at hj)
    have hb' : f82 9000 (r, cr, g, w).2.2.1 = some (0, g1, ()) := hb
    rw [hb']
    simp only [Option.bind_some]
    rw [ws (n := (i : Int) + 1) (by omega), show ((i : Int) + 1) = ((i + 1 : Nat) : Int) by omega]
    obtain ⟨g', q1, q2, q3⟩ := undo14 hz cr w s e a b c j (i + 1) n g1 (by omega) h1 (by omega) (by omega) h9 f (by omega)
    exact ⟨g', q1, q2, by omega⟩
theorem accept_tot (hz : Rz r) {m : MT} (hr : m.1 = r) (hg : GP r m.2.2.1) (s : ST) (e : EV) (hl : m.2.2.1.2.2.1.length ≤ 400) : (∃ x s', x ≠ 0 ∧ f44 9000 m s e = some (x, m, s', ())) ∨
    ∃ g' s', f44 9000 m s e = some (0, (m.1, m.2.1, g', m.2.2.2), s', ()) ∧ GP r g' ∧ g'.2.2.1.length + s'.2.2.2.2.2.1.length ≤ m.2.2.1.2.2.1.length + s.2.2.2.2.2.1.length ∧ ((s'.2.1 = s.2.1 ∧ s'.2.2.1 = s.2.2.1) ∨ (g' = m.2.2.1 ∧ s'.2.1 = 3 ∧ s'.2.2.1 = 4)) := by
  unfold f44
  rw [moves_eq hl]
  simp only [Option.bind_some]
  obtain ⟨o, x, ho, hn⟩ := oacc_tot s.2.2.2.2.1 e.2.2.1 e.2.1 (m.2.2.1.2.2.1.length : Int)
  rw [ho]
  simp only [Option.bind_some]
  by_cases h0 : x = 0
  rotate_left
  · rw [bne1 h0]; exact .inl ⟨x, s, h0, rfl⟩
  rw [beq1 h0]
  by_cases h1 : e.2.2.1 = 0
  · rw [be1 h1]
    exact .inr ⟨m.2.2.1, _, rfl, hg, Nat.le_refl _, .inr ⟨rfl, rfl, rfl⟩⟩
  rw [bn1 h1]
  obtain ⟨b, hb, hb0, hb2, hbn⟩ := plies_le (w64 (1 - e.2.1)) (m.2.2.1.2.2.1.length : Int) (by omega)
  rw [hb]
  simp only [Option.bind_some]
  obtain ⟨o2, x2, ho2⟩ := oback_tot o (w64 ((m.2.2.1.2.2.1.length : Int) - b))
  rw [ho2]
  simp only [Option.bind_some]
  by_cases h2 : x2 = 0
  rotate_left
  · rw [bne1 h2]; exact .inl ⟨x2, _, h2, rfl⟩
  rw [beq1 h2]
  obtain ⟨k, rfl⟩ : ∃ k : Nat, b = (k : Int) := ⟨b.toNat, by omega⟩
  obtain ⟨g', q1, q2, q3⟩ := undo14 hz m.2.1 m.2.2.2 (s.1, s.2.1, s.2.2.1, s.2.2.2.1, o2, s.2.2.2.2.2) e (m.2.2.1.2.2.1.length : Int) (k : Int) 0 k 0 k m.2.2.1 (by omega) hg hl (by omega) (by omega) 9000 (by omega)
  rw [show ((0 : Nat) : Int) = 0 from rfl] at q1
  rw [hr, q1]
  simp only [Option.bind_some]
  refine .inr ⟨g', _, rfl, q2, ?_, .inl ⟨rfl, rfl⟩⟩
  show g'.2.2.1.length + 0 ≤ _
  omega
theorem claim_tot (hz : Rz r) {m : MT} (hr : m.1 = r) (hg : GP r m.2.2.1) (s : ST) (e : EV) (hl : m.2.2.1.2.2.1.length ≤ 400) : (∃ x, x ≠ 0 ∧ f46 9000 m s e = some (x, m, s, ())) ∨
    ∃ s', f46 9000 m s e = some (0, m, s', ()) ∧ s'.2.2.2.2.2.1 = s.2.2.2.2.2.1 ∧ s'.2.1 ≠ 0 ∧ s'.2.2.1 ≠ 1 := by
  have hok := hg.ok hz hl
  obtain ⟨hn, hp⟩ := hok.now_eq hz.ok hl
  obtain ⟨n, hcnt⟩ := count_tot hz.ok hok hl
  have hpos := pos_eq hz.ok hok hl
  have hturn := turn_eq hl
  unfold f46
  by_cases h2 : e.2.2.1 = 2
  · rw [be1 h2]
    obtain ⟨c, x, hlk, hc⟩ := look_tot m.2.1 s.2.2.2.1 e.2.2.2.1
    rw [hlk]
    simp only [Option.bind_some]
    by_cases hf : c.2.2.2.2.2.2.1 < 0
    · rw [bt1 hf]; exact .inl ⟨10, by decide, rfl⟩
    rw [bf1 hf, hpos]
    simp only [Option.bind_some]
    rw [hr]
    have hfal : ∃ y x', f83 9000 r m.2.2.1.now c.2.2.2.2.2.2.1 = some (y, x', ()) ∧ (x' = 0 → y ≠ 0) := by
      unfold f83
      obtain ⟨b, e', h⟩ := able_tot hz hp (w64 (1 - c.2.2.2.2.2.2.1))
      rw [h, Option.bind_some]
      by_cases h0 : e' = 0
      · rw [beq1 h0]
        cases b
        · exact ⟨3, 0, rfl, fun _ => by decide⟩
        · refine ⟨_, 0, rfl, fun _ => ?_⟩
          by_cases hx : x = 0
          · obtain ⟨l0, l1, m0, m1, p0, p1, turn, since, stopped, fallen, rfl, _, _, hfr, _⟩ := hc hx
            show w64 (2 - fallen) ≠ 0
            rw [ws (by omega)]
            omega
          · -- Look did not answer: its clock is the empty one
            rw [look_bad hlk hx]
            show w64 (2 - 0) ≠ 0
            decide
      · rw [bne1 h0]
        exact ⟨_, e', rfl, fun h => absurd h h0⟩
    obtain ⟨y, x', hfl, hy⟩ := hfal
    rw [hfl]
    simp only [Option.bind_some]
    by_cases h3 : x' = 0
    rotate_left
    · rw [bne1 h3]; exact .inl ⟨x', h3, rfl⟩
    rw [beq1 h3]
    exact .inr ⟨_, rfl, rfl, hy h3, by show (2 : Int) ≠ 1; decide⟩
  · rw [bn1 h2]
    have tail : ∀ {b : Bool}, (∃ x, x ≠ 0 ∧ (bif b then some ((10 : Int), m, s, ()) else some (0, m, (s.1, 3, 5, s.2.2.2), ())) = some (x, m, s, ())) ∨
        ∃ s' : ST, (bif b then some ((10 : Int), m, s, ()) else some (0, m, (s.1, 3, 5, s.2.2.2), ())) = some (0, m, s', ()) ∧ s'.2.2.2.2.2.1 = s.2.2.2.2.2.1 ∧ s'.2.1 ≠ 0 ∧ s'.2.2.1 ≠ 1 := by
      intro b
      cases b
      · exact .inr ⟨_, rfl, rfl, by show (3 : Int) ≠ 0; decide, by show (5 : Int) ≠ 1; decide⟩
      · exact .inl ⟨10, by decide, rfl⟩
    have good : ∃ s' : ST, (some ((0 : Int), m, ((s.1, 3, 5, s.2.2.2) : ST), ()) : Option (Int × MT × ST × Unit)) = some (0, m, s', ()) ∧ s'.2.2.2.2.2.1 = s.2.2.2.2.2.1 ∧ s'.2.1 ≠ 0 ∧ s'.2.2.1 ≠ 1 := ⟨_, rfl, rfl, by show (3 : Int) ≠ 0; decide, by show (5 : Int) ≠ 1; decide⟩
    by_cases h0 : e.2.2.1 = 0
    · rw [beq1 h0, hturn]
      simp only [Option.bind_some]
      by_cases ht : e.2.1 = (m.2.2.1.2.2.1.length : Int).tmod 2
      rotate_left
      · rw [bne1 ht]; exact .inl ⟨12, by decide, rfl⟩
      rw [beq1 ht, be1 h0, hcnt]
      simp only [Option.bind_some]
      cases decide (n < 3)
      · rw [bn1 (show e.2.2.1 ≠ 1 by omega)]
        exact .inr good
      · exact .inl ⟨10, by decide, rfl⟩
    · rw [bne1 h0]
      by_cases h1 : e.2.2.1 = 1
      rotate_left
      · rw [bne1 h1]; exact .inl ⟨1, by decide, rfl⟩
      rw [beq1 h1, hturn]
      simp only [Option.bind_some]
      by_cases ht : e.2.1 = (m.2.2.1.2.2.1.length : Int).tmod 2
      rotate_left
      · rw [bne1 ht]; exact .inl ⟨12, by decide, rfl⟩
      rw [beq1 ht, bn1 h0, be1 h1, hpos]
      simp only [Option.bind_some]
      exact tail
theorem check_tot (m : MT) (e : EV) : ∃ x, f41 9000 m e = some (x, m, ()) ∧ (x = 0 → (0 ≤ e.1 ∧ e.1 ≤ 6) ∧ (e.2.1 = 0 ∨ e.2.1 = 1) ∧ m.2.2.2.2.1 ≤ e.2.2.2.1 ∧ e.2.2.2.1 ≤ 100000000 ∧ m.2.2.2.1.2.1 = 0 ∧ m.2.2.2.2.2.1.length ≠ 1000) := by
  unfold f41
  by_cases h1 : e.1 < 0
  · rw [bt1 h1]; exact ⟨1, rfl, fun h => by omega⟩
  rw [bf1 h1]
  by_cases h2 : e.1 > 6
  · rw [bt1 h2]; exact ⟨1, rfl, fun h => by omega⟩
  rw [bf1 h2]
  by_cases h3 : e.2.1 < 0
  · rw [bt1 h3]; exact ⟨1, rfl, fun h => by omega⟩
  rw [bf1 h3]
  by_cases h4 : e.2.1 > 1
  · rw [bt1 h4]; exact ⟨1, rfl, fun h => by omega⟩
  rw [bf1 h4]
  by_cases h5 : e.2.2.2.1 < m.2.2.2.2.1
  · rw [bt1 h5]; exact ⟨11, rfl, fun h => by omega⟩
  rw [bf1 h5]
  by_cases h6 : e.2.2.2.1 > 100000000
  · rw [bt1 h6]; exact ⟨11, rfl, fun h => by omega⟩
  rw [bf1 h6]
  by_cases h7 : m.2.2.2.1.2.1 = 0
  rotate_left
  · rw [bne1 h7]; exact ⟨14, rfl, fun h => by omega⟩
  rw [beq1 h7]
  by_cases h8 : (m.2.2.2.2.2.1.length : Int) = 1000
  · rw [be1 h8]; exact ⟨9, rfl, fun h => by omega⟩
  rw [bn1 h8]
  obtain ⟨c, x, hl, _⟩ := look_tot m.2.1 m.2.2.2.1.2.2.2.1 e.2.2.2.1
  rw [hl]
  simp only [Option.bind_some]
  by_cases h9 : x = 0
  rotate_left
  · rw [bne1 h9]; exact ⟨x, rfl, fun h => absurd h h9⟩
  rw [beq1 h9]
  have good : ∃ x, (some ((0 : Int), m, ()) : Option (Int × MT × Unit)) = some (x, m, ()) ∧ (x = 0 → (0 ≤ e.1 ∧ e.1 ≤ 6) ∧ (e.2.1 = 0 ∨ e.2.1 = 1) ∧ m.2.2.2.2.1 ≤ e.2.2.2.1 ∧ e.2.2.2.1 ≤ 100000000 ∧ m.2.2.2.1.2.1 = 0 ∧ m.2.2.2.2.2.1.length ≠ 1000) :=
    ⟨0, rfl, fun _ => ⟨by omega, by omega, by omega, by omega, h7, by omega⟩⟩
  have bad : ∃ x, (some ((11 : Int), m, ()) : Option (Int × MT × Unit)) = some (x, m, ()) ∧ (x = 0 → (0 ≤ e.1 ∧ e.1 ≤ 6) ∧ (e.2.1 = 0 ∨ e.2.1 = 1) ∧ m.2.2.2.2.1 ≤ e.2.2.2.1 ∧ e.2.2.2.1 ≤ 100000000 ∧ m.2.2.2.1.2.1 = 0 ∧ m.2.2.2.2.2.1.length ≠ 1000) :=
    ⟨11, rfl, fun h => by omega⟩
  by_cases h10 : e.1 = 4
  · rw [be1 h10]
    cases decide (c.2.2.2.2.2.2.1 ≥ 0) <;> exact good
  rw [bn1 h10]
  by_cases h11 : e.1 = 5
  · rw [be1 h11]
    cases decide (c.2.2.2.2.2.2.1 ≥ 0)
    · exact good
    · cases (e.2.2.1 == 2)
      · exact bad
      · exact good
  rw [bn1 h11]
  cases decide (c.2.2.2.2.2.2.1 ≥ 0)
  · exact good
  · exact bad
end
end Go.Proofs.YtpnbiakaknbofaaGreatDoor.G
/- Matches: an event that is refused changes nothing; what holds of a match holds behind an event. -/
namespace Go.Proofs.YtpnbiakaknbofaaGreatDoor.G
open Go.VM Go.Proofs
section
variable {r : RU}
def ResOK (s : ST) (x : Int) : Prop := (s.2.1 = 0 ∧ s.2.2.1 = 0 ∧ x = 0) ∨ (s.2.1 ≠ 0 ∧ s.2.2.1 ≠ 1 ∧ x = 0) ∨ (s.2.1 = x ∧ x ≠ 0 ∧ s.2.2.1 = 1)
structure MOK (r : RU) (m : MT) : Prop where
  ru : m.1 = r
  g : GP r m.2.2.1
  st : ∃ x, f53 9000 m.2.2.1 = some (x, ()) ∧ ResOK m.2.2.2.1 x
  ch : ch 0 m.2.2.2.2.2.1
  n : m.2.2.1.2.2.1.length + m.2.2.2.1.2.2.2.2.2.1.length + 1 ≤ m.2.2.2.2.2.1.length
theorem judge_ok (hz : Rz r) (m : MT) (hg : GP r m.2.2.1) (hl : m.2.2.1.2.2.1.length ≤ 400) (hs : (m.2.2.2.1.2.1 = 0 ∧ m.2.2.2.1.2.2.1 = 0) ∨ (m.2.2.2.1.2.1 ≠ 0 ∧ m.2.2.2.1.2.2.1 ≠ 1 ∧ f53 9000 m.2.2.1 = some (0, ()))) :
    ∃ s' x, f37 9000 m = some ((m.1, m.2.1, m.2.2.1, s', m.2.2.2.2), ()) ∧ f53 9000 m.2.2.1 = some (x, ()) ∧ ResOK s' x ∧ s'.2.2.2 = m.2.2.2.1.2.2.2 := by
  obtain ⟨_, x, _, hx, _⟩ := result_tot hz.ok (hg.ok hz hl) hl
  unfold f37
  rw [hx]
  simp only [Option.bind_some]
  rcases hs with ⟨h1, h2⟩ | ⟨h1, h2, h3⟩
  · rw [be1 h1]
    by_cases h0 : x = 0
    · rw [beq1 h0]
      exact ⟨m.2.2.2.1, x, rfl, rfl, .inl ⟨h1, h2, h0⟩, rfl⟩
    · rw [bne1 h0]
      exact ⟨_, x, rfl, rfl, .inr (.inr ⟨rfl, h0, rfl⟩), rfl⟩
  · rw [bn1 h1]
    rw [hx] at h3
    simp only [Option.some.injEq, Prod.mk.injEq, and_true] at h3
    exact ⟨m.2.2.2.1, x, rfl, rfl, .inr (.inl ⟨h1, h2, h3⟩), rfl⟩
theorem fin_ok (hz : Rz r) (cr : CR) (g : GM) (s : ST) (now : Int) {ev : List JE} {e : EV} (he : EvOK e) (hc : ch 0 ev) (hev : ev.length ≤ 200) (hg : GP r g) (hn : g.2.2.1.length + s.2.2.2.2.2.1.length ≤ ev.length)
    (hs : (s.2.1 = 0 ∧ s.2.2.1 = 0) ∨ (s.2.1 ≠ 0 ∧ s.2.2.1 ≠ 1 ∧ f53 9000 g = some (0, ()))) :
    ∃ m', ((f49 9000 e).bind fun r3 => (f35 9000 ev r3.1).bind fun r4 => (f37 9000 (r, cr, g, s, now, r4.1, ())).bind fun r5 => some ((0 : Int), r5)) = some (0, m', ()) ∧ MOK r m' ∧ ∃ s' h, m' = (r, cr, g, s', now, ev ++ [(entT e, h, ())], ()) ∧ s'.2.2.2 = s.2.2.2 := by
  rw [entry_eq he]
  simp only [Option.bind_some]
  obtain ⟨h, ha, hc'⟩ := jappend_ok hc (by omega) (txok_of (ent_tx he))
  rw [ha]
  simp only [Option.bind_some]
  obtain ⟨s', x, hj, hx, hr, hp⟩ := judge_ok hz (r, cr, g, s, now, ev ++ [(entT e, h, ())], ()) hg (by show g.2.2.1.length ≤ 400; omega) hs
  rw [hj]
  have hp : s'.2.2.2 = s.2.2.2 := hp
  refine ⟨_, rfl, ⟨rfl, hg, ⟨x, hx, hr⟩, hc', ?_⟩, s', h, rfl, hp⟩
  show g.2.2.1.length + s'.2.2.2.2.2.1.length + 1 ≤ (ev ++ [(entT e, h, ())]).length
  rw [hp]
  simp only [List.length_append, List.length_singleton]
  omega
theorem mdo_tot (hz : Rz r) {m : MT} (hm : MOK r m) {e : EV} (he : EvOK e) (hev : m.2.2.2.2.2.1.length ≤ 45) : (∃ x, x ≠ 0 ∧ f14 9000 m e = some (x, m, ())) ∨
    (∃ m', f14 9000 m e = some (0, m', ()) ∧ MOK r m' ∧ (∃ h, m'.2.2.2.2.2.1 = m.2.2.2.2.2.1 ++ [(entT e, h, ())]) ∧ m.2.2.2.1.2.1 = 0) := by
  have hr := hm.ru
  have hg := hm.g
  have hnn := hm.n
  obtain ⟨x0, hx0, hst⟩ := hm.st
  have hm0 : ((r, m.2.1, m.2.2.1, m.2.2.2) : MT) = m := by rw [← hr]
  unfold f14
  obtain ⟨x, hx, hc⟩ := check_tot m e
  rw [hx]
  simp only [Option.bind_some]
  by_cases h0 : x = 0
  rotate_left
  · rw [bne1 h0]; exact .inl ⟨x, h0, rfl⟩
  obtain ⟨hk, hpl, hnow, _, hres, _⟩ := hc h0
  rw [beq1 h0]
  have hst0 : m.2.2.2.1.2.2.1 = 0 ∧ x0 = 0 := by
    rcases hst with h | h | h
    · exact ⟨h.2.1, h.2.2⟩
    · exact absurd hres h.1
    · exact absurd (h.1.symm.trans hres) h.2.1
  have hx00 : f53 9000 m.2.2.1 = some (0, ()) := by rw [hx0, hst0.2]
  have done : ∀ {v : Option (Int × MT × Unit)} {cr : CR} {g : GM} {s : ST} {now : Int}, (∃ m', v = some (0, m', ()) ∧ MOK r m' ∧ ∃ s' h, m' = (r, cr, g, s', now, m.2.2.2.2.2.1 ++ [(entT e, h, ())], ()) ∧ s'.2.2.2 = s.2.2.2) → (∃ x, x ≠ 0 ∧ v = some (x, m, ())) ∨ (∃ m', v = some (0, m', ()) ∧ MOK r m' ∧ (∃ h, m'.2.2.2.2.2.1 = m.2.2.2.2.2.1 ++ [(entT e, h, ())]) ∧ m.2.2.2.1.2.1 = 0) := by
    rintro v cr g s now ⟨m', h1, h2, s', h, rfl, _⟩
    exact .inr ⟨_, h1, h2, ⟨h, rfl⟩, hres⟩
  by_cases k0 : e.1 = 0
  · rw [be1 k0]
    rcases move_tot hz hr hg m.2.2.2.1 e (by omega) (by omega) with ⟨x, hx, h⟩ | ⟨g', s', h, hg', hlen, hs1, hs2⟩
    · rw [h]
      simp only [Option.bind_some]
      rw [bne1 hx]
      exact .inl ⟨x, hx, rfl⟩
    · rw [h]
      simp only [Option.bind_some]
      rw [beq1 rfl, hr]
      exact done (fin_ok hz m.2.1 g' s' e.2.2.2.1 he hm.ch (by omega) hg' (by omega) (.inl ⟨by rw [hs1]; exact hres, by rw [hs2]; exact hst0.1⟩))
  rw [bn1 k0]
  by_cases k1 : e.1 = 1
  · rw [be1 k1, moves_eq (by omega)]
    simp only [Option.bind_some]
    obtain ⟨o, x, ho⟩ := omake_tot m.2.2.2.1.2.2.2.2.1 e.2.2.1 e.2.1 (m.2.2.1.2.2.1.length : Int)
    rw [ho]
    simp only [Option.bind_some]
    by_cases h1 : x = 0
    rotate_left
    · rw [bne1 h1]; exact .inl ⟨x, h1, rfl⟩
    rw [beq1 h1, hr]
    exact done (fin_ok hz m.2.1 m.2.2.1 (m.2.2.2.1.1, m.2.2.2.1.2.1, m.2.2.2.1.2.2.1, m.2.2.2.1.2.2.2.1, o, m.2.2.2.1.2.2.2.2.2) e.2.2.2.1 he hm.ch (by omega) hg (by show _ + m.2.2.2.1.2.2.2.2.2.1.length ≤ _; omega) (.inl ⟨hres, hst0.1⟩))
  rw [bn1 k1]
  by_cases k2 : e.1 = 2
  · rw [be1 k2]
    rcases accept_tot hz hr hg m.2.2.2.1 e (by omega) with ⟨x, s', hx, h⟩ | ⟨g', s', h, hg', hlen, hs⟩
    · rw [h]
      simp only [Option.bind_some]
      rw [bne1 hx]
      exact .inl ⟨x, hx, rfl⟩
    · rw [h]
      simp only [Option.bind_some]
      rw [beq1 rfl, hr]
      refine done (fin_ok hz m.2.1 g' s' e.2.2.2.1 he hm.ch (by omega) hg' (by omega) ?_)
      rcases hs with ⟨a, b⟩ | ⟨a, b, c⟩
      · exact .inl ⟨by rw [a]; exact hres, by rw [b]; exact hst0.1⟩
      · exact .inr ⟨by rw [b]; decide, by rw [c]; decide, by rw [a]; exact hx00⟩
  rw [bn1 k2]
  by_cases k3 : e.1 = 3
  · rw [be1 k3, moves_eq (by omega)]
    simp only [Option.bind_some]
    obtain ⟨o, x, ho⟩ := odecl_tot m.2.2.2.1.2.2.2.2.1 e.2.2.1 e.2.1 (m.2.2.1.2.2.1.length : Int)
    rw [ho]
    simp only [Option.bind_some]
    by_cases h1 : x = 0
    rotate_left
    · rw [bne1 h1]; exact .inl ⟨x, h1, rfl⟩
    rw [beq1 h1, hr]
    exact done (fin_ok hz m.2.1 m.2.2.1 (m.2.2.2.1.1, m.2.2.2.1.2.1, m.2.2.2.1.2.2.1, m.2.2.2.1.2.2.2.1, o, m.2.2.2.1.2.2.2.2.2) e.2.2.2.1 he hm.ch (by omega) hg (by show _ + m.2.2.2.1.2.2.2.2.2.1.length ≤ _; omega) (.inl ⟨hres, hst0.1⟩))
  rw [bn1 k3]
  by_cases k4 : e.1 = 4
  · rw [be1 k4, hr]
    have hw : w64 (2 - e.2.1) ≠ 0 := by
      rw [ws (by omega)]
      omega
    exact done (fin_ok hz m.2.1 m.2.2.1 (m.2.2.2.1.1, w64 (2 - e.2.1), 3, m.2.2.2.1.2.2.2) e.2.2.2.1 he hm.ch (by omega) hg (by show _ + m.2.2.2.1.2.2.2.2.2.1.length ≤ _; omega) (.inr ⟨hw, by show (3 : Int) ≠ 1; decide, hx00⟩))
  rw [bn1 k4]
  by_cases k5 : e.1 = 5
  · rw [be1 k5]
    rcases claim_tot hz hr hg m.2.2.2.1 e (by omega) with ⟨x, hx, h⟩ | ⟨s', h, hp, hs1, hs2⟩
    · rw [h]
      simp only [Option.bind_some]
      rw [bne1 hx]
      exact .inl ⟨x, hx, rfl⟩
    · rw [h]
      simp only [Option.bind_some]
      rw [beq1 rfl, hr]
      exact done (fin_ok hz m.2.1 m.2.2.1 s' e.2.2.2.1 he hm.ch (by omega) hg (by rw [hp]; omega) (.inr ⟨hs1, hs2, hx00⟩))
  rw [bn1 k5, turn_eq (by omega)]
  simp only [Option.bind_some]
  by_cases ht : e.2.1 = (m.2.2.1.2.2.1.length : Int).tmod 2
  · rw [be1 ht]; exact .inl ⟨12, by decide, rfl⟩
  rw [bn1 ht]
  rcases add_eq m.2.2.2.1.2.2.2.2.2.1 e.2.1 e.2.2.2.2.1 (by omega) with ⟨x, hx, h⟩ | h
  · rw [h]
    simp only [Option.bind_some]
    rw [bne1 hx]
    exact .inl ⟨x, hx, rfl⟩
  · rw [h]
    simp only [Option.bind_some]
    rw [beq1 rfl, hr]
    exact done (fin_ok hz m.2.1 m.2.2.1 (m.2.2.2.1.1, m.2.2.2.1.2.1, m.2.2.2.1.2.2.1, m.2.2.2.1.2.2.2.1, m.2.2.2.1.2.2.2.2.1, m.2.2.2.1.2.2.2.2.2.1 ++ [(e.2.1, e.2.2.2.2.1, ())], ()) e.2.2.2.1 he hm.ch (by omega) hg (by show _ + (m.2.2.2.1.2.2.2.2.2.1 ++ [(e.2.1, e.2.2.2.2.1, ())]).length ≤ _; simp only [List.length_append, List.length_singleton]; omega) (.inl ⟨hres, hst0.1⟩))
end
end Go.Proofs.YtpnbiakaknbofaaGreatDoor.G
