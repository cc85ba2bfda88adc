import Derived.Test.YtpnbiakaknbofaaGreatDoorTLegal
/- What a referee decides hangs on the match behind the event, and the one ahead of it. -/
namespace Go.Proofs.YtpnbiakaknbofaaGreatDoor.G
open Go.VM Go.Proofs
theorem sl_take {α : Type} (l : List α) (n : Int) : sliceOf l 0 n = l.take n.toNat := by
  unfold sliceOf
  simp
noncomputable def decT (r : RU) (cr : CR) (Jp : List JE) (c : CM) (mk : MT) (now : Int) : Option (Bool × Int × Unit) :=
  (f12 9000 mk).bind fun r4 =>
  bif c.1 == 0 then
    (f59 9000 r cr Jp c).bind fun r5 =>
    some r5
  else
  bif c.1 == 1 then
    (f27 9000 cr r4.1.2.2.2.1 c.2.2.1 (if r4.1.2.2.2.1.2.2.2.2.1 > now then r4.1.2.2.2.1.2.2.2.2.1 else now)).bind fun r6 =>
    bif r6.2.1 == 0 then
      some (decide (r6.1 ≥ c.2.2.2.1), r6.2)
    else
      some (false, r6.2)
  else
  bif c.1 == 2 then
    (f60 9000 cr r4.1.2.2.2.1 (if r4.1.2.2.2.1.2.2.2.2.1 > now then r4.1.2.2.2.1.2.2.2.2.1 else now)).bind fun r7 =>
    bif r7.2.1 == 0 then
      some (r7.1.2.2.2.2.2.2.1 == c.2.2.1, r7.2)
    else
      some (false, r7.2)
  else
  bif c.1 == 3 then
    some (r4.1.2.1 != 0, 0, ())
  else
  bif decide (c.2.2.2.1 < 0) then
    some (false, 1, ())
  else
  bif decide (c.2.2.2.1 > 1) then
    some (false, 1, ())
  else
  bif c.2.2.2.1 == 0 then
    some (r4.1.2.2.2.2.1.1.1 == c.2.2.1, 0, ())
  else
  bif c.2.2.2.1 == 1 then
    some (r4.1.2.2.2.2.1.1.2.1 == c.2.2.1, 0, ())
  else
    none
def ArgOK (J : List JE) (c : CM) : Prop := (0 ≤ c.1 ∧ c.1 ≤ 4) ∧ (0 ≤ c.2.2.1 ∧ c.2.2.1 ≤ 1) ∧ 0 ≤ c.2.1 ∧ c.2.1 < J.length
theorem dec_bad {r : RU} {cr : CR} {J : List JE} {m : MT} (hload : f19 9000 r cr J = some (.inl (m, 0, ()))) {c : CM} (h : ¬ ArgOK J c) : f23 9000 r cr J c = some (false, 1, ()) := by
  unfold f23
  rw [hload, Option.bind_some, Sum.elim_inl]
  dsimp only
  rw [beq1 rfl]
  by_cases h1 : c.1 < 0
  · rw [bt1 h1]
  rw [bf1 h1]
  by_cases h2 : c.1 > 4
  · rw [bt1 h2]
  rw [bf1 h2]
  by_cases h3 : c.2.2.1 < 0
  · rw [bt1 h3]
  rw [bf1 h3]
  by_cases h4 : c.2.2.1 > 1
  · rw [bt1 h4]
  rw [bf1 h4]
  by_cases h5 : c.2.1 < 0
  · rw [bt1 h5]
  rw [bf1 h5]
  by_cases h6 : c.2.1 ≥ (J.length : Int)
  · rw [bt1 h6]
  exact absurd ⟨⟨by omega, by omega⟩, ⟨by omega, by omega⟩, by omega, by omega⟩ h
theorem dec_eq {r : RU} {cr : CR} {J : List JE} {m mk : MT} (hJ : J.length ≤ 9000) (hload : f19 9000 r cr J = some (.inl (m, 0, ()))) {c : CM} (h : ArgOK J c) (k : Nat) (hk : c.2.1 = k) (hl2 : f19 9000 r cr (J.take (k + 1)) = some (.inl (mk, 0, ())))
    (now : Int) (hnow : (k = 0 ∧ now = 0) ∨ (0 < k ∧ ∃ e, EvOK e ∧ (rd (((⟨#[]⟩ : ByteArray), 0, ()) : JE) J (k : Int)).1 = entT e ∧ now = e.2.2.2.1)) : f23 9000 r cr J c = decT r cr (J.take (max 1 k)) c mk now := by
  obtain ⟨⟨a1, a2⟩, ⟨a3, a4⟩, a5, a6⟩ := h
  have hw : w64 (c.2.1 + 1) = ((k + 1 : Nat) : Int) := by rw [ws (by omega), hk]; rfl
  have hmx : (if c.2.1 > 1 then c.2.1 else 1) = ((max 1 k : Nat) : Int) := by
    rw [hk]
    split <;> omega
  unfold f23
  rw [hload, Option.bind_some, Sum.elim_inl]
  dsimp only
  rw [beq1 rfl, bf1 (by omega), bf1 (by omega), bf1 (by omega), bf1 (by omega), bf1 (by omega), bf1 (by omega)]
  rcases hnow with ⟨h0, rfl⟩ | ⟨h0, e, he, ht, rfl⟩
  · rw [bf1 (show ¬ c.2.1 > 0 by omega), hw, bt2 ⟨by omega, by omega⟩, sl_take, Int.toNat_natCast, hl2, Option.bind_some, Sum.elim_inl, hmx, bt2 ⟨by omega, by omega⟩, sl_take, Int.toNat_natCast]
    rfl
  · rw [bt1 (show c.2.1 > 0 by omega), bt2 ⟨by omega, by omega⟩, hk, ht, read_eq he, Option.bind_some, ← hk, hw, bt2 ⟨by omega, by omega⟩, sl_take, Int.toNat_natCast, hl2, Option.bind_some, Sum.elim_inl, hmx, bt2 ⟨by omega, by omega⟩, sl_take, Int.toNat_natCast]
    rfl
theorem left_tot (cr : CR) (c : CL) {pl : Int} (hp : 0 ≤ pl ∧ pl ≤ 1) (now : Int) : ∃ n e, f27 9000 cr c pl now = some (n, e, ()) ∧ ((∃ c', f60 9000 cr c now = some (c', 0, ())) → e = 0) := by
  unfold f27
  rw [bf1 (show ¬ pl < 0 by omega), bf1 (show ¬ pl > 1 by omega)]
  obtain ⟨c', e, hlk, hok⟩ := look_tot cr c now
  rw [hlk, Option.bind_some]
  dsimp only
  by_cases h0 : e = 0
  rotate_left
  · rw [bne1 h0]
    refine ⟨_, _, rfl, ?_⟩
    rintro ⟨c2, h2⟩
    simp only [Option.some.injEq, Prod.mk.injEq] at h2
    exact h2.2.1
  rw [beq1 h0]
  obtain ⟨l0, l1, m0, m1, p0, p1, turn, since, stopped, fallen, rfl, hru, ht, _, hs0, hs1, hs2, _, _⟩ := hok h0
  obtain ⟨ps, inc, dly, _⟩ := cr
  have hu : ∃ u, f63 9000 (ps, inc, dly, ()) ((l0, l1, ()), (m0, m1, ()), (p0, p1, ()), turn, since, stopped, fallen, ()) now = some (u, ()) := ⟨_, used_spec ps inc dly _ _ _ turn since stopped fallen now hru.2.2.2.2.1 hru.2.2.2.2.2.1 hs0 hs1 hs2⟩
  obtain ⟨u, hu⟩ := hu
  dsimp only
  rw [hu, Option.bind_some, Option.bind_some]
  have hq : pl = 0 ∨ pl = 1 := by omega
  cases decide (fallen ≥ 0)
  · cases pl != turn
    · rcases hq with rfl | rfl
      · exact ⟨_, _, rfl, fun _ => rfl⟩
      · exact ⟨_, _, rfl, fun _ => rfl⟩
    · rcases hq with rfl | rfl
      · exact ⟨_, _, rfl, fun _ => rfl⟩
      · exact ⟨_, _, rfl, fun _ => rfl⟩
  · rcases hq with rfl | rfl
    · exact ⟨_, _, rfl, fun _ => rfl⟩
    · exact ⟨_, _, rfl, fun _ => rfl⟩
end Go.Proofs.YtpnbiakaknbofaaGreatDoor.G
/- The match behind each prefix of the events; what a referee's decision answers. -/
namespace Go.Proofs.YtpnbiakaknbofaaGreatDoor.G
open Go.VM Go.Proofs
section
variable {r : RU}
theorem acc_pre (hz : Rz r) : ∀ (es : List EV) (m0 m : MT), MOK r m0 → Acc m0 es m → m0.2.2.2.2.2.1.length + es.length ≤ 45 →
    MOK r m ∧ m.2.2.2.2.2.1.length = m0.2.2.2.2.2.1.length + es.length ∧ ∀ k, k ≤ es.length → ∃ mk, Acc m0 (es.take k) mk ∧ MOK r mk ∧ mk.2.2.2.2.2.1 = m.2.2.2.2.2.1.take (m0.2.2.2.2.2.1.length + k)
  | [], m0, m, hm, ha, hl => by
    have ha : m0 = m := ha
    subst ha
    refine ⟨hm, rfl, fun k hk => ⟨m0, ?_, hm, ?_⟩⟩
    · rw [List.take_nil]; rfl
    · rw [List.take_of_length_le (by omega)]
  | e :: es, m0, m, hm, ⟨he, m1, hd, ha⟩, hl => by
    have hll : (e :: es).length = es.length + 1 := rfl
    rcases mdo_tot hz hm he (by omega) with ⟨x, hx, hd'⟩ | ⟨m', hd', hm', ⟨h, hev⟩, _⟩
    · rw [hd] at hd'
      simp only [Option.some.injEq, Prod.mk.injEq] at hd'
      exact absurd hd'.1.symm hx
    rw [hd] at hd'
    simp only [Option.some.injEq, Prod.mk.injEq, true_and, and_true] at hd'
    subst hd'
    have hlen : m1.2.2.2.2.2.1.length = m0.2.2.2.2.2.1.length + 1 := by rw [hev]; simp
    obtain ⟨i1, i2, i3⟩ := acc_pre hz es m1 m hm' ha (by omega)
    refine ⟨i1, by omega, fun k hk => ?_⟩
    cases k with
    | zero =>
      obtain ⟨mk, k1, _, k3⟩ := i3 0 (by omega)
      have k1 : m1 = mk := k1
      subst k1
      refine ⟨m0, rfl, hm, ?_⟩
      have := congrArg (List.take m0.2.2.2.2.2.1.length) k3
      rw [List.take_take, Nat.min_eq_left (by omega), hev, List.take_left] at this
      rw [Nat.add_zero]
      exact this
    | succ k =>
      obtain ⟨mk, k1, k2, k3⟩ := i3 k (by omega)
      refine ⟨mk, ⟨he, m1, hd, k1⟩, k2, ?_⟩
      rw [k3, hlen]
      congr 1
      omega
theorem decT_tot (hz : Rz r) {cr : CR} {Jp : List JE} {c : CM} {mk : MT} (hm : MOK r mk) (hl : mk.2.2.2.2.2.1.length ≤ 45) (hk : 0 ≤ c.1 ∧ c.1 ≤ 4) (hp : 0 ≤ c.2.2.1 ∧ c.2.2.1 ≤ 1) (now : Int) (hleg : ∃ b, f59 9000 r cr Jp c = some (b, 0, ())) :
    ∃ b e, decT r cr Jp c mk now = some (b, e, ()) ∧ (e ≠ 0 → ((c.1 = 1 ∨ c.1 = 2) ∧ ¬ ∃ c', f60 9000 cr mk.2.2.2.1.2.2.2.1 (if mk.2.2.2.1.2.2.2.1.2.2.2.2.1 > now then mk.2.2.2.1.2.2.2.1.2.2.2.2.1 else now) = some (c', 0, ())) ∨ (c.1 = 4 ∧ ¬ (0 ≤ c.2.2.2.1 ∧ c.2.2.2.1 ≤ 1))) ∧ (c.1 = 4 → ¬ (0 ≤ c.2.2.2.1 ∧ c.2.2.2.1 ≤ 1) → e ≠ 0) := by
  obtain ⟨n1, n2⟩ := hm.len hl
  unfold decT
  rw [state_eq (by omega) (by omega), Option.bind_some]
  dsimp only
  rw [show (stOf mk).2.2.2.1 = mk.2.2.2.1.2.2.2.1 from rfl]
  by_cases c0 : c.1 = 0
  · rw [be1 c0]
    obtain ⟨b, hb⟩ := hleg
    rw [hb, Option.bind_some]
    exact ⟨b, 0, rfl, fun h => absurd rfl h, fun h => by omega⟩
  rw [bn1 c0]
  by_cases c1 : c.1 = 1
  · rw [be1 c1]
    obtain ⟨n, e, h1, h2⟩ := left_tot cr mk.2.2.2.1.2.2.2.1 hp (if mk.2.2.2.1.2.2.2.1.2.2.2.2.1 > now then mk.2.2.2.1.2.2.2.1.2.2.2.2.1 else now)
    rw [h1, Option.bind_some]
    dsimp only
    by_cases he : e = 0
    · rw [be1 he]
      exact ⟨_, e, rfl, fun h => absurd he h, fun h => by omega⟩
    · rw [bn1 he]
      exact ⟨_, e, rfl, fun _ => .inl ⟨.inl c1, fun h => he (h2 h)⟩, fun h => by omega⟩
  rw [bn1 c1]
  by_cases c2 : c.1 = 2
  · rw [be1 c2]
    obtain ⟨c', e, h1, _⟩ := look_tot cr mk.2.2.2.1.2.2.2.1 (if mk.2.2.2.1.2.2.2.1.2.2.2.2.1 > now then mk.2.2.2.1.2.2.2.1.2.2.2.2.1 else now)
    rw [h1, Option.bind_some]
    dsimp only
    by_cases he : e = 0
    · rw [be1 he]
      exact ⟨_, e, rfl, fun h => absurd he h, fun h => by omega⟩
    · rw [bn1 he]
      refine ⟨_, e, rfl, fun _ => .inl ⟨.inr c2, ?_⟩, fun h => by omega⟩
      rintro ⟨c2', h2⟩
      simp only [Option.some.injEq, Prod.mk.injEq] at h2
      exact he h2.2.1
  rw [bn1 c2]
  by_cases c3 : c.1 = 3
  · rw [be1 c3]
    exact ⟨_, 0, rfl, fun h => absurd rfl h, fun h => by omega⟩
  rw [bn1 c3]
  by_cases d1 : c.2.2.2.1 < 0
  · rw [bt1 d1]
    exact ⟨_, 1, rfl, fun _ => .inr ⟨by omega, by omega⟩, fun _ _ => by decide⟩
  rw [bf1 d1]
  by_cases d2 : c.2.2.2.1 > 1
  · rw [bt1 d2]
    exact ⟨_, 1, rfl, fun _ => .inr ⟨by omega, by omega⟩, fun _ _ => by decide⟩
  rw [bf1 d2]
  by_cases d3 : c.2.2.2.1 = 0
  · rw [be1 d3]
    exact ⟨_, 0, rfl, fun h => absurd rfl h, fun _ h => absurd ⟨by omega, by omega⟩ h⟩
  rw [bn1 d3, be1 (show c.2.2.2.1 = 1 by omega)]
  exact ⟨_, 0, rfl, fun h => absurd rfl h, fun _ h => absurd ⟨by omega, by omega⟩ h⟩
end
end Go.Proofs.YtpnbiakaknbofaaGreatDoor.G
/- Decisions about the events of a match: the same on the journal up to the event. -/
namespace Go.Proofs.YtpnbiakaknbofaaGreatDoor.G
open Go.VM Go.Proofs
theorem start_look {cr : CR} {c : CL} (h : f31 9000 cr 0 = some (c, 0, ())) : c.2.2.2.2.1 = 0 ∧ ∃ c', f60 9000 cr c 0 = some (c', 0, ()) := by
  obtain ⟨hr, _, _⟩ := start_ok h
  obtain ⟨ps, inc, dly, _⟩ := cr
  unfold f31 at h
  rcases clk_spec ps inc dly with ⟨e, h', he, hn⟩ | ⟨h', _⟩
  · exact absurd hr hn
  rw [h', Option.bind_some] at h
  simp only [show ((0 : Int) != 0) = false from rfl, cond_false] at h
  have hr : RuOK ps inc dly := hr
  rw [bf1 (by decide), bf1 (by decide), bt1 (by have := hr.1; omega)] at h
  simp only [Option.some.injEq, Prod.mk.injEq, and_true] at h
  subst h
  refine ⟨rfl, ?_⟩
  obtain ⟨g1, g2, g3, g4, g5⟩ := hr.2.2.2.2.2.2 0 (by omega) (by have := hr.1; omega)
  have g3 : 1 ≤ (rd ((0, 0, ()) : Int × Int × Unit) ps 0).2.1 := g3
  have g4 : (rd ((0, 0, ()) : Int × Int × Unit) ps 0).2.1 ≤ 100000000 := g4
  rcases look_spec ps inc dly (rd ((0, 0, ()) : Int × Int × Unit) ps 0).2.1 (rd ((0, 0, ()) : Int × Int × Unit) ps 0).2.1 0 0 0 0 0 0 false (-1) 0 with ⟨e, _, _, hn⟩ | ⟨hlk, _⟩
  · have := hr.1
    exact absurd ⟨hr, ⟨by omega, by omega, by omega, by omega, by omega, by omega, ⟨by omega, by omega, by omega, by omega, by omega, by omega⟩, ⟨by omega, by omega, by omega, by omega, by omega, by omega⟩⟩, by omega, by omega⟩ hn
  · exact ⟨_, hlk⟩
section
variable {r : RU}
theorem dec_all (hz : Rz r) {cr : CR} {m0 m : MT} (hnew : f11 9000 r cr 0 = some (.inl (m0, 0, ()))) (hm0 : MOK r m0) (h1 : m0.2.2.2.2.2.1.length = 1) (hclk : f31 9000 cr 0 = some (m0.2.2.2.1.2.2.2.1, 0, ())) {es : List EV} (hes : es.length ≤ 20) (hw : ∀ e ∈ es, EvOK e) (ha : Acc m0 es m) (ht : m.2.2.2.2.2.1.map (·.1) = startT 0 :: es.map entT) (c : CM) (hc : ArgOK m.2.2.2.2.2.1 c) :
    ∃ b e, f23 9000 r cr m.2.2.2.2.2.1 c = some (b, e, ()) ∧ f23 9000 r cr (m.2.2.2.2.2.1.take (c.2.1.toNat + 1)) c = some (b, e, ()) ∧ (e ≠ 0 → ((c.1 = 1 ∨ c.1 = 2) ∧ c.2.1 ≠ 0) ∨ (c.1 = 4 ∧ ¬ (0 ≤ c.2.2.2.1 ∧ c.2.2.2.1 ≤ 1))) ∧ (c.1 = 4 → ¬ (0 ≤ c.2.2.2.1 ∧ c.2.2.2.1 ≤ 1) → e ≠ 0) := by
  obtain ⟨hm, hlen, hpre⟩ := acc_pre hz es m0 m hm0 ha (by omega)
  obtain ⟨hk, hp, hc0, hc1⟩ := id hc
  obtain ⟨k, hkk⟩ := Int.eq_ofNat_of_zero_le hc0
  have hkt : c.2.1.toNat = k := by omega
  rw [hkt]
  obtain ⟨mk, a1, a2, a3⟩ := hpre k (by omega)
  obtain ⟨mp, b1, b2, b3⟩ := hpre (max 1 k - 1) (by omega)
  have tx : ∀ n, (m.2.2.2.2.2.1.take (m0.2.2.2.2.2.1.length + n)).map (·.1) = startT 0 :: (es.take n).map entT := by
    intro n
    rw [List.map_take, ht, h1, Nat.add_comm, List.take_succ_cons, List.map_take]
  have l1 := load_eq in64_0 hnew hm (by omega) ha ht
  have lenk : mk.2.2.2.2.2.1.length = k + 1 := by rw [a3, List.length_take]; omega
  have lenp : mp.2.2.2.2.2.1.length = max 1 k := by rw [b3, List.length_take]; omega
  have l2 := load_eq in64_0 hnew a2 (by omega) a1 (by rw [a3]; exact tx k)
  rw [a3, h1, Nat.add_comm] at l2
  have hJp : mp.2.2.2.2.2.1 = m.2.2.2.2.2.1.take (max 1 k) := by rw [b3, h1]; congr 1; omega
  obtain ⟨bl, hleg, _⟩ := legal_eq hz in64_0 hnew b2 (by omega) b1 (by rw [b3]; exact tx _) c
  rw [hJp] at hleg
  obtain ⟨now, hnow, hn0⟩ : ∃ now : Int, ((k = 0 ∧ now = 0) ∨ (0 < k ∧ ∃ e, EvOK e ∧ (rd (((⟨#[]⟩ : ByteArray), 0, ()) : JE) m.2.2.2.2.2.1 (k : Int)).1 = entT e ∧ now = e.2.2.2.1)) ∧ (k = 0 → now = 0) := by
    by_cases h0 : k = 0
    · exact ⟨0, .inl ⟨h0, rfl⟩, fun _ => rfl⟩
    · have hki : k - 1 < es.length := by omega
      refine ⟨(es[k - 1]).2.2.2.1, .inr ⟨by omega, es[k - 1], hw _ (List.getElem_mem hki), ?_, rfl⟩, fun h => absurd h h0⟩
      have h2 : (m.2.2.2.2.2.1.map (·.1))[k]? = some (entT es[k - 1]) := by
        rw [ht, List.getElem?_cons, if_neg h0, List.getElem?_map, List.getElem?_eq_getElem hki]
        rfl
      have hkj : k < m.2.2.2.2.2.1.length := by omega
      rw [List.getElem?_map, List.getElem?_eq_getElem hkj] at h2
      unfold rd
      rw [Int.toNat_natCast, List.getD_eq_getElem?_getD, List.getElem?_eq_getElem hkj]
      exact Option.some.inj h2
  have hmx : max 1 k ≤ k + 1 := Nat.max_le.2 ⟨by omega, by omega⟩
  have e1 := dec_eq (by omega) l1 hc k hkk l2 now hnow
  have hlt : (m.2.2.2.2.2.1.take (k + 1)).length = k + 1 := by rw [List.length_take]; omega
  have hc' : ArgOK (m.2.2.2.2.2.1.take (k + 1)) c := ⟨hk, hp, hc0, by rw [hlt, hkk]; exact Int.ofNat_lt.2 (Nat.lt_succ_self k)⟩
  have hnow' : (k = 0 ∧ now = 0) ∨ (0 < k ∧ ∃ e, EvOK e ∧ (rd (((⟨#[]⟩ : ByteArray), 0, ()) : JE) (m.2.2.2.2.2.1.take (k + 1)) (k : Int)).1 = entT e ∧ now = e.2.2.2.1) := by
    have : rd (((⟨#[]⟩ : ByteArray), 0, ()) : JE) (m.2.2.2.2.2.1.take (k + 1)) (k : Int) = rd (((⟨#[]⟩ : ByteArray), 0, ()) : JE) m.2.2.2.2.2.1 (k : Int) := by
      unfold rd
      rw [Int.toNat_natCast, List.getD_eq_getElem?_getD, List.getD_eq_getElem?_getD, List.getElem?_take_of_lt (by omega)]
    rw [this]
    exact hnow
  have e2 := dec_eq (by omega) l2 hc' k hkk (by rw [List.take_take, Nat.min_self]; exact l2) now hnow'
  rw [List.take_take, Nat.min_eq_left hmx] at e2
  obtain ⟨b, e, hd, h2, h3⟩ := decT_tot hz (cr := cr) (Jp := m.2.2.2.2.2.1.take (max 1 k)) (c := c) a2 (by omega) hk hp now ⟨bl, hleg⟩
  refine ⟨b, e, e1.trans hd, e2.trans hd, fun he => ?_, h3⟩
  rcases h2 he with ⟨q1, q2⟩ | q
  · refine .inl ⟨q1, fun h0 => q2 ?_⟩
    have hk0 : k = 0 := by omega
    subst hk0
    have a1 : m0 = mk := by rw [List.take_zero] at a1; exact a1
    subst a1
    obtain ⟨s1, s2⟩ := start_look hclk
    rw [s1, hn0 rfl]
    exact s2
  · exact .inr q
end
end Go.Proofs.YtpnbiakaknbofaaGreatDoor.G
