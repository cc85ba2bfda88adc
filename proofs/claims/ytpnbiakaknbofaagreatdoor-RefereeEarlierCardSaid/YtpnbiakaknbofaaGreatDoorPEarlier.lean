/- RefereeEarlier: what is decided about an event is the same whatever came later; the first event with something is the first one. -/
import Derived.Test.YtpnbiakaknbofaaGreatDoorTEarly2
namespace Go.Proofs.YtpnbiakaknbofaaGreatDoor.G
open Go.VM Go.Proofs
abbrev Yes : Option (Bool × Int × Unit) := some (true, 0, ())
section
variable {r : RU}
theorem first6 (cr : CR) (J : List JE) (hJ : J.length ≤ 99) (a : Int) (z : Int × Int × MV × Unit) (htot : ∀ i : Nat, ∃ b e, f23 9000 r cr J (a, (i : Int), z) = some (b, e, ())) : ∀ (j i : Nat) (x : Int), i ≤ J.length → J.length < i + j → (∀ q : Nat, q < i → f23 9000 r cr J (a, (q : Int), z) ≠ Yes) →
    (l24_6 9000 j J r cr (a, x, z) (J.length : Int) i = some (.inl ()) ∧ ∀ q : Nat, q < J.length → f23 9000 r cr J (a, (q : Int), z) ≠ Yes) ∨
    ∃ t : Nat, t < J.length ∧ l24_6 9000 j J r cr (a, x, z) (J.length : Int) i = some (.inr ((t : Int), 0, ())) ∧ f23 9000 r cr J (a, (t : Int), z) = Yes ∧ ∀ q : Nat, q < t → f23 9000 r cr J (a, (q : Int), z) ≠ Yes
  | 0, i, x, h, h', _ => by omega
  | j + 1, i, x, h, h', hq => by
    rw [l24_6]
    by_cases hi : i < J.length
    · rw [bt1 (show (i : Int) < J.length by omega)]
      dsimp only
      obtain ⟨b, e, hd⟩ := htot i
      rw [hd, Option.bind_some]
      dsimp only
      have ew : w64 ((i : Int) + 1) = ((i + 1 : Nat) : Int) := by rw [ws (by omega)]; rfl
      by_cases he : e = 0
      · rw [be1 he]
        cases b
        · rw [cond_false, ew]
          refine first6 cr J hJ a z htot j (i + 1) (i : Int) (by omega) (by omega) (fun q hqi => ?_)
          by_cases hqq : q = i
          · rw [hqq, hd]; intro h; simp at h
          · exact hq q (by omega)
        · rw [cond_true]
          exact .inr ⟨i, hi, rfl, by rw [hd, he], hq⟩
      · rw [bn1 he, ew]
        refine first6 cr J hJ a z htot j (i + 1) (i : Int) (by omega) (by omega) (fun q hqi => ?_)
        by_cases hqq : q = i
        · rw [hqq, hd]; intro h; simp at h; exact he h.2
        · exact hq q (by omega)
    · rw [bf1 (show ¬ (i : Int) < J.length by omega)]
      exact .inl ⟨rfl, fun q hqJ => hq q (by omega)⟩
theorem earlier8 (hz : Rz r) (cr : CR) (c : CM) (l : List EV) (hl : l.length ≤ 12) (hw : ∀ e ∈ l, EvOK e) (m0 : MT) (t0 : ByteArray) : ∀ (j i : Nat) (m : MT) (es : List EV), i ≤ l.length → l.length < i + j → MOK r m → m.2.2.2.2.2.1.length ≤ i + 1 → Acc m0 es m → (∀ e ∈ es, EvOK e) → es.length ≤ i → m.2.2.2.2.2.1.map (·.1) = t0 :: es.map entT →
    ∃ m' es', l7_8 9000 j cr c m l (l.length : Int) i = some (cr, c, m', ()) ∧ MOK r m' ∧ m'.2.2.2.2.2.1.length ≤ l.length + 1 ∧ Acc m0 es' m' ∧ (∀ e ∈ es', EvOK e) ∧ es'.length ≤ l.length ∧ m'.2.2.2.2.2.1.map (·.1) = t0 :: es'.map entT
  | 0, i, m, es, h, h', _, _, _, _, _, _ => by omega
  | j + 1, i, m, es, h, h', hm, hn, ha, hes, hel, ht => by
    rw [l7_8]
    by_cases hi : i < l.length
    · rw [bt1 (show (i : Int) < l.length by omega), bt2 ⟨by omega, by omega⟩]
      have e : ((i : Int) + 1) = ((i + 1 : Nat) : Int) := by omega
      have he := hw _ (rd_memL ((0, 0, 0, 0, (0, 0, 0, ()), ()) : EV) l i hi)
      rcases mdo_tot hz hm (e := rd ((0, 0, 0, 0, (0, 0, 0, ()), ()) : EV) l (i : Int)) he (by omega) with ⟨x, hx, hd⟩ | ⟨m', hd, hm', ⟨h1, hev⟩, _⟩
      · rw [hd]
        simp only [Option.bind_some]
        rw [ws (by omega), e]
        exact earlier8 hz cr c l hl hw m0 t0 j (i + 1) m es (by omega) (by omega) hm (by omega) ha hes (by omega) ht
      · rw [hd]
        simp only [Option.bind_some]
        have hlen : m'.2.2.2.2.2.1.length = m.2.2.2.2.2.1.length + 1 := by rw [hev]; simp
        rw [ws (by omega), e]
        refine earlier8 hz cr c l hl hw m0 t0 j (i + 1) m' (es ++ [rd ((0, 0, 0, 0, (0, 0, 0, ()), ()) : EV) l (i : Int)]) (by omega) (by omega) hm' (by omega) (ha.snoc he hd) (fun x hx => ?_) (by simp; omega) (by rw [hev, List.map_append, ht]; simp)
        rcases List.mem_append.1 hx with hx | hx
        · exact hes x hx
        · rw [List.mem_singleton.1 hx]; exact he
    · rw [bf1 (show ¬ (i : Int) < l.length by omega)]
      exact ⟨m, es, rfl, hm, by omega, ha, hes, by omega, ht⟩
theorem first_spec (cr : CR) (J : List JE) (hJ : J.length ≤ 99) (c : CM) (htot : ∀ i : Nat, ∃ b e, f23 9000 r cr J (c.1, (i : Int), c.2.2) = some (b, e, ()))
    (h0 : ∀ b e, f23 9000 r cr J (c.1, 0, c.2.2) = some (b, e, ()) → e ≠ 0 → ∀ q : Nat, f23 9000 r cr J (c.1, (q : Int), c.2.2) ≠ Yes) :
    (∃ e, e ≠ 0 ∧ f24 9000 r cr J c = some (0, e, ()) ∧ ∀ q : Nat, q < J.length → f23 9000 r cr J (c.1, (q : Int), c.2.2) ≠ Yes) ∨
    ∃ t : Nat, t < J.length ∧ f24 9000 r cr J c = some ((t : Int), 0, ()) ∧ f23 9000 r cr J (c.1, (t : Int), c.2.2) = Yes ∧ ∀ q : Nat, q < t → f23 9000 r cr J (c.1, (q : Int), c.2.2) ≠ Yes := by
  unfold f24
  obtain ⟨b, e, hd⟩ := htot 0
  rw [show ((0 : Nat) : Int) = 0 from rfl] at hd
  rw [hd, Option.bind_some]
  dsimp only
  by_cases he : e = 0
  rotate_left
  · rw [bne1 he]
    exact .inl ⟨e, he, rfl, fun q _ => h0 b e hd he q⟩
  rw [beq1 he]
  have := first6 cr J hJ c.1 c.2.2 htot 9000 0 0 (Nat.zero_le _) (by show J.length < 0 + 9000; have := hJ; omega) (fun q h => absurd h (Nat.not_lt_zero q))
  rw [show ((0 : Nat) : Int) = 0 from rfl] at this
  rcases this with ⟨h1, h2⟩ | ⟨t, ht, h1, h2, h3⟩
  · rw [h1, Option.bind_some, Sum.elim_inl]
    exact .inl ⟨8, by decide, rfl, h2⟩
  · rw [h1, Option.bind_some, Sum.elim_inr]
    exact .inr ⟨t, ht, rfl, h2, h3⟩
end
theorem cut12 {α : Type} (l : List α) : sliceOf l 0 (if 12 < (l.length : Int) then 12 else (l.length : Int)) = l.take 12 ∧ (0 : Int) ≤ (if 12 < (l.length : Int) then 12 else (l.length : Int)) ∧ (if 12 < (l.length : Int) then 12 else (l.length : Int)) ≤ (l.length : Int) := by
  unfold sliceOf
  by_cases h : 12 < (l.length : Int)
  · rw [if_pos h]
    exact ⟨by simp, by omega, by omega⟩
  · rw [if_neg h]
    refine ⟨?_, by omega, by omega⟩
    simp only [Int.toNat_natCast, Int.toNat_zero, List.drop_zero]
    rw [List.take_of_length_le (Nat.le_refl _), List.take_of_length_le (by omega)]
theorem earlier_pure (cr : CR) (l : List EV) (c : CM) (hl : ∀ e ∈ l, WfD EVT e) : f7 9000 cr l c = some (true, ()) := by
  unfold f7
  rw [judged_eq]
  simp only [Option.bind_some, Bool.not_true, cond_false]
  obtain ⟨c1, c2, c3⟩ := cut12 l
  rw [bt2 ⟨c2, c3⟩, c1, tic_eq]
  simp only [Option.bind_some]
  rcases mnew_tot TIC cr 0 with ⟨⟨e, he, h⟩, _⟩ | ⟨hz, m0, ck, h, hm0, hst, _, s, h0, hms, hs1, _⟩
  · rw [h]
    simp only [Option.bind_some, Sum.elim_inr]
    rw [bne1 he]
  rw [h]
  simp only [Option.bind_some, Sum.elim_inl]
  rw [beq1 rfl]
  have hj1 : m0.2.2.2.2.2.1.length = 1 := by rw [hms]; rfl
  have hclk : f31 9000 cr 0 = some (m0.2.2.2.1.2.2.2.1, 0, ()) := by
    rw [hst, hms]
    rw [show s.2.2.2.1 = ck by rw [hs1]]
  obtain ⟨m, es, hlp, hm, hn, ha, hes, hel, ht⟩ := earlier8 hz cr c (l.take 12) (by simp; omega) (fun e he => evok_of (hl e (List.mem_of_mem_take he))) m0 (startT 0) 9000 0 m0 [] (by omega) (by simp; omega) hm0 (by omega) rfl (fun e he => by cases he) (by simp) (by rw [hms]; rfl)
  have hl12 : (l.take 12).length ≤ 12 := by simp; omega
  rw [show ((0 : Nat) : Int) = 0 from rfl] at hlp
  rw [hlp]
  simp only [Option.bind_some]
  rw [journal_eq (m := m) (by omega)]
  simp only [Option.bind_some]
  have hload := load_eq in64_0 h hm (by omega) ha ht
  have hall := fun c hc => dec_all hz h hm0 hj1 hclk (by omega) hes ha ht c hc
  have htot : ∀ c : CM, ∃ b e, f23 9000 TIC cr m.2.2.2.2.2.1 c = some (b, e, ()) := fun c => by
    by_cases hc : ArgOK m.2.2.2.2.2.1 c
    · obtain ⟨b, e, hd, _⟩ := hall c hc
      exact ⟨b, e, hd⟩
    · exact ⟨_, _, dec_bad hload hc⟩
  have hlen1 : 1 ≤ m.2.2.2.2.2.1.length := by
    have := congrArg List.length ht
    simp at this
    omega
  have hF := first_spec cr m.2.2.2.2.2.1 (by omega) c (fun i => htot _) (fun b e hd he q hy => by
    by_cases hc : ArgOK m.2.2.2.2.2.1 (c.1, 0, c.2.2)
    · obtain ⟨b', e', hd', _, hx, _⟩ := hall _ hc
      rw [hd] at hd'
      simp only [Option.some.injEq, Prod.mk.injEq, and_true] at hd'
      rw [← hd'.2] at hx
      rcases hx he with ⟨_, hx⟩ | ⟨k4, hN⟩
      · exact hx rfl
      · by_cases hcq : ArgOK m.2.2.2.2.2.1 (c.1, (q : Int), c.2.2)
        · obtain ⟨b2, e2, hd2, _, _, hx2⟩ := hall _ hcq
          rw [hy] at hd2
          simp only [Option.some.injEq, Prod.mk.injEq, and_true] at hd2
          exact hx2 k4 hN hd2.2.symm
        · rw [dec_bad hload hcq] at hy
          simp at hy
    · have hcq : ¬ ArgOK m.2.2.2.2.2.1 (c.1, (q : Int), c.2.2) := fun ⟨q1, q2, q3, q4⟩ => hc ⟨q1, q2, Int.le_refl 0, by show (0 : Int) < _; omega⟩
      rw [dec_bad hload hcq] at hy
      simp at hy)
  have tail : ∀ b e, f23 9000 TIC cr m.2.2.2.2.2.1 c = some (b, e, ()) → (e = 0 → 0 ≤ c.2.1 ∧ c.2.1 < m.2.2.2.2.2.1.length) →
      ((f24 9000 TIC cr m.2.2.2.2.2.1 c).bind fun r11 =>
        bif r11.2.1 != 0 then
          bif r11.1 == 0 then
            bif e != 0 then some (true, ()) else some (!b, ())
          else some (false, ())
        else
        bif e == 0 then
          bif b then
            bif decide (r11.1 > c.2.1) then some (false, ())
            else
              (f23 9000 TIC cr m.2.2.2.2.2.1 (c.1, r11.1, c.2.2)).bind fun r13 =>
              bif r13.2.1 == 0 then some (r13.1, ()) else some (false, ())
          else
            (f23 9000 TIC cr m.2.2.2.2.2.1 (c.1, r11.1, c.2.2)).bind fun r15 =>
            bif r15.2.1 == 0 then some (r15.1, ()) else some (false, ())
        else
          (f23 9000 TIC cr m.2.2.2.2.2.1 (c.1, r11.1, c.2.2)).bind fun r17 =>
          bif r17.2.1 == 0 then some (r17.1, ()) else some (false, ())) = some (true, ()) := by
    intro b e hd hin
    rcases hF with ⟨fe, hfe, h1, h2⟩ | ⟨t, htl, h1, h2, h3⟩
    · rw [h1, Option.bind_some]
      dsimp only
      rw [bne1 hfe, be1 rfl]
      by_cases he : e = 0
      · rw [beq1 he]
        obtain ⟨i1, i2⟩ := hin he
        obtain ⟨q, hq⟩ := Int.eq_ofNat_of_zero_le i1
        have := h2 q (by omega)
        rw [← hq] at this
        cases b
        · rfl
        · exact absurd (by rw [he] at hd; exact hd) this
      · rw [bne1 he]
    · rw [h1, Option.bind_some]
      dsimp only
      rw [beq1 rfl, h2, Option.bind_some]
      dsimp only
      by_cases he : e = 0
      · rw [be1 he]
        cases b
        · rw [cond_false, be1 rfl]
        · rw [cond_true]
          obtain ⟨i1, i2⟩ := hin he
          obtain ⟨q, hq⟩ := Int.eq_ofNat_of_zero_le i1
          have hle : ¬ ((t : Int) > c.2.1) := fun hgt => by
            have := h3 q (by omega)
            rw [← hq] at this
            exact this (by rw [he] at hd; exact hd)
          rw [bf1 hle, be1 rfl]
      · rw [bn1 he, be1 rfl]
  by_cases hc : ArgOK m.2.2.2.2.2.1 c
  · obtain ⟨b, e, hd, hd2, _, _⟩ := hall c hc
    have hin : e = 0 → 0 ≤ c.2.1 ∧ c.2.1 < m.2.2.2.2.2.1.length := fun _ => hc.2.2
    have ht1 := tail b e hd hin
    rw [hd]
    simp only [Option.bind_some]
    by_cases he : e = 0
    · obtain ⟨i1, i2⟩ := hin he
      subst he
      rw [be1 rfl, ws (n := c.2.1 + 1) (by omega), bt2 ⟨by omega, by omega⟩, first_eq, show (c.2.1 + 1).toNat = c.2.1.toNat + 1 by omega, hd2]
      simp only [Option.bind_some]
      rw [beq1 rfl, beq_self_eq_true, Bool.not_true, cond_false]
      exact ht1
    · rw [bn1 he]
      exact ht1
  · have hd := dec_bad hload hc
    have ht1 := tail false 1 hd (fun h => by simp at h)
    rw [hd]
    simp only [Option.bind_some]
    rw [bn1 (by decide)]
    exact ht1
theorem earlier_x (x : CR × List EV × CM × Unit) (h : ∀ e ∈ x.2.1, WfD EVT e) : f7 9000 x.1 x.2.1 x.2.2.1 = some (true, ()) := earlier_pure x.1 x.2.1 x.2.2.1 h
end Go.Proofs.YtpnbiakaknbofaaGreatDoor.G
