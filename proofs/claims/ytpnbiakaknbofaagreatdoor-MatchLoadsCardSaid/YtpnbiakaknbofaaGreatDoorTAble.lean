/- Who is able to win: claim.Able and claim.Fallen always answer. -/
import Derived.Test.YtpnbiakaknbofaaGreatDoorTPre
namespace Go.Proofs.YtpnbiakaknbofaaGreatDoor.G
open Go.VM Go.Proofs
def sm : List Int → Int
  | [] => 0
  | x :: l => x + sm l
def own (pl : Int) : List Int → Int
  | [] => 0
  | x :: l => (if ownr x = pl then 1 else 0) + own pl l
theorem rd_set_self (l : List Int) (i : Nat) (v : Int) (h : i < l.length) : rd 0 (l.set i v) (i : Int) = v := by
  simp [rd, List.getD_eq_getElem?_getD, List.getElem?_set_self h]
theorem own_nn (pl : Int) : ∀ l : List Int, 0 ≤ own pl l ∧ own pl l ≤ l.length
  | [] => by simp [own]
  | x :: l => by
    have := own_nn pl l
    rw [own, List.length_cons]
    split <;> omega
section
variable {r : RU} {p : PO}
theorem becomes_at (hr : ROK r) (kd : Int) : ∀ (j : Nat) (k s7 : Int), 0 ≤ k ∧ k < r.2.2.2.1.length → 0 ≤ s7 ∧ s7 ≤ 6 → 6 < s7 + j →
    (∃ a b, l184_2 9000 j k kd r s7 = some (.inl (a, b, ()))) ∨ ∃ b, l184_2 9000 j k kd r s7 = some (.inr (b, ()))
  | 0, k, s7, hk, h, h' => by omega
  | j + 1, k, s7, hk, h, h' => by
    have hn := hr.n6
    rw [l184_2]
    by_cases c : s7 < 6
    rotate_left
    · rw [bf1 c]; exact .inl ⟨_, _, rfl⟩
    rw [bt1 c]
    by_cases e : k = kd
    · rw [be1 e]; exact .inr ⟨_, rfl⟩
    rw [bn1 e, bt2 ⟨hk.1, hk.2⟩]
    obtain ⟨m, rfl⟩ := Int.eq_ofNat_of_zero_le hk.1
    have hpc : PcOK r.2.2.2.1.length (rd ((0, 0, 0, [], ()) : PC) r.2.2.2.1 (m : Int)) := hr.pcs m (by omega)
    obtain ⟨_, _, _, _, q0, q1, _⟩ := hpc
    by_cases z : (rd ((0, 0, 0, [], ()) : PC) r.2.2.2.1 (m : Int)).2.2.1 = 0
    · rw [be1 z]; exact .inr ⟨_, rfl⟩
    rw [bn1 z, bt2 ⟨hk.1, hk.2⟩, ws (n := (rd ((0, 0, 0, [], ()) : PC) r.2.2.2.1 (m : Int)).2.2.1 - 1) (by omega), ws (n := s7 + 1) (by omega)]
    exact becomes_at hr kd j _ _ ⟨by omega, by omega⟩ ⟨by omega, by omega⟩ (by omega)
def Near (r : RU) (k kd : Int) : Prop := k = kd ∨ kd + 1 = (rd P0 r.2.2.2.1 k).2.2.1
theorem becomes_tot (hr : ROK r) (k kd : Int) (hk : 0 ≤ k ∧ k < r.2.2.2.1.length) (hkd : 0 ≤ kd) : ∃ b, f184 9000 r k kd = some (b, ()) ∧ (Near r k kd → b = true) := by
  unfold f184
  have hn := hr.n6
  by_cases hne : Near r k kd
  · rw [l184_2, bt1 (by decide)]
    by_cases e : k = kd
    · rw [be1 e]
      exact ⟨_, rfl, fun _ => rfl⟩
    rw [bn1 e, bt2 ⟨hk.1, hk.2⟩]
    have z : kd + 1 = (rd ((0, 0, 0, [], ()) : PC) r.2.2.2.1 k).2.2.1 := hne.resolve_left e
    rw [← z, bn1 (by omega), bt2 ⟨hk.1, hk.2⟩]
    obtain ⟨m, rfl⟩ := Int.eq_ofNat_of_zero_le hk.1
    have hpc : PcOK r.2.2.2.1.length (rd ((0, 0, 0, [], ()) : PC) r.2.2.2.1 (m : Int)) := hr.pcs m (by omega)
    obtain ⟨_, _, _, _, q0, q1, _⟩ := hpc
    rw [ws (n := kd + 1 - 1) (by omega), show w64 (0 + 1) = 1 by decide, l184_2, bt1 (by decide), be1 (by omega)]
    exact ⟨_, rfl, fun _ => rfl⟩
  · rcases becomes_at hr kd 9000 k 0 hk (by omega) (by omega) with ⟨a, b, h⟩ | ⟨b, h⟩
    · rw [h]
      exact ⟨_, rfl, fun h => absurd h hne⟩
    · rw [h]
      exact ⟨_, rfl, fun h => absurd h hne⟩
theorem ways4 (n al kd so : Int) (ws_ : List WY) (hw : ws_.length ≤ 16) : ∀ (j i : Nat) (tk : Bool), i ≤ ws_.length → ws_.length < i + j → ∃ t, l183_4 9000 j n al r kd so tk ws_ (ws_.length : Int) i = some (al, r, kd, so, t, ())
  | 0, i, tk, h, h' => by omega
  | j + 1, i, tk, h, h' => by
    rw [l183_4]
    by_cases hi : i < ws_.length
    · have e : ((i : Int) + 1) = ((i + 1 : Nat) : Int) := by omega
      rw [bt1 (show (i : Int) < ws_.length by omega), bt2 ⟨by omega, by omega⟩, ws (n := (i : Int) + 1) (by omega), e]
      cases tk
      · simp only [cond_false]
        by_cases c : n > 0
        · rw [bt1 c]; exact ways4 n al kd so ws_ hw j (i + 1) _ (by omega) (by omega)
        · rw [bf1 c]; exact ways4 n al kd so ws_ hw j (i + 1) _ (by omega) (by omega)
      · exact ways4 n al kd so ws_ hw j (i + 1) _ (by omega) (by omega)
    · rw [bf1 (show ¬ (i : Int) < ws_.length by omega)]
      exact ⟨_, rfl⟩
theorem count_tot1 (hr : ROK r) (k n al kd so : Int) (tk : Bool) (hk : 0 ≤ k ∧ k < r.2.2.2.1.length) (hkd : 0 ≤ kd) (hn : 0 ≤ n ∧ n ≤ 1000) (hal : 0 ≤ al ∧ al ≤ 100000) (hso : 0 ≤ so ∧ so ≤ 100000) :
    ∃ so' t, f183 9000 k n al r kd so tk = some (al + n, r, kd, so', t, ()) ∧ so ≤ so' ∧ so' ≤ so + n ∧ (Near r k kd → so' = so + n) := by
  unfold f183
  obtain ⟨b, hb, hnear⟩ := becomes_tot hr k kd hk hkd
  rw [hb]
  simp only [Option.bind_some]
  have hn6 := hr.n6
  obtain ⟨m, rfl⟩ := Int.eq_ofNat_of_zero_le hk.1
  have hpc : PcOK r.2.2.2.1.length (rd ((0, 0, 0, [], ()) : PC) r.2.2.2.1 (m : Int)) := hr.pcs m (by omega)
  have hw := hpc.2.2.2.2.2.2.1
  rw [bt2 ⟨hk.1, hk.2⟩, bt2 ⟨hk.1, hk.2⟩, ws (n := al + n) (by omega), ws (n := so + n) (by omega)]
  have w4 := fun so' => ways4 (r := r) n (al + n) kd so' (rd ((0, 0, 0, [], ()) : PC) r.2.2.2.1 (m : Int)).2.2.2.1 hw 9000 0 tk (by omega) (by omega)
  cases b
  · obtain ⟨t, ht⟩ := w4 so
    rw [show ((0 : Nat) : Int) = 0 from rfl] at ht
    simp only [cond_false]
    rw [ht]
    exact ⟨so, t, rfl, by omega, by omega, fun h => absurd (hnear h) (by decide)⟩
  · obtain ⟨t, ht⟩ := w4 (so + n)
    rw [show ((0 : Nat) : Int) = 0 from rfl] at ht
    simp only [cond_true]
    rw [ht]
    exact ⟨so + n, t, rfl, by omega, by omega, fun _ => rfl⟩
theorem cells4 (hp : POK r p) (pl kd : Int) (hpl : pl = 0 ∨ pl = 1) (hkd : 0 ≤ kd) : ∀ (j i : Nat) (al so : Int) (tk : Bool), i ≤ p.1.length → p.1.length < i + j → 0 ≤ so ∧ so ≤ al → al ≤ i →
    ∃ so' t, l150_4 9000 j pl r p kd al so tk () p.1 (p.1.length : Int) i = some (pl, r, p, kd, al + own pl (p.1.drop i), so', t, (), ()) ∧ so ≤ so' ∧ so' ≤ al + own pl (p.1.drop i) ∧
      (∀ s : Nat, i ≤ s → s < p.1.length → rd 0 p.1 (s : Int) ≠ 0 → ownr (rd 0 p.1 (s : Int)) = pl → Near r (knd (rd 0 p.1 (s : Int))) kd → 1 ≤ so')
  | 0, i, al, so, tk, h, h', _, _ => by omega
  | j + 1, i, al, so, tk, h, h', hso, hal => by
    have hl := hp.len64
    have hn6 := hp.ru.n6
    rw [l150_4]
    by_cases hi : i < p.1.length
    · have e : ((i : Int) + 1) = ((i + 1 : Nat) : Int) := by omega
      have hc := hp.cells i hi
      rw [bt1 (show (i : Int) < p.1.length by omega), bt2 ⟨by omega, by omega⟩, ws (n := (i : Int) + 1) (by omega), e, own_eq]
      simp only [Option.bind_some]
      rw [own_eq' _ ⟨hc.1, by omega⟩, drop_rd 0 p.1 i hi, own]
      by_cases ho : ownr (rd 0 p.1 (i : Int)) = pl
      · rw [be1 ho, if_pos ho]
        by_cases hz : rd 0 p.1 (i : Int) = 0
        · have hpl1 : pl = -1 := by rw [← ho, hz]; rfl
          omega
        · obtain ⟨hkk, k0, k1⟩ := kind_eq' (rd 0 p.1 (i : Int)) r.2.2.2.1.length (by omega) hc.2 (by omega)
          rw [hkk]
          simp only [Option.bind_some]
          obtain ⟨so1, t1, h1, h2, h3, h4⟩ := count_tot1 hp.ru (knd (rd 0 p.1 (i : Int))) 1 al kd so tk ⟨k0, k1⟩ hkd (by omega) (by omega) (by omega)
          rw [h1]
          simp only [Option.bind_some]
          obtain ⟨so2, t2, g1, g2, g3, g4⟩ := cells4 hp pl kd hpl hkd j (i + 1) (al + 1) so1 t1 (by omega) (by omega) (by omega) (by omega)
          rw [g1]
          refine ⟨so2, t2, by rw [show al + 1 + own pl (List.drop (i + 1) p.1) = al + (1 + own pl (List.drop (i + 1) p.1)) by omega], by omega, by omega, fun s hs1 hs2 hs3 hs4 hs5 => ?_⟩
          by_cases hsi : s = i
          · subst hsi
            have := h4 hs5
            omega
          · exact g4 s (by omega) hs2 hs3 hs4 hs5
      · rw [bn1 ho, if_neg ho]
        obtain ⟨so2, t2, g1, g2, g3, g4⟩ := cells4 hp pl kd hpl hkd j (i + 1) al so tk (by omega) (by omega) hso (by omega)
        rw [g1]
        refine ⟨so2, t2, by rw [show al + own pl (List.drop (i + 1) p.1) = al + (0 + own pl (List.drop (i + 1) p.1)) by omega], by omega, by omega, fun s hs1 hs2 hs3 hs4 hs5 => ?_⟩
        by_cases hsi : s = i
        · subst hsi
          exact absurd hs4 ho
        · exact g4 s (by omega) hs2 hs3 hs4 hs5
    · rw [bf1 (show ¬ (i : Int) < p.1.length by omega), List.drop_eq_nil_of_le (by omega), own]
      exact ⟨so, tk, by rw [Int.add_zero], by omega, by omega, fun s h1 h2 => by omega⟩
theorem hands10 (hr : ROK r) (kd : Int) (hkd : 0 ≤ kd) (l : List Int) (hl : l.length = r.2.2.2.1.length) (hb : Bnd 1000 l) : ∀ (j i : Nat) (al so : Int) (tk : Bool), i ≤ l.length → l.length < i + j → 0 ≤ so ∧ so ≤ al → al ≤ 64 + 1000 * i →
    ∃ so' t, l150_10 9000 j r kd al so tk () l (l.length : Int) i = some (al + sm (l.drop i), so', t, ()) ∧ so ≤ so' ∧
      (∀ s : Nat, i ≤ s → s < l.length → 1 ≤ rd 0 l (s : Int) → Near r (s : Int) kd → 1 ≤ so')
  | 0, i, al, so, tk, h, h', _, _ => by omega
  | j + 1, i, al, so, tk, h, h', hso, hal => by
    have hn6 := hr.n6
    rw [l150_10]
    by_cases hi : i < l.length
    · have e : ((i : Int) + 1) = ((i + 1 : Nat) : Int) := by omega
      have hc := hb i hi
      rw [bt1 (show (i : Int) < l.length by omega), bt2 ⟨by omega, by omega⟩, ws (n := (i : Int) + 1) (by omega), e]
      obtain ⟨so1, t1, h1, h2, h3, h4⟩ := count_tot1 hr (i : Int) (rd 0 l (i : Int)) al kd so tk ⟨by omega, by omega⟩ hkd hc (by omega) (by omega)
      rw [h1]
      simp only [Option.bind_some]
      obtain ⟨so2, t2, g1, g2, g4⟩ := hands10 hr kd hkd l hl hb j (i + 1) (al + rd 0 l (i : Int)) so1 t1 (by omega) (by omega) (by omega) (by omega)
      rw [g1, drop_rd 0 l i hi, sm]
      refine ⟨so2, t2, by rw [Int.add_assoc], by omega, fun s hs1 hs2 hs3 hs4 => ?_⟩
      by_cases hsi : s = i
      · subst hsi
        have := h4 hs4
        omega
      · exact g4 s (by omega) hs2 hs3 hs4
    · rw [bf1 (show ¬ (i : Int) < l.length by omega), List.drop_eq_nil_of_le (by omega), sm]
      exact ⟨so, tk, by rw [Int.add_zero], by omega, fun s h1 h2 => by omega⟩
def hndOf (p : PO) (pl : Int) : List Int := if pl = 0 then p.2.1.1 else p.2.1.2.1
def Some1 (r : RU) (p : PO) (pl kd : Int) : Prop := (∃ s : Nat, s < p.1.length ∧ rd 0 p.1 (s : Int) ≠ 0 ∧ ownr (rd 0 p.1 (s : Int)) = pl ∧ Near r (knd (rd 0 p.1 (s : Int))) kd) ∨
  ∃ s : Nat, s < r.2.2.2.1.length ∧ 1 ≤ rd 0 (hndOf p pl) (s : Int) ∧ Near r (s : Int) kd
theorem pieces_eq (hp : POK r p) (pl kd : Int) (hpl : pl = 0 ∨ pl = 1) (hkd : 0 ≤ kd) : ∃ so t, f150 9000 r p pl kd = some (own pl p.1 + sm (hndOf p pl), so, t, ()) ∧ (Some1 r p pl kd → 1 ≤ so) := by
  unfold f150
  have hl := hp.len64
  have hn6 := hp.ru.n6
  obtain ⟨so1, t1, h1, h2, h3, h4⟩ := cells4 hp pl kd hpl hkd 9000 0 0 0 false (by omega) (by omega) (by omega) (by omega)
  rw [show ((0 : Nat) : Int) = 0 from rfl, List.drop_zero, Int.zero_add] at h1
  rw [List.drop_zero, Int.zero_add] at h3
  rw [h1]
  simp only [Option.bind_some]
  have hown := own_nn pl p.1
  rcases hpl with rfl | rfl
  · rw [be1 rfl]
    have ha := hp.a
    obtain ⟨so2, t2, g1, g2, g4⟩ := hands10 hp.ru kd hkd p.2.1.1 hp.a hp.ha 9000 0 (own 0 p.1) so1 t1 (by omega) (by omega) (by omega) (by omega)
    rw [show ((0 : Nat) : Int) = 0 from rfl, List.drop_zero] at g1
    rw [g1]
    refine ⟨so2, t2, rfl, ?_⟩
    rintro (⟨s, s1, s2, s3, s4⟩ | ⟨s, s1, s2, s3⟩)
    · have := h4 s (by omega) s1 s2 s3 s4
      omega
    · exact g4 s (by omega) (by rw [ha]; exact s1) s2 s3
  · rw [bn1 (by decide), be1 rfl]
    have ha := hp.b
    obtain ⟨so2, t2, g1, g2, g4⟩ := hands10 hp.ru kd hkd p.2.1.2.1 hp.b hp.hb 9000 0 (own 1 p.1) so1 t1 (by omega) (by omega) (by omega) (by omega)
    rw [show ((0 : Nat) : Int) = 0 from rfl, List.drop_zero] at g1
    rw [g1]
    refine ⟨so2, t2, rfl, ?_⟩
    rintro (⟨s, s1, s2, s3, s4⟩ | ⟨s, s1, s2, s3⟩)
    · have := h4 s (by omega) s1 s2 s3 s4
      omega
    · exact g4 s (by omega) (by rw [ha]; exact s1) s2 s3
theorem able_step {α : Type} (L k2 k0 ac kp tk k1 sp : Bool) (T X : α) : (bif L then T else bif k2 then T else bif k0 then bif ac then T else bif kp then bif tk then T else bif k1 then bif sp then T else bif kp then bif tk then T else X else X else X else bif k1 then bif sp then T else bif kp then bif tk then T else X else X else X else bif k1 then bif sp then T else bif kp then bif tk then T else X else X else X) =
    bif L || k2 || (k0 && (ac || kp && tk)) || (k1 && (sp || kp && tk)) then T else X := by
  cases L <;> cases k2 <;> cases k0 <;> cases ac <;> cases kp <;> cases tk <;> cases k1 <;> cases sp <;> rfl
def Can (r : RU) (p : PO) (pl : Int) (x : EN) : Prop := x.2.2.2.1 = true ∨ x.1 = 2 ∨ (x.1 = 0 ∧ x.2.2.1 ≤ own pl p.1 + sm (hndOf p pl)) ∨ (x.1 = 1 ∧ Some1 r p pl x.2.1)
theorem able9_tot (hp : POK r p) (pl : Int) (hpl : pl = 0 ∨ pl = 1) : ∀ (j i : Nat), i ≤ r.2.2.2.2.2.2.2.1.length → r.2.2.2.2.2.2.2.1.length < i + j →
    l124_9 9000 j pl r p r.2.2.2.2.2.2.2.1 (r.2.2.2.2.2.2.2.1.length : Int) i = some (.inl ()) ∨ l124_9 9000 j pl r p r.2.2.2.2.2.2.2.1 (r.2.2.2.2.2.2.2.1.length : Int) i = some (.inr (true, 0, ()))
  | 0, i, h, h' => by omega
  | j + 1, i, h, h' => by
    have h6 := hp.ru.e6
    rw [l124_9]
    by_cases hi : i < r.2.2.2.2.2.2.2.1.length
    · have e : ((i : Int) + 1) = ((i + 1 : Nat) : Int) := by omega
      have hx : EnOK (r.2.2.2.1.length : Int) (rd E0 r.2.2.2.2.2.2.2.1 (i : Int)) := hp.ru.ends i hi
      rw [bt1 (show (i : Int) < r.2.2.2.2.2.2.2.1.length by omega), bt2 ⟨by omega, by omega⟩, ws (n := (i : Int) + 1) (by omega), e]
      rw [show rd ((0, 0, 0, false, ()) : EN) r.2.2.2.2.2.2.2.1 (i : Int) = rd E0 r.2.2.2.2.2.2.2.1 (i : Int) from rfl]
      obtain ⟨so, t, h1, _⟩ := pieces_eq hp pl (rd E0 r.2.2.2.2.2.2.2.1 (i : Int)).2.1 hpl (by rcases hx with h | h | h <;> omega)
      rw [h1]
      simp only [Option.bind_some]
      rw [able_step]
      generalize ((rd E0 r.2.2.2.2.2.2.2.1 (i : Int)).2.2.2.1 || (rd E0 r.2.2.2.2.2.2.2.1 (i : Int)).1 == 2 || ((rd E0 r.2.2.2.2.2.2.2.1 (i : Int)).1 == 0 && (decide (own pl p.1 + sm (hndOf p pl) ≥ (rd E0 r.2.2.2.2.2.2.2.1 (i : Int)).2.2.1) || r.2.2.2.2.2.2.1 && t)) || ((rd E0 r.2.2.2.2.2.2.2.1 (i : Int)).1 == 1 && (decide (so > 0) || r.2.2.2.2.2.2.1 && t))) = bb
      cases bb
      · exact able9_tot hp pl hpl j (i + 1) (by omega) (by omega)
      · exact .inr rfl
    · rw [bf1 (show ¬ (i : Int) < r.2.2.2.2.2.2.2.1.length by omega)]
      exact .inl rfl
theorem able_tot (hz : Rz r) (hp : POK r p) (pl : Int) : ∃ b e, f124 9000 r p pl = some (b, e, ()) := by
  unfold f124
  rw [place_ok hz hp]
  simp only [Option.bind_some]
  rw [beq1 rfl]
  by_cases h1 : pl < 0
  · rw [bt1 h1]; exact ⟨_, _, rfl⟩
  rw [bf1 h1]
  by_cases h2 : pl > 1
  · rw [bt1 h2]; exact ⟨_, _, rfl⟩
  rw [bf1 h2]
  by_cases hb : r.2.2.2.2.2.2.2.2.1 = 2
  · have h6 := hp.ru.e6
    rw [beq1 hb]
    rcases able9_tot hp pl (by omega) 9000 0 (by omega) (by omega) with h | h <;> rw [show ((0 : Nat) : Int) = 0 from rfl] at h <;> rw [h] <;> exact ⟨_, _, rfl⟩
  · rw [bne1 hb]
    exact ⟨_, _, rfl⟩
theorem fallen_tot (hz : Rz r) (hp : POK r p) (pl : Int) : ∃ x e, f83 9000 r p pl = some (x, e, ()) := by
  unfold f83
  obtain ⟨b, e, h⟩ := able_tot hz hp (w64 (1 - pl))
  rw [h, Option.bind_some]
  by_cases h0 : e = 0
  · rw [beq1 h0]
    cases b <;> exact ⟨_, _, rfl⟩
  · rw [bne1 h0]
    exact ⟨_, _, rfl⟩
end
end Go.Proofs.YtpnbiakaknbofaaGreatDoor.G
