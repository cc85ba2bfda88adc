import Derived.Test.YtpnbiakaknbofaaGreatDoorTTopC
namespace Go.Proofs.YtpnbiakaknbofaaGreatDoor.G
open Go.VM Go.Proofs
abbrev ND := Int × MV × ByteArray × Unit
abbrev RC := List (ByteArray × ByteArray × Unit) × ByteArray × List ND × Int × Unit
abbrev M4 : MV := (-1, 4, 0, ())
abbrev N4 : ND := (-1, M4, (⟨#[]⟩ : ByteArray), ())
abbrev R4 : RC := ([], (⟨#[]⟩ : ByteArray), [N4], 0, ())
abbrev Q4 : PO := ([0, 0, 0, 0, 1, 0, 0, 0, 0], ([4], [5], ()), 1, 0, ())
abbrev G4 : GM := (TIC, [TP0, Q4], [M4], ())
theorem fit2 (a b : ByteArray) (h : a.size + b.size ≤ 1000) : fitsS a b = true := by
  rw [fitsS_eq]
  exact decide_eq_true (by omega)
theorem has4 : f74 9000 TG0 M4 = some (true, ()) := by kernel_rfl
theorem do4 : f127 9000 TIC TP0 M4 = some (Q4, ()) := by kernel_rfl
theorem play4 : f51 9000 (g0 TIC) M4 = some (0, G4, ()) :=
  play_step (p := TP0) (q := Q4) gres_s0 (by decide) (by decide) rfl (after_step pcheck_s0 gen_s0 has4 do4)
theorem sq4 : f194 9000 TIC 4 = some ((⟨#[98, 50]⟩ : ByteArray), ()) := by kernel_rfl
theorem enc83 : encS 83 = (⟨#[83]⟩ : ByteArray) := by kernel_rfl
theorem mtext4 : f166 9000 TIC POS0 D9 M4 = some ((⟨#[83, 64, 98, 50]⟩ : ByteArray), ()) := by
  unfold f166
  rw [bt1 (by decide), bt2 ⟨by decide, by decide⟩]
  show (bif fitsS (encS 83) (⟨#[64]⟩ : ByteArray) then (f194 9000 TIC 4).bind fun r1 => bif fitsS (encS 83 ++ (⟨#[64]⟩ : ByteArray)) r1.1 then some ((encS 83 ++ (⟨#[64]⟩ : ByteArray)) ++ r1.1, ()) else none else none) = _
  rw [enc83, fit2 _ _ (by decide)]
  simp only [cond_true]
  rw [sq4]
  simp only [Option.bind_some]
  rw [fit2 _ _ (by decide)]
  rfl
theorem mt6 : l138_6 9000 9000 TIC POS0 M4 D9 () 9 0 = (f166 9000 TIC POS0 D9 M4).bind fun r1 => some (.inr (r1.1, 0, ())) := by kernel_rfl
theorem mText4 : f138 9000 TIC POS0 M4 = some ((⟨#[83, 64, 98, 50]⟩ : ByteArray), 0, ()) := by
  unfold f138
  rw [pcheck_tic]
  simp only [Option.bind_some]
  rw [beq1 rfl, gen_tic]
  simp only [Option.bind_some]
  rw [show l138_6 9000 9000 TIC POS0 M4 D9 () (D9.length : Int) 0 = _ from mt6, mtext4]
  rfl
theorem head4 : f134 9000 R4 = some (0, ()) := by kernel_rfl
theorem c9a : l97_9 9000 9000 R4 (g0 TIC) [] [N4] 1 0 = (f51 9000 (g0 TIC) M4).bind fun r7 => bif r7.1 != 0 then some (.inr (r7.1, ())) else l97_9 9000 8999 R4 r7.2.1 [0] [N4] 1 1 := by kernel_rfl
theorem c9b : l97_9 9000 8999 R4 G4 [0] [N4] 1 1 = some (.inl (R4, ())) := by kernel_rfl
theorem deep4 : f136 9000 [N4] = some (0, ()) := by kernel_rfl
theorem rcheck4 : f97 9000 TIC R4 = some (0, ()) := by
  unfold f97
  rw [new_eq (show Rz TIC from check_tic)]
  simp only [Option.bind_some, Sum.elim_inl]
  rw [beq1 rfl, head4]
  simp only [Option.bind_some]
  rw [beq1 rfl, show l97_9 9000 9000 R4 (g0 TIC) [] R4.2.2.1 (R4.2.2.1.length : Int) 0 = _ from c9a, play4]
  simp only [Option.bind_some]
  rw [beq1 rfl, c9b]
  simp only [Option.bind_some, Sum.elim_inl]
  rw [show f136 9000 R4.2.2.1 = _ from deep4]
  rfl
abbrev WR := RU × RC × List ByteArray × Unit
abbrev Wr0 : WR := (TIC, R4, [], ())
abbrev Wr1 : WR := (TIC, R4, [(⟨#[83, 64, 98, 50]⟩ : ByteArray)], ())
abbrev Wr2 : WR := (TIC, R4, [(⟨#[83, 64, 98, 50]⟩ : ByteArray), (⟨#[42]⟩ : ByteArray)], ())
theorem put4 : f99 9000 Wr0 (⟨#[83, 64, 98, 50]⟩ : ByteArray) = some (Wr1, ()) := by kernel_rfl
theorem put5 : f99 9000 Wr1 (⟨#[42]⟩ : ByteArray) = some (Wr2, ()) := by kernel_rfl
theorem chil4 : f100 9000 [N4] (-1) = some ([0], ()) := by kernel_rfl
theorem chil5 : f100 9000 [N4] 0 = some ([], ()) := by kernel_rfl
theorem back4 : f82 9000 G4 = some (0, g0 TIC, ()) := by kernel_rfl
theorem l6a (rec : WR → GM → Int → List Int → Option (WR × GM × Unit)) : l101_6 9000 rec 9000 Wr1 (g0 TIC) 0 N4 [] 0 0 = some (Wr1, g0 TIC, 0, N4, ()) := by kernel_rfl
theorem line4 : f101 9000 Wr0 (g0 TIC) 0 [] = some (Wr1, g0 TIC, ()) := by
  show f101_body 9000 (f101_at 9000 8999) Wr0 (g0 TIC) 0 [] = _
  generalize f101_at 9000 8999 = rec
  unfold f101_body
  rw [bt2 ⟨by decide, by decide⟩, pos_eq (show Rz TIC from check_tic).ok (g0_ok TIC) (by decide)]
  simp only [Option.bind_some]
  rw [show f138 9000 Wr0.1 (g0 TIC).now (rd ((0, (0, 0, 0, ()), (⟨#[]⟩ : ByteArray), ()) : ND) Wr0.2.1.2.2.1 0).2.1 = _ from mText4]
  simp only [Option.bind_some]
  rw [put4]
  simp only [Option.bind_some]
  rw [show (!((rd ((0, (0, 0, 0, ()), (⟨#[]⟩ : ByteArray), ()) : ND) Wr0.2.1.2.2.1 0).2.2.1.toList == (⟨#[]⟩ : ByteArray).toList)) = false from by kernel_rfl]
  simp only [cond_false]
  rw [show l101_6 9000 rec 9000 Wr1 (g0 TIC) 0 (rd ((0, (0, 0, 0, ()), (⟨#[]⟩ : ByteArray), ()) : ND) Wr0.2.1.2.2.1 0) [] (([] : List Int).length : Int) 0 = _ from l6a rec]
  simp only [Option.bind_some]
  rw [play4]
  simp only [Option.bind_some]
  rw [show f100 9000 Wr1.2.1.2.2.1 0 = _ from chil5]
  simp only [Option.bind_some]
  rw [bf1 (by decide), back4]
  rfl
abbrev BL := List (Int × Unit × Unit × Unit × Unit × Unit × Unit × Unit)
abbrev L7 : BL := [(83, (), (), (), (), (), (), ()), (64, (), (), (), (), (), (), ()), (98, (), (), (), (), (), (), ()), (50, (), (), (), (), (), (), ()), (32, (), (), (), (), (), (), ()), (42, (), (), (), (), (), (), ()), (10, (), (), (), (), (), (), ())]
theorem join4 : f87 9000 [(⟨#[83, 64, 98, 50]⟩ : ByteArray), (⟨#[42]⟩ : ByteArray)] (⟨#[32]⟩ : ByteArray) = some ((⟨#[83, 64, 98, 50, 32, 42]⟩ : ByteArray), ()) := by kernel_rfl
theorem wr4 : f98v1 9000 ((), [], ()) (⟨#[83, 64, 98, 50, 32, 42, 10]⟩ : ByteArray) = some (7, true, ((), L7, ()), ()) := by kernel_rfl
theorem str4 : f103 9000 ((), L7, ()) = some ((⟨#[83, 64, 98, 50, 32, 42, 10]⟩ : ByteArray), ((), (), ()), ()) := by kernel_rfl
theorem tags4 : l62_6 9000 9000 TIC R4 ((), [], ()) [] 0 0 = some (TIC, R4, ((), [], ()), ()) := by kernel_rfl
theorem text4 : f62 9000 TIC R4 = some ((⟨#[83, 64, 98, 50, 32, 42, 10]⟩ : ByteArray), 0, ()) := by
  unfold f62
  rw [rcheck4]
  simp only [Option.bind_some]
  rw [beq1 rfl, show l62_6 9000 9000 TIC R4 ((), [], ()) R4.1 (R4.1.length : Int) 0 = _ from tags4]
  simp only [Option.bind_some]
  rw [show (!(R4.2.1.toList == (⟨#[]⟩ : ByteArray).toList)) = false from by kernel_rfl]
  simp only [cond_false]
  rw [new_eq (show Rz TIC from check_tic)]
  simp only [Option.bind_some, Sum.elim_inl]
  rw [show f100 9000 R4.2.2.1 (-1) = _ from chil4]
  simp only [Option.bind_some]
  rw [bt1 (by decide), bt1 (by decide), bt2 ⟨by decide, by decide⟩, show f101 9000 (TIC, R4, [], ()) (g0 TIC) (rd (0 : Int) [0] 0) ((([0] : List Int).drop 1).take ((([0] : List Int).length : Int) - 1).toNat) = _ from line4]
  simp only [Option.bind_some]
  rw [be1 rfl, put5]
  simp only [Option.bind_some]
  rw [show f87 9000 Wr2.2.2.1 (⟨#[32]⟩ : ByteArray) = _ from join4]
  simp only [Option.bind_some]
  rw [fit2 _ _ (by decide)]
  simp only [cond_true]
  rw [show f98v1 9000 ((), ([], ())) ((⟨#[83, 64, 98, 50, 32, 42]⟩ : ByteArray) ++ (⟨#[10]⟩ : ByteArray)) = _ from wr4]
  simp only [Option.bind_some]
  rw [bf1 (by decide), str4]
  rfl
abbrev TGq : List MV := [(-1, 0, 0, ()), (-1, 1, 0, ()), (-1, 2, 0, ()), (-1, 3, 0, ()), (-1, 5, 0, ()), (-1, 6, 0, ()), (-1, 7, 0, ()), (-1, 8, 0, ())]
theorem gen3_q : l75_3 9000 9000 TIC Q4 [] [5] 1 0 = some (TIC, Q4, TGq, ()) := by kernel_rfl
theorem gen13_q : l75_13 9000 9000 TIC Q4 TGq [0, 0, 0, 0, 1, 0, 0, 0, 0] 9 0 = some (TGq, ()) := by kernel_rfl
theorem cpt_q : f114 9000 TGq = some (TGq, ()) := by kernel_rfl
theorem sort_q : f112 9000 TGq = some (TGq, ()) := by
  unfold f112
  rw [show Nat.ble 5 9000 = true from rfl, Bool.true_and, bt1 (by decide)]
  rw [List.mergeSort_of_pairwise (by decide)]
theorem gen_q : f75 9000 TIC Q4 = some (TGq, ()) := by
  unfold f75
  rw [bn1 (by decide), be1 rfl]
  rw [show l75_3 9000 9000 TIC Q4 [] Q4.2.1.2.1 (Q4.2.1.2.1.length : Int) 0 = some (TIC, Q4, TGq, ()) from gen3_q]
  simp only [Option.bind_some]
  rw [show l75_13 9000 9000 TIC Q4 TGq Q4.1 (Q4.1.length : Int) 0 = some (TGq, ()) from gen13_q]
  simp only [Option.bind_some]
  rw [sort_q]
  simp only [Option.bind_some]
  rw [cpt_q]
  rfl
theorem ends_q : l91_3 9000 9000 TIC Q4 0 [(0, 0, 3, false, ())] 1 0 = some (.inl (TIC, Q4, 0, ())) := by kernel_rfl
theorem res_q : f91 9000 TIC Q4 = some (0, ()) := by
  unfold f91
  rw [show l91_3 9000 9000 TIC Q4 (w64 (1 - Q4.2.2.1)) TIC.2.2.2.2.2.2.2.1 (TIC.2.2.2.2.2.2.2.1.length : Int) 0 = some (.inl (TIC, Q4, 0, ())) from ends_q]
  simp only [Option.bind_some, Sum.elim_inl]
  rw [gen_q]
  rfl
theorem now_q : f89 9000 G4 = some (Q4, ()) := by kernel_rfl
theorem gres_q : f53 9000 G4 = some (0, ()) := by
  unfold f53
  rw [now_q]
  simp only [Option.bind_some]
  rw [res_q]
  rfl
theorem gp_q : GP TIC G4 := (gp_s0.play check_tic (by decide) (show f51 9000 TGm0 M4 = some (0, G4, ()) from play4)).1
theorem new_top {cr : CR} {now : Int} {c : CL} (hst : f31 9000 cr now = some (c, 0, ())) : ∃ s1 h0, f11 9000 TIC cr now = some (.inl ((TIC, cr, g0 TIC, (s1, 0, 0, c, O0, [], ()), now, [(startT now, h0, ())], ()), 0, ())) ∧ ch 0 [(startT now, h0, ())] := by
  rcases mnew_tot TIC cr now with ⟨_, hno⟩ | ⟨hz, m, c', h, hm, hc, _, s, h0, hms, hs, hx⟩
  · exact absurd ⟨check_tic, c, hst⟩ hno
  rw [hst] at hc
  simp only [Option.some.injEq, Prod.mk.injEq, and_true] at hc
  subst hc
  rw [gres_tic] at hx
  simp only [Option.some.injEq, Prod.mk.injEq, and_true] at hx
  obtain ⟨s1, s2, s3, s4⟩ := s
  have hs : s4 = (c, O0, [], ()) := hs
  have hx : (0 : Int) = s2 := hx
  subst hs hx hms
  have hrs : s3 = 0 := by
    obtain ⟨x, hx, hst⟩ := hm.st
    have hx : f53 9000 (g0 TIC) = some (x, ()) := hx
    rw [gres_tic] at hx
    simp only [Option.some.injEq, Prod.mk.injEq, and_true] at hx
    subst hx
    rcases hst with h | h | h
    · exact h.2.1
    · exact absurd rfl h.1
    · exact absurd rfl h.2.1
  subst hrs
  exact ⟨s1, h0, h, hm.ch⟩
abbrev CRm : CR := ([(0, 60000, ())], 1000, 0, ())
abbrev C0m : CL := ((60000, 60000, ()), (0, 0, ()), (0, 0, ()), 0, 0, false, -1, ())
abbrev C1m : CL := ((60990, 60000, ()), (1, 0, ()), (0, 0, ()), 1, 10, false, -1, ())
theorem start_m : f31 9000 CRm 0 = some (C0m, 0, ()) := by kernel_rfl
theorem look_m : f60 9000 CRm C0m 10 = some (C0m, 0, ()) := by kernel_rfl
theorem press_m : f115 9000 CRm C0m 10 = some (C1m, 0, ()) := by kernel_rfl
theorem tic26 : f26 9000 = some (TIC, ()) := by kernel_rfl
theorem min61 : f61 9000 = some (CRm, ()) := by kernel_rfl
theorem h10_eq : f25 9000 = some (true, ()) := by
  unfold f25
  rw [tic26]
  simp only [Option.bind_some]
  rw [min61]
  simp only [Option.bind_some]
  obtain ⟨s1, h0, hn, hch⟩ := new_top start_m
  rw [hn]
  simp only [Option.bind_some, Sum.elim_inl]
  obtain ⟨h, hdo, _⟩ := mdo_step (r := TIC) check_tic (s1 := s1) (last := 0) (now := 10) (ev := [(startT 0, h0, ())]) gp_s0 (by decide) hch (by simp) (show (((TGm0).2.2.1.length : Int)).tmod 2 = 0 from rfl) (.inl rfl) ⟨by decide, by decide⟩ look_m (show (-1 : Int) < 0 by decide) press_m omove0 (show TGm0.now = TP0 from rfl) gen_s0 has4
    (show f51 9000 TGm0 M4 = some (0, G4, ()) from play4) gp_q (by decide) gres_q (evk (.inl rfl) ⟨by decide, by decide⟩ ⟨by decide, by decide⟩)
  have hdo : f14 9000 (TIC, CRm, g0 TIC, (s1, 0, 0, C0m, O0, [], ()), 0, [(startT 0, h0, ())], ()) (0, 0, 0, 10, (-1, 4, 0, ()), ()) = _ := hdo
  rw [beq1 rfl, hdo]
  simp only [Option.bind_some]
  rw [text4]
  simp only [Option.bind_some]
  rw [be1 rfl, state_eq (by show G4.2.2.1.length ≤ 400; decide) (by show ([] : List PM).length ≤ 50; decide)]
  simp only [Option.bind_some]
  rw [be1 (by rfl), show ((⟨#[83, 64, 98, 50, 32, 42, 10]⟩ : ByteArray).toList == (⟨#[83, 64, 98, 50, 32, 42, 10]⟩ : ByteArray).toList) = true from by kernel_rfl]
  rfl
theorem Kb (t : Int) : 0 ≤ (w64 (t.tmod 1000 + 1000)).tmod 1000 ∧ (w64 (t.tmod 1000 + 1000)).tmod 1000 ≤ 999 := by
  have h1 := Int.tmod_lt_of_pos t (show (0 : Int) < 1000 by decide)
  have h2 := Int.lt_tmod_of_pos t (show (0 : Int) < 1000 by decide)
  rw [wid (by omega)]
  have h3 := Int.tmod_lt_of_pos (t.tmod 1000 + 1000) (show (0 : Int) < 1000 by decide)
  have h4 := Int.tmod_nonneg 1000 (show 0 ≤ t.tmod 1000 + 1000 by omega)
  omega
theorem start_top {inc bg : Int} (hi : 0 ≤ inc ∧ inc ≤ 999) (hb : 0 ≤ bg ∧ bg ≤ 999) : f31 9000 (CRT inc) bg = some (((50000, 50000, ()), (0, 0, ()), (0, 0, ()), 0, bg, false, -1, ()), 0, ()) := by
  unfold f31
  rcases clk_spec (CRT inc).1 inc 0 with ⟨e, _, _, hn⟩ | ⟨h, _⟩
  · exact absurd (crt_ok hi) hn
  · rw [h, Option.bind_some]
    simp only [show ((0 : Int) != 0) = false from rfl, cond_false]
    rw [bf1 (by omega), bf1 (by omega), bt1 (by decide)]
    rfl
theorem top_pure (x0 x1 : Int) (ts : List Int) : f8 9000 x0 x1 ts = some (true, ()) := by
  unfold f8
  rw [h10_eq]
  simp only [Option.bind_some, Bool.not_true, cond_false]
  rw [tic26]
  simp only [Option.bind_some]
  have hi := Kb x0
  have hbg := Kb x1
  generalize (w64 (x0.tmod 1000 + 1000)).tmod 1000 = inc at *
  generalize (w64 (x1.tmod 1000 + 1000)).tmod 1000 = bg at *
  obtain ⟨s1, h0, hn, hch⟩ := new_top (start_top hi hbg)
  rw [show f11 9000 TIC ([(2, 50000, ()), (0, 90000, ())], inc, 0, ()) bg = _ from hn]
  simp only [Option.bind_some, Sum.elim_inl]
  obtain ⟨now, u0, u1, hr, hn2, b1, b2, b3, b4⟩ := run0 hi hbg 8993 ts (M := (TIC, CRT inc, TGm0, (s1, 0, 0, ((50000, 50000, ()), (0, 0, ()), (0, 0, ()), 0, bg, false, -1, ()), O0, [], ()), bg, [(startT bg, h0, ())], ())) (now := bg) (u0 := 0) (u1 := 0)
    ⟨⟨s1, 50000, 50000, _, rfl, hch, rfl, by rw [got0]; rfl, by rw [got0]; rfl⟩, by omega, by omega, by omega⟩
  rw [beq1 rfl, show l8_10 9000 9000 inc bg ts ([(2, 50000, ()), (0, 90000, ())], inc, 0, ()) (TIC, CRT inc, g0 TIC, (s1, 0, 0, ((50000, 50000, ()), (0, 0, ()), (0, 0, ()), 0, bg, false, -1, ()), O0, [], ()), bg, [(startT bg, h0, ())], ()) bg (0, 0, ()) (0, 0, ()) [0, 1, 4, 2, 3, 5] 6 0 = _ from hr]
  simp only [Option.bind_some, Sum.elim_inl]
  rw [wid (n := bg + u0) (by omega), wid (n := bg + u0 + u1) (by omega), hn2, beq_self_eq_true]
theorem top_x (x : Int × Int × List Int × Unit) : f8 9000 x.1 x.2.1 x.2.2.1 = some (true, ()) := top_pure x.1 x.2.1 x.2.2.1
end Go.Proofs.YtpnbiakaknbofaaGreatDoor.G
