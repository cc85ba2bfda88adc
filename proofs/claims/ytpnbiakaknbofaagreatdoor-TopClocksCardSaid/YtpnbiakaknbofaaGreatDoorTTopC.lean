import Derived.Test.YtpnbiakaknbofaaGreatDoorTTopB
namespace Go.Proofs.YtpnbiakaknbofaaGreatDoor.G
open Go.VM Go.Proofs
abbrev RES := (Int × Int × (Int × Int × Unit) × Unit) ⊕ (Bool × Unit)
noncomputable def ITe (j : Nat) (inc bg : Int) (ts : List Int) (s7 : CR) (M : MT) (now u0 u1 a b i x T : Int) : Option RES :=
  (f14 9000 M (0, 0, 0, w64 (now + T), (-1, x, 0, ()), ())).bind fun r1 => bif r1.1 != 0 then some (.inr (false, ())) else
  (f12 9000 r1.2.1).bind fun r2 => (l8_22 9000 9000 inc bg ts s7 r2.2.1 (w64 (now + T)) (w64 (u0 + T), u1, ()) (w64 (a + 1), b, ()) r2.1.2.2.2.1 [0, 1, 4, 2, 3, 5] 6 i 0).bind fun w =>
  Sum.elim (fun y => l8_10 9000 j y.1 y.2.1 y.2.2.1 y.2.2.2.1 y.2.2.2.2.1 y.2.2.2.2.2.1 y.2.2.2.2.2.2.1 y.2.2.2.2.2.2.2.1 y.2.2.2.2.2.2.2.2.1 y.2.2.2.2.2.2.2.2.2.1 (w64 (y.2.2.2.2.2.2.2.2.2.2.1 + 1))) (fun y => some (.inr y)) w
noncomputable def ITo (j : Nat) (inc bg : Int) (ts : List Int) (s7 : CR) (M : MT) (now u0 u1 a b i x T : Int) : Option RES :=
  (f14 9000 M (0, 1, 0, w64 (now + T), (-1, x, 0, ()), ())).bind fun r1 => bif r1.1 != 0 then some (.inr (false, ())) else
  (f12 9000 r1.2.1).bind fun r2 => (l8_22 9000 9000 inc bg ts s7 r2.2.1 (w64 (now + T)) (u0, w64 (u1 + T), ()) (a, w64 (b + 1), ()) r2.1.2.2.2.1 [0, 1, 4, 2, 3, 5] 6 i 0).bind fun w =>
  Sum.elim (fun y => l8_10 9000 j y.1 y.2.1 y.2.2.1 y.2.2.2.1 y.2.2.2.2.1 y.2.2.2.2.2.1 y.2.2.2.2.2.2.1 y.2.2.2.2.2.2.2.1 y.2.2.2.2.2.2.2.2.1 y.2.2.2.2.2.2.2.2.2.1 (w64 (y.2.2.2.2.2.2.2.2.2.2.1 + 1))) (fun y => some (.inr y)) w
theorem it0 (j : Nat) (inc bg : Int) (ts : List Int) (s7 : CR) (M : MT) (now u0 u1 a b : Int) : l8_10 9000 (j + 1) inc bg ts s7 M now (u0, u1, ()) (a, b, ()) [0, 1, 4, 2, 3, 5] 6 0 =
    bif decide ((0 : Int) < (ts.length : Int)) then (bif decide ((0 : Int) < (ts.length : Int)) then ITe j inc bg ts s7 M now u0 u1 a b 0 0 ((w64 ((rd (0 : Int) ts 0).tmod 9000 + 9000)).tmod 9000) else none) else ITe j inc bg ts s7 M now u0 u1 a b 0 0 7 := by kernel_rfl
theorem it1 (j : Nat) (inc bg : Int) (ts : List Int) (s7 : CR) (M : MT) (now u0 u1 a b : Int) : l8_10 9000 (j + 1) inc bg ts s7 M now (u0, u1, ()) (a, b, ()) [0, 1, 4, 2, 3, 5] 6 1 =
    bif decide ((1 : Int) < (ts.length : Int)) then (bif decide ((1 : Int) < (ts.length : Int)) then ITo j inc bg ts s7 M now u0 u1 a b 1 1 ((w64 ((rd (0 : Int) ts 1).tmod 9000 + 9000)).tmod 9000) else none) else ITo j inc bg ts s7 M now u0 u1 a b 1 1 7 := by kernel_rfl
theorem it2 (j : Nat) (inc bg : Int) (ts : List Int) (s7 : CR) (M : MT) (now u0 u1 a b : Int) : l8_10 9000 (j + 1) inc bg ts s7 M now (u0, u1, ()) (a, b, ()) [0, 1, 4, 2, 3, 5] 6 2 =
    bif decide ((2 : Int) < (ts.length : Int)) then (bif decide ((2 : Int) < (ts.length : Int)) then ITe j inc bg ts s7 M now u0 u1 a b 2 4 ((w64 ((rd (0 : Int) ts 2).tmod 9000 + 9000)).tmod 9000) else none) else ITe j inc bg ts s7 M now u0 u1 a b 2 4 7 := by kernel_rfl
theorem it3 (j : Nat) (inc bg : Int) (ts : List Int) (s7 : CR) (M : MT) (now u0 u1 a b : Int) : l8_10 9000 (j + 1) inc bg ts s7 M now (u0, u1, ()) (a, b, ()) [0, 1, 4, 2, 3, 5] 6 3 =
    bif decide ((3 : Int) < (ts.length : Int)) then (bif decide ((3 : Int) < (ts.length : Int)) then ITo j inc bg ts s7 M now u0 u1 a b 3 2 ((w64 ((rd (0 : Int) ts 3).tmod 9000 + 9000)).tmod 9000) else none) else ITo j inc bg ts s7 M now u0 u1 a b 3 2 7 := by kernel_rfl
theorem it4 (j : Nat) (inc bg : Int) (ts : List Int) (s7 : CR) (M : MT) (now u0 u1 a b : Int) : l8_10 9000 (j + 1) inc bg ts s7 M now (u0, u1, ()) (a, b, ()) [0, 1, 4, 2, 3, 5] 6 4 =
    bif decide ((4 : Int) < (ts.length : Int)) then (bif decide ((4 : Int) < (ts.length : Int)) then ITe j inc bg ts s7 M now u0 u1 a b 4 3 ((w64 ((rd (0 : Int) ts 4).tmod 9000 + 9000)).tmod 9000) else none) else ITe j inc bg ts s7 M now u0 u1 a b 4 3 7 := by kernel_rfl
theorem it5 (j : Nat) (inc bg : Int) (ts : List Int) (s7 : CR) (M : MT) (now u0 u1 a b : Int) : l8_10 9000 (j + 1) inc bg ts s7 M now (u0, u1, ()) (a, b, ()) [0, 1, 4, 2, 3, 5] 6 5 =
    bif decide ((5 : Int) < (ts.length : Int)) then (bif decide ((5 : Int) < (ts.length : Int)) then ITo j inc bg ts s7 M now u0 u1 a b 5 5 ((w64 ((rd (0 : Int) ts 5).tmod 9000 + 9000)).tmod 9000) else none) else ITo j inc bg ts s7 M now u0 u1 a b 5 5 7 := by kernel_rfl
theorem it6 (j : Nat) (inc bg : Int) (ts : List Int) (s7 : CR) (M : MT) (now : Int) (u m : Int × Int × Unit) : l8_10 9000 (j + 1) inc bg ts s7 M now u m [0, 1, 4, 2, 3, 5] 6 6 = some (.inl (bg, now, u, ())) := by kernel_rfl
theorem got0 (inc : Int) : got inc 0 = 50000 := by unfold got; rw [if_neg (by decide)]; omega
theorem got1 (inc : Int) : got inc 1 = 50000 + inc := by unfold got; rw [if_neg (by decide)]; omega
theorem got2 (inc : Int) : got inc 2 = 140000 + 2 * inc := by unfold got; rw [if_pos (by decide)]; omega
theorem got3 (inc : Int) : got inc 3 = 140000 + 3 * inc := by unfold got; rw [if_pos (by decide)]; omega
theorem Tb (t : Int) : 0 ≤ (w64 (t.tmod 9000 + 9000)).tmod 9000 ∧ (w64 (t.tmod 9000 + 9000)).tmod 9000 ≤ 8999 := by
  have h1 := Int.tmod_lt_of_pos t (show (0 : Int) < 9000 by decide)
  have h2 := Int.lt_tmod_of_pos t (show (0 : Int) < 9000 by decide)
  rw [wid (by omega)]
  have h3 := Int.tmod_lt_of_pos (t.tmod 9000 + 9000) (show (0 : Int) < 9000 by decide)
  have h4 := Int.tmod_nonneg 9000 (show 0 ≤ t.tmod 9000 + 9000 by omega)
  omega
structure Inv (inc bg : Int) (n : Nat) (g : GM) (a b ma mb pa pb turn : Int) (M : MT) (now u0 u1 : Int) : Prop where
  m : ∃ s1 L0 L1 ev, M = (TIC, CRT inc, g, (s1, 0, 0, ((L0, L1, ()), (ma, mb, ()), (pa, pb, ()), turn, now, false, -1, ()), O0, [], ()), now, ev, ()) ∧ ch 0 ev ∧ ev.length = n + 1 ∧ L0 + u0 = got inc a ∧ L1 + u1 = got inc b
  now : now = bg + u0 + u1
  u0 : 0 ≤ u0 ∧ u0 ≤ 8999 * a
  u1 : 0 ≤ u1 ∧ u1 ≤ 8999 * b
def Ends (bg : Int) (v : Option RES) : Prop := ∃ now u0 u1, v = some (.inl (bg, now, (u0, u1, ()), ())) ∧ now = bg + u0 + u1 ∧ 0 ≤ u0 ∧ u0 ≤ 30000 ∧ 0 ≤ u1 ∧ u1 ≤ 30000
theorem clok {inc L0 L1 ma mb pa pb turn now : Int} (h1 : 0 ≤ turn ∧ turn ≤ 1) (h2 : 0 ≤ now ∧ now ≤ 100000000) (h3 : 0 ≤ pa ∧ pa < 2) (h4 : 0 ≤ ma ∧ ma ≤ 400) (h5 : 0 ≤ L0 ∧ L0 ≤ 100000000000) (h6 : 0 ≤ pb ∧ pb < 2) (h7 : 0 ≤ mb ∧ mb ≤ 400) (h8 : 0 ≤ L1 ∧ L1 ≤ 100000000000) :
    ClOK (CRT inc).1 L0 L1 ma mb pa pb turn now (-1) :=
  ⟨h1.1, h1.2, by decide, by decide, h2.1, h2.2, ⟨h3.1, h3.2, h4.1, h4.2, h5.1, h5.2⟩, h6.1, h6.2, h7.1, h7.2, h8.1, h8.2⟩
section
variable {inc bg : Int} (hi : 0 ≤ inc ∧ inc ≤ 999) (hbg : 0 ≤ bg ∧ bg ≤ 999)
theorem run6 {M : MT} {now u0 u1 : Int} (j : Nat) (ts : List Int) (h : Inv inc bg 6 TGm6 3 3 1 1 1 1 0 M now u0 u1) : Ends bg (l8_10 9000 (j + 1) inc bg ts (CRT inc) M now (u0, u1, ()) (3, 3, ()) [0, 1, 4, 2, 3, 5] 6 6) := by
  have h0 := h.u0
  have h1 := h.u1
  exact ⟨now, u0, u1, it6 .., h.now, by omega, by omega, by omega, by omega⟩
include hi hbg
theorem step5 {M : MT} {now u0 u1 : Int} (j : Nat) (ts : List Int) (h : Inv inc bg 5 TGm5 3 2 1 0 1 1 1 M now u0 u1) {T : Int} (hT : 0 ≤ T ∧ T ≤ 8999) : Ends bg (ITo (j + 1) inc bg ts (CRT inc) M now u0 u1 3 2 5 5 T) := by
  obtain ⟨⟨s1, L0, L1, ev, rfl, hch, hev, e0, e1⟩, hn, hu0, hu1⟩ := h
  rw [got3] at e0
  rw [got2] at e1
  have hc : ClOK (CRT inc).1 L0 L1 1 0 1 1 1 now (-1) := clok (by omega) (by omega) (by omega) (by omega) (by omega) (by omega) (by omega) (by omega)
  have hp := press1 hi hc (by omega) (by omega) (by omega) (by omega) ⟨by decide, by decide⟩ (X := L1 + inc - T) (m := 1) (by omega) (by decide) (p11c1 inc (now + T) now (L1 + inc - T) L0 1 1)
  rw [if_neg (by omega)] at hp
  have hlk := look_run hi hc (now := now + T) (by omega) (by omega) (by unfold lft; simp; omega)
  obtain ⟨h, hdo, hch'⟩ := mdo_step (r := TIC) check_tic (s1 := s1) (last := now) gp_s5 (by decide) hch (by omega) (show (((TGm5).2.2.1.length : Int)).tmod 2 = 1 from rfl) (by omega) ⟨by omega, by omega⟩ hlk (show (-1 : Int) < 0 by decide) hp omove1 (show TGm5.now = TP5 from rfl) gen_s5 has_s5 play_s5 gp_s6 (by decide) gres_s6 (evk (by omega) ⟨by omega, by omega⟩ (by omega))
  have hc' : ClOK (CRT inc).1 (L0) (L1 + inc - T) 1 1 1 1 0 (now + T) (-1) := clok (by omega) (by omega) (by omega) (by omega) (by omega) (by omega) (by omega) (by omega)
  have hl0 := left_run hi hc' (by omega) (pl := 0) (.inl rfl)
  have hl1 := left_run hi hc' (by omega) (pl := 1) (.inr rfl)
  rw [show lft (L0) (L1 + inc - T) 0 = L0 from if_pos rfl] at hl0
  rw [show lft (L0) (L1 + inc - T) 1 = L1 + inc - T from if_neg (by decide)] at hl1
  unfold ITo
  rw [wid (n := now + T) (by omega), hdo]
  simp only [Option.bind_some]
  rw [beq1 rfl, state_eq (by show (TGm6).2.2.1.length ≤ 400; decide) (by show ([] : List PM).length ≤ 50; decide)]
  simp only [Option.bind_some]
  rw [wid (n := u1 + T) (by omega), show w64 ((2 : Int) + 1) = 3 by decide]
  have h22 := chk22 8997 (inc := inc) (s1 := bg) (s2 := ts) (s8 := (TIC, CRT inc, TGm6, (s1, 0, 0, ((L0, L1 + inc - T, ()), (1, 1, ()), (1, 1, ()), 0, now + T, false, -1, ()), O0, [], ()), now + T, ev ++ [(entT (0, 1, 0, now + T, (-1, 5, 0, ()), ()), h, ())], ())) (s48 := [0, 1, 4, 2, 3, 5]) (s49 := 6) (s50 := 5) (u0 := u0) (u1 := u1 + T) (a := 3) (b := 3) hl0 hl1 (by omega) (by omega) (by rw [got3]; omega) (by rw [got3]; omega)
  have h22 : l8_22 9000 9000 inc bg ts (CRT inc) _ (now + T) (u0, u1 + T, ()) (3, 3, ()) _ [0, 1, 4, 2, 3, 5] 6 5 0 = _ := h22
  show Ends bg ((l8_22 9000 9000 inc bg ts (CRT inc) (TIC, CRT inc, TGm6, (s1, 0, 0, ((L0, L1 + inc - T, ()), (1, 1, ()), (1, 1, ()), 0, now + T, false, -1, ()), O0, [], ()), now + T, ev ++ [(entT (0, 1, 0, now + T, (-1, 5, 0, ()), ()), h, ())], ()) (now + T) (u0, u1 + T, ()) (3, 3, ()) ((L0, L1 + inc - T, ()), (1, 1, ()), (1, 1, ()), 0, now + T, false, -1, ()) [0, 1, 4, 2, 3, 5] 6 5 0).bind _)
  rw [h22]
  simp only [Option.bind_some, Sum.elim_inl]
  rw [show w64 ((5 : Int) + 1) = 6 by decide]
  exact run6 j ts ⟨⟨s1, L0, L1 + inc - T, _, rfl, hch', by simp; omega, by rw [got3]; omega, by rw [got3]; omega⟩, by omega, by omega, by omega⟩
theorem run5 {M : MT} {now u0 u1 : Int} (j : Nat) (ts : List Int) (h : Inv inc bg 5 TGm5 3 2 1 0 1 1 1 M now u0 u1) : Ends bg (l8_10 9000 (j + 2) inc bg ts (CRT inc) M now (u0, u1, ()) (3, 2, ()) [0, 1, 4, 2, 3, 5] 6 5) := by
  rw [show j + 2 = (j + 1) + 1 from rfl, it5]
  by_cases hl : (5 : Int) < (ts.length : Int)
  · rw [bt1 hl, bt1 hl]
    exact step5 hi hbg j ts h (Tb _)
  · rw [bf1 hl]
    exact step5 hi hbg j ts h (by omega)
theorem step4 {M : MT} {now u0 u1 : Int} (j : Nat) (ts : List Int) (h : Inv inc bg 4 TGm4 2 2 0 0 1 1 0 M now u0 u1) {T : Int} (hT : 0 ≤ T ∧ T ≤ 8999) : Ends bg (ITe (j + 2) inc bg ts (CRT inc) M now u0 u1 2 2 4 3 T) := by
  obtain ⟨⟨s1, L0, L1, ev, rfl, hch, hev, e0, e1⟩, hn, hu0, hu1⟩ := h
  rw [got2] at e0
  rw [got2] at e1
  have hc : ClOK (CRT inc).1 L0 L1 0 0 1 1 0 now (-1) := clok (by omega) (by omega) (by omega) (by omega) (by omega) (by omega) (by omega) (by omega)
  have hp := press0 hi hc (by omega) (by omega) (by omega) (by omega) ⟨by decide, by decide⟩ (X := L0 + inc - T) (m := 1) (by omega) (by decide) (p11c0 inc (now + T) now (L0 + inc - T) L1 0 1)
  rw [if_neg (by omega)] at hp
  have hlk := look_run hi hc (now := now + T) (by omega) (by omega) (by unfold lft; simp; omega)
  obtain ⟨h, hdo, hch'⟩ := mdo_step (r := TIC) check_tic (s1 := s1) (last := now) gp_s4 (by decide) hch (by omega) (show (((TGm4).2.2.1.length : Int)).tmod 2 = 0 from rfl) (by omega) ⟨by omega, by omega⟩ hlk (show (-1 : Int) < 0 by decide) hp omove0 (show TGm4.now = TP4 from rfl) gen_s4 has_s4 play_s4 gp_s5 (by decide) gres_s5 (evk (by omega) ⟨by omega, by omega⟩ (by omega))
  have hc' : ClOK (CRT inc).1 (L0 + inc - T) (L1) 1 0 1 1 1 (now + T) (-1) := clok (by omega) (by omega) (by omega) (by omega) (by omega) (by omega) (by omega) (by omega)
  have hl0 := left_run hi hc' (by omega) (pl := 0) (.inl rfl)
  have hl1 := left_run hi hc' (by omega) (pl := 1) (.inr rfl)
  rw [show lft (L0 + inc - T) (L1) 0 = L0 + inc - T from if_pos rfl] at hl0
  rw [show lft (L0 + inc - T) (L1) 1 = L1 from if_neg (by decide)] at hl1
  unfold ITe
  rw [wid (n := now + T) (by omega), hdo]
  simp only [Option.bind_some]
  rw [beq1 rfl, state_eq (by show (TGm5).2.2.1.length ≤ 400; decide) (by show ([] : List PM).length ≤ 50; decide)]
  simp only [Option.bind_some]
  rw [wid (n := u0 + T) (by omega), show w64 ((2 : Int) + 1) = 3 by decide]
  have h22 := chk22 8997 (inc := inc) (s1 := bg) (s2 := ts) (s8 := (TIC, CRT inc, TGm5, (s1, 0, 0, ((L0 + inc - T, L1, ()), (1, 0, ()), (1, 1, ()), 1, now + T, false, -1, ()), O0, [], ()), now + T, ev ++ [(entT (0, 0, 0, now + T, (-1, 3, 0, ()), ()), h, ())], ())) (s48 := [0, 1, 4, 2, 3, 5]) (s49 := 6) (s50 := 4) (u0 := u0 + T) (u1 := u1) (a := 3) (b := 2) hl0 hl1 (by omega) (by omega) (by rw [got3]; omega) (by rw [got2]; omega)
  have h22 : l8_22 9000 9000 inc bg ts (CRT inc) _ (now + T) (u0 + T, u1, ()) (3, 2, ()) _ [0, 1, 4, 2, 3, 5] 6 4 0 = _ := h22
  show Ends bg ((l8_22 9000 9000 inc bg ts (CRT inc) (TIC, CRT inc, TGm5, (s1, 0, 0, ((L0 + inc - T, L1, ()), (1, 0, ()), (1, 1, ()), 1, now + T, false, -1, ()), O0, [], ()), now + T, ev ++ [(entT (0, 0, 0, now + T, (-1, 3, 0, ()), ()), h, ())], ()) (now + T) (u0 + T, u1, ()) (3, 2, ()) ((L0 + inc - T, L1, ()), (1, 0, ()), (1, 1, ()), 1, now + T, false, -1, ()) [0, 1, 4, 2, 3, 5] 6 4 0).bind _)
  rw [h22]
  simp only [Option.bind_some, Sum.elim_inl]
  rw [show w64 ((4 : Int) + 1) = 5 by decide]
  exact run5 hi hbg j ts ⟨⟨s1, L0 + inc - T, L1, _, rfl, hch', by simp; omega, by rw [got3]; omega, by rw [got2]; omega⟩, by omega, by omega, by omega⟩
theorem run4 {M : MT} {now u0 u1 : Int} (j : Nat) (ts : List Int) (h : Inv inc bg 4 TGm4 2 2 0 0 1 1 0 M now u0 u1) : Ends bg (l8_10 9000 (j + 3) inc bg ts (CRT inc) M now (u0, u1, ()) (2, 2, ()) [0, 1, 4, 2, 3, 5] 6 4) := by
  rw [show j + 3 = (j + 2) + 1 from rfl, it4]
  by_cases hl : (4 : Int) < (ts.length : Int)
  · rw [bt1 hl, bt1 hl]
    exact step4 hi hbg j ts h (Tb _)
  · rw [bf1 hl]
    exact step4 hi hbg j ts h (by omega)
theorem step3 {M : MT} {now u0 u1 : Int} (j : Nat) (ts : List Int) (h : Inv inc bg 3 TGm3 2 1 0 1 1 0 1 M now u0 u1) {T : Int} (hT : 0 ≤ T ∧ T ≤ 8999) : Ends bg (ITo (j + 3) inc bg ts (CRT inc) M now u0 u1 2 1 3 2 T) := by
  obtain ⟨⟨s1, L0, L1, ev, rfl, hch, hev, e0, e1⟩, hn, hu0, hu1⟩ := h
  rw [got2] at e0
  rw [got1] at e1
  have hc : ClOK (CRT inc).1 L0 L1 0 1 1 0 1 now (-1) := clok (by omega) (by omega) (by omega) (by omega) (by omega) (by omega) (by omega) (by omega)
  have hp := press1 hi hc (by omega) (by omega) (by omega) (by omega) ⟨by decide, by decide⟩ (X := L1 + inc - T) (m := 2) (by omega) (by decide) (p11b1 inc (now + T) now (L1 + inc - T) L0 0 1)
  rw [wid (n := L1 + inc - T + 90000) (by omega), if_neg (by omega)] at hp
  have hlk := look_run hi hc (now := now + T) (by omega) (by omega) (by unfold lft; simp; omega)
  obtain ⟨h, hdo, hch'⟩ := mdo_step (r := TIC) check_tic (s1 := s1) (last := now) gp_s3 (by decide) hch (by omega) (show (((TGm3).2.2.1.length : Int)).tmod 2 = 1 from rfl) (by omega) ⟨by omega, by omega⟩ hlk (show (-1 : Int) < 0 by decide) hp omove1 (show TGm3.now = TP3 from rfl) gen_s3 has_s3 play_s3 gp_s4 (by decide) gres_s4 (evk (by omega) ⟨by omega, by omega⟩ (by omega))
  have hc' : ClOK (CRT inc).1 (L0) (L1 + inc - T + 90000) 0 0 1 1 0 (now + T) (-1) := clok (by omega) (by omega) (by omega) (by omega) (by omega) (by omega) (by omega) (by omega)
  have hl0 := left_run hi hc' (by omega) (pl := 0) (.inl rfl)
  have hl1 := left_run hi hc' (by omega) (pl := 1) (.inr rfl)
  rw [show lft (L0) (L1 + inc - T + 90000) 0 = L0 from if_pos rfl] at hl0
  rw [show lft (L0) (L1 + inc - T + 90000) 1 = L1 + inc - T + 90000 from if_neg (by decide)] at hl1
  unfold ITo
  rw [wid (n := now + T) (by omega), hdo]
  simp only [Option.bind_some]
  rw [beq1 rfl, state_eq (by show (TGm4).2.2.1.length ≤ 400; decide) (by show ([] : List PM).length ≤ 50; decide)]
  simp only [Option.bind_some]
  rw [wid (n := u1 + T) (by omega), show w64 ((1 : Int) + 1) = 2 by decide]
  have h22 := chk22 8997 (inc := inc) (s1 := bg) (s2 := ts) (s8 := (TIC, CRT inc, TGm4, (s1, 0, 0, ((L0, L1 + inc - T + 90000, ()), (0, 0, ()), (1, 1, ()), 0, now + T, false, -1, ()), O0, [], ()), now + T, ev ++ [(entT (0, 1, 0, now + T, (-1, 2, 0, ()), ()), h, ())], ())) (s48 := [0, 1, 4, 2, 3, 5]) (s49 := 6) (s50 := 3) (u0 := u0) (u1 := u1 + T) (a := 2) (b := 2) hl0 hl1 (by omega) (by omega) (by rw [got2]; omega) (by rw [got2]; omega)
  have h22 : l8_22 9000 9000 inc bg ts (CRT inc) _ (now + T) (u0, u1 + T, ()) (2, 2, ()) _ [0, 1, 4, 2, 3, 5] 6 3 0 = _ := h22
  show Ends bg ((l8_22 9000 9000 inc bg ts (CRT inc) (TIC, CRT inc, TGm4, (s1, 0, 0, ((L0, L1 + inc - T + 90000, ()), (0, 0, ()), (1, 1, ()), 0, now + T, false, -1, ()), O0, [], ()), now + T, ev ++ [(entT (0, 1, 0, now + T, (-1, 2, 0, ()), ()), h, ())], ()) (now + T) (u0, u1 + T, ()) (2, 2, ()) ((L0, L1 + inc - T + 90000, ()), (0, 0, ()), (1, 1, ()), 0, now + T, false, -1, ()) [0, 1, 4, 2, 3, 5] 6 3 0).bind _)
  rw [h22]
  simp only [Option.bind_some, Sum.elim_inl]
  rw [show w64 ((3 : Int) + 1) = 4 by decide]
  exact run4 hi hbg j ts ⟨⟨s1, L0, L1 + inc - T + 90000, _, rfl, hch', by simp; omega, by rw [got2]; omega, by rw [got2]; omega⟩, by omega, by omega, by omega⟩
theorem run3 {M : MT} {now u0 u1 : Int} (j : Nat) (ts : List Int) (h : Inv inc bg 3 TGm3 2 1 0 1 1 0 1 M now u0 u1) : Ends bg (l8_10 9000 (j + 4) inc bg ts (CRT inc) M now (u0, u1, ()) (2, 1, ()) [0, 1, 4, 2, 3, 5] 6 3) := by
  rw [show j + 4 = (j + 3) + 1 from rfl, it3]
  by_cases hl : (3 : Int) < (ts.length : Int)
  · rw [bt1 hl, bt1 hl]
    exact step3 hi hbg j ts h (Tb _)
  · rw [bf1 hl]
    exact step3 hi hbg j ts h (by omega)
theorem step2 {M : MT} {now u0 u1 : Int} (j : Nat) (ts : List Int) (h : Inv inc bg 2 TGm2 1 1 1 1 0 0 0 M now u0 u1) {T : Int} (hT : 0 ≤ T ∧ T ≤ 8999) : Ends bg (ITe (j + 4) inc bg ts (CRT inc) M now u0 u1 1 1 2 4 T) := by
  obtain ⟨⟨s1, L0, L1, ev, rfl, hch, hev, e0, e1⟩, hn, hu0, hu1⟩ := h
  rw [got1] at e0
  rw [got1] at e1
  have hc : ClOK (CRT inc).1 L0 L1 1 1 0 0 0 now (-1) := clok (by omega) (by omega) (by omega) (by omega) (by omega) (by omega) (by omega) (by omega)
  have hp := press0 hi hc (by omega) (by omega) (by omega) (by omega) ⟨by decide, by decide⟩ (X := L0 + inc - T) (m := 2) (by omega) (by decide) (p11b0 inc (now + T) now (L0 + inc - T) L1 1 0)
  rw [wid (n := L0 + inc - T + 90000) (by omega), if_neg (by omega)] at hp
  have hlk := look_run hi hc (now := now + T) (by omega) (by omega) (by unfold lft; simp; omega)
  obtain ⟨h, hdo, hch'⟩ := mdo_step (r := TIC) check_tic (s1 := s1) (last := now) gp_s2 (by decide) hch (by omega) (show (((TGm2).2.2.1.length : Int)).tmod 2 = 0 from rfl) (by omega) ⟨by omega, by omega⟩ hlk (show (-1 : Int) < 0 by decide) hp omove0 (show TGm2.now = TP2 from rfl) gen_s2 has_s2 play_s2 gp_s3 (by decide) gres_s3 (evk (by omega) ⟨by omega, by omega⟩ (by omega))
  have hc' : ClOK (CRT inc).1 (L0 + inc - T + 90000) (L1) 0 1 1 0 1 (now + T) (-1) := clok (by omega) (by omega) (by omega) (by omega) (by omega) (by omega) (by omega) (by omega)
  have hl0 := left_run hi hc' (by omega) (pl := 0) (.inl rfl)
  have hl1 := left_run hi hc' (by omega) (pl := 1) (.inr rfl)
  rw [show lft (L0 + inc - T + 90000) (L1) 0 = L0 + inc - T + 90000 from if_pos rfl] at hl0
  rw [show lft (L0 + inc - T + 90000) (L1) 1 = L1 from if_neg (by decide)] at hl1
  unfold ITe
  rw [wid (n := now + T) (by omega), hdo]
  simp only [Option.bind_some]
  rw [beq1 rfl, state_eq (by show (TGm3).2.2.1.length ≤ 400; decide) (by show ([] : List PM).length ≤ 50; decide)]
  simp only [Option.bind_some]
  rw [wid (n := u0 + T) (by omega), show w64 ((1 : Int) + 1) = 2 by decide]
  have h22 := chk22 8997 (inc := inc) (s1 := bg) (s2 := ts) (s8 := (TIC, CRT inc, TGm3, (s1, 0, 0, ((L0 + inc - T + 90000, L1, ()), (0, 1, ()), (1, 0, ()), 1, now + T, false, -1, ()), O0, [], ()), now + T, ev ++ [(entT (0, 0, 0, now + T, (-1, 4, 0, ()), ()), h, ())], ())) (s48 := [0, 1, 4, 2, 3, 5]) (s49 := 6) (s50 := 2) (u0 := u0 + T) (u1 := u1) (a := 2) (b := 1) hl0 hl1 (by omega) (by omega) (by rw [got2]; omega) (by rw [got1]; omega)
  have h22 : l8_22 9000 9000 inc bg ts (CRT inc) _ (now + T) (u0 + T, u1, ()) (2, 1, ()) _ [0, 1, 4, 2, 3, 5] 6 2 0 = _ := h22
  show Ends bg ((l8_22 9000 9000 inc bg ts (CRT inc) (TIC, CRT inc, TGm3, (s1, 0, 0, ((L0 + inc - T + 90000, L1, ()), (0, 1, ()), (1, 0, ()), 1, now + T, false, -1, ()), O0, [], ()), now + T, ev ++ [(entT (0, 0, 0, now + T, (-1, 4, 0, ()), ()), h, ())], ()) (now + T) (u0 + T, u1, ()) (2, 1, ()) ((L0 + inc - T + 90000, L1, ()), (0, 1, ()), (1, 0, ()), 1, now + T, false, -1, ()) [0, 1, 4, 2, 3, 5] 6 2 0).bind _)
  rw [h22]
  simp only [Option.bind_some, Sum.elim_inl]
  rw [show w64 ((2 : Int) + 1) = 3 by decide]
  exact run3 hi hbg j ts ⟨⟨s1, L0 + inc - T + 90000, L1, _, rfl, hch', by simp; omega, by rw [got2]; omega, by rw [got1]; omega⟩, by omega, by omega, by omega⟩
theorem run2 {M : MT} {now u0 u1 : Int} (j : Nat) (ts : List Int) (h : Inv inc bg 2 TGm2 1 1 1 1 0 0 0 M now u0 u1) : Ends bg (l8_10 9000 (j + 5) inc bg ts (CRT inc) M now (u0, u1, ()) (1, 1, ()) [0, 1, 4, 2, 3, 5] 6 2) := by
  rw [show j + 5 = (j + 4) + 1 from rfl, it2]
  by_cases hl : (2 : Int) < (ts.length : Int)
  · rw [bt1 hl, bt1 hl]
    exact step2 hi hbg j ts h (Tb _)
  · rw [bf1 hl]
    exact step2 hi hbg j ts h (by omega)
theorem step1 {M : MT} {now u0 u1 : Int} (j : Nat) (ts : List Int) (h : Inv inc bg 1 TGm1 1 0 1 0 0 0 1 M now u0 u1) {T : Int} (hT : 0 ≤ T ∧ T ≤ 8999) : Ends bg (ITo (j + 5) inc bg ts (CRT inc) M now u0 u1 1 0 1 1 T) := by
  obtain ⟨⟨s1, L0, L1, ev, rfl, hch, hev, e0, e1⟩, hn, hu0, hu1⟩ := h
  rw [got1] at e0
  rw [got0] at e1
  have hc : ClOK (CRT inc).1 L0 L1 1 0 0 0 1 now (-1) := clok (by omega) (by omega) (by omega) (by omega) (by omega) (by omega) (by omega) (by omega)
  have hp := press1 hi hc (by omega) (by omega) (by omega) (by omega) ⟨by decide, by decide⟩ (X := L1 + inc - T) (m := 1) (by omega) (by decide) (p11a1 inc (now + T) now (L1 + inc - T) L0 1 0)
  rw [if_neg (by omega)] at hp
  have hlk := look_run hi hc (now := now + T) (by omega) (by omega) (by unfold lft; simp; omega)
  obtain ⟨h, hdo, hch'⟩ := mdo_step (r := TIC) check_tic (s1 := s1) (last := now) gp_s1 (by decide) hch (by omega) (show (((TGm1).2.2.1.length : Int)).tmod 2 = 1 from rfl) (by omega) ⟨by omega, by omega⟩ hlk (show (-1 : Int) < 0 by decide) hp omove1 (show TGm1.now = TP1 from rfl) gen_s1 has_s1 play_s1 gp_s2 (by decide) gres_s2 (evk (by omega) ⟨by omega, by omega⟩ (by omega))
  have hc' : ClOK (CRT inc).1 (L0) (L1 + inc - T) 1 1 0 0 0 (now + T) (-1) := clok (by omega) (by omega) (by omega) (by omega) (by omega) (by omega) (by omega) (by omega)
  have hl0 := left_run hi hc' (by omega) (pl := 0) (.inl rfl)
  have hl1 := left_run hi hc' (by omega) (pl := 1) (.inr rfl)
  rw [show lft (L0) (L1 + inc - T) 0 = L0 from if_pos rfl] at hl0
  rw [show lft (L0) (L1 + inc - T) 1 = L1 + inc - T from if_neg (by decide)] at hl1
  unfold ITo
  rw [wid (n := now + T) (by omega), hdo]
  simp only [Option.bind_some]
  rw [beq1 rfl, state_eq (by show (TGm2).2.2.1.length ≤ 400; decide) (by show ([] : List PM).length ≤ 50; decide)]
  simp only [Option.bind_some]
  rw [wid (n := u1 + T) (by omega), show w64 ((0 : Int) + 1) = 1 by decide]
  have h22 := chk22 8997 (inc := inc) (s1 := bg) (s2 := ts) (s8 := (TIC, CRT inc, TGm2, (s1, 0, 0, ((L0, L1 + inc - T, ()), (1, 1, ()), (0, 0, ()), 0, now + T, false, -1, ()), O0, [], ()), now + T, ev ++ [(entT (0, 1, 0, now + T, (-1, 1, 0, ()), ()), h, ())], ())) (s48 := [0, 1, 4, 2, 3, 5]) (s49 := 6) (s50 := 1) (u0 := u0) (u1 := u1 + T) (a := 1) (b := 1) hl0 hl1 (by omega) (by omega) (by rw [got1]; omega) (by rw [got1]; omega)
  have h22 : l8_22 9000 9000 inc bg ts (CRT inc) _ (now + T) (u0, u1 + T, ()) (1, 1, ()) _ [0, 1, 4, 2, 3, 5] 6 1 0 = _ := h22
  show Ends bg ((l8_22 9000 9000 inc bg ts (CRT inc) (TIC, CRT inc, TGm2, (s1, 0, 0, ((L0, L1 + inc - T, ()), (1, 1, ()), (0, 0, ()), 0, now + T, false, -1, ()), O0, [], ()), now + T, ev ++ [(entT (0, 1, 0, now + T, (-1, 1, 0, ()), ()), h, ())], ()) (now + T) (u0, u1 + T, ()) (1, 1, ()) ((L0, L1 + inc - T, ()), (1, 1, ()), (0, 0, ()), 0, now + T, false, -1, ()) [0, 1, 4, 2, 3, 5] 6 1 0).bind _)
  rw [h22]
  simp only [Option.bind_some, Sum.elim_inl]
  rw [show w64 ((1 : Int) + 1) = 2 by decide]
  exact run2 hi hbg j ts ⟨⟨s1, L0, L1 + inc - T, _, rfl, hch', by simp; omega, by rw [got1]; omega, by rw [got1]; omega⟩, by omega, by omega, by omega⟩
theorem run1 {M : MT} {now u0 u1 : Int} (j : Nat) (ts : List Int) (h : Inv inc bg 1 TGm1 1 0 1 0 0 0 1 M now u0 u1) : Ends bg (l8_10 9000 (j + 6) inc bg ts (CRT inc) M now (u0, u1, ()) (1, 0, ()) [0, 1, 4, 2, 3, 5] 6 1) := by
  rw [show j + 6 = (j + 5) + 1 from rfl, it1]
  by_cases hl : (1 : Int) < (ts.length : Int)
  · rw [bt1 hl, bt1 hl]
    exact step1 hi hbg j ts h (Tb _)
  · rw [bf1 hl]
    exact step1 hi hbg j ts h (by omega)
theorem step0 {M : MT} {now u0 u1 : Int} (j : Nat) (ts : List Int) (h : Inv inc bg 0 TGm0 0 0 0 0 0 0 0 M now u0 u1) {T : Int} (hT : 0 ≤ T ∧ T ≤ 8999) : Ends bg (ITe (j + 6) inc bg ts (CRT inc) M now u0 u1 0 0 0 0 T) := by
  obtain ⟨⟨s1, L0, L1, ev, rfl, hch, hev, e0, e1⟩, hn, hu0, hu1⟩ := h
  rw [got0] at e0
  rw [got0] at e1
  have hc : ClOK (CRT inc).1 L0 L1 0 0 0 0 0 now (-1) := clok (by omega) (by omega) (by omega) (by omega) (by omega) (by omega) (by omega) (by omega)
  have hp := press0 hi hc (by omega) (by omega) (by omega) (by omega) ⟨by decide, by decide⟩ (X := L0 + inc - T) (m := 1) (by omega) (by decide) (p11a0 inc (now + T) now (L0 + inc - T) L1 0 0)
  rw [if_neg (by omega)] at hp
  have hlk := look_run hi hc (now := now + T) (by omega) (by omega) (by unfold lft; simp; omega)
  obtain ⟨h, hdo, hch'⟩ := mdo_step (r := TIC) check_tic (s1 := s1) (last := now) gp_s0 (by decide) hch (by omega) (show (((TGm0).2.2.1.length : Int)).tmod 2 = 0 from rfl) (by omega) ⟨by omega, by omega⟩ hlk (show (-1 : Int) < 0 by decide) hp omove0 (show TGm0.now = TP0 from rfl) gen_s0 has_s0 play_s0 gp_s1 (by decide) gres_s1 (evk (by omega) ⟨by omega, by omega⟩ (by omega))
  have hc' : ClOK (CRT inc).1 (L0 + inc - T) (L1) 1 0 0 0 1 (now + T) (-1) := clok (by omega) (by omega) (by omega) (by omega) (by omega) (by omega) (by omega) (by omega)
  have hl0 := left_run hi hc' (by omega) (pl := 0) (.inl rfl)
  have hl1 := left_run hi hc' (by omega) (pl := 1) (.inr rfl)
  rw [show lft (L0 + inc - T) (L1) 0 = L0 + inc - T from if_pos rfl] at hl0
  rw [show lft (L0 + inc - T) (L1) 1 = L1 from if_neg (by decide)] at hl1
  unfold ITe
  rw [wid (n := now + T) (by omega), hdo]
  simp only [Option.bind_some]
  rw [beq1 rfl, state_eq (by show (TGm1).2.2.1.length ≤ 400; decide) (by show ([] : List PM).length ≤ 50; decide)]
  simp only [Option.bind_some]
  rw [wid (n := u0 + T) (by omega), show w64 ((0 : Int) + 1) = 1 by decide]
  have h22 := chk22 8997 (inc := inc) (s1 := bg) (s2 := ts) (s8 := (TIC, CRT inc, TGm1, (s1, 0, 0, ((L0 + inc - T, L1, ()), (1, 0, ()), (0, 0, ()), 1, now + T, false, -1, ()), O0, [], ()), now + T, ev ++ [(entT (0, 0, 0, now + T, (-1, 0, 0, ()), ()), h, ())], ())) (s48 := [0, 1, 4, 2, 3, 5]) (s49 := 6) (s50 := 0) (u0 := u0 + T) (u1 := u1) (a := 1) (b := 0) hl0 hl1 (by omega) (by omega) (by rw [got1]; omega) (by rw [got0]; omega)
  have h22 : l8_22 9000 9000 inc bg ts (CRT inc) _ (now + T) (u0 + T, u1, ()) (1, 0, ()) _ [0, 1, 4, 2, 3, 5] 6 0 0 = _ := h22
  show Ends bg ((l8_22 9000 9000 inc bg ts (CRT inc) (TIC, CRT inc, TGm1, (s1, 0, 0, ((L0 + inc - T, L1, ()), (1, 0, ()), (0, 0, ()), 1, now + T, false, -1, ()), O0, [], ()), now + T, ev ++ [(entT (0, 0, 0, now + T, (-1, 0, 0, ()), ()), h, ())], ()) (now + T) (u0 + T, u1, ()) (1, 0, ()) ((L0 + inc - T, L1, ()), (1, 0, ()), (0, 0, ()), 1, now + T, false, -1, ()) [0, 1, 4, 2, 3, 5] 6 0 0).bind _)
  rw [h22]
  simp only [Option.bind_some, Sum.elim_inl]
  rw [show w64 ((0 : Int) + 1) = 1 by decide]
  exact run1 hi hbg j ts ⟨⟨s1, L0 + inc - T, L1, _, rfl, hch', by simp; omega, by rw [got1]; omega, by rw [got0]; omega⟩, by omega, by omega, by omega⟩
theorem run0 {M : MT} {now u0 u1 : Int} (j : Nat) (ts : List Int) (h : Inv inc bg 0 TGm0 0 0 0 0 0 0 0 M now u0 u1) : Ends bg (l8_10 9000 (j + 7) inc bg ts (CRT inc) M now (u0, u1, ()) (0, 0, ()) [0, 1, 4, 2, 3, 5] 6 0) := by
  rw [show j + 7 = (j + 6) + 1 from rfl, it0]
  by_cases hl : (0 : Int) < (ts.length : Int)
  · rw [bt1 hl, bt1 hl]
    exact step0 hi hbg j ts h (Tb _)
  · rw [bf1 hl]
    exact step0 hi hbg j ts h (by omega)
end
end Go.Proofs.YtpnbiakaknbofaaGreatDoor.G
