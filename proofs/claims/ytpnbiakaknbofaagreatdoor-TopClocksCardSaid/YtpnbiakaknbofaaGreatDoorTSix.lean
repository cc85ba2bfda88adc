import Derived.Test.YtpnbiakaknbofaaGreatDoorTMatch4
namespace Go.Proofs.YtpnbiakaknbofaaGreatDoor.G
open Go.VM Go.Proofs
theorem after_step {r : RU} {p q : PO} {m : MV} {g : List MV} (hc : f117 9000 r p = some (0, ())) (hg : f75 9000 r p = some (g, ())) (hm : f74 9000 g m = some (true, ())) (hd : f127 9000 r p m = some (q, ())) : f88 9000 r p m = some (q, 0, ()) := by
  unfold f88 f126
  rw [hc]
  simp only [Option.bind_some]
  rw [beq1 rfl, hg]
  simp only [Option.bind_some]
  rw [hm]
  simp only [Option.bind_some]
  rw [beq1 rfl]
  simp only [Bool.not_true, cond_false]
  rw [hd]
  rfl
theorem play_step {g : GM} {p q : PO} {m : MV} (hx : f53 9000 g = some (0, ())) (hl : 1 ≤ g.2.1.length ∧ g.2.1.length ≤ 50) (hl2 : g.2.2.1.length ≤ 50) (hp : rd (([], ([], [], ()), 0, 0, ()) : PO) g.2.1 ((g.2.1.length : Int) - 1) = p)
    (ha : f88 9000 g.1 p m = some (q, 0, ())) : f51 9000 g m = some (0, (g.1, g.2.1 ++ [q], g.2.2.1 ++ [m], ()), ()) := by
  unfold f51
  rw [hx]
  simp only [Option.bind_some]
  rw [beq1 rfl, ws (by omega), bt2 ⟨by omega, by omega⟩, hp, ha]
  simp only [Option.bind_some]
  rw [beq1 rfl, bn1 (by omega), bt1 (by simp only [List.length_singleton]; unfold roomN; omega), bt1 (by simp only [List.length_singleton]; unfold roomN; omega)]
abbrev TP0 : PO := POS0
abbrev TG0 : List MV := D9
abbrev TP1 : PO := ([1, 0, 0, 0, 0, 0, 0, 0, 0], ([4], [5], ()), 1, 0, ())
abbrev TG1 : List MV := [(-1, 1, 0, ()), (-1, 2, 0, ()), (-1, 3, 0, ()), (-1, 4, 0, ()), (-1, 5, 0, ()), (-1, 6, 0, ()), (-1, 7, 0, ()), (-1, 8, 0, ())]
abbrev TP2 : PO := ([1, 2, 0, 0, 0, 0, 0, 0, 0], ([4], [4], ()), 0, 0, ())
abbrev TG2 : List MV := [(-1, 2, 0, ()), (-1, 3, 0, ()), (-1, 4, 0, ()), (-1, 5, 0, ()), (-1, 6, 0, ()), (-1, 7, 0, ()), (-1, 8, 0, ())]
abbrev TP3 : PO := ([1, 2, 0, 0, 1, 0, 0, 0, 0], ([3], [4], ()), 1, 0, ())
abbrev TG3 : List MV := [(-1, 2, 0, ()), (-1, 3, 0, ()), (-1, 5, 0, ()), (-1, 6, 0, ()), (-1, 7, 0, ()), (-1, 8, 0, ())]
abbrev TP4 : PO := ([1, 2, 2, 0, 1, 0, 0, 0, 0], ([3], [3], ()), 0, 0, ())
abbrev TG4 : List MV := [(-1, 3, 0, ()), (-1, 5, 0, ()), (-1, 6, 0, ()), (-1, 7, 0, ()), (-1, 8, 0, ())]
abbrev TP5 : PO := ([1, 2, 2, 1, 1, 0, 0, 0, 0], ([2], [3], ()), 1, 0, ())
abbrev TG5 : List MV := [(-1, 5, 0, ()), (-1, 6, 0, ()), (-1, 7, 0, ()), (-1, 8, 0, ())]
abbrev TP6 : PO := ([1, 2, 2, 1, 1, 2, 0, 0, 0], ([2], [2], ()), 0, 0, ())
abbrev TG6 : List MV := [(-1, 6, 0, ()), (-1, 7, 0, ()), (-1, 8, 0, ())]
abbrev TM0 : List MV := []
abbrev TGm0 : GM := (TIC, [TP0], TM0, ())
abbrev TM1 : List MV := [(-1, 0, 0, ())]
abbrev TGm1 : GM := (TIC, [TP0, TP1], TM1, ())
abbrev TM2 : List MV := [(-1, 0, 0, ()), (-1, 1, 0, ())]
abbrev TGm2 : GM := (TIC, [TP0, TP1, TP2], TM2, ())
abbrev TM3 : List MV := [(-1, 0, 0, ()), (-1, 1, 0, ()), (-1, 4, 0, ())]
abbrev TGm3 : GM := (TIC, [TP0, TP1, TP2, TP3], TM3, ())
abbrev TM4 : List MV := [(-1, 0, 0, ()), (-1, 1, 0, ()), (-1, 4, 0, ()), (-1, 2, 0, ())]
abbrev TGm4 : GM := (TIC, [TP0, TP1, TP2, TP3, TP4], TM4, ())
abbrev TM5 : List MV := [(-1, 0, 0, ()), (-1, 1, 0, ()), (-1, 4, 0, ()), (-1, 2, 0, ()), (-1, 3, 0, ())]
abbrev TGm5 : GM := (TIC, [TP0, TP1, TP2, TP3, TP4, TP5], TM5, ())
abbrev TM6 : List MV := [(-1, 0, 0, ()), (-1, 1, 0, ()), (-1, 4, 0, ()), (-1, 2, 0, ()), (-1, 3, 0, ()), (-1, 5, 0, ())]
abbrev TGm6 : GM := (TIC, [TP0, TP1, TP2, TP3, TP4, TP5, TP6], TM6, ())
theorem pcheck_s1 : f117 9000 TIC TP1 = some (0, ()) := by kernel_rfl
theorem gen3_s1 : l75_3 9000 9000 TIC TP1 [] [5] 1 0 = some (TIC, TP1, TG1, ()) := by kernel_rfl
theorem gen13_s1 : l75_13 9000 9000 TIC TP1 TG1 [1, 0, 0, 0, 0, 0, 0, 0, 0] 9 0 = some (TG1, ()) := by kernel_rfl
theorem cpt_s1 : f114 9000 TG1 = some (TG1, ()) := by kernel_rfl
theorem sort_s1 : f112 9000 TG1 = some (TG1, ()) := by
  unfold f112
  rw [show Nat.ble 5 9000 = true from rfl, Bool.true_and, bt1 (by decide)]
  rw [List.mergeSort_of_pairwise (by decide)]
theorem gen_s1 : f75 9000 TIC TP1 = some (TG1, ()) := by
  unfold f75
  rw [bn1 (by decide), be1 rfl]
  rw [show l75_3 9000 9000 TIC TP1 [] TP1.2.1.2.1 (TP1.2.1.2.1.length : Int) 0 = some (TIC, TP1, TG1, ()) from gen3_s1]
  simp only [Option.bind_some]
  rw [show l75_13 9000 9000 TIC TP1 TG1 TP1.1 (TP1.1.length : Int) 0 = some (TG1, ()) from gen13_s1]
  simp only [Option.bind_some]
  rw [sort_s1]
  simp only [Option.bind_some]
  rw [cpt_s1]
  rfl
theorem ends_s1 : l91_3 9000 9000 TIC TP1 0 [(0, 0, 3, false, ())] 1 0 = some (.inl (TIC, TP1, 0, ())) := by kernel_rfl
theorem res_s1 : f91 9000 TIC TP1 = some (0, ()) := by
  unfold f91
  rw [show l91_3 9000 9000 TIC TP1 (w64 (1 - TP1.2.2.1)) TIC.2.2.2.2.2.2.2.1 (TIC.2.2.2.2.2.2.2.1.length : Int) 0 = some (.inl (TIC, TP1, 0, ())) from ends_s1]
  simp only [Option.bind_some, Sum.elim_inl]
  rw [gen_s1]
  rfl
theorem now_s1 : f89 9000 TGm1 = some (TP1, ()) := by kernel_rfl
theorem gres_s1 : f53 9000 TGm1 = some (0, ()) := by
  unfold f53
  rw [now_s1]
  simp only [Option.bind_some]
  rw [res_s1]
  rfl
theorem pcheck_s2 : f117 9000 TIC TP2 = some (0, ()) := by kernel_rfl
theorem gen3_s2 : l75_3 9000 9000 TIC TP2 [] [4] 1 0 = some (TIC, TP2, TG2, ()) := by kernel_rfl
theorem gen13_s2 : l75_13 9000 9000 TIC TP2 TG2 [1, 2, 0, 0, 0, 0, 0, 0, 0] 9 0 = some (TG2, ()) := by kernel_rfl
theorem cpt_s2 : f114 9000 TG2 = some (TG2, ()) := by kernel_rfl
theorem sort_s2 : f112 9000 TG2 = some (TG2, ()) := by
  unfold f112
  rw [show Nat.ble 5 9000 = true from rfl, Bool.true_and, bt1 (by decide)]
  rw [List.mergeSort_of_pairwise (by decide)]
theorem gen_s2 : f75 9000 TIC TP2 = some (TG2, ()) := by
  unfold f75
  rw [be1 rfl]
  rw [show l75_3 9000 9000 TIC TP2 [] TP2.2.1.1 (TP2.2.1.1.length : Int) 0 = some (TIC, TP2, TG2, ()) from gen3_s2]
  simp only [Option.bind_some]
  rw [show l75_13 9000 9000 TIC TP2 TG2 TP2.1 (TP2.1.length : Int) 0 = some (TG2, ()) from gen13_s2]
  simp only [Option.bind_some]
  rw [sort_s2]
  simp only [Option.bind_some]
  rw [cpt_s2]
  rfl
theorem ends_s2 : l91_3 9000 9000 TIC TP2 1 [(0, 0, 3, false, ())] 1 0 = some (.inl (TIC, TP2, 1, ())) := by kernel_rfl
theorem res_s2 : f91 9000 TIC TP2 = some (0, ()) := by
  unfold f91
  rw [show l91_3 9000 9000 TIC TP2 (w64 (1 - TP2.2.2.1)) TIC.2.2.2.2.2.2.2.1 (TIC.2.2.2.2.2.2.2.1.length : Int) 0 = some (.inl (TIC, TP2, 1, ())) from ends_s2]
  simp only [Option.bind_some, Sum.elim_inl]
  rw [gen_s2]
  rfl
theorem now_s2 : f89 9000 TGm2 = some (TP2, ()) := by kernel_rfl
theorem gres_s2 : f53 9000 TGm2 = some (0, ()) := by
  unfold f53
  rw [now_s2]
  simp only [Option.bind_some]
  rw [res_s2]
  rfl
theorem pcheck_s3 : f117 9000 TIC TP3 = some (0, ()) := by kernel_rfl
theorem gen3_s3 : l75_3 9000 9000 TIC TP3 [] [4] 1 0 = some (TIC, TP3, TG3, ()) := by kernel_rfl
theorem gen13_s3 : l75_13 9000 9000 TIC TP3 TG3 [1, 2, 0, 0, 1, 0, 0, 0, 0] 9 0 = some (TG3, ()) := by kernel_rfl
theorem cpt_s3 : f114 9000 TG3 = some (TG3, ()) := by kernel_rfl
theorem sort_s3 : f112 9000 TG3 = some (TG3, ()) := by
  unfold f112
  rw [show Nat.ble 5 9000 = true from rfl, Bool.true_and, bt1 (by decide)]
  rw [List.mergeSort_of_pairwise (by decide)]
theorem gen_s3 : f75 9000 TIC TP3 = some (TG3, ()) := by
  unfold f75
  rw [bn1 (by decide), be1 rfl]
  rw [show l75_3 9000 9000 TIC TP3 [] TP3.2.1.2.1 (TP3.2.1.2.1.length : Int) 0 = some (TIC, TP3, TG3, ()) from gen3_s3]
  simp only [Option.bind_some]
  rw [show l75_13 9000 9000 TIC TP3 TG3 TP3.1 (TP3.1.length : Int) 0 = some (TG3, ()) from gen13_s3]
  simp only [Option.bind_some]
  rw [sort_s3]
  simp only [Option.bind_some]
  rw [cpt_s3]
  rfl
theorem ends_s3 : l91_3 9000 9000 TIC TP3 0 [(0, 0, 3, false, ())] 1 0 = some (.inl (TIC, TP3, 0, ())) := by kernel_rfl
theorem res_s3 : f91 9000 TIC TP3 = some (0, ()) := by
  unfold f91
  rw [show l91_3 9000 9000 TIC TP3 (w64 (1 - TP3.2.2.1)) TIC.2.2.2.2.2.2.2.1 (TIC.2.2.2.2.2.2.2.1.length : Int) 0 = some (.inl (TIC, TP3, 0, ())) from ends_s3]
  simp only [Option.bind_some, Sum.elim_inl]
  rw [gen_s3]
  rfl
theorem now_s3 : f89 9000 TGm3 = some (TP3, ()) := by kernel_rfl
theorem gres_s3 : f53 9000 TGm3 = some (0, ()) := by
  unfold f53
  rw [now_s3]
  simp only [Option.bind_some]
  rw [res_s3]
  rfl
theorem pcheck_s4 : f117 9000 TIC TP4 = some (0, ()) := by kernel_rfl
theorem gen3_s4 : l75_3 9000 9000 TIC TP4 [] [3] 1 0 = some (TIC, TP4, TG4, ()) := by kernel_rfl
theorem gen13_s4 : l75_13 9000 9000 TIC TP4 TG4 [1, 2, 2, 0, 1, 0, 0, 0, 0] 9 0 = some (TG4, ()) := by kernel_rfl
theorem cpt_s4 : f114 9000 TG4 = some (TG4, ()) := by kernel_rfl
theorem sort_s4 : f112 9000 TG4 = some (TG4, ()) := by
  unfold f112
  rw [show Nat.ble 5 9000 = true from rfl, Bool.true_and, bt1 (by decide)]
  rw [List.mergeSort_of_pairwise (by decide)]
theorem gen_s4 : f75 9000 TIC TP4 = some (TG4, ()) := by
  unfold f75
  rw [be1 rfl]
  rw [show l75_3 9000 9000 TIC TP4 [] TP4.2.1.1 (TP4.2.1.1.length : Int) 0 = some (TIC, TP4, TG4, ()) from gen3_s4]
  simp only [Option.bind_some]
  rw [show l75_13 9000 9000 TIC TP4 TG4 TP4.1 (TP4.1.length : Int) 0 = some (TG4, ()) from gen13_s4]
  simp only [Option.bind_some]
  rw [sort_s4]
  simp only [Option.bind_some]
  rw [cpt_s4]
  rfl
theorem ends_s4 : l91_3 9000 9000 TIC TP4 1 [(0, 0, 3, false, ())] 1 0 = some (.inl (TIC, TP4, 1, ())) := by kernel_rfl
theorem res_s4 : f91 9000 TIC TP4 = some (0, ()) := by
  unfold f91
  rw [show l91_3 9000 9000 TIC TP4 (w64 (1 - TP4.2.2.1)) TIC.2.2.2.2.2.2.2.1 (TIC.2.2.2.2.2.2.2.1.length : Int) 0 = some (.inl (TIC, TP4, 1, ())) from ends_s4]
  simp only [Option.bind_some, Sum.elim_inl]
  rw [gen_s4]
  rfl
theorem now_s4 : f89 9000 TGm4 = some (TP4, ()) := by kernel_rfl
theorem gres_s4 : f53 9000 TGm4 = some (0, ()) := by
  unfold f53
  rw [now_s4]
  simp only [Option.bind_some]
  rw [res_s4]
  rfl
theorem pcheck_s5 : f117 9000 TIC TP5 = some (0, ()) := by kernel_rfl
theorem gen3_s5 : l75_3 9000 9000 TIC TP5 [] [3] 1 0 = some (TIC, TP5, TG5, ()) := by kernel_rfl
theorem gen13_s5 : l75_13 9000 9000 TIC TP5 TG5 [1, 2, 2, 1, 1, 0, 0, 0, 0] 9 0 = some (TG5, ()) := by kernel_rfl
theorem cpt_s5 : f114 9000 TG5 = some (TG5, ()) := by kernel_rfl
theorem sort_s5 : f112 9000 TG5 = some (TG5, ()) := by
  unfold f112
  rw [show Nat.ble 5 9000 = true from rfl, Bool.true_and, bt1 (by decide)]
  rw [List.mergeSort_of_pairwise (by decide)]
theorem gen_s5 : f75 9000 TIC TP5 = some (TG5, ()) := by
  unfold f75
  rw [bn1 (by decide), be1 rfl]
  rw [show l75_3 9000 9000 TIC TP5 [] TP5.2.1.2.1 (TP5.2.1.2.1.length : Int) 0 = some (TIC, TP5, TG5, ()) from gen3_s5]
  simp only [Option.bind_some]
  rw [show l75_13 9000 9000 TIC TP5 TG5 TP5.1 (TP5.1.length : Int) 0 = some (TG5, ()) from gen13_s5]
  simp only [Option.bind_some]
  rw [sort_s5]
  simp only [Option.bind_some]
  rw [cpt_s5]
  rfl
theorem ends_s5 : l91_3 9000 9000 TIC TP5 0 [(0, 0, 3, false, ())] 1 0 = some (.inl (TIC, TP5, 0, ())) := by kernel_rfl
theorem res_s5 : f91 9000 TIC TP5 = some (0, ()) := by
  unfold f91
  rw [show l91_3 9000 9000 TIC TP5 (w64 (1 - TP5.2.2.1)) TIC.2.2.2.2.2.2.2.1 (TIC.2.2.2.2.2.2.2.1.length : Int) 0 = some (.inl (TIC, TP5, 0, ())) from ends_s5]
  simp only [Option.bind_some, Sum.elim_inl]
  rw [gen_s5]
  rfl
theorem now_s5 : f89 9000 TGm5 = some (TP5, ()) := by kernel_rfl
theorem gres_s5 : f53 9000 TGm5 = some (0, ()) := by
  unfold f53
  rw [now_s5]
  simp only [Option.bind_some]
  rw [res_s5]
  rfl
theorem gen3_s6 : l75_3 9000 9000 TIC TP6 [] [2] 1 0 = some (TIC, TP6, TG6, ()) := by kernel_rfl
theorem gen13_s6 : l75_13 9000 9000 TIC TP6 TG6 [1, 2, 2, 1, 1, 2, 0, 0, 0] 9 0 = some (TG6, ()) := by kernel_rfl
theorem cpt_s6 : f114 9000 TG6 = some (TG6, ()) := by kernel_rfl
theorem sort_s6 : f112 9000 TG6 = some (TG6, ()) := by
  unfold f112
  rw [show Nat.ble 5 9000 = true from rfl, Bool.true_and, bt1 (by decide)]
  rw [List.mergeSort_of_pairwise (by decide)]
theorem gen_s6 : f75 9000 TIC TP6 = some (TG6, ()) := by
  unfold f75
  rw [be1 rfl]
  rw [show l75_3 9000 9000 TIC TP6 [] TP6.2.1.1 (TP6.2.1.1.length : Int) 0 = some (TIC, TP6, TG6, ()) from gen3_s6]
  simp only [Option.bind_some]
  rw [show l75_13 9000 9000 TIC TP6 TG6 TP6.1 (TP6.1.length : Int) 0 = some (TG6, ()) from gen13_s6]
  simp only [Option.bind_some]
  rw [sort_s6]
  simp only [Option.bind_some]
  rw [cpt_s6]
  rfl
theorem ends_s6 : l91_3 9000 9000 TIC TP6 1 [(0, 0, 3, false, ())] 1 0 = some (.inl (TIC, TP6, 1, ())) := by kernel_rfl
theorem res_s6 : f91 9000 TIC TP6 = some (0, ()) := by
  unfold f91
  rw [show l91_3 9000 9000 TIC TP6 (w64 (1 - TP6.2.2.1)) TIC.2.2.2.2.2.2.2.1 (TIC.2.2.2.2.2.2.2.1.length : Int) 0 = some (.inl (TIC, TP6, 1, ())) from ends_s6]
  simp only [Option.bind_some, Sum.elim_inl]
  rw [gen_s6]
  rfl
theorem now_s6 : f89 9000 TGm6 = some (TP6, ()) := by kernel_rfl
theorem gres_s6 : f53 9000 TGm6 = some (0, ()) := by
  unfold f53
  rw [now_s6]
  simp only [Option.bind_some]
  rw [res_s6]
  rfl
theorem pcheck_s0 : f117 9000 TIC TP0 = some (0, ()) := pcheck_tic
theorem gen_s0 : f75 9000 TIC TP0 = some (TG0, ()) := gen_tic
theorem gres_s0 : f53 9000 TGm0 = some (0, ()) := gres_tic
theorem has_s0 : f74 9000 TG0 (-1, 0, 0, ()) = some (true, ()) := by kernel_rfl
theorem do_s0 : f127 9000 TIC TP0 (-1, 0, 0, ()) = some (TP1, ()) := by kernel_rfl
theorem play_s0 : f51 9000 TGm0 (-1, 0, 0, ()) = some (0, TGm1, ()) :=
  play_step (p := TP0) (q := TP1) gres_s0 (by decide) (by decide) rfl (after_step pcheck_s0 gen_s0 has_s0 do_s0)
theorem has_s1 : f74 9000 TG1 (-1, 1, 0, ()) = some (true, ()) := by kernel_rfl
theorem do_s1 : f127 9000 TIC TP1 (-1, 1, 0, ()) = some (TP2, ()) := by kernel_rfl
theorem play_s1 : f51 9000 TGm1 (-1, 1, 0, ()) = some (0, TGm2, ()) :=
  play_step (p := TP1) (q := TP2) gres_s1 (by decide) (by decide) rfl (after_step pcheck_s1 gen_s1 has_s1 do_s1)
theorem has_s2 : f74 9000 TG2 (-1, 4, 0, ()) = some (true, ()) := by kernel_rfl
theorem do_s2 : f127 9000 TIC TP2 (-1, 4, 0, ()) = some (TP3, ()) := by kernel_rfl
theorem play_s2 : f51 9000 TGm2 (-1, 4, 0, ()) = some (0, TGm3, ()) :=
  play_step (p := TP2) (q := TP3) gres_s2 (by decide) (by decide) rfl (after_step pcheck_s2 gen_s2 has_s2 do_s2)
theorem has_s3 : f74 9000 TG3 (-1, 2, 0, ()) = some (true, ()) := by kernel_rfl
theorem do_s3 : f127 9000 TIC TP3 (-1, 2, 0, ()) = some (TP4, ()) := by kernel_rfl
theorem play_s3 : f51 9000 TGm3 (-1, 2, 0, ()) = some (0, TGm4, ()) :=
  play_step (p := TP3) (q := TP4) gres_s3 (by decide) (by decide) rfl (after_step pcheck_s3 gen_s3 has_s3 do_s3)
theorem has_s4 : f74 9000 TG4 (-1, 3, 0, ()) = some (true, ()) := by kernel_rfl
theorem do_s4 : f127 9000 TIC TP4 (-1, 3, 0, ()) = some (TP5, ()) := by kernel_rfl
theorem play_s4 : f51 9000 TGm4 (-1, 3, 0, ()) = some (0, TGm5, ()) :=
  play_step (p := TP4) (q := TP5) gres_s4 (by decide) (by decide) rfl (after_step pcheck_s4 gen_s4 has_s4 do_s4)
theorem has_s5 : f74 9000 TG5 (-1, 5, 0, ()) = some (true, ()) := by kernel_rfl
theorem do_s5 : f127 9000 TIC TP5 (-1, 5, 0, ()) = some (TP6, ()) := by kernel_rfl
theorem play_s5 : f51 9000 TGm5 (-1, 5, 0, ()) = some (0, TGm6, ()) :=
  play_step (p := TP5) (q := TP6) gres_s5 (by decide) (by decide) rfl (after_step pcheck_s5 gen_s5 has_s5 do_s5)
theorem gp_s0 : GP TIC TGm0 := rfl
theorem gp_s1 : GP TIC TGm1 := (gp_s0.play check_tic (by decide) play_s0).1
theorem gp_s2 : GP TIC TGm2 := (gp_s1.play check_tic (by decide) play_s1).1
theorem gp_s3 : GP TIC TGm3 := (gp_s2.play check_tic (by decide) play_s2).1
theorem gp_s4 : GP TIC TGm4 := (gp_s3.play check_tic (by decide) play_s3).1
theorem gp_s5 : GP TIC TGm5 := (gp_s4.play check_tic (by decide) play_s4).1
theorem gp_s6 : GP TIC TGm6 := (gp_s5.play check_tic (by decide) play_s5).1
end Go.Proofs.YtpnbiakaknbofaaGreatDoor.G
