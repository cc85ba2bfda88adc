import Derived.Test.YticbohfmkiafiaaTBk4
namespace Go.Proofs.Yticbohfmkiafiaa.G
open Go.VM Go.Proofs
abbrev TIC : RU := ((⟨#[84, 73, 67]⟩ : ByteArray), 3, 3, [(83, 5, 0, [], ())], [0, 0, 0, 0, 0, 0, 0, 0, 0], false, false, [(0, 0, 3, false, ())], 2, 0, 0, ())
abbrev POS0 : PO := ([0, 0, 0, 0, 0, 0, 0, 0, 0], ([5], [5], ()), 0, 0, ())
abbrev D9 : List MV := [(-1, 0, 0, ()), (-1, 1, 0, ()), (-1, 2, 0, ()), (-1, 3, 0, ()), (-1, 4, 0, ()), (-1, 5, 0, ()), (-1, 6, 0, ()), (-1, 7, 0, ()), (-1, 8, 0, ())]
theorem check_tic : f64 9000 TIC = some (0, ()) := by kernel_rfl
theorem pcheck_tic : f45 9000 TIC POS0 = some (0, ()) := by kernel_rfl
theorem gen3_tic : l28_3 9000 9000 TIC POS0 [] [5] 1 0 = some (TIC, POS0, D9, ()) := by kernel_rfl
theorem gen13_tic : l28_13 9000 9000 TIC POS0 D9 [0, 0, 0, 0, 0, 0, 0, 0, 0] 9 0 = some (D9, ()) := by kernel_rfl
theorem cpt_tic : f51 9000 D9 = some (D9, ()) := by kernel_rfl
theorem sort_tic : f49 9000 D9 = some (D9, ()) := by
  unfold f49
  rw [show Nat.ble 5 9000 = true from rfl, Bool.true_and, bt1 (by decide)]
  rw [List.mergeSort_of_pairwise (by decide)]
theorem gen_tic : f28 9000 TIC POS0 = some (D9, ()) := by
  unfold f28
  rw [be1 rfl]
  rw [show l28_3 9000 9000 TIC POS0 [] POS0.2.1.1 (POS0.2.1.1.length : Int) 0 = some (TIC, POS0, D9, ()) from gen3_tic]
  simp only [Option.bind_some]
  rw [show l28_13 9000 9000 TIC POS0 D9 POS0.1 (POS0.1.length : Int) 0 = some (D9, ()) from gen13_tic]
  simp only [Option.bind_some]
  rw [sort_tic]
  simp only [Option.bind_some]
  rw [cpt_tic]
  rfl
theorem ends_tic : l57_3 9000 9000 TIC POS0 1 [(0, 0, 3, false, ())] 1 0 = some (.inl (TIC, POS0, 1, ())) := by kernel_rfl
theorem res_tic : f57 9000 TIC POS0 = some (0, ()) := by
  unfold f57
  rw [show l57_3 9000 9000 TIC POS0 (w64 (1 - POS0.2.2.1)) TIC.2.2.2.2.2.2.2.1 (TIC.2.2.2.2.2.2.2.1.length : Int) 0 = some (.inl (TIC, POS0, 1, ())) from ends_tic]
  simp only [Option.bind_some, Sum.elim_inl]
  rw [gen_tic]
  rfl
theorem pok_tic : POK TIC POS0 := by
  obtain ⟨e, he, h⟩ := place_tot TIC POS0
  rw [pcheck_tic] at he
  simp only [Option.some.injEq, Prod.mk.injEq, and_true] at he
  exact (h he.symm).1
theorem gres_tic : f33 9000 (g0 TIC) = some (0, ()) := by
  unfold f33
  rw [show f56 9000 (g0 TIC) = some (POS0, ()) from by kernel_rfl]
  simp only [Option.bind_some]
  rw [show (g0 TIC).1 = TIC from rfl, res_tic]
  rfl
theorem after_tic (m : MV) (hm : f29 9000 D9 m = some (true, ())) : ∃ q, f55 9000 TIC POS0 m = some (q, 0, ()) := by
  rcases after_tot (show Rz TIC from check_tic) pok_tic m with h | ⟨q, h, _⟩
  · exfalso
    unfold f55 f68 at h
    rw [pcheck_tic] at h
    simp only [Option.bind_some] at h
    rw [beq1 rfl, gen_tic] at h
    simp only [Option.bind_some] at h
    rw [hm] at h
    simp only [Option.bind_some] at h
    rw [beq1 rfl] at h
    simp only [Bool.not_true, cond_false] at h
    cases hD : f24 9000 TIC POS0 m with
    | none => rw [hD] at h; cases h
    | some v => rw [hD] at h; simp at h
  · exact ⟨q, h⟩
theorem play_tic (m : MV) (hm : f29 9000 D9 m = some (true, ())) : ∃ g, f31 9000 (g0 TIC) m = some (0, g, ()) := by
  obtain ⟨q, hq⟩ := after_tic m hm
  unfold f31
  rw [gres_tic]
  simp only [Option.bind_some]
  rw [beq1 rfl, bt2 ⟨by decide, by decide⟩, show (g0 TIC).1 = TIC from rfl, show rd (([], ([], [], ()), 0, 0, ()) : PO) (g0 TIC).2.1 (w64 (((g0 TIC).2.1.length : Int) - 1)) = POS0 from rfl, hq]
  simp only [Option.bind_some]
  rw [beq1 rfl, bn1 (by decide), bt1 (show ((g0 TIC).2.1.length + [q].length) * 88 ≤ roomN from (by decide : (1 + 1) * 88 ≤ roomN)), bt1 (show ((g0 TIC).2.2.1.length + [m].length) * 24 ≤ roomN from (by decide : (0 + 1) * 24 ≤ roomN))]
  exact ⟨_, rfl⟩
end Go.Proofs.Yticbohfmkiafiaa.G
namespace Go.Proofs.Yticbohfmkiafiaa.G
open Go.VM Go.Proofs
theorem tic_eq : f16 9000 = some (TIC, ()) := by kernel_rfl
abbrev D4 : MV := (-1, 4, 0, ())
theorem drop4 : f17 9000 4 = some (D4, ()) := by kernel_rfl
theorem has4 : f29 9000 D9 D4 = some (true, ()) := by kernel_rfl
theorem books_eq : f7 9000 = some (true, ()) := by
  have hz : Rz TIC := check_tic
  obtain ⟨g, hg⟩ := play_tic D4 has4
  rcases run_tot TIC [D4] (by decide) with ⟨_, g', x, hpl, hgo, hgl, _, hrun⟩ | ⟨_, hno⟩
  rotate_left
  · exact absurd ⟨hz, g, g, hg, rfl⟩ hno
  obtain ⟨_, qs, _, hpath⟩ := id hgo
  rw [hgl] at hpath
  have hok : AddOK TIC [D4] 1 7 qs := ⟨hz, ⟨g', x, hpl, hgo, hgl, hrun⟩, hpath, by omega, by omega⟩
  obtain ⟨q, qs', rfl, _⟩ := hpath
  have := add_eq hok (by decide) good_nil (by decide)
  unfold f7
  rw [tic_eq]
  simp only [Option.bind_some]
  rw [drop4]
  simp only [Option.bind_some]
  rw [this]
  simp only [Option.bind_some]
  have hn : nOf [D4] 1 = 1 := rfl
  rw [hn]
  have he : putsL [] (ents 7 (fresh TIC) ([D4].take 1) ((q :: qs').take 1)) = [(zk (fresh TIC), D4, 7, ())] := by
    show putsL [] [(zk (fresh TIC), D4, 7, ())] = _
    show putL [] _ = _
    rw [putL]
  rw [he, be1 rfl]
  rfl
end Go.Proofs.Yticbohfmkiafiaa.G
