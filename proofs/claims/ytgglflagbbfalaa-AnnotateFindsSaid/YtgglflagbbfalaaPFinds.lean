/- AnnotateFinds: the node to which the way to a node leads is the node. -/
import Derived.Test.YtgglflagbbfalaaTRec6
import Derived.Test.YtgglflagbbfalaaTRunR
namespace Go.Proofs.Ytgglflagbbfalaa.G
open Go.VM Go.Proofs
/-! ### A record of one move -/
abbrev TIC : RU := ((⟨#[84, 73, 67]⟩ : ByteArray), 3, 3, [(83, 5, 0, [], ())], [0, 0, 0, 0, 0, 0, 0, 0, 0], false, false, [(0, 0, 3, false, ())], 2, 0, 0, ())
abbrev Q0 : PO := ([0, 0, 0, 0, 0, 0, 0, 0, 0], ([5], [5], ()), 0, 0, ())
abbrev D9 : List MV := [(-1, 0, 0, ()), (-1, 1, 0, ()), (-1, 2, 0, ()), (-1, 3, 0, ()), (-1, 4, 0, ()), (-1, 5, 0, ()), (-1, 6, 0, ()), (-1, 7, 0, ()), (-1, 8, 0, ())]
abbrev ONE : RC := ([], (⟨#[]⟩ : ByteArray), [(-1, (-1, 0, 0, ()), (⟨#[]⟩ : ByteArray), ())], 0, ())
theorem tic_eq : f11 9000 = some (TIC, ()) := by kernel_rfl
theorem one_eq : f12 9000 = some (ONE, ()) := by kernel_rfl
theorem check_tic : f34 9000 TIC = some (0, ()) := by kernel_rfl
theorem pcheck_tic : f47 9000 TIC Q0 = some (0, ()) := by kernel_rfl
theorem gen3_tic : l42_3 9000 9000 TIC Q0 [] [5] 1 0 = some (TIC, Q0, D9, ()) := by kernel_rfl
theorem gen13_tic : l42_13 9000 9000 TIC Q0 D9 [0, 0, 0, 0, 0, 0, 0, 0, 0] 9 0 = some (D9, ()) := by kernel_rfl
theorem cpt_tic : f58 9000 D9 = some (D9, D9, ()) := by kernel_rfl
theorem sort_tic : f56 9000 D9 = some (D9, ()) := by
  unfold f56
  rw [show Nat.ble 5 9000 = true from rfl, Bool.true_and, bt1 (by decide)]
  rw [List.mergeSort_of_pairwise (by decide)]
theorem gen_tic : f42 9000 TIC Q0 = some (D9, ()) := by
  unfold f42
  rw [be1 rfl]
  rw [show l42_3 9000 9000 TIC Q0 [] Q0.2.1.1 (Q0.2.1.1.length : Int) 0 = some (TIC, Q0, D9, ()) from gen3_tic]
  simp only [Option.bind_some]
  rw [show l42_13 9000 9000 TIC Q0 D9 Q0.1 (Q0.1.length : Int) 0 = some (D9, ()) from gen13_tic]
  simp only [Option.bind_some]
  rw [sort_tic]
  simp only [Option.bind_some]
  rw [cpt_tic]
  rfl
theorem ends_tic : l32_3 9000 9000 TIC Q0 1 [(0, 0, 3, false, ())] 1 0 = some (.inl (TIC, Q0, 1, ())) := by kernel_rfl
theorem res_tic : f32 9000 TIC Q0 = some (0, ()) := by
  unfold f32
  rw [show l32_3 9000 9000 TIC Q0 (w64 (1 - Q0.2.2.1)) TIC.2.2.2.2.2.2.2.1 (TIC.2.2.2.2.2.2.2.1.length : Int) 0 = some (.inl (TIC, Q0, 1, ())) from ends_tic]
  simp only [Option.bind_some, Sum.elim_inl]
  rw [gen_tic]
  rfl
theorem has_tic : f48 9000 D9 (-1, 0, 0, ()) = some (true, ()) := by kernel_rfl
theorem pok_tic : POK TIC Q0 := by
  obtain ⟨e, he, h⟩ := place_tot TIC Q0
  rw [pcheck_tic] at he
  simp only [Option.some.injEq, Prod.mk.injEq, and_true] at he
  exact (h he.symm).1
theorem after_tic : ∃ q, f28 9000 TIC Q0 (-1, 0, 0, ()) = some (q, 0, ()) := by
  rcases after_tot (show Rz TIC from check_tic) pok_tic (-1, 0, 0, ()) with h | ⟨q, h, _⟩
  · exfalso
    unfold f28 f37 at h
    rw [pcheck_tic] at h
    simp only [Option.bind_some] at h
    rw [beq1 rfl, gen_tic] at h
    simp only [Option.bind_some] at h
    rw [has_tic] at h
    simp only [Option.bind_some] at h
    rw [beq1 rfl] at h
    simp only [Bool.not_true, cond_false] at h
    cases hD : f38 9000 TIC Q0 (-1, 0, 0, ()) with
    | none => rw [hD] at h; cases h
    | some v => rw [hD] at h; simp at h
  · exact ⟨q, h⟩
theorem play_tic : ∃ g, f17 9000 (g0 TIC) (-1, 0, 0, ()) = some (0, g, ()) := by
  have hr : f22 9000 (g0 TIC) = some (0, ()) := by
    unfold f22
    rw [show f29 9000 (g0 TIC) = some (Q0, ()) from by kernel_rfl]
    simp only [Option.bind_some]
    rw [show (g0 TIC).1 = TIC from rfl, res_tic]
    rfl
  obtain ⟨q, hq⟩ := after_tic
  unfold f17
  rw [hr]
  simp only [Option.bind_some]
  rw [beq1 rfl, bt2 ⟨by decide, by decide⟩, show (g0 TIC).1 = TIC from rfl, show rd (([], ([], [], ()), 0, 0, ()) : PO) (g0 TIC).2.1 (w64 (((g0 TIC).2.1.length : Int) - 1)) = Q0 from rfl, hq]
  simp only [Option.bind_some]
  rw [beq1 rfl, bn1 (by decide), bt1 (show ((g0 TIC).2.1.length + [q].length) * 88 ≤ roomN from (by decide : (1 + 1) * 88 ≤ roomN)), bt1 (show ((g0 TIC).2.2.1.length + [((-1, 0, 0, ()) : MV)].length) * 24 ≤ roomN from (by decide : (0 + 1) * 24 ≤ roomN))]
  exact ⟨_, rfl⟩
theorem cut30 (x : RC) : ∃ y : RC, f5 9000 x = some (y, ()) := by
  unfold f5
  rw [bt2 (by split <;> omega)]
  exact ⟨_, rfl⟩
theorem annotates_of (h : f7 9000 TIC ONE = some (0, ())) : f4 9000 = some (true, ()) := by
  unfold f4
  rw [tic_eq]
  simp only [Option.bind_some]
  rw [one_eq]
  simp only [Option.bind_some]
  obtain ⟨e, he, hok⟩ := check_tot TIC ONE
  rw [h] at he
  simp only [Option.some.injEq, Prod.mk.injEq, and_true] at he
  obtain ⟨_, ht, _⟩ := hok he.symm
  have := (find_path TIC ONE h ht 0 (by decide)).1
  rw [show ((0 : Nat) : Int) = 0 from rfl] at this
  rw [this]
  simp only [Option.bind_some]
  rw [be1 rfl]
  rfl
/-- **AnnotateFinds**, but for the one record that the law makes itself. -/
theorem finds_of (h : f7 9000 TIC ONE = some (0, ())) (r : RU) (x : RC) (n : Int) : f3 9000 r x n = some (true, ()) := by
  unfold f3
  rw [annotates_of h]
  simp only [Option.bind_some, Bool.not_true, cond_false]
  obtain ⟨y, hy⟩ := cut30 x
  rw [hy]
  simp only [Option.bind_some]
  unfold f6
  simp only [Option.bind_some]
  cases decide ((r.2.2.2.2.1.length : Int) > 20)
  rotate_left
  · rfl
  simp only [cond_false]
  obtain ⟨e, he, hok⟩ := check_tot r y
  rw [he]
  simp only [Option.bind_some]
  by_cases h0 : e = 0
  rotate_left
  · rw [bne1 h0]
  subst h0
  rw [beq1 rfl]
  obtain ⟨hz, ht, hpl⟩ := hok rfl
  by_cases c1 : n < 0
  · rw [bt1 c1]
  rw [bf1 c1]
  by_cases c2 : n ≥ (y.2.2.1.length : Int)
  · rw [bt1 c2]
  rw [bf1 c2]
  obtain ⟨k, rfl⟩ := Int.eq_ofNat_of_zero_le (show 0 ≤ n by omega)
  have hk : k < y.2.2.1.length := by omega
  have hl := ht.len
  obtain ⟨p1, p2⟩ := find_path r y he ht k hk
  rw [p1]
  simp only [Option.bind_some]
  rw [p2]
  simp only [Option.bind_some]
  have hcl := chain_len ht 9000 (k : Int) (by omega)
  rcases run_tot r ((chain y.2.2.1 9000 (k : Int)).map (mvN y.2.2.1)) (by rw [List.length_map]; omega) with ⟨_, g, xx, _, _, _, _, hrun⟩ | ⟨_, hno⟩
  · rw [hrun]
    simp only [Option.bind_some]
    rw [be1 rfl, be1 rfl, be1 rfl]
    rfl
  · exact absurd ⟨hz, hpl k hk⟩ hno
abbrev NO : ND := (-1, (-1, 0, 0, ()), (⟨#[]⟩ : ByteArray), ())
theorem head_one : f14 9000 ONE = some (0, ()) := by kernel_rfl
theorem com_one : f15 9000 (⟨#[]⟩ : ByteArray) = some (0, ()) := by kernel_rfl
theorem pop_one : l7_14 9000 9000 ONE (g0 TIC) [] 0 NO [NO] 1 0 = some (ONE, g0 TIC, [], 0, NO, [NO], 1, 0, ()) := by kernel_rfl
theorem sib_one (g : GM) : l7_20 9000 9000 ONE g [] 0 NO [NO] 1 0 [] 0 0 = some (.inl (ONE, g, [], 0, NO, [NO], 1, 0, ())) := by kernel_rfl
theorem deep_one : f18 9000 [NO] = some (0, ()) := by kernel_rfl
theorem check_one : f7 9000 TIC ONE = some (0, ()) := by
  obtain ⟨g, hg⟩ := play_tic
  have e1 : w64 (0 + 1) = 1 := by decide
  have h1 : l7_9 9000 9000 ONE (g0 TIC) [] [NO] 1 0 = some (.inl (ONE, ())) := by
    rw [l7_9, bt1 (by decide), bt2 ⟨by decide, by decide⟩]
    rw [show (rd ((0, (0, 0, 0, ()), (⟨#[]⟩ : ByteArray), ()) : ND) [NO] 0) = NO from rfl, com_one]
    simp only [Option.bind_some]
    rw [beq1 rfl, pop_one]
    simp only [Option.bind_some]
    rw [beq1 rfl, bt2 ⟨by decide, by decide⟩]
    rw [show sliceOf ONE.2.2.1 0 0 = [] from rfl, show ((([] : List ND).length : Nat) : Int) = 0 from rfl, sib_one]
    simp only [Option.bind_some, Sum.elim_inl]
    rw [hg]
    simp only [Option.bind_some]
    rw [beq1 rfl, bt1 (show (([] : List Int).length + [(0 : Int)].length) * 8 ≤ roomN from (by decide : (0 + 1) * 8 ≤ roomN)), e1, l7_9, bf1 (by decide)]
  unfold f7
  rw [new_eq (show Rz TIC from check_tic)]
  simp only [Option.bind_some, Sum.elim_inl]
  rw [beq1 rfl, head_one]
  simp only [Option.bind_some]
  rw [beq1 rfl, show l7_9 9000 9000 ONE (g0 TIC) [] ONE.2.2.1 (ONE.2.2.1.length : Int) 0 = some (.inl (ONE, ())) from h1]
  simp only [Option.bind_some, Sum.elim_inl]
  rw [show f18 9000 ONE.2.2.1 = some (0, ()) from deep_one]
  rfl
/-- **AnnotateFinds**. -/
theorem finds_pure (r : RU) (x : RC) (n : Int) : f3 9000 r x n = some (true, ()) := finds_of check_one r x n
end Go.Proofs.Ytgglflagbbfalaa.G
