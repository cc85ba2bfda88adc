/- The game of three in a row, at its beginning. -/
import Derived.Test.YtnjjioeehbanjaaTSearch
namespace Go.Proofs.Ytnjjioeehbanjaa.G
open Go.VM Go.Proofs
abbrev TIC : RU := ((⟨#[84, 73, 67]⟩ : ByteArray), 3, 3, [(83, 5, 0, [], ())], [0, 0, 0, 0, 0, 0, 0, 0, 0], false, false, [(0, 0, 3, false, ())], 2, 0, 0, ())
abbrev POS0 : PO := ([0, 0, 0, 0, 0, 0, 0, 0, 0], ([5], [5], ()), 0, 0, ())
abbrev D9 : List MV := [(-1, 0, 0, ()), (-1, 1, 0, ()), (-1, 2, 0, ()), (-1, 3, 0, ()), (-1, 4, 0, ()), (-1, 5, 0, ()), (-1, 6, 0, ()), (-1, 7, 0, ()), (-1, 8, 0, ())]
theorem check_tic : f27 9000 TIC = some (0, ()) := by kernel_rfl
theorem pcheck_tic : f46 9000 TIC POS0 = some (0, ()) := by kernel_rfl
theorem gen3_tic : l63_3 9000 9000 TIC POS0 [] [5] 1 0 = some (TIC, POS0, D9, ()) := by kernel_rfl
theorem gen13_tic : l63_13 9000 9000 TIC POS0 D9 [0, 0, 0, 0, 0, 0, 0, 0, 0] 9 0 = some (D9, ()) := by kernel_rfl
theorem cpt_tic : f73 9000 D9 = some (D9, ()) := by kernel_rfl
theorem sort_tic : f71 9000 D9 = some (D9, ()) := by
  unfold f71
  rw [show Nat.ble 5 9000 = true from rfl, Bool.true_and, bt1 (by decide)]
  rw [List.mergeSort_of_pairwise (by decide)]
theorem gen_tic : f63 9000 TIC POS0 = some (D9, ()) := by
  unfold f63
  rw [be1 rfl]
  rw [show l63_3 9000 9000 TIC POS0 [] POS0.2.1.1 (POS0.2.1.1.length : Int) 0 = some (TIC, POS0, D9, ()) from gen3_tic]
  simp only [Option.bind_some]
  rw [show l63_13 9000 9000 TIC POS0 D9 POS0.1 (POS0.1.length : Int) 0 = some (D9, ()) from gen13_tic]
  simp only [Option.bind_some]
  rw [sort_tic]
  simp only [Option.bind_some]
  rw [cpt_tic]
  rfl
theorem ends_tic : l61_3 9000 9000 TIC POS0 1 [(0, 0, 3, false, ())] 1 0 = some (.inl (TIC, POS0, 1, ())) := by kernel_rfl
theorem res_tic : f61 9000 TIC POS0 = some (0, ()) := by
  unfold f61
  rw [show l61_3 9000 9000 TIC POS0 (w64 (1 - POS0.2.2.1)) TIC.2.2.2.2.2.2.2.1 (TIC.2.2.2.2.2.2.2.1.length : Int) 0 = some (.inl (TIC, POS0, 1, ())) from ends_tic]
  simp only [Option.bind_some, Sum.elim_inl]
  rw [gen_tic]
  rfl
theorem pok_tic : POK TIC POS0 := by
  obtain ⟨e, he, h⟩ := place_tot TIC POS0
  rw [pcheck_tic] at he
  simp only [Option.some.injEq, Prod.mk.injEq, and_true] at he
  exact (h he.symm).1
end Go.Proofs.Ytnjjioeehbanjaa.G
