/- Announced moves: what is announced is made (the sanity check). -/
import Derived.Test.YtphgopfhobockaaPPlace
namespace Go.Proofs.Ytphgopfhobockaa.G
open Go.VM Go.Proofs

abbrev MV := Int × Int × Int × Unit
abbrev PM := Int × MV × Unit
abbrev M0 : MV := (0, 0, 0, ())
abbrev Q0 : PM := (0, (0, 0, 0, ()), ())
theorem ws {n : Int} (h : -9223372036854775808 ≤ n ∧ n ≤ 9223372036854775807) : w64 n = n := by
  unfold w64; rw [IntKind.wrap_i64]; omega
theorem bt2 {α : Type} {p q : Prop} [Decidable p] [Decidable q] {A B : α} (h : p ∧ q) : (bif decide p && decide q then A else B) = A := by
  rw [decide_eq_true h.1, decide_eq_true h.2]; rfl
theorem bt1 {α : Type} {p : Prop} [Decidable p] {A B : α} (h : p) : (bif decide p then A else B) = A := by
  rw [decide_eq_true h]; rfl
theorem bf1 {α : Type} {p : Prop} [Decidable p] {A B : α} (h : ¬ p) : (bif decide p then A else B) = B := by
  rw [decide_eq_false h]; rfl
theorem be1 {α : Type} {a b : Int} {A B : α} (h : a = b) : (bif a == b then A else B) = A := by rw [h, beq_self_eq_true]; rfl
theorem bn1 {α : Type} {a b : Int} {A B : α} (h : a ≠ b) : (bif a == b then A else B) = B := by rw [show (a == b) = false by simpa using h]; rfl
theorem bne1 {α : Type} {a b : Int} {A B : α} (h : a ≠ b) : (bif a != b then A else B) = A := by rw [show (a != b) = true by simpa using h]; rfl
theorem beq1 {α : Type} {a b : Int} {A B : α} (h : a = b) : (bif a != b then A else B) = B := by rw [show (a != b) = false by simp [h]]; rfl
theorem drop_rd {α : Type} (d : α) (l : List α) (i : Nat) (h : i < l.length) : l.drop i = rd d l (i : Int) :: l.drop (i + 1) := by
  rw [List.drop_eq_getElem_cons h]
  unfold rd
  simp [List.getD_eq_getElem?_getD, List.getElem?_eq_getElem h]

/-! ### The game of three in a row -/
def TIC : RU := ((⟨#[84, 73, 67]⟩ : ByteArray), 3, 3, [(83, 5, 0, [], ())], List.replicate (9 : Int).toNat 0, false, false, [(0, 0, 3, false, ())], 2, 0, 0, ())
def POS : PO := ([0, 0, 0, 0, 0, 0, 0, 0, 0], ([5], [5], ()), 0, 0, ())
def drops : List MV := [(-1, 0, 0, ()), (-1, 1, 0, ()), (-1, 2, 0, ()), (-1, 3, 0, ()), (-1, 4, 0, ()), (-1, 5, 0, ()), (-1, 6, 0, ()), (-1, 7, 0, ()), (-1, 8, 0, ())]
theorem tic39 : f39 9000 = some (TIC, ()) := by kernel_rfl
theorem tic38 : f38 9000 TIC = some (POS, 0, ()) := by kernel_rfl
theorem tic40 : f40 9000 3 = some ((-1, 3, 0, ()), ()) := by kernel_rfl
theorem tic13 : f13 9000 TIC POS = some (0, ()) := by kernel_rfl
theorem raw1 : l42_3 9000 9000 TIC POS [] [5] 1 0 = some (TIC, POS, drops, ()) := by kernel_rfl
theorem raw2 : l42_13 9000 9000 TIC POS drops POS.1 9 0 = some (drops, ()) := by kernel_rfl
theorem srt : f72 9000 drops = some (drops, ()) := by
  unfold f72
  have e : List.mergeSort drops (fun x y => !mvLt y x) = drops := List.mergeSort_of_pairwise (by
    unfold drops
    simp only [List.pairwise_cons, List.mem_cons, List.not_mem_nil, or_false, forall_eq_or_imp, forall_eq]
    refine ⟨?_, ?_, ?_, ?_, ?_, ?_, ?_, ?_, ?_⟩ <;> simp <;> decide)
  rw [e]
  rfl
theorem tic74 : f74 9000 drops = some (drops, drops, ()) := by kernel_rfl
theorem tic42 : f42 9000 TIC POS = some (drops, ()) := by
  have e : f42 9000 TIC POS = (l42_3 9000 9000 TIC POS [] [5] 1 0).bind fun o1 => (l42_13 9000 9000 o1.1 o1.2.1 o1.2.2.1 o1.2.1.1 (o1.2.1.1.length : Int) 0).bind fun o2 => (f72 9000 o2.1).bind fun r3 => (f74 9000 r3.1).bind fun r4 => some (r4.1, ()) := by kernel_rfl
  rw [e, raw1]
  simp only [Option.bind_some]
  have e2 : l42_13 9000 9000 TIC POS drops POS.1 (POS.1.length : Int) 0 = some (drops, ()) := raw2
  rw [e2]
  simp only [Option.bind_some]
  rw [srt]
  simp only [Option.bind_some]
  rw [tic74]
  rfl
theorem tic79 : f79 9000 TIC POS = some (0, ()) := by
  unfold f79
  have e : l79_3 9000 9000 TIC POS (w64 (1 - POS.2.2.1)) TIC.2.2.2.2.2.2.2.1 (TIC.2.2.2.2.2.2.2.1.length : Int) 0 = some (.inl (TIC, POS, 1, ())) := by kernel_rfl
  rw [e]
  simp only [Option.bind_some, Sum.elim_inl]
  rw [tic42]
  rfl
theorem tic44 : f44 9000 TIC POS [(0, (-1, 3, 0, ()), ())] = some ((-1, 3, 0, ()), true, [], 0, ()) := by
  unfold f44
  rw [tic13]
  simp only [Option.bind_some]
  have e0 : f45 9000 [(0, ((-1, 3, 0, ()) : MV), ())] = some (0, ()) := by kernel_rfl
  have e1 : f77 9000 [(0, ((-1, 3, 0, ()) : MV), ())] (POS, ()) = some (0, (POS, ()), ()) := by kernel_rfl
  rw [e0]
  simp only [Option.bind_some]
  rw [e1]
  simp only [Option.bind_some]
  rw [tic79]
  simp only [Option.bind_some]
  rw [tic42]
  simp only [Option.bind_some]
  have e2 : f80 9000 drops (rd Q0 [(0, ((-1, 3, 0, ()) : MV), ())] 0).2.1 = some (true, ()) := by kernel_rfl
  rw [e2]
  have e3 : f81 9000 [(0, ((-1, 3, 0, ()) : MV), ())] 0 (w64 (0 + 1)) = some ([], ()) := by kernel_rfl
  have e4 : f47 9000 [(0, ((-1, 3, 0, ()) : MV), ())] = some ([(0, ((-1, 3, 0, ()) : MV), ())], ()) := by
    unfold f47; rfl
  rw [e4]
  simp only [Option.bind_some]
  rw [e3]
  rfl
theorem announces : f17 9000 = some (true, ()) := by
  unfold f17
  rw [tic39]
  simp only [Option.bind_some]
  rw [tic38]
  simp only [Option.bind_some]
  rw [tic40]
  simp only [Option.bind_some]
  rw [tic44]
  kernel_rfl
end Go.Proofs.Ytphgopfhobockaa.G
