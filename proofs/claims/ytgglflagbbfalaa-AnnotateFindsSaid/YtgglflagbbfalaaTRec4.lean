/- Records: the way to a node leads to the node. -/
import Derived.Test.YtgglflagbbfalaaTRec3
namespace Go.Proofs.Ytgglflagbbfalaa.G
open Go.VM Go.Proofs
theorem Linked.nn {l : List ND} : ∀ {ns : List Int} {p : Int}, Linked l p ns → (-1 ≤ p) → -1 ≤ ns.getLastD p
  | [], p, _, hp => hp
  | n :: ns, p, ⟨h1, _, h3⟩, _ => by rw [List.getLastD_cons]; exact Linked.nn h3 (by omega)
theorem find6 (x : RC) (h : Tree x.2.2.1) (full : List Int) (hf : full.length ≤ 1000) : ∀ (ns pre : List Int) (p : Int) (j : Nat), full = pre ++ ns → Linked x.2.2.1 p ns → ns.length < j →
    l9_6 9000 j x p (full.map (mvN x.2.2.1)) (full.length : Int) (pre.length : Int) = some (.inl (ns.getLastD p, ()))
  | _, _, _, 0, _, _, hj => by omega
  | [], pre, p, j + 1, e, _, _ => by
    rw [l9_6, bf1 (show ¬ (pre.length : Int) < full.length by rw [e]; simp)]
    rfl
  | n :: ns, pre, p, j + 1, e, ⟨hn, hp, hl⟩, hj => by
    have hlen : full.length = pre.length + (ns.length + 1) := by rw [e]; simp
    obtain ⟨c, rfl⟩ := Int.eq_ofNat_of_zero_le hn.1
    rw [l9_6, bt1 (show (pre.length : Int) < full.length by omega), bt2 ⟨by omega, by rw [List.length_map]; omega⟩]
    have hr : rd ((0, 0, 0, ()) : MV) (full.map (mvN x.2.2.1)) (pre.length : Int) = mvN x.2.2.1 (c : Int) := by
      rw [e]
      simp [rd, List.getD_eq_getElem?_getD]
    have hll := h.len
    have h10 := find10 x h c (by omega) (full.map (mvN x.2.2.1)) (full.length : Int) (pre.length : Int) 9000 0 (-1) (by omega) (by omega) (.inl (by omega))
    rw [show ((0 : Nat) : Int) = 0 from rfl, hp] at h10
    rw [hr, h10]
    simp only [Option.bind_some]
    rw [bf1 (by omega), ws (by omega)]
    have e2 : (pre.length : Int) + 1 = ((pre ++ [(c : Int)]).length : Int) := by simp
    rw [e2, find6 x h full hf ns (pre ++ [(c : Int)]) (c : Int) j (by rw [e]; simp) hl (by simp only [List.length_cons] at hj; omega), List.getLastD_cons]
/-- **Path and Find**: the way to a node leads to it. -/
theorem find_path (r : RU) (x : RC) (hc : f7 9000 r x = some (0, ())) (h : Tree x.2.2.1) (n : Nat) (hn : n < x.2.2.1.length) :
    f8 9000 r x n = some ((chain x.2.2.1 9000 n).map (mvN x.2.2.1), 0, ()) ∧ f9 9000 r x ((chain x.2.2.1 9000 n).map (mvN x.2.2.1)) = some ((n : Int), 0, ()) := by
  have hll := h.len
  have hcl := chain_len h 9000 (n : Int) (by omega)
  obtain ⟨h1, h2⟩ := chain_linked h 9000 (n : Int) ⟨by omega, by omega⟩ (by omega)
  constructor
  · unfold f8 f19
    rw [hc]
    simp only [Option.bind_some]
    rw [beq1 rfl, bf1 (by omega), bf1 (by omega)]
    simp only [Option.bind_some]
    rw [beq1 rfl]
    have := path_eq h 9000 (n : Int) ⟨by omega, by omega⟩ (by omega)
    unfold f20
    rw [this]
    rfl
  · unfold f9
    rw [hc]
    simp only [Option.bind_some]
    rw [beq1 rfl, List.length_map]
    have h6 := find6 x h (chain x.2.2.1 9000 (n : Int)) (by omega) (chain x.2.2.1 9000 (n : Int)) [] (-1) 9000 rfl h1 (by omega)
    rw [show (([] : List Int).length : Int) = 0 from rfl] at h6
    rw [h6, h2]
    simp only [Option.bind_some, Sum.elim_inl]
    rw [bf1 (by omega)]
end Go.Proofs.Ytgglflagbbfalaa.G
