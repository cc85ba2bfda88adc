/- Records: the way to a node, and the node to which a way leads. -/
import Derived.Test.YtgglflagbbfalaaTRec2
namespace Go.Proofs.Ytgglflagbbfalaa.G
open Go.VM Go.Proofs
theorem mv_testR (x y : MV) : ((x.1 == y.1) && ((x.2.1 == y.2.1) && ((x.2.2.1 == y.2.2.1) && true))) = decide (x = y) := by
  obtain ⟨a, b, c, _⟩ := x
  obtain ⟨d, e, f, _⟩ := y
  by_cases h1 : a = d <;> by_cases h2 : b = e <;> by_cases h3 : c = f <;> simp [h1, h2, h3]
def par (l : List ND) (i : Int) : Int := (rd N0 l i).1
def mvN (l : List ND) (i : Int) : MV := (rd N0 l i).2.1
/-- A tree, its nodes in order: parents come first, and no two children of a node have the same move. -/
structure Tree (l : List ND) : Prop where
  len : l.length ≤ 200
  par : ∀ i : Nat, i < l.length → -1 ≤ par l i ∧ par l i < i
  one : ∀ a b : Nat, a < b → b < l.length → ¬ (G.par l a = G.par l b ∧ mvN l a = mvN l b)
/-- The nodes from the beginning to a node. -/
def chain (l : List ND) : Nat → Int → List Int
  | 0, _ => []
  | d + 1, n => if n < 0 then [] else chain l d (par l n) ++ [n]
theorem chain_len {l : List ND} (h : Tree l) : ∀ (d : Nat) (n : Int), n < l.length → ((chain l d n).length : Int) ≤ max 0 (n + 1)
  | 0, n, _ => by simp [chain]; omega
  | d + 1, n, hn => by
    rw [chain]
    split
    · simp; omega
    · rename_i c
      obtain ⟨i, rfl⟩ := Int.eq_ofNat_of_zero_le (show 0 ≤ n by omega)
      have hp := h.par i (by omega)
      have := chain_len h d (par l (i : Int)) (by omega)
      rw [List.length_append, List.length_singleton]
      omega
theorem path_eq {l : List ND} (h : Tree l) : ∀ (d : Nat) (n : Int), -1 ≤ n ∧ n < l.length → n + 1 < d → f20_at 9000 d l n = some ((chain l d n).map (mvN l), ())
  | 0, n, hn, hd => by omega
  | d + 1, n, hn, hd => by
    show f20_body 9000 (f20_at 9000 d) l n = _
    unfold f20_body
    by_cases c : n < 0
    · rw [bt1 c, chain, if_pos c]; rfl
    · obtain ⟨i, rfl⟩ := Int.eq_ofNat_of_zero_le (show 0 ≤ n by omega)
      have hp := h.par i (by omega)
      have hl := h.len
      have hcl := chain_len h d (par l (i : Int)) (by omega)
      rw [bf1 c, bt2 ⟨by omega, by omega⟩]
      rw [show (rd ((0, (0, 0, 0, ()), (⟨#[]⟩ : ByteArray), ()) : ND) l (i : Int)).1 = par l (i : Int) from rfl, path_eq h d (par l (i : Int)) ⟨hp.1, by omega⟩ (by omega)]
      simp only [Option.bind_some]
      rw [bt2 ⟨by omega, by omega⟩, bt1 (by rw [List.length_map, List.length_singleton]; unfold roomN; omega)]
      rw [chain, if_neg c, List.map_append]
      rfl
/-- Each node of a chain is a child of the one before. -/
def Linked (l : List ND) : Int → List Int → Prop
  | _, [] => True
  | p, n :: ns => (0 ≤ n ∧ n < l.length) ∧ par l n = p ∧ Linked l n ns
theorem Linked.snoc {l : List ND} : ∀ {ns : List Int} {p n : Int}, Linked l p ns → 0 ≤ n ∧ n < l.length → par l n = ns.getLastD p → Linked l p (ns ++ [n])
  | [], p, n, _, h1, h2 => ⟨h1, h2, trivial⟩
  | m :: ns, p, n, ⟨h3, h4, h5⟩, h1, h2 => ⟨h3, h4, Linked.snoc h5 h1 (by rw [h2, List.getLastD_cons])⟩
theorem chain_linked {l : List ND} (h : Tree l) : ∀ (d : Nat) (n : Int), -1 ≤ n ∧ n < l.length → n + 1 < d → Linked l (-1) (chain l d n) ∧ (chain l d n).getLastD (-1) = n
  | 0, n, hn, hd => by omega
  | d + 1, n, hn, hd => by
    rw [chain]
    split
    · exact ⟨trivial, by show (-1 : Int) = n; omega⟩
    · rename_i c
      obtain ⟨i, rfl⟩ := Int.eq_ofNat_of_zero_le (show 0 ≤ n by omega)
      have hp := h.par i (by omega)
      obtain ⟨h1, h2⟩ := chain_linked h d (par l (i : Int)) ⟨hp.1, by omega⟩ (by omega)
      exact ⟨h1.snoc ⟨by omega, by omega⟩ h2.symm, by simp⟩
theorem find10 (x : RC) (h : Tree x.2.2.1) (c : Nat) (hc : c < x.2.2.1.length) (ms : List MV) (a b : Int) : ∀ (j i : Nat) (nx : Int), i ≤ x.2.2.1.length → x.2.2.1.length < i + j → (i ≤ c ∨ nx = c) →
    l9_10 9000 j x (par x.2.2.1 c) (mvN x.2.2.1 c) nx ms a b x.2.2.1 (x.2.2.1.length : Int) i = some (x, (c : Int), ms, a, b, ())
  | 0, i, nx, h1, h2, _ => by omega
  | j + 1, i, nx, h1, h2, hn => by
    have hl := h.len
    rw [l9_10]
    by_cases hi : i < x.2.2.1.length
    · have e : ((i : Int) + 1) = ((i + 1 : Nat) : Int) := by omega
      rw [bt1 (show (i : Int) < x.2.2.1.length by omega), bt2 ⟨by omega, by omega⟩, ws (by omega), e]
      have et : (((rd ((0, (0, 0, 0, ()), (⟨#[]⟩ : ByteArray), ()) : ND) x.2.2.1 (i : Int)).2.1.1 == (mvN x.2.2.1 c).1) && (((rd ((0, (0, 0, 0, ()), (⟨#[]⟩ : ByteArray), ()) : ND) x.2.2.1 (i : Int)).2.1.2.1 == (mvN x.2.2.1 c).2.1) && (((rd ((0, (0, 0, 0, ()), (⟨#[]⟩ : ByteArray), ()) : ND) x.2.2.1 (i : Int)).2.1.2.2.1 == (mvN x.2.2.1 c).2.2.1) && true))) = decide (mvN x.2.2.1 i = mvN x.2.2.1 c) := mv_testR (mvN x.2.2.1 i) (mvN x.2.2.1 c)
      rw [et, show (rd ((0, (0, 0, 0, ()), (⟨#[]⟩ : ByteArray), ()) : ND) x.2.2.1 (i : Int)).1 = par x.2.2.1 i from rfl]
      by_cases hic : i = c
      · subst hic
        rw [be1 rfl, bt1 rfl]
        exact find10 x h i hc ms a b j (i + 1) (i : Int) (by omega) (by omega) (.inr rfl)
      · have hno : ¬ (par x.2.2.1 i = par x.2.2.1 c ∧ mvN x.2.2.1 i = mvN x.2.2.1 c) := by
          rcases Nat.lt_or_gt_of_ne hic with h3 | h3
          · exact h.one i c h3 hc
          · exact fun h4 => h.one c i h3 hi ⟨h4.1.symm, h4.2.symm⟩
        have go := find10 x h c hc ms a b j (i + 1) nx (by omega) (by omega) (by omega)
        by_cases hp : par x.2.2.1 i = par x.2.2.1 c
        · rw [be1 hp, bf1 (fun hm => hno ⟨hp, hm⟩)]
          exact go
        · rw [bn1 hp]
          exact go
    · rw [bf1 (show ¬ (i : Int) < x.2.2.1.length by omega)]
      rcases hn with hn | hn
      · omega
      · rw [hn]
end Go.Proofs.Ytgglflagbbfalaa.G
