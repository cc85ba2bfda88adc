/- The moves of a position and their texts. -/
import Derived.Test.YtphgopfhobockaaTInj
namespace Go.Proofs.Ytphgopfhobockaa.G
open Go.VM Go.Proofs
abbrev M00 : MV := (0, 0, 0, ())
abbrev B0 : ByteArray := ⟨#[]⟩
section
variable {r : RU} {p : PO}
/-- The text of a move. -/
noncomputable def txt (r : RU) (p : PO) (g : List MV) (m : MV) : ByteArray := ((f43 9000 r p g m).getD (B0, ())).1
theorem txt_eq (hp : POK r p) (g : List MV) (hg : ∀ x ∈ g, MvOK r p x) (hgl : g.length ≤ 8000) (m : MV) (hm : m ∈ g) : f43 9000 r p g m = some (txt r p g m, ()) := by
  unfold txt
  by_cases h0 : m.1 < 0
  · obtain ⟨b, hb, _⟩ := text_drop hp g m (hg m hm) h0
    rw [hb]; rfl
  · obtain ⟨b, _, _, _, hb, _⟩ := text_move hp g hg hgl m (hg m hm) h0
    rw [hb]; rfl
/-- What is said of a position's moves. -/
structure Moves (r : RU) (p : PO) (g : List MV) : Prop where
  hp : POK r p
  hc : f13 9000 r p = some (0, ())
  gen : f42 9000 r p = some (g, ())
  len : g.length ≤ 8000
  ok : ∀ x ∈ g, MvOK r p x
  strict : Strict g
theorem moves_of (hp : POK r p) (hc : f13 9000 r p = some (0, ())) : ∃ g, Moves r p g := by
  obtain ⟨g, h1, h2, h3, h4⟩ := gen_strict hp
  exact ⟨g, hp, hc, h1, h2, h3, h4⟩
variable {g : List MV}
theorem Moves.ne (h : Moves r p g) {i k : Nat} (hi : i < g.length) (hk : k < g.length) (hik : i ≠ k) : rd M0 g (i : Int) ≠ rd M0 g (k : Int) := by
  have key : ∀ i k : Nat, i < k → k < g.length → rd M0 g (i : Int) ≠ rd M0 g (k : Int) := by
    intro i k h1 h2 e
    have := List.pairwise_iff_getElem.1 h.strict i k (by omega) h2 h1
    have e1 : g[i] = rd M0 g (i : Int) := by simp [rd, List.getD_eq_getElem?_getD, List.getElem?_eq_getElem (show i < g.length by omega)]
    have e2 : g[k] = rd M0 g (k : Int) := by simp [rd, List.getD_eq_getElem?_getD, List.getElem?_eq_getElem h2]
    rw [e1, e2, e] at this
    exact mvLt_irr _ this
  rcases Nat.lt_or_gt_of_ne hik with h1 | h1
  · exact key i k h1 hk
  · exact fun e => key k i h1 hi e.symm
theorem Moves.txt (h : Moves r p g) {i : Nat} (hi : i < g.length) : f43 9000 r p g (rd M0 g (i : Int)) = some (G.txt r p g (rd M0 g (i : Int)), ()) := txt_eq h.hp g h.ok h.len _ (rd_mem M0 g i hi)
theorem Moves.inj (h : Moves r p g) {i k : Nat} (hi : i < g.length) (hk : k < g.length) (hik : i ≠ k) : (G.txt r p g (rd M0 g (i : Int))).data.toList ≠ (G.txt r p g (rd M0 g (k : Int))).data.toList :=
  txt_inj h.hp g h.ok h.len _ _ (rd_mem M0 g i hi) (rd_mem M0 g k hk) (h.ne hi hk hik) (h.txt hi) (h.txt hk)
theorem text6 (h : Moves r p g) (i0 : Nat) (hi0 : i0 < g.length) : ∀ (j i : Nat), i ≤ i0 → g.length < i + j → l16_6 9000 j r p (rd M0 g (i0 : Int)) g g (g.length : Int) i = some (.inr (txt r p g (rd M0 g (i0 : Int)), 0, ()))
  | 0, i, h1, h2 => by omega
  | j + 1, i, h1, h2 => by
    have hl := h.len
    have hi : i < g.length := by omega
    have e : ((i : Int) + 1) = ((i + 1 : Nat) : Int) := by omega
    rw [l16_6, bt1 (show (i : Int) < g.length by omega), bt2 ⟨by omega, by omega⟩, show rd ((0, 0, 0, ()) : MV) g (i : Int) = rd M0 g (i : Int) from rfl, mv_test3, ws (by omega), e]
    by_cases hii : i = i0
    · subst hii
      rw [bt1 rfl, h.txt hi]
      rfl
    · rw [bf1 (h.ne hi hi0 hii)]
      exact text6 h i0 hi0 j (i + 1) (by omega) (by omega)
theorem text_eq (h : Moves r p g) (i0 : Nat) (hi0 : i0 < g.length) : f16 9000 r p (rd M0 g (i0 : Int)) = some (txt r p g (rd M0 g (i0 : Int)), 0, ()) := by
  unfold f16
  rw [h.hc]
  simp only [Option.bind_some]
  have hl := h.len
  have := text6 h i0 hi0 9000 0 (by omega) (by omega)
  rw [show ((0 : Nat) : Int) = 0 from rfl] at this
  rw [beq1 rfl, h.gen]
  simp only [Option.bind_some]
  rw [this]
  rfl
end
/-! ### A game of three by three -/
abbrev TIC : RU := ((⟨#[84, 73, 67]⟩ : ByteArray), 3, 3, [(83, 5, 0, [], ())], [0, 0, 0, 0, 0, 0, 0, 0, 0], false, false, [(0, 0, 3, false, ())], 2, 0, 0, ())
abbrev Q0 : PO := ([0, 0, 0, 0, 0, 0, 0, 0, 0], ([5], [5], ()), 0, 0, ())
abbrev D9 : List MV := [(-1, 0, 0, ()), (-1, 1, 0, ()), (-1, 2, 0, ()), (-1, 3, 0, ()), (-1, 4, 0, ()), (-1, 5, 0, ()), (-1, 6, 0, ()), (-1, 7, 0, ()), (-1, 8, 0, ())]
theorem tic_eq : f39 9000 = some (TIC, ()) := by kernel_rfl
theorem begin_tic : f38 9000 TIC = some (Q0, 0, ()) := by kernel_rfl
theorem check_tic : f13 9000 TIC Q0 = some (0, ()) := by kernel_rfl
theorem gen3_tic : l42_3 9000 9000 TIC Q0 [] [5] 1 0 = some (TIC, Q0, D9, ()) := by kernel_rfl
theorem gen13_tic : l42_13 9000 9000 TIC Q0 D9 [0, 0, 0, 0, 0, 0, 0, 0, 0] 9 0 = some (D9, ()) := by kernel_rfl
theorem cpt_tic : f74 9000 D9 = some (D9, D9, ()) := by kernel_rfl
theorem sort_tic : f72 9000 D9 = some (D9, ()) := by
  unfold f72
  rw [show Nat.ble 5 9000 = true from rfl, Bool.true_and, bt1 (by decide)]
  rw [List.mergeSort_of_pairwise (by decide)]
theorem gen_tic : f42 9000 TIC Q0 = some (D9, ()) := by
  unfold f42
  rw [be1 rfl]
  rw [show l42_3 9000 9000 TIC Q0 [] Q0.2.1.1 (Q0.2.1.1.length : Int) 0 = some (TIC, Q0, D9, ()) from gen3_tic]
  simp only [Option.bind_some]
  rw [show l42_13 9000 9000 TIC Q0 D9 Q0.1 (Q0.1.length : Int) 0 = some (D9, ()) from gen13_tic]
  simp only [Option.bind_some]
  rw [sort_tic]
  simp only [Option.bind_some]
  rw [cpt_tic]
  rfl
theorem writes_eq : f11 9000 = some (true, ()) := by
  have hp : POK TIC Q0 := by
    obtain ⟨e, he, h⟩ := place_tot TIC Q0
    rw [check_tic] at he
    simp only [Option.some.injEq, Prod.mk.injEq, and_true] at he
    exact (h he.symm).1
  obtain ⟨g, hm⟩ := moves_of hp check_tic
  have hg := hm.gen
  rw [gen_tic] at hg
  simp only [Option.some.injEq, Prod.mk.injEq, and_true] at hg
  subst hg
  have ht := text_eq hm 4 (by decide)
  have hx := hm.txt (i := 4) (by decide)
  have e4 : rd M0 D9 ((4 : Nat) : Int) = (-1, 4, 0, ()) := rfl
  rw [e4] at ht hx
  obtain ⟨b, hb, hbd⟩ := text_drop hp D9 (-1, 4, 0, ()) (hm.ok _ (by decide)) (by decide)
  rw [hb] at hx
  simp only [Option.some.injEq, Prod.mk.injEq, and_true] at hx
  unfold f11
  rw [tic_eq]
  simp only [Option.bind_some]
  rw [begin_tic]
  simp only [Option.bind_some]
  rw [show f40 9000 4 = some ((-1, 4, 0, ()), ()) from rfl]
  simp only [Option.bind_some]
  rw [ht]
  simp only [Option.bind_some]
  rw [be1 rfl, be1 rfl, beq_data, ← hx, hbd]
  rfl
end Go.Proofs.Ytphgopfhobockaa.G
