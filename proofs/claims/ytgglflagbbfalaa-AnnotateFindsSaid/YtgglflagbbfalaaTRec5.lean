/- Records: moves that are taken back. -/
import Derived.Test.YtgglflagbbfalaaTRec4
import Derived.Test.YtgglflagbbfalaaTRun
namespace Go.Proofs.Ytgglflagbbfalaa.G
open Go.VM Go.Proofs
section
variable {r : RU}
/-- The last move is taken back. -/
theorem back_eq (hz : Rz r) {ms : List MV} {m : MV} {g : GM} (h : Plays (g0 r) (ms ++ [m]) g) (hl : ms.length + 1 ≤ 400) : ∃ g', f16 9000 g = some (0, g', ()) ∧ Plays (g0 r) ms g' := by
  obtain ⟨g1, h1, g2, h2, h3⟩ := Plays.cut h
  have h3 : g2 = g := h3
  subst h3
  obtain ⟨k1, k2⟩ := Plays.ok hz h1 (g0_ok r) (by show 0 + ms.length ≤ 400; omega)
  have k2 : g1.2.2.1 = ms := by rw [k2]; rfl
  rcases play_tot hz k1 (by rw [k2]; omega) m with ⟨e, he, hp⟩ | ⟨q, hp, hok, _⟩
  · rw [h2] at hp
    simp only [Option.some.injEq, Prod.mk.injEq] at hp
    exact absurd hp.1.symm he
  · rw [h2] at hp
    simp only [Option.some.injEq, Prod.mk.injEq, true_and, and_true] at hp
    subst hp
    have hlen := k1.len
    rw [k2] at hlen
    refine ⟨g1, ?_, h1⟩
    have hr : g1.1 = r := k1.1
    unfold f16
    dsimp only
    rw [bn1 (by simp; omega), ws (by simp; omega), ws (by simp; omega), bt2 ⟨by simp, by simp; omega⟩, bt2 ⟨by simp, by simp; omega⟩, first_eq, first_eq]
    simp only [List.length_append, List.length_singleton]
    rw [show (((g1.2.1.length + 1 : Nat) : Int) - 1).toNat = g1.2.1.length by omega, show (((g1.2.2.1.length + 1 : Nat) : Int) - 1).toNat = g1.2.2.1.length by omega, List.take_left, List.take_left, ← hr]
theorem pop14 (hz : Rz r) (x : RC) (a : Int) (n : ND) (l : List ND) (b c : Int) : ∀ (j : Nat) (g : GM) (path : List Int), Plays (g0 r) (path.map (mvN x.2.2.1)) g → path.length ≤ 399 → path.length < j →
    ∃ g' pre suf, path = pre ++ suf ∧ Plays (g0 r) (pre.map (mvN x.2.2.1)) g' ∧ (pre = [] ∨ pre.getLastD (-1) = n.1) ∧ l7_14 9000 j x g path a n l b c = some (x, g', pre, a, n, l, b, c, ())
  | 0, g, path, _, _, hj => by omega
  | j + 1, g, path, hp, hl, hj => by
    rw [l7_14]
    by_cases he : path = []
    · subst he
      rw [bf1 (by simp)]
      exact ⟨g, [], [], rfl, hp, .inl rfl, rfl⟩
    · obtain ⟨ini, lst, rfl⟩ : ∃ ini lst, path = ini ++ [lst] := ⟨path.dropLast, path.getLast he, (List.dropLast_concat_getLast he).symm⟩
      have hlen : (ini ++ [lst]).length = ini.length + 1 := by simp
      have e1 : w64 (((ini ++ [lst]).length : Int) - 1) = (ini.length : Int) := by rw [ws (by omega)]; omega
      have hrd : rd (0 : Int) (ini ++ [lst]) (ini.length : Int) = lst := by simp [rd, List.getD_eq_getElem?_getD]
      rw [bt1 (by omega), e1, bt2 ⟨by omega, by omega⟩, hrd]
      by_cases hq : lst = n.1
      · rw [beq1 hq]
        exact ⟨g, ini ++ [lst], [], by simp, hp, .inr (by simp [hq]), rfl⟩
      · rw [bne1 hq, bt2 ⟨by omega, by omega⟩]
        rw [List.map_append] at hp
        obtain ⟨g', hb, hp'⟩ := back_eq hz (ms := ini.map (mvN x.2.2.1)) (m := mvN x.2.2.1 lst) hp (by rw [List.length_map]; omega)
        rw [hb]
        simp only [Option.bind_some]
        rw [first_eq, Int.toNat_natCast, List.take_left]
        obtain ⟨g2, pre, suf, h1, h2, h3, h4⟩ := pop14 hz x a n l b c j g' ini hp' (by omega) (by omega)
        exact ⟨g2, pre, suf ++ [lst], by rw [h1, List.append_assoc], h2, h3, h4⟩
theorem sib20 (x : RC) (g : GM) (path : List Int) (a : Int) (n : ND) (l : List ND) (b c : Int) (s : List ND) (hs : s.length ≤ 200) : ∀ (j i : Nat), i ≤ s.length → s.length < i + j →
    Lp (x, g, path, a, n, l, b, c, ()) (∀ k : Nat, i ≤ k → k < s.length → ¬ ((rd N0 s (k : Int)).1 = n.1 ∧ (rd N0 s (k : Int)).2.1 = n.2.1)) (l7_20 9000 j x g path a n l b c s (s.length : Int) i)
  | 0, i, h, h' => by omega
  | j + 1, i, h, h' => by
    rw [l7_20]
    by_cases hi : i < s.length
    · have e : ((i : Int) + 1) = ((i + 1 : Nat) : Int) := by omega
      rw [bt1 (show (i : Int) < s.length by omega), bt2 ⟨by omega, by omega⟩, ws (by omega), e]
      rw [show rd ((0, (0, 0, 0, ()), (⟨#[]⟩ : ByteArray), ()) : ND) s (i : Int) = rd N0 s (i : Int) from rfl, mv_testR]
      have go := sib20 x g path a n l b c s hs j (i + 1) (by omega) (by omega)
      by_cases h1 : (rd N0 s (i : Int)).1 = n.1
      · rw [be1 h1]
        by_cases h2 : (rd N0 s (i : Int)).2.1 = n.2.1
        · rw [bt1 h2]; exact Lp.bad (by decide)
        · rw [bf1 h2]; exact go.mono (all_step (fun h => h2 h.2))
      · rw [bn1 h1]
        exact go.mono (all_step (fun h => h1 h.1))
    · rw [bf1 (show ¬ (i : Int) < s.length by omega)]
      exact .inl ⟨rfl, fun k h1 h2 => by omega⟩
end
end Go.Proofs.Ytgglflagbbfalaa.G
