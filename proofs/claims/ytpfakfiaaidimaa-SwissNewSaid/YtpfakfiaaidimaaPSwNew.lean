/- SwissNew: nobody meets an opponent again, or has a second bye, and everybody is paired. -/
import Derived.Test.YtpfakfiaaidimaaTSw4
namespace Go.Proofs.Ytpfakfiaaidimaa.G
open Go.VM Go.Proofs
theorem swisses_eq : f7 9000 = some (true, ()) := by kernel_rfl
section
variable {l : List PL}
/-- The players of a game. -/
theorem col_cases (l : List PL) (i j : Nat) : (col l i j = ((i : Int), (j : Int), ()) ∨ col l i j = ((j : Int), (i : Int), ())) := by
  unfold col
  split
  · exact .inr rfl
  · exact .inl rfl
theorem opp11 (o : Int) (bz : List Int) (p : GA) (g : List GA) (n k : Int) (os : List Int) (ho : os.length ≤ 20) (hno : p.2.1 ∉ os) : ∀ (j i : Nat), i ≤ os.length → os.length < i + j → l3_11 9000 j l o bz p g n k os os.length i = some (.inl (l, o, bz, p, g, n, k, ()))
  | 0, i, h, h' => by omega
  | j + 1, i, h, h' => by
    rw [l3_11]
    by_cases hi : i < os.length
    · rw [bt1 (show (i : Int) < (os.length : Int) by omega), bt2 ⟨by omega, by omega⟩, bn1 (fun e : rd (0 : Int) os (i : Int) = p.2.1 => hno (by have := rd_mem 0 os i hi; rw [e] at this; exact this)), w1 hi (by omega)]
      exact opp11 o bz p g n k os ho hno j (i + 1) (by omega) (by omega)
    · rw [bf1 (show ¬ (i : Int) < (os.length : Int) by omega)]
/-- How often players have had a game, where the pairs of those below i are counted. -/
def BZ (l : List PL) (v : List Int) (bz : List Int) (i : Nat) : Prop := bz.length = l.length ∧ ∀ a, a < l.length → gv bz a = if 0 ≤ gv v a ∧ (a < i ∨ gv v a < i) then 1 else 0
theorem drop_cons {α : Type} (d : α) {g : List α} {k : Nat} {x : α} {r : List α} (h : g.drop k = x :: r) : k < g.length ∧ rd d g (k : Int) = x ∧ g.drop (k + 1) = r := by
  have hk : k < g.length := by
    by_cases h2 : k < g.length
    · exact h2
    · rw [List.drop_eq_nil_of_le (by omega)] at h; cases h
  rw [drop_rd d g k hk] at h
  simp only [List.cons.injEq] at h
  exact ⟨hk, h.1, h.2⟩
theorem gs_len (v : List Int) : ∀ (r i : Nat), (gs l v r i).length ≤ r
  | 0, _ => Nat.le_refl _
  | r + 1, i => by
    rw [gs]
    have := gs_len v r (i + 1)
    split
    · simp; omega
    · omega
theorem new8 (hl : SwOK l) {v : List Int} (hv : Full l v) (o : Int) (g : List GA) (hg : g.length ≤ 8) : ∀ (r i k j : Nat) (bz : List Int), i + r = l.length → g.drop k = gs l v r i → k ≤ g.length → r < j → BZ l v bz i →
    ∃ bz', l3_8 9000 j l o bz g g.length k = some (.inl (l, o, bz', ())) ∧ BZ l v bz' l.length
  | r, i, k, 0, bz, _, _, _, h, _ => by omega
  | 0, i, k, j + 1, bz, hi, hd, hk, _, hb => by
    have : k = g.length := by
      have h2 : (g.drop k).length = 0 := by rw [hd]; rfl
      rw [List.length_drop] at h2
      omega
    subst this
    rw [l3_8, bf1 (by omega)]
    have : i = l.length := by omega
    subst this
    exact ⟨bz, rfl, hb⟩
  | r + 1, i, k, j + 1, bz, hi, hd, hk, hj, hb => by
    have hn := hl.n8
    have hil : i < l.length := by omega
    rw [gs] at hd
    by_cases e : (i : Int) < gv v i
    rotate_left
    · rw [if_neg e] at hd
      refine new8 hl hv o g hg r (i + 1) k (j + 1) bz (by omega) hd hk (by omega) ⟨hb.1, fun a ha => ?_⟩
      rw [hb.2 a ha]
      by_cases h0 : 0 ≤ gv v a
      · obtain ⟨c, hc, h1, h2, h3, _⟩ := hv.pos ha h0
        by_cases hai : a = i
        · subst hai
          rw [if_pos ⟨h0, by omega⟩, if_pos ⟨h0, by omega⟩]
        · by_cases hci : c = i
          · subst hci
            rw [if_pos ⟨h0, by omega⟩, if_pos ⟨h0, by omega⟩]
          · by_cases h4 : a < i ∨ gv v a < i
            · rw [if_pos ⟨h0, h4⟩, if_pos ⟨h0, by omega⟩]
            · rw [if_neg (fun h => h4 h.2), if_neg (fun h => by have := h.2; omega)]
      · rw [if_neg (fun h => h0 h.1), if_neg (fun h => h0 h.1)]
    · rw [if_pos e] at hd
      obtain ⟨c, hc, h1, h2, h3, h4⟩ := hv.pos hil (by omega)
      rw [h1, Int.toNat_natCast] at hd
      obtain ⟨hkl, hr, hd2⟩ := drop_cons ((0, 0, ()) : GA) hd
      have hic : i < c := by omega
      have hcm : ¬ met l c i := fun h => h4 ((hl.met hil hc).2 h)
      -- both players, in either order
      have both : ∀ x y : Nat, x < l.length → y < l.length → x ≠ y → ((x = i ∧ y = c) ∨ (x = c ∧ y = i)) → ¬ met l x y → col l i c = ((x : Int), (y : Int), ()) →
          ∃ bz', l3_8 9000 (j + 1) l o bz g g.length k = some (.inl (l, o, bz', ())) ∧ BZ l v bz' l.length := by
        intro x y hx hy hxy hor hm hcol
        rw [l3_8, bt1 (by omega), bt2 ⟨by omega, by omega⟩, hr, hcol]
        dsimp only
        rw [bt2 ⟨by omega, by omega⟩]
        have h11 := opp11 (l := l) o bz ((x : Int), (y : Int), ()) g g.length k (opp l x) (hl.pl x hx).2.2.1 hm 9000 0 (by omega) (by have := (hl.pl x hx).2.2.1; omega)
        rw [show ((0 : Nat) : Int) = 0 from rfl] at h11
        unfold opp at h11
        rw [h11]
        simp only [Option.bind_some, Sum.elim_inl, Int.toNat_natCast]
        have hbl := hb.1
        have b1 : gv bz x = 0 := by
          rw [hb.2 x hx, if_neg]
          intro h
          rcases hor with ⟨rfl, rfl⟩ | ⟨rfl, rfl⟩ <;> omega
        have b2 : gv bz y = 0 := by
          rw [hb.2 y hy, if_neg]
          intro h
          rcases hor with ⟨rfl, rfl⟩ | ⟨rfl, rfl⟩ <;> omega
        have s1 : w64 (rd (0 : Int) bz (x : Int) + 1) = 1 := by
          rw [show rd (0 : Int) bz (x : Int) = 0 from b1]; decide
        have s2 : w64 (rd (0 : Int) (bz.set x 1) (y : Int) + 1) = 1 := by
          rw [show rd (0 : Int) (bz.set x 1) (y : Int) = 0 from (gv_set bz x 1 (by omega) y).trans (by rw [if_neg (fun h => hxy h.symm)]; exact b2)]; decide
        rw [bt2 ⟨by omega, by omega⟩, bt2 ⟨by omega, by omega⟩, s1, bt2 ⟨by omega, by rw [List.length_set]; omega⟩, bt2 ⟨by omega, by rw [List.length_set]; omega⟩, s2, w1 (i := k) (n := 9) (by omega) (by omega)]
        refine new8 hl hv o g hg r (i + 1) (k + 1) j _ (by omega) hd2 (by omega) (by omega) ⟨by simp [hbl], fun a ha => ?_⟩
        rw [gv_set _ _ _ (by simp; omega), gv_set _ _ _ (by omega)]
        by_cases a1 : a = y
        · subst a1
          rw [if_pos rfl, if_pos]
          rcases hor with ⟨rfl, rfl⟩ | ⟨rfl, rfl⟩ <;> omega
        · rw [if_neg a1]
          by_cases a2 : a = x
          · subst a2
            rw [if_pos rfl, if_pos]
            rcases hor with ⟨rfl, rfl⟩ | ⟨rfl, rfl⟩ <;> omega
          · rw [if_neg a2, hb.2 a ha]
            have hai : a ≠ i := by rcases hor with ⟨rfl, rfl⟩ | ⟨rfl, rfl⟩ <;> assumption
            have hac : a ≠ c := by rcases hor with ⟨rfl, rfl⟩ | ⟨rfl, rfl⟩ <;> assumption
            by_cases h0 : 0 ≤ gv v a
            · obtain ⟨q, hq, q1, q2, q3, _⟩ := hv.pos ha h0
              have hqi : q ≠ i := by rintro rfl; omega
              by_cases h5 : a < i ∨ gv v a < i
              · rw [if_pos ⟨h0, h5⟩, if_pos ⟨h0, by omega⟩]
              · rw [if_neg (fun h => h5 h.2), if_neg (fun h => by have := h.2; omega)]
            · rw [if_neg (fun h => h0 h.1), if_neg (fun h => h0 h.1)]
      rcases col_cases l i c with hcol | hcol
      · exact both i c hil hc (by omega) (.inl ⟨rfl, rfl⟩) h4 hcol
      · exact both c i hc hil (by omega) (.inr ⟨rfl, rfl⟩) hcm hcol
theorem new22 (o : Int) (bz : List Int) (hn : bz.length ≤ 8) (h1 : ∀ a, a < bz.length → gv bz a = 1) : ∀ (j i : Nat), i ≤ bz.length → bz.length < i + j → l3_22 9000 j l o bz bz.length i = some (.inl (l, o, ()))
  | 0, i, h, h' => by omega
  | j + 1, i, h, h' => by
    rw [l3_22]
    by_cases hi : i < bz.length
    · rw [bt1 (show (i : Int) < (bz.length : Int) by omega), bt2 ⟨by omega, by omega⟩, beq1 (show rd (0 : Int) bz (i : Int) = 1 from h1 i hi), w1 hi (by omega)]
      exact new22 o bz hn h1 j (i + 1) (by omega) (by omega)
    · rw [bf1 (show ¬ (i : Int) < (bz.length : Int) by omega)]
end
/-- **SwissNew**. -/
theorem new_pure (l : List PL) : f3 9000 l = some (true, ()) := by
  unfold f3
  rw [swisses_eq]
  simp only [Option.bind_some, Bool.not_true, cond_false]
  obtain ⟨g, n, o, e, hp, h⟩ := pair_ok' l
  rw [hp]
  simp only [Option.bind_some]
  rcases h with ⟨he, rfl, _⟩ | ⟨rfl, hl, v, hbest, hg, ho⟩
  · rw [bne1 he]
    rfl
  rw [beq1 rfl]
  have hn := hl.n8
  have hn2 := hl.n2
  have hv := hbest.full
  have hb1 : (decide (0 ≤ (l.length : Int)) && (decide ((l.length : Int) ≤ (l.length : Int)) && decide (((8 : Nat) : Int) * (l.length : Int) ≤ 281474976710656)) && decide ((l.length : Int) ≤ 9223372036854775807)) = true := by
    rw [decide_eq_true (show (0 : Int) ≤ (l.length : Int) by omega), decide_eq_true (show (l.length : Int) ≤ (l.length : Int) by omega), decide_eq_true (show ((8 : Nat) : Int) * (l.length : Int) ≤ 281474976710656 by omega), decide_eq_true (show (l.length : Int) ≤ 9223372036854775807 by omega)]
    rfl
  rw [hb1]
  simp only [cond_true, Int.toNat_natCast]
  have hgl := gs_len (l := l) v l.length 0
  obtain ⟨bz, h8, hbz, hz⟩ := new8 hl hv o g (by rw [hg]; omega) l.length 0 0 9000 (List.replicate l.length (0 : Int)) (by omega) (by rw [hg]; rfl) (by omega) (by omega) ⟨by simp, fun a ha => by
    rw [if_neg (fun h => by omega)]
    unfold gv rd
    simp [List.getD_eq_getElem?_getD, List.getElem?_replicate, ha]⟩
  rw [show ((0 : Nat) : Int) = 0 from rfl] at h8
  rw [h8]
  simp only [Option.bind_some, Sum.elim_inl]
  have ht : (l.length : Int).tmod 2 = (l.length : Int) % 2 := Int.tmod_eq_emod_of_nonneg (by omega)
  have hz1 : ∀ a, a < l.length → 0 ≤ gv v a → gv bz a = 1 := fun a ha h0 => by rw [hz a ha, if_pos ⟨h0, .inl ha⟩]
  rcases off_eq hv with ⟨h1, h2⟩ | ⟨a, ha, h1, h2, h3⟩
  · rw [h1] at ho
    subst ho
    rw [bf1 (by decide)]
    have h22 := new22 (l := l) (-1) bz (by omega) (fun a ha => hz1 a (by omega) (h2 a (by omega))) 9000 0 (by omega) (by omega)
    rw [show ((0 : Nat) : Int) = 0 from rfl] at h22
    rw [h22]
    simp only [Option.bind_some, Sum.elim_inl]
    have := par_even hv hbest.par h2
    rw [bt1 (by decide), be1 (by omega)]
  · rw [h2] at ho
    subst ho
    have hza : gv bz a = 0 := by rw [hz a ha, if_neg (fun h => by omega)]
    have s1 : w64 (rd (0 : Int) bz (a : Int) + 1) = 1 := by rw [show rd (0 : Int) bz (a : Int) = 0 from hza]; decide
    rw [bt1 (by omega), bt2 ⟨by omega, by omega⟩, bt2 ⟨by omega, by omega⟩, s1, Int.toNat_natCast]
    have h22 := new22 (l := l) a (bz.set a 1) (by simp; omega) (fun b hb => by
      rw [gv_set _ _ _ (by omega)]
      split
      · rfl
      · rename_i hne
        simp at hb
        exact hz1 b (by omega) (h3 b (by omega) hne)) 9000 0 (by omega) (by simp; omega)
    rw [show ((0 : Nat) : Int) = 0 from rfl] at h22
    rw [h22]
    simp only [Option.bind_some, Sum.elim_inl]
    rcases hv.1.ok a ha with e | ⟨e, e2, e3⟩ | ⟨j, hj, e, _⟩
    · omega
    · rw [bf1 (by omega), bt1 (by omega), be1 (by omega), bt2 ⟨by omega, by omega⟩, show (rd D0 l (a : Int)).2.2.2.1 = false from e2]
      rfl
    · omega
theorem new_x (x : List PL × Unit) : f3 9000 x.1 = some (true, ()) := new_pure x.1
end Go.Proofs.Ytpfakfiaaidimaa.G
