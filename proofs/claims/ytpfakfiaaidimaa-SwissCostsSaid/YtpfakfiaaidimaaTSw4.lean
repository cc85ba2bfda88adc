/- Swiss pairings: what Pair answers. -/
import Derived.Test.YtpfakfiaaidimaaTSw3
namespace Go.Proofs.Ytpfakfiaaidimaa.G
open Go.VM Go.Proofs
abbrev GA := Int × Int × Unit
/-- Who moves first. -/
noncomputable def col (l : List PL) (i j : Nat) : GA := if co l j < co l i then ((j : Int), (i : Int), ()) else ((i : Int), (j : Int), ())
/-- The games of a pairing, from a player on. -/
noncomputable def gs (l : List PL) (v : List Int) : Nat → Nat → List GA
  | 0, _ => []
  | r + 1, i => if (i : Int) < gv v i then col l i (gv v i).toNat :: gs l v r (i + 1) else gs l v r (i + 1)
noncomputable def ofL (v : List Int) : Nat → Nat → Int → Int
  | 0, _, o => o
  | r + 1, i, o => ofL v r (i + 1) (if gv v i < 0 then (i : Int) else o)
theorem ofL_eq (v : List Int) : ∀ (r i : Nat) (o : Int), (ofL v r i o = o ∧ ∀ a, i ≤ a → a < i + r → ¬ gv v a < 0) ∨ ∃ a, i ≤ a ∧ a < i + r ∧ gv v a < 0 ∧ ofL v r i o = (a : Int)
  | 0, i, o => .inl ⟨rfl, fun a h1 h2 => by omega⟩
  | r + 1, i, o => by
    rw [ofL]
    rcases ofL_eq v r (i + 1) (if gv v i < 0 then (i : Int) else o) with ⟨h1, h2⟩ | ⟨a, h1, h2, h3, h4⟩
    · by_cases e : gv v i < 0
      · rw [if_pos e] at h1 ⊢
        exact .inr ⟨i, by omega, by omega, e, h1⟩
      · rw [if_neg e] at h1 ⊢
        refine .inl ⟨h1, fun a ha hb => ?_⟩
        by_cases e2 : a = i
        · subst e2; exact e
        · exact h2 a (by omega) (by omega)
    · exact .inr ⟨a, by omega, by omega, h3, h4⟩
theorem colour_eq (l : List PL) {i j : Nat} (hi : i < l.length) (hj : j < l.length) : f16 9000 l i j = some (col l i j, ()) := by
  unfold f16 col
  rw [bt2 ⟨by omega, by omega⟩, bt2 ⟨by omega, by omega⟩]
  by_cases h : co l j < co l i
  · rw [bt1 (show (rd D0 l (j : Int)).2.2.1 < (rd D0 l (i : Int)).2.2.1 from h), if_pos h]
  · rw [bf1 (show ¬ (rd D0 l (j : Int)).2.2.1 < (rd D0 l (i : Int)).2.2.1 from h), if_neg h]
theorem pair6 (l : List PL) (hn : l.length ≤ 8) (z : List (Unit × Int) × Int × Unit) : ∀ (j i : Nat) (p : List Int), p.length = l.length → i ≤ l.length → l.length < i + j → (∀ a, a < i → gv p a = -2) →
    ∃ p', p'.length = l.length ∧ (∀ a, a < l.length → gv p' a = -2) ∧ l8_6 9000 j l (l, p, z) l.length i = some (l, (l, p', z), ())
  | 0, i, p, hp, h, h', _ => by omega
  | j + 1, i, p, hp, h, h', ha => by
    rw [l8_6]
    dsimp only
    by_cases hi : i < l.length
    · rw [bt1 (show (i : Int) < (l.length : Int) by omega), bt2 ⟨by omega, by omega⟩, w1 hi (by omega), Int.toNat_natCast]
      refine pair6 l hn z j (i + 1) (p.set i (-2)) (by simp [hp]) (by omega) (by omega) (fun a h1 => ?_)
      rw [gv_set _ _ _ (by omega)]
      split
      · rfl
      · exact ha a (by omega)
    · rw [bf1 (show ¬ (i : Int) < (l.length : Int) by omega)]
      exact ⟨p, hp, fun a h1 => ha a (by omega), rfl⟩
theorem rd_bl (b : List (Unit × Int)) (i : Nat) : (rd (((), 0) : Unit × Int) b (i : Int)).2 = gv (bl b) i := by
  unfold gv rd bl
  simp only [Int.toNat_natCast, List.getD_eq_getElem?_getD, List.getElem?_map]
  cases b[i]? <;> rfl
section
variable {l : List PL}
theorem Full.neg {v : List Int} (h : Full l v) {i : Nat} (hi : i < l.length) (hv : gv v i < 0) : gv v i = -1 := by
  rcases h.1.ok i hi with e | ⟨e, _⟩ | ⟨j, hj, e, _⟩
  · exact absurd e (h.2 i hi)
  · exact e
  · omega
theorem Full.pos {v : List Int} (h : Full l v) {i : Nat} (hi : i < l.length) (hv : 0 ≤ gv v i) : ∃ b, b < l.length ∧ gv v i = (b : Int) ∧ b ≠ i ∧ gv v b = (i : Int) ∧ ¬ met l i b := by
  rcases h.1.ok i hi with e | ⟨e, _⟩ | h1
  · omega
  · omega
  · exact h1
theorem pair16 (hl : SwOK l) {b : List (Unit × Int)} (hb : Full l (bl b)) (z : SS) : ∀ (r i j : Nat) (g : List GA) (o : Int), i + r = l.length → r < j → g.length ≤ i →
    l8_16 9000 j l z g o b l.length i = some (z, g ++ gs l (bl b) r i, ofL (bl b) r i o, ())
  | r, i, 0, g, o, h, h', hg => by omega
  | 0, i, j + 1, g, o, h, h', hg => by
    rw [l8_16, bf1 (by omega), gs, ofL, List.append_nil]
  | r + 1, i, j + 1, g, o, h, h', hg => by
    have hn := hl.n8
    have hlen : b.length = l.length := by have := hb.1.len; unfold bl at this; simpa using this
    have hi : i < l.length := by omega
    rw [l8_16, bt1 (by omega), bt2 ⟨by omega, by omega⟩, rd_bl, gs, ofL]
    by_cases e : gv (bl b) i < 0
    · rw [bt1 e, w1 hi (by omega), pair16 hl hb z r (i + 1) j g i (by omega) (by omega) (by omega), if_pos e, if_neg (by omega)]
    · rw [bf1 e, if_neg e]
      by_cases e2 : (i : Int) < gv (bl b) i
      · obtain ⟨c, hc, e3, _⟩ := hb.pos hi (by omega)
        rw [bt1 e2, if_pos e2, e3, colour_eq l hi hc]
        simp only [Option.bind_some, Int.toNat_natCast]
        rw [bt1 (by unfold roomN; simp only [List.length_singleton]; omega), w1 hi (by omega), pair16 hl hb z r (i + 1) j (g ++ [col l i c]) o (by omega) (by omega) (by simp; omega), List.append_assoc]
        rfl
      · rw [bf1 e2, if_neg e2, w1 hi (by omega), pair16 hl hb z r (i + 1) j g o (by omega) (by omega) (by omega)]
end
/-- Such a pairing is the best. -/
structure Best (l : List PL) (v : List Int) (n : Int) : Prop where
  full : Full l v
  par : Par l v
  cost : 2 * n = cst l v
  least : ∀ u, Full l u → cst l v ≤ cst l u
theorem pair_ok' (l : List PL) : ∃ g n o e, f8 9000 l = some (g, n, o, e, ()) ∧ ((e ≠ 0 ∧ g = [] ∧ n = 0) ∨ (e = 0 ∧ SwOK l ∧ ∃ v, Best l v n ∧ g = gs l v l.length 0 ∧ o = ofL v l.length 0 (-1))) := by
  unfold f8
  obtain ⟨e, he, hok⟩ := check_tot l
  rw [he]
  simp only [Option.bind_some]
  by_cases h0 : e = 0
  rotate_left
  · rw [bne1 h0]
    exact ⟨_, _, _, e, rfl, .inl ⟨h0, rfl, rfl⟩⟩
  subst h0
  have hl := hok rfl
  have hn := hl.n8
  have hn2 := hl.n2
  rw [beq1 rfl]
  have hb1 : (decide (0 ≤ (l.length : Int)) && (decide ((l.length : Int) ≤ (l.length : Int)) && decide (((8 : Nat) : Int) * (l.length : Int) ≤ 281474976710656)) && decide ((l.length : Int) ≤ 9223372036854775807)) = true := by
    rw [decide_eq_true (show (0 : Int) ≤ (l.length : Int) by omega), decide_eq_true (show (l.length : Int) ≤ (l.length : Int) by omega), decide_eq_true (show ((8 : Nat) : Int) * (l.length : Int) ≤ 281474976710656 by omega), decide_eq_true (show (l.length : Int) ≤ 9223372036854775807 by omega)]
    rfl
  rw [hb1]
  simp only [cond_true, Int.toNat_natCast, List.length_replicate]
  obtain ⟨p, hp, hp2, h6⟩ := pair6 l hn ([], 0, ()) 9000 0 (List.replicate l.length (0 : Int)) (by simp) (by omega) (by omega) (fun a h => by omega)
  rw [show ((0 : Nat) : Int) = 0 from rfl] at h6
  rw [h6]
  simp only [Option.bind_some]
  have hpw : PW l p := ⟨hp, fun i hi => .inl (hp2 i hi), fun i j hi hj h1 _ => by rw [hp2 i hi] at h1; omega⟩
  have hcst : cst l p = 0 := by
    unfold cst
    rw [S_congr (g := fun _ => 0) (fun i hi => by unfold term; rw [hp2 i hi]; rfl), S_zero]
  have hc2 : cn l p (-2) = l.length := by
    unfold cn
    rw [S_congr (g := fun _ => 1) (fun i hi => by rw [hp2 i hi]; rfl), S_const]
    omega
  have hc1 : cn l p (-1) = 0 := by
    unfold cn
    rw [S_congr (g := fun _ => 0) (fun i hi => by rw [hp2 i hi]; rfl), S_zero]
  obtain ⟨b, w, ht, hB, _, hcov⟩ := try_ok hl 9000 p [] 0 0 hpw (by unfold Par; rw [hc1, hc2]; omega) (.inl rfl) (by rw [hcst]; rfl) (by rw [hc2]; omega)
  unfold f15
  rw [ht]
  simp only [Option.bind_some]
  cases b with
  | nil => exact ⟨_, _, _, 8, rfl, .inl ⟨by decide, rfl, rfl⟩⟩
  | cons x r =>
    show ∃ g n o e, (l8_16 9000 9000 l (l, p, x :: r, w, ()) [] (-1) (x :: r) ((x :: r).length : Int) 0).bind _ = some (g, n, o, e, ()) ∧ _
    rcases hB with h | ⟨hf, hw, hpar⟩
    · cases h
    have hlen : (x :: r).length = l.length := by have := hf.1.len; unfold bl at this; simpa using this
    have := pair16 hl hf (l, p, x :: r, w, ()) l.length 0 9000 [] (-1) (by omega) (by omega) (by simp)
    rw [show ((0 : Nat) : Int) = 0 from rfl] at this
    rw [hlen, this]
    simp only [Option.bind_some, List.nil_append]
    refine ⟨_, _, _, 0, rfl, .inr ⟨rfl, hl, bl (x :: r), ⟨hf, hpar, hw, fun u hu => ?_⟩, rfl, rfl⟩⟩
    have := (hcov u hu (fun i hi h => absurd (hp2 i hi) h)).2
    omega
theorem off_eq {l : List PL} {v : List Int} (h : Full l v) : (ofL v l.length 0 (-1) = -1 ∧ ∀ a, a < l.length → 0 ≤ gv v a) ∨ ∃ a, a < l.length ∧ gv v a = -1 ∧ ofL v l.length 0 (-1) = (a : Int) ∧ ∀ b, b < l.length → b ≠ a → 0 ≤ gv v b := by
  rcases ofL_eq v l.length 0 (-1) with ⟨h1, h2⟩ | ⟨a, _, h2, h3, h4⟩
  · exact .inl ⟨h1, fun a ha => by have := h2 a (Nat.zero_le _) (by omega); omega⟩
  · have ha : a < l.length := by omega
    refine .inr ⟨a, ha, h.neg ha h3, h4, fun b hb hne => ?_⟩
    by_cases e : gv v b < 0
    · exact absurd (h.1.one b a hb ha (h.neg hb e) (h.neg ha h3)) hne
    · omega
/-- A pairing without a bye: the number of players is even; with a bye, odd. -/
theorem par_even {l : List PL} {v : List Int} (h : Full l v) (hp : Par l v) (hn : ∀ a, a < l.length → 0 ≤ gv v a) : l.length % 2 = 0 := by
  have c2 : cn l v (-2) = 0 := by
    unfold cn
    rw [S_congr (g := fun _ => 0) (fun i hi => if_neg (by have := hn i hi; omega)), S_zero]
  have c1 : cn l v (-1) = 0 := by
    unfold cn
    rw [S_congr (g := fun _ => 0) (fun i hi => if_neg (by have := hn i hi; omega)), S_zero]
  unfold Par at hp
  rw [c1, c2] at hp
  omega
end Go.Proofs.Ytpfakfiaaidimaa.G
