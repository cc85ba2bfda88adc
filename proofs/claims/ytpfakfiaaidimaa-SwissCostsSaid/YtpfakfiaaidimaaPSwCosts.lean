/- SwissCosts: the cost of a pairing is that of its games, and of the bye; exchanging two partners is not cheaper. -/
import Derived.Test.YtpfakfiaaidimaaTSw4
namespace Go.Proofs.Ytpfakfiaaidimaa.G
open Go.VM Go.Proofs
theorem swisses_eq : f7 9000 = some (true, ()) := by kernel_rfl
theorem pair_chk {l : List PL} {g : List GA} {n o : Int} (h : f8 9000 l = some (g, n, o, 0, ())) : f14 9000 l = some (0, ()) := by
  unfold f8 at h
  obtain ⟨e, he, hok⟩ := check_tot l
  rw [he] at h
  simp only [Option.bind_some] at h
  by_cases h0 : e = 0
  · rw [he, h0]
  · rw [bne1 h0] at h
    simp only [Option.some.injEq, Prod.mk.injEq, and_true] at h
    exact absurd h.2.2.2 h0
section
variable {l : List PL}
theorem Cost_eq (hl : SwOK l) (hc : f14 9000 l = some (0, ())) {i j : Nat} (hi : i < l.length) (hj : j < l.length) (hij : i ≠ j) : f9 9000 l i j = some (cc l i j, 0, ()) := by
  unfold f9
  rw [hc]
  simp only [Option.bind_some]
  rw [beq1 rfl, bf1 (by split <;> omega), bf1 (by split <;> omega), bn1 (by omega), cost_eq hl hi hj]
  rfl
theorem col_cases (l : List PL) (i j : Nat) : (col l i j = ((i : Int), (j : Int), ()) ∨ col l i j = ((j : Int), (i : Int), ())) := by
  unfold col
  split
  · exact .inr rfl
  · exact .inl rfl
theorem drop_cons {α : Type} (d : α) {g : List α} {k : Nat} {x : α} {r : List α} (h : g.drop k = x :: r) : k < g.length ∧ rd d g (k : Int) = x ∧ g.drop (k + 1) = r := by
  have hk : k < g.length := by
    by_cases h2 : k < g.length
    · exact h2
    · rw [List.drop_eq_nil_of_le (by omega)] at h; cases h
  rw [drop_rd d g k hk] at h
  simp only [List.cons.injEq] at h
  exact ⟨hk, h.1, h.2⟩
theorem gs_len (v : List Int) : ∀ (r i : Nat), (gs l v r i).length ≤ r
  | 0, _ => Nat.le_refl _
  | r + 1, i => by
    rw [gs]
    have := gs_len v r (i + 1)
    split
    · simp; omega
    · omega
/-- Twice the cost of the games of those below i. -/
noncomputable def dt (l : List PL) (v : List Int) (i a : Nat) : Int := if 0 ≤ gv v a ∧ ((a : Int) < i ∨ gv v a < i) then cc l a (gv v a).toNat else 0
noncomputable def DD (l : List PL) (v : List Int) (i : Nat) : Int := S (dt l v i) l.length
theorem dt_bound (hl : SwOK l) {v : List Int} (hv : Full l v) (i : Nat) {a : Nat} (ha : a < l.length) : 0 ≤ dt l v i a ∧ dt l v i a ≤ 161600 := by
  unfold dt
  split
  · rename_i h
    obtain ⟨c, hc, h1, _⟩ := hv.pos ha h.1
    rw [h1, Int.toNat_natCast]
    exact cc_bound hl ha hc
  · omega
theorem DD_bound (hl : SwOK l) {v : List Int} (hv : Full l v) (i : Nat) : 0 ≤ DD l v i ∧ DD l v i ≤ 1292800 := by
  have := S_bound (f := dt l v i) (n := l.length) 161600 (fun a ha => dt_bound hl hv i ha)
  have hn := hl.n8
  unfold DD
  omega
theorem DD_skip {v : List Int} (hv : Full l v) {i : Nat} (hi : i < l.length) (e : ¬ (i : Int) < gv v i) : DD l v (i + 1) = DD l v i := by
  refine S_congr (fun a ha => ?_)
  unfold dt
  by_cases h0 : 0 ≤ gv v a
  · obtain ⟨c, hc, h1, h2, h3, _⟩ := hv.pos ha h0
    by_cases hai : a = i
    · subst hai
      rw [if_pos ⟨h0, by omega⟩, if_pos ⟨h0, by omega⟩]
    · by_cases hci : c = i
      · subst hci
        rw [if_pos ⟨h0, by omega⟩, if_pos ⟨h0, by omega⟩]
      · by_cases h4 : (a : Int) < i ∨ gv v a < i
        · rw [if_pos ⟨h0, by omega⟩, if_pos ⟨h0, h4⟩]
        · rw [if_neg (fun h => by have := h.2; omega), if_neg (fun h => h4 h.2)]
  · rw [if_neg (fun h => h0 h.1), if_neg (fun h => h0 h.1)]
theorem DD_pair {v : List Int} (hv : Full l v) {i c : Nat} (hi : i < l.length) (hc : c < l.length) (hic : i < c) (h1 : gv v i = (c : Int)) (h2 : gv v c = (i : Int)) : DD l v (i + 1) = DD l v i + 2 * cc l i c := by
  unfold DD
  rw [S_upd2 (f := dt l v i) hi hc (by omega) (fun a ha e1 e2 => by
    unfold dt
    by_cases h0 : 0 ≤ gv v a
    · obtain ⟨q, hq, q1, q2, q3, _⟩ := hv.pos ha h0
      have hqi : q ≠ i := by rintro rfl; omega
      by_cases h5 : (a : Int) < i ∨ gv v a < i
      · rw [if_pos ⟨h0, by omega⟩, if_pos ⟨h0, h5⟩]
      · rw [if_neg (fun h => by have := h.2; omega), if_neg (fun h => h5 h.2)]
    · rw [if_neg (fun h => h0 h.1), if_neg (fun h => h0 h.1)])]
  have t1 : dt l v i i = 0 := by unfold dt; rw [if_neg (by omega)]
  have t2 : dt l v i c = 0 := by unfold dt; rw [if_neg (by omega)]
  have t3 : dt l v (i + 1) i = cc l i c := by unfold dt; rw [if_pos (by omega), h1, Int.toNat_natCast]
  have t4 : dt l v (i + 1) c = cc l i c := by unfold dt; rw [if_pos (by omega), h2, Int.toNat_natCast, cc_symm]
  rw [t1, t2, t3, t4]
  omega
theorem costs10 (hl : SwOK l) (hck : f14 9000 l = some (0, ())) {v : List Int} (hv : Full l v) (a b n : Int) (g : List GA) (hg : g.length ≤ 8) (B : Int) (hB : 0 ≤ B ∧ B ≤ 320000) : ∀ (r i k j : Nat) (s : Int), i + r = l.length → g.drop k = gs l v r i → k ≤ g.length → r < j → 2 * s = B + DD l v i →
    ∃ s', l4_10 9000 j l a b g n s () g.length k = some (.inl (l, a, b, g, n, s', ())) ∧ 2 * s' = B + DD l v l.length
  | r, i, k, 0, s, _, _, _, h, _ => by omega
  | 0, i, k, j + 1, s, hi, hd, hk, _, hs => by
    have : k = g.length := by
      have h2 : (g.drop k).length = 0 := by rw [hd]; rfl
      rw [List.length_drop] at h2
      omega
    subst this
    rw [l4_10, bf1 (by omega)]
    have : i = l.length := by omega
    subst this
    exact ⟨s, rfl, hs⟩
  | r + 1, i, k, j + 1, s, hi, hd, hk, hj, hs => by
    have hn := hl.n8
    have hil : i < l.length := by omega
    rw [gs] at hd
    by_cases e : (i : Int) < gv v i
    rotate_left
    · rw [if_neg e] at hd
      exact costs10 hl hck hv a b n g hg B hB r (i + 1) k (j + 1) s (by omega) hd hk (by omega) (by rw [DD_skip hv hil e]; exact hs)
    · rw [if_pos e] at hd
      obtain ⟨c, hc, h1, h2, h3, h4⟩ := hv.pos hil (by omega)
      rw [h1, Int.toNat_natCast] at hd
      obtain ⟨hkl, hr, hd2⟩ := drop_cons ((0, 0, ()) : GA) hd
      have hic : i < c := by omega
      have hbd := DD_bound hl hv i
      have hcb := cc_bound hl hil hc
      have hdp := DD_pair hv hil hc hic h1 h3
      rw [l4_10, bt1 (by omega), bt2 ⟨by omega, by omega⟩, hr]
      have hco : f9 9000 l (col l i c).1 (col l i c).2.1 = some (cc l i c, 0, ()) := by
        rcases col_cases l i c with h | h
        · rw [h]; exact Cost_eq hl hck hil hc (by omega)
        · rw [h, cc_symm l i c]; exact Cost_eq hl hck hc hil (by omega)
      rw [hco]
      simp only [Option.bind_some]
      rw [beq1 rfl, ws (n := s + cc l i c) (by omega), w1 (i := k) (n := 9) (by omega) (by omega)]
      exact costs10 hl hck hv a b n g hg B hB r (i + 1) (k + 1) j (s + cc l i c) (by omega) hd2 (by omega) (by omega) (by rw [hdp]; omega)
theorem S_add {f g : Nat → Int} : ∀ (n : Nat), S (fun a => f a + g a) n = S f n + S g n
  | 0 => rfl
  | n + 1 => by rw [S, S, S, S_add n]; omega
/-- The cost, taken apart: the bye, and the games. -/
theorem cst_split {v : List Int} (hv : Full l v) : cst l v = S (fun a => if gv v a = -1 then 2 * bb l a else 0) l.length + DD l v l.length := by
  unfold DD
  rw [← S_add]
  refine S_congr (fun a ha => ?_)
  unfold term dt
  by_cases e : gv v a = -1
  · rw [if_pos e, if_pos e, if_neg (by omega)]; omega
  · rw [if_neg e, if_neg e]
    by_cases h0 : 0 ≤ gv v a
    · rw [if_pos h0, if_pos ⟨h0, .inl (by omega)⟩]; omega
    · rw [if_neg h0, if_neg (fun h => h0 h.1)]; rfl
theorem bye_none {v : List Int} (h : ∀ a, a < l.length → 0 ≤ gv v a) : S (fun a => if gv v a = -1 then 2 * bb l a else 0) l.length = 0 := by
  rw [S_congr (g := fun _ => 0) (fun a ha => if_neg (by have := h a ha; omega)), S_zero]
theorem bye_one {v : List Int} {a : Nat} (ha : a < l.length) (h1 : gv v a = -1) (h : ∀ b, b < l.length → b ≠ a → 0 ≤ gv v b) : S (fun a => if gv v a = -1 then 2 * bb l a else 0) l.length = 2 * bb l a := by
  rw [S_upd (f := fun _ => 0) ha (fun b hb hne => if_neg (by have := h b hb hne; omega)), S_zero, if_pos h1]
  omega
/-- The games of a pairing, two of them. -/
theorem gs_one (v : List Int) : ∀ (r i k : Nat), k < (gs l v r i).length → ∃ x, i ≤ x ∧ x < i + r ∧ (x : Int) < gv v x ∧ rd ((0, 0, ()) : GA) (gs l v r i) (k : Int) = col l x (gv v x).toNat
  | 0, i, k, h => by simp [gs] at h
  | r + 1, i, k, h => by
    rw [gs] at h ⊢
    split at h
    · rename_i e
      rw [if_pos e]
      cases k with
      | zero => exact ⟨i, Nat.le_refl _, by omega, e, rfl⟩
      | succ k =>
        obtain ⟨x, h1, h2, h3, h4⟩ := gs_one v r (i + 1) k (by simpa using h)
        exact ⟨x, by omega, by omega, h3, by rw [← h4]; unfold rd; simp⟩
    · rename_i e
      rw [if_neg e]
      obtain ⟨x, h1, h2, h3, h4⟩ := gs_one v r (i + 1) k h
      exact ⟨x, by omega, by omega, h3, h4⟩
theorem gs_two (v : List Int) : ∀ (r i k m : Nat), k < m → m < (gs l v r i).length → ∃ x y, x < y ∧ y < i + r ∧ (x : Int) < gv v x ∧ (y : Int) < gv v y ∧ rd ((0, 0, ()) : GA) (gs l v r i) (k : Int) = col l x (gv v x).toNat ∧ rd ((0, 0, ()) : GA) (gs l v r i) (m : Int) = col l y (gv v y).toNat
  | 0, i, k, m, _, h => by simp [gs] at h
  | r + 1, i, k, m, hkm, h => by
    rw [gs] at h ⊢
    split at h
    · rename_i e
      rw [if_pos e]
      obtain ⟨m, rfl⟩ : ∃ q, m = q + 1 := ⟨m - 1, by omega⟩
      have hm : m < (gs l v r (i + 1)).length := by simpa using h
      have sh : ∀ q : Nat, rd ((0, 0, ()) : GA) (col l i (gv v i).toNat :: gs l v r (i + 1)) ((q + 1 : Nat) : Int) = rd ((0, 0, ()) : GA) (gs l v r (i + 1)) (q : Int) := fun q => by unfold rd; simp
      cases k with
      | zero =>
        obtain ⟨y, h1, h2, h3, h4⟩ := gs_one v r (i + 1) m hm
        exact ⟨i, y, by omega, by omega, e, h3, rfl, by rw [sh]; exact h4⟩
      | succ k =>
        obtain ⟨x, y, h1, h2, h3, h4, h5, h6⟩ := gs_two v r (i + 1) k m (by omega) hm
        exact ⟨x, y, h1, by omega, h3, h4, by rw [sh]; exact h5, by rw [sh]; exact h6⟩
    · rename_i e
      rw [if_neg e]
      obtain ⟨x, y, h1, h2, h3, h4, h5, h6⟩ := gs_two v r (i + 1) k m hkm h
      exact ⟨x, y, h1, by omega, h3, h4, h5, h6⟩
/-- Two partners are exchanged. -/
theorem exch (hl : SwOK l) {v : List Int} {n : Int} (hb : Best l v n) {p1 p2 q1 q2 : Nat} (hp1 : p1 < l.length) (hp2 : p2 < l.length) (hq1 : q1 < l.length) (hq2 : q2 < l.length) (a1 : gv v p1 = (p2 : Int)) (a2 : gv v p2 = (p1 : Int)) (a3 : gv v q1 = (q2 : Int)) (a4 : gv v q2 = (q1 : Int))
    (d1 : p1 ≠ p2) (d2 : q1 ≠ q2) (d3 : p1 ≠ q1) (d4 : p1 ≠ q2) (m1 : ¬ met l p1 q2) (m2 : ¬ met l q1 p2) : cc l p1 p2 + cc l q1 q2 ≤ cc l p1 q2 + cc l q1 p2 := by
  have hv := hb.full
  have hlen := hv.1.len
  have d5 : p2 ≠ q1 := by rintro rfl; omega
  have d6 : p2 ≠ q2 := by rintro rfl; omega
  have hg : ∀ a, gv ((((v.set p1 q2).set q2 p1).set q1 p2).set p2 q1) a = if a = p2 then (q1 : Int) else if a = q1 then (p2 : Int) else if a = q2 then (p1 : Int) else if a = p1 then (q2 : Int) else gv v a := fun a => by
    rw [gv_set _ _ _ (by simp; omega), gv_set _ _ _ (by simp; omega), gv_set _ _ _ (by simp; omega), gv_set _ _ _ (by omega)]
  have g1 : gv ((((v.set p1 q2).set q2 p1).set q1 p2).set p2 q1) p2 = q1 := by rw [hg, if_pos rfl]
  have g2 : gv ((((v.set p1 q2).set q2 p1).set q1 p2).set p2 q1) q1 = p2 := by rw [hg, if_neg (fun h => d5 h.symm), if_pos rfl]
  have g3 : gv ((((v.set p1 q2).set q2 p1).set q1 p2).set p2 q1) q2 = p1 := by rw [hg, if_neg (fun h => d6 h.symm), if_neg (fun h => d2 h.symm), if_pos rfl]
  have g4 : gv ((((v.set p1 q2).set q2 p1).set q1 p2).set p2 q1) p1 = q2 := by rw [hg, if_neg d1, if_neg d3, if_neg d4, if_pos rfl]
  have g5 : ∀ a, a ≠ p1 → a ≠ p2 → a ≠ q1 → a ≠ q2 → gv ((((v.set p1 q2).set q2 p1).set q1 p2).set p2 q1) a = gv v a := fun a e1 e2 e3 e4 => by rw [hg, if_neg e2, if_neg e3, if_neg e4, if_neg e1]
  have hul : ((((v.set p1 q2).set q2 p1).set q1 p2).set p2 (q1 : Int)).length = l.length := by simp [hlen]
  generalize ((((v.set p1 q2).set q2 p1).set q1 p2).set p2 (q1 : Int)) = u at *
  have hfull : Full l u := by
    refine ⟨⟨hul, fun a ha => ?_, fun a b ha hb e1 e2 => ?_⟩, fun a ha => ?_⟩
    · by_cases e1 : a = p1
      · subst e1; exact .inr (.inr ⟨q2, hq2, g4, fun h => d4 h.symm, g3, m1⟩)
      by_cases e2 : a = p2
      · subst e2; exact .inr (.inr ⟨q1, hq1, g1, fun h => d5 h.symm, g2, fun h => m2 ((hl.met hp2 hq1).1 h)⟩)
      by_cases e3 : a = q1
      · subst e3; exact .inr (.inr ⟨p2, hp2, g2, d5, g1, m2⟩)
      by_cases e4 : a = q2
      · subst e4; exact .inr (.inr ⟨p1, hp1, g3, d4, g4, fun h => m1 ((hl.met hp1 hq2).2 h)⟩)
      rw [g5 a e1 e2 e3 e4]
      rcases hv.1.ok a ha with e | e | ⟨b, hb, h1, h2, h3, h4⟩
      · exact .inl e
      · exact .inr (.inl e)
      · refine .inr (.inr ⟨b, hb, h1, h2, ?_, h4⟩)
        rw [g5 b (fun h => by subst h; omega) (fun h => by subst h; omega) (fun h => by subst h; omega) (fun h => by subst h; omega)]
        exact h3
    · have f : ∀ x : Nat, gv u x = -1 → gv v x = -1 := fun x hx => by
        by_cases e1 : x = p1
        · subst e1; omega
        by_cases e2 : x = p2
        · subst e2; omega
        by_cases e3 : x = q1
        · subst e3; omega
        by_cases e4 : x = q2
        · subst e4; omega
        rw [← g5 x e1 e2 e3 e4]; exact hx
      exact hv.1.one a b ha hb (f a e1) (f b e2)
    · by_cases e1 : a = p1
      · subst e1; omega
      by_cases e2 : a = p2
      · subst e2; omega
      by_cases e3 : a = q1
      · subst e3; omega
      by_cases e4 : a = q2
      · subst e4; omega
      rw [g5 a e1 e2 e3 e4]; exact hv.2 a ha
  have hle := hb.least u hfull
  have t : ∀ (w : List Int) (x y : Nat), gv w x = (y : Int) → term l w x = cc l x y := fun w x y h => by unfold term; rw [h, if_neg (by omega), if_pos (by omega), Int.toNat_natCast]
  have hs : cst l u = cst l v - cc l p1 p2 - cc l q2 q1 - cc l q1 q2 - cc l p2 p1 + cc l p1 q2 + cc l q2 p1 + cc l q1 p2 + cc l p2 q1 := by
    unfold cst
    rw [S_upd2 (f := fun a => if a = p1 ∨ a = q2 then term l u a else term l v a) (g := term l u) hq1 hp2 (fun h => d5 h.symm) (fun a ha e1 e2 => by
      by_cases e : a = p1 ∨ a = q2
      · rw [if_pos e]
      · rw [if_neg e]
        unfold term
        rw [g5 a (fun h => e (.inl h)) e2 e1 (fun h => e (.inr h))])]
    rw [S_upd2 (f := term l v) (g := fun a => if a = p1 ∨ a = q2 then term l u a else term l v a) hp1 hq2 d4 (fun a ha e1 e2 => if_neg (fun h => h.elim e1 e2))]
    rw [if_pos (.inl rfl), if_pos (.inr rfl), if_neg (fun h => h.elim (fun h => d3 h.symm) d2), if_neg (fun h => h.elim (fun h => d1 h.symm) d6)]
    rw [t v p1 p2 a1, t v q2 q1 a4, t v q1 q2 a3, t v p2 p1 a2, t u p1 q2 g4, t u q2 p1 g3, t u q1 p2 g2, t u p2 q1 g1]
    omega
  rw [hs, cc_symm l q2 q1, cc_symm l p2 p1, cc_symm l q2 p1, cc_symm l p2 q1] at hle
  omega
theorem mem21 (p q : GA) (os : List Int) (ho : os.length ≤ 21) : ∀ (j i : Nat), i ≤ os.length → os.length < i + j → l4_21 9000 j l p q os os.length i = some (.inr (true, ())) ∨ (l4_21 9000 j l p q os os.length i = some (.inl (l, p, q, ())) ∧ ∀ a, i ≤ a → a < os.length → rd (0 : Int) os (a : Nat) ≠ q.2.1)
  | 0, i, h, h' => by omega
  | j + 1, i, h, h' => by
    rw [l4_21]
    by_cases hi : i < os.length
    · rw [bt1 (show (i : Int) < (os.length : Int) by omega), bt2 ⟨by omega, by omega⟩]
      by_cases e : rd (0 : Int) os (i : Int) = q.2.1
      · rw [be1 e]; exact .inl rfl
      · rw [bn1 e, w1 hi (by omega)]
        exact (mem21 p q os ho j (i + 1) (by omega) (by omega)).imp id (fun h => ⟨h.1, all_step e h.2⟩)
    · rw [bf1 (show ¬ (i : Int) < (os.length : Int) by omega)]
      exact .inr ⟨rfl, fun a h1 h2 => by omega⟩
theorem mem27 (p q : GA) (os : List Int) (ho : os.length ≤ 21) : ∀ (j i : Nat), i ≤ os.length → os.length < i + j → l4_27 9000 j l p q os os.length i = some (.inr (true, ())) ∨ (l4_27 9000 j l p q os os.length i = some (.inl (l, p, q, ())) ∧ ∀ a, i ≤ a → a < os.length → rd (0 : Int) os (a : Nat) ≠ p.2.1)
  | 0, i, h, h' => by omega
  | j + 1, i, h, h' => by
    rw [l4_27]
    by_cases hi : i < os.length
    · rw [bt1 (show (i : Int) < (os.length : Int) by omega), bt2 ⟨by omega, by omega⟩]
      by_cases e : rd (0 : Int) os (i : Int) = p.2.1
      · rw [be1 e]; exact .inl rfl
      · rw [bn1 e, w1 hi (by omega)]
        exact (mem27 p q os ho j (i + 1) (by omega) (by omega)).imp id (fun h => ⟨h.1, all_step e h.2⟩)
    · rw [bf1 (show ¬ (i : Int) < (os.length : Int) by omega)]
      exact .inr ⟨rfl, fun a h1 h2 => by omega⟩
theorem notin {os : List Int} {x : Int} (h : ∀ a, 0 ≤ a → a < (os ++ [(-1 : Int)]).length → rd (0 : Int) (os ++ [-1]) (a : Nat) ≠ x) : x ∉ os := fun hx => by
  obtain ⟨i, hi, e⟩ := mem_rd (0 : Int) hx
  refine h i (Nat.zero_le _) (by simp; omega) ?_
  rw [← e]
  unfold rd
  simp [List.getD_eq_getElem?_getD, List.getElem?_append_left hi]
end
/-- What stands behind the sum of the games' costs. -/
theorem costs_tail (l : List PL) (hl : SwOK l) (hck : f14 9000 l = some (0, ())) {v : List Int} {n : Int} (hb : Best l v n) (a b : Int) (ha : 0 ≤ a ∧ a < ((gs l v l.length 0).length : Int)) (hbb : 0 ≤ b ∧ b < ((gs l v l.length 0).length : Int)) (hab : a ≠ b) :
    ∃ p1 p2 q1 q2 : Nat, rd ((0, 0, ()) : GA) (gs l v l.length 0) a = ((p1 : Int), (p2 : Int), ()) ∧ rd ((0, 0, ()) : GA) (gs l v l.length 0) b = ((q1 : Int), (q2 : Int), ()) ∧ p1 < l.length ∧ p2 < l.length ∧ q1 < l.length ∧ q2 < l.length ∧
      p1 ≠ p2 ∧ q1 ≠ q2 ∧ p1 ≠ q1 ∧ p1 ≠ q2 ∧ q1 ≠ p2 ∧ (¬ met l p1 q2 → ¬ met l q1 p2 → cc l p1 p2 + cc l q1 q2 ≤ cc l p1 q2 + cc l q1 p2) := by
  have hv := hb.full
  obtain ⟨k, rfl⟩ : ∃ k : Nat, a = (k : Int) := ⟨a.toNat, by omega⟩
  obtain ⟨m, rfl⟩ : ∃ m : Nat, b = (m : Int) := ⟨b.toNat, by omega⟩
  -- the two pairs
  have key : ∃ x y, x ≠ y ∧ x < l.length ∧ y < l.length ∧ (x : Int) < gv v x ∧ (y : Int) < gv v y ∧ rd ((0, 0, ()) : GA) (gs l v l.length 0) (k : Int) = col l x (gv v x).toNat ∧ rd ((0, 0, ()) : GA) (gs l v l.length 0) (m : Int) = col l y (gv v y).toNat := by
    by_cases h : k < m
    · obtain ⟨x, y, h1, h2, h3, h4, h5, h6⟩ := gs_two (l := l) v l.length 0 k m h (by omega)
      exact ⟨x, y, by omega, by omega, by omega, h3, h4, h5, h6⟩
    · obtain ⟨x, y, h1, h2, h3, h4, h5, h6⟩ := gs_two (l := l) v l.length 0 m k (by omega) (by omega)
      exact ⟨y, x, by omega, by omega, by omega, h4, h3, h6, h5⟩
  obtain ⟨x, y, hxy, hx, hy, hx2, hy2, hp, hq⟩ := key
  obtain ⟨c, hc, c1, c2, c3, _⟩ := hv.pos hx (by omega)
  obtain ⟨e, he, e1, e2, e3, _⟩ := hv.pos hy (by omega)
  rw [c1, Int.toNat_natCast] at hp
  rw [e1, Int.toNat_natCast] at hq
  have n1 : x ≠ e := by rintro rfl; omega
  have n2 : c ≠ y := by rintro rfl; omega
  have n3 : c ≠ e := by rintro rfl; omega
  rcases col_cases l x c with h1 | h1 <;> rcases col_cases l y e with h2 | h2
  · exact ⟨x, c, y, e, by rw [hp, h1], by rw [hq, h2], hx, hc, hy, he, by omega, by omega, hxy, n1, fun h => n2 h.symm, fun m1 m2 => exch hl hb hx hc hy he c1 c3 e1 e3 (by omega) (by omega) hxy n1 m1 m2⟩
  · exact ⟨x, c, e, y, by rw [hp, h1], by rw [hq, h2], hx, hc, he, hy, by omega, by omega, n1, hxy, fun h => n3 h.symm, fun m1 m2 => exch hl hb hx hc he hy c1 c3 e3 e1 (by omega) (by omega) n1 hxy m1 m2⟩
  · exact ⟨c, x, y, e, by rw [hp, h1], by rw [hq, h2], hc, hx, hy, he, by omega, by omega, n2, n3, fun h => hxy h.symm, fun m1 m2 => exch hl hb hc hx hy he c3 c1 e1 e3 (by omega) (by omega) n2 n3 m1 m2⟩
  · exact ⟨c, x, e, y, by rw [hp, h1], by rw [hq, h2], hc, hx, he, hy, by omega, by omega, n3, n2, fun h => n1 h.symm, fun m1 m2 => exch hl hb hc hx he hy c3 c1 e3 e1 (by omega) (by omega) n3 n2 m1 m2⟩
/-- **SwissCosts**. -/
theorem costs_pure (l : List PL) (a b : Int) : f4 9000 l a b = some (true, ()) := by
  unfold f4
  rw [swisses_eq]
  simp only [Option.bind_some, Bool.not_true, cond_false]
  obtain ⟨g, n, o, e, hp, h⟩ := pair_ok' l
  rw [hp]
  simp only [Option.bind_some]
  rcases h with ⟨he, _, rfl⟩ | ⟨rfl, hl, v, hbest, hg, ho⟩
  · rw [bne1 he]
    rfl
  rw [beq1 rfl]
  have hck := pair_chk hp
  have hn := hl.n8
  have hn2 := hl.n2
  have hv := hbest.full
  have hgl := gs_len (l := l) v l.length 0
  have hsp := cst_split hv
  have hcost := hbest.cost
  have fin : ∀ s : Int, s = n → (bif s != n then some (s == n, ()) else
      bif decide (a < 0) then some (s == n, ()) else bif decide (b < 0) then some (s == n, ()) else
      bif decide (a ≥ (g.length : Int)) then some (s == n, ()) else bif decide (b ≥ (g.length : Int)) then some (s == n, ()) else
      bif a == b then some (s == n, ()) else
      bif decide (0 ≤ a) && decide (a < (g.length : Int)) then
      bif decide (0 ≤ b) && decide (b < (g.length : Int)) then
      bif decide (0 ≤ (rd ((0, 0, ()) : GA) g a).1) && decide ((rd ((0, 0, ()) : GA) g a).1 < (l.length : Int)) then
      bif decide ((([] : List Int).length + (rd D0 l (rd ((0, 0, ()) : GA) g a).1).2.1.length) * 8 ≤ roomN) then
      bif decide ((([] ++ (rd D0 l (rd ((0, 0, ()) : GA) g a).1).2.1).length + [(-1 : Int)].length) * 8 ≤ roomN) then
        (l4_21 9000 9000 l (rd ((0, 0, ()) : GA) g a) (rd ((0, 0, ()) : GA) g b) (([] ++ (rd D0 l (rd ((0, 0, ()) : GA) g a).1).2.1) ++ [-1]) ((([] ++ (rd D0 l (rd ((0, 0, ()) : GA) g a).1).2.1) ++ [(-1 : Int)]).length : Int) 0).bind fun w11 =>
        Sum.elim
          (fun y4 =>
            bif decide (0 ≤ y4.2.2.1.1) && decide (y4.2.2.1.1 < (y4.1.length : Int)) then
            bif decide ((([] : List Int).length + (rd D0 y4.1 y4.2.2.1.1).2.1.length) * 8 ≤ roomN) then
            bif decide ((([] ++ (rd D0 y4.1 y4.2.2.1.1).2.1).length + [(-1 : Int)].length) * 8 ≤ roomN) then
              (l4_27 9000 9000 y4.1 y4.2.1 y4.2.2.1 (([] ++ (rd D0 y4.1 y4.2.2.1.1).2.1) ++ [-1]) ((([] ++ (rd D0 y4.1 y4.2.2.1.1).2.1) ++ [(-1 : Int)]).length : Int) 0).bind fun w12 =>
              Sum.elim
                (fun y5 =>
                  (f9 9000 y5.1 y5.2.1.1 y5.2.1.2.1).bind fun r6 =>
                  (f9 9000 y5.1 y5.2.2.1.1 y5.2.2.1.2.1).bind fun r7 =>
                  (f9 9000 y5.1 y5.2.1.1 y5.2.2.1.2.1).bind fun r8 =>
                  (f9 9000 y5.1 y5.2.2.1.1 y5.2.1.2.1).bind fun r9 =>
                  some (decide ((w64 (r6.1 + r7.1)) ≤ (w64 (r8.1 + r9.1))), ()))
                (fun y10 => some y10)
                w12
            else none else none else none)
          (fun y11 => some y11)
          w11
      else none else none else none else none else none) = some (true, ()) := by
    rintro s rfl
    rw [beq1 rfl, beq_self_eq_true]
    by_cases h1 : a < 0
    · rw [bt1 h1]
    rw [bf1 h1]
    by_cases h2 : b < 0
    · rw [bt1 h2]
    rw [bf1 h2]
    by_cases h3 : a ≥ (g.length : Int)
    · rw [bt1 h3]
    rw [bf1 h3]
    by_cases h4 : b ≥ (g.length : Int)
    · rw [bt1 h4]
    rw [bf1 h4]
    by_cases h5 : a = b
    · rw [be1 h5]
    rw [bn1 h5, bt2 ⟨by omega, by omega⟩, bt2 ⟨by omega, by omega⟩]
    obtain ⟨p1, p2, q1, q2, e1, e2, hp1, hp2, hq1, hq2, d1, d2, d3, d4, d5, hle⟩ := costs_tail l hl hck hbest a b (by rw [← hg]; omega) (by rw [← hg]; omega) h5
    rw [← hg] at e1 e2
    rw [e1, e2]
    dsimp only
    have o1 := (hl.pl p1 hp1).2.2.1
    have o2 := (hl.pl q1 hq1).2.2.1
    unfold opp at o1 o2
    rw [bt2 ⟨by omega, by omega⟩, bt1 (by unfold roomN; simp only [List.length_nil]; omega), bt1 (by unfold roomN; simp only [List.nil_append, List.length_singleton]; omega), List.nil_append]
    have m1 := mem21 (l := l) ((p1 : Int), (p2 : Int), ()) ((q1 : Int), (q2 : Int), ()) ((rd D0 l (p1 : Int)).2.1 ++ [-1]) (by simp; omega) 9000 0 (by omega) (by simp; omega)
    rw [show ((0 : Nat) : Int) = 0 from rfl] at m1
    rcases m1 with m1 | ⟨m1, n1⟩
    · rw [m1]; rfl
    rw [m1]
    simp only [Option.bind_some, Sum.elim_inl]
    rw [bt2 ⟨by omega, by omega⟩, bt1 (by unfold roomN; simp only [List.length_nil]; omega), bt1 (by unfold roomN; simp only [List.nil_append, List.length_singleton]; omega), List.nil_append]
    have m2 := mem27 (l := l) ((p1 : Int), (p2 : Int), ()) ((q1 : Int), (q2 : Int), ()) ((rd D0 l (q1 : Int)).2.1 ++ [-1]) (by simp; omega) 9000 0 (by omega) (by simp; omega)
    rw [show ((0 : Nat) : Int) = 0 from rfl] at m2
    rcases m2 with m2 | ⟨m2, n2⟩
    · rw [m2]; rfl
    rw [m2]
    simp only [Option.bind_some, Sum.elim_inl]
    rw [Cost_eq hl hck hp1 hp2 d1, Cost_eq hl hck hq1 hq2 d2, Cost_eq hl hck hp1 hq2 d4, Cost_eq hl hck hq1 hp2 d5]
    simp only [Option.bind_some]
    have b1 := cc_bound hl hp1 hp2
    have b2 := cc_bound hl hq1 hq2
    have b3 := cc_bound hl hp1 hq2
    have b4 := cc_bound hl hq1 hp2
    have := hle (notin n1) (notin n2)
    rw [ws (by omega), ws (by omega), decide_eq_true this]
  rcases off_eq hv with ⟨h1, h2⟩ | ⟨c, hc, h1, h2, h3⟩
  · rw [h1] at ho
    subst ho
    rw [bf1 (by decide)]
    have hd0 : DD l v 0 = 0 := by
      unfold DD
      rw [S_congr (g := fun _ => 0) (fun a ha => by unfold dt; rw [if_neg (fun h => by omega)]), S_zero]
    obtain ⟨s, q1, q2⟩ := costs10 hl hck hv a b n g (by rw [hg]; omega) 0 (by omega) l.length 0 0 9000 0 (by omega) (by rw [hg]; rfl) (by omega) (by omega) (by rw [hd0]; rfl)
    rw [show ((0 : Nat) : Int) = 0 from rfl] at q1
    rw [q1]
    rw [bye_none h2] at hsp
    exact fin s (by omega)
  · rw [h2] at ho
    subst ho
    have hbd := bb_bound hl hc
    have hd0 : DD l v 0 = 0 := by
      unfold DD
      rw [S_congr (g := fun _ => 0) (fun a ha => by unfold dt; rw [if_neg (fun h => by omega)]), S_zero]
    have hbe := bye_eq hl hc
    unfold f22 at hbe
    rw [bt2 ⟨by omega, by omega⟩, bt2 ⟨by omega, by omega⟩] at hbe
    simp only [Option.some.injEq, Prod.mk.injEq, and_true] at hbe
    rw [bt1 (by omega), bt2 ⟨by omega, by omega⟩, bt2 ⟨by omega, by omega⟩, hbe]
    obtain ⟨s, q1, q2⟩ := costs10 hl hck hv a b n g (by rw [hg]; omega) (2 * bb l c) (by omega) l.length 0 0 9000 (bb l c) (by omega) (by rw [hg]; rfl) (by omega) (by omega) (by rw [hd0]; omega)
    rw [show ((0 : Nat) : Int) = 0 from rfl] at q1
    rw [q1]
    rw [bye_one hc h1 h3] at hsp
    exact fin s (by omega)
end Go.Proofs.Ytpfakfiaaidimaa.G
