/- The moves of a position: in order, each once. -/
import Derived.Test.YtphgopfhobockaaTGen3
namespace Go.Proofs.Ytphgopfhobockaa.G
open Go.VM Go.Proofs
theorem mvLt_iff (x y : MV) : mvLt x y = true ↔ x.1 < y.1 ∨ x.1 = y.1 ∧ (x.2.1 < y.2.1 ∨ x.2.1 = y.2.1 ∧ x.2.2.1 < y.2.2.1) := by
  unfold mvLt
  rw [decide_eq_true_iff, cmpM_lt]
theorem mv_ext {x y : MV} (h1 : x.1 = y.1) (h2 : x.2.1 = y.2.1) (h3 : x.2.2.1 = y.2.2.1) : x = y := Prod.ext h1 (Prod.ext h2 (Prod.ext h3 rfl))
theorem mvLt_irr (x : MV) : ¬ mvLt x x = true := by rw [mvLt_iff]; omega
theorem mvLt_tr {x y z : MV} (h1 : mvLt x y = true) (h2 : mvLt y z = true) : mvLt x z = true := by rw [mvLt_iff] at *; omega
/-- Not after. -/
def mvLe (x y : MV) : Bool := !mvLt y x
theorem mvLe_iff (x y : MV) : mvLe x y = true ↔ mvLt x y = true ∨ x = y := by
  unfold mvLe
  constructor
  · intro h
    have h : ¬ mvLt y x = true := by simpa using h
    rw [mvLt_iff] at h ⊢
    by_cases e : x = y
    · exact .inr e
    · left
      have : ¬ (x.1 = y.1 ∧ x.2.1 = y.2.1 ∧ x.2.2.1 = y.2.2.1) := fun h => e (mv_ext h.1 h.2.1 h.2.2)
      omega
  · rintro (h | rfl)
    · have : ¬ mvLt y x = true := by rw [mvLt_iff] at *; omega
      simpa using this
    · have := mvLt_irr x
      simpa using this
theorem sort_sorted (l : List MV) (hl : l.length ≤ 8000) : ∃ o, f72 9000 l = some (o, ()) ∧ o.length = l.length ∧ (∀ x ∈ o, x ∈ l) ∧ o.Pairwise (fun x y => mvLe x y = true) := by
  unfold f72
  rw [show Nat.ble 5 9000 = true from rfl, Bool.true_and, bt1 (by omega)]
  refine ⟨_, rfl, List.length_mergeSort .., fun x hx => (List.mem_mergeSort ..).1 hx, List.pairwise_mergeSort (le := mvLe) (fun a b c h1 h2 => ?_) (fun a b => ?_) l⟩
  · rw [mvLe_iff] at *
    rcases h1 with h1 | rfl
    · rcases h2 with h2 | rfl
      · exact .inl (mvLt_tr h1 h2)
      · exact .inl h1
    · exact h2
  · rw [Bool.or_eq_true, mvLe_iff, mvLe_iff, mvLt_iff, mvLt_iff]
    by_cases e : a = b
    · exact .inl (.inr e)
    · have : ¬ (a.1 = b.1 ∧ a.2.1 = b.2.1 ∧ a.2.2.1 = b.2.2.1) := fun h => e (mv_ext h.1 h.2.1 h.2.2)
      omega
theorem sorted_rd {l : List MV} (h : l.Pairwise (fun x y => mvLe x y = true)) (i j : Nat) (hij : i < j) (hj : j < l.length) : mvLe (rd M0 l (i : Int)) (rd M0 l (j : Int)) = true := by
  have := List.pairwise_iff_getElem.1 h i j (by omega) hj hij
  simpa [rd, List.getD_eq_getElem?_getD, List.getElem?_eq_getElem (show i < l.length by omega), List.getElem?_eq_getElem hj] using this
theorem mv_test3 (x y : MV) : ((x.1 == y.1) && ((x.2.1 == y.2.1) && ((x.2.2.1 == y.2.2.1) && true))) = decide (x = y) := by
  obtain ⟨a, b, c, _⟩ := x
  obtain ⟨d, e, f, _⟩ := y
  by_cases h1 : a = d <;> by_cases h2 : b = e <;> by_cases h3 : c = f <;> simp [h1, h2, h3]
theorem rd_setG (s : List MV) (w m : Nat) (v : MV) (h : w ≠ m) : rd M0 (s.set w v) (m : Int) = rd M0 s (m : Int) := by
  simp [rd, List.getD_eq_getElem?_getD, List.getElem?_set_ne h]
theorem take_set_snoc (s : List MV) (w : Nat) (v : MV) (h : w < s.length) : (s.set w v).take (w + 1) = s.take w ++ [v] := by
  rw [List.take_add_one, List.take_set_of_le (Nat.le_refl w), List.getElem?_set_self h]
  rfl
/-- Strictly in order. -/
abbrev Strict (l : List MV) : Prop := l.Pairwise (fun x y => mvLt x y = true)
theorem cptU9 (l : List MV) (hso : l.Pairwise (fun x y => mvLe x y = true)) (a n : Nat) (ha : 1 ≤ a) (hn : a + n ≤ 8000) (hll : l.length = a + n) : ∀ (j i w : Nat) (s : List MV), 1 ≤ i → i ≤ n → n < i + j → w < a + i → s.length = a + n →
    (∀ m : Nat, a + i ≤ m + 1 → m < a + n → rd M0 s (m : Int) = rd M0 l (m : Int)) → Strict (s.take w) → (∀ x ∈ s.take w, mvLe x (rd M0 l ((a + i - 1 : Nat) : Int)) = true) →
    ∃ (s' : List MV) (w' : Nat), l74_9 9000 j s (w : Int) ((a : Int), (n : Int)) (i : Int) = some (s', (w' : Int), ()) ∧ s'.length = a + n ∧ w' ≤ a + n ∧ Strict (s'.take w')
  | 0, i, w, s, h1, h2, h3, _, _, _, _, _ => by omega
  | j + 1, i, w, s, h1, h2, h3, hw, hs, hsame, hst, hle => by
    rw [l74_9]
    simp only [Int.toNat_natCast]
    by_cases hi : i < n
    · have e : ((i : Int) + 1) = ((i + 1 : Nat) : Int) := by omega
      have e' : ((w : Int) + 1) = ((w + 1 : Nat) : Int) := by omega
      rw [bt1 (show (i : Int) < (n : Int) by omega), bt2 ⟨by omega, by omega⟩, ws (n := (i : Int) - 1) (by omega), bt2 ⟨by omega, by omega⟩, ws (n := (i : Int) + 1) (by omega), ws (n := (w : Int) + 1) (by omega), e, e']
      rw [mv_test3, show (a : Int) + (i : Int) = ((a + i : Nat) : Int) by omega, show (a : Int) + ((i : Int) - 1) = ((a + i - 1 : Nat) : Int) by omega]
      have r1 : rd ((0, 0, 0, ()) : MV) s ((a + i : Nat) : Int) = rd M0 l ((a + i : Nat) : Int) := hsame (a + i) (by omega) (by omega)
      have r2 : rd ((0, 0, 0, ()) : MV) s ((a + i - 1 : Nat) : Int) = rd M0 l ((a + i - 1 : Nat) : Int) := hsame (a + i - 1) (by omega) (by omega)
      rw [r1, r2]
      have hso1 := sorted_rd hso (a + i - 1) (a + i) (by omega) (by omega)
      have hnext : ∀ x, mvLe x (rd M0 l ((a + i - 1 : Nat) : Int)) = true → mvLe x (rd M0 l ((a + i : Nat) : Int)) = true := fun x hx => by
        rw [mvLe_iff] at *
        rcases hx with hx | rfl
        · rcases hso1 with h | h
          · exact .inl (mvLt_tr hx h)
          · rw [← h]; exact .inl hx
        · exact hso1
      by_cases hq : rd M0 l ((a + i : Nat) : Int) = rd M0 l ((a + i - 1 : Nat) : Int)
      · rw [decide_eq_true hq]
        simp only [Bool.not_true, cond_false]
        refine cptU9 l hso a n ha hn hll j (i + 1) w s (by omega) (by omega) (by omega) (by omega) hs (fun m hm1 hm2 => hsame m (by omega) hm2) hst (fun x hx => ?_)
        rw [show a + (i + 1) - 1 = a + i by omega]
        exact hnext x (hle x hx)
      · rw [decide_eq_false hq]
        simp only [Bool.not_false, cond_true]
        rw [bt2 ⟨by omega, by omega⟩, bt2 ⟨by omega, by omega⟩]
        have hlt : mvLt (rd M0 l ((a + i - 1 : Nat) : Int)) (rd M0 l ((a + i : Nat) : Int)) = true := by
          rw [mvLe_iff] at hso1
          exact hso1.resolve_right (fun h => hq h.symm)
        have htk := take_set_snoc s w (rd M0 l ((a + i : Nat) : Int)) (by omega)
        refine cptU9 l hso a n ha hn hll j (i + 1) (w + 1) _ (by omega) (by omega) (by omega) (by omega) (by simpa using hs) (fun m hm1 hm2 => ?_) ?_ (fun x hx => ?_)
        · rw [rd_setG _ _ _ _ (by omega)]
          exact hsame m (by omega) hm2
        · rw [htk]
          refine List.pairwise_append.2 ⟨hst, List.pairwise_singleton _ _, fun x hx y hy => ?_⟩
          rw [List.mem_singleton.1 hy]
          have := hle x hx
          rw [mvLe_iff] at this
          rcases this with h | h
          · exact mvLt_tr h hlt
          · rw [h]; exact hlt
        · rw [show a + (i + 1) - 1 = a + i by omega]
          rw [htk] at hx
          rcases List.mem_append.1 hx with hx | hx
          · exact hnext x (hle x hx)
          · rw [List.mem_singleton.1 hx, mvLe_iff]; exact .inr rfl
    · rw [bf1 (show ¬ (i : Int) < (n : Int) by omega)]
      exact ⟨s, w, rfl, hs, by omega, hst⟩
theorem cptU4 (l : List MV) (hl : l.length ≤ 8000) (hso : l.Pairwise (fun x y => mvLe x y = true)) : ∀ (j i : Nat), 1 ≤ i → i ≤ l.length → l.length < i + j → Strict (l.take i) →
    (∃ u, l74_4 9000 j l i = some (.inl (u, ())) ∧ u = l ∧ Strict l) ∨ ∃ s o, l74_4 9000 j l i = some (.inr (s, o, ())) ∧ Strict o
  | 0, i, h1, h2, h3, _ => by omega
  | j + 1, i, h1, h2, h3, hst => by
    rw [l74_4]
    by_cases hi : i < l.length
    · have e : ((i : Int) + 1) = ((i + 1 : Nat) : Int) := by omega
      rw [bt1 (show (i : Int) < l.length by omega), bt2 ⟨by omega, by omega⟩, ws (n := (i : Int) - 1) (by omega), bt2 ⟨by omega, by omega⟩, ws (n := (i : Int) + 1) (by omega), e]
      rw [mv_test3, show (i : Int) - 1 = ((i - 1 : Nat) : Int) by omega]
      have hso1 := sorted_rd hso (i - 1) i (by omega) hi
      by_cases hq : rd M0 l (i : Int) = rd M0 l ((i - 1 : Nat) : Int)
      · rw [show decide (rd ((0, 0, 0, ()) : MV) l (i : Int) = rd ((0, 0, 0, ()) : MV) l ((i - 1 : Nat) : Int)) = true from decide_eq_true hq]
        simp only [cond_true]
        rw [decide_eq_true (show (0 : Int) ≤ i by omega), decide_eq_true (show (i : Int) ≤ l.length by omega), decide_eq_true (show (l.length : Int) ≤ l.length by omega)]
        simp only [Bool.and_self, cond_true]
        obtain ⟨s', w', k1, k2, k3, k4⟩ := cptU9 l hso i (l.length - i) h1 (by omega) (by omega) 9000 1 i l (by omega) (by omega) (by omega) (by omega) (by omega) (fun m _ _ => rfl) hst (fun x hx => by
          rw [show i + 1 - 1 = i by omega, hq]
          obtain ⟨m, hm, rfl⟩ := List.mem_iff_getElem.1 hx
          have hm' : m < i := by simp at hm; omega
          have em : (l.take i)[m] = rd M0 l (m : Int) := by simp [rd, List.getD_eq_getElem?_getD, List.getElem?_eq_getElem (show m < l.length by omega)]
          rw [em]
          by_cases h : m = i - 1
          · rw [h, mvLe_iff]; exact .inr rfl
          · exact sorted_rd hso m (i - 1) (by omega) (by omega))
        rw [show ((((i : Int)).toNat : Nat) : Int) = (i : Int) by omega, show ((((l.length : Int) - (i : Int)).toNat : Nat) : Int) = ((l.length - i : Nat) : Int) by omega]
        rw [show ((1 : Nat) : Int) = 1 from rfl] at k1
        rw [k1]
        simp only [Option.bind_some]
        have hb : Nat.ble ((w' : Int).toNat + ((s'.length : Int) - (w' : Int)).toNat) s'.length = true := Nat.ble_eq_true_of_le (by omega)
        rw [decide_eq_true (show (0 : Int) ≤ (w' : Int) by omega), decide_eq_true (show (w' : Int) ≤ (s'.length : Int) by omega), decide_eq_true (show (s'.length : Int) ≤ (s'.length : Int) by omega), hb]
        simp only [Bool.and_self, cond_true]
        rw [decide_eq_true (show (w' : Int) ≤ (((s'.take (w' : Int).toNat ++ (List.replicate ((s'.length : Int) - (w' : Int)).toNat ((0, 0, 0, ()) : MV) ++ s'.drop ((w' : Int).toNat + ((s'.length : Int) - (w' : Int)).toNat))).length : Nat) : Int) by simp; omega)]
        simp only [cond_true, first_eq]
        refine .inr ⟨_, _, rfl, ?_⟩
        rw [show (w' : Int).toNat = w' by omega, List.take_append_of_le_length (by simp; omega), List.take_take, Nat.min_self]
        exact k4
      · rw [show decide (rd ((0, 0, 0, ()) : MV) l (i : Int) = rd ((0, 0, 0, ()) : MV) l ((i - 1 : Nat) : Int)) = false from decide_eq_false hq]
        simp only [cond_false]
        refine cptU4 l hl hso j (i + 1) (by omega) (by omega) (by omega) ?_
        have htk : l.take (i + 1) = l.take i ++ [rd M0 l (i : Int)] := by
          rw [List.take_add_one]
          congr 1
          simp [rd, List.getD_eq_getElem?_getD, List.getElem?_eq_getElem hi]
        rw [htk]
        refine List.pairwise_append.2 ⟨hst, List.pairwise_singleton _ _, fun x hx y hy => ?_⟩
        rw [List.mem_singleton.1 hy]
        obtain ⟨m, hm, rfl⟩ := List.mem_iff_getElem.1 hx
        have hm' : m < i := by simp at hm; omega
        have em : (l.take i)[m] = rd M0 l (m : Int) := by simp [rd, List.getD_eq_getElem?_getD, List.getElem?_eq_getElem (show m < l.length by omega)]
        rw [em]
        rw [mvLe_iff] at hso1
        have h1 := hso1.resolve_right (fun h => hq h.symm)
        by_cases h : m = i - 1
        · rw [h]; exact h1
        · have h2 := sorted_rd hso m (i - 1) (by omega) (by omega)
          rw [mvLe_iff] at h2
          rcases h2 with h2 | h2
          · exact mvLt_tr h2 h1
          · rw [h2]; exact h1
    · rw [bf1 (show ¬ (i : Int) < l.length by omega)]
      rw [List.take_of_length_le (by omega)] at hst
      exact .inl ⟨l, rfl, rfl, hst⟩
theorem cptU (l o y : List MV) (hl : l.length ≤ 8000) (hso : l.Pairwise (fun x y => mvLe x y = true)) (h : f74 9000 l = some (o, y, ())) : Strict o := by
  unfold f74 at h
  by_cases h2 : (l.length : Int) < 2
  · rw [bt1 h2] at h
    simp only [Option.some.injEq, Prod.mk.injEq] at h
    rw [← h.1]
    match l, h2 with
    | [], _ => exact List.Pairwise.nil
    | [x], _ => exact List.pairwise_singleton _ _
    | x :: y :: l, h2 => simp at h2; omega
  · rw [bf1 h2] at h
    rcases cptU4 l hl hso 9000 1 (by omega) (by omega) (by omega) (by
      match l with
      | [] => exact List.Pairwise.nil
      | x :: l => rw [List.take_succ_cons, List.take_zero]; exact List.pairwise_singleton _ _) with ⟨u, h1, h3, h4⟩ | ⟨s, o', h1, h3⟩
    · rw [show ((1 : Nat) : Int) = 1 from rfl] at h1
      rw [h1] at h
      simp only [Option.bind_some, Sum.elim_inl, Option.some.injEq, Prod.mk.injEq] at h
      rw [← h.1, h3]
      exact h4
    · rw [show ((1 : Nat) : Int) = 1 from rfl] at h1
      rw [h1] at h
      simp only [Option.bind_some, Sum.elim_inr, Option.some.injEq, Prod.mk.injEq] at h
      rw [← h.1]
      exact h3
/-- **moves.Gen**: moves, each once. -/
theorem gen_strict {r : RU} {p : PO} (hp : POK r p) : ∃ g, f42 9000 r p = some (g, ()) ∧ g.length ≤ 8000 ∧ (∀ m ∈ g, MvOK r p m) ∧ Strict g := by
  have hl := hp.len64
  have hn6 := hp.ru.n6
  have key : (hnd p).length = r.2.2.2.1.length → ∃ g, ((l42_3 9000 9000 r p [] (hnd p) ((hnd p).length : Int) 0).bind fun o1 => (l42_13 9000 9000 o1.1 o1.2.1 o1.2.2.1 o1.2.1.1 (o1.2.1.1.length : Int) 0).bind fun o2 => (f72 9000 o2.1).bind fun r3 => (f74 9000 r3.1).bind fun r4 => some (r4.1, ())) = some (g, ()) ∧ Strict g := by
    intro hh
    obtain ⟨o1, h1, m1⟩ := hand3 hp hh 9000 0 [] (by omega) (by omega) (by simp; omega)
    rw [show ((0 : Nat) : Int) = 0 from rfl] at h1
    rw [h1]
    simp only [Option.bind_some]
    have l1 := m1.1
    simp only [List.length_nil] at l1
    obtain ⟨o2, h2, m2⟩ := cells13 hp 9000 0 o1 (by omega) (by omega) (by omega)
    rw [show ((0 : Nat) : Int) = 0 from rfl] at h2
    rw [h2]
    simp only [Option.bind_some]
    have l2 := m2.1
    obtain ⟨o3, h3, l3, m3, so⟩ := sort_sorted o2 (by omega)
    rw [h3]
    simp only [Option.bind_some]
    obtain ⟨o4, y, h4, l4, m4⟩ := cpt_tot o3 (by omega)
    rw [h4]
    exact ⟨o4, rfl, cptU o3 o4 y (by omega) so h4⟩
  obtain ⟨g, hg, g1, g2⟩ := gen_tot hp
  refine ⟨g, hg, g1, g2, ?_⟩
  unfold f42 at hg
  rcases hp.turn with ht | ht
  · have e : hnd p = p.2.1.1 := by unfold hnd; rw [ht]; rfl
    rw [be1 ht, ← e] at hg
    obtain ⟨g', k1, k2⟩ := key (by rw [e]; exact hp.a)
    have := k1.symm.trans hg
    simp only [Option.some.injEq, Prod.mk.injEq, and_true] at this
    rw [← this]; exact k2
  · have e : hnd p = p.2.1.2.1 := by unfold hnd; rw [ht]; rfl
    rw [bn1 (by omega), be1 ht, ← e] at hg
    obtain ⟨g', k1, k2⟩ := key (by rw [e]; exact hp.b)
    have := k1.symm.trans hg
    simp only [Option.some.injEq, Prod.mk.injEq, and_true] at this
    rw [← this]; exact k2
end Go.Proofs.Ytphgopfhobockaa.G
