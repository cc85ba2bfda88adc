/- ClaimWins: who has a move that ends the game in the player's favour is able to win. -/
import Derived.Test.YtphgopfhobockaaTClaims
namespace Go.Proofs.Ytphgopfhobockaa.G
open Go.VM Go.Proofs

/-! ### Pieces of a player -/
def own (pl : Int) : List Int → Int
  | [] => 0
  | x :: l => (if ownr x = pl then 1 else 0) + own pl l
theorem rd_set_self (l : List Int) (i : Nat) (v : Int) (h : i < l.length) : rd 0 (l.set i v) (i : Int) = v := by
  simp [rd, List.getD_eq_getElem?_getD, List.getElem?_set_self h]
theorem own_nn (pl : Int) : ∀ l : List Int, 0 ≤ own pl l ∧ own pl l ≤ l.length
  | [] => by simp [own]
  | x :: l => by
    have := own_nn pl l
    rw [own, List.length_cons]
    split <;> omega
theorem own_drop_le (pl : Int) : ∀ (l : List Int) (i k : Nat), i ≤ k → own pl (l.drop k) ≤ own pl (l.drop i)
  | [], i, k, h => by simp
  | x :: l, 0, k, h => by
    rw [List.drop_zero]
    cases k with
    | zero => simp
    | succ k =>
      rw [List.drop_succ_cons, own]
      have := own_drop_le pl l 0 k (by omega)
      rw [List.drop_zero] at this
      split <;> omega
  | x :: l, i + 1, k, h => by
    cases k with
    | zero => omega
    | succ k =>
      rw [List.drop_succ_cons, List.drop_succ_cons]
      exact own_drop_le pl l i k (by omega)
theorem own_append (pl : Int) : ∀ a b : List Int, own pl (a ++ b) = own pl a + own pl b
  | [], b => by simp [own]
  | x :: a, b => by rw [List.cons_append, own, own, own_append pl a b]; omega
theorem own_take_le (pl : Int) (l : List Int) (i k : Nat) (h : i ≤ k) : own pl (l.take i) ≤ own pl (l.take k) := by
  have e : l.take k = l.take i ++ (l.take k).drop i := by
    have := List.take_append_drop i (l.take k)
    rw [List.take_take, Nat.min_eq_left h] at this
    exact this.symm
  rw [e, own_append]
  have := own_nn pl ((l.take k).drop i)
  omega
theorem own_take_all (pl : Int) (l : List Int) (i : Nat) : own pl (l.take i) ≤ own pl l := by
  have := own_take_le pl l i (max i l.length) (by omega)
  rw [List.take_of_length_le (show l.length ≤ max i l.length by omega)] at this
  exact this
theorem own_set (pl : Int) : ∀ (l : List Int) (i : Nat) (v : Int), i < l.length → own pl (l.set i v) = own pl l - (if ownr (rd 0 l (i : Int)) = pl then 1 else 0) + (if ownr v = pl then 1 else 0)
  | [], i, v, h => by simp at h
  | x :: l, 0, v, h => by rw [rd_zero]; simp only [List.set_cons_zero, own]; omega
  | x :: l, i + 1, v, h => by
    rw [rd_succ]
    simp only [List.set_cons_succ, own]
    rw [own_set pl l i v (by simpa using h)]
    omega
theorem sm_nn {B : Int} : ∀ {l : List Int}, Bnd B l → 0 ≤ sm l ∧ sm l ≤ B * l.length
  | [], _ => by simp [sm]
  | x :: l, h => by
    have h0 := h 0 (by simp)
    have := sm_nn (l := l) (fun m hm => by
      have := h (m + 1) (by simpa using hm)
      rw [rd_succ] at this
      exact this)
    rw [rd_zero] at h0
    rw [sm, List.length_cons]
    have e : B * ((l.length + 1 : Nat) : Int) = B * l.length + B := by rw [Int.natCast_add, Int.mul_add]; simp
    rw [e]
    omega
theorem sm_ge {B : Int} : ∀ {l : List Int}, Bnd B l → ∀ k : Nat, k < l.length → rd 0 l (k : Int) ≤ sm l
  | [], _, k, hk => by simp at hk
  | x :: l, h, k, hk => by
    have h0 := h 0 (by simp)
    rw [rd_zero] at h0
    have hl : Bnd B l := fun m hm => by
      have := h (m + 1) (by simpa using hm)
      rw [rd_succ] at this
      exact this
    rw [sm]
    cases k with
    | zero => rw [rd_zero]; have := (sm_nn hl).1; omega
    | succ k => rw [rd_succ]; have := sm_ge hl k (by simpa using hk); omega
section
variable {r : RU} {p : PO}

/-! ### Rows -/
/-- A bound on the pieces in a row. -/
structure Pot (r : RU) (p : PO) (pl : Int) (d : D2) (G : Int → Int → Int) : Prop where
  nn : ∀ x y, 0 ≤ G x y
  step : ∀ x y, 0 ≤ x → x < r.2.1 → 0 ≤ y → y < r.2.2.1 → ownr (rd 0 p.1 (y * r.2.1 + x)) = pl → 1 + G (x + d.1) (y + d.2.1) ≤ G x y
  le : ∀ x y, G x y ≤ own pl p.1
theorem row8G (hp : POK r p) (pl cn : Int) (hc : 0 ≤ cn ∧ cn ≤ 64) (s9 : Int) (d : D2) (hd : -1 ≤ d.1 ∧ d.1 ≤ 1 ∧ -1 ≤ d.2.1 ∧ d.2.1 ≤ 1) {G : Int → Int → Int} (hG : Pot r p pl d G) (s17 s18 : Int) (dt : DT) (s26 : Int) : ∀ (j : Nat) (x y n : Int), -1 ≤ x ∧ x ≤ 8 → -1 ≤ y ∧ y ≤ 8 → 0 ≤ n ∧ n ≤ 64 → 64 < n + j →
    ∃ n', l127_8 9000 j pl cn r p s9 d x y n s17 s18 dt s26 = some (pl, cn, r, p, s9, n', s17, s18, dt, s26, ()) ∧ n' ≤ n + G x y
  | 0, x, y, n, hx, hy, hn, hj => by omega
  | j + 1, x, y, n, hx, hy, hn, hj => by
    have w8 := hp.ru.w8
    have h8 := hp.ru.h8
    have hlen := hp.len
    have hsq := hp.ru.sq
    have hn6 := hp.ru.n6
    have hnn := hG.nn x y
    rw [l127_8]
    by_cases c1 : x ≥ 0
    rotate_left
    · rw [bf1 c1]; exact ⟨_, rfl, by omega⟩
    rw [bt1 c1]
    by_cases c2 : x < r.2.1
    rotate_left
    · rw [bf1 c2]; exact ⟨_, rfl, by omega⟩
    rw [bt1 c2]
    by_cases c3 : y ≥ 0
    rotate_left
    · rw [bf1 c3]; exact ⟨_, rfl, by omega⟩
    rw [bt1 c3]
    by_cases c4 : y < r.2.2.1
    rotate_left
    · rw [bf1 c4]; exact ⟨_, rfl, by omega⟩
    rw [bt1 c4]
    by_cases c5 : n < cn
    rotate_left
    · rw [bf1 c5]; exact ⟨_, rfl, by omega⟩
    rw [bt1 c5]
    have hix := idx_ok (x := x) (y := y) (w := r.2.1) (h := r.2.2.1) ⟨by omega, c2⟩ ⟨by omega, c4⟩
    have hcell := rdz (l := p.1) hp.cells (k := y * r.2.1 + x) (by omega) (by omega)
    rw [ws (n := y * r.2.1) (by omega), ws (n := y * r.2.1 + x) (by omega), bt2 ⟨by omega, by omega⟩, own_eq]
    simp only [Option.bind_some]
    rw [own_eq' _ ⟨hcell.1, by omega⟩]
    by_cases hb : ownr (rd 0 p.1 (y * r.2.1 + x)) = pl
    · have hst := hG.step x y (by omega) c2 (by omega) c4 hb
      rw [be1 hb, ws (n := x + d.1) (by omega), ws (n := y + d.2.1) (by omega), ws (n := n + 1) (by omega)]
      obtain ⟨n', h1, h2⟩ := row8G hp pl cn hc s9 d hd hG s17 s18 dt s26 j (x + d.1) (y + d.2.1) (n + 1) ⟨by omega, by omega⟩ ⟨by omega, by omega⟩ ⟨by omega, by omega⟩ (by omega)
      exact ⟨n', h1, by omega⟩
    · rw [bn1 hb]
      exact ⟨_, rfl, by omega⟩
theorem own_at (pl : Int) (l : List Int) (i : Int) (h0 : 0 ≤ i) (h1 : i < l.length) (ho : ownr (rd 0 l i) = pl) (k : Int) (hk : i < k) : 1 + own pl (l.drop k.toNat) ≤ own pl (l.drop i.toNat) := by
  obtain ⟨m, rfl⟩ := Int.eq_ofNat_of_zero_le h0
  have := own_drop_le pl l (m + 1) k.toNat (by omega)
  rw [Int.toNat_natCast, drop_rd 0 l m (by omega), own, if_pos ho]
  omega
theorem own_at2 (pl : Int) (l : List Int) (i : Int) (h0 : 0 ≤ i) (h1 : i < l.length) (ho : ownr (rd 0 l i) = pl) (k : Int) (hk : k ≤ i) : 1 + own pl (l.take k.toNat) ≤ own pl (l.take (i + 1).toNat) := by
  obtain ⟨m, rfl⟩ := Int.eq_ofNat_of_zero_le h0
  have := own_take_le pl l k.toNat m (by omega)
  rw [show ((m : Int) + 1).toNat = m + 1 by omega, take_rd 0 l m (by omega), own_append, own, own, if_pos ho]
  omega
theorem pot_up (hp : POK r p) (pl : Int) (d : D2) (hd : d = (1, 0, ()) ∨ d = (0, 1, ()) ∨ d = (1, 1, ())) : Pot r p pl d (fun x y => own pl (p.1.drop (y * r.2.1 + x).toNat)) := by
  have hw := hp.ru.w1
  have hlen := hp.len
  refine ⟨fun x y => (own_nn pl _).1, fun x y hx0 hx1 hy0 hy1 ho => ?_, fun x y => ?_⟩
  · have hix := idx_ok (x := x) (y := y) (w := r.2.1) (h := r.2.2.1) ⟨hx0, hx1⟩ ⟨hy0, hy1⟩
    refine own_at pl p.1 (y * r.2.1 + x) (by omega) (by omega) ho _ ?_
    have e : (y + 1) * r.2.1 = y * r.2.1 + r.2.1 := by rw [Int.add_mul, Int.one_mul]
    rcases hd with rfl | rfl | rfl
    · show y * r.2.1 + x < (y + 0) * r.2.1 + (x + 1)
      rw [Int.add_zero]; omega
    · show y * r.2.1 + x < (y + 1) * r.2.1 + (x + 0)
      omega
    · show y * r.2.1 + x < (y + 1) * r.2.1 + (x + 1)
      omega
  · have := own_drop_le pl p.1 0 (y * r.2.1 + x).toNat (by omega)
    rw [List.drop_zero] at this
    exact this
theorem pot_dn (hp : POK r p) (pl : Int) : Pot r p pl (1, -1, ()) (fun x y => if x < r.2.1 then own pl (p.1.take (y * r.2.1 + x + 1).toNat) else 0) := by
  have hw := hp.ru.w1
  have hlen := hp.len
  refine ⟨fun x y => ?_, fun x y hx0 hx1 hy0 hy1 ho => ?_, fun x y => ?_⟩
  · split
    · exact (own_nn pl _).1
    · exact Int.le_refl 0
  · have hix := idx_ok (x := x) (y := y) (w := r.2.1) (h := r.2.2.1) ⟨hx0, hx1⟩ ⟨hy0, hy1⟩
    have e : (y + -1) * r.2.1 = y * r.2.1 - r.2.1 := by rw [Int.add_mul, Int.neg_one_mul]; omega
    dsimp only
    rw [if_pos hx1, e]
    split
    · exact own_at2 pl p.1 (y * r.2.1 + x) (by omega) (by omega) ho _ (by omega)
    · have := own_at2 pl p.1 (y * r.2.1 + x) (by omega) (by omega) ho 0 (by omega)
      rw [show (0 : Int).toNat = 0 from rfl, List.take_zero, own] at this
      exact this
  · split
    · exact own_take_all pl p.1 _
    · exact (own_nn pl p.1).1
theorem row5G (hp : POK r p) (pl cn : Int) (hc : 0 ≤ cn ∧ cn ≤ 64) (s : Int) (hs : 0 ≤ s ∧ s < p.1.length) (a b : Int) : ∀ (j i : Nat), i ≤ 4 → 4 < i + j →
    l127_5 9000 j pl cn r p s a b DIRS i = some (.inl (pl, cn, r, p, a, b, ())) ∨ (l127_5 9000 j pl cn r p s a b DIRS i = some (.inr (true, ())) ∧ cn ≤ own pl p.1)
  | 0, i, h, h' => by omega
  | j + 1, i, h, h' => by
    have w1 := hp.ru.w1
    have w8 := hp.ru.w8
    have h8 := hp.ru.h8
    have hlen := hp.len
    have hsq := hp.ru.sq
    have hy0 : 0 ≤ s / r.2.1 := Int.ediv_nonneg (by omega) (by omega)
    have hy1 : s / r.2.1 < r.2.2.1 := Int.ediv_lt_of_lt_mul (by omega) (by rw [Int.mul_comm]; omega)
    have hx0 : 0 ≤ s % r.2.1 := Int.emod_nonneg _ (by omega)
    have hx1 : s % r.2.1 < r.2.1 := Int.emod_lt_of_pos _ (by omega)
    have e : ((i : Int) + 1) = ((i + 1 : Nat) : Int) := by omega
    have rest : ∀ (v : Option (Int × Int × RU × PO × Int × Int × Int × Int × DT × Int × Unit)) (n' : Int), v = some (pl, cn, r, p, s, n', a, b, DIRS, (i : Int), ()) → n' ≤ own pl p.1 → i < 4 →
        (v.bind fun o1 => bif o1.2.2.2.2.2.1 == o1.2.1 then some (.inr (true, ())) else l127_5 9000 j o1.1 o1.2.1 o1.2.2.1 o1.2.2.2.1 o1.2.2.2.2.1 o1.2.2.2.2.2.2.1 o1.2.2.2.2.2.2.2.1 o1.2.2.2.2.2.2.2.2.1 (w64 (o1.2.2.2.2.2.2.2.2.2.1 + 1))) = some (.inl (pl, cn, r, p, a, b, ())) ∨
        ((v.bind fun o1 => bif o1.2.2.2.2.2.1 == o1.2.1 then some (.inr (true, ())) else l127_5 9000 j o1.1 o1.2.1 o1.2.2.1 o1.2.2.2.1 o1.2.2.2.2.1 o1.2.2.2.2.2.2.1 o1.2.2.2.2.2.2.2.1 o1.2.2.2.2.2.2.2.2.1 (w64 (o1.2.2.2.2.2.2.2.2.2.1 + 1))) = some (.inr (true, ())) ∧ cn ≤ own pl p.1) := by
      rintro v n' rfl hle hi
      simp only [Option.bind_some]
      by_cases hq : n' = cn
      · rw [be1 hq]
        exact .inr ⟨rfl, by omega⟩
      · rw [bn1 hq, ws (by omega), e]
        exact row5G hp pl cn hc s hs a b j (i + 1) (by omega) (by omega)
    have r8 : ∀ (d : D2) (G : Int → Int → Int), -1 ≤ d.1 ∧ d.1 ≤ 1 ∧ -1 ≤ d.2.1 ∧ d.2.1 ≤ 1 → Pot r p pl d G → ∃ n', l127_8 9000 9000 pl cn r p s d (s % r.2.1) (s / r.2.1) 0 a b DIRS i = some (pl, cn, r, p, s, n', a, b, DIRS, (i : Int), ()) ∧ n' ≤ own pl p.1 :=
      fun d G hd hG => by
        obtain ⟨n', h1, h2⟩ := row8G hp pl cn hc s d hd hG a b DIRS i 9000 (s % r.2.1) (s / r.2.1) 0 ⟨by omega, by omega⟩ ⟨by omega, by omega⟩ ⟨by omega, by omega⟩ (by omega)
        have := hG.le (s % r.2.1) (s / r.2.1)
        exact ⟨n', h1, by omega⟩
    rw [l127_5]
    rw [Int.tmod_eq_emod_of_nonneg (by omega), Int.tdiv_eq_ediv_of_nonneg (by omega), ws (n := s / r.2.1) (by omega)]
    rw [bf1 (α := Option ((Int × Int × RU × PO × Int × Int × Unit) ⊕ (Bool × Unit))) (show ¬ r.2.1 = 0 by omega), bf1 (α := Option ((Int × Int × RU × PO × Int × Int × Unit) ⊕ (Bool × Unit))) (show ¬ r.2.1 = 0 by omega)]
    by_cases h4 : i = 4
    · rw [bf1 (show ¬ (i : Int) < 4 by omega)]
      exact .inl rfl
    rw [bt1 (show (i : Int) < 4 by omega)]
    by_cases h0 : i = 0
    · rw [be1 (show (i : Int) = 0 by omega)]
      obtain ⟨n', hn', hle⟩ := r8 DIRS.1 _ ⟨by decide, by decide, by decide, by decide⟩ (pot_up hp pl _ (.inl rfl))
      exact rest _ n' hn' hle (by omega)
    rw [bn1 (show (i : Int) ≠ 0 by omega)]
    repeat rw [bf1 (α := Option ((Int × Int × RU × PO × Int × Int × Unit) ⊕ (Bool × Unit))) (show ¬ r.2.1 = 0 by omega)]
    by_cases h1 : i = 1
    · rw [be1 (show (i : Int) = 1 by omega)]
      obtain ⟨n', hn', hle⟩ := r8 DIRS.2.1 _ ⟨by decide, by decide, by decide, by decide⟩ (pot_up hp pl _ (.inr (.inl rfl)))
      exact rest _ n' hn' hle (by omega)
    rw [bn1 (show (i : Int) ≠ 1 by omega)]
    by_cases h2 : i = 2
    · rw [be1 (show (i : Int) = 2 by omega)]
      obtain ⟨n', hn', hle⟩ := r8 DIRS.2.2.1 _ ⟨by decide, by decide, by decide, by decide⟩ (pot_up hp pl _ (.inr (.inr rfl)))
      exact rest _ n' hn' hle (by omega)
    rw [bn1 (show (i : Int) ≠ 2 by omega), be1 (show (i : Int) = 3 by omega)]
    obtain ⟨n', hn', hle⟩ := r8 DIRS.2.2.2.1 _ ⟨by decide, by decide, by decide, by decide⟩ (pot_dn hp pl)
    exact rest _ n' hn' hle (by omega)
theorem row2G (hp : POK r p) (pl cn : Int) (hc : 0 ≤ cn ∧ cn ≤ 64) : ∀ (j i : Nat), i ≤ p.1.length → p.1.length < i + j →
    l127_2 9000 j pl cn r p p.1.length i = some (.inl ()) ∨ (l127_2 9000 j pl cn r p p.1.length i = some (.inr (true, ())) ∧ cn ≤ own pl p.1)
  | 0, i, h, h' => by omega
  | j + 1, i, h, h' => by
    have hl := hp.len64
    rw [l127_2]
    by_cases hi : i < p.1.length
    · have e : ((i : Int) + 1) = ((i + 1 : Nat) : Int) := by omega
      rw [bt1 (show (i : Int) < p.1.length by omega)]
      rcases row5G hp pl cn hc (i : Int) ⟨by omega, by omega⟩ (p.1.length : Int) (i : Int) 9000 0 (by omega) (by omega) with h1 | ⟨h1, h2⟩
      · rw [show ((0 : Nat) : Int) = 0 from rfl] at h1
        rw [show ((1, 0, ()), (0, 1, ()), (1, 1, ()), (1, (-1), ()), ()) = DIRS from rfl, h1]
        simp only [Option.bind_some, Sum.elim_inl]
        rw [ws (by omega), e]
        exact row2G hp pl cn hc j (i + 1) (by omega) (by omega)
      · rw [show ((0 : Nat) : Int) = 0 from rfl] at h1
        rw [show ((1, 0, ()), (0, 1, ()), (1, 1, ()), (1, (-1), ()), ()) = DIRS from rfl, h1]
        exact .inr ⟨rfl, h2⟩
    · rw [bf1 (show ¬ (i : Int) < p.1.length by omega)]
      exact .inl rfl
/-- So many pieces in a row: so many pieces. -/
theorem row_own (hp : POK r p) (pl cn : Int) (hc : 0 ≤ cn ∧ cn ≤ 64) (h : f127 9000 r p pl cn = some (true, ())) : cn ≤ own pl p.1 := by
  unfold f127 at h
  have hl := hp.len64
  rcases row2G hp pl cn hc 9000 0 (by omega) (by omega) with h1 | ⟨h1, h2⟩
  · rw [show ((0 : Nat) : Int) = 0 from rfl] at h1
    rw [h1] at h
    cases h
  · exact h2
theorem reach7G (hp : POK r p) (x : EN) (mv : Int) (hmv : mv = 0 ∨ mv = 1) (hx : 0 ≤ x.2.1 ∧ x.2.1 ≤ 6) : ∀ (j i : Nat), i ≤ p.1.length → p.1.length < i + j →
    l101_7 9000 j r x mv p.1 p.1.length i = some (.inl ()) ∨ (l101_7 9000 j r x mv p.1 p.1.length i = some (.inr (true, ())) ∧ ∃ s : Nat, s < p.1.length ∧ rd 0 p.1 (s : Int) = 2 * x.2.1 + mv + 1)
  | 0, i, h, h' => by omega
  | j + 1, i, h, h' => by
    have hl := hp.len64
    rw [l101_7]
    by_cases hi : i < p.1.length
    · have e : ((i : Int) + 1) = ((i + 1 : Nat) : Int) := by omega
      rw [bt1 (show (i : Int) < p.1.length by omega), bt2 ⟨by omega, by omega⟩, ws (n := (i : Int) + 1) (by omega), e]
      have ih := reach7G hp x mv hmv hx j (i + 1) (by omega) (by omega)
      unfold f83
      simp only [Option.bind_some]
      rw [ws (n := 2 * x.2.1) (by omega), ws (n := 2 * x.2.1 + mv) (by omega), ws (n := 2 * x.2.1 + mv + 1) (by omega)]
      by_cases hq : rd 0 p.1 (i : Int) = 2 * x.2.1 + mv + 1
      · rw [be1 hq]
        obtain ⟨z, hz⟩ := far_tot hp.ru mv (i : Int)
        rw [hz]
        simp only [Option.bind_some]
        cases z
        · exact ih
        · exact .inr ⟨rfl, i, hi, hq⟩
      · rw [bn1 hq]
        exact ih
    · rw [bf1 (show ¬ (i : Int) < p.1.length by omega)]
      exact .inl rfl
/-- What a condition says of the mover's pieces. -/
def Has (p : PO) (mv : Int) (x : EN) : Prop := (x.1 = 0 → x.2.2.1 ≤ own mv p.1) ∧ (x.1 = 1 → ∃ s : Nat, s < p.1.length ∧ rd 0 p.1 (s : Int) = 2 * x.2.1 + mv + 1)
theorem holds_has (hp : POK r p) (x : EN) (hx : EnOK (r.2.2.2.1.length : Int) x) (h : f101 9000 r p x = some (true, ())) : Has p (1 - p.2.2.1) x := by
  have htu := hp.turn
  have hn6 := hp.ru.n6
  have ew : w64 (1 - p.2.2.1) = 1 - p.2.2.1 := ws (by omega)
  unfold f101 at h
  by_cases h0 : x.1 = 0
  · refine ⟨fun _ => ?_, fun h1 => absurd h1 (by omega)⟩
    rw [be1 h0, ew] at h
    have hc : 0 ≤ x.2.2.1 ∧ x.2.2.1 ≤ 64 := by rcases hx with h | h | h <;> omega
    obtain ⟨b, hb⟩ := row_tot hp (1 - p.2.2.1) x.2.2.1 hc
    rw [hb] at h
    simp only [Option.bind_some, Option.some.injEq, Prod.mk.injEq, and_true] at h
    subst h
    exact row_own hp _ _ hc hb
  by_cases h1 : x.1 = 1
  · refine ⟨fun h2 => absurd h2 h0, fun _ => ?_⟩
    rw [bn1 h0, be1 h1, ew] at h
    have hl := hp.len64
    rcases reach7G hp x (1 - p.2.2.1) (by omega) (by rcases hx with h | h | h <;> omega) 9000 0 (by omega) (by omega) with h2 | ⟨h2, h3⟩
    · rw [show ((0 : Nat) : Int) = 0 from rfl] at h2
      rw [h2] at h
      cases h
    · exact h3
  · exact ⟨fun h2 => absurd h2 h0, fun h2 => absurd h2 h1⟩
/-- A way to have won. -/
def Won (r : RU) (q : PO) (e : Int) : Prop := r.2.2.2.2.2.2.2.2.1 ≠ 2 ∨ ∃ i : Nat, i < r.2.2.2.2.2.2.2.1.length ∧ ((rd E0 r.2.2.2.2.2.2.2.1 (i : Int)).2.2.2.1 = true ∨ (e = 2 - q.2.2.1 ∧ Has q (1 - q.2.2.1) (rd E0 r.2.2.2.2.2.2.2.1 (i : Int))))
theorem ends3G (hp : POK r p) : ∀ (j i : Nat), i ≤ r.2.2.2.2.2.2.2.1.length → r.2.2.2.2.2.2.2.1.length < i + j →
    l79_3 9000 j r p (1 - p.2.2.1) r.2.2.2.2.2.2.2.1 r.2.2.2.2.2.2.2.1.length i = some (.inl (r, p, 1 - p.2.2.1, ())) ∨ ∃ e, l79_3 9000 j r p (1 - p.2.2.1) r.2.2.2.2.2.2.2.1 r.2.2.2.2.2.2.2.1.length i = some (.inr (e, ())) ∧ Won r p e
  | 0, i, h, h' => by omega
  | j + 1, i, h, h' => by
    have h6 := hp.ru.e6
    have htu := hp.turn
    rw [l79_3]
    by_cases hi : i < r.2.2.2.2.2.2.2.1.length
    · have e : ((i : Int) + 1) = ((i + 1 : Nat) : Int) := by omega
      rw [bt1 (show (i : Int) < r.2.2.2.2.2.2.2.1.length by omega), bt2 ⟨by omega, by omega⟩, ws (n := (i : Int) + 1) (by omega), e]
      obtain ⟨b, hb⟩ := holds_tot hp (rd E0 r.2.2.2.2.2.2.2.1 (i : Int)) _ (hp.ru.ends i hi)
      rw [show rd ((0, 0, 0, false, ()) : EN) r.2.2.2.2.2.2.2.1 (i : Int) = rd E0 r.2.2.2.2.2.2.2.1 (i : Int) from rfl, hb]
      simp only [Option.bind_some]
      cases b
      · exact ends3G hp j (i + 1) (by omega) (by omega)
      · simp only [cond_true]
        cases hlo : (rd E0 r.2.2.2.2.2.2.2.1 (i : Int)).2.2.2.1
        · refine .inr ⟨_, rfl, .inr ⟨i, hi, .inr ⟨?_, holds_has hp _ (hp.ru.ends i hi) hb⟩⟩⟩
          rw [ws (by omega)]; omega
        · exact .inr ⟨_, rfl, .inr ⟨i, hi, .inl hlo⟩⟩
    · rw [bf1 (show ¬ (i : Int) < r.2.2.2.2.2.2.2.1.length by omega)]
      exact .inl rfl
theorem res_won (hp : POK r p) (e : Int) (h : f79 9000 r p = some (e, ())) (he : e = 1 ∨ e = 2) : Won r p e := by
  have htu := hp.turn
  have h6 := hp.ru.e6
  unfold f79 at h
  rw [ws (n := 1 - p.2.2.1) (by omega)] at h
  rcases ends3G hp 9000 0 (by omega) (by omega) with h1 | ⟨e1, h1, h2⟩
  · rw [show ((0 : Nat) : Int) = 0 from rfl] at h1
    rw [h1] at h
    simp only [Option.bind_some, Sum.elim_inl] at h
    obtain ⟨g, hg, _, _⟩ := gen_tot hp
    rw [hg] at h
    simp only [Option.bind_some] at h
    by_cases hb : r.2.2.2.2.2.2.2.2.1 = 2
    · exfalso
      rw [hb, bn1 (show (2 : Int) ≠ 0 by decide), bn1 (show (2 : Int) ≠ 1 by decide)] at h
      revert h
      cases decide (r.2.2.2.2.2.2.2.2.2.1 > 0) <;> cases decide (p.2.2.2.1 ≥ r.2.2.2.2.2.2.2.2.2.1) <;> cases decide ((g.length : Int) > 0) <;> simp <;> omega
    · exact .inl hb
  · rw [show ((0 : Nat) : Int) = 0 from rfl] at h1
    rw [h1] at h
    simp only [Option.bind_some, Sum.elim_inr, Option.some.injEq, Prod.mk.injEq, and_true] at h
    subst h
    exact h2

/-! ### Able -/
theorem becomes_at (hr : ROK r) (kd : Int) : ∀ (j : Nat) (k s7 : Int), 0 ≤ k ∧ k < r.2.2.2.1.length → 0 ≤ s7 ∧ s7 ≤ 6 → 6 < s7 + j →
    (∃ a b, l87_2 9000 j k kd r s7 = some (.inl (a, b, ()))) ∨ ∃ b, l87_2 9000 j k kd r s7 = some (.inr (b, ()))
  | 0, k, s7, hk, h, h' => by omega
  | j + 1, k, s7, hk, h, h' => by
    have hn := hr.n6
    rw [l87_2]
    by_cases c : s7 < 6
    rotate_left
    · rw [bf1 c]; exact .inl ⟨_, _, rfl⟩
    rw [bt1 c]
    by_cases e : k = kd
    · rw [be1 e]; exact .inr ⟨_, rfl⟩
    rw [bn1 e, bt2 ⟨hk.1, hk.2⟩]
    obtain ⟨m, rfl⟩ := Int.eq_ofNat_of_zero_le hk.1
    have hpc : PcOK r.2.2.2.1.length (rd ((0, 0, 0, [], ()) : PC) r.2.2.2.1 (m : Int)) := hr.pcs m (by omega)
    obtain ⟨_, _, _, _, q0, q1, _⟩ := hpc
    by_cases z : (rd ((0, 0, 0, [], ()) : PC) r.2.2.2.1 (m : Int)).2.2.1 = 0
    · rw [be1 z]; exact .inr ⟨_, rfl⟩
    rw [bn1 z, bt2 ⟨hk.1, hk.2⟩, ws (n := (rd ((0, 0, 0, [], ()) : PC) r.2.2.2.1 (m : Int)).2.2.1 - 1) (by omega), ws (n := s7 + 1) (by omega)]
    exact becomes_at hr kd j _ _ ⟨by omega, by omega⟩ ⟨by omega, by omega⟩ (by omega)
/-- It is that type, or can be promoted to it. -/
def Near (r : RU) (k kd : Int) : Prop := k = kd ∨ kd + 1 = (rd P0 r.2.2.2.1 k).2.2.1
theorem becomes_tot (hr : ROK r) (k kd : Int) (hk : 0 ≤ k ∧ k < r.2.2.2.1.length) (hkd : 0 ≤ kd) : ∃ b, f87 9000 r k kd = some (b, ()) ∧ (Near r k kd → b = true) := by
  unfold f87
  have hn := hr.n6
  by_cases hne : Near r k kd
  · rw [l87_2, bt1 (by decide)]
    by_cases e : k = kd
    · rw [be1 e]
      exact ⟨_, rfl, fun _ => rfl⟩
    rw [bn1 e, bt2 ⟨hk.1, hk.2⟩]
    have z : kd + 1 = (rd ((0, 0, 0, [], ()) : PC) r.2.2.2.1 k).2.2.1 := hne.resolve_left e
    rw [← z, bn1 (by omega), bt2 ⟨hk.1, hk.2⟩]
    obtain ⟨m, rfl⟩ := Int.eq_ofNat_of_zero_le hk.1
    have hpc : PcOK r.2.2.2.1.length (rd ((0, 0, 0, [], ()) : PC) r.2.2.2.1 (m : Int)) := hr.pcs m (by omega)
    obtain ⟨_, _, _, _, q0, q1, _⟩ := hpc
    rw [ws (n := kd + 1 - 1) (by omega), show w64 (0 + 1) = 1 by decide, l87_2, bt1 (by decide), be1 (by omega)]
    exact ⟨_, rfl, fun _ => rfl⟩
  · rcases becomes_at hr kd 9000 k 0 hk (by omega) (by omega) with ⟨a, b, h⟩ | ⟨b, h⟩
    · rw [h]
      exact ⟨_, rfl, fun h => absurd h hne⟩
    · rw [h]
      exact ⟨_, rfl, fun h => absurd h hne⟩
theorem ways4 (n al kd so : Int) (ws_ : List WY) (hw : ws_.length ≤ 16) : ∀ (j i : Nat) (tk : Bool), i ≤ ws_.length → ws_.length < i + j → ∃ t, l86_4 9000 j n al r kd so tk ws_ (ws_.length : Int) i = some (al, r, kd, so, t, ())
  | 0, i, tk, h, h' => by omega
  | j + 1, i, tk, h, h' => by
    rw [l86_4]
    by_cases hi : i < ws_.length
    · have e : ((i : Int) + 1) = ((i + 1 : Nat) : Int) := by omega
      rw [bt1 (show (i : Int) < ws_.length by omega), bt2 ⟨by omega, by omega⟩, ws (n := (i : Int) + 1) (by omega), e]
      cases tk
      · simp only [cond_false]
        by_cases c : n > 0
        · rw [bt1 c]; exact ways4 n al kd so ws_ hw j (i + 1) _ (by omega) (by omega)
        · rw [bf1 c]; exact ways4 n al kd so ws_ hw j (i + 1) _ (by omega) (by omega)
      · exact ways4 n al kd so ws_ hw j (i + 1) _ (by omega) (by omega)
    · rw [bf1 (show ¬ (i : Int) < ws_.length by omega)]
      exact ⟨_, rfl⟩
/-- One more kind of piece. -/
theorem count_tot1 (hr : ROK r) (k n al kd so : Int) (tk : Bool) (hk : 0 ≤ k ∧ k < r.2.2.2.1.length) (hkd : 0 ≤ kd) (hn : 0 ≤ n ∧ n ≤ 1000) (hal : 0 ≤ al ∧ al ≤ 100000) (hso : 0 ≤ so ∧ so ≤ 100000) :
    ∃ so' t, f86 9000 k n al r kd so tk = some (al + n, r, kd, so', t, ()) ∧ so ≤ so' ∧ so' ≤ so + n ∧ (Near r k kd → so' = so + n) := by
  unfold f86
  obtain ⟨b, hb, hnear⟩ := becomes_tot hr k kd hk hkd
  rw [hb]
  simp only [Option.bind_some]
  have hn6 := hr.n6
  obtain ⟨m, rfl⟩ := Int.eq_ofNat_of_zero_le hk.1
  have hpc : PcOK r.2.2.2.1.length (rd ((0, 0, 0, [], ()) : PC) r.2.2.2.1 (m : Int)) := hr.pcs m (by omega)
  have hw := hpc.2.2.2.2.2.2.1
  rw [bt2 ⟨hk.1, hk.2⟩, bt2 ⟨hk.1, hk.2⟩, ws (n := al + n) (by omega), ws (n := so + n) (by omega)]
  have w4 := fun so' => ways4 (r := r) n (al + n) kd so' (rd ((0, 0, 0, [], ()) : PC) r.2.2.2.1 (m : Int)).2.2.2.1 hw 9000 0 tk (by omega) (by omega)
  cases b
  · obtain ⟨t, ht⟩ := w4 so
    rw [show ((0 : Nat) : Int) = 0 from rfl] at ht
    simp only [cond_false]
    rw [ht]
    exact ⟨so, t, rfl, by omega, by omega, fun h => absurd (hnear h) (by decide)⟩
  · obtain ⟨t, ht⟩ := w4 (so + n)
    rw [show ((0 : Nat) : Int) = 0 from rfl] at ht
    simp only [cond_true]
    rw [ht]
    exact ⟨so + n, t, rfl, by omega, by omega, fun _ => rfl⟩
theorem cells4 (hp : POK r p) (pl kd : Int) (hpl : pl = 0 ∨ pl = 1) (hkd : 0 ≤ kd) : ∀ (j i : Nat) (al so : Int) (tk : Bool), i ≤ p.1.length → p.1.length < i + j → 0 ≤ so ∧ so ≤ al → al ≤ i →
    ∃ so' t, l58_4 9000 j pl r p kd al so tk () p.1 (p.1.length : Int) i = some (pl, r, p, kd, al + own pl (p.1.drop i), so', t, (), ()) ∧ so ≤ so' ∧ so' ≤ al + own pl (p.1.drop i) ∧
      (∀ s : Nat, i ≤ s → s < p.1.length → rd 0 p.1 (s : Int) ≠ 0 → ownr (rd 0 p.1 (s : Int)) = pl → Near r (knd (rd 0 p.1 (s : Int))) kd → 1 ≤ so')
  | 0, i, al, so, tk, h, h', _, _ => by omega
  | j + 1, i, al, so, tk, h, h', hso, hal => by
    have hl := hp.len64
    have hn6 := hp.ru.n6
    rw [l58_4]
    by_cases hi : i < p.1.length
    · have e : ((i : Int) + 1) = ((i + 1 : Nat) : Int) := by omega
      have hc := hp.cells i hi
      rw [bt1 (show (i : Int) < p.1.length by omega), bt2 ⟨by omega, by omega⟩, ws (n := (i : Int) + 1) (by omega), e, own_eq]
      simp only [Option.bind_some]
      rw [own_eq' _ ⟨hc.1, by omega⟩, drop_rd 0 p.1 i hi, own]
      by_cases ho : ownr (rd 0 p.1 (i : Int)) = pl
      · rw [be1 ho, if_pos ho]
        by_cases hz : rd 0 p.1 (i : Int) = 0
        · have hpl1 : pl = -1 := by rw [← ho, hz]; rfl
          omega
        · obtain ⟨hkk, k0, k1⟩ := kind_eq' (rd 0 p.1 (i : Int)) r.2.2.2.1.length (by omega) hc.2 (by omega)
          rw [hkk]
          simp only [Option.bind_some]
          obtain ⟨so1, t1, h1, h2, h3, h4⟩ := count_tot1 hp.ru (knd (rd 0 p.1 (i : Int))) 1 al kd so tk ⟨k0, k1⟩ hkd (by omega) (by omega) (by omega)
          rw [h1]
          simp only [Option.bind_some]
          obtain ⟨so2, t2, g1, g2, g3, g4⟩ := cells4 hp pl kd hpl hkd j (i + 1) (al + 1) so1 t1 (by omega) (by omega) (by omega) (by omega)
          rw [g1]
          refine ⟨so2, t2, by rw [show al + 1 + own pl (List.drop (i + 1) p.1) = al + (1 + own pl (List.drop (i + 1) p.1)) by omega], by omega, by omega, fun s hs1 hs2 hs3 hs4 hs5 => ?_⟩
          by_cases hsi : s = i
          · subst hsi
            have := h4 hs5
            omega
          · exact g4 s (by omega) hs2 hs3 hs4 hs5
      · rw [bn1 ho, if_neg ho]
        obtain ⟨so2, t2, g1, g2, g3, g4⟩ := cells4 hp pl kd hpl hkd j (i + 1) al so tk (by omega) (by omega) hso (by omega)
        rw [g1]
        refine ⟨so2, t2, by rw [show al + own pl (List.drop (i + 1) p.1) = al + (0 + own pl (List.drop (i + 1) p.1)) by omega], by omega, by omega, fun s hs1 hs2 hs3 hs4 hs5 => ?_⟩
        by_cases hsi : s = i
        · subst hsi
          exact absurd hs4 ho
        · exact g4 s (by omega) hs2 hs3 hs4 hs5
    · rw [bf1 (show ¬ (i : Int) < p.1.length by omega), List.drop_eq_nil_of_le (by omega), own]
      exact ⟨so, tk, by rw [Int.add_zero], by omega, by omega, fun s h1 h2 => by omega⟩
theorem hands10 (hr : ROK r) (kd : Int) (hkd : 0 ≤ kd) (l : List Int) (hl : l.length = r.2.2.2.1.length) (hb : Bnd 1000 l) : ∀ (j i : Nat) (al so : Int) (tk : Bool), i ≤ l.length → l.length < i + j → 0 ≤ so ∧ so ≤ al → al ≤ 64 + 1000 * i →
    ∃ so' t, l58_10 9000 j r kd al so tk () l (l.length : Int) i = some (al + sm (l.drop i), so', t, ()) ∧ so ≤ so' ∧
      (∀ s : Nat, i ≤ s → s < l.length → 1 ≤ rd 0 l (s : Int) → Near r (s : Int) kd → 1 ≤ so')
  | 0, i, al, so, tk, h, h', _, _ => by omega
  | j + 1, i, al, so, tk, h, h', hso, hal => by
    have hn6 := hr.n6
    rw [l58_10]
    by_cases hi : i < l.length
    · have e : ((i : Int) + 1) = ((i + 1 : Nat) : Int) := by omega
      have hc := hb i hi
      rw [bt1 (show (i : Int) < l.length by omega), bt2 ⟨by omega, by omega⟩, ws (n := (i : Int) + 1) (by omega), e]
      obtain ⟨so1, t1, h1, h2, h3, h4⟩ := count_tot1 hr (i : Int) (rd 0 l (i : Int)) al kd so tk ⟨by omega, by omega⟩ hkd hc (by omega) (by omega)
      rw [h1]
      simp only [Option.bind_some]
      obtain ⟨so2, t2, g1, g2, g4⟩ := hands10 hr kd hkd l hl hb j (i + 1) (al + rd 0 l (i : Int)) so1 t1 (by omega) (by omega) (by omega) (by omega)
      rw [g1, drop_rd 0 l i hi, sm]
      refine ⟨so2, t2, by rw [Int.add_assoc], by omega, fun s hs1 hs2 hs3 hs4 => ?_⟩
      by_cases hsi : s = i
      · subst hsi
        have := h4 hs4
        omega
      · exact g4 s (by omega) hs2 hs3 hs4
    · rw [bf1 (show ¬ (i : Int) < l.length by omega), List.drop_eq_nil_of_le (by omega), sm]
      exact ⟨so, tk, by rw [Int.add_zero], by omega, fun s h1 h2 => by omega⟩
def hndOf (p : PO) (pl : Int) : List Int := if pl = 0 then p.2.1.1 else p.2.1.2.1
/-- A player has a piece of that type, or one that can be promoted to it. -/
def Some1 (r : RU) (p : PO) (pl kd : Int) : Prop := (∃ s : Nat, s < p.1.length ∧ rd 0 p.1 (s : Int) ≠ 0 ∧ ownr (rd 0 p.1 (s : Int)) = pl ∧ Near r (knd (rd 0 p.1 (s : Int))) kd) ∨
  ∃ s : Nat, s < r.2.2.2.1.length ∧ 1 ≤ rd 0 (hndOf p pl) (s : Int) ∧ Near r (s : Int) kd
theorem pieces_eq (hp : POK r p) (pl kd : Int) (hpl : pl = 0 ∨ pl = 1) (hkd : 0 ≤ kd) : ∃ so t, f58 9000 r p pl kd = some (own pl p.1 + sm (hndOf p pl), so, t, ()) ∧ (Some1 r p pl kd → 1 ≤ so) := by
  unfold f58
  have hl := hp.len64
  have hn6 := hp.ru.n6
  obtain ⟨so1, t1, h1, h2, h3, h4⟩ := cells4 hp pl kd hpl hkd 9000 0 0 0 false (by omega) (by omega) (by omega) (by omega)
  rw [show ((0 : Nat) : Int) = 0 from rfl, List.drop_zero, Int.zero_add] at h1
  rw [List.drop_zero, Int.zero_add] at h3
  rw [h1]
  simp only [Option.bind_some]
  have hown := own_nn pl p.1
  rcases hpl with rfl | rfl
  · rw [be1 rfl]
    have ha := hp.a
    obtain ⟨so2, t2, g1, g2, g4⟩ := hands10 hp.ru kd hkd p.2.1.1 hp.a hp.ha 9000 0 (own 0 p.1) so1 t1 (by omega) (by omega) (by omega) (by omega)
    rw [show ((0 : Nat) : Int) = 0 from rfl, List.drop_zero] at g1
    rw [g1]
    refine ⟨so2, t2, rfl, ?_⟩
    rintro (⟨s, s1, s2, s3, s4⟩ | ⟨s, s1, s2, s3⟩)
    · have := h4 s (by omega) s1 s2 s3 s4
      omega
    · exact g4 s (by omega) (by rw [ha]; exact s1) s2 s3
  · rw [bn1 (by decide), be1 rfl]
    have ha := hp.b
    obtain ⟨so2, t2, g1, g2, g4⟩ := hands10 hp.ru kd hkd p.2.1.2.1 hp.b hp.hb 9000 0 (own 1 p.1) so1 t1 (by omega) (by omega) (by omega) (by omega)
    rw [show ((0 : Nat) : Int) = 0 from rfl, List.drop_zero] at g1
    rw [g1]
    refine ⟨so2, t2, rfl, ?_⟩
    rintro (⟨s, s1, s2, s3, s4⟩ | ⟨s, s1, s2, s3⟩)
    · have := h4 s (by omega) s1 s2 s3 s4
      omega
    · exact g4 s (by omega) (by rw [ha]; exact s1) s2 s3
theorem able_step {α : Type} (L k2 k0 ac kp tk k1 sp : Bool) (T X : α) : (bif L then T else bif k2 then T else bif k0 then bif ac then T else bif kp then bif tk then T else bif k1 then bif sp then T else bif kp then bif tk then T else X else X else X else bif k1 then bif sp then T else bif kp then bif tk then T else X else X else X else bif k1 then bif sp then T else bif kp then bif tk then T else X else X else X) =
    bif L || k2 || (k0 && (ac || kp && tk)) || (k1 && (sp || kp && tk)) then T else X := by
  cases L <;> cases k2 <;> cases k0 <;> cases ac <;> cases kp <;> cases tk <;> cases k1 <;> cases sp <;> rfl
/-- A condition that a player can fulfil. -/
def Can (r : RU) (p : PO) (pl : Int) (x : EN) : Prop := x.2.2.2.1 = true ∨ x.1 = 2 ∨ (x.1 = 0 ∧ x.2.2.1 ≤ own pl p.1 + sm (hndOf p pl)) ∨ (x.1 = 1 ∧ Some1 r p pl x.2.1)
theorem able9 (hp : POK r p) (pl : Int) (hpl : pl = 0 ∨ pl = 1) (i0 : Nat) (hi0 : i0 < r.2.2.2.2.2.2.2.1.length) (hcan : Can r p pl (rd E0 r.2.2.2.2.2.2.2.1 (i0 : Int))) : ∀ (j i : Nat), i ≤ i0 → r.2.2.2.2.2.2.2.1.length < i + j →
    l30_9 9000 j pl r p r.2.2.2.2.2.2.2.1 (r.2.2.2.2.2.2.2.1.length : Int) i = some (.inr (true, 0, ()))
  | 0, i, h, h' => by omega
  | j + 1, i, h, h' => by
    have h6 := hp.ru.e6
    have hi : i < r.2.2.2.2.2.2.2.1.length := by omega
    have e : ((i : Int) + 1) = ((i + 1 : Nat) : Int) := by omega
    have hx : EnOK (r.2.2.2.1.length : Int) (rd E0 r.2.2.2.2.2.2.2.1 (i : Int)) := hp.ru.ends i hi
    rw [l30_9, bt1 (show (i : Int) < r.2.2.2.2.2.2.2.1.length by omega), bt2 ⟨by omega, by omega⟩, ws (n := (i : Int) + 1) (by omega), e]
    rw [show rd ((0, 0, 0, false, ()) : EN) r.2.2.2.2.2.2.2.1 (i : Int) = rd E0 r.2.2.2.2.2.2.2.1 (i : Int) from rfl]
    obtain ⟨so, t, h1, h2⟩ := pieces_eq hp pl (rd E0 r.2.2.2.2.2.2.2.1 (i : Int)).2.1 hpl (by rcases hx with h | h | h <;> omega)
    rw [h1]
    simp only [Option.bind_some]
    rw [able_step]
    by_cases hii : i = i0
    · subst hii
      have hT : ∀ b : Bool, b = true → ∀ X : Option (Unit ⊕ (Bool × Int × Unit)), (bif b then some (.inr (true, 0, ())) else X) = some (.inr (true, 0, ())) := by rintro b rfl X; rfl
      refine hT _ ?_ _
      rcases hcan with h | h | ⟨ha, hb⟩ | ⟨ha, hb⟩
      · rw [h]; rfl
      · rw [h]; simp
      · rw [ha, decide_eq_true (show own pl p.1 + sm (hndOf p pl) ≥ (rd E0 r.2.2.2.2.2.2.2.1 (i : Int)).2.2.1 from hb)]; simp
      · have := h2 hb
        rw [ha, decide_eq_true (show so > 0 by omega)]; simp
    · have ih := able9 hp pl hpl i0 hi0 hcan j (i + 1) (by omega) (by omega)
      rw [ih]
      cases ((rd E0 r.2.2.2.2.2.2.2.1 (i : Int)).2.2.2.1 || (rd E0 r.2.2.2.2.2.2.2.1 (i : Int)).1 == 2 || ((rd E0 r.2.2.2.2.2.2.2.1 (i : Int)).1 == 0 && (decide (own pl p.1 + sm (hndOf p pl) ≥ (rd E0 r.2.2.2.2.2.2.2.1 (i : Int)).2.2.1) || r.2.2.2.2.2.2.1 && t)) || ((rd E0 r.2.2.2.2.2.2.2.1 (i : Int)).1 == 1 && (decide (so > 0) || r.2.2.2.2.2.2.1 && t))) <;> rfl
theorem able_ok (hz : Rz r) (hp : POK r p) (pl : Int) (hpl : pl = 0 ∨ pl = 1) (h : r.2.2.2.2.2.2.2.2.1 ≠ 2 ∨ ∃ i : Nat, i < r.2.2.2.2.2.2.2.1.length ∧ Can r p pl (rd E0 r.2.2.2.2.2.2.2.1 (i : Int))) : f30 9000 r p pl = some (true, 0, ()) := by
  unfold f30
  rw [place_ok hz hp]
  simp only [Option.bind_some]
  rw [beq1 rfl, bf1 (show ¬ pl < 0 by omega), bf1 (show ¬ pl > 1 by omega)]
  by_cases hb : r.2.2.2.2.2.2.2.2.1 = 2
  · obtain ⟨i, hi, hc⟩ := h.resolve_left (fun h => h hb)
    have h6 := hp.ru.e6
    rw [beq1 hb]
    have := able9 hp pl hpl i hi hc 9000 0 (by omega) (by omega)
    rw [show ((0 : Nat) : Int) = 0 from rfl] at this
    rw [this]
    rfl
  · rw [bne1 hb]
/-! ### Before and after the move -/
theorem hndOf_turn (hp : POK r p) : hndOf p p.2.2.1 = hnd p := by
  unfold hndOf hnd
  rcases hp.turn with h | h <;> rw [h] <;> rfl
theorem ownr_cell (k t : Int) (ht : t = 0 ∨ t = 1) (hk : 0 ≤ k) : ownr (2 * k + t + 1) = t ∧ knd (2 * k + t + 1) = k := by
  unfold ownr knd
  constructor
  · rw [if_neg (by omega)]; omega
  · omega
theorem can_of (hp : POK r p) (m : MV) (hm : MvOK r p m) (x : EN) (hx : EnOK (r.2.2.2.1.length : Int) x) (h : Has (doP r p m) p.2.2.1 x) : Can r p p.2.2.1 x := by
  have hl := hp.len64
  have htu := hp.turn
  have hA : Bnd 1000 (hnd p) := by
    unfold hnd
    rcases htu with h | h <;> rw [h]
    · exact hp.ha
    · exact hp.hb
  have hlh : (hnd p).length = r.2.2.2.1.length := by
    unfold hnd
    rcases htu with h | h <;> rw [h]
    · exact hp.a
    · exact hp.b
  obtain ⟨t0, t1, k0, k1, hcase⟩ := hm
  have hoc := ownr_cell m.2.2.1 p.2.2.1 htu k0
  rcases hx with ⟨e0, e1, e2, e3⟩ | ⟨e0, e1, e2, e3⟩ | ⟨e0, _⟩
  · -- a row
    refine .inr (.inr (.inl ⟨e0, ?_⟩))
    have hle := h.1 e0
    have hc : (doP r p m).1 = doCells p m := rfl
    rw [hc] at hle
    rw [hndOf_turn hp]
    have hs := sm_nn hA
    obtain ⟨t, ht⟩ := Int.eq_ofNat_of_zero_le t0
    unfold doCells at hle
    rw [ht, Int.toNat_natCast] at hle
    rcases hcase with ⟨hd, hh, c0⟩ | ⟨g0, g1, f1, f2, f3, _⟩
    · rw [if_pos (show m.1 < 0 by omega), own_set _ _ _ _ (by omega), ← ht, c0, hoc.1, if_pos rfl, if_neg (show ¬ ownr 0 = p.2.2.1 by unfold ownr; rw [if_pos rfl]; omega)] at hle
      obtain ⟨k, hk⟩ := Int.eq_ofNat_of_zero_le k0
      have := sm_ge hA k (by omega)
      rw [← hk] at this
      omega
    · obtain ⟨f, hf⟩ := Int.eq_ofNat_of_zero_le g0
      rw [if_neg (show ¬ m.1 < 0 by omega), hf, Int.toNat_natCast, own_set _ _ _ _ (by simp; omega), own_set _ _ _ _ (by omega), ← hf, f2, if_pos rfl, hoc.1, if_pos rfl, if_neg (show ¬ ownr 0 = p.2.2.1 by unfold ownr; rw [if_pos rfl]; omega)] at hle
      revert hle
      split <;> omega
  · -- a piece that has arrived
    refine .inr (.inr (.inr ⟨e0, ?_⟩))
    obtain ⟨s, hs1, hs2⟩ := h.2 e0
    have hc : (doP r p m).1 = doCells p m := rfl
    rw [hc] at hs1 hs2
    have hlen : (doCells p m).length = p.1.length := by unfold doCells; split <;> simp
    rw [hlen] at hs1
    obtain ⟨t, ht⟩ := Int.eq_ofNat_of_zero_le t0
    obtain ⟨k, hk⟩ := Int.eq_ofNat_of_zero_le k0
    unfold doCells at hs2
    rw [ht, Int.toNat_natCast] at hs2
    have hox := ownr_cell x.2.1 p.2.2.1 htu e1
    by_cases hst : t = s
    · subst hst
      rw [rd_set_self _ _ _ (by split <;> first | exact hs1 | (rw [List.length_set]; exact hs1))] at hs2
      have hkx : m.2.2.1 = x.2.1 := by omega
      rcases hcase with ⟨hd, hh, c0⟩ | ⟨g0, g1, f1, f2, f3, f4⟩
      · refine .inr ⟨k, by omega, ?_, .inl (by omega)⟩
        rw [hndOf_turn hp, ← hk]
        omega
      · obtain ⟨f, hf⟩ := Int.eq_ofNat_of_zero_le g0
        rw [hf] at f1 f2 f4
        refine .inl ⟨f, by omega, by omega, f2, ?_⟩
        rcases f4 with h | h
        · exact .inl (by omega)
        · exact .inr (by rw [← h]; omega)
    · rw [rd_set _ _ _ _ hst] at hs2
      rcases hcase with ⟨hd, hh, c0⟩ | ⟨g0, g1, f1, f2, f3, f4⟩
      · rw [if_pos (show m.1 < 0 by omega)] at hs2
        exact .inl ⟨s, hs1, by omega, by rw [hs2]; exact hox.1, by rw [hs2]; exact .inl hox.2⟩
      · obtain ⟨f, hf⟩ := Int.eq_ofNat_of_zero_le g0
        rw [if_neg (show ¬ m.1 < 0 by omega), hf, Int.toNat_natCast] at hs2
        by_cases hsf : f = s
        · subst hsf
          rw [rd_set_self _ _ _ (by omega)] at hs2
          omega
        · rw [rd_set _ _ _ _ hsf] at hs2
          exact .inl ⟨s, hs1, by omega, by rw [hs2]; exact hox.1, by rw [hs2]; exact .inl hox.2⟩
  · exact .inr (.inl e0)
end
theorem sliceTake {α : Type} (l : List α) (n : Nat) (h : n ≤ l.length) : sliceOf l 0 (n : Int) = l.take n := by
  unfold sliceOf
  simp
/-- **ClaimWins**: who has a move that ends the game in the player's favour is able to win. -/
theorem wins_pure (r : RU) (l : List MV) : f7 9000 r l = some (true, ()) := by
  unfold f7
  rw [claims_eq]
  simp only [Option.bind_some, Bool.not_true, cond_false]
  rw [cut40]
  simp only [Option.bind_some]
  generalize hq : l.take 40 = a
  have hl : a.length ≤ 40 := by rw [← hq]; simp; omega
  unfold f12
  simp only [Option.bind_some]
  cases decide ((r.2.2.2.2.1.length : Int) > 20)
  rotate_left
  · rfl
  simp only [cond_false]
  by_cases h0 : a.length = 0
  · rw [be1 (show (a.length : Int) = 0 by omega)]
  rw [bn1 (show (a.length : Int) ≠ 0 by omega)]
  have e1 : w64 ((a.length : Int) - 1) = ((a.length - 1 : Nat) : Int) := by rw [ws (by omega)]; omega
  rw [e1, bt2 ⟨by omega, by omega⟩, sliceTake a _ (by omega)]
  have ea : a.take (a.length - 1) ++ [rd M0 a ((a.length - 1 : Nat) : Int)] = a := by
    rw [← take_rd M0 a (a.length - 1) (by omega), show a.length - 1 + 1 = a.length by omega, List.take_of_length_le (Nat.le_refl _)]
  rcases run_tot r (a.take (a.length - 1)) (by simp; omega) with ⟨hz, g1, x1, hpl1, hg1, hp1, hres1, hrun1⟩ | ⟨⟨er1, he1, hrun1⟩, _⟩
  rotate_left
  · obtain ⟨v, hv⟩ : ∃ v, f29 9000 r a = some v := by
      rcases run_tot r a (by omega) with ⟨_, g, x, _, _, _, _, h⟩ | ⟨⟨_, _, h⟩, _⟩ <;> exact ⟨_, h⟩
    rw [hrun1, hv]
    simp only [Option.bind_some]
    rw [bne1 he1]
  rcases run_tot r a (by omega) with ⟨_, g2, x2, hpl2, hg2, hp2, hres2, hrun2⟩ | ⟨⟨er2, he2, hrun2⟩, _⟩
  rotate_left
  · rw [hrun1, hrun2]
    simp only [Option.bind_some]
    rw [beq1 rfl, bne1 he2]
  rw [hrun1, hrun2]
  simp only [Option.bind_some]
  rw [beq1 rfl, beq1 rfl]
  -- the last move
  rw [← ea] at hpl2
  obtain ⟨g3, h3, h4⟩ := Plays.cut hpl2
  have e3 : g1 = g3 := hpl1.det h3
  subst e3
  obtain ⟨g4, h5, h6⟩ := h4
  have e4 : g4 = g2 := h6
  subst e4
  have hlt : g1.2.2.1.length ≤ 400 := by rw [hp1]; simp; omega
  rcases play_tot hz hg1 hlt (rd M0 a ((a.length - 1 : Nat) : Int)) with ⟨e, he, hp⟩ | ⟨q, hp, hok, _, _, hdo, hmv⟩
  · rw [h5] at hp
    simp only [Option.some.injEq, Prod.mk.injEq] at hp
    exact absurd hp.1.symm he
  rw [h5] at hp
  simp only [Option.some.injEq, Prod.mk.injEq, true_and, and_true] at hp
  have hpk := (hg1.now_eq hz.ok hlt).2
  have hq2 : GM.now g4 = q := by unfold GM.now; rw [hp]; simp
  rw [do_eq hpk _ hmv] at hdo
  simp only [Option.some.injEq, Prod.mk.injEq, and_true] at hdo
  have hpk2 : POK r q := by
    have := (hg2.now_eq hz.ok (by rw [hp2]; omega)).2
    rw [hq2] at this
    exact this
  obtain ⟨e, x, hee, hxx, hcase⟩ := result_tot hz.ok hg2 (by rw [hp2]; omega)
  rw [hres2] at hxx
  simp only [Option.some.injEq, Prod.mk.injEq, and_true] at hxx
  subst hxx
  rw [hq2] at hee
  have htu := hpk.turn
  have key : x2 = 1 ∨ x2 = 2 → f30 9000 r g1.now (w64 (x2 - 1)) = some (true, 0, ()) := by
    intro hx
    rw [ws (n := x2 - 1) (by omega)]
    refine able_ok hz hpk _ (by omega) ?_
    have hxe : x2 = e := by omega
    rw [← hxe] at hee
    rcases res_won hpk2 x2 hee hx with h | ⟨i, hi, h | ⟨ht, hhas⟩⟩
    · exact .inl h
    · exact .inr ⟨i, hi, .inl h⟩
    · refine .inr ⟨i, hi, ?_⟩
      have hturn : q.2.2.1 = 1 - g1.now.2.2.1 := by rw [← hdo]; rfl
      rw [hturn, show (1 : Int) - (1 - g1.now.2.2.1) = g1.now.2.2.1 by omega, ← hdo] at hhas
      rw [show x2 - 1 = g1.now.2.2.1 by omega]
      exact can_of hpk _ hmv _ (hz.ok.ends i hi) hhas
  by_cases hx1 : x2 = 1
  · rw [beq1 hx1, key (.inl hx1)]
    rfl
  · rw [bne1 hx1]
    by_cases hx2 : x2 = 2
    · rw [beq1 hx2, key (.inr hx2)]
      rfl
    · rw [bne1 hx2]
end Go.Proofs.Ytphgopfhobockaa.G
