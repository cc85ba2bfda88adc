/- Whether a position is over: there is an answer. -/
import Derived.Test.YtgglflagbbfalaaTHas
namespace Go.Proofs.Ytgglflagbbfalaa.G
open Go.VM Go.Proofs
section
variable {r : RU} {p : PO}
abbrev D2 := Int × Int × Unit
abbrev DT := D2 × D2 × D2 × D2 × Unit
theorem row8 (hp : POK r p) (pl cn : Int) (hc : 0 ≤ cn ∧ cn ≤ 64) (s9 : Int) (d : D2) (hd : -1 ≤ d.1 ∧ d.1 ≤ 1 ∧ -1 ≤ d.2.1 ∧ d.2.1 ≤ 1) (s17 s18 : Int) (dt : DT) (s26 : Int) : ∀ (j : Nat) (x y n : Int), -1 ≤ x ∧ x ≤ 8 → -1 ≤ y ∧ y ≤ 8 → 0 ≤ n ∧ n ≤ 64 → 64 < n + j →
    ∃ n', l51_8 9000 j pl cn r p s9 d x y n s17 s18 dt s26 = some (pl, cn, r, p, s9, n', s17, s18, dt, s26, ())
  | 0, x, y, n, hx, hy, hn, hj => by omega
  | j + 1, x, y, n, hx, hy, hn, hj => by
    have w8 := hp.ru.w8
    have h8 := hp.ru.h8
    have hlen := hp.len
    have hsq := hp.ru.sq
    rw [l51_8]
    by_cases c1 : x ≥ 0
    rotate_left
    · rw [bf1 c1]; exact ⟨_, rfl⟩
    rw [bt1 c1]
    by_cases c2 : x < r.2.1
    rotate_left
    · rw [bf1 c2]; exact ⟨_, rfl⟩
    rw [bt1 c2]
    by_cases c3 : y ≥ 0
    rotate_left
    · rw [bf1 c3]; exact ⟨_, rfl⟩
    rw [bt1 c3]
    by_cases c4 : y < r.2.2.1
    rotate_left
    · rw [bf1 c4]; exact ⟨_, rfl⟩
    rw [bt1 c4]
    by_cases c5 : n < cn
    rotate_left
    · rw [bf1 c5]; exact ⟨_, rfl⟩
    rw [bt1 c5]
    have hix := idx_ok (x := x) (y := y) (w := r.2.1) (h := r.2.2.1) ⟨by omega, c2⟩ ⟨by omega, c4⟩
    rw [ws (n := y * r.2.1) (by omega), ws (n := y * r.2.1 + x) (by omega), bt2 ⟨by omega, by omega⟩, own_eq]
    simp only [Option.bind_some]
    generalize ((bif rd 0 p.1 (y * r.2.1 + x) == 0 then (-1 : Int) else (w64 (rd 0 p.1 (y * r.2.1 + x) - 1)).tmod 2) == pl) = bb
    cases bb
    · exact ⟨_, rfl⟩
    · simp only [cond_true]
      rw [ws (n := x + d.1) (by omega), ws (n := y + d.2.1) (by omega), ws (n := n + 1) (by omega)]
      exact row8 hp pl cn hc s9 d hd s17 s18 dt s26 j _ _ _ ⟨by omega, by omega⟩ ⟨by omega, by omega⟩ ⟨by omega, by omega⟩ (by omega)
def DIRS : DT := ((1, 0, ()), (0, 1, ()), (1, 1, ()), (1, (-1), ()), ())
theorem row5 (hp : POK r p) (pl cn : Int) (hc : 0 ≤ cn ∧ cn ≤ 64) (s : Int) (hs : 0 ≤ s ∧ s < p.1.length) (a b : Int) : ∀ (j i : Nat), i ≤ 4 → 4 < i + j →
    l51_5 9000 j pl cn r p s a b DIRS i = some (.inl (pl, cn, r, p, a, b, ())) ∨ l51_5 9000 j pl cn r p s a b DIRS i = some (.inr (true, ()))
  | 0, i, h, h' => by omega
  | j + 1, i, h, h' => by
    have w1 := hp.ru.w1
    have w8 := hp.ru.w8
    have h8 := hp.ru.h8
    have hlen := hp.len
    have hsq := hp.ru.sq
    have hy0 : 0 ≤ s / r.2.1 := Int.ediv_nonneg (by omega) (by omega)
    have hy1 : s / r.2.1 < r.2.2.1 := Int.ediv_lt_of_lt_mul (by omega) (by rw [Int.mul_comm]; omega)
    have hx0 : 0 ≤ s % r.2.1 := Int.emod_nonneg _ (by omega)
    have hx1 : s % r.2.1 < r.2.1 := Int.emod_lt_of_pos _ (by omega)
    have e : ((i : Int) + 1) = ((i + 1 : Nat) : Int) := by omega
    have rest : ∀ (v : Option (Int × Int × RU × PO × Int × Int × Int × Int × DT × Int × Unit)) (n' : Int), v = some (pl, cn, r, p, s, n', a, b, DIRS, (i : Int), ()) → i < 4 →
        (v.bind fun o1 => bif o1.2.2.2.2.2.1 == o1.2.1 then some (.inr (true, ())) else l51_5 9000 j o1.1 o1.2.1 o1.2.2.1 o1.2.2.2.1 o1.2.2.2.2.1 o1.2.2.2.2.2.2.1 o1.2.2.2.2.2.2.2.1 o1.2.2.2.2.2.2.2.2.1 (w64 (o1.2.2.2.2.2.2.2.2.2.1 + 1))) = some (.inl (pl, cn, r, p, a, b, ())) ∨
        (v.bind fun o1 => bif o1.2.2.2.2.2.1 == o1.2.1 then some (.inr (true, ())) else l51_5 9000 j o1.1 o1.2.1 o1.2.2.1 o1.2.2.2.1 o1.2.2.2.2.1 o1.2.2.2.2.2.2.1 o1.2.2.2.2.2.2.2.1 o1.2.2.2.2.2.2.2.2.1 (w64 (o1.2.2.2.2.2.2.2.2.2.1 + 1))) = some (.inr (true, ())) := by
      rintro v n' rfl hi
      simp only [Option.bind_some]
      cases n' == cn
      · simp only [cond_false]
        rw [ws (by omega), e]
        exact row5 hp pl cn hc s hs a b j (i + 1) (by omega) (by omega)
      · exact .inr rfl
    have r8 : ∀ d : D2, -1 ≤ d.1 ∧ d.1 ≤ 1 ∧ -1 ≤ d.2.1 ∧ d.2.1 ≤ 1 → ∃ n', l51_8 9000 9000 pl cn r p s d (s % r.2.1) (s / r.2.1) 0 a b DIRS i = some (pl, cn, r, p, s, n', a, b, DIRS, (i : Int), ()) :=
      fun d hd => row8 hp pl cn hc s d hd a b DIRS i 9000 _ _ 0 ⟨by omega, by omega⟩ ⟨by omega, by omega⟩ ⟨by omega, by omega⟩ (by omega)
    rw [l51_5]
    rw [Int.tmod_eq_emod_of_nonneg (by omega), Int.tdiv_eq_ediv_of_nonneg (by omega), ws (n := s / r.2.1) (by omega)]
    rw [bf1 (α := Option ((Int × Int × RU × PO × Int × Int × Unit) ⊕ (Bool × Unit))) (show ¬ r.2.1 = 0 by omega), bf1 (α := Option ((Int × Int × RU × PO × Int × Int × Unit) ⊕ (Bool × Unit))) (show ¬ r.2.1 = 0 by omega)]
    by_cases h4 : i = 4
    · rw [bf1 (show ¬ (i : Int) < 4 by omega)]
      exact .inl rfl
    rw [bt1 (show (i : Int) < 4 by omega)]
    by_cases h0 : i = 0
    · rw [be1 (show (i : Int) = 0 by omega)]
      obtain ⟨n', hn'⟩ := r8 DIRS.1 ⟨by decide, by decide, by decide, by decide⟩
      exact rest _ n' hn' (by omega)
    rw [bn1 (show (i : Int) ≠ 0 by omega)]
    repeat rw [bf1 (α := Option ((Int × Int × RU × PO × Int × Int × Unit) ⊕ (Bool × Unit))) (show ¬ r.2.1 = 0 by omega)]
    by_cases h1 : i = 1
    · rw [be1 (show (i : Int) = 1 by omega)]
      obtain ⟨n', hn'⟩ := r8 DIRS.2.1 ⟨by decide, by decide, by decide, by decide⟩
      exact rest _ n' hn' (by omega)
    rw [bn1 (show (i : Int) ≠ 1 by omega)]
    by_cases h2 : i = 2
    · rw [be1 (show (i : Int) = 2 by omega)]
      obtain ⟨n', hn'⟩ := r8 DIRS.2.2.1 ⟨by decide, by decide, by decide, by decide⟩
      exact rest _ n' hn' (by omega)
    rw [bn1 (show (i : Int) ≠ 2 by omega), be1 (show (i : Int) = 3 by omega)]
    obtain ⟨n', hn'⟩ := r8 DIRS.2.2.2.1 ⟨by decide, by decide, by decide, by decide⟩
    exact rest _ n' hn' (by omega)
theorem row2 (hp : POK r p) (pl cn : Int) (hc : 0 ≤ cn ∧ cn ≤ 64) : ∀ (j i : Nat), i ≤ p.1.length → p.1.length < i + j →
    l51_2 9000 j pl cn r p p.1.length i = some (.inl ()) ∨ l51_2 9000 j pl cn r p p.1.length i = some (.inr (true, ()))
  | 0, i, h, h' => by omega
  | j + 1, i, h, h' => by
    have hl := hp.len64
    rw [l51_2]
    by_cases hi : i < p.1.length
    · have e : ((i : Int) + 1) = ((i + 1 : Nat) : Int) := by omega
      rw [bt1 (show (i : Int) < p.1.length by omega)]
      rcases row5 hp pl cn hc (i : Int) ⟨by omega, by omega⟩ (p.1.length : Int) (i : Int) 9000 0 (by omega) (by omega) with h1 | h1
      · rw [show ((0 : Nat) : Int) = 0 from rfl] at h1
        rw [show ((1, 0, ()), (0, 1, ()), (1, 1, ()), (1, (-1), ()), ()) = DIRS from rfl, h1]
        simp only [Option.bind_some, Sum.elim_inl]
        rw [ws (by omega), e]
        exact row2 hp pl cn hc j (i + 1) (by omega) (by omega)
      · rw [show ((0 : Nat) : Int) = 0 from rfl] at h1
        rw [show ((1, 0, ()), (0, 1, ()), (1, 1, ()), (1, (-1), ()), ()) = DIRS from rfl, h1]
        exact .inr rfl
    · rw [bf1 (show ¬ (i : Int) < p.1.length by omega)]
      exact .inl rfl
theorem row_tot (hp : POK r p) (pl cn : Int) (hc : 0 ≤ cn ∧ cn ≤ 64) : ∃ b, f51 9000 r p pl cn = some (b, ()) := by
  unfold f51
  have hl := hp.len64
  rcases row2 hp pl cn hc 9000 0 (by omega) (by omega) with h | h <;> rw [show ((0 : Nat) : Int) = 0 from rfl] at h <;> rw [h] <;> exact ⟨_, rfl⟩
theorem reach7 (hp : POK r p) (x : EN) (mv : Int) : ∀ (j i : Nat), i ≤ p.1.length → p.1.length < i + j →
    l40_7 9000 j r x mv p.1 p.1.length i = some (.inl ()) ∨ l40_7 9000 j r x mv p.1 p.1.length i = some (.inr (true, ()))
  | 0, i, h, h' => by omega
  | j + 1, i, h, h' => by
    have hl := hp.len64
    rw [l40_7]
    by_cases hi : i < p.1.length
    · have e : ((i : Int) + 1) = ((i + 1 : Nat) : Int) := by omega
      rw [bt1 (show (i : Int) < p.1.length by omega), bt2 ⟨by omega, by omega⟩, ws (n := (i : Int) + 1) (by omega), e]
      have ih := reach7 hp x mv j (i + 1) (by omega) (by omega)
      unfold f50
      simp only [Option.bind_some]
      generalize (rd 0 p.1 (i : Int) == w64 (w64 (w64 (2 * x.2.1) + mv) + 1)) = bb
      cases bb
      · exact ih
      · simp only [cond_true]
        obtain ⟨z, hz⟩ := far_tot hp.ru mv (i : Int)
        rw [hz]
        simp only [Option.bind_some]
        cases z
        · exact ih
        · exact .inr rfl
    · rw [bf1 (show ¬ (i : Int) < p.1.length by omega)]
      exact .inl rfl
theorem take15 (hp : POK r p) (x : EN) : ∀ (j i : Nat) (n : Int), i ≤ p.1.length → p.1.length < i + j →
    ∃ n', l40_15 9000 j p x n p.1 p.1.length i = some (x, n', ())
  | 0, i, n, h, h' => by omega
  | j + 1, i, n, h, h' => by
    have hl := hp.len64
    rw [l40_15]
    by_cases hi : i < p.1.length
    · have e : ((i : Int) + 1) = ((i + 1 : Nat) : Int) := by omega
      rw [bt1 (show (i : Int) < p.1.length by omega), bt2 ⟨by omega, by omega⟩, ws (n := (i : Int) + 1) (by omega), e]
      unfold f50
      simp only [Option.bind_some]
      generalize (rd 0 p.1 (i : Int) == w64 (w64 (w64 (2 * x.2.1) + p.2.2.1) + 1)) = bb
      cases bb
      · exact take15 hp x j (i + 1) _ (by omega) (by omega)
      · exact take15 hp x j (i + 1) _ (by omega) (by omega)
    · rw [bf1 (show ¬ (i : Int) < p.1.length by omega)]
      exact ⟨_, rfl⟩
theorem holds_tot (hp : POK r p) (x : EN) (n : Int) (hx : EnOK n x) : ∃ b, f40 9000 r p x = some (b, ()) := by
  unfold f40
  by_cases h0 : x.1 = 0
  · rw [be1 h0]
    obtain ⟨b, hb⟩ := row_tot hp (w64 (1 - p.2.2.1)) x.2.2.1 (by rcases hx with h | h | h <;> omega)
    rw [hb]
    exact ⟨_, rfl⟩
  rw [bn1 h0]
  by_cases h1 : x.1 = 1
  · rw [be1 h1]
    have hl := hp.len64
    rcases reach7 hp x (w64 (1 - p.2.2.1)) 9000 0 (by omega) (by omega) with h | h <;> rw [show ((0 : Nat) : Int) = 0 from rfl] at h <;> rw [h] <;> exact ⟨_, rfl⟩
  rw [bn1 h1]
  obtain ⟨n', h⟩ := take15 hp x 9000 0 0 (by omega) (by have := hp.len64; omega)
  rw [show ((0 : Nat) : Int) = 0 from rfl] at h
  rw [h]
  exact ⟨_, rfl⟩
theorem ends3 (hp : POK r p) (mv : Int) : ∀ (j i : Nat), i ≤ r.2.2.2.2.2.2.2.1.length → r.2.2.2.2.2.2.2.1.length < i + j →
    l32_3 9000 j r p mv r.2.2.2.2.2.2.2.1 r.2.2.2.2.2.2.2.1.length i = some (.inl (r, p, mv, ())) ∨ ∃ e, l32_3 9000 j r p mv r.2.2.2.2.2.2.2.1 r.2.2.2.2.2.2.2.1.length i = some (.inr (e, ()))
  | 0, i, h, h' => by omega
  | j + 1, i, h, h' => by
    have h6 := hp.ru.e6
    rw [l32_3]
    by_cases hi : i < r.2.2.2.2.2.2.2.1.length
    · have e : ((i : Int) + 1) = ((i + 1 : Nat) : Int) := by omega
      rw [bt1 (show (i : Int) < r.2.2.2.2.2.2.2.1.length by omega), bt2 ⟨by omega, by omega⟩, ws (n := (i : Int) + 1) (by omega), e]
      obtain ⟨b, hb⟩ := holds_tot hp (rd E0 r.2.2.2.2.2.2.2.1 (i : Int)) _ (hp.ru.ends i hi)
      rw [show rd ((0, 0, 0, false, ()) : EN) r.2.2.2.2.2.2.2.1 (i : Int) = rd E0 r.2.2.2.2.2.2.2.1 (i : Int) from rfl, hb]
      simp only [Option.bind_some]
      cases b
      · exact ends3 hp mv j (i + 1) (by omega) (by omega)
      · simp only [cond_true]
        cases (rd E0 r.2.2.2.2.2.2.2.1 (i : Int)).2.2.2.1
        · exact .inr ⟨_, rfl⟩
        · exact .inr ⟨_, rfl⟩
    · rw [bf1 (show ¬ (i : Int) < r.2.2.2.2.2.2.2.1.length by omega)]
      exact .inl rfl
theorem res_tot (hp : POK r p) : ∃ e, f32 9000 r p = some (e, ()) := by
  unfold f32
  have h6 := hp.ru.e6
  rcases ends3 hp (w64 (1 - p.2.2.1)) 9000 0 (by omega) (by omega) with h | ⟨e, h⟩
  · rw [show ((0 : Nat) : Int) = 0 from rfl] at h
    rw [h]
    simp only [Option.bind_some, Sum.elim_inl]
    obtain ⟨g, hg, _, _⟩ := gen_tot hp
    rw [hg]
    simp only [Option.bind_some]
    have key : ∃ e, (bif decide ((g.length : Int) > 0) then some (0, ()) else bif r.2.2.2.2.2.2.2.2.1 == 0 then (f41 9000 (w64 (1 - p.2.2.1))).bind fun r3 => some r3 else bif r.2.2.2.2.2.2.2.2.1 == 1 then (f41 9000 p.2.2.1).bind fun r4 => some r4 else some (3, ())) = some ((e, ()) : Int × Unit) := by
      cases decide ((g.length : Int) > 0)
      · cases r.2.2.2.2.2.2.2.2.1 == 0
        · cases r.2.2.2.2.2.2.2.2.1 == 1 <;> exact ⟨_, rfl⟩
        · exact ⟨_, rfl⟩
      · exact ⟨_, rfl⟩
    cases decide (r.2.2.2.2.2.2.2.2.2.1 > 0)
    · exact key
    · cases decide (p.2.2.2.1 ≥ r.2.2.2.2.2.2.2.2.2.1)
      · exact key
      · exact ⟨_, rfl⟩
  · rw [show ((0 : Nat) : Int) = 0 from rfl] at h
    rw [h]
    exact ⟨_, rfl⟩
end
end Go.Proofs.Ytgglflagbbfalaa.G
