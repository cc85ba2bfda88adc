import Derived.Test.YticbohfmkiafiaaTGen3
namespace Go.Proofs.Yticbohfmkiafiaa.G
open Go.VM Go.Proofs
theorem idx103 (g : List MV) (m : MV) (hg : g.length ≤ 8000) : ∀ (j i : Nat), i ≤ g.length → g.length < i + j → l52_2 9000 j g m g.length i = some (.inl ()) ∨ ∃ k : Nat, l52_2 9000 j g m g.length i = some (.inr ((k : Int), ())) ∧ m ∈ g
  | 0, i, h, h' => by omega
  | j + 1, i, h, h' => by
    rw [l52_2]
    by_cases hi : i < g.length
    · have e : ((i : Int) + 1) = ((i + 1 : Nat) : Int) := by omega
      rw [bt1 (show (i : Int) < g.length by omega), bt2 ⟨by omega, by omega⟩, ws (by omega), e]
      cases hb : (m.1 == (rd ((0, 0, 0, ()) : MV) g (i : Int)).1) && ((m.2.1 == (rd ((0, 0, 0, ()) : MV) g (i : Int)).2.1) && ((m.2.2.1 == (rd ((0, 0, 0, ()) : MV) g (i : Int)).2.2.1) && true))
      · exact idx103 g m hg j (i + 1) (by omega) (by omega)
      · refine .inr ⟨i, rfl, ?_⟩
        simp only [Bool.and_eq_true, beq_iff_eq, Bool.and_true] at hb
        have : m = rd ((0, 0, 0, ()) : MV) g (i : Int) := Prod.ext hb.1 (Prod.ext hb.2.1 (Prod.ext hb.2.2 rfl))
        rw [this]
        exact rd_mem _ g i hi
    · rw [bf1 (show ¬ (i : Int) < g.length by omega)]
      exact .inl rfl
theorem has_tot (g : List MV) (m : MV) (hg : g.length ≤ 8000) : ∃ b, f29 9000 g m = some (b, ()) ∧ (b = true → m ∈ g) := by
  unfold f29 f52
  rcases idx103 g m hg 9000 0 (by omega) (by omega) with h | ⟨k, h, h1⟩
  · rw [show ((0 : Nat) : Int) = 0 from rfl] at h
    rw [h]
    exact ⟨false, rfl, fun h => by cases h⟩
  · rw [show ((0 : Nat) : Int) = 0 from rfl] at h
    rw [h]
    exact ⟨_, rfl, fun _ => h1⟩
end Go.Proofs.Yticbohfmkiafiaa.G
namespace Go.Proofs.Yticbohfmkiafiaa.G
open Go.VM Go.Proofs
section
variable {r : RU} {p : PO}
abbrev D2 := Int × Int × Unit
abbrev DT := D2 × D2 × D2 × D2 × Unit
theorem row8 (hp : POK r p) (pl cn : Int) (hc : 0 ≤ cn ∧ cn ≤ 64) (s9 : Int) (d : D2) (hd : -1 ≤ d.1 ∧ d.1 ≤ 1 ∧ -1 ≤ d.2.1 ∧ d.2.1 ≤ 1) (s17 s18 : Int) (dt : DT) (s26 : Int) : ∀ (j : Nat) (x y n : Int), -1 ≤ x ∧ x ≤ 8 → -1 ≤ y ∧ y ≤ 8 → 0 ≤ n ∧ n ≤ 64 → 64 < n + j →
    ∃ n', l87_8 9000 j pl cn r p s9 d x y n s17 s18 dt s26 = some (pl, cn, r, p, s9, n', s17, s18, dt, s26, ())
  | 0, x, y, n, hx, hy, hn, hj => by omega
  | j + 1, x, y, n, hx, hy, hn, hj => by
    have w8 := hp.ru.w8
    have h8 := hp.ru.h8
    have hlen := hp.len
    have hsq := hp.ru.sq
    rw [l87_8]
    by_cases c1 : x ≥ 0
    rotate_left
    · rw [bf1 c1]; exact ⟨_, rfl⟩
    rw [bt1 c1]
    by_cases c2 : x < r.2.1
    rotate_left
    · rw [bf1 c2]; exact ⟨_, rfl⟩
    rw [bt1 c2]
    by_cases c3 : y ≥ 0
    rotate_left
    · rw [bf1 c3]; exact ⟨_, rfl⟩
    rw [bt1 c3]
    by_cases c4 : y < r.2.2.1
    rotate_left
    · rw [bf1 c4]; exact ⟨_, rfl⟩
    rw [bt1 c4]
    by_cases c5 : n < cn
    rotate_left
    · rw [bf1 c5]; exact ⟨_, rfl⟩
    rw [bt1 c5]
    have hix := idx_ok (x := x) (y := y) (w := r.2.1) (h := r.2.2.1) ⟨by omega, c2⟩ ⟨by omega, c4⟩
    rw [ws (n := y * r.2.1) (by omega), ws (n := y * r.2.1 + x) (by omega), bt2 ⟨by omega, by omega⟩, own_eq]
    simp only [Option.bind_some]
    generalize ((bif rd 0 p.1 (y * r.2.1 + x) == 0 then (-1 : Int) else (w64 (rd 0 p.1 (y * r.2.1 + x) - 1)).tmod 2) == pl) = bb
    cases bb
    · exact ⟨_, rfl⟩
    · simp only [cond_true]
      rw [ws (n := x + d.1) (by omega), ws (n := y + d.2.1) (by omega), ws (n := n + 1) (by omega)]
      exact row8 hp pl cn hc s9 d hd s17 s18 dt s26 j _ _ _ ⟨by omega, by omega⟩ ⟨by omega, by omega⟩ ⟨by omega, by omega⟩ (by omega)
def DIRS : DT := ((1, 0, ()), (0, 1, ()), (1, 1, ()), (1, (-1), ()), ())
theorem row5 (hp : POK r p) (pl cn : Int) (hc : 0 ≤ cn ∧ cn ≤ 64) (s : Int) (hs : 0 ≤ s ∧ s < p.1.length) (a b : Int) : ∀ (j i : Nat), i ≤ 4 → 4 < i + j →
    l87_5 9000 j pl cn r p s a b DIRS i = some (.inl (pl, cn, r, p, a, b, ())) ∨ l87_5 9000 j pl cn r p s a b DIRS i = some (.inr (true, ()))
  | 0, i, h, h' => by omega
  | j + 1, i, h, h' => by
    have w1 := hp.ru.w1
    have w8 := hp.ru.w8
    have h8 := hp.ru.h8
    have hlen := hp.len
    have hsq := hp.ru.sq
    have hy0 : 0 ≤ s / r.2.1 := Int.ediv_nonneg (by omega) (by omega)
    have hy1 : s / r.2.1 < r.2.2.1 := Int.ediv_lt_of_lt_mul (by omega) (by rw [Int.mul_comm]; omega)
    have hx0 : 0 ≤ s % r.2.1 := Int.emod_nonneg _ (by omega)
    have hx1 : s % r.2.1 < r.2.1 := Int.emod_lt_of_pos _ (by omega)
    have e : ((i : Int) + 1) = ((i + 1 : Nat) : Int) := by omega
    have rest : ∀ (v : Option (Int × Int × RU × PO × Int × Int × Int × Int × DT × Int × Unit)) (n' : Int), v = some (pl, cn, r, p, s, n', a, b, DIRS, (i : Int), ()) → i < 4 →
        (v.bind fun o1 => bif o1.2.2.2.2.2.1 == o1.2.1 then some (.inr (true, ())) else l87_5 9000 j o1.1 o1.2.1 o1.2.2.1 o1.2.2.2.1 o1.2.2.2.2.1 o1.2.2.2.2.2.2.1 o1.2.2.2.2.2.2.2.1 o1.2.2.2.2.2.2.2.2.1 (w64 (o1.2.2.2.2.2.2.2.2.2.1 + 1))) = some (.inl (pl, cn, r, p, a, b, ())) ∨
        (v.bind fun o1 => bif o1.2.2.2.2.2.1 == o1.2.1 then some (.inr (true, ())) else l87_5 9000 j o1.1 o1.2.1 o1.2.2.1 o1.2.2.2.1 o1.2.2.2.2.1 o1.2.2.2.2.2.2.1 o1.2.2.2.2.2.2.2.1 o1.2.2.2.2.2.2.2.2.1 (w64 (o1.2.2.2.2.2.2.2.2.2.1 + 1))) = some (.inr (true, ())) := by
      rintro v n' rfl hi
      simp only [Option.bind_some]
      cases n' == cn
      · simp only [cond_false]
        rw [ws (by omega), e]
        exact row5 hp pl cn hc s hs a b j (i + 1) (by omega) (by omega)
      · exact .inr rfl
    have r8 : ∀ d : D2, -1 ≤ d.1 ∧ d.1 ≤ 1 ∧ -1 ≤ d.2.1 ∧ d.2.1 ≤ 1 → ∃ n', l87_8 9000 9000 pl cn r p s d (s % r.2.1) (s / r.2.1) 0 a b DIRS i = some (pl, cn, r, p, s, n', a, b, DIRS, (i : Int), ()) :=
      fun d hd => row8 hp pl cn hc s d hd a b DIRS i 9000 _ _ 0 ⟨by omega, by omega⟩ ⟨by omega, by omega⟩ ⟨by omega, by omega⟩ (by omega)
    rw [l87_5]
    rw [Int.tmod_eq_emod_of_nonneg (by omega), Int.tdiv_eq_ediv_of_nonneg (by omega), ws (n := s / r.2.1) (by omega)]
    rw [bf1 (α := Option ((Int × Int × RU × PO × Int × Int × Unit) ⊕ (Bool × Unit))) (show ¬ r.2.1 = 0 by omega), bf1 (α := Option ((Int × Int × RU × PO × Int × Int × Unit) ⊕ (Bool × Unit))) (show ¬ r.2.1 = 0 by omega)]
    by_cases h4 : i = 4
    · rw [bf1 (show ¬ (i : Int) < 4 by omega)]
      exact .inl rfl
    rw [bt1 (show (i : Int) < 4 by omega)]
    by_cases h0 : i = 0
    · rw [be1 (show (i : Int) = 0 by omega)]
      obtain ⟨n', hn'⟩ := r8 DIRS.1 ⟨by decide, by decide, by decide, by decide⟩
      exact rest _ n' hn' (by omega)
    rw [bn1 (show (i : Int) ≠ 0 by omega)]
    repeat rw [bf1 (α := Option ((Int × Int × RU × PO × Int × Int × Unit) ⊕ (Bool × Unit))) (show ¬ r.2.1 = 0 by omega)]
    by_cases h1 : i = 1
    · rw [be1 (show (i : Int) = 1 by omega)]
      obtain ⟨n', hn'⟩ := r8 DIRS.2.1 ⟨by decide, by decide, by decide, by decide⟩
      exact rest _ n' hn' (by omega)
    rw [bn1 (show (i : Int) ≠ 1 by omega)]
    by_cases h2 : i = 2
    · rw [be1 (show (i : Int) = 2 by omega)]
      obtain ⟨n', hn'⟩ := r8 DIRS.2.2.1 ⟨by decide, by decide, by decide, by decide⟩
      exact rest _ n' hn' (by omega)
    rw [bn1 (show (i : Int) ≠ 2 by omega), be1 (show (i : Int) = 3 by omega)]
    obtain ⟨n', hn'⟩ := r8 DIRS.2.2.2.1 ⟨by decide, by decide, by decide, by decide⟩
    exact rest _ n' hn' (by omega)
theorem row2 (hp : POK r p) (pl cn : Int) (hc : 0 ≤ cn ∧ cn ≤ 64) : ∀ (j i : Nat), i ≤ p.1.length → p.1.length < i + j →
    l87_2 9000 j pl cn r p p.1.length i = some (.inl ()) ∨ l87_2 9000 j pl cn r p p.1.length i = some (.inr (true, ()))
  | 0, i, h, h' => by omega
  | j + 1, i, h, h' => by
    have hl := hp.len64
    rw [l87_2]
    by_cases hi : i < p.1.length
    · have e : ((i : Int) + 1) = ((i + 1 : Nat) : Int) := by omega
      rw [bt1 (show (i : Int) < p.1.length by omega)]
      rcases row5 hp pl cn hc (i : Int) ⟨by omega, by omega⟩ (p.1.length : Int) (i : Int) 9000 0 (by omega) (by omega) with h1 | h1
      · rw [show ((0 : Nat) : Int) = 0 from rfl] at h1
        rw [show ((1, 0, ()), (0, 1, ()), (1, 1, ()), (1, (-1), ()), ()) = DIRS from rfl, h1]
        simp only [Option.bind_some, Sum.elim_inl]
        rw [ws (by omega), e]
        exact row2 hp pl cn hc j (i + 1) (by omega) (by omega)
      · rw [show ((0 : Nat) : Int) = 0 from rfl] at h1
        rw [show ((1, 0, ()), (0, 1, ()), (1, 1, ()), (1, (-1), ()), ()) = DIRS from rfl, h1]
        exact .inr rfl
    · rw [bf1 (show ¬ (i : Int) < p.1.length by omega)]
      exact .inl rfl
theorem row_tot (hp : POK r p) (pl cn : Int) (hc : 0 ≤ cn ∧ cn ≤ 64) : ∃ b, f87 9000 r p pl cn = some (b, ()) := by
  unfold f87
  have hl := hp.len64
  rcases row2 hp pl cn hc 9000 0 (by omega) (by omega) with h | h <;> rw [show ((0 : Nat) : Int) = 0 from rfl] at h <;> rw [h] <;> exact ⟨_, rfl⟩
theorem reach7 (hp : POK r p) (x : EN) (mv : Int) : ∀ (j i : Nat), i ≤ p.1.length → p.1.length < i + j →
    l69_7 9000 j r x mv p.1 p.1.length i = some (.inl ()) ∨ l69_7 9000 j r x mv p.1 p.1.length i = some (.inr (true, ()))
  | 0, i, h, h' => by omega
  | j + 1, i, h, h' => by
    have hl := hp.len64
    rw [l69_7]
    by_cases hi : i < p.1.length
    · have e : ((i : Int) + 1) = ((i + 1 : Nat) : Int) := by omega
      rw [bt1 (show (i : Int) < p.1.length by omega), bt2 ⟨by omega, by omega⟩, ws (n := (i : Int) + 1) (by omega), e]
      have ih := reach7 hp x mv j (i + 1) (by omega) (by omega)
      unfold f41
      simp only [Option.bind_some]
      generalize (rd 0 p.1 (i : Int) == w64 (w64 (w64 (2 * x.2.1) + mv) + 1)) = bb
      cases bb
      · exact ih
      · simp only [cond_true]
        obtain ⟨z, hz⟩ := far_tot hp.ru mv (i : Int)
        rw [hz]
        simp only [Option.bind_some]
        cases z
        · exact ih
        · exact .inr rfl
    · rw [bf1 (show ¬ (i : Int) < p.1.length by omega)]
      exact .inl rfl
theorem take15 (hp : POK r p) (x : EN) : ∀ (j i : Nat) (n : Int), i ≤ p.1.length → p.1.length < i + j →
    ∃ n', l69_15 9000 j p x n p.1 p.1.length i = some (x, n', ())
  | 0, i, n, h, h' => by omega
  | j + 1, i, n, h, h' => by
    have hl := hp.len64
    rw [l69_15]
    by_cases hi : i < p.1.length
    · have e : ((i : Int) + 1) = ((i + 1 : Nat) : Int) := by omega
      rw [bt1 (show (i : Int) < p.1.length by omega), bt2 ⟨by omega, by omega⟩, ws (n := (i : Int) + 1) (by omega), e]
      unfold f41
      simp only [Option.bind_some]
      generalize (rd 0 p.1 (i : Int) == w64 (w64 (w64 (2 * x.2.1) + p.2.2.1) + 1)) = bb
      cases bb
      · exact take15 hp x j (i + 1) _ (by omega) (by omega)
      · exact take15 hp x j (i + 1) _ (by omega) (by omega)
    · rw [bf1 (show ¬ (i : Int) < p.1.length by omega)]
      exact ⟨_, rfl⟩
theorem holds_tot (hp : POK r p) (x : EN) (n : Int) (hx : EnOK n x) : ∃ b, f69 9000 r p x = some (b, ()) := by
  unfold f69
  by_cases h0 : x.1 = 0
  · rw [be1 h0]
    obtain ⟨b, hb⟩ := row_tot hp (w64 (1 - p.2.2.1)) x.2.2.1 (by rcases hx with h | h | h <;> omega)
    rw [hb]
    exact ⟨_, rfl⟩
  rw [bn1 h0]
  by_cases h1 : x.1 = 1
  · rw [be1 h1]
    have hl := hp.len64
    rcases reach7 hp x (w64 (1 - p.2.2.1)) 9000 0 (by omega) (by omega) with h | h <;> rw [show ((0 : Nat) : Int) = 0 from rfl] at h <;> rw [h] <;> exact ⟨_, rfl⟩
  rw [bn1 h1]
  obtain ⟨n', h⟩ := take15 hp x 9000 0 0 (by omega) (by have := hp.len64; omega)
  rw [show ((0 : Nat) : Int) = 0 from rfl] at h
  rw [h]
  exact ⟨_, rfl⟩
theorem ends3 (hp : POK r p) (mv : Int) : ∀ (j i : Nat), i ≤ r.2.2.2.2.2.2.2.1.length → r.2.2.2.2.2.2.2.1.length < i + j →
    l57_3 9000 j r p mv r.2.2.2.2.2.2.2.1 r.2.2.2.2.2.2.2.1.length i = some (.inl (r, p, mv, ())) ∨ ∃ e, l57_3 9000 j r p mv r.2.2.2.2.2.2.2.1 r.2.2.2.2.2.2.2.1.length i = some (.inr (e, ()))
  | 0, i, h, h' => by omega
  | j + 1, i, h, h' => by
    have h6 := hp.ru.e6
    rw [l57_3]
    by_cases hi : i < r.2.2.2.2.2.2.2.1.length
    · have e : ((i : Int) + 1) = ((i + 1 : Nat) : Int) := by omega
      rw [bt1 (show (i : Int) < r.2.2.2.2.2.2.2.1.length by omega), bt2 ⟨by omega, by omega⟩, ws (n := (i : Int) + 1) (by omega), e]
      obtain ⟨b, hb⟩ := holds_tot hp (rd E0 r.2.2.2.2.2.2.2.1 (i : Int)) _ (hp.ru.ends i hi)
      rw [show rd ((0, 0, 0, false, ()) : EN) r.2.2.2.2.2.2.2.1 (i : Int) = rd E0 r.2.2.2.2.2.2.2.1 (i : Int) from rfl, hb]
      simp only [Option.bind_some]
      cases b
      · exact ends3 hp mv j (i + 1) (by omega) (by omega)
      · simp only [cond_true]
        cases (rd E0 r.2.2.2.2.2.2.2.1 (i : Int)).2.2.2.1
        · exact .inr ⟨_, rfl⟩
        · exact .inr ⟨_, rfl⟩
    · rw [bf1 (show ¬ (i : Int) < r.2.2.2.2.2.2.2.1.length by omega)]
      exact .inl rfl
theorem res_tot (hp : POK r p) : ∃ e, f57 9000 r p = some (e, ()) := by
  unfold f57
  have h6 := hp.ru.e6
  rcases ends3 hp (w64 (1 - p.2.2.1)) 9000 0 (by omega) (by omega) with h | ⟨e, h⟩
  · rw [show ((0 : Nat) : Int) = 0 from rfl] at h
    rw [h]
    simp only [Option.bind_some, Sum.elim_inl]
    obtain ⟨g, hg, _, _⟩ := gen_tot hp
    rw [hg]
    simp only [Option.bind_some]
    have key : ∃ e, (bif decide ((g.length : Int) > 0) then some (0, ()) else bif r.2.2.2.2.2.2.2.2.1 == 0 then (f70 9000 (w64 (1 - p.2.2.1))).bind fun r3 => some r3 else bif r.2.2.2.2.2.2.2.2.1 == 1 then (f70 9000 p.2.2.1).bind fun r4 => some r4 else some (3, ())) = some ((e, ()) : Int × Unit) := by
      cases decide ((g.length : Int) > 0)
      · cases r.2.2.2.2.2.2.2.2.1 == 0
        · cases r.2.2.2.2.2.2.2.2.1 == 1 <;> exact ⟨_, rfl⟩
        · exact ⟨_, rfl⟩
      · exact ⟨_, rfl⟩
    cases decide (r.2.2.2.2.2.2.2.2.2.1 > 0)
    · exact key
    · cases decide (p.2.2.2.1 ≥ r.2.2.2.2.2.2.2.2.2.1)
      · exact key
      · exact ⟨_, rfl⟩
  · rw [show ((0 : Nat) : Int) = 0 from rfl] at h
    rw [h]
    exact ⟨_, rfl⟩
end
end Go.Proofs.Yticbohfmkiafiaa.G
namespace Go.Proofs.Yticbohfmkiafiaa.G
open Go.VM Go.Proofs
section
variable {r : RU} {p : PO}
def Bnd (B : Int) (l : List Int) : Prop := ∀ m : Nat, m < l.length → 0 ≤ rd 0 l m ∧ rd 0 l m ≤ B
theorem Bnd.set {B : Int} {l : List Int} (h : Bnd B l) (k : Nat) {v : Int} (h0 : 0 ≤ v) (h1 : v ≤ B) : Bnd B (l.set k v) := by
  intro m hm
  have hm' : m < l.length := by simpa using hm
  have := h m hm'
  unfold rd at this ⊢
  rw [Int.toNat_natCast, List.getD_eq_getElem?_getD] at this ⊢
  by_cases e : k = m
  · subst e
    rw [List.getElem?_set_self hm']
    exact ⟨h0, h1⟩
  · rw [List.getElem?_set_ne e]
    exact this
theorem copy_eq (hp : POK r p) : f39 9000 p = some (p, ()) := by
  have hl := hp.len64
  have hn := hp.ru.n6
  have ha := hp.a
  have hb := hp.b
  unfold f39
  rw [clone_eq _ _ (by omega)]
  simp only [Option.bind_some]
  rw [clone_eq _ _ (by omega)]
  simp only [Option.bind_some]
  rw [clone_eq _ _ (by omega)]
  rfl
theorem pok_mk (hp : POK r p) {c a b : List Int} {q : Int} (hc : c.length = p.1.length) (hc2 : Bnd (2 * (r.2.2.2.1.length : Int)) c) (ha : a.length = p.2.1.1.length) (ha2 : Bnd 1000 a) (hb : b.length = p.2.1.2.1.length) (hb2 : Bnd 1000 b) (hq : 0 ≤ q ∧ q ≤ 200) :
    POK r (c, (a, b, ()), w64 (1 - p.2.2.1), q, ()) := by
  refine ⟨hp.ru, ?_, ha.trans hp.a, hb.trans hp.b, hc2, ha2, hb2, ?_, hq⟩
  · show (c.length : Int) = _
    rw [hc]; exact hp.len
  · show w64 (1 - p.2.2.1) = 0 ∨ w64 (1 - p.2.2.1) = 1
    rcases hp.turn with h | h <;> rw [h] <;> decide
theorem up_ok {x : Int} (h : 0 ≤ x ∧ x ≤ 1000) : 0 ≤ (if 1000 < w64 (x + 1) then (1000 : Int) else w64 (x + 1)) ∧ (if 1000 < w64 (x + 1) then (1000 : Int) else w64 (x + 1)) ≤ 1000 := by
  rw [ws (by omega)]
  split <;> omega
theorem qu_ok {x : Int} (h : 0 ≤ x ∧ x ≤ 200) : 0 ≤ (if 200 < w64 (x + 1) then (200 : Int) else w64 (x + 1)) ∧ (if 200 < w64 (x + 1) then (200 : Int) else w64 (x + 1)) ≤ 200 := by
  rw [ws (by omega)]
  split <;> omega
theorem cell_ok {k t : Int} {n : Nat} (hk : 0 ≤ k ∧ k < n) (ht : t = 0 ∨ t = 1) (hn : n ≤ 6) : 0 ≤ w64 (w64 (w64 (2 * k) + t) + 1) ∧ w64 (w64 (w64 (2 * k) + t) + 1) ≤ 2 * (n : Int) := by
  rw [ws (n := 2 * k) (by omega), ws (n := 2 * k + t) (by omega), ws (by omega)]
  omega
theorem rdz {l : List Int} {B : Int} (h : Bnd B l) {k : Int} (h0 : 0 ≤ k) (h1 : k < l.length) : 0 ≤ rd 0 l k ∧ rd 0 l k ≤ B := by
  obtain ⟨m, rfl⟩ := Int.eq_ofNat_of_zero_le h0
  exact h m (by omega)
theorem do_tot2 (hp : POK r p) (m : MV) (hm : MvOK r p m) : ∃ q, f24 9000 r p m = some (q, ()) ∧ POK r q ∧ q.2.2.1 = w64 (1 - p.2.2.1) := by
  have hl := hp.len64
  have hn := hp.ru.n6
  have ha := hp.a
  have hb := hp.b
  have hqu := qu_ok hp.quiet
  have hA : Bnd 1000 p.2.1.1 := hp.ha
  have hB : Bnd 1000 p.2.1.2.1 := hp.hb
  have hC : Bnd (2 * (r.2.2.2.1.length : Int)) p.1 := hp.cells
  obtain ⟨t0, t1, k0, k1, hcase⟩ := hm
  have hcl := cell_ok ⟨k0, k1⟩ hp.turn hn
  have hcc := rdz hC t0 t1
  unfold f24
  rw [copy_eq hp]
  simp only [Option.bind_some]
  have z2 : (0 : Int) ≤ 0 ∧ (0 : Int) ≤ 200 := ⟨by decide, by decide⟩
  rcases hcase with ⟨hd, hh, _⟩ | ⟨g0, g1, _⟩
  · have hd : m.1 < 0 := by omega
    rw [bt1 hd]
    rcases hp.turn with ht | ht
    · have eh : hnd p = p.2.1.1 := by unfold hnd; rw [ht]; rfl
      rw [eh] at hh
      have hx := rdz hA k0 (by omega)
      have hw : w64 (rd 0 p.2.1.1 m.2.2.1 - 1) = rd 0 p.2.1.1 m.2.2.1 - 1 := ws (by omega)
      have hA' : Bnd 1000 (p.2.1.1.set m.2.2.1.toNat (w64 (rd 0 p.2.1.1 m.2.2.1 - 1))) := hA.set _ (by omega) (by omega)
      rw [be1 ht, bt2 ⟨k0, by omega⟩, bt2 ⟨k0, by omega⟩, bt2 ⟨t0, t1⟩]
      by_cases c0 : rd 0 p.1 m.2.1 = 0
      · rw [beq1 c0]
        unfold f41
        simp only [Option.bind_some]
        rw [bt2 ⟨t0, t1⟩]
        exact ⟨_, rfl, pok_mk hp (by simp) (hC.set _ hcl.1 hcl.2) (by simp) hA' rfl hB z2, rfl⟩
      · rw [bne1 c0, be1 ht]
        generalize r.2.2.2.2.2.2.1 = kp
        cases kp
        · simp only [cond_false]
          unfold f41
          simp only [Option.bind_some]
          rw [bt2 ⟨t0, t1⟩]
          exact ⟨_, rfl, pok_mk hp (by simp) (hC.set _ hcl.1 hcl.2) (by simp) hA' rfl hB z2, rfl⟩
        · simp only [cond_true]
          obtain ⟨kd, hkd, d1, d2⟩ := kind_eq (rd 0 p.1 m.2.1) r.2.2.2.1.length (by omega) hcc.2 (by omega)
          rw [hkd]
          simp only [Option.bind_some]
          rw [bt2 ⟨d1, by simp; omega⟩, bt2 ⟨d1, by simp; omega⟩]
          unfold f41
          simp only [Option.bind_some]
          rw [bt2 ⟨t0, t1⟩]
          have hu := up_ok (rdz hA' d1 (by simp; omega))
          exact ⟨_, rfl, pok_mk hp (by simp) (hC.set _ hcl.1 hcl.2) (by simp) (hA'.set _ hu.1 hu.2) rfl hB z2, rfl⟩
    · have eh : hnd p = p.2.1.2.1 := by unfold hnd; rw [ht]; rfl
      rw [eh] at hh
      have hx := rdz hB k0 (by omega)
      have hw : w64 (rd 0 p.2.1.2.1 m.2.2.1 - 1) = rd 0 p.2.1.2.1 m.2.2.1 - 1 := ws (by omega)
      have hB' : Bnd 1000 (p.2.1.2.1.set m.2.2.1.toNat (w64 (rd 0 p.2.1.2.1 m.2.2.1 - 1))) := hB.set _ (by omega) (by omega)
      rw [bn1 (show p.2.2.1 ≠ 0 by omega), be1 ht, bt2 ⟨k0, by omega⟩, bt2 ⟨k0, by omega⟩, bt2 ⟨t0, t1⟩]
      by_cases c0 : rd 0 p.1 m.2.1 = 0
      · rw [beq1 c0]
        unfold f41
        simp only [Option.bind_some]
        rw [bt2 ⟨t0, t1⟩]
        exact ⟨_, rfl, pok_mk hp (by simp) (hC.set _ hcl.1 hcl.2) rfl hA (by simp) hB' z2, rfl⟩
      · rw [bne1 c0, bn1 (show p.2.2.1 ≠ 0 by omega), be1 ht]
        generalize r.2.2.2.2.2.2.1 = kp
        cases kp
        · simp only [cond_false]
          unfold f41
          simp only [Option.bind_some]
          rw [bt2 ⟨t0, t1⟩]
          exact ⟨_, rfl, pok_mk hp (by simp) (hC.set _ hcl.1 hcl.2) rfl hA (by simp) hB' z2, rfl⟩
        · simp only [cond_true]
          obtain ⟨kd, hkd, d1, d2⟩ := kind_eq (rd 0 p.1 m.2.1) r.2.2.2.1.length (by omega) hcc.2 (by omega)
          rw [hkd]
          simp only [Option.bind_some]
          rw [bt2 ⟨d1, by simp; omega⟩, bt2 ⟨d1, by simp; omega⟩]
          unfold f41
          simp only [Option.bind_some]
          rw [bt2 ⟨t0, t1⟩]
          have hu := up_ok (rdz hB' d1 (by simp; omega))
          exact ⟨_, rfl, pok_mk hp (by simp) (hC.set _ hcl.1 hcl.2) rfl hA (by simp) (hB'.set _ hu.1 hu.2) z2, rfl⟩
  · rw [bf1 (show ¬ m.1 < 0 by omega), bt2 ⟨g0, g1⟩, bt2 ⟨t0, t1⟩]
    have hC' : Bnd (2 * (r.2.2.2.1.length : Int)) (p.1.set m.1.toNat 0) := hC.set _ (by omega) (by omega)
    by_cases c0 : rd 0 p.1 m.2.1 = 0
    · rw [beq1 c0]
      unfold f41
      simp only [Option.bind_some]
      rw [bt2 ⟨t0, by simp; omega⟩]
      exact ⟨_, rfl, pok_mk hp (by simp) (hC'.set _ hcl.1 hcl.2) rfl hA rfl hB hqu, rfl⟩
    · rw [bne1 c0]
      obtain ⟨kd, hkd, d1, d2⟩ := kind_eq (rd 0 p.1 m.2.1) r.2.2.2.1.length (by omega) hcc.2 (by omega)
      rcases hp.turn with ht | ht
      · rw [be1 ht]
        generalize r.2.2.2.2.2.2.1 = kp
        cases kp
        · simp only [cond_false]
          unfold f41
          simp only [Option.bind_some]
          rw [bt2 ⟨t0, by simp; omega⟩]
          exact ⟨_, rfl, pok_mk hp (by simp) (hC'.set _ hcl.1 hcl.2) rfl hA rfl hB z2, rfl⟩
        · simp only [cond_true]
          rw [hkd]
          simp only [Option.bind_some]
          rw [bt2 ⟨d1, by omega⟩, bt2 ⟨d1, by omega⟩]
          unfold f41
          simp only [Option.bind_some]
          rw [bt2 ⟨t0, by simp; omega⟩]
          have hu := up_ok (rdz hA d1 (by omega))
          exact ⟨_, rfl, pok_mk hp (by simp) (hC'.set _ hcl.1 hcl.2) (by simp) (hA.set _ hu.1 hu.2) rfl hB z2, rfl⟩
      · rw [bn1 (show p.2.2.1 ≠ 0 by omega), be1 ht]
        generalize r.2.2.2.2.2.2.1 = kp
        cases kp
        · simp only [cond_false]
          unfold f41
          simp only [Option.bind_some]
          rw [bt2 ⟨t0, by simp; omega⟩]
          exact ⟨_, rfl, pok_mk hp (by simp) (hC'.set _ hcl.1 hcl.2) rfl hA rfl hB z2, rfl⟩
        · simp only [cond_true]
          rw [hkd]
          simp only [Option.bind_some]
          rw [bt2 ⟨d1, by omega⟩, bt2 ⟨d1, by omega⟩]
          unfold f41
          simp only [Option.bind_some]
          rw [bt2 ⟨t0, by simp; omega⟩]
          have hu := up_ok (rdz hB d1 (by omega))
          exact ⟨_, rfl, pok_mk hp (by simp) (hC'.set _ hcl.1 hcl.2) rfl hA (by simp) (hB.set _ hu.1 hu.2) z2, rfl⟩
theorem do_tot (hp : POK r p) (m : MV) (hm : MvOK r p m) : ∃ q, f24 9000 r p m = some (q, ()) ∧ POK r q := by
  obtain ⟨q, h1, h2, _⟩ := do_tot2 hp m hm
  exact ⟨q, h1, h2⟩
theorem pc7 (r : RU) (p : PO) (l : List Int) (hn : r.2.2.2.1.length ≤ 6) (hb : Bnd (2 * (r.2.2.2.1.length : Int)) l) : ∀ (j i : Nat), i ≤ l.length → l.length < i + j → l.length ≤ 1000 → l45_7 9000 j r p l l.length i = some (.inl (p, ()))
  | 0, i, h, h', _ => by omega
  | j + 1, i, h, h', hs => by
    rw [l45_7]
    by_cases hi : i < l.length
    · have e : ((i : Int) + 1) = ((i + 1 : Nat) : Int) := by omega
      have := hb i hi
      rw [bt1 (show (i : Int) < l.length by omega), bt2 ⟨by omega, by omega⟩, bf1 (by omega), ws (n := 2 * (r.2.2.2.1.length : Int)) (by omega), bf1 (by omega), ws (by omega), e]
      exact pc7 r p l hn hb j (i + 1) (by omega) (by omega) hs
    · rw [bf1 (show ¬ (i : Int) < l.length by omega)]
theorem pc16 (p : PO) (hh : List Int × List Int × Unit) (n : Int) (l : List Int) (hb : Bnd 1000 l) : ∀ (j i : Nat), i ≤ l.length → l.length < i + j → l.length ≤ 1000 → l45_16 9000 j p hh n l l.length i = some (.inl (p, hh, n, ()))
  | 0, i, h, h', _ => by omega
  | j + 1, i, h, h', hs => by
    rw [l45_16]
    by_cases hi : i < l.length
    · have e : ((i : Int) + 1) = ((i + 1 : Nat) : Int) := by omega
      have := hb i hi
      rw [bt1 (show (i : Int) < l.length by omega), bt2 ⟨by omega, by omega⟩, bf1 (by omega), bf1 (by omega), ws (by omega), e]
      exact pc16 p hh n l hb j (i + 1) (by omega) (by omega) hs
    · rw [bf1 (show ¬ (i : Int) < l.length by omega)]
theorem place_ok (hz : Rz r) (hp : POK r p) : f45 9000 r p = some (0, ()) := by
  have hl := hp.len64
  have hn := hp.ru.n6
  have ha := hp.a
  have hb := hp.b
  have hsq := hp.ru.sq
  have hlen := hp.len
  have hq := hp.quiet
  have e1 : w64 (0 + 1) = 1 := by decide
  have e2 : w64 (1 + 1) = 2 := by decide
  have h0 : ((0 : Nat) : Int) = 0 := rfl
  unfold f45
  rw [show f64 9000 r = some (0, ()) from hz]
  simp only [Option.bind_some]
  rw [beq1 rfl, ws (n := r.2.1 * r.2.2.1) (by omega), beq1 (by omega), beq1 (by omega), beq1 (by omega)]
  have h7 := pc7 r p p.1 hn hp.cells 9000 0 (by omega) (by omega) (by omega)
  rw [h0] at h7
  rw [h7]
  simp only [Option.bind_some, Sum.elim_inl]
  have h13 : l45_13 9000 9000 p p.2.1 0 = some (.inl (p, ())) := by
    have g1 := pc16 p p.2.1 0 p.2.1.1 hp.ha 9000 0 (by omega) (by omega) (by omega)
    have g2 := pc16 p p.2.1 1 p.2.1.2.1 hp.hb 9000 0 (by omega) (by omega) (by omega)
    rw [h0] at g1 g2
    rw [l45_13, bt1 (by decide), be1 rfl, g1]
    simp only [Option.bind_some, Sum.elim_inl]
    rw [e1, l45_13, bt1 (by decide), bn1 (by decide), be1 rfl, g2]
    simp only [Option.bind_some, Sum.elim_inl]
    rw [e2, l45_13, bf1 (by decide)]
  rw [h13]
  simp only [Option.bind_some, Sum.elim_inl]
  rcases hp.turn with ht | ht
  · rw [beq1 ht, bf1 (by omega), bf1 (by omega)]
  · rw [bne1 (show p.2.2.1 ≠ 0 by omega), beq1 ht, bf1 (by omega), bf1 (by omega)]
end
end Go.Proofs.Yticbohfmkiafiaa.G
