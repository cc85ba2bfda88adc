/- Ratings: what is expected, and what games move. -/
import Derived.Test.YtpighccmakogpaaDoorGRating
namespace Go.Proofs.YtpighccmakogpaaDoor.G
open Go.VM Go.Proofs

theorem ws {n : Int} (h : -9223372036854775808 ≤ n ∧ n ≤ 9223372036854775807) : w64 n = n := by
  unfold w64; rw [IntKind.wrap_i64]; omega
theorem w_add (a b : Int) : w64 (w64 a + b) = w64 (a + b) := by
  unfold w64; rw [IntKind.wrap_i64, IntKind.wrap_i64, IntKind.wrap_i64]; omega
theorem bt2 {α : Type} {p q : Prop} [Decidable p] [Decidable q] {A B : α} (h : p ∧ q) : (bif decide p && decide q then A else B) = A := by
  rw [decide_eq_true h.1, decide_eq_true h.2]; rfl
theorem bt1 {α : Type} {p : Prop} [Decidable p] {A B : α} (h : p) : (bif decide p then A else B) = A := by
  rw [decide_eq_true h]; rfl
theorem bf1 {α : Type} {p : Prop} [Decidable p] {A B : α} (h : ¬ p) : (bif decide p then A else B) = B := by
  rw [decide_eq_false h]; rfl
theorem be1 {α : Type} {a b : Int} {A B : α} (h : a = b) : (bif a == b then A else B) = A := by rw [h, beq_self_eq_true]; rfl
theorem bn1 {α : Type} {a b : Int} {A B : α} (h : a ≠ b) : (bif a == b then A else B) = B := by rw [show (a == b) = false by simpa using h]; rfl
theorem bne1 {α : Type} {a b : Int} {A B : α} (h : a ≠ b) : (bif a != b then A else B) = A := by rw [show (a != b) = true by simpa using h]; rfl
theorem beq1 {α : Type} {a b : Int} {A B : α} (h : a = b) : (bif a != b then A else B) = B := by rw [show (a != b) = false by simp [h]]; rfl

/-! ### What is expected -/
abbrev TB : (repT gl0.length (.int .i64)).den := tupI gl0 .i64
abbrev st (i : Nat) : Int := gl0.getD i 0
noncomputable def stepB (rec : Int → Option (Int × Unit)) (j : Nat) (d n : Int) (i : Nat) : Option (Int × Unit) := bif decide (d ≥ w64 (100 * st i)) then l8_5 100 rec j d (w64 (n + 1)) TB (w64 ((i : Int) + 1)) else l8_5 100 rec j d n TB (w64 ((i : Int) + 1))
theorem step0 (rec : Int → Option (Int × Unit)) (j : Nat) (d n : Int) : l8_5 100 rec (j + 1) d n TB (0 : Nat) = stepB rec j d n 0 := by kernel_rfl
theorem step1 (rec : Int → Option (Int × Unit)) (j : Nat) (d n : Int) : l8_5 100 rec (j + 1) d n TB (1 : Nat) = stepB rec j d n 1 := by kernel_rfl
theorem step2 (rec : Int → Option (Int × Unit)) (j : Nat) (d n : Int) : l8_5 100 rec (j + 1) d n TB (2 : Nat) = stepB rec j d n 2 := by kernel_rfl
theorem step3 (rec : Int → Option (Int × Unit)) (j : Nat) (d n : Int) : l8_5 100 rec (j + 1) d n TB (3 : Nat) = stepB rec j d n 3 := by kernel_rfl
theorem step4 (rec : Int → Option (Int × Unit)) (j : Nat) (d n : Int) : l8_5 100 rec (j + 1) d n TB (4 : Nat) = stepB rec j d n 4 := by kernel_rfl
theorem step5 (rec : Int → Option (Int × Unit)) (j : Nat) (d n : Int) : l8_5 100 rec (j + 1) d n TB (5 : Nat) = stepB rec j d n 5 := by kernel_rfl
theorem step6 (rec : Int → Option (Int × Unit)) (j : Nat) (d n : Int) : l8_5 100 rec (j + 1) d n TB (6 : Nat) = stepB rec j d n 6 := by kernel_rfl
theorem step7 (rec : Int → Option (Int × Unit)) (j : Nat) (d n : Int) : l8_5 100 rec (j + 1) d n TB (7 : Nat) = stepB rec j d n 7 := by kernel_rfl
theorem step8 (rec : Int → Option (Int × Unit)) (j : Nat) (d n : Int) : l8_5 100 rec (j + 1) d n TB (8 : Nat) = stepB rec j d n 8 := by kernel_rfl
theorem step9 (rec : Int → Option (Int × Unit)) (j : Nat) (d n : Int) : l8_5 100 rec (j + 1) d n TB (9 : Nat) = stepB rec j d n 9 := by kernel_rfl
theorem step10 (rec : Int → Option (Int × Unit)) (j : Nat) (d n : Int) : l8_5 100 rec (j + 1) d n TB (10 : Nat) = stepB rec j d n 10 := by kernel_rfl
theorem step11 (rec : Int → Option (Int × Unit)) (j : Nat) (d n : Int) : l8_5 100 rec (j + 1) d n TB (11 : Nat) = stepB rec j d n 11 := by kernel_rfl
theorem step12 (rec : Int → Option (Int × Unit)) (j : Nat) (d n : Int) : l8_5 100 rec (j + 1) d n TB (12 : Nat) = stepB rec j d n 12 := by kernel_rfl
theorem step13 (rec : Int → Option (Int × Unit)) (j : Nat) (d n : Int) : l8_5 100 rec (j + 1) d n TB (13 : Nat) = stepB rec j d n 13 := by kernel_rfl
theorem step14 (rec : Int → Option (Int × Unit)) (j : Nat) (d n : Int) : l8_5 100 rec (j + 1) d n TB (14 : Nat) = stepB rec j d n 14 := by kernel_rfl
theorem step15 (rec : Int → Option (Int × Unit)) (j : Nat) (d n : Int) : l8_5 100 rec (j + 1) d n TB (15 : Nat) = stepB rec j d n 15 := by kernel_rfl
theorem step16 (rec : Int → Option (Int × Unit)) (j : Nat) (d n : Int) : l8_5 100 rec (j + 1) d n TB (16 : Nat) = stepB rec j d n 16 := by kernel_rfl
theorem step17 (rec : Int → Option (Int × Unit)) (j : Nat) (d n : Int) : l8_5 100 rec (j + 1) d n TB (17 : Nat) = stepB rec j d n 17 := by kernel_rfl
theorem step18 (rec : Int → Option (Int × Unit)) (j : Nat) (d n : Int) : l8_5 100 rec (j + 1) d n TB (18 : Nat) = stepB rec j d n 18 := by kernel_rfl
theorem step19 (rec : Int → Option (Int × Unit)) (j : Nat) (d n : Int) : l8_5 100 rec (j + 1) d n TB (19 : Nat) = stepB rec j d n 19 := by kernel_rfl
theorem step20 (rec : Int → Option (Int × Unit)) (j : Nat) (d n : Int) : l8_5 100 rec (j + 1) d n TB (20 : Nat) = stepB rec j d n 20 := by kernel_rfl
theorem step21 (rec : Int → Option (Int × Unit)) (j : Nat) (d n : Int) : l8_5 100 rec (j + 1) d n TB (21 : Nat) = stepB rec j d n 21 := by kernel_rfl
theorem step22 (rec : Int → Option (Int × Unit)) (j : Nat) (d n : Int) : l8_5 100 rec (j + 1) d n TB (22 : Nat) = stepB rec j d n 22 := by kernel_rfl
theorem step23 (rec : Int → Option (Int × Unit)) (j : Nat) (d n : Int) : l8_5 100 rec (j + 1) d n TB (23 : Nat) = stepB rec j d n 23 := by kernel_rfl
theorem step24 (rec : Int → Option (Int × Unit)) (j : Nat) (d n : Int) : l8_5 100 rec (j + 1) d n TB (24 : Nat) = stepB rec j d n 24 := by kernel_rfl
theorem step25 (rec : Int → Option (Int × Unit)) (j : Nat) (d n : Int) : l8_5 100 rec (j + 1) d n TB (25 : Nat) = stepB rec j d n 25 := by kernel_rfl
theorem step26 (rec : Int → Option (Int × Unit)) (j : Nat) (d n : Int) : l8_5 100 rec (j + 1) d n TB (26 : Nat) = stepB rec j d n 26 := by kernel_rfl
theorem step27 (rec : Int → Option (Int × Unit)) (j : Nat) (d n : Int) : l8_5 100 rec (j + 1) d n TB (27 : Nat) = stepB rec j d n 27 := by kernel_rfl
theorem step28 (rec : Int → Option (Int × Unit)) (j : Nat) (d n : Int) : l8_5 100 rec (j + 1) d n TB (28 : Nat) = stepB rec j d n 28 := by kernel_rfl
theorem step29 (rec : Int → Option (Int × Unit)) (j : Nat) (d n : Int) : l8_5 100 rec (j + 1) d n TB (29 : Nat) = stepB rec j d n 29 := by kernel_rfl
theorem step30 (rec : Int → Option (Int × Unit)) (j : Nat) (d n : Int) : l8_5 100 rec (j + 1) d n TB (30 : Nat) = stepB rec j d n 30 := by kernel_rfl
theorem step31 (rec : Int → Option (Int × Unit)) (j : Nat) (d n : Int) : l8_5 100 rec (j + 1) d n TB (31 : Nat) = stepB rec j d n 31 := by kernel_rfl
theorem step32 (rec : Int → Option (Int × Unit)) (j : Nat) (d n : Int) : l8_5 100 rec (j + 1) d n TB (32 : Nat) = stepB rec j d n 32 := by kernel_rfl
theorem step33 (rec : Int → Option (Int × Unit)) (j : Nat) (d n : Int) : l8_5 100 rec (j + 1) d n TB (33 : Nat) = stepB rec j d n 33 := by kernel_rfl
theorem step34 (rec : Int → Option (Int × Unit)) (j : Nat) (d n : Int) : l8_5 100 rec (j + 1) d n TB (34 : Nat) = stepB rec j d n 34 := by kernel_rfl
theorem step35 (rec : Int → Option (Int × Unit)) (j : Nat) (d n : Int) : l8_5 100 rec (j + 1) d n TB (35 : Nat) = stepB rec j d n 35 := by kernel_rfl
theorem step36 (rec : Int → Option (Int × Unit)) (j : Nat) (d n : Int) : l8_5 100 rec (j + 1) d n TB (36 : Nat) = stepB rec j d n 36 := by kernel_rfl
theorem step37 (rec : Int → Option (Int × Unit)) (j : Nat) (d n : Int) : l8_5 100 rec (j + 1) d n TB (37 : Nat) = stepB rec j d n 37 := by kernel_rfl
theorem step38 (rec : Int → Option (Int × Unit)) (j : Nat) (d n : Int) : l8_5 100 rec (j + 1) d n TB (38 : Nat) = stepB rec j d n 38 := by kernel_rfl
theorem step39 (rec : Int → Option (Int × Unit)) (j : Nat) (d n : Int) : l8_5 100 rec (j + 1) d n TB (39 : Nat) = stepB rec j d n 39 := by kernel_rfl
theorem step40 (rec : Int → Option (Int × Unit)) (j : Nat) (d n : Int) : l8_5 100 rec (j + 1) d n TB (40 : Nat) = stepB rec j d n 40 := by kernel_rfl
theorem step41 (rec : Int → Option (Int × Unit)) (j : Nat) (d n : Int) : l8_5 100 rec (j + 1) d n TB (41 : Nat) = stepB rec j d n 41 := by kernel_rfl
theorem step_l (rec : Int → Option (Int × Unit)) (j : Nat) (d n : Int) : ∀ (i : Nat), i < 42 → l8_5 100 rec (j + 1) d n TB i = stepB rec j d n i
  | 0, _ => step0 rec j d n
  | 1, _ => step1 rec j d n
  | 2, _ => step2 rec j d n
  | 3, _ => step3 rec j d n
  | 4, _ => step4 rec j d n
  | 5, _ => step5 rec j d n
  | 6, _ => step6 rec j d n
  | 7, _ => step7 rec j d n
  | 8, _ => step8 rec j d n
  | 9, _ => step9 rec j d n
  | 10, _ => step10 rec j d n
  | 11, _ => step11 rec j d n
  | 12, _ => step12 rec j d n
  | 13, _ => step13 rec j d n
  | 14, _ => step14 rec j d n
  | 15, _ => step15 rec j d n
  | 16, _ => step16 rec j d n
  | 17, _ => step17 rec j d n
  | 18, _ => step18 rec j d n
  | 19, _ => step19 rec j d n
  | 20, _ => step20 rec j d n
  | 21, _ => step21 rec j d n
  | 22, _ => step22 rec j d n
  | 23, _ => step23 rec j d n
  | 24, _ => step24 rec j d n
  | 25, _ => step25 rec j d n
  | 26, _ => step26 rec j d n
  | 27, _ => step27 rec j d n
  | 28, _ => step28 rec j d n
  | 29, _ => step29 rec j d n
  | 30, _ => step30 rec j d n
  | 31, _ => step31 rec j d n
  | 32, _ => step32 rec j d n
  | 33, _ => step33 rec j d n
  | 34, _ => step34 rec j d n
  | 35, _ => step35 rec j d n
  | 36, _ => step36 rec j d n
  | 37, _ => step37 rec j d n
  | 38, _ => step38 rec j d n
  | 39, _ => step39 rec j d n
  | 40, _ => step40 rec j d n
  | 41, _ => step41 rec j d n
  | i + 42, h => by omega
/-- How many steps a difference reaches. -/
def cnt (l : List Int) (d : Int) : Int := (l.countP fun s => decide (100 * s ≤ d) : Nat)
theorem st_le : ∀ s ∈ gl0, 0 < s ∧ s ≤ 392 := by decide
theorem expect_l (rec : Int → Option (Int × Unit)) (d : Int) : ∀ (j i : Nat) (n : Int), i ≤ 42 → 42 < i + j → 0 ≤ n → n ≤ 1000 + i → l8_5 100 rec j d n TB i = some (n + cnt (gl0.drop i) d, ())
  | 0, i, n, h1, h2, _, _ => by omega
  | j + 1, i, n, h1, h2, h3, h4 => by
    by_cases c : i < 42
    · rw [step_l rec j d n i c]
      unfold stepB
      have hl : gl0.drop i = st i :: gl0.drop (i + 1) := by
        rw [List.drop_eq_getElem_cons (show i < gl0.length from c)]
        congr 1
        unfold st
        rw [List.getD_eq_getElem?_getD, List.getElem?_eq_getElem (show i < gl0.length from c)]; rfl
      have hs := st_le (st i) (by
        have : st i ∈ gl0.drop i := by rw [hl]; simp
        exact List.mem_of_mem_drop this)
      rw [ws (n := (i : Int) + 1) (by omega), ws (n := 100 * st i) (by omega), ws (n := n + 1) (by omega), show (i : Int) + 1 = ((i + 1 : Nat) : Int) by omega, hl]
      have e1 := fun n => expect_l rec d j (i + 1) n (by omega) (by omega)
      unfold cnt at e1 ⊢
      by_cases q : 100 * st i ≤ d
      · rw [bt1 q, e1 (n + 1) (by omega) (by omega), List.countP_cons_of_pos (by simpa using q)]
        congr 2; omega
      · rw [bf1 q, e1 n (by omega) (by omega), List.countP_cons_of_neg (by simpa using q)]
    · have : i = 42 := by omega
      subst this
      show some (n, ()) = some (n + 0, ())
      rw [Int.add_zero]
theorem cnt_mono {d e : Int} (h : d ≤ e) : ∀ l, cnt l d ≤ cnt l e
  | [] => by simp [cnt]
  | s :: l => by
    have := cnt_mono h l
    unfold cnt at *
    rw [List.countP_cons, List.countP_cons]
    by_cases c : 100 * s ≤ d
    · simp [c, show 100 * s ≤ e by omega]; omega
    · simp only [c, decide_false, Bool.false_eq_true, if_false]
      split <;> omega
theorem cnt_nonneg (d : Int) (l) : 0 ≤ cnt l d := by unfold cnt; omega
theorem cnt_le (d : Int) : cnt gl0 d ≤ 42 := by
  unfold cnt
  have := List.countP_le_length (p := fun s => decide (100 * s ≤ d)) (l := gl0)
  have e : gl0.length = 42 := rfl
  omega
theorem cnt_same {d e : Int} : ∀ (l : List Int), (∀ s ∈ l, (100 * s ≤ d ↔ 100 * s ≤ e)) → cnt l d = cnt l e
  | [], _ => rfl
  | s :: l, h => by
    have ih := cnt_same l fun s hs => h s (List.mem_cons_of_mem _ hs)
    have h0 := h s (by simp)
    unfold cnt at *
    rw [List.countP_cons, List.countP_cons]
    simp only [h0]; omega
theorem cnt_low {d : Int} (h : d ≤ 0) : cnt gl0 d = 0 := by
  unfold cnt
  rw [List.countP_eq_zero.2]; rfl
  intro s hs
  have := st_le s hs
  simp; omega
/-- What is expected of a difference. -/
def Ex (d : Int) : Int := if d < 0 then 50 - cnt gl0 (-d) else 50 + cnt gl0 d
theorem expect (d : Int) : f8 100 d = some (Ex d, ()) := by
  show f8_body 100 (f8_at 100 99) d = _
  unfold f8_body Ex
  by_cases c : d < 0
  · rw [bt1 c, if_pos c]
    have e : w64 (0 - (if (-4000000 : Int) > d then -4000000 else d)) = if (-4000000 : Int) > d then 4000000 else -d := by
      rw [ws (by split <;> omega)]; split <;> omega
    rw [e]
    have h : f8_at 100 99 (if (-4000000 : Int) > d then 4000000 else -d) = some (50 + cnt gl0 (if (-4000000 : Int) > d then 4000000 else -d), ()) := by
      show f8_body 100 (f8_at 100 98) _ = _
      unfold f8_body
      rw [bf1 (by split <;> omega)]
      have := expect_l (f8_at 100 98) (if (-4000000 : Int) > d then 4000000 else -d) 100 0 50 (by omega) (by omega) (by omega) (by omega)
      rw [show ((0 : Nat) : Int) = 0 from rfl] at this
      show ((l8_5 100 (f8_at 100 98) 100 (if (-4000000 : Int) > d then 4000000 else -d) 50 TB 0).bind fun o2 => some o2) = _
      rw [this]; rfl
    rw [h]
    simp only [Option.bind_some]
    have hc : cnt gl0 (if (-4000000 : Int) > d then 4000000 else -d) = cnt gl0 (-d) := by
      refine cnt_same _ fun s hs => ?_
      have := st_le s hs
      split <;> omega
    have := cnt_le (-d)
    have := cnt_nonneg (-d) gl0
    rw [hc, ws (by omega)]
    congr 2; omega
  · rw [bf1 c, if_neg c]
    have := expect_l (f8_at 100 99) d 100 0 50 (by omega) (by omega) (by omega) (by omega)
    rw [show ((0 : Nat) : Int) = 0 from rfl] at this
    show ((l8_5 100 (f8_at 100 99) 100 d 50 TB 0).bind fun o2 => some o2) = _
    rw [this]; rfl
theorem Ex_bound (d : Int) : 8 ≤ Ex d ∧ Ex d ≤ 92 := by
  have h1 := cnt_le (-d)
  have h2 := cnt_nonneg (-d) gl0
  have h3 := cnt_le d
  have h4 := cnt_nonneg d gl0
  unfold Ex
  split <;> omega
theorem Ex_neg (d : Int) : Ex d + Ex (-d) = 100 := by
  unfold Ex
  by_cases c : d < 0
  · rw [if_pos c, if_neg (by omega)]; omega
  · by_cases e : d = 0
    · subst e; rw [if_neg (by omega), if_neg (by omega), show -(0 : Int) = 0 from rfl, cnt_low (by omega)]; rfl
    · rw [if_neg c, if_pos (by omega), Int.neg_neg]; omega
theorem Ex_mono {d e : Int} (h : d ≤ e) : Ex d ≤ Ex e := by
  have h1 := cnt_nonneg (-d) gl0
  have h2 := cnt_nonneg e gl0
  unfold Ex
  by_cases c : d < 0
  · rw [if_pos c]
    by_cases k : e < 0
    · rw [if_pos k]
      have := cnt_mono (show -e ≤ -d by omega) gl0
      omega
    · rw [if_neg k]; omega
  · rw [if_neg c, if_neg (by omega)]
    have := cnt_mono h gl0
    omega
theorem rates_ok : f6 100 = some (true, ()) := by
  unfold f6
  rw [expect, show Ex 0 = 50 by decide]
  simp only [Option.bind_some]
  rw [be1 rfl, expect, show Ex 400 = 51 by decide]
  rfl

/-! ### What games move -/
def Rg (x : Int) : Prop := -1000000 ≤ x ∧ x ≤ 1000000
def COK (l : List Int) : Prop := 1 ≤ l.length ∧ l.length ≤ 64 ∧ ∀ m : Nat, m < l.length → Rg (l.getD m 0)
theorem rd0 (l : List Int) (i : Nat) : rd 0 l (i : Int) = l.getD i 0 := by unfold rd; rw [Int.toNat_natCast]
theorem check_l (l : List Int) : ∀ (j i : Nat), i ≤ l.length → l.length < i + j → l.length ≤ 64 →
    (l11_4 100 j l l.length i = some (.inl ()) ∧ ∀ m : Nat, i ≤ m → m < l.length → Rg (l.getD m 0)) ∨ (l11_4 100 j l l.length i = some (.inr (4, ())) ∧ ∃ m : Nat, i ≤ m ∧ m < l.length ∧ ¬ Rg (l.getD m 0))
  | 0, i, h, h', _ => by omega
  | j + 1, i, h, h', hs => by
    rw [l11_4]
    by_cases hi : i < l.length
    · rw [bt1 (show (i : Int) < l.length by omega), bt2 (show (0 : Int) ≤ i ∧ (i : Int) < l.length by omega), ws (n := (i : Int) + 1) (by omega), rd0]
      by_cases c1 : l.getD i 0 < -1000000
      · rw [bt1 c1]; exact .inr ⟨rfl, i, Nat.le_refl _, hi, fun h => by unfold Rg at h; omega⟩
      · by_cases c2 : l.getD i 0 > 1000000
        · rw [bf1 c1, bt1 c2]; exact .inr ⟨rfl, i, Nat.le_refl _, hi, fun h => by unfold Rg at h; omega⟩
        · rw [bf1 c1, bf1 c2, show (i : Int) + 1 = ((i + 1 : Nat) : Int) by omega]
          rcases check_l l j (i + 1) (by omega) (by omega) hs with ⟨e, h3⟩ | ⟨e, m, h3, h4, h5⟩
          · refine .inl ⟨e, fun m h4 h5 => ?_⟩
            by_cases q : m = i
            · subst q; exact ⟨by omega, by omega⟩
            · exact h3 m (by omega) h5
          · exact .inr ⟨e, m, by omega, h4, h5⟩
    · rw [bf1 (show ¬ (i : Int) < l.length by omega)]
      exact .inl ⟨rfl, fun m h1 h2 => by omega⟩
theorem check_tot (l : List Int) : (f11 100 l = some (0, ()) ∧ COK l) ∨ ∃ e, e ≠ 0 ∧ f11 100 l = some (e, ()) ∧ ¬ COK l := by
  unfold f11
  by_cases c1 : (l.length : Int) = 0
  · rw [be1 c1]; exact .inr ⟨2, by omega, rfl, fun h => by have := h.1; omega⟩
  · rw [bn1 c1]
    by_cases c2 : (l.length : Int) > 64
    · rw [bt1 c2]; exact .inr ⟨2, by omega, rfl, fun h => by have := h.2.1; omega⟩
    · rw [bf1 c2]
      rcases check_l l 100 0 (by omega) (by omega) (by omega) with ⟨e, h⟩ | ⟨e, m, h1, h2, h3⟩
      · rw [show ((0 : Nat) : Int) = 0 from rfl] at e
        rw [e]; exact .inl ⟨rfl, by omega, by omega, fun m hm => h m (by omega) hm⟩
      · rw [show ((0 : Nat) : Int) = 0 from rfl] at e
        rw [e]; exact .inr ⟨4, by omega, rfl, fun h => h3 (h.2.2 m h2)⟩
theorem check_ok {l : List Int} (h : COK l) : f11 100 l = some (0, ()) := by
  rcases check_tot l with ⟨h1, _⟩ | ⟨_, _, _, h2⟩
  · exact h1
  · exact absurd h h2
/-- When a change is worked out. -/
def CH (a b p k : Int) : Prop := Rg a ∧ Rg b ∧ 0 ≤ p ∧ p ≤ 2 ∧ 1 ≤ k ∧ k ≤ 64
theorem change_tot (a b p k : Int) : (f7 100 a b p k = some (k * (50 * p - Ex (a - b)), 0, ()) ∧ CH a b p k) ∨ ∃ e, e ≠ 0 ∧ f7 100 a b p k = some (0, e, ()) ∧ ¬ CH a b p k := by
  unfold f7
  rcases check_tot [a, b] with ⟨h1, h2⟩ | ⟨e, h1, h2, h3⟩
  · rw [h1]
    simp only [Option.bind_some]
    have ha : Rg a := h2.2.2 0 (by simp)
    have hb : Rg b := h2.2.2 1 (by simp)
    rw [beq1 rfl]
    by_cases c1 : p < 0
    · rw [bt1 c1]; exact .inr ⟨1, by omega, rfl, fun h => by have := h.2.2.1; omega⟩
    rw [bf1 c1]
    by_cases c2 : p > 2
    · rw [bt1 c2]; exact .inr ⟨1, by omega, rfl, fun h => by have := h.2.2.2.1; omega⟩
    rw [bf1 c2]
    by_cases c3 : k < 1
    · rw [bt1 c3]; exact .inr ⟨4, by omega, rfl, fun h => by have := h.2.2.2.2.1; omega⟩
    rw [bf1 c3]
    by_cases c4 : k > 64
    · rw [bt1 c4]; exact .inr ⟨4, by omega, rfl, fun h => by have := h.2.2.2.2.2; omega⟩
    rw [bf1 c4, ws (n := a - b) (by unfold Rg at ha hb; omega), expect]
    simp only [Option.bind_some]
    have hx := Ex_bound (a - b)
    rw [ws (n := 50 * p) (by omega), ws (n := 50 * p - Ex (a - b)) (by omega)]
    have hk : -64 * 100 ≤ k * (50 * p - Ex (a - b)) ∧ k * (50 * p - Ex (a - b)) ≤ 64 * 100 := by
      have hy : -100 ≤ 50 * p - Ex (a - b) ∧ 50 * p - Ex (a - b) ≤ 100 := by omega
      generalize 50 * p - Ex (a - b) = y at hy
      obtain ⟨n, rfl⟩ := Int.eq_ofNat_of_zero_le (show 0 ≤ k by omega)
      constructor
      · calc (-64 * 100 : Int) ≤ n * (-100) := by omega
          _ ≤ n * y := Int.mul_le_mul_of_nonneg_left hy.1 (by omega)
      · calc (n : Int) * y ≤ n * 100 := Int.mul_le_mul_of_nonneg_left hy.2 (by omega)
          _ ≤ 64 * 100 := by omega
    rw [ws (by omega)]
    exact .inl ⟨rfl, ha, hb, by omega, by omega, by omega, by omega⟩
  · rw [h2]
    simp only [Option.bind_some]
    rw [bne1 h1]
    refine .inr ⟨e, h1, rfl, fun h => h3 ⟨by simp, by simp, fun m hm => ?_⟩⟩
    have : m = 0 ∨ m = 1 := by simp at hm; omega
    rcases this with rfl | rfl
    · exact h.1
    · exact h.2.1
theorem turns_pure (a b p k d : Int) : f3 100 a b p k d = some (true, ()) := by
  unfold f3
  rw [rates_ok]
  simp only [Option.bind_some, Bool.not_true, cond_false]
  rcases change_tot a b p k with ⟨h1, h2⟩ | ⟨e, h1, h2, h3⟩
  · obtain ⟨ha, hb, p0, p2, k1, k64⟩ := h2
    have e0 : w64 (2 - (if (if 2 < p then 2 else p) > 0 then if 2 < p then 2 else p else 0)) = 2 - p := by
      rw [ws (by split <;> split <;> omega)]; split <;> split <;> omega
    rw [h1, e0]
    rcases change_tot b a (2 - p) k with ⟨g1, g2⟩ | ⟨e, g1, g2, g3⟩
    · rw [g1]
      simp only [Option.bind_some]
      rw [beq1 rfl]
      have hx := Ex_neg (a - b)
      rw [show -(a - b) = b - a by omega] at hx
      have hy : k * (50 * p - Ex (a - b)) = w64 (0 - k * (50 * (2 - p) - Ex (b - a))) := by
        have e1 : 50 * p - Ex (a - b) = -(50 * (2 - p) - Ex (b - a)) := by omega
        rw [e1, Int.mul_neg]
        have hb' := Ex_bound (b - a)
        have hk : -64 * 100 ≤ k * (50 * (2 - p) - Ex (b - a)) ∧ k * (50 * (2 - p) - Ex (b - a)) ≤ 64 * 100 := by
          have hy : -100 ≤ 50 * (2 - p) - Ex (b - a) ∧ 50 * (2 - p) - Ex (b - a) ≤ 100 := by omega
          generalize 50 * (2 - p) - Ex (b - a) = y at hy
          obtain ⟨n, rfl⟩ := Int.eq_ofNat_of_zero_le (show 0 ≤ k by omega)
          constructor
          · calc (-64 * 100 : Int) ≤ n * (-100) := by omega
              _ ≤ n * y := Int.mul_le_mul_of_nonneg_left hy.1 (by omega)
          · calc (n : Int) * y ≤ n * 100 := Int.mul_le_mul_of_nonneg_left hy.2 (by omega)
              _ ≤ 64 * 100 := by omega
        rw [ws (by omega)]; omega
      have fin : ∀ z : Int, -1099511627776 ≤ z → z ≤ 1099511627776 → ∀ z' : Int, z' = w64 (0 - z) → ∀ z2 : Int, z2 = w64 (z + 100) →
          ((f8 100 z).bind fun r12 => (f8 100 z').bind fun r13 => bif (w64 (r12.1 + r13.1)) == 100 then (f8 100 z).bind fun r14 => (f8 100 z2).bind fun r15 => some (decide (r14.1 ≤ r15.1), ()) else some (false, ())) = some (true, ()) := by
        intro z hz1 hz2 z' hz' z2 hz2'
        subst hz' hz2'
        rw [ws (n := 0 - z) (by omega), ws (n := z + 100) (by omega), expect, expect]
        simp only [Option.bind_some]
        have h1 := Ex_neg z
        rw [show -z = 0 - z by omega] at h1
        rw [h1, be1 (show w64 100 = 100 from ws (by omega)), expect]
        simp only [Option.bind_some]
        rw [decide_eq_true (Ex_mono (show z ≤ z + 100 by omega))]
      have f0 := fin 0 (by omega) (by omega) 0 rfl 100 rfl
      by_cases c1 : d < -1099511627776
      · rw [bt1 c1, be1 rfl, be1 hy]; exact f0
      · rw [bf1 c1]
        by_cases c2 : d > 1099511627776
        · rw [bt1 c2, be1 rfl, be1 hy]; exact f0
        · rw [bf1 c2, be1 rfl, be1 hy]; exact fin d (by omega) (by omega) _ rfl _ rfl
    · exact absurd ⟨hb, ha, by omega, by omega, k1, k64⟩ g3
  · rw [h2]
    simp only [Option.bind_some]
    obtain ⟨r, hr⟩ : ∃ r, f7 100 b a (w64 (2 - (if (if 2 < p then 2 else p) > 0 then if 2 < p then 2 else p else 0))) k = some r := by
      rcases change_tot b a (w64 (2 - (if (if 2 < p then 2 else p) > 0 then if 2 < p then 2 else p else 0))) k with ⟨g, _⟩ | ⟨_, _, g, _⟩ <;> exact ⟨_, g⟩
    rw [hr]
    simp only [Option.bind_some]
    rw [bne1 h1]; rfl
end Go.Proofs.YtpighccmakogpaaDoor.G
