/- RobinWhole, as a plain fact: the schedule's check, as one of sets of bits; then all sizes, by the kernel. -/
import Derived.Test.YtpighccmakogpaaGRobin
namespace Go.Proofs.Ytpighccmakogpaa.G
open Go.VM Go.Proofs

theorem wi {n : Int} (h : -9223372036854775808 ≤ n ∧ n ≤ 9223372036854775807) : w64 n = n := by
  unfold w64; rw [IntKind.wrap_i64]; omega
abbrev PR := Int × Int × Unit
abbrev R0 : PR := (0, 0, ())
theorem rd_at {α : Type} (d x : α) (p r : List α) : rd d (p ++ x :: r) p.length = x := by
  unfold rd; simp
theorem rd_set (l : List Int) (i j : Nat) (v : Int) (h : i < l.length) : rd 0 (l.set i v) j = if i = j then v else rd 0 l j := by
  unfold rd
  simp only [Int.toNat_natCast, List.getD_eq_getElem?_getD, List.getElem?_set]
  by_cases e : i = j
  · subst e; simp [h]
  · simp [e]

def bit (m i : Nat) : Bool := m.testBit i
def bit1 (m i : Nat) : Nat := m ||| (1 <<< i)
theorem bit_bit1 (m i j : Nat) : bit (bit1 m i) j = (bit m j || decide (i = j)) := by
  unfold bit bit1
  rw [Nat.testBit_or, Nat.testBit_shiftLeft]
  congr 1
  by_cases e : i = j
  · subst e; simp
  · simp only [e, decide_false]
    by_cases h : i ≤ j
    · rw [decide_eq_true (show j ≥ i by omega), Bool.true_and, Bool.eq_false_iff]
      intro h1
      have := Nat.testBit_one_eq_true_iff_self_eq_zero.1 h1
      omega
    · rw [decide_eq_false (show ¬ j ≥ i by omega)]; rfl

/-- A round's games: whom they make busy, and who has met whom. -/
def rnd (n : Nat) : Nat → Nat → List PR → Option Nat
  | _, met, [] => some met
  | busy, met, (a, b, ()) :: r =>
    match a, b with
    | .ofNat x, .ofNat y =>
      bif Nat.blt x n && Nat.blt y n && !Nat.beq x y && !bit busy x && !bit busy y && !bit met (x * n + y) then rnd n (bit1 (bit1 busy x) y) (bit1 met (x * n + y)) r else none
    | _, _ => none
def rnds (n : Nat) : Nat → List (List PR) → Option Nat
  | met, [] => some met
  | met, g :: r => match rnd n 0 met g with
    | some met' => rnds n met' r
    | none => none
/-- A list of numbers as a set of bits. -/
def Is (l : List Int) (m : Nat) : Prop := ∀ i : Nat, i < l.length → rd 0 l i = if bit m i then 1 else 0
theorem Is.set {l : List Int} {m i : Nat} (h : Is l m) (hi : i < l.length) : Is (l.set i 1) (bit1 m i) := by
  intro j hj
  rw [rd_set l i j 1 hi, bit_bit1]
  by_cases e : i = j
  · subst e; simp
  · simp only [e, decide_false, Bool.or_false]
    exact h j (by simpa using hj)

theorem round_ok (n : Nat) (tw : Bool) (hn : n ≤ 32) (L : List (List PR)) (a1 a2 : Int) : ∀ (suf pre : List PR) (j : Nat) (met busy : List Int) (mm mb M : Nat), suf.length < j → (pre ++ suf).length ≤ 1000 → met.length = n * n → busy.length = n → Is met mm → Is busy mb → rnd n mb mm suf = some M →
    ∃ met', l24_12 100 j n tw met busy L a1 a2 (pre ++ suf) (pre ++ suf).length pre.length = some (.inl (n, tw, met', L, a1, a2, ())) ∧ met'.length = n * n ∧ Is met' M
  | [], pre, 0, met, busy, mm, mb, M, h, _, _, _, _, _, _ => by simp at h
  | [], pre, j + 1, met, busy, mm, mb, M, h, _, hm, hb, im, ib, hr => by
    rw [l24_12, decide_eq_false (by simp)]
    cases hr
    exact ⟨met, rfl, hm, im⟩
  | (a, b, ()) :: r, pre, 0, met, busy, mm, mb, M, h, _, _, _, _, _, _ => by simp at h
  | (a, b, ()) :: r, pre, j + 1, met, busy, mm, mb, M, h, hl, hm, hb, im, ib, hr => by
    match a, b, hr with
    | .ofNat x, .ofNat y, hr =>
      have hr : (bif Nat.blt x n && Nat.blt y n && !Nat.beq x y && !bit mb x && !bit mb y && !bit mm (x * n + y) then rnd n (bit1 (bit1 mb x) y) (bit1 mm (x * n + y)) r else none) = some M := hr
      cases hc : (Nat.blt x n && Nat.blt y n && !Nat.beq x y && !bit mb x && !bit mb y && !bit mm (x * n + y)) with
      | false => rw [hc] at hr; cases hr
      | true =>
        rw [hc] at hr
        have hr : rnd n (bit1 (bit1 mb x) y) (bit1 mm (x * n + y)) r = some M := hr
        simp only [Bool.and_eq_true, Bool.not_eq_true'] at hc
        obtain ⟨⟨⟨⟨⟨c1, c2⟩, c3⟩, c4⟩, c5⟩, c6⟩ := hc
        have c1 : x < n := Nat.le_of_ble_eq_true c1
        have c2 : y < n := Nat.le_of_ble_eq_true c2
        have c3 : x ≠ y := fun e => by subst e; rw [Nat.beq_refl] at c3; cases c3
        have hl' : pre.length + (r.length + 1) ≤ 1000 := by simpa using hl
        have hxy : x * n + y < n * n := by
          have : (x + 1) * n ≤ n * n := Nat.mul_le_mul_right n c1
          rw [Nat.add_mul, Nat.one_mul] at this
          omega
        have hnn : n * n ≤ 32 * 32 := Nat.mul_le_mul hn hn
        have b1 : rd 0 busy x = 0 := by rw [ib x (by omega), c4]; rfl
        have b2 : rd 0 busy y = 0 := by rw [ib y (by omega), c5]; rfl
        have m1 : rd 0 met ((x * n + y : Nat) : Int) = 0 := by rw [im _ (by omega), c6]; rfl
        have b3 : rd 0 (busy.set x 1) y = 0 := by rw [rd_set busy x y 1 (by omega), if_neg c3, b2]
        have b4 : rd 0 ((busy.set x 1).set y 1) x = 1 := by rw [rd_set _ y x 1 (by simp; omega), if_neg (Ne.symm c3), rd_set busy x x 1 (by omega), if_pos rfl]
        have b5 : rd 0 ((busy.set x 1).set y 1) y = 1 := by rw [rd_set _ y y 1 (by simp; omega), if_pos rfl]
        have e01 : w64 (0 + 1) = 1 := by decide
        have ei : w64 ((w64 ((x : Int) * (n : Int))) + (y : Int)) = ((x * n + y : Nat) : Int) := by
          have : (x : Int) * (n : Int) = ((x * n : Nat) : Int) := by simp
          rw [this]
          generalize x * n = q at *
          rw [wi (n := (q : Int)) (by omega), wi (by omega)]
          omega
        have hrd : rd R0 (pre ++ (((x : Int), (y : Int), ()) : PR) :: r) pre.length = ((x : Int), (y : Int), ()) := rd_at ..
        have g1 : decide ((pre.length : Int) < ((pre ++ (((x : Int), (y : Int), ()) : PR) :: r).length : Int)) = true := decide_eq_true (by simp; omega)
        have g2 : decide ((0 : Int) ≤ pre.length) = true := decide_eq_true (by omega)
        have g3 : decide ((if (y : Int) < (x : Int) then (y : Int) else (x : Int)) < 0) = false := decide_eq_false (by split <;> omega)
        have g4 : decide ((if (y : Int) > (x : Int) then (y : Int) else (x : Int)) ≥ (n : Int)) = false := decide_eq_false (by split <;> omega)
        have g5 : ((x : Int) == (y : Int)) = false := beq_eq_false_iff_ne.2 (by omega)
        have g6 : decide ((0 : Int) ≤ (x : Int)) = true := decide_eq_true (by omega)
        have g7 : decide ((0 : Int) ≤ (y : Int)) = true := decide_eq_true (by omega)
        have g8 : decide ((x : Int) < (n : Int)) = true := decide_eq_true (by omega)
        have g9 : decide ((y : Int) < (n : Int)) = true := decide_eq_true (by omega)
        have g10 : decide ((0 : Int) ≤ ((x * n + y : Nat) : Int)) = true := decide_eq_true (Int.natCast_nonneg _)
        have g11 : decide (((x * n + y : Nat) : Int) < ((n * n : Nat) : Int)) = true := decide_eq_true (by exact_mod_cast hxy)
        have g12 : decide ((1 : Int) > 1) = false := rfl
        obtain ⟨met', k1, k2, k3⟩ := round_ok n tw hn L a1 a2 r (pre ++ [(((x : Int), (y : Int), ()) : PR)]) j (met.set (x * n + y) 1) ((busy.set x 1).set y 1) (bit1 mm (x * n + y)) (bit1 (bit1 mb x) y) M
          (by simp at h; omega) (by simp; omega) (by simpa using hm) (by simpa using hb) (im.set (by omega)) ((ib.set (by omega)).set (by simp; omega)) hr
        refine ⟨met', ?_, k2, k3⟩
        show l24_12 100 (j + 1) n tw met busy L a1 a2 (pre ++ (((x : Int), (y : Int), ()) : PR) :: r) (pre ++ (((x : Int), (y : Int), ()) : PR) :: r).length pre.length = _
        rw [l24_12]
        simp only [hrd, g1, g2, g3, g4, g5, g6, g7, hb, List.length_set, g8, g9, Int.toNat_natCast, b1, e01, b3, b4, b5, g12, ei, hm, g10, g11, m1, Bool.and_self, cond_true, cond_false]
        rw [wi (n := (pre.length : Int) + 1) (by omega)]
        simpa using k1

theorem is_zero (n : Nat) : Is (List.replicate n 0) 0 := by
  intro i hi
  have : bit 0 i = false := by unfold bit; simp
  rw [this]
  unfold rd
  simp [List.getD_eq_getElem?_getD, List.getElem?_replicate]
  split <;> rfl

theorem rounds_ok (n : Nat) (tw : Bool) (hn : n ≤ 32) : ∀ (suf pre : List (List PR)) (j : Nat) (met : List Int) (mm M : Nat), suf.length < j → (pre ++ suf).length ≤ 1000 → (∀ g ∈ suf, g.length ≤ 90) → met.length = n * n → Is met mm → rnds n mm suf = some M →
    ∃ met', l24_8 100 j n tw met (pre ++ suf) (pre ++ suf).length pre.length = some (.inl (n, tw, met', ())) ∧ met'.length = n * n ∧ Is met' M
  | [], pre, 0, met, mm, M, h, _, _, _, _, _ => by simp at h
  | [], pre, j + 1, met, mm, M, h, _, _, hm, im, hr => by
    rw [l24_8, decide_eq_false (by simp)]
    cases hr
    exact ⟨met, rfl, hm, im⟩
  | g :: r, pre, 0, met, mm, M, h, _, _, _, _, _ => by simp at h
  | g :: r, pre, j + 1, met, mm, M, h, hl, hg, hm, im, hr => by
    have hl' : pre.length + (r.length + 1) ≤ 1000 := by simpa using hl
    have hr : (match rnd n 0 mm g with | some met' => rnds n met' r | none => none) = some M := hr
    split at hr
    · rename_i M1 h1
      obtain ⟨met1, k1, k2, k3⟩ := round_ok n tw hn (pre ++ g :: r) ((pre ++ g :: r).length : Int) (pre.length : Int) g [] 100 met (List.replicate n 0) mm 0 M1 (by have := hg g (by simp); omega) (by have := hg g (by simp); simp; omega) hm (by simp) im (is_zero n) h1
      obtain ⟨met', f1, f2, f3⟩ := rounds_ok n tw hn r (pre ++ [g]) j met1 M1 M (by simp at h; omega) (by simp; omega) (fun g hg' => hg g (List.mem_cons_of_mem _ hg')) k2 k3 hr
      refine ⟨met', ?_, f2, f3⟩
      have q1 : (decide (0 ≤ (n : Int)) && (decide ((n : Int) ≤ (n : Int)) && decide (((8 : Nat) : Int) * (n : Int) ≤ 281474976710656)) && decide ((n : Int) ≤ 9223372036854775807)) = true := by
        rw [decide_eq_true (by omega), decide_eq_true (by omega), decide_eq_true (by omega), decide_eq_true (by omega)]; rfl
      rw [l24_8, decide_eq_true (show (pre.length : Int) < ((pre ++ g :: r).length : Int) by simp; omega), decide_eq_true (show (0 : Int) ≤ pre.length by omega), rd_at, q1]
      simp only [Bool.and_self, cond_true, Int.toNat_natCast]
      have k1' : l24_12 100 100 n tw met (List.replicate n 0) (pre ++ g :: r) ((pre ++ g :: r).length : Int) (pre.length : Int) g (g.length : Int) 0 = _ := k1
      rw [k1']
      simp only [Option.bind_some, Sum.elim_inl]
      rw [wi (n := (pre.length : Int) + 1) (by omega)]
      simpa using f1
    · cases hr

/-- Who must have met whom. -/
def fin1 (n : Nat) (tw : Bool) (M i j : Nat) : Bool := bif tw then bit M (i * n + j) && bit M (j * n + i) else xor (bit M (i * n + j)) (bit M (j * n + i))
def fin (n : Nat) (tw : Bool) (M : Nat) : Bool := (List.range n).all fun i => (List.range i).all fun j => fin1 n tw M i j
theorem cell_ix {n i j : Nat} (hn : n ≤ 32) (hi : i < n) (hj : j < n) : i * n + j < n * n ∧ w64 ((w64 ((i : Int) * (n : Int))) + (j : Int)) = ((i * n + j : Nat) : Int) := by
  have hnn : n * n ≤ 32 * 32 := Nat.mul_le_mul hn hn
  have h1 : (i + 1) * n ≤ n * n := Nat.mul_le_mul_right n hi
  rw [Nat.add_mul, Nat.one_mul] at h1
  have : (i : Int) * (n : Int) = ((i * n : Nat) : Int) := by simp
  rw [this]
  generalize i * n = q at *
  refine ⟨by omega, ?_⟩
  rw [wi (n := (q : Int)) (by omega), wi (by omega)]
  omega
theorem fin_row (n : Nat) (tw : Bool) (hn : n ≤ 32) (met : List Int) (M i : Nat) (hm : met.length = n * n) (im : Is met M) (hi : i < n) (hf : ∀ j, j < i → fin1 n tw M i j = true) : ∀ (J j : Nat), j ≤ i → i < j + J →
    l24_27 100 J n tw met i n i i j = some (.inl (n, tw, met, n, i, ()))
  | 0, j, h, h' => by omega
  | J + 1, j, h, h' => by
    rw [l24_27]
    by_cases hj : j < i
    · obtain ⟨x1, x2⟩ := cell_ix hn hi (show j < n by omega)
      obtain ⟨y1, y2⟩ := cell_ix hn (show j < n by omega) hi
      have v1 := im _ (show i * n + j < met.length by omega)
      have v2 := im _ (show j * n + i < met.length by omega)
      have ff := hf j hj
      rw [decide_eq_true (show (j : Int) < i by omega), x2, y2, hm, decide_eq_true (Int.natCast_nonneg _), decide_eq_true (Int.natCast_nonneg _), decide_eq_true (show ((i * n + j : Nat) : Int) < ((n * n : Nat) : Int) by exact_mod_cast x1), decide_eq_true (show ((j * n + i : Nat) : Int) < ((n * n : Nat) : Int) by exact_mod_cast y1), v1, v2, wi (n := (j : Int) + 1) (by omega)]
      have ih := fin_row n tw hn met M i hm im hi hf J (j + 1) (by omega) (by omega)
      have e1 : ((j : Int) + 1) = ((j + 1 : Nat) : Int) := by omega
      rw [e1, ih]
      unfold fin1 at ff
      have w0 : w64 (0 + 1) = 1 := by decide
      have w1 : w64 (1 + 0) = 1 := by decide
      cases tw
      · simp only [cond_false] at ff
        cases hb1 : bit M (i * n + j) <;> cases hb2 : bit M (j * n + i) <;> rw [hb1, hb2] at ff <;> first | rfl | cases ff
      · simp only [cond_true, Bool.and_eq_true] at ff
        rw [ff.1, ff.2]
        simp
    · rw [decide_eq_false (show ¬ ((j : Int) < i) by omega)]
      rfl
theorem fin_rows (n : Nat) (tw : Bool) (hn : n ≤ 32) (met : List Int) (M : Nat) (hm : met.length = n * n) (im : Is met M) (hf : ∀ i j, i < n → j < i → fin1 n tw M i j = true) : ∀ (J i : Nat), i ≤ n → n < i + J →
    l24_24 100 J n tw met n i = some (.inl ())
  | 0, i, h, h' => by omega
  | J + 1, i, h, h' => by
    rw [l24_24]
    by_cases hi : i < n
    · have fr := fin_row n tw hn met M i hm im hi (fun j hj => hf i j hi hj) 100 0 (by omega) (by omega)
      rw [show ((0 : Nat) : Int) = 0 from rfl] at fr
      rw [decide_eq_true (show (i : Int) < n by omega), fr]
      simp only [cond_true, Option.bind_some, Sum.elim_inl]
      rw [wi (n := (i : Int) + 1) (by omega)]
      exact fin_rows n tw hn met M hm im hf J (i + 1) (by omega) (by omega)
    · rw [decide_eq_false (show ¬ ((i : Int) < n) by omega)]
      rfl

theorem check_ok (n : Nat) (tw : Bool) (hn : n ≤ 32) (L : List (List PR)) (k : Int) (M : Nat) (h21 : f21 100 n tw = some (k, 0, ())) (hk : (L.length : Int) = k) (hL : L.length ≤ 90) (hg : ∀ g ∈ L, g.length ≤ 90) (hr : rnds n 0 L = some M) (hf : fin n tw M = true) : f24 100 n tw L = some (0, ()) := by
  have hnn : n * n ≤ 32 * 32 := Nat.mul_le_mul hn hn
  unfold f24
  simp only [h21, Option.bind_some, show ((0 : Int) != 0) = false from rfl, cond_false]
  have e1 : w64 ((n : Int) * (n : Int)) = ((n * n : Nat) : Int) := by
    have : (n : Int) * (n : Int) = ((n * n : Nat) : Int) := by simp
    rw [this]
    generalize n * n = q at *
    exact wi (by omega)
  have q1 : (decide (0 ≤ ((n * n : Nat) : Int)) && (decide (((n * n : Nat) : Int) ≤ ((n * n : Nat) : Int)) && decide (((8 : Nat) : Int) * ((n * n : Nat) : Int) ≤ 281474976710656)) && decide (((n * n : Nat) : Int) ≤ 9223372036854775807)) = true := by
    generalize n * n = q at *
    rw [decide_eq_true (by omega), decide_eq_true (by omega), decide_eq_true (by omega), decide_eq_true (by omega)]; rfl
  rw [show ((L.length : Int) != k) = false by rw [hk]; exact bne_self_eq_false _, e1, q1]
  simp only [cond_false, cond_true, Int.toNat_natCast]
  obtain ⟨met, m1, m2, m3⟩ := rounds_ok n tw hn L [] 100 (List.replicate (n * n) 0) 0 M (by omega) (by simp; omega) hg (by simp) (is_zero _) hr
  have m1' : l24_8 100 100 n tw (List.replicate (n * n) 0) L (L.length : Int) 0 = _ := m1
  rw [m1']
  simp only [Option.bind_some, Sum.elim_inl]
  have hf' : ∀ i j, i < n → j < i → fin1 n tw M i j = true := by
    intro i j hi hj
    unfold fin at hf
    rw [List.all_eq_true] at hf
    have := hf i (List.mem_range.2 hi)
    rw [List.all_eq_true] at this
    exact this j (List.mem_range.2 hj)
  have f1 := fin_rows n tw hn met M m2 m3 hf' 100 0 (by omega) (by omega)
  rw [show ((0 : Nat) : Int) = 0 from rfl] at f1
  rw [f1]
  rfl

/-- One size, as the kernel works it out. -/
noncomputable def size (n : Nat) (tw : Bool) : Bool :=
  match f23 100 n tw, f21 100 n tw with
  | some (L, e, ()), some (k, e', ()) => (e == 0) && (e' == 0) && ((L.length : Int) == k) && Nat.ble L.length 90 && (L.all fun g => Nat.ble g.length 90) && (match rnds n 0 L with | some M => fin n tw M | none => false)
  | _, _ => false
theorem size_ok (n : Nat) (tw : Bool) (hn : n ≤ 32) (h : size n tw = true) : ∃ L, f23 100 n tw = some (L, 0, ()) ∧ f24 100 n tw L = some (0, ()) := by
  unfold size at h
  split at h
  · rename_i L e k e' h1 h2
    simp only [Bool.and_eq_true] at h
    obtain ⟨⟨⟨⟨⟨a1, a2⟩, a3⟩, a4⟩, a5⟩, a6⟩ := h
    have a1 := eq_of_beq a1
    have a2 := eq_of_beq a2
    have a3 := eq_of_beq a3
    subst a1
    subst a2
    split at a6
    · rename_i M hM
      refine ⟨L, h1, check_ok n tw hn L k M h2 a3 (Nat.le_of_ble_eq_true a4) (fun g hg => ?_) hM a6⟩
      rw [List.all_eq_true] at a5
      exact Nat.le_of_ble_eq_true (a5 g hg)
    · cases a6
  · cases h

theorem all_sizes : ((List.range 31).all fun i => size (i + 2) false && size (i + 2) true) = true := by kernel_rfl

theorem f7_pure (x0 : Int) (tw : Bool) : f7 100 x0 tw = some (true, ()) := by
  unfold f7
  rw [show f15 100 = some (true, ()) by kernel_rfl]
  simp only [Option.bind_some, Bool.not_true, cond_false]
  by_cases h : x0 < 2 ∨ x0 > 32
  · have h21 : f21 100 x0 tw = some (0, 4, ()) := by
      unfold f21
      by_cases h1 : x0 < 2
      · rw [decide_eq_true h1]; rfl
      · rw [decide_eq_false h1, decide_eq_true (show x0 > 32 by omega)]; rfl
    have h23 : f23 100 x0 tw = some ([], 4, ()) := by unfold f23; rw [h21]; rfl
    have h24 : f24 100 x0 tw [] = some (4, ()) := by unfold f24; rw [h21]; rfl
    rw [h23]
    simp only [Option.bind_some, h24]
    rfl
  · obtain ⟨n, rfl⟩ := Int.eq_ofNat_of_zero_le (show 0 ≤ x0 by omega)
    have hs := all_sizes
    rw [List.all_eq_true] at hs
    have hs := hs (n - 2) (List.mem_range.2 (by omega))
    rw [Bool.and_eq_true, show n - 2 + 2 = n by omega] at hs
    have hsz : size n tw = true := by cases tw; exact hs.1; exact hs.2
    obtain ⟨L, h1, h2⟩ := size_ok n tw (by omega) hsz
    simp only [h1, h2, Option.bind_some, show ((0 : Int) != 0) = false from rfl, cond_false]
    rfl
end Go.Proofs.Ytpighccmakogpaa.G
