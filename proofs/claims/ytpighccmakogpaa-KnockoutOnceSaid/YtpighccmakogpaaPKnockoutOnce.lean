/- KnockoutOnce, as a plain fact: who is still in has lost no game, who is out has lost one. -/
import Derived.Test.YtpighccmakogpaaGKnock
namespace Go.Proofs.Ytpighccmakogpaa.G
open Go.VM Go.Proofs

theorem wi {n : Int} (h : -9223372036854775808 ≤ n ∧ n ≤ 9223372036854775807) : w64 n = n := by
  unfold w64; rw [IntKind.wrap_i64]; omega
abbrev GM := Int × Int × Int × Unit
abbrev G0 : GM := (0, 0, 0, ())
theorem rd_at {α : Type} (d x : α) (p r : List α) : rd d (p ++ x :: r) p.length = x := by
  unfold rd; simp
theorem rd_at1 {α : Type} (d x y : α) (p r : List α) : rd d (p ++ x :: y :: r) ((p.length + 1 : Nat) : Int) = y := by
  unfold rd
  have : ((p.length + 1 : Nat) : Int).toNat = p.length + 1 := by omega
  rw [this, List.getD_eq_getElem?_getD]
  simp
theorem rd_set (l : List Int) (i j : Nat) (v : Int) (h : i < l.length) : rd 0 (l.set i v) j = if i = j then v else rd 0 l j := by
  unfold rd
  simp only [Int.toNat_natCast, List.getD_eq_getElem?_getD, List.getElem?_set]
  by_cases e : i = j
  · subst e; simp [h]
  · simp [e]

/-- Who is in, and who has lost. -/
structure Inv (n : Nat) (lost : List Int) (kk : Nat) (T : List Int) : Prop where
  c : ∀ p : Nat, p < n → (T.count (p : Int) = 1 ∧ rd 0 lost p = 0) ∨ (T.count (p : Int) = 0 ∧ rd 0 lost p = 1)
  b : ∀ x ∈ T, -1 ≤ x ∧ x < n
  l : lost.length = n
  k : kk + T.countP (fun x => decide (0 ≤ x)) = n
  q : kk < n

/-- The games, looked through. -/
def Scan (n : Nat) (res : List Int) : List Int → Nat → List GM → List Int → Nat → Prop
  | lost, k, [], lost', k' => lost' = lost ∧ k' = k
  | lost, k, (_, a, b, ()) :: gs, lost', k' => if a < 0 ∨ b < 0 then Scan n res lost k gs lost' k' else
      k < res.length ∧ a < n ∧ b < n ∧ rd 0 lost (if rd 0 res k = 2 then b else a) = 0 ∧ Scan n res (lost.set (if rd 0 res k = 2 then b else a).toNat 1) (k + 1) gs lost' k'
theorem Scan.app {n : Nat} {res : List Int} : ∀ {g1 g2 : List GM} {l1 l2 l3 : List Int} {k1 k2 k3 : Nat}, Scan n res l1 k1 g1 l2 k2 → Scan n res l2 k2 g2 l3 k3 → Scan n res l1 k1 (g1 ++ g2) l3 k3
  | [], g2, l1, l2, l3, k1, k2, k3, h1, h2 => by obtain ⟨rfl, rfl⟩ := h1; exact h2
  | (_, a, b, ()) :: gs, g2, l1, l2, l3, k1, k2, k3, h1, h2 => by
    simp only [List.cons_append, Scan] at h1 ⊢
    split at h1
    · rename_i h; rw [if_pos h]; exact Scan.app h1 h2
    · rename_i h; rw [if_neg h]; exact ⟨h1.1, h1.2.1, h1.2.2.1, h1.2.2.2.1, Scan.app h1.2.2.2.2 h2⟩

/-- One game of the bracket. -/
theorem Inv.bye {n : Nat} {lost : List Int} {kk : Nat} {nx r : List Int} {a b w : Int} (h : Inv n lost kk (nx ++ a :: b :: r)) (hw : (a < 0 ∧ w = b) ∨ (b < 0 ∧ w = a)) : Inv n lost kk ((nx ++ [w]) ++ r) := by
  obtain ⟨c, bb, l, k, q⟩ := h
  refine ⟨fun p hp => ?_, fun x hx => bb x ?_, l, ?_, q⟩
  · have := c p hp
    simp only [List.count_append, List.count_cons, List.count_nil] at this ⊢
    rcases hw with ⟨h1, rfl⟩ | ⟨h1, rfl⟩
    · rw [show (a == (p : Int)) = false from beq_eq_false_iff_ne.2 (by omega)] at this
      simp only [Bool.false_eq_true, if_false] at this
      omega
    · rw [show (b == (p : Int)) = false from beq_eq_false_iff_ne.2 (by omega)] at this
      simp only [Bool.false_eq_true, if_false] at this
      omega
  · simp only [List.mem_append, List.mem_cons, List.not_mem_nil, or_false] at hx ⊢
    rcases hw with ⟨h1, rfl⟩ | ⟨h1, rfl⟩
    · rcases hx with (h | h) | h
      · exact .inl h
      · exact .inr (.inr (.inl h))
      · exact .inr (.inr (.inr h))
    · rcases hx with (h | h) | h
      · exact .inl h
      · exact .inr (.inl h)
      · exact .inr (.inr (.inr h))
  · simp only [List.countP_append, List.countP_cons, List.countP_nil] at k ⊢
    rcases hw with ⟨h1, rfl⟩ | ⟨h1, rfl⟩
    · rw [show decide (0 ≤ a) = false from decide_eq_false (by omega)] at k
      simp only [Bool.false_eq_true, if_false] at k
      omega
    · rw [show decide (0 ≤ b) = false from decide_eq_false (by omega)] at k
      simp only [Bool.false_eq_true, if_false] at k
      omega
theorem Inv.game {n : Nat} {lost : List Int} {kk : Nat} {nx r : List Int} {a b w x : Int} (h : Inv n lost kk (nx ++ a :: b :: r)) (ha : 0 ≤ a) (hb : 0 ≤ b) (hw : (w = a ∧ x = b) ∨ (w = b ∧ x = a)) :
    Inv n (lost.set x.toNat 1) (kk + 1) ((nx ++ [w]) ++ r) ∧ kk + 1 < n ∧ a < n ∧ b < n ∧ rd 0 lost x = 0 := by
  obtain ⟨c, bb, l, k, _⟩ := h
  have an := (bb a (by simp)).2
  have bn := (bb b (by simp)).2
  obtain ⟨p, rfl⟩ := Int.eq_ofNat_of_zero_le ha
  obtain ⟨q, rfl⟩ := Int.eq_ofNat_of_zero_le hb
  have cp := c p (by omega)
  have cq := c q (by omega)
  simp only [List.count_append, List.count_cons, List.countP_append, List.countP_cons] at cp cq k
  have d1 : decide ((0 : Int) ≤ (p : Int)) = true := decide_eq_true (by omega)
  have d2 : decide ((0 : Int) ≤ (q : Int)) = true := decide_eq_true (by omega)
  rw [d1, d2] at k
  simp only [if_true, beq_self_eq_true] at k cp cq
  have hpq : p ≠ q := by
    rintro rfl
    simp only [beq_self_eq_true, if_true] at cp
    omega
  have x0 : rd 0 lost x = 0 := by
    rcases hw with ⟨_, rfl⟩ | ⟨_, rfl⟩
    · omega
    · omega
  refine ⟨⟨fun s hs => ?_, fun y hy => ?_, by simpa using l, ?_, by omega⟩, by omega, an, bn, x0⟩
  · have cs := c s hs
    simp only [List.count_append, List.count_cons, List.count_nil] at cs ⊢
    rcases hw with ⟨rfl, rfl⟩ | ⟨rfl, rfl⟩
    · rw [Int.toNat_natCast, rd_set lost q s _ (by omega)]
      by_cases e : q = s
      · subst e
        rw [if_pos rfl]
        simp only [beq_self_eq_true, if_true] at cs
        right
        have : ((p : Int) == (q : Int)) = false := beq_eq_false_iff_ne.2 (by omega)
        rw [this] at cs ⊢
        simp only [Bool.false_eq_true, if_false] at cs ⊢
        first | omega | exact ⟨by omega, rfl⟩ | exact ⟨by omega, trivial⟩
      · rw [if_neg e]
        have : ((q : Int) == (s : Int)) = false := beq_eq_false_iff_ne.2 (by omega)
        rw [this] at cs
        simp only [Bool.false_eq_true, if_false] at cs ⊢
        omega
    · rw [Int.toNat_natCast, rd_set lost p s _ (by omega)]
      by_cases e : p = s
      · subst e
        rw [if_pos rfl]
        simp only [beq_self_eq_true, if_true] at cs
        right
        have : ((q : Int) == (p : Int)) = false := beq_eq_false_iff_ne.2 (by omega)
        rw [this] at cs ⊢
        simp only [Bool.false_eq_true, if_false] at cs ⊢
        first | omega | exact ⟨by omega, rfl⟩ | exact ⟨by omega, trivial⟩
      · rw [if_neg e]
        have : ((p : Int) == (s : Int)) = false := beq_eq_false_iff_ne.2 (by omega)
        rw [this] at cs
        simp only [Bool.false_eq_true, if_false] at cs ⊢
        omega
  · refine bb y ?_
    simp only [List.mem_append, List.mem_cons, List.not_mem_nil, or_false] at hy ⊢
    rcases hw with ⟨rfl, rfl⟩ | ⟨rfl, rfl⟩
    · rcases hy with (h | h) | h
      · exact .inl h
      · exact .inr (.inl h)
      · exact .inr (.inr (.inr h))
    · rcases hy with (h | h) | h
      · exact .inl h
      · exact .inr (.inr (.inl h))
      · exact .inr (.inr (.inr h))
  · simp only [List.countP_append, List.countP_cons, List.countP_nil]
    rcases hw with ⟨rfl, rfl⟩ | ⟨rfl, rfl⟩
    · rw [d1]; simp only [if_true]; omega
    · rw [d2]; simp only [if_true]; omega

theorem round_l (n : Nat) (res : List Int) (hn : n ≤ 32) (hres : res.length + 1 = n) (rnd : Int) : ∀ (j : Nat) (suf pre : List Int) (out : List GM) (kk : Nat) (nx lost : List Int), suf.length % 2 = 0 → suf.length < 2 * j → pre.length + suf.length ≤ 64 → out.length + suf.length ≤ 1000 → nx.length + suf.length ≤ 64 → Inv n lost kk (nx ++ suf) →
    ∃ (gs : List GM) (kk' : Nat) (nx' lost' : List Int), l28_17 100 j res (pre ++ suf) out kk rnd nx pre.length = some (res, pre ++ suf, out ++ gs, ((kk' : Nat) : Int), rnd, nx', ()) ∧ nx'.length = nx.length + suf.length / 2 ∧ Inv n lost' kk' nx' ∧ Scan n res lost kk gs lost' kk' ∧ gs.length = suf.length / 2
  | 0, suf, pre, out, kk, nx, lost, h1, h2, _, _, _, _ => by omega
  | j + 1, [], pre, out, kk, nx, lost, h1, h2, hb, ho, hx, hi => by
    rw [l28_17, wi (n := (pre.length : Int) + 1) (by omega), decide_eq_false (by simp; omega)]
    exact ⟨[], kk, nx, lost, by simp, by simp, by simpa using hi, ⟨rfl, rfl⟩, rfl⟩
  | j + 1, [a], pre, out, kk, nx, lost, h1, h2, hb, ho, hx, hi => by simp at h1
  | j + 1, a :: b :: r, pre, out, kk, nx, lost, h1, h2, hb, ho, hx, hi => by
    simp only [List.length_cons] at h1 h2 hb ho hx
    have hrd1 : rd 0 (pre ++ a :: b :: r) (pre.length : Int) = a := rd_at ..
    have hrd2 : rd 0 (pre ++ a :: b :: r) ((pre.length : Int) + 1) = b := by
      have := rd_at1 0 a b pre r
      rw [show ((pre.length + 1 : Nat) : Int) = (pre.length : Int) + 1 by omega] at this
      exact this
    have g1 : decide ((pre.length : Int) + 1 < ((pre ++ a :: b :: r).length : Int)) = true := decide_eq_true (by simp; omega)
    have g2 : decide ((0 : Int) ≤ (pre.length : Int)) = true := decide_eq_true (by omega)
    have g3 : decide ((pre.length : Int) < ((pre ++ a :: b :: r).length : Int)) = true := decide_eq_true (by simp; omega)
    have g4 : decide ((0 : Int) ≤ (pre.length : Int) + 1) = true := decide_eq_true (by omega)
    have g5 : decide ((out.length + 1) * 24 ≤ roomN) = true := decide_eq_true (by unfold roomN; omega)
    have g6 : decide ((nx.length + 1) * 8 ≤ roomN) = true := decide_eq_true (by unfold roomN; omega)
    have step : ∀ (w : Int) (kk1 : Nat) (lost1 : List Int), Inv n lost1 kk1 ((nx ++ [w]) ++ r) → (∀ gs lost' kk', Scan n res lost1 kk1 gs lost' kk' → Scan n res lost kk ((rnd, a, b, ()) :: gs) lost' kk') →
        ∃ (gs : List GM) (kk' : Nat) (nx' lost' : List Int), l28_17 100 j res (pre ++ a :: b :: r) (out ++ [((rnd, a, b, ()) : GM)]) kk1 rnd (nx ++ [w]) ((pre.length : Int) + 2) = some (res, pre ++ a :: b :: r, out ++ gs, ((kk' : Nat) : Int), rnd, nx', ()) ∧ nx'.length = nx.length + (a :: b :: r).length / 2 ∧ Inv n lost' kk' nx' ∧ Scan n res lost kk gs lost' kk' ∧ gs.length = (a :: b :: r).length / 2 := by
      intro w kk1 lost1 hi1 hs
      obtain ⟨gs, kk', nx', lost', e1, e2, e3, e4, e5⟩ := round_l n res hn hres rnd j r (pre ++ [a, b]) (out ++ [((rnd, a, b, ()) : GM)]) kk1 (nx ++ [w]) lost1 (by omega) (by omega) (by simp; omega) (by simp; omega) (by simp; omega) hi1
      refine ⟨(rnd, a, b, ()) :: gs, kk', nx', lost', ?_, by simp at e2 ⊢; omega, e3, hs _ _ _ e4, by simp; omega⟩
      have hp : ((pre ++ [a, b]).length : Int) = (pre.length : Int) + 2 := by simp
      rw [hp] at e1
      simpa using e1
    rw [l28_17, wi (n := (pre.length : Int) + 1) (by omega), wi (n := (pre.length : Int) + 2) (by omega)]
    simp only [g1, g2, g3, g4, hrd1, hrd2, List.length_singleton, g5, g6, Bool.and_self, cond_true]
    unfold f36
    by_cases ha : a < 0
    · rw [decide_eq_true ha]
      simp only [cond_true]
      by_cases hb' : b < 0
      · rw [decide_eq_true hb']
        simp only [cond_true, Option.bind_some]
        exact step a kk lost (hi.bye (.inr ⟨hb', rfl⟩)) fun gs l' k' h => by rw [Scan, if_pos (.inl ha)]; exact h
      · rw [decide_eq_false hb']
        simp only [cond_false, Option.bind_some]
        exact step b kk lost (hi.bye (.inl ⟨ha, rfl⟩)) fun gs l' k' h => by rw [Scan, if_pos (.inl ha)]; exact h
    · rw [decide_eq_false ha]
      simp only [cond_false]
      by_cases hb' : b < 0
      · rw [decide_eq_true hb']
        simp only [cond_true, Option.bind_some]
        exact step a kk lost (hi.bye (.inr ⟨hb', rfl⟩)) fun gs l' k' h => by rw [Scan, if_pos (.inr hb')]; exact h
      · rw [decide_eq_false hb']
        simp only [cond_false]
        have hk : (kk : Int) < (res.length : Int) := by
          have := (hi.game (w := a) (x := b) (by omega) (by omega) (.inl ⟨rfl, rfl⟩)).2.1
          omega
        rw [decide_eq_true hk, decide_eq_true (show (0 : Int) ≤ (kk : Int) by omega), wi (n := (kk : Int) + 1) (by omega)]
        simp only [Bool.and_self, cond_true]
        by_cases h2' : rd 0 res kk = 2
        · rw [beq_iff_eq.2 h2']
          simp only [cond_true, Option.bind_some]
          obtain ⟨i1, i2, i3, i4, i5⟩ := hi.game (w := a) (x := b) (by omega) (by omega) (.inl ⟨rfl, rfl⟩)
          exact step a (kk + 1) _ i1 fun gs l' k' h => by
            rw [Scan, if_neg (by omega)]
            refine ⟨by omega, i3, i4, by rw [if_pos h2']; exact i5, ?_⟩
            rw [if_pos h2']; exact h
        · rw [beq_eq_false_iff_ne.2 h2']
          simp only [cond_false, Option.bind_some]
          obtain ⟨i1, i2, i3, i4, i5⟩ := hi.game (w := b) (x := a) (by omega) (by omega) (.inr ⟨rfl, rfl⟩)
          exact step b (kk + 1) _ i1 fun gs l' k' h => by
            rw [Scan, if_neg (by omega)]
            refine ⟨by omega, i3, i4, by rw [if_neg h2']; exact i5, ?_⟩
            rw [if_neg h2']; exact h

theorem rounds_l (n : Nat) (res : List Int) (hn : n ≤ 32) (hres : res.length + 1 = n) : ∀ (m j : Nat) (T : List Int) (out : List GM) (kk : Nat) (rnd : Nat) (lost : List Int), m < j → m ≤ 6 → T.length = 2 ^ m → rnd + m ≤ 10 → out.length + 2 ^ m ≤ 200 → Inv n lost kk T →
    ∃ (gs : List GM) (kk' : Nat) (w : Int) (lost' : List Int), l28_13 100 j res T out kk rnd = some (.inl (res, [w], out ++ gs, ((kk' : Nat) : Int), ())) ∧ Inv n lost' kk' [w] ∧ Scan n res lost kk gs lost' kk' ∧ gs.length + 1 ≤ 2 ^ m
  | m, 0, T, out, kk, rnd, lost, h, _, _, _, _, _ => by omega
  | 0, j + 1, T, out, kk, rnd, lost, h, _, hT, _, _, hi => by
    match T, hT with
    | [w], _ =>
      rw [l28_13, decide_eq_false (by simp)]
      exact ⟨[], kk, w, lost, by simp, hi, ⟨rfl, rfl⟩, by simp⟩
  | m + 1, j + 1, T, out, kk, rnd, lost, h, hm, hT, hr, ho, hi => by
    have h64 : 2 ^ m ≤ 2 ^ 5 := Nat.pow_le_pow_right (by omega) (by omega)
    have hp : 2 ^ (m + 1) = 2 * 2 ^ m := by rw [Nat.pow_succ]; omega
    have h1 : 1 ≤ 2 ^ m := Nat.one_le_two_pow
    obtain ⟨gs, kk1, nx, lost1, e1, e2, e3, e4, e5⟩ := round_l n res hn hres rnd 100 T [] out kk [] lost (by omega) (by omega) (by simp; omega) (by omega) (by simp; omega) (by simpa using hi)
    have e1' : l28_17 100 100 res T out kk rnd [] 0 = _ := e1
    rw [l28_13, decide_eq_true (show (T.length : Int) > 1 by omega), e1']
    simp only [cond_true, Option.bind_some, List.nil_append]
    simp only [List.length_nil, Nat.zero_add] at e2
    have e6 : nx.length = 2 ^ m := by omega
    rw [wi (n := (nx.length : Int) * 2) (by omega), wi (n := (rnd : Int) + 1) (by omega), decide_eq_false (show ¬ ((nx.length : Int) * 2 < (T.length : Int)) by omega)]
    simp only [cond_false]
    obtain ⟨gs2, kk2, w, lost2, f1, f2, f3, f4⟩ := rounds_l n res hn hres m j nx (out ++ gs) kk1 (rnd + 1) lost1 (by omega) (by omega) e6 (by omega) (by simp; omega) e3
    refine ⟨gs ++ gs2, kk2, w, lost2, ?_, f2, e4.app f3, by simp; omega⟩
    rw [show ((rnd : Int) + 1) = ((rnd + 1 : Nat) : Int) by omega, f1]
    simp

def R02 (l : List Int) : Prop := ∀ m : Nat, m < l.length → rd 0 l m = 0 ∨ rd 0 l m = 2
theorem res_l (res S : List Int) (h : R02 res) (hl : res.length ≤ 64) : ∀ (j i : Nat), i ≤ res.length → res.length < i + j → l28_5 100 j res S res res.length i = some (.inl (res, S, ()))
  | 0, i, _, _ => by omega
  | j + 1, i, h1, h2 => by
    rw [l28_5]
    by_cases hi : i < res.length
    · rw [decide_eq_true (show (i : Int) < res.length by omega), decide_eq_true (show (0 : Int) ≤ i by omega), wi (n := (i : Int) + 1) (by omega)]
      have ih := res_l res S h hl j (i + 1) (by omega) (by omega)
      rw [show ((i : Int) + 1) = ((i + 1 : Nat) : Int) by omega, ih]
      rcases h i hi with e | e <;> rw [e] <;> rfl
    · rw [decide_eq_false (show ¬ ((i : Int) < res.length) by omega)]
      rfl
theorem rd_pre0 (l t : List Int) (m : Nat) (h : m < l.length) : rd 0 (l ++ t) m = rd 0 l m := by
  unfold rd; simp [List.getD_eq_getElem?_getD, List.getElem?_append_left h]
theorem R02.app {l : List Int} (h : R02 l) {x : Int} (hx : x = 0 ∨ x = 2) : R02 (l ++ [x]) := by
  intro m hm
  by_cases e : m = l.length
  · subst e; rw [rd_at]; exact hx
  · rw [rd_pre0 l [x] m (by simp at hm; omega)]
    exact h m (by simp at hm; omega)
theorem make_l (n : Int) (xs : List Int) : ∀ (j i : Nat) (out : List Int), out.length = i → R02 out → i ≤ 31 → 31 < i + j → (2 ≤ n → (i : Int) ≤ n - 1) →
    ∃ res, l11_5 100 j n xs out i = some (n, res, ()) ∧ R02 res ∧ (2 ≤ n → n ≤ 32 → (res.length : Int) + 1 = n)
  | 0, i, out, _, _, _, _, _ => by omega
  | j + 1, i, out, h1, h2, h3, h4, h5 => by
    rw [l11_5]
    have stop : (2 ≤ n → n ≤ 32 → (i : Int) + 1 = n) → ∃ res, (some (n, out, ()) : Option (Int × List Int × Unit)) = some (n, res, ()) ∧ R02 res ∧ (2 ≤ n → n ≤ 32 → (res.length : Int) + 1 = n) := fun h => ⟨out, rfl, h2, fun a b => by have := h a b; omega⟩
    cases c1 : decide ((i : Int) < w64 (n - 1))
    · refine stop fun a b => ?_
      have := of_decide_eq_false c1
      rw [wi (by omega)] at this
      have := h5 a
      omega
    · simp only [cond_true]
      by_cases c2 : i < 31
      · rw [decide_eq_true (show (i : Int) < 31 by omega)]
        simp only [cond_true, List.length_singleton]
        have h5' : 2 ≤ n → ((i + 1 : Nat) : Int) ≤ n - 1 := fun a => by
          have := of_decide_eq_true c1
          by_cases b : n ≤ 32
          · rw [wi (by omega)] at this; omega
          · omega
        rw [decide_eq_true (show (out.length + 1) * 8 ≤ roomN by unfold roomN; omega), wi (n := (i : Int) + 1) (by omega), show ((i : Int) + 1) = ((i + 1 : Nat) : Int) by omega]
        have k0 := make_l n xs j (i + 1) (out ++ [0]) (by simp; omega) (h2.app (.inl rfl)) (by omega) (by omega) h5'
        have k2 := make_l n xs j (i + 1) (out ++ [2]) (by simp; omega) (h2.app (.inr rfl)) (by omega) (by omega) h5'
        by_cases c3 : i < xs.length
        · rw [decide_eq_true (show (i : Int) < xs.length by omega), decide_eq_true (show (0 : Int) ≤ i by omega)]
          simp only [cond_true, Bool.and_self]
          cases ((rd 0 xs i).tmod 2) == 0
          · exact k0
          · exact k2
        · rw [decide_eq_false (show ¬ ((i : Int) < xs.length) by omega)]
          exact k0
      · rw [decide_eq_false (show ¬ ((i : Int) < 31) by omega)]
        refine stop fun a b => ?_
        have := h5 a
        omega

theorem scan_l (n : Nat) (res : List Int) (hn : n ≤ 32) (hres : res.length ≤ 64) (w : Int) (lostE : List Int) (kE : Nat) : ∀ (suf pre : List GM) (j : Nat) (lost : List Int) (kk : Nat), suf.length < j → pre.length + suf.length ≤ 1000 → lost.length = n → kk + suf.length ≤ 1000 → Scan n res lost kk suf lostE kE →
    l11_17 100 j n res w lost kk (pre ++ suf) (pre ++ suf).length pre.length = some (.inl (n, w, lostE, kE, ()))
  | suf, pre, 0, lost, kk, h, _, _, _, _ => by omega
  | [], pre, j + 1, lost, kk, h, _, _, _, hs => by
    obtain ⟨rfl, rfl⟩ := hs
    rw [l11_17, decide_eq_false (by simp)]
    rfl
  | (rn, a, b, ()) :: r, pre, j + 1, lost, kk, h, hb, hl, hk, hs => by
    simp only [List.length_cons] at h hb hk
    have hrd : rd G0 (pre ++ ((rn, a, b, ()) : GM) :: r) pre.length = (rn, a, b, ()) := rd_at ..
    have g1 : decide ((pre.length : Int) < ((pre ++ ((rn, a, b, ()) : GM) :: r).length : Int)) = true := decide_eq_true (by simp; omega)
    have g2 : decide ((0 : Int) ≤ (pre.length : Int)) = true := decide_eq_true (by omega)
    have ih : ∀ (lost1 : List Int) (kk1 : Nat), lost1.length = n → kk1 + r.length ≤ 1000 → Scan n res lost1 kk1 r lostE kE → l11_17 100 j n res w lost1 kk1 (pre ++ ((rn, a, b, ()) : GM) :: r) (pre ++ ((rn, a, b, ()) : GM) :: r).length ((pre.length : Int) + 1) = some (.inl (n, w, lostE, kE, ())) := by
      intro lost1 kk1 e1 e2 e3
      have := scan_l n res hn hres w lostE kE r (pre ++ [((rn, a, b, ()) : GM)]) j lost1 kk1 (by omega) (by simp; omega) e1 e2 e3
      simpa using this
    rw [l11_17, wi (n := (pre.length : Int) + 1) (by omega)]
    simp only [g1, g2, hrd, Bool.and_self, cond_true]
    rw [Scan] at hs
    by_cases ha : a < 0
    · rw [if_pos (.inl ha)] at hs
      rw [decide_eq_true ha]
      exact ih lost kk hl (by omega) hs
    · rw [decide_eq_false ha]
      simp only [cond_false]
      by_cases hb' : b < 0
      · rw [if_pos (.inr hb')] at hs
        rw [decide_eq_true hb']
        exact ih lost kk hl (by omega) hs
      · rw [if_neg (by omega)] at hs
        obtain ⟨s1, s2, s3, s4, s5⟩ := hs
        have e01 : w64 (0 + 1) = 1 := by decide
        rw [decide_eq_false hb', decide_eq_false (show ¬ ((kk : Int) ≥ res.length) by omega), decide_eq_false (show ¬ ((if b > a then b else a) ≥ (n : Int)) by split <;> omega), decide_eq_true (show (0 : Int) ≤ (kk : Int) by omega), decide_eq_true (show (kk : Int) < res.length by omega), wi (n := (kk : Int) + 1) (by omega), hl]
        simp only [cond_false, cond_true, Bool.and_self]
        rw [decide_eq_true (show (0 : Int) ≤ b by omega), decide_eq_true (show (0 : Int) ≤ a by omega), decide_eq_true (show b < (n : Int) by omega), decide_eq_true (show a < (n : Int) by omega)]
        simp only [cond_true, Bool.and_self]
        by_cases h2 : rd 0 res kk = 2
        · rw [if_pos h2] at s4 s5
          rw [beq_iff_eq.2 h2, s4, e01]
          exact ih _ (kk + 1) (by simpa using hl) (by omega) s5
        · rw [if_neg h2] at s4 s5
          rw [beq_eq_false_iff_ne.2 h2, s4, e01]
          exact ih _ (kk + 1) (by simpa using hl) (by omega) s5

theorem last_l (n : Nat) (hn : n ≤ 32) (w : Int) (kk : Int) (lost : List Int) (hl : lost.length = n) (hc : ∀ p : Nat, p < n → ((p : Int) = w ∧ rd 0 lost p = 0) ∨ ((p : Int) ≠ w ∧ rd 0 lost p = 1)) : ∀ (j i : Nat), i ≤ n → n < i + j →
    l11_28 100 j n w kk lost n i = some (.inl (n, kk, ()))
  | 0, i, _, _ => by omega
  | j + 1, i, h1, h2 => by
    rw [l11_28]
    by_cases hi : i < n
    · rw [decide_eq_true (show (i : Int) < n by omega), decide_eq_true (show (0 : Int) ≤ i by omega), hl, decide_eq_true (show (i : Int) < n by omega), wi (n := (i : Int) + 1) (by omega), show ((i : Int) + 1) = ((i + 1 : Nat) : Int) by omega, last_l n hn w kk lost hl hc j (i + 1) (by omega) (by omega)]
      rcases hc i hi with ⟨e1, e2⟩ | ⟨e1, e2⟩
      · rw [e2, e1]; simp
      · rw [e2, beq_eq_false_iff_ne.2 e1]; rfl
    · rw [decide_eq_false (show ¬ ((i : Int) < n) by omega)]
      rfl

/-- The seeds of one size, as the kernel works them out. -/
noncomputable def seeds (n : Nat) : Bool :=
  match f30 100 n with
  | some (S, e, ()) => (e == 0) && ((List.range n).all fun p => Nat.beq (S.count (p : Int)) 1) && (S.all fun x => decide (-1 ≤ x) && decide (x < n)) && Nat.beq (S.countP fun x => decide (0 ≤ x)) n && ((List.range 6).any fun m => Nat.beq S.length (2 ^ m))
  | none => false
theorem seeds_ok (n : Nat) (h2 : 2 ≤ n) (h : seeds n = true) : ∃ S m, f30 100 n = some (S, 0, ()) ∧ m ≤ 5 ∧ S.length = 2 ^ m ∧ Inv n (List.replicate n 0) 0 S := by
  unfold seeds at h
  split at h
  · rename_i S e hS
    simp only [Bool.and_eq_true] at h
    obtain ⟨⟨⟨⟨a1, a2⟩, a3⟩, a4⟩, a5⟩ := h
    have a1 := eq_of_beq a1
    subst a1
    rw [List.all_eq_true] at a2 a3
    rw [List.any_eq_true] at a5
    obtain ⟨m, m1, m2⟩ := a5
    refine ⟨S, m, hS, by have := List.mem_range.1 m1; omega, Nat.eq_of_beq_eq_true m2, fun p hp => .inl ⟨Nat.eq_of_beq_eq_true (a2 p (List.mem_range.2 hp)), ?_⟩, fun x hx => ?_, by simp, by rw [Nat.eq_of_beq_eq_true a4]; omega, by omega⟩
    · unfold rd
      simp [List.getD_eq_getElem?_getD, List.getElem?_replicate]
      split <;> rfl
    · have := a3 x hx
      simp only [Bool.and_eq_true, decide_eq_true_eq] at this
      exact this
  · cases h
theorem all_seeds : ((List.range 31).all fun i => seeds (i + 2)) = true := by kernel_rfl
theorem f12_pure : f12 100 = some (true, ()) := by kernel_rfl

theorem f11_pure (x0 : Int) (xs : List Int) : f11 100 x0 xs = some (true, ()) := by
  unfold f11
  simp only [f12_pure, Option.bind_some, Bool.not_true, cond_false]
  obtain ⟨res, e1, e2, e3⟩ := make_l x0 xs 100 0 [] rfl (fun m hm => by simp at hm) (by omega) (by omega) (fun h => by omega)
  rw [show ((0 : Nat) : Int) = 0 from rfl] at e1
  rw [e1]
  simp only [Option.bind_some]
  by_cases hx : x0 < 2 ∨ x0 > 32
  · have h31 : f31 100 x0 = some (4, ()) := by
      unfold f31
      by_cases h1 : x0 < 2
      · rw [decide_eq_true h1]; rfl
      · rw [decide_eq_false h1, decide_eq_true (show x0 > 32 by omega)]; rfl
    have h30 : f30 100 x0 = some ([], 4, ()) := by unfold f30 f14; rw [h31]; rfl
    have h28 : f28 100 x0 res = some ([], 0, 4, ()) := by unfold f28; rw [h30]; rfl
    rw [h28]
    simp only [Option.bind_some, show ((4 : Int) != 0) = true from rfl, cond_true]
    by_cases h1 : x0 < 2
    · rw [decide_eq_true h1]; rfl
    · rw [decide_eq_false h1, decide_eq_true (show x0 > 32 by omega)]; rfl
  · obtain ⟨n, rfl⟩ := Int.eq_ofNat_of_zero_le (show 0 ≤ x0 by omega)
    have hres : res.length + 1 = n := by have := e3 (by omega) (by omega); omega
    have hs := all_seeds
    rw [List.all_eq_true] at hs
    have hs := hs (n - 2) (List.mem_range.2 (by omega))
    rw [show n - 2 + 2 = n by omega] at hs
    obtain ⟨S, m, s1, s2, s3, s4⟩ := seeds_ok n (by omega) hs
    have h32 : 2 ^ m ≤ 2 ^ 5 := Nat.pow_le_pow_right (by omega) s2
    obtain ⟨gs, kk, w, lost, r1, r2, r3, r4⟩ := rounds_l n res (by omega) hres m 100 S [] 0 0 _ (by omega) (by omega) s3 (by omega) (by simp; omega) s4
    have rl := res_l res S e2 (by omega) 100 0 (by omega) (by omega)
    rw [show ((0 : Nat) : Int) = 0 from rfl] at rl r1
    have hk := r2.k
    have hq := r2.q
    simp only [List.countP_cons, List.countP_nil] at hk
    have w0 : 0 ≤ w := by
      by_cases h : 0 ≤ w
      · exact h
      · rw [decide_eq_false h] at hk; simp at hk; omega
    rw [decide_eq_true w0] at hk
    simp only [if_true] at hk
    have h28 : f28 100 n res = some (gs, w, 0, ()) := by
      unfold f28
      rw [s1]
      simp only [Option.bind_some, show ((0 : Int) != 0) = false from rfl, cond_false, rl, Sum.elim_inl, r1]
      unfold f37
      rw [decide_eq_false (show ¬ ((kk : Int) < res.length) by omega)]
      rfl
    rw [h28]
    simp only [Option.bind_some, show ((0 : Int) != 0) = false from rfl, cond_false]
    rw [decide_eq_true (show (0 : Int) ≤ n by omega), decide_eq_true (show (n : Int) ≤ n by omega), decide_eq_true (show ((8 : Nat) : Int) * (n : Int) ≤ 281474976710656 by omega), decide_eq_true (show (n : Int) ≤ 9223372036854775807 by omega)]
    simp only [Bool.and_self, cond_true, Int.toNat_natCast]
    have sc := scan_l n res (by omega) (by omega) w lost kk gs [] 100 (List.replicate n 0) 0 (by omega) (by simp; omega) (by simp) (by omega) r3
    have sc' : l11_17 100 100 n res w (List.replicate n 0) 0 gs (gs.length : Int) 0 = _ := sc
    rw [sc']
    simp only [Option.bind_some, Sum.elim_inl]
    have hc : ∀ p : Nat, p < n → ((p : Int) = w ∧ rd 0 lost p = 0) ∨ ((p : Int) ≠ w ∧ rd 0 lost p = 1) := by
      intro p hp
      have := r2.c p hp
      by_cases e : w = (p : Int)
      · simp only [List.count_cons, List.count_nil, e, beq_self_eq_true, if_true] at this
        exact .inl ⟨e.symm, by omega⟩
      · simp only [List.count_cons, List.count_nil, beq_eq_false_iff_ne.2 e, Bool.false_eq_true, if_false] at this
        exact .inr ⟨Ne.symm e, by omega⟩
    have ll := last_l n (by omega) w kk lost r2.l hc 100 0 (by omega) (by omega)
    rw [show ((0 : Nat) : Int) = 0 from rfl] at ll
    rw [r2.l, ll]
    simp only [Option.bind_some, Sum.elim_inl]
    rw [wi (n := (n : Int) - 1) (by omega), show ((kk : Int) == (n : Int) - 1) = true from beq_iff_eq.2 (by omega)]
end Go.Proofs.Ytpighccmakogpaa.G
