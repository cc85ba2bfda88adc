/- PatternOwn, as a plain fact. -/
import Derived.Test.YtfalgaldkadgoaaPAt
namespace Go.Proofs.Ytfalgaldkadgoaa.G
open Go.VM Go.Proofs

theorem cut_l (r : RU) (p : PO) (s w h : Nat) (turn : Int) (s10 : XP) (hp : POK r p) (hs : s < p.1.length) (hw : 0 < w) (hw8 : w ≤ 8) (hh8 : h ≤ 8) (h1 : s % r.2.1.toNat + w ≤ r.2.1.toNat) (h2 : s / r.2.1.toNat + h ≤ r.2.2.1.toNat) (h64 : w * h ≤ 64) :
    ∀ (j i : Nat) (out : List Int), i ≤ w * h → w * h < i + j → out.length = i → (∀ m, m < i → rd 0 out m = rd 0 p.1 (ix r.2.1.toNat s w m : Nat)) →
    ∃ out', l34_8 100 j s w r p s10 ((w : Int), (h : Int), out, turn, ()) ((w * h : Nat) : Int) i = some (s10, ((w : Int), (h : Int), out', turn, ()), ()) ∧ out'.length = w * h ∧ ∀ m, m < w * h → rd 0 out' m = rd 0 p.1 (ix r.2.1.toNat s w m : Nat)
  | 0, i, out, a1, a2, _, _ => by omega
  | j + 1, i, out, a1, a2, a3, a4 => by
    have r1 := hp.ru.w1
    have h64' := hp.len64
    rw [l34_8]
    by_cases hi : i < w * h
    · have hlt : ix r.2.1.toNat s w i < p.1.length := by rw [hp.nat]; exact ix_lt (by omega) hw h1 h2 hi
      have e3 := ix_w64 (W := r.2.1.toNat) (s := s) (w := w) (i := i) (n := p.1.length) hw h64'.2 hlt (by omega) (by omega)
      have c2 : ((r.2.1.toNat : Nat) : Int) = r.2.1 := by omega
      rw [c2] at e3
      simp only [e3]
      rw [decide_eq_true (show (i : Int) < ((w * h : Nat) : Int) by exact_mod_cast hi), decide_eq_false (show ¬ ((w : Int) = 0) by omega), decide_eq_true (show (0 : Int) ≤ (ix r.2.1.toNat s w i : Nat) by omega), decide_eq_true (show ((ix r.2.1.toNat s w i : Nat) : Int) < p.1.length by omega), wi (n := (i : Int) + 1) (by generalize w * h = q at *; omega)]
      simp only [cond_true, cond_false, Bool.and_self, List.length_singleton]
      rw [decide_eq_true (show (out.length + 1) * 8 ≤ roomN by generalize w * h = q at *; unfold roomN; omega)]
      simp only [cond_true]
      refine cut_l r p s w h turn s10 hp hs hw hw8 hh8 h1 h2 h64 j (i + 1) _ (by generalize w * h = q at *; omega) (by generalize w * h = q at *; omega) (by simp; omega) fun m hm => ?_
      by_cases hmi : m = i
      · subst hmi
        rw [← a3, rd_at0, a3]
      · rw [rd_pre0 0 out _ m (by omega)]
        exact a4 m (by omega)
    · rw [decide_eq_false (show ¬ (i : Int) < ((w * h : Nat) : Int) by exact_mod_cast hi)]
      exact ⟨out, rfl, by generalize w * h = q at *; omega, fun m hm => a4 m (by generalize w * h = q at *; omega)⟩

/-- The position is passed. -/
def Pz (r : RU) (p : PO) : Prop := f54 100 r p = some (0, ())
theorem cut_ok (r : RU) (p : PO) (sq w h : Int) : (∃ e, f34 100 r p sq w h = some ((0, 0, [], 0, ()), e, ()) ∧ e ≠ 0) ∨
    (∃ x, f34 100 r p sq w h = some (x, 0, ()) ∧ Rz r ∧ POK r p ∧ XOK r x ∧ 0 ≤ sq ∧ sq < p.1.length ∧ AtOK r x p sq.toNat ∧ Pz r p) := by
  unfold f34
  obtain ⟨e, he, hpo⟩ := place_tot r p
  have hpz : e = 0 → Pz r p := fun h => by unfold Pz; rw [he, h]
  rw [he]
  simp only [Option.bind_some]
  by_cases h0 : e = 0
  rotate_left
  · left; rw [bne_t h0]; exact ⟨e, rfl, h0⟩
  subst h0
  have hpz := hpz rfl
  obtain ⟨hp, hz⟩ := hpo rfl
  have h64 := hp.len64
  have r1 := hp.ru.w1
  have w8 := hp.ru.w8
  have g1 := hp.ru.h1
  have g8 := hp.ru.h8
  simp only [show ((0 : Int) != 0) = false from rfl, cond_false]
  by_cases b1 : sq < 0
  · left; rw [decide_eq_true b1]; exact ⟨4, rfl, by decide⟩
  by_cases b2 : sq ≥ (p.1.length : Int)
  · left; rw [decide_eq_false b1, decide_eq_true b2]; exact ⟨4, rfl, by decide⟩
  by_cases b3 : w < 1
  · left; rw [decide_eq_false b1, decide_eq_false b2, decide_eq_true b3]; exact ⟨4, rfl, by decide⟩
  by_cases b4 : h < 1
  · left; rw [decide_eq_false b1, decide_eq_false b2, decide_eq_false b3, decide_eq_true b4]; exact ⟨4, rfl, by decide⟩
  by_cases b5 : w > r.2.1
  · left; rw [decide_eq_false b1, decide_eq_false b2, decide_eq_false b3, decide_eq_false b4, decide_eq_true b5]; exact ⟨4, rfl, by decide⟩
  by_cases b6 : h > r.2.2.1
  · left; rw [decide_eq_false b1, decide_eq_false b2, decide_eq_false b3, decide_eq_false b4, decide_eq_false b5, decide_eq_true b6]; exact ⟨4, rfl, by decide⟩
  rw [decide_eq_false b1, decide_eq_false b2, decide_eq_false b3, decide_eq_false b4, decide_eq_false b5, decide_eq_false b6, decide_eq_false (show ¬ (r.2.1 = 0) by omega)]
  simp only [cond_false]
  obtain ⟨s, rfl⟩ := Int.eq_ofNat_of_zero_le (show 0 ≤ sq by omega)
  obtain ⟨wn, rfl⟩ := Int.eq_ofNat_of_zero_le (show 0 ≤ w by omega)
  obtain ⟨hn, rfl⟩ := Int.eq_ofNat_of_zero_le (show 0 ≤ h by omega)
  have c2 : ((r.2.1.toNat : Nat) : Int) = r.2.1 := by omega
  have e1 : (s : Int).tdiv r.2.1 = ((s / r.2.1.toNat : Nat) : Int) := by
    rw [← c2]; exact (Int.ofNat_tdiv s _).symm
  have e2 : (s : Int).tmod r.2.1 = ((s % r.2.1.toNat : Nat) : Int) := by
    rw [← c2]; exact (Int.ofNat_tmod s _).symm
  have hr := Nat.mod_lt s (show 0 < r.2.1.toNat by omega)
  have hq := Nat.div_le_self s r.2.1.toNat
  have hw1 : w64 (((s % r.2.1.toNat : Nat) : Int) + wn) = ((s % r.2.1.toNat : Nat) : Int) + wn := by
    generalize s % r.2.1.toNat = a at *
    exact wi (by omega)
  have hw2 : w64 ((w64 ((s / r.2.1.toNat : Nat) : Int)) + hn) = ((s / r.2.1.toNat : Nat) : Int) + hn := by
    generalize s / r.2.1.toNat = a at *
    rw [wi (n := (a : Int)) (by omega), wi (by omega)]
  rw [e1, e2, hw1, hw2]
  by_cases b7 : ((s % r.2.1.toNat : Nat) : Int) + wn > r.2.1
  · left; rw [decide_eq_true b7]; exact ⟨4, rfl, by decide⟩
  by_cases b8 : ((s / r.2.1.toNat : Nat) : Int) + hn > r.2.2.1
  · left; rw [decide_eq_false b7, decide_eq_true b8]; exact ⟨4, rfl, by decide⟩
  right
  rw [decide_eq_false b7, decide_eq_false b8]
  simp only [cond_false]
  have hm : wn * hn ≤ 8 * 8 := Nat.mul_le_mul (by omega) (by omega)
  have hm1 : 1 * 1 ≤ wn * hn := Nat.mul_le_mul (by omega) (by omega)
  have hwm : w64 ((wn : Int) * (hn : Int)) = ((wn * hn : Nat) : Int) := by
    rw [← Int.natCast_mul]
    generalize wn * hn = q at *
    exact wi (by omega)
  rw [hwm]
  have l1 : s % r.2.1.toNat + wn ≤ r.2.1.toNat := by generalize s % r.2.1.toNat = a at *; omega
  have l2 : s / r.2.1.toNat + hn ≤ r.2.2.1.toNat := by generalize s / r.2.1.toNat = a at *; omega
  obtain ⟨out, o1, o2, o3⟩ := cut_l r p s wn hn p.2.2.1 (0, 0, [], 0, ()) hp (by omega) (by omega) (by omega) (by omega) l1 l2 hm 100 0 [] (Nat.zero_le _) (by generalize wn * hn = q at *; omega) rfl (fun m hm => by omega)
  rw [show ((0 : Nat) : Int) = 0 from rfl] at o1
  rw [o1]
  have hx : XOK r ((wn : Int), (hn : Int), out, p.2.2.1, ()) := by
    refine ⟨by dsimp only; omega, by dsimp only; omega, by dsimp only; omega, by dsimp only; omega, ?_, fun m hm => ?_, ?_⟩
    · dsimp only
      rw [o2]; exact Int.natCast_mul _ _
    · dsimp only at hm ⊢
      have hlt : ix r.2.1.toNat s wn m < p.1.length := by rw [hp.nat]; exact ix_lt (by omega) (by omega) l1 l2 (by omega)
      rw [o3 m (by omega)]
      have := hp.cells _ hlt
      omega
    · have := hp.turn
      dsimp only
      omega
  refine ⟨_, rfl, hz, hp, hx, by omega, by omega, ⟨fun _ => rfl, ⟨by simpa using l1, by simpa using l2⟩, fun m hm => ?_⟩, hpz⟩
  dsimp only at hm ⊢
  simp only [Int.toNat_natCast]
  have hlt : ix r.2.1.toNat s wn m < p.1.length := by rw [hp.nat]; exact ix_lt (by omega) (by omega) l1 l2 (by omega)
  rw [o3 m (by omega)]
  exact fits_same _ (hp.cells _ hlt).1

/-- A number is in a list. -/
def InL (l : List Int) (s : Int) : Prop := ∃ m : Nat, m < l.length ∧ rd 0 l m = s
theorem InL.app {l t : List Int} {s : Int} (h : InL l s) : InL (l ++ t) s := by
  obtain ⟨m, h1, h2⟩ := h
  exact ⟨m, by simp; omega, by rw [rd_pre0 0 l t m h1]; exact h2⟩
theorem all_l (r : RU) (x : XP) (p : PO) (hx : XOK r x) (hp : POK r p) (s : Nat) : ∀ (j i : Nat) (out : List Int), i ≤ p.1.length → p.1.length < i + j → out.length ≤ i →
    ∃ o, l36_9 100 j r x p out p.1.length i = some (o, ()) ∧ o.length ≤ p.1.length ∧ ((InL out s ∨ (i ≤ s ∧ s < p.1.length ∧ AtOK r x p s)) → InL o s)
  | 0, i, out, h, h', _ => by omega
  | j + 1, i, out, h, h', hl => by
    have h64 := hp.len64
    rw [l36_9]
    by_cases hi : i < p.1.length
    · rw [decide_eq_true (show (i : Int) < p.1.length by omega), wi (n := (i : Int) + 1) (by omega)]
      simp only [cond_true, List.length_singleton]
      rw [decide_eq_true (show (out.length + 1) * 8 ≤ roomN by unfold roomN; omega)]
      rcases at_spec r x p i hx hp hi with ⟨e1, e2⟩ | ⟨e1, e2⟩
      · rw [e1]
        simp only [Option.bind_some, cond_true]
        obtain ⟨o, f1, f2, f3⟩ := all_l r x p hx hp s j (i + 1) (out ++ [(i : Int)]) (by omega) (by omega) (by simp; omega)
        refine ⟨o, f1, f2, fun h => f3 ?_⟩
        rcases h with h | ⟨a, b, c⟩
        · exact .inl h.app
        · by_cases hsi : s = i
          · subst hsi
            exact .inl ⟨out.length, by simp, rd_at0⟩
          · exact .inr ⟨by omega, b, c⟩
      · rw [e1]
        simp only [Option.bind_some, cond_false]
        obtain ⟨o, f1, f2, f3⟩ := all_l r x p hx hp s j (i + 1) out (by omega) (by omega) (by omega)
        refine ⟨o, f1, f2, fun h => f3 ?_⟩
        rcases h with h | ⟨a, b, c⟩
        · exact .inl h
        · refine .inr ⟨?_, b, c⟩
          by_cases hsi : s = i
          · subst hsi; exact absurd c e2
          · omega
    · rw [decide_eq_false (show ¬ (i : Int) < p.1.length by omega)]
      refine ⟨out, rfl, by omega, fun h => ?_⟩
      rcases h with h | ⟨a, b, c⟩
      · exact h
      · omega
theorem found_l (s : Int) (b1 : Bool) (e1 e2 : Int) (l : List Int) (hl : l.length ≤ 64) : ∀ (j i : Nat) (fl : Bool), i ≤ l.length → l.length < i + j → (fl = true ∨ ∃ m : Nat, i ≤ m ∧ m < l.length ∧ rd 0 l m = s) →
    l12_12 100 j s b1 e1 e2 fl l l.length i = some (b1, e1, e2, true, ())
  | 0, i, fl, h, h', _ => by omega
  | j + 1, i, fl, h, h', hf => by
    rw [l12_12]
    by_cases hi : i < l.length
    · rw [decide_eq_true (show (i : Int) < l.length by omega), decide_eq_true (show (0 : Int) ≤ i by omega), wi (n := (i : Int) + 1) (by omega)]
      simp only [cond_true, Bool.and_self]
      cases fl
      · simp only [cond_false]
        refine found_l s b1 e1 e2 l hl j (i + 1) _ (by omega) (by omega) ?_
        rcases hf with h | ⟨m, m1, m2, m3⟩
        · cases h
        · by_cases hmi : m = i
          · subst hmi; left; rw [m3]; exact beq_self_eq_true _
          · exact .inr ⟨m, by omega, m2, m3⟩
      · exact found_l s b1 e1 e2 l hl j (i + 1) true (by omega) (by omega) (.inl rfl)
    · rw [decide_eq_false (show ¬ (i : Int) < l.length by omega)]
      rcases hf with rfl | ⟨m, m1, m2, _⟩
      · rfl
      · omega

theorem own_pure (r : RU) (p : PO) (sq w h : Int) : f12 100 r p sq w h = some (true, ()) := by
  unfold f12 f33
  simp only [patterns_pure, Option.bind_some, Bool.not_true, cond_false]
  cases decide ((r.2.2.2.2.1.length : Int) > 20)
  rotate_left
  · rfl
  simp only [cond_false]
  rcases cut_ok r p sq w h with ⟨e, e1, e2⟩ | ⟨x, e1, hz, hp, hx, s0, s1, ha, he⟩
  · simp only [e1, Option.bind_some, bne_t e2, cond_true]; rfl
  · have h64 := hp.len64
    obtain ⟨s, rfl⟩ := Int.eq_ofNat_of_zero_le s0
    simp only [Int.toNat_natCast] at ha
    have hpat := pat_ok hz hx
    have he : f54 100 r p = some (0, ()) := he
    have hat : f35 100 r x p s = some (true, 0, ()) := by
      unfold f35
      simp only [hpat, he, Option.bind_some, show ((0 : Int) != 0) = false from rfl, cond_false]
      rw [decide_eq_false (show ¬ ((s : Int) < 0) by omega), decide_eq_false (show ¬ ((s : Int) ≥ p.1.length) by omega)]
      rcases at_spec r x p s hx hp (by omega) with ⟨a, _⟩ | ⟨_, a⟩
      · simp only [a, Option.bind_some, cond_false]
      · exact absurd ha a
    obtain ⟨o, o1, o2, o3⟩ := all_l r x p hx hp s 100 0 [] (by omega) (by omega) (by simp)
    rw [show ((0 : Nat) : Int) = 0 from rfl] at o1
    have hall : f36 100 r x p = some (o, 0, ()) := by
      unfold f36
      simp only [hpat, he, Option.bind_some, show ((0 : Int) != 0) = false from rfl, cond_false, o1]
    obtain ⟨m, m1, m2⟩ := o3 (.inr ⟨by omega, by omega, ha⟩)
    have fl := found_l s true 0 0 o (by omega) 100 0 false (by omega) (by omega) (.inr ⟨m, by omega, m1, m2⟩)
    rw [show ((0 : Nat) : Int) = 0 from rfl] at fl
    simp only [e1, hat, hall, fl, Option.bind_some, show ((0 : Int) != 0) = false from rfl, show ((0 : Int) == 0) = true from rfl, cond_false, cond_true]
end Go.Proofs.Ytfalgaldkadgoaa.G
