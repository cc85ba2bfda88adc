/- Patterns: their validation; the sanity check. -/
import Derived.Test.YtphgopfhobockaaPPlace
namespace Go.Proofs.Ytphgopfhobockaa.G
open Go.VM Go.Proofs

abbrev XP := Int × Int × List Int × Int × Unit
/-- A pattern, well formed. -/
structure XOK (r : RU) (x : XP) : Prop where
  w1 : 1 ≤ x.1
  h1 : 1 ≤ x.2.1
  w : x.1 ≤ r.2.1
  h : x.2.1 ≤ r.2.2.1
  len : (x.2.2.1.length : Int) = x.1 * x.2.1
  cells : ∀ m : Nat, m < x.2.2.1.length → -3 ≤ rd 0 x.2.2.1 m ∧ rd 0 x.2.2.1 m ≤ 2 * (r.2.2.2.1.length : Int)
  turn : -1 ≤ x.2.2.2.1 ∧ x.2.2.2.1 ≤ 1
theorem pcells_l (r : RU) (x : XP) (l : List Int) (hn : r.2.2.2.1.length ≤ 1000) : ∀ (j i : Nat), i ≤ l.length → l.length < i + j → l.length ≤ 1000 →
    Lp (x, ()) (∀ m : Nat, i ≤ m → m < l.length → -3 ≤ rd 0 l m ∧ rd 0 l m ≤ 2 * (r.2.2.2.1.length : Int)) (l60_9 9000 j r x l l.length i) ∧
    ((∀ m : Nat, i ≤ m → m < l.length → -3 ≤ rd 0 l m ∧ rd 0 l m ≤ 2 * (r.2.2.2.1.length : Int)) → l60_9 9000 j r x l l.length i = some (.inl (x, ())))
  | 0, i, h, h', _ => by omega
  | j + 1, i, h, h', hs => by
    rw [l60_9]
    by_cases hi : i < l.length
    · rw [decide_eq_true (show (i : Int) < l.length by omega), decide_eq_true (show (0 : Int) ≤ i by omega), wi (n := (i : Int) + 1) (by omega), wi (n := 2 * (r.2.2.2.1.length : Int)) (by omega)]
      simp only [cond_true, Bool.and_self]
      obtain ⟨ih1, ih2⟩ := pcells_l r x l hn j (i + 1) (by omega) (by omega) hs
      constructor
      · refine Lp.bif (fun _ => Lp.bad (by decide)) fun h1 => Lp.bif (fun _ => Lp.bad (by decide)) fun h2 => ?_
        have h1 := dF h1
        have h2 := dF h2
        exact ih1.mono (all_step ⟨by omega, by omega⟩)
      · intro ha
        have := ha i (Nat.le_refl _) hi
        rw [decide_eq_false (show ¬ (rd 0 l i < -3) by omega), decide_eq_false (show ¬ (rd 0 l i > 2 * (r.2.2.2.1.length : Int)) by omega)]
        exact ih2 fun m hm hm' => ha m (by omega) hm'
    · rw [decide_eq_false (show ¬ (i : Int) < l.length by omega)]
      exact ⟨.inl ⟨rfl, fun m h1 h2 => by omega⟩, fun _ => rfl⟩
theorem XOK.sq {r : RU} {x : XP} (h : XOK r x) (hr : ROK r) : 1 ≤ x.1 * x.2.1 ∧ x.1 * x.2.1 ≤ 64 :=
  sq_le h.w1 (Int.le_trans h.w hr.w8) h.h1 (Int.le_trans h.h hr.h8)
theorem pat_tot (r : RU) (x : XP) : Ans (Rz r ∧ XOK r x) (f60 9000 r x) := by
  unfold f60
  obtain ⟨e, he, hr⟩ := rules_tot r
  have hz : e = 0 → Rz r := fun h => by unfold Rz; rw [he, h]
  rw [he]
  simp only [Option.bind_some]
  by_cases h0 : e = 0
  rotate_left
  · rw [bne_t h0]; exact Ans.bad h0
  subst h0
  have hr := hr rfl
  have hz := hz rfl
  have hn := hr.n6
  simp only [show ((0 : Int) != 0) = false from rfl, cond_false]
  refine Ans.bif (fun _ => Ans.bad (by decide)) fun h1 => Ans.bif (fun _ => Ans.bad (by decide)) fun h2 => Ans.bif (fun _ => Ans.bad (by decide)) fun h3 => Ans.bif (fun _ => Ans.bad (by decide)) fun h4 => ?_
  have h1 := dF h1
  have h2 := dF h2
  have h3 := dF h3
  have h4 := dF h4
  have w8 := hr.w8
  have h8 := hr.h8
  have hsq := sq_le (w := x.1) (v := x.2.1) (a := 8) (b := 8) (by omega) (by omega) (by omega) (by omega)
  rw [wi (n := x.1 * x.2.1) (by omega)]
  refine Ans.bif (fun _ => Ans.bad (by decide)) fun h5 => ?_
  have h5 : (x.2.2.1.length : Int) = x.1 * x.2.1 := by simpa using h5
  refine Ans.loop (pcells_l r x x.2.2.1 (by omega) 9000 0 (by omega) (by omega) (by omega)).1 fun c => ?_
  refine Ans.bif (fun _ => Ans.bad (by decide)) fun h6 => Ans.bif (fun _ => Ans.bad (by decide)) fun h7 => Ans.good ⟨hz, ?_⟩
  have h6 := dF h6
  have h7 := dF h7
  dsimp only at h6 h7
  exact ⟨by omega, by omega, by omega, by omega, h5, fun m hm => c m (by omega) hm, by omega, by omega⟩
theorem pat_ok {r : RU} {x : XP} (hz : Rz r) (h : XOK r x) : f60 9000 r x = some (0, ()) := by
  have hr := hz.ok
  have hsq := h.sq hr
  unfold f60
  rw [show f41 9000 r = some (0, ()) from hz]
  obtain ⟨h1, h2, h3, h4, h5, h6, h7⟩ := h
  simp only [Option.bind_some, show ((0 : Int) != 0) = false from rfl, cond_false]
  rw [decide_eq_false (by omega), decide_eq_false (by omega), decide_eq_false (by omega), decide_eq_false (by omega), wi (n := x.1 * x.2.1) (by omega), h5, bne_self_eq_false]
  simp only [cond_false]
  have hn := hr.n6
  have := (pcells_l r x x.2.2.1 (by omega) 9000 0 (by omega) (by omega) (by omega)).2 fun m _ hm => h6 m hm
  rw [show ((0 : Nat) : Int) = 0 from rfl, h5] at this
  rw [this]
  simp only [Option.bind_some, Sum.elim_inl]
  rw [decide_eq_false (by omega), decide_eq_false (by omega)]
  rfl

/-- The sanity check. -/
theorem tic_begin : ∃ t, f39 9000 = some (t, ()) ∧ f38 9000 t = some ((List.replicate 9 0, ([5], [5], ()), 0, 0, ()), 0, ()) ∧ f59 9000 t (1, 1, [0], -1, ()) (List.replicate 9 0, ([5], [5], ()), 0, 0, ()) 4 = some (true, 0, ()) := by
  refine ⟨_, rfl, ?_, by kernel_rfl⟩
  unfold f38 f49
  rw [clone_eq _ _ (by simp)]
  kernel_rfl
theorem patterns_pure : f31 9000 = some (true, ()) := by
  obtain ⟨t, h1, h2, h3⟩ := tic_begin
  unfold f31
  simp only [h1, h2, h3, Option.bind_some]
  rfl
end Go.Proofs.Ytphgopfhobockaa.G
