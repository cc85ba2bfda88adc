import Derived.Test.YticbohfmkiafiaaGBkO
namespace Go.Proofs.Yticbohfmkiafiaa.G
open Go.VM Go.Proofs
theorem wi {n : Int} (h : -9223372036854775808 ≤ n ∧ n ≤ 9223372036854775807) : w64 n = n := by
  unfold w64; rw [IntKind.wrap_i64]; omega
def Ans (R : Prop) (v : Option (Int × Unit)) : Prop := ∃ e, v = some (e, ()) ∧ (e = 0 → R)
theorem Ans.bif {R : Prop} {b : Bool} {x y : Option (Int × Unit)} (h1 : b = true → Ans R x) (h2 : b = false → Ans R y) : Ans R (bif b then x else y) := by
  cases b
  · exact h2 rfl
  · exact h1 rfl
theorem Ans.bad {R : Prop} {e : Int} (h : e ≠ 0) : Ans R (some (e, ())) := ⟨e, rfl, fun h' => absurd h' h⟩
theorem Ans.good {R : Prop} (h : R) : Ans R (some (0, ())) := ⟨0, rfl, fun _ => h⟩
def Lp {α : Type} (x : α) (R : Prop) (v : Option (α ⊕ (Int × Unit))) : Prop := (v = some (.inl x) ∧ R) ∨ ∃ e, v = some (.inr (e, ())) ∧ e ≠ 0
theorem Lp.bif {α : Type} {z : α} {R : Prop} {b : Bool} {x y : Option (α ⊕ (Int × Unit))} (h1 : b = true → Lp z R x) (h2 : b = false → Lp z R y) : Lp z R (bif b then x else y) := by
  cases b
  · exact h2 rfl
  · exact h1 rfl
theorem Lp.bad {α : Type} {z : α} {R : Prop} {e : Int} (h : e ≠ 0) : Lp z R (some (.inr (e, ()))) := .inr ⟨e, rfl, h⟩
theorem Lp.mono {α : Type} {z : α} {R R' : Prop} {v : Option (α ⊕ (Int × Unit))} (h : Lp z R v) (f : R → R') : Lp z R' v := h.imp (fun h => ⟨h.1, f h.2⟩) id
theorem Ans.loop {α : Type} {z : α} {R S : Prop} {v : Option (α ⊕ (Int × Unit))} {g : α → Option (Int × Unit)} (h : Lp z R v) (hg : R → Ans S (g z)) : Ans S (v.bind fun w => Sum.elim g (fun y => some y) w) := by
  rcases h with ⟨e, hr⟩ | ⟨e, h1, h2⟩
  · rw [e]; exact hg hr
  · rw [h1]; exact Ans.bad h2
theorem Lp.loop {α β : Type} {z : α} {x : β} {R S : Prop} {v : Option (α ⊕ (Int × Unit))} {g : α → Option (β ⊕ (Int × Unit))} (h : Lp z R v) (hg : R → Lp x S (g z)) : Lp x S (v.bind fun w => Sum.elim g (fun y => some (.inr y)) w) := by
  rcases h with ⟨e, hr⟩ | ⟨e, h1, h2⟩
  · rw [e]; exact hg hr
  · rw [h1]; exact Lp.bad h2
theorem Ans.call {R S : Prop} {v : Option (Int × Unit)} {g : Int × Unit → Option (Int × Unit)} (h : Ans R v) (hg : R → Ans S (g (0, ()))) (hb : ∀ e : Int, e ≠ 0 → Ans S (g (e, ()))) : Ans S (v.bind g) := by
  obtain ⟨e, h1, h2⟩ := h
  rw [h1]
  by_cases he : e = 0
  · subst he; exact hg (h2 rfl)
  · exact hb e he
theorem Lp.call {α : Type} {z : α} {R S : Prop} {v : Option (Int × Unit)} {g : Int × Unit → Option (α ⊕ (Int × Unit))} (h : Ans R v) (hg : R → Lp z S (g (0, ()))) (hb : ∀ e : Int, e ≠ 0 → Lp z S (g (e, ()))) : Lp z S (v.bind g) := by
  obtain ⟨e, h1, h2⟩ := h
  rw [h1]
  by_cases he : e = 0
  · subst he; exact hg (h2 rfl)
  · exact hb e he
theorem bne_t {e : Int} (h : e ≠ 0) : (e != 0) = true := bne_iff_ne.2 h
theorem dF {p : Prop} [Decidable p] (h : decide p = false) : ¬ p := of_decide_eq_false h
theorem all_step {P : Nat → Prop} {i n : Nat} (h : P i) (h2 : ∀ m, i + 1 ≤ m → m < n → P m) : ∀ m, i ≤ m → m < n → P m := fun m hm hm' => by
  by_cases e : m = i
  · subst e; exact h
  · exact h2 m (by omega) hm'
abbrev WY := Int × Int × Int × Int × Unit
abbrev PC := Int × Int × Int × List WY × Unit
abbrev EN := Int × Int × Int × Bool × Unit
abbrev RU := ByteArray × Int × Int × List PC × List Int × Bool × Bool × List EN × Int × Int × Int × Unit
abbrev PO := List Int × (List Int × List Int × Unit) × Int × Int × Unit
abbrev W0 : WY := (0, 0, 0, 0, ())
abbrev P0 : PC := (0, 0, 0, [], ())
abbrev E0 : EN := (0, 0, 0, false, ())
theorem name_l (s : ByteArray) : ∀ (j i : Nat), i ≤ s.size → s.size < i + j → s.size ≤ 9000 → l73_4 9000 j s s.size i = some (.inl ()) ∨ l73_4 9000 j s s.size i = some (.inr (false, ()))
  | 0, i, h, h', _ => by omega
  | j + 1, i, h, h', hs => by
    rw [l73_4]
    by_cases hi : i < s.size
    · rw [decide_eq_true (show (i : Int) < s.size by omega), decide_eq_true (show (0 : Int) ≤ i by omega), wi (by omega)]
      simp only [cond_true, Bool.and_self]
      have ih := name_l s j (i + 1) (by omega) (by omega) hs
      have e : ((i : Int) + 1) = ((i + 1 : Nat) : Int) := by omega
      rw [e]
      cases decide ((bt s i) < 65) <;> cases decide ((bt s i) > 90) <;> cases decide ((bt s i) < 48) <;> cases decide ((bt s i) > 57) <;> simp only [cond_true, cond_false] <;> first | exact ih | exact .inr trivial | exact .inr rfl
    · rw [decide_eq_false (show ¬ (i : Int) < s.size by omega)]
      exact .inl rfl
theorem name_tot (s : ByteArray) : ∃ b, f73 9000 s = some (b, ()) := by
  unfold f73
  cases h1 : s.toList == (⟨#[]⟩ : ByteArray).toList
  rotate_left
  · exact ⟨_, rfl⟩
  cases h2 : decide ((s.size : Int) > 8)
  rotate_left
  · exact ⟨_, rfl⟩
  have h2 := of_decide_eq_false h2
  have h0 : 0 < s.size := by
    by_cases h : s.size = 0
    · have : s.toList = (⟨#[]⟩ : ByteArray).toList := by
        rw [ByteArray.toList_eq, ByteArray.toList_eq]
        have : s.data.size = 0 := h
        simp [Array.eq_empty_of_size_eq_zero this]
      rw [this] at h1
      simp at h1
    · omega
  rw [decide_eq_true (show (0 : Int) < s.size by omega)]
  simp only [cond_true, cond_false]
  have := name_l s 9000 0 (by omega) (by omega) (by omega)
  rw [show ((0 : Nat) : Int) = 0 from rfl] at this
  have key : ∃ b, ((l73_4 9000 9000 s (s.size : Int) 0).bind fun w1 => Sum.elim (fun _ => some (true, ())) (fun y2 => some y2) w1) = some (b, ()) := by
    rcases this with e | e <;> rw [e] <;> exact ⟨_, rfl⟩
  cases decide ((bt s 0) ≥ 48)
  · exact key
  · cases decide ((bt s 0) ≤ 57)
    · exact key
    · exact ⟨_, rfl⟩
def WOK (w : WY) : Prop := -7 ≤ w.1 ∧ w.1 ≤ 7 ∧ -7 ≤ w.2.1 ∧ w.2.1 ≤ 7 ∧ 1 ≤ w.2.2.1 ∧ w.2.2.1 ≤ 7 ∧ 0 ≤ w.2.2.2.1 ∧ w.2.2.2.1 ≤ 2
theorem way_tot (w : WY) : Ans (WOK w) (f90 9000 w) := by
  unfold f90
  refine Ans.bif (fun _ => Ans.bad (by decide)) fun h1 => Ans.bif (fun _ => Ans.bad (by decide)) fun h2 => Ans.bif (fun _ => Ans.bad (by decide)) fun h3 => Ans.bif (fun _ => Ans.bad (by decide)) fun h4 => ?_
  have key : Ans (WOK w) (bif decide (w.2.2.1 < 1) then some ((4 : Int), ()) else bif decide (w.2.2.1 > 7) then some (4, ()) else bif decide (w.2.2.2.1 < 0) then some (4, ()) else bif decide (w.2.2.2.1 > 2) then some (4, ()) else some (0, ())) := by
    refine Ans.bif (fun _ => Ans.bad (by decide)) fun h5 => Ans.bif (fun _ => Ans.bad (by decide)) fun h6 => Ans.bif (fun _ => Ans.bad (by decide)) fun h7 => Ans.bif (fun _ => Ans.bad (by decide)) fun h8 => Ans.good ?_
    have h1 := dF h1
    have h2 := dF h2
    have h3 := dF h3
    have h4 := dF h4
    have h5 := dF h5
    have h6 := dF h6
    have h7 := dF h7
    have h8 := dF h8
    exact ⟨by omega, by omega, by omega, by omega, by omega, by omega, by omega, by omega⟩
  exact Ans.bif (fun _ => Ans.bif (fun _ => Ans.bad (by decide)) fun _ => key) fun _ => key
theorem twice_l (k : Nat) (a1 : List PC) (p : PC) (a2 : List PC) (a3 a4 : Int) (l : List PC) : ∀ (j i : Nat), i ≤ l.length → l.length < i + j → l.length ≤ 1000 →
    Lp (a1, p, a2, a3, a4, ()) (∀ m : Nat, i ≤ m → m < l.length → (rd P0 l m).1 ≠ p.1) (l74_11 k j a1 p a2 a3 a4 l l.length i)
  | 0, i, h, h', _ => by omega
  | j + 1, i, h, h', hs => by
    rw [l74_11]
    by_cases hi : i < l.length
    · rw [decide_eq_true (show (i : Int) < l.length by omega), decide_eq_true (show (0 : Int) ≤ i by omega), wi (by omega)]
      simp only [cond_true, Bool.and_self]
      exact Lp.bif (fun _ => Lp.bad (by decide)) fun hne => (twice_l k a1 p a2 a3 a4 l j (i + 1) (by omega) (by omega) hs).mono (all_step (by simpa using hne))
    · rw [decide_eq_false (show ¬ (i : Int) < l.length by omega)]
      exact .inl ⟨rfl, fun m h1 h2 => by omega⟩
theorem ways_l (a1 a2 : List PC) (a3 a4 : Int) (l : List WY) : ∀ (j i : Nat), i ≤ l.length → l.length < i + j → l.length ≤ 1000 →
    Lp (a1, a2, a3, a4, ()) (∀ m : Nat, i ≤ m → m < l.length → WOK (rd W0 l m)) (l74_21 9000 j a1 a2 a3 a4 l l.length i)
  | 0, i, h, h', _ => by omega
  | j + 1, i, h, h', hs => by
    rw [l74_21]
    by_cases hi : i < l.length
    · rw [decide_eq_true (show (i : Int) < l.length by omega), decide_eq_true (show (0 : Int) ≤ i by omega), wi (by omega)]
      simp only [cond_true, Bool.and_self]
      refine Lp.call (way_tot (rd W0 l i)) (fun hw => ?_) (fun e he => ?_)
      · exact (ways_l a1 a2 a3 a4 l j (i + 1) (by omega) (by omega) hs).mono (all_step hw)
      · rw [bne_t he]; exact Lp.bad he
    · rw [decide_eq_false (show ¬ (i : Int) < l.length by omega)]
      exact .inl ⟨rfl, fun m h1 h2 => by omega⟩
def PcOK (n : Nat) (p : PC) : Prop := 65 ≤ p.1 ∧ p.1 ≤ 90 ∧ 0 ≤ p.2.1 ∧ p.2.1 ≤ 64 ∧ 0 ≤ p.2.2.1 ∧ p.2.2.1 ≤ n ∧ p.2.2.2.1.length ≤ 16 ∧ ∀ m : Nat, m < p.2.2.2.1.length → WOK (rd W0 p.2.2.2.1 m)
theorem pieces_l (l : List PC) (hs : l.length ≤ 6) : ∀ (j i : Nat), i ≤ l.length → l.length < i + j →
    Lp () (∀ m : Nat, i ≤ m → m < l.length → PcOK l.length (rd P0 l m) ∧ ∀ a : Nat, a < m → (rd P0 l a).1 ≠ (rd P0 l m).1) (l74_6 9000 j l l l.length i)
  | 0, i, h, h' => by omega
  | j + 1, i, h, h' => by
    rw [l74_6]
    by_cases hi : i < l.length
    · rw [decide_eq_true (show (i : Int) < l.length by omega), decide_eq_true (show (0 : Int) ≤ i by omega), decide_eq_true (show (i : Int) ≤ l.length by omega)]
      simp only [cond_true, Bool.and_self]
      refine Lp.bif (fun _ => Lp.bad (by decide)) fun h1 => Lp.bif (fun _ => Lp.bad (by decide)) fun h2 => ?_
      have hl : (sliceOf l 0 (i : Int)).length = i := by unfold sliceOf; simp; omega
      refine Lp.loop (twice_l 9000 l (rd P0 l i) l l.length i (sliceOf l 0 (i : Int)) 9000 0 (by omega) (by omega) (by omega)) fun htw => ?_
      have hlt : ∀ a : Nat, a < i → (rd P0 l a).1 ≠ (rd P0 l i).1 := fun a ha => by
        have := htw a (by omega) (by omega)
        unfold sliceOf at this
        simpa [rd, List.getD_eq_getElem?_getD, ha] using this
      refine Lp.bif (fun _ => Lp.bad (by decide)) fun h3 => Lp.bif (fun _ => Lp.bad (by decide)) fun h4 => Lp.bif (fun _ => Lp.bad (by decide)) fun h5 => Lp.bif (fun _ => Lp.bad (by decide)) fun h6 => Lp.bif (fun _ => Lp.bad (by decide)) fun h7 => ?_
      have h1 : ¬ ((rd P0 l i).1 < 65) := dF h1
      have h2 : ¬ ((rd P0 l i).1 > 90) := dF h2
      have h3 := dF h3
      have h4 := dF h4
      have h5 := dF h5
      have h6 := dF h6
      have h7 := dF h7
      dsimp only at h3 h4 h5 h6 h7
      refine Lp.loop (ways_l l l l.length i (rd P0 l i).2.2.2.1 9000 0 (by omega) (by omega) (by omega)) fun ww => ?_
      show Lp _ _ (l74_6 9000 j l l l.length (w64 ((i : Int) + 1)))
      rw [wi (by omega)]
      exact (pieces_l l hs j (i + 1) (by omega) (by omega)).mono (all_step ⟨⟨by omega, by omega, by omega, by omega, by omega, by omega, by omega, fun m hm => ww m (by omega) hm⟩, hlt⟩)
    · rw [decide_eq_false (show ¬ (i : Int) < l.length by omega)]
      exact .inl ⟨rfl, fun m h1 h2 => by omega⟩
theorem pieces_tot (l : List PC) : Ans (1 ≤ l.length ∧ l.length ≤ 6 ∧ (∀ m : Nat, m < l.length → PcOK l.length (rd P0 l m)) ∧ ∀ a m : Nat, a < m → m < l.length → (rd P0 l a).1 ≠ (rd P0 l m).1) (f74 9000 l) := by
  unfold f74
  refine Ans.bif (fun _ => Ans.bad (by decide)) fun h1 => Ans.bif (fun _ => Ans.bad (by decide)) fun h2 => ?_
  have h1 := beq_eq_false_iff_ne.1 h1
  have h2 := dF h2
  exact Ans.loop (pieces_l l (by omega) 9000 0 (by omega) (by omega)) fun h => Ans.good ⟨by omega, by omega, fun m hm => (h m (by omega) hm).1, fun a m ha hm => (h m (by omega) hm).2 a ha⟩
def EnOK (n : Int) (x : EN) : Prop := (x.1 = 0 ∧ x.2.1 = 0 ∧ 1 ≤ x.2.2.1 ∧ x.2.2.1 ≤ 64) ∨ (x.1 = 1 ∧ 0 ≤ x.2.1 ∧ x.2.1 < n ∧ x.2.2.1 = 0) ∨ (x.1 = 2 ∧ 0 ≤ x.2.1 ∧ x.2.1 < n ∧ 1 ≤ x.2.2.1 ∧ x.2.2.1 ≤ 64)
theorem end_tot (x : EN) (n : Int) : Ans (EnOK n x) (f75 9000 x n) := by
  unfold f75
  refine Ans.bif (fun h => ?_) fun _ => Ans.bif (fun h => ?_) fun _ => Ans.bif (fun h => ?_) fun _ => Ans.bad (by decide)
  · have h := eq_of_beq h
    refine Ans.bif (fun _ => Ans.bad (by decide)) fun h1 => Ans.bif (fun _ => Ans.bad (by decide)) fun h2 => Ans.bif (fun _ => Ans.bad (by decide)) fun h3 => Ans.good (.inl ⟨h, by simpa using h1, ?_, ?_⟩)
    · have := dF h2; omega
    · have := dF h3; omega
  · have h := eq_of_beq h
    refine Ans.bif (fun _ => Ans.bad (by decide)) fun h1 => Ans.bif (fun _ => Ans.bad (by decide)) fun h2 => Ans.bif (fun _ => Ans.bad (by decide)) fun h3 => Ans.good (.inr (.inl ⟨h, ?_, ?_, by simpa using h3⟩))
    · have := dF h1; omega
    · have := dF h2; omega
  · have h := eq_of_beq h
    refine Ans.bif (fun _ => Ans.bad (by decide)) fun h1 => Ans.bif (fun _ => Ans.bad (by decide)) fun h2 => Ans.bif (fun _ => Ans.bad (by decide)) fun h3 => Ans.bif (fun _ => Ans.bad (by decide)) fun h4 => Ans.good (.inr (.inr ⟨h, ?_, ?_, ?_, ?_⟩))
    · have := dF h1; omega
    · have := dF h2; omega
    · have := dF h3; omega
    · have := dF h4; omega
theorem start_l (r : RU) (l : List Int) (hn : r.2.2.2.1.length ≤ 1000) : ∀ (j i : Nat), i ≤ l.length → l.length < i + j → l.length ≤ 1000 →
    Lp (r, ()) (∀ m : Nat, i ≤ m → m < l.length → 0 ≤ rd 0 l m ∧ rd 0 l m ≤ 2 * (r.2.2.2.1.length : Int)) (l64_11 9000 j r l l.length i)
  | 0, i, h, h', _ => by omega
  | j + 1, i, h, h', hs => by
    rw [l64_11]
    by_cases hi : i < l.length
    · rw [decide_eq_true (show (i : Int) < l.length by omega), decide_eq_true (show (0 : Int) ≤ i by omega), wi (n := (i : Int) + 1) (by omega), wi (n := 2 * (r.2.2.2.1.length : Int)) (by omega)]
      simp only [cond_true, Bool.and_self]
      refine Lp.bif (fun _ => Lp.bad (by decide)) fun h1 => Lp.bif (fun _ => Lp.bad (by decide)) fun h2 => ?_
      have h1 := dF h1
      have h2 := dF h2
      exact (start_l r l hn j (i + 1) (by omega) (by omega) hs).mono (all_step ⟨by omega, by omega⟩)
    · rw [decide_eq_false (show ¬ (i : Int) < l.length by omega)]
      exact .inl ⟨rfl, fun m h1 h2 => by omega⟩
theorem ends_l (r : RU) (l : List EN) : ∀ (j i : Nat), i ≤ l.length → l.length < i + j → l.length ≤ 1000 →
    Lp (r, ()) (∀ m : Nat, i ≤ m → m < l.length → EnOK r.2.2.2.1.length (rd E0 l m)) (l64_19 9000 j r l l.length i)
  | 0, i, h, h', _ => by omega
  | j + 1, i, h, h', hs => by
    rw [l64_19]
    by_cases hi : i < l.length
    · rw [decide_eq_true (show (i : Int) < l.length by omega), decide_eq_true (show (0 : Int) ≤ i by omega), wi (n := (i : Int) + 1) (by omega)]
      simp only [cond_true, Bool.and_self]
      refine Lp.call (end_tot (rd E0 l i) (r.2.2.2.1.length : Int)) (fun hw => ?_) (fun e he => ?_)
      · exact (ends_l r l j (i + 1) (by omega) (by omega) hs).mono (all_step hw)
      · rw [bne_t he]; exact Lp.bad he
    · rw [decide_eq_false (show ¬ (i : Int) < l.length by omega)]
      exact .inl ⟨rfl, fun m h1 h2 => by omega⟩
structure ROK (r : RU) : Prop where
  w1 : 1 ≤ r.2.1
  w8 : r.2.1 ≤ 8
  h1 : 1 ≤ r.2.2.1
  h8 : r.2.2.1 ≤ 8
  n1 : 1 ≤ r.2.2.2.1.length
  n6 : r.2.2.2.1.length ≤ 6
  pcs : ∀ m : Nat, m < r.2.2.2.1.length → PcOK r.2.2.2.1.length (rd P0 r.2.2.2.1 m)
  len : (r.2.2.2.2.1.length : Int) = r.2.1 * r.2.2.1
  cells : ∀ m : Nat, m < r.2.2.2.2.1.length → 0 ≤ rd 0 r.2.2.2.2.1 m ∧ rd 0 r.2.2.2.2.1 m ≤ 2 * (r.2.2.2.1.length : Int)
  e6 : r.2.2.2.2.2.2.2.1.length ≤ 6
  ends : ∀ m : Nat, m < r.2.2.2.2.2.2.2.1.length → EnOK r.2.2.2.1.length (rd E0 r.2.2.2.2.2.2.2.1 m)
  blk : 0 ≤ r.2.2.2.2.2.2.2.2.1 ∧ r.2.2.2.2.2.2.2.2.1 ≤ 2
  quiet : 0 ≤ r.2.2.2.2.2.2.2.2.2.1 ∧ r.2.2.2.2.2.2.2.2.2.1 ≤ 200
  lets : ∀ a m : Nat, a < m → m < r.2.2.2.1.length → (rd P0 r.2.2.2.1 a).1 ≠ (rd P0 r.2.2.2.1 m).1
  rep : 0 ≤ r.2.2.2.2.2.2.2.2.2.2.1 ∧ r.2.2.2.2.2.2.2.2.2.2.1 ≤ 5 ∧ r.2.2.2.2.2.2.2.2.2.2.1 ≠ 1
theorem sq_le {w v a b : Int} (h1 : 1 ≤ w) (h2 : w ≤ a) (h3 : 1 ≤ v) (h4 : v ≤ b) : 1 ≤ w * v ∧ w * v ≤ a * b := by
  obtain ⟨n, rfl⟩ := Int.eq_ofNat_of_zero_le (show 0 ≤ w by omega)
  obtain ⟨m, rfl⟩ := Int.eq_ofNat_of_zero_le (show 0 ≤ v by omega)
  obtain ⟨p, rfl⟩ := Int.eq_ofNat_of_zero_le (show 0 ≤ a by omega)
  obtain ⟨q, rfl⟩ := Int.eq_ofNat_of_zero_le (show 0 ≤ b by omega)
  have e1 : 1 * 1 ≤ n * m := Nat.mul_le_mul (by omega) (by omega)
  have e2 : n * m ≤ p * q := Nat.mul_le_mul (by omega) (by omega)
  constructor
  · exact_mod_cast e1
  · exact_mod_cast e2
theorem ROK.sq {r : RU} (h : ROK r) : 1 ≤ r.2.1 * r.2.2.1 ∧ r.2.1 * r.2.2.1 ≤ 64 := sq_le h.w1 h.w8 h.h1 h.h8
theorem rules_tot (r : RU) : Ans (ROK r) (f64 9000 r) := by
  unfold f64
  obtain ⟨b, hb⟩ := name_tot r.1
  rw [hb]
  simp only [Option.bind_some]
  refine Ans.bif (fun _ => Ans.bad (by decide)) fun _ => Ans.bif (fun _ => Ans.bad (by decide)) fun h1 => Ans.bif (fun _ => Ans.bad (by decide)) fun h2 => Ans.bif (fun _ => Ans.bad (by decide)) fun h3 => Ans.bif (fun _ => Ans.bad (by decide)) fun h4 => ?_
  have h1 := dF h1
  have h2 := dF h2
  have h3 := dF h3
  have h4 := dF h4
  refine Ans.call (pieces_tot r.2.2.2.1) (fun hp => ?_) (fun e he => by rw [bne_t he]; exact Ans.bad he)
  obtain ⟨n1, n6, pcs, lets⟩ := hp
  simp only [show ((0 : Int) != 0) = false from rfl, cond_false]
  have hsq := sq_le (w := r.2.1) (v := r.2.2.1) (a := 8) (b := 8) (by omega) (by omega) (by omega) (by omega)
  rw [wi (n := r.2.1 * r.2.2.1) (by omega)]
  refine Ans.bif (fun _ => Ans.bad (by decide)) fun h5 => ?_
  have h5 : (r.2.2.2.2.1.length : Int) = r.2.1 * r.2.2.1 := by simpa using h5
  refine Ans.loop (start_l r r.2.2.2.2.1 (by omega) 9000 0 (by omega) (by omega) (by omega)) fun st => ?_
  refine Ans.bif (fun _ => Ans.bad (by decide)) fun h6 => ?_
  have h6 : ¬ ((r.2.2.2.2.2.2.2.1.length : Int) > 6) := dF h6
  refine Ans.loop (ends_l r r.2.2.2.2.2.2.2.1 9000 0 (by omega) (by omega) (by omega)) fun en => ?_
  refine Ans.bif (fun _ => Ans.bad (by decide)) fun g1 => Ans.bif (fun _ => Ans.bad (by decide)) fun g2 => Ans.bif (fun _ => Ans.bad (by decide)) fun g3 => Ans.bif (fun _ => Ans.bad (by decide)) fun g4 => Ans.bif (fun _ => Ans.bad (by decide)) fun g5 => Ans.bif (fun _ => Ans.bad (by decide)) fun g6 => Ans.bif (fun _ => Ans.bad (by decide)) fun g7 => Ans.good ?_
  have g1 := dF g1
  have g2 := dF g2
  have g3 := dF g3
  have g4 := dF g4
  have g5 := dF g5
  have g6 := beq_eq_false_iff_ne.1 g6
  have g7 := dF g7
  have h6' : r.2.2.2.2.2.2.2.1.length ≤ 6 := by omega
  dsimp only at g1 g2 g3 g4 g5 g6 g7
  exact ⟨by omega, by omega, by omega, by omega, n1, n6, pcs, h5, fun m hm => st m (by omega) hm, h6', fun m hm => en m (by omega) hm, ⟨by omega, by omega⟩, ⟨by omega, by omega⟩, lets, by omega, by omega, g6⟩
end Go.Proofs.Yticbohfmkiafiaa.G
namespace Go.Proofs.Yticbohfmkiafiaa.G
open Go.VM Go.Proofs
theorem clone_eq (k : Nat) (xs : List Int) (h : xs.length ≤ 1000000) : f34 k xs = some (xs, ()) := by
  unfold f34
  have e : decide ((([] : List Int).length + xs.length) * 8 ≤ roomN) = true := decide_eq_true (by simp only [List.length_nil]; unfold roomN; omega)
  rw [e]
  cases xs with
  | nil => exact both_same _
  | cons a r => rfl
theorem cells_l (r : RU) (p : PO) (l : List Int) (hn : r.2.2.2.1.length ≤ 1000) : ∀ (j i : Nat), i ≤ l.length → l.length < i + j → l.length ≤ 1000 →
    Lp (p, ()) (∀ m : Nat, i ≤ m → m < l.length → 0 ≤ rd 0 l m ∧ rd 0 l m ≤ 2 * (r.2.2.2.1.length : Int)) (l45_7 9000 j r p l l.length i)
  | 0, i, h, h', _ => by omega
  | j + 1, i, h, h', hs => by
    rw [l45_7]
    by_cases hi : i < l.length
    · rw [decide_eq_true (show (i : Int) < l.length by omega), decide_eq_true (show (0 : Int) ≤ i by omega), wi (n := (i : Int) + 1) (by omega), wi (n := 2 * (r.2.2.2.1.length : Int)) (by omega)]
      simp only [cond_true, Bool.and_self]
      refine Lp.bif (fun _ => Lp.bad (by decide)) fun h1 => Lp.bif (fun _ => Lp.bad (by decide)) fun h2 => ?_
      have h1 := dF h1
      have h2 := dF h2
      exact (cells_l r p l hn j (i + 1) (by omega) (by omega) hs).mono (all_step ⟨by omega, by omega⟩)
    · rw [decide_eq_false (show ¬ (i : Int) < l.length by omega)]
      exact .inl ⟨rfl, fun m h1 h2 => by omega⟩
theorem hand_l (p : PO) (hh : List Int × List Int × Unit) (n : Int) (l : List Int) : ∀ (j i : Nat), i ≤ l.length → l.length < i + j → l.length ≤ 1000 →
    Lp (p, hh, n, ()) (∀ m : Nat, i ≤ m → m < l.length → 0 ≤ rd 0 l m ∧ rd 0 l m ≤ 1000) (l45_16 9000 j p hh n l l.length i)
  | 0, i, h, h', _ => by omega
  | j + 1, i, h, h', hs => by
    rw [l45_16]
    by_cases hi : i < l.length
    · rw [decide_eq_true (show (i : Int) < l.length by omega), decide_eq_true (show (0 : Int) ≤ i by omega), wi (n := (i : Int) + 1) (by omega)]
      simp only [cond_true, Bool.and_self]
      refine Lp.bif (fun _ => Lp.bad (by decide)) fun h1 => Lp.bif (fun _ => Lp.bad (by decide)) fun h2 => ?_
      have h1 := dF h1
      have h2 := dF h2
      exact (hand_l p hh n l j (i + 1) (by omega) (by omega) hs).mono (all_step ⟨by omega, by omega⟩)
    · rw [decide_eq_false (show ¬ (i : Int) < l.length by omega)]
      exact .inl ⟨rfl, fun m h1 h2 => by omega⟩
def HandOK (l : List Int) : Prop := ∀ m : Nat, m < l.length → 0 ≤ rd 0 l m ∧ rd 0 l m ≤ 1000
theorem hands_l (p : PO) (a b : List Int) (ha : a.length ≤ 90) (hb : b.length ≤ 90) : Lp (p, ()) (HandOK a ∧ HandOK b) (l45_13 9000 9000 p (a, b, ()) 0) := by
  have e1 : w64 (0 + 1) = 1 := by decide
  have e2 : w64 (1 + 1) = 2 := by decide
  rw [l45_13, show decide ((0 : Int) < 2) = true from rfl, show ((0 : Int) == 0) = true from rfl]
  simp only [cond_true]
  refine Lp.loop (hand_l p (a, b, ()) 0 a 9000 0 (by omega) (by omega) (by omega)) fun h1 => ?_
  simp only [e1]
  rw [l45_13, show decide ((1 : Int) < 2) = true from rfl, show ((1 : Int) == 0) = false from rfl, show ((1 : Int) == 1) = true from rfl]
  simp only [cond_true, cond_false]
  refine Lp.loop (hand_l p (a, b, ()) 1 b 9000 0 (by omega) (by omega) (by omega)) fun h2 => ?_
  simp only [e2]
  rw [l45_13, show decide ((2 : Int) < 2) = false from rfl]
  exact .inl ⟨rfl, fun m hm => h1 m (by omega) hm, fun m hm => h2 m (by omega) hm⟩
structure POK (r : RU) (p : PO) : Prop where
  ru : ROK r
  len : (p.1.length : Int) = r.2.1 * r.2.2.1
  a : p.2.1.1.length = r.2.2.2.1.length
  b : p.2.1.2.1.length = r.2.2.2.1.length
  cells : ∀ m : Nat, m < p.1.length → 0 ≤ rd 0 p.1 m ∧ rd 0 p.1 m ≤ 2 * (r.2.2.2.1.length : Int)
  ha : HandOK p.2.1.1
  hb : HandOK p.2.1.2.1
  turn : p.2.2.1 = 0 ∨ p.2.2.1 = 1
  quiet : 0 ≤ p.2.2.2.1 ∧ p.2.2.2.1 ≤ 200
theorem POK.len64 {r : RU} {p : PO} (h : POK r p) : 1 ≤ p.1.length ∧ p.1.length ≤ 64 := by
  have := h.ru.sq; have := h.len; omega
def Rz (r : RU) : Prop := f64 9000 r = some (0, ())
theorem Rz.ok {r : RU} (h : Rz r) : ROK r := by
  obtain ⟨e, he, hr⟩ := rules_tot r
  rw [show f64 9000 r = some (0, ()) from h] at he
  cases he
  exact hr rfl
theorem place_tot (r : RU) (p : PO) : Ans (POK r p ∧ Rz r) (f45 9000 r p) := by
  unfold f45
  obtain ⟨e, he, hr⟩ := rules_tot r
  have hz : e = 0 → Rz r := fun h => by unfold Rz; rw [he, h]
  rw [he]
  simp only [Option.bind_some]
  by_cases h0 : e = 0
  rotate_left
  · rw [bne_t h0]; exact Ans.bad h0
  subst h0
  have hr := hr rfl
  have hz := hz rfl
  have hsq := hr.sq
  have hn := hr.n6
  simp only [show ((0 : Int) != 0) = false from rfl, cond_false]
  rw [wi (n := r.2.1 * r.2.2.1) (by omega)]
  refine Ans.bif (fun _ => Ans.bad (by decide)) fun h1 => Ans.bif (fun _ => Ans.bad (by decide)) fun h2 => Ans.bif (fun _ => Ans.bad (by decide)) fun h3 => ?_
  have h1 : (p.1.length : Int) = r.2.1 * r.2.2.1 := by simpa using h1
  have h2 : p.2.1.1.length = r.2.2.2.1.length := by have : (p.2.1.1.length : Int) = (r.2.2.2.1.length : Int) := by simpa using h2
                                                    omega
  have h3 : p.2.1.2.1.length = r.2.2.2.1.length := by have : (p.2.1.2.1.length : Int) = (r.2.2.2.1.length : Int) := by simpa using h3
                                                      omega
  refine Ans.loop (cells_l r p p.1 (by omega) 9000 0 (by omega) (by omega) (by omega)) fun c => ?_
  refine Ans.loop (hands_l p p.2.1.1 p.2.1.2.1 (by omega) (by omega)) fun hh => ?_
  have key : (p.2.2.1 = 0 ∨ p.2.2.1 = 1) → Ans (POK r p ∧ Rz r) (bif decide (p.2.2.2.1 < 0) then some (4, ()) else bif decide (p.2.2.2.1 > 200) then some (4, ()) else some (0, ())) := by
    intro ht
    refine Ans.bif (fun _ => Ans.bad (by decide)) fun h4 => Ans.bif (fun _ => Ans.bad (by decide)) fun h5 => Ans.good ⟨?_, hz⟩
    have h4 := dF h4
    have h5 := dF h5
    exact ⟨hr, h1, h2, h3, fun m hm => c m (by omega) hm, hh.1, hh.2, ht, by omega, by omega⟩
  refine Ans.bif (fun _ => Ans.bif (fun _ => Ans.bad (by decide)) fun h6 => ?_) fun h6 => ?_
  · exact key (.inr (by simpa using h6))
  · exact key (.inl (by simpa using h6))
end Go.Proofs.Yticbohfmkiafiaa.G
namespace Go.Proofs.Yticbohfmkiafiaa.G
open Go.VM Go.Proofs
abbrev MV := Int × Int × Int × Unit
abbrev M0 : MV := (0, 0, 0, ())
theorem ws {n : Int} (h : -9223372036854775808 ≤ n ∧ n ≤ 9223372036854775807) : w64 n = n := by
  unfold w64; rw [IntKind.wrap_i64]; omega
theorem bt2 {α : Type} {p q : Prop} [Decidable p] [Decidable q] {A B : α} (h : p ∧ q) : (bif decide p && decide q then A else B) = A := by
  rw [decide_eq_true h.1, decide_eq_true h.2]; rfl
theorem bt1 {α : Type} {p : Prop} [Decidable p] {A B : α} (h : p) : (bif decide p then A else B) = A := by
  rw [decide_eq_true h]; rfl
theorem bf1 {α : Type} {p : Prop} [Decidable p] {A B : α} (h : ¬ p) : (bif decide p then A else B) = B := by
  rw [decide_eq_false h]; rfl
theorem be1 {α : Type} {a b : Int} {A B : α} (h : a = b) : (bif a == b then A else B) = A := by rw [h, beq_self_eq_true]; rfl
theorem bn1 {α : Type} {a b : Int} {A B : α} (h : a ≠ b) : (bif a == b then A else B) = B := by rw [show (a == b) = false by simpa using h]; rfl
theorem bne1 {α : Type} {a b : Int} {A B : α} (h : a ≠ b) : (bif a != b then A else B) = A := by rw [show (a != b) = true by simpa using h]; rfl
theorem beq1 {α : Type} {a b : Int} {A B : α} (h : a = b) : (bif a != b then A else B) = B := by rw [show (a != b) = false by simp [h]]; rfl
theorem drop_rd {α : Type} (d : α) (l : List α) (i : Nat) (h : i < l.length) : l.drop i = rd d l (i : Int) :: l.drop (i + 1) := by
  rw [List.drop_eq_getElem_cons h]
  unfold rd
  simp [List.getD_eq_getElem?_getD, List.getElem?_eq_getElem h]
end Go.Proofs.Yticbohfmkiafiaa.G
