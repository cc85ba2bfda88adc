/- The validation of positions; copies. -/
import Derived.Test.YtgglflagbbfalaaPRules
namespace Go.Proofs.Ytgglflagbbfalaa.G
open Go.VM Go.Proofs

theorem clone_eq (k : Nat) (xs : List Int) (h : xs.length ≤ 1000000) : f39 k xs = some (xs, ()) := by
  unfold f39
  have e : decide ((([] : List Int).length + xs.length) * 8 ≤ roomN) = true := decide_eq_true (by simp only [List.length_nil]; unfold roomN; omega)
  rw [e]
  cases xs with
  | nil => exact both_same _
  | cons a r => rfl

theorem cells_l (r : RU) (p : PO) (l : List Int) (hn : r.2.2.2.1.length ≤ 1000) : ∀ (j i : Nat), i ≤ l.length → l.length < i + j → l.length ≤ 1000 →
    Lp (p, ()) (∀ m : Nat, i ≤ m → m < l.length → 0 ≤ rd 0 l m ∧ rd 0 l m ≤ 2 * (r.2.2.2.1.length : Int)) (l47_7 9000 j r p l l.length i)
  | 0, i, h, h', _ => by omega
  | j + 1, i, h, h', hs => by
    rw [l47_7]
    by_cases hi : i < l.length
    · rw [decide_eq_true (show (i : Int) < l.length by omega), decide_eq_true (show (0 : Int) ≤ i by omega), wi (n := (i : Int) + 1) (by omega), wi (n := 2 * (r.2.2.2.1.length : Int)) (by omega)]
      simp only [cond_true, Bool.and_self]
      refine Lp.bif (fun _ => Lp.bad (by decide)) fun h1 => Lp.bif (fun _ => Lp.bad (by decide)) fun h2 => ?_
      have h1 := dF h1
      have h2 := dF h2
      exact (cells_l r p l hn j (i + 1) (by omega) (by omega) hs).mono (all_step ⟨by omega, by omega⟩)
    · rw [decide_eq_false (show ¬ (i : Int) < l.length by omega)]
      exact .inl ⟨rfl, fun m h1 h2 => by omega⟩
theorem hand_l (p : PO) (hh : List Int × List Int × Unit) (n : Int) (l : List Int) : ∀ (j i : Nat), i ≤ l.length → l.length < i + j → l.length ≤ 1000 →
    Lp (p, hh, n, ()) (∀ m : Nat, i ≤ m → m < l.length → 0 ≤ rd 0 l m ∧ rd 0 l m ≤ 1000) (l47_16 9000 j p hh n l l.length i)
  | 0, i, h, h', _ => by omega
  | j + 1, i, h, h', hs => by
    rw [l47_16]
    by_cases hi : i < l.length
    · rw [decide_eq_true (show (i : Int) < l.length by omega), decide_eq_true (show (0 : Int) ≤ i by omega), wi (n := (i : Int) + 1) (by omega)]
      simp only [cond_true, Bool.and_self]
      refine Lp.bif (fun _ => Lp.bad (by decide)) fun h1 => Lp.bif (fun _ => Lp.bad (by decide)) fun h2 => ?_
      have h1 := dF h1
      have h2 := dF h2
      exact (hand_l p hh n l j (i + 1) (by omega) (by omega) hs).mono (all_step ⟨by omega, by omega⟩)
    · rw [decide_eq_false (show ¬ (i : Int) < l.length by omega)]
      exact .inl ⟨rfl, fun m h1 h2 => by omega⟩
def HandOK (l : List Int) : Prop := ∀ m : Nat, m < l.length → 0 ≤ rd 0 l m ∧ rd 0 l m ≤ 1000
theorem hands_l (p : PO) (a b : List Int) (ha : a.length ≤ 90) (hb : b.length ≤ 90) : Lp (p, ()) (HandOK a ∧ HandOK b) (l47_13 9000 9000 p (a, b, ()) 0) := by
  have e1 : w64 (0 + 1) = 1 := by decide
  have e2 : w64 (1 + 1) = 2 := by decide
  rw [l47_13, show decide ((0 : Int) < 2) = true from rfl, show ((0 : Int) == 0) = true from rfl]
  simp only [cond_true]
  refine Lp.loop (hand_l p (a, b, ()) 0 a 9000 0 (by omega) (by omega) (by omega)) fun h1 => ?_
  simp only [e1]
  rw [l47_13, show decide ((1 : Int) < 2) = true from rfl, show ((1 : Int) == 0) = false from rfl, show ((1 : Int) == 1) = true from rfl]
  simp only [cond_true, cond_false]
  refine Lp.loop (hand_l p (a, b, ()) 1 b 9000 0 (by omega) (by omega) (by omega)) fun h2 => ?_
  simp only [e2]
  rw [l47_13, show decide ((2 : Int) < 2) = false from rfl]
  exact .inl ⟨rfl, fun m hm => h1 m (by omega) hm, fun m hm => h2 m (by omega) hm⟩

/-- A position, well formed. -/
structure POK (r : RU) (p : PO) : Prop where
  ru : ROK r
  len : (p.1.length : Int) = r.2.1 * r.2.2.1
  a : p.2.1.1.length = r.2.2.2.1.length
  b : p.2.1.2.1.length = r.2.2.2.1.length
  cells : ∀ m : Nat, m < p.1.length → 0 ≤ rd 0 p.1 m ∧ rd 0 p.1 m ≤ 2 * (r.2.2.2.1.length : Int)
  ha : HandOK p.2.1.1
  hb : HandOK p.2.1.2.1
  turn : p.2.2.1 = 0 ∨ p.2.2.1 = 1
  quiet : 0 ≤ p.2.2.2.1 ∧ p.2.2.2.1 ≤ 200
theorem POK.len64 {r : RU} {p : PO} (h : POK r p) : 1 ≤ p.1.length ∧ p.1.length ≤ 64 := by
  have := h.ru.sq; have := h.len; omega
/-- The rules are passed. -/
def Rz (r : RU) : Prop := f34 9000 r = some (0, ())
theorem Rz.ok {r : RU} (h : Rz r) : ROK r := by
  obtain ⟨e, he, hr⟩ := rules_tot r
  rw [show f34 9000 r = some (0, ()) from h] at he
  cases he
  exact hr rfl
theorem place_tot (r : RU) (p : PO) : Ans (POK r p ∧ Rz r) (f47 9000 r p) := by
  unfold f47
  obtain ⟨e, he, hr⟩ := rules_tot r
  have hz : e = 0 → Rz r := fun h => by unfold Rz; rw [he, h]
  rw [he]
  simp only [Option.bind_some]
  by_cases h0 : e = 0
  rotate_left
  · rw [bne_t h0]; exact Ans.bad h0
  subst h0
  have hr := hr rfl
  have hz := hz rfl
  have hsq := hr.sq
  have hn := hr.n6
  simp only [show ((0 : Int) != 0) = false from rfl, cond_false]
  rw [wi (n := r.2.1 * r.2.2.1) (by omega)]
  refine Ans.bif (fun _ => Ans.bad (by decide)) fun h1 => Ans.bif (fun _ => Ans.bad (by decide)) fun h2 => Ans.bif (fun _ => Ans.bad (by decide)) fun h3 => ?_
  have h1 : (p.1.length : Int) = r.2.1 * r.2.2.1 := by simpa using h1
  have h2 : p.2.1.1.length = r.2.2.2.1.length := by have : (p.2.1.1.length : Int) = (r.2.2.2.1.length : Int) := by simpa using h2
                                                    omega
  have h3 : p.2.1.2.1.length = r.2.2.2.1.length := by have : (p.2.1.2.1.length : Int) = (r.2.2.2.1.length : Int) := by simpa using h3
                                                      omega
  refine Ans.loop (cells_l r p p.1 (by omega) 9000 0 (by omega) (by omega) (by omega)) fun c => ?_
  refine Ans.loop (hands_l p p.2.1.1 p.2.1.2.1 (by omega) (by omega)) fun hh => ?_
  have key : (p.2.2.1 = 0 ∨ p.2.2.1 = 1) → Ans (POK r p ∧ Rz r) (bif decide (p.2.2.2.1 < 0) then some (4, ()) else bif decide (p.2.2.2.1 > 200) then some (4, ()) else some (0, ())) := by
    intro ht
    refine Ans.bif (fun _ => Ans.bad (by decide)) fun h4 => Ans.bif (fun _ => Ans.bad (by decide)) fun h5 => Ans.good ⟨?_, hz⟩
    have h4 := dF h4
    have h5 := dF h5
    exact ⟨hr, h1, h2, h3, fun m hm => c m (by omega) hm, hh.1, hh.2, ht, by omega, by omega⟩
  refine Ans.bif (fun _ => Ans.bif (fun _ => Ans.bad (by decide)) fun h6 => ?_) fun h6 => ?_
  · exact key (.inr (by simpa using h6))
  · exact key (.inl (by simpa using h6))
end Go.Proofs.Ytgglflagbbfalaa.G
