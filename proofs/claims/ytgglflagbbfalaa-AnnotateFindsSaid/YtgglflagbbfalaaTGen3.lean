/- The moves of a position, sorted, each once; what contains what. -/
import Derived.Test.YtgglflagbbfalaaTGen2
namespace Go.Proofs.Ytgglflagbbfalaa.G
open Go.VM Go.Proofs
theorem rd_mem {α : Type} (d : α) (l : List α) (i : Nat) (h : i < l.length) : rd d l (i : Int) ∈ l := by
  unfold rd
  rw [Int.toNat_natCast, List.getD_eq_getElem?_getD, List.getElem?_eq_getElem h]
  exact List.getElem_mem h
theorem cpt9 (l : List MV) (a n : Nat) (ha : 1 ≤ a) (hn : a + n ≤ 8000) : ∀ (j i w : Nat) (s : List MV), 1 ≤ i → i ≤ n → n < i + j → w < a + i → s.length = a + n → (∀ x ∈ s, x ∈ l) →
    ∃ (s' : List MV) (w' : Nat), l58_9 9000 j s (w : Int) ((a : Int), (n : Int)) (i : Int) = some (s', (w' : Int), ()) ∧ s'.length = a + n ∧ w' ≤ a + n ∧ ∀ x ∈ s', x ∈ l
  | 0, i, w, s, h1, h2, h3, _, _, _ => by omega
  | j + 1, i, w, s, h1, h2, h3, hw, hs, hm => by
    rw [l58_9]
    simp only [Int.toNat_natCast]
    by_cases hi : i < n
    · have e : ((i : Int) + 1) = ((i + 1 : Nat) : Int) := by omega
      have e' : ((w : Int) + 1) = ((w + 1 : Nat) : Int) := by omega
      rw [bt1 (show (i : Int) < (n : Int) by omega), bt2 ⟨by omega, by omega⟩, ws (n := (i : Int) - 1) (by omega), bt2 ⟨by omega, by omega⟩, ws (n := (i : Int) + 1) (by omega), ws (n := (w : Int) + 1) (by omega), e, e']
      generalize (!(((rd ((0, 0, 0, ()) : MV) s ((a : Int) + (i : Int))).1 == (rd ((0, 0, 0, ()) : MV) s ((a : Int) + ((i : Int) - 1))).1) && (((rd ((0, 0, 0, ()) : MV) s ((a : Int) + (i : Int))).2.1 == (rd ((0, 0, 0, ()) : MV) s ((a : Int) + ((i : Int) - 1))).2.1) && (((rd ((0, 0, 0, ()) : MV) s ((a : Int) + (i : Int))).2.2.1 == (rd ((0, 0, 0, ()) : MV) s ((a : Int) + ((i : Int) - 1))).2.2.1) && true)))) = bb
      cases bb
      · exact cpt9 l a n ha hn j (i + 1) w s (by omega) (by omega) (by omega) (by omega) hs hm
      · simp only [cond_true]
        rw [bt2 ⟨by omega, by omega⟩, bt2 ⟨by omega, by omega⟩]
        refine cpt9 l a n ha hn j (i + 1) (w + 1) _ (by omega) (by omega) (by omega) (by omega) (by simpa using hs) (fun x hx => ?_)
        rcases List.mem_or_eq_of_mem_set hx with hx | hx
        · exact hm x hx
        · rw [hx, show ((a : Int) + (i : Int)) = ((a + i : Nat) : Int) by omega]
          exact hm _ (rd_mem _ s (a + i) (by omega))
    · rw [bf1 (show ¬ (i : Int) < (n : Int) by omega)]
      exact ⟨s, w, rfl, hs, by omega, hm⟩
theorem cpt4 (l : List MV) (hl : l.length ≤ 8000) : ∀ (j i : Nat), 1 ≤ i → i ≤ l.length → l.length < i + j →
    l58_4 9000 j l i = some (.inl (l, ())) ∨ ∃ s o, l58_4 9000 j l i = some (.inr (s, o, ())) ∧ o.length ≤ l.length ∧ ∀ x ∈ o, x ∈ l
  | 0, i, h1, h2, h3 => by omega
  | j + 1, i, h1, h2, h3 => by
    rw [l58_4]
    by_cases hi : i < l.length
    · have e : ((i : Int) + 1) = ((i + 1 : Nat) : Int) := by omega
      rw [bt1 (show (i : Int) < l.length by omega), bt2 ⟨by omega, by omega⟩, ws (n := (i : Int) - 1) (by omega), bt2 ⟨by omega, by omega⟩, ws (n := (i : Int) + 1) (by omega), e]
      generalize (((rd ((0, 0, 0, ()) : MV) l (i : Int)).1 == (rd ((0, 0, 0, ()) : MV) l ((i : Int) - 1)).1) && (((rd ((0, 0, 0, ()) : MV) l (i : Int)).2.1 == (rd ((0, 0, 0, ()) : MV) l ((i : Int) - 1)).2.1) && (((rd ((0, 0, 0, ()) : MV) l (i : Int)).2.2.1 == (rd ((0, 0, 0, ()) : MV) l ((i : Int) - 1)).2.2.1) && true))) = bb
      cases bb
      · exact cpt4 l hl j (i + 1) (by omega) (by omega) (by omega)
      · simp only [cond_true]
        rw [decide_eq_true (show (0 : Int) ≤ i by omega), decide_eq_true (show (i : Int) ≤ l.length by omega), decide_eq_true (show (l.length : Int) ≤ l.length by omega)]
        simp only [Bool.and_self, cond_true]
        obtain ⟨s', w', k1, k2, k3, k4⟩ := cpt9 l i (l.length - i) h1 (by omega) 9000 1 i l (by omega) (by omega) (by omega) (by omega) (by omega) (fun x hx => hx)
        rw [show ((((i : Int)).toNat : Nat) : Int) = (i : Int) by omega, show ((((l.length : Int) - (i : Int)).toNat : Nat) : Int) = ((l.length - i : Nat) : Int) by omega]
        rw [show ((1 : Nat) : Int) = 1 from rfl] at k1
        rw [k1]
        simp only [Option.bind_some]
        have hb : Nat.ble ((w' : Int).toNat + ((s'.length : Int) - (w' : Int)).toNat) s'.length = true := Nat.ble_eq_true_of_le (by omega)
        rw [decide_eq_true (show (0 : Int) ≤ (w' : Int) by omega), decide_eq_true (show (w' : Int) ≤ (s'.length : Int) by omega), decide_eq_true (show (s'.length : Int) ≤ (s'.length : Int) by omega), hb]
        simp only [Bool.and_self, cond_true]
        rw [decide_eq_true (show (w' : Int) ≤ (((s'.take (w' : Int).toNat ++ (List.replicate ((s'.length : Int) - (w' : Int)).toNat ((0, 0, 0, ()) : MV) ++ s'.drop ((w' : Int).toNat + ((s'.length : Int) - (w' : Int)).toNat))).length : Nat) : Int) by simp; omega)]
        simp only [cond_true, first_eq]
        refine .inr ⟨_, _, rfl, ?_, fun x hx => ?_⟩
        · simp; omega
        · rw [show (w' : Int).toNat = w' by omega, List.take_append_of_le_length (by simp; omega), List.take_take, Nat.min_self] at hx
          exact k4 x (List.mem_of_mem_take hx)
    · rw [bf1 (show ¬ (i : Int) < l.length by omega)]
      exact .inl rfl
theorem cpt_tot (l : List MV) (hl : l.length ≤ 8000) : ∃ o y, f58 9000 l = some (o, y, ()) ∧ o.length ≤ l.length ∧ ∀ x ∈ o, x ∈ l := by
  unfold f58
  by_cases h : (l.length : Int) < 2
  · rw [bt1 h]
    exact ⟨l, l, rfl, Nat.le_refl _, fun x hx => hx⟩
  · rw [bf1 h]
    rcases cpt4 l hl 9000 1 (by omega) (by omega) (by omega) with h | ⟨s, o, h, h1, h2⟩
    · rw [show ((1 : Nat) : Int) = 1 from rfl] at h
      rw [h]
      exact ⟨l, l, rfl, Nat.le_refl _, fun x hx => hx⟩
    · rw [show ((1 : Nat) : Int) = 1 from rfl] at h
      rw [h]
      exact ⟨o, s, rfl, h1, h2⟩
theorem sort_tot (l : List MV) (hl : l.length ≤ 8000) : ∃ o, f56 9000 l = some (o, ()) ∧ o.length = l.length ∧ ∀ x ∈ o, x ∈ l := by
  unfold f56
  rw [show Nat.ble 5 9000 = true from rfl, Bool.true_and, bt1 (by omega)]
  exact ⟨_, rfl, List.length_mergeSort .., fun x hx => (List.mem_mergeSort ..).1 hx⟩
/-- **moves.Gen**: an answer, of moves. -/
theorem gen_tot {r : RU} {p : PO} (hp : POK r p) : ∃ g, f42 9000 r p = some (g, ()) ∧ g.length ≤ 8000 ∧ ∀ m ∈ g, MvOK r p m := by
  have hl := hp.len64
  have hn6 := hp.ru.n6
  have key : (hnd p).length = r.2.2.2.1.length → ∃ g, ((l42_3 9000 9000 r p [] (hnd p) ((hnd p).length : Int) 0).bind fun o1 => (l42_13 9000 9000 o1.1 o1.2.1 o1.2.2.1 o1.2.1.1 (o1.2.1.1.length : Int) 0).bind fun o2 => (f56 9000 o2.1).bind fun r3 => (f58 9000 r3.1).bind fun r4 => some (r4.1, ())) = some (g, ()) ∧ g.length ≤ 8000 ∧ ∀ m ∈ g, MvOK r p m := by
    intro hh
    obtain ⟨o1, h1, m1⟩ := hand3 hp hh 9000 0 [] (by omega) (by omega) (by simp; omega)
    rw [show ((0 : Nat) : Int) = 0 from rfl] at h1
    rw [h1]
    simp only [Option.bind_some]
    have l1 := m1.1
    simp only [List.length_nil] at l1
    obtain ⟨o2, h2, m2⟩ := cells13 hp 9000 0 o1 (by omega) (by omega) (by omega)
    rw [show ((0 : Nat) : Int) = 0 from rfl] at h2
    rw [h2]
    simp only [Option.bind_some]
    have l2 := m2.1
    obtain ⟨o3, h3, l3, m3⟩ := sort_tot o2 (by omega)
    rw [h3]
    simp only [Option.bind_some]
    obtain ⟨o4, y, h4, l4, m4⟩ := cpt_tot o3 (by omega)
    rw [h4]
    refine ⟨o4, rfl, by omega, fun m hm => ?_⟩
    rcases m2.2 m (m3 m (m4 m hm)) with h | h
    · rcases m1.2 m h with h | h
      · cases h
      · exact h
    · exact h
  unfold f42
  rcases hp.turn with ht | ht
  · have e : hnd p = p.2.1.1 := by unfold hnd; rw [ht]; rfl
    rw [be1 ht, ← e]
    exact key (by rw [e]; exact hp.a)
  · have e : hnd p = p.2.1.2.1 := by unfold hnd; rw [ht]; rfl
    rw [bn1 (by omega), be1 ht, ← e]
    exact key (by rw [e]; exact hp.b)
end Go.Proofs.Ytgglflagbbfalaa.G
