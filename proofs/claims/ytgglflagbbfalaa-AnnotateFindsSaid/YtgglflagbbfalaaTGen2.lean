/- The moves of a position: all ways, all pieces, the hand. -/
import Derived.Test.YtgglflagbbfalaaTGen1
namespace Go.Proofs.Ytgglflagbbfalaa.G
open Go.VM Go.Proofs
section
variable {r : RU} {p : PO}
theorem ways17 (hp : POK r p) (fr : Nat) (hf : fr < p.1.length) (hc : 1 ≤ rd 0 p.1 (fr : Int)) (hco : ownr (rd 0 p.1 (fr : Int)) = p.2.2.1) (a b : List Int) (c d : Int) (l : List WY) (hl : l.length ≤ 16) (hw : ∀ m : Nat, m < l.length → WOK (rd W0 l m)) : ∀ (j i : Nat) (out : List MV), i ≤ l.length → l.length < i + j → out.length + 7 * (l.length - i) ≤ 8000 →
    ∃ o', l42_17 9000 j r p out fr a c d l l.length i = some (r, p, o', a, c, d, ()) ∧ More r p out o' (7 * (l.length - i))
  | 0, i, out, h, h', _ => by omega
  | j + 1, i, out, h, h', ho => by
    rw [l42_17]
    by_cases hi : i < l.length
    · rw [bt1 (show (i : Int) < l.length by omega), bt2 ⟨by omega, by omega⟩, ws (by omega)]
      have e : ((i : Int) + 1) = ((i + 1 : Nat) : Int) := by omega
      rw [e]
      obtain ⟨o1, h1, h2⟩ := along_tot hp fr hf hc hco (rd W0 l (i : Int)) (hw i hi) out (by omega)
      rw [show rd ((0, 0, 0, 0, ()) : Int × Int × Int × Int × Unit) l (i : Int) = rd W0 l (i : Int) from rfl, h1]
      simp only [Option.bind_some]
      have hlen := h2.1
      obtain ⟨o', h3, h4⟩ := ways17 hp fr hf hc hco a b c d l hl hw j (i + 1) o1 (by omega) (by omega) (by omega)
      exact ⟨o', h3, h2.trans h4 (by omega)⟩
    · rw [bf1 (show ¬ (i : Int) < l.length by omega)]
      exact ⟨out, rfl, More.refl⟩
theorem own_turn {c : Int} {t : Int} (hc : 0 ≤ c ∧ c ≤ 9000) (ht : t = 0 ∨ t = 1) (h : ((bif c == 0 then (-1 : Int) else (w64 (c - 1)).tmod 2) == t) = true) : 1 ≤ c := by
  by_cases h0 : c = 0
  · subst h0
    have := eq_of_beq h
    rcases ht with rfl | rfl <;> simp at this
  · omega
theorem cells13 (hp : POK r p) : ∀ (j i : Nat) (out : List MV), i ≤ p.1.length → p.1.length < i + j → out.length + 112 * (p.1.length - i) ≤ 7700 →
    ∃ o', l42_13 9000 j r p out p.1 p.1.length i = some (o', ()) ∧ More r p out o' (112 * (p.1.length - i))
  | 0, i, out, h, h', _ => by omega
  | j + 1, i, out, h, h', ho => by
    have hl := hp.len64
    have hn6 := hp.ru.n6
    rw [l42_13]
    by_cases hi : i < p.1.length
    · rw [bt1 (show (i : Int) < p.1.length by omega), bt2 ⟨by omega, by omega⟩, own_eq]
      have e : ((i : Int) + 1) = ((i + 1 : Nat) : Int) := by omega
      simp only [Option.bind_some]
      have hcell := hp.cells i hi
      cases hown : ((bif rd 0 p.1 (i : Int) == 0 then (-1 : Int) else (w64 (rd 0 p.1 (i : Int) - 1)).tmod 2) == p.2.2.1)
      · simp only [cond_false]
        rw [ws (by omega), e]
        obtain ⟨o', h3, h4⟩ := cells13 hp j (i + 1) out (by omega) (by omega) (by omega)
        exact ⟨o', h3, (More.refl (n := 0)).trans h4 (by omega)⟩
      · simp only [cond_true]
        have hc := own_turn ⟨hcell.1, by omega⟩ hp.turn hown
        have hco : ownr (rd 0 p.1 (i : Int)) = p.2.2.1 := by rw [← own_eq' _ ⟨hcell.1, by omega⟩]; exact eq_of_beq hown
        obtain ⟨kd, hkd, k1, k2⟩ := kind_eq (rd 0 p.1 (i : Int)) r.2.2.2.1.length hc hcell.2 (by omega)
        rw [hkd]
        simp only [Option.bind_some]
        rw [bt2 ⟨k1, k2⟩]
        obtain ⟨m, rfl⟩ := Int.eq_ofNat_of_zero_le k1
        obtain ⟨_, _, _, _, _, _, g7, g8⟩ := hp.ru.pcs m (by omega)
        have g7' : (rd ((0, 0, 0, [], ()) : PC) r.2.2.2.1 (m : Int)).2.2.2.1.length ≤ 16 := g7
        obtain ⟨o1, h1, h2⟩ := ways17 hp i hi hc hco p.1 p.1 (p.1.length : Int) (i : Int) (rd ((0, 0, 0, [], ()) : PC) r.2.2.2.1 (m : Int)).2.2.2.1 g7' g8 9000 0 out (by omega) (by omega) (by omega)
        rw [show ((0 : Nat) : Int) = 0 from rfl] at h1
        rw [h1]
        simp only [Option.bind_some]
        rw [ws (by omega), e]
        have hlen := h2.1
        obtain ⟨o', h3, h4⟩ := cells13 hp j (i + 1) o1 (by omega) (by omega) (by omega)
        exact ⟨o', h3, h2.trans h4 (by omega)⟩
    · rw [bf1 (show ¬ (i : Int) < p.1.length by omega)]
      exact ⟨out, rfl, More.refl⟩
theorem open5 (hp : POK r p) : ∀ (j : Nat) (s : Int), -8 ≤ s → s < p.1.length → s + 8 < j → l53_5 9000 j r p s = some (.inl ()) ∨ l53_5 9000 j r p s = some (.inr (false, ())) 
  | 0, s, h1, h2, h3 => by omega
  | j + 1, s, h1, h2, h3 => by
    have hw1 := hp.ru.w1
    have hw8 := hp.ru.w8
    have hl := hp.len64
    rw [l53_5]
    by_cases hs : s ≥ 0
    · rw [bt1 hs, bt2 ⟨hs, h2⟩]
      cases rd 0 p.1 s == 0
      · simp only [cond_false]
        rw [ws (by omega)]
        exact open5 hp j (s - r.2.1) (by omega) (by omega) (by omega)
      · exact .inr rfl
    · rw [bf1 hs]
      exact .inl rfl
theorem open_tot (hp : POK r p) (s : Int) (h0 : 0 ≤ s) (h1 : s < p.1.length) : ∃ b, f53 9000 r p s = some (b, ()) ∧ (b = true → rd 0 p.1 s = 0) := by
  have hw1 := hp.ru.w1
  have hw8 := hp.ru.w8
  have hl := hp.len64
  unfold f53
  rw [bt2 ⟨h0, h1⟩]
  cases hz : rd 0 p.1 s != 0
  rotate_left
  · exact ⟨_, rfl, fun h => by cases h⟩
  have hz : rd 0 p.1 s = 0 := by simpa using hz
  simp only [cond_false]
  cases r.2.2.2.2.2.1
  · exact ⟨_, rfl, fun _ => hz⟩
  simp only [cond_true]
  rw [ws (by omega)]
  rcases open5 hp 9000 (s - r.2.1) (by omega) (by omega) (by omega) with h | h <;> rw [h] <;> exact ⟨_, rfl, fun _ => hz⟩
theorem drop6 (hp : POK r p) (t : Nat) (ht : t < r.2.2.2.1.length) (n : Int) (hn : n = rd 0 (hnd p) t) (a : List Int) (c d : Int) : ∀ (j i : Nat) (out : List MV), i ≤ p.1.length → p.1.length < i + j → out.length + (p.1.length - i) ≤ 7700 →
    ∃ o', l42_6 9000 j r p out t n a c d p.1.length i = some (r, p, o', a, c, d, ()) ∧ More r p out o' (p.1.length - i)
  | 0, i, out, h, h', _ => by omega
  | j + 1, i, out, h, h', ho => by
    have hl := hp.len64
    rw [l42_6]
    by_cases hi : i < p.1.length
    · rw [bt1 (show (i : Int) < p.1.length by omega), ws (by omega)]
      have e : ((i : Int) + 1) = ((i + 1 : Nat) : Int) := by omega
      rw [e]
      have plain : ∃ o', l42_6 9000 j r p out t n a c d p.1.length ((i + 1 : Nat) : Int) = some (r, p, o', a, c, d, ()) ∧ More r p out o' (p.1.length - i) := by
        obtain ⟨o', h3, h4⟩ := drop6 hp t ht n hn a c d j (i + 1) out (by omega) (by omega) (by omega)
        exact ⟨o', h3, (More.refl (n := 0)).trans h4 (by omega)⟩
      cases hd : decide (n > 0)
      · exact plain
      · have hd := of_decide_eq_true hd
        simp only [cond_true]
        obtain ⟨b, hb, hb0⟩ := open_tot hp (i : Int) (by omega) (by omega)
        rw [hb]
        simp only [Option.bind_some]
        cases b
        · exact plain
        · simp only [cond_true]
          rw [bt1 (by simp; unfold roomN; omega)]
          have hm : MvOK r p (-1, (i : Int), (t : Int), ()) := ⟨by show (0 : Int) ≤ i; omega, by show (i : Int) < _; omega, by show (0 : Int) ≤ t; omega, by show (t : Int) < _; omega, .inl ⟨rfl, by show 0 < rd 0 (hnd p) (t : Int); omega, hb0 rfl⟩⟩
          obtain ⟨o', h3, h4⟩ := drop6 hp t ht n hn a c d j (i + 1) (out ++ [(-1, (i : Int), (t : Int), ())]) (by omega) (by omega) (by simp; omega)
          refine ⟨o', h3, More.trans (b := out ++ [(-1, (i : Int), (t : Int), ())]) (n := 1) ⟨by simp, fun m h' => ?_⟩ h4 (by omega)⟩
          rcases List.mem_append.1 h' with h' | h'
          · exact .inl h'
          · simp at h'; subst h'; exact .inr hm
    · rw [bf1 (show ¬ (i : Int) < p.1.length by omega)]
      exact ⟨out, rfl, More.refl⟩
theorem hand3 (hp : POK r p) (hh : (hnd p).length = r.2.2.2.1.length) : ∀ (j i : Nat) (out : List MV), i ≤ (hnd p).length → (hnd p).length < i + j → out.length + 64 * ((hnd p).length - i) ≤ 500 →
    ∃ o', l42_3 9000 j r p out (hnd p) (hnd p).length i = some (r, p, o', ()) ∧ More r p out o' (64 * ((hnd p).length - i))
  | 0, i, out, h, h', _ => by omega
  | j + 1, i, out, h, h', ho => by
    have hl := hp.len64
    have hn6 := hp.ru.n6
    rw [l42_3]
    by_cases hi : i < (hnd p).length
    · rw [bt1 (show (i : Int) < (hnd p).length by omega), bt2 ⟨by omega, by omega⟩]
      have e : ((i : Int) + 1) = ((i + 1 : Nat) : Int) := by omega
      obtain ⟨o1, h1, h2⟩ := drop6 hp i (by omega) (rd 0 (hnd p) (i : Int)) rfl (hnd p) ((hnd p).length : Int) (i : Int) 9000 0 out (by omega) (by omega) (by omega)
      rw [show ((0 : Nat) : Int) = 0 from rfl] at h1
      rw [h1]
      simp only [Option.bind_some]
      rw [ws (by omega), e]
      have hlen := h2.1
      obtain ⟨o', h3, h4⟩ := hand3 hp hh j (i + 1) o1 (by omega) (by omega) (by omega)
      exact ⟨o', h3, h2.trans h4 (by omega)⟩
    · rw [bf1 (show ¬ (i : Int) < (hnd p).length by omega)]
      exact ⟨out, rfl, More.refl⟩
end
end Go.Proofs.Ytgglflagbbfalaa.G
