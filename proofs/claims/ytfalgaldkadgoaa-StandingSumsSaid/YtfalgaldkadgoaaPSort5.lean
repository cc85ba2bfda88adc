/- The stable sort: symMerge, and the whole. -/
import Derived.Test.YtfalgaldkadgoaaPSort4
namespace Go.Proofs.Ytfalgaldkadgoaa.G
open Go.VM Go.Proofs

/-- One row ahead of a sorted piece. -/
theorem srt1 (ho : Ord) (l l' : List RW) (a b i : Nat) (hs : Srt l (a + 1) b) (h1 : a + 1 ≤ i) (h2 : i ≤ b) (hr : Rot l l' a 1 (i - 1 - a)) (h5 : ∀ q, a + 1 ≤ q → q < i → oc (at' l q) (at' l a) < 0) (h6 : ∀ q, i ≤ q → q < b → L (at' l a) (at' l q)) : Srt l' a b := by
  have ev : ∀ p, a ≤ p → at' l' p = if p < i - 1 then at' l (p + 1) else if p = i - 1 then at' l a else at' l p := by
    intro p hp
    rw [hr p]
    by_cases c : p < i - 1
    · rw [if_pos (by omega), if_pos c]
    · rw [if_neg (by omega), if_neg c]
      by_cases d : p = i - 1
      · rw [if_pos (by omega), if_pos d]; congr 1; omega
      · rw [if_neg (by omega), if_neg d]
  intro p q a1 a2 a3
  rw [ev p a1, ev q (by omega)]
  by_cases c : p < i - 1
  · rw [if_pos c]
    by_cases d : q < i - 1
    · rw [if_pos d]; exact hs _ _ (by omega) (by omega) (by omega)
    · rw [if_neg d]
      by_cases e : q = i - 1
      · rw [if_pos e]; exact L.lt ho (h5 _ (by omega) (by omega))
      · rw [if_neg e]; exact hs _ _ (by omega) (by omega) (by omega)
  · rw [if_neg c, if_neg (show ¬ q < i - 1 by omega), if_neg (show ¬ q = i - 1 by omega)]
    by_cases e : p = i - 1
    · rw [if_pos e]; exact h6 _ (by omega) (by omega)
    · rw [if_neg e]; exact hs _ _ (by omega) (by omega) (by omega)
/-- One row behind a sorted piece. -/
theorem srt2 (ho : Ord) (l l' : List RW) (a m i : Nat) (hs : Srt l a m) (h1 : a ≤ i) (h2 : i ≤ m) (hr : Rot l l' i (m - i) 1) (h5 : ∀ q, a ≤ q → q < i → L (at' l q) (at' l m)) (h6 : ∀ q, i ≤ q → q < m → oc (at' l m) (at' l q) < 0) : Srt l' a (m + 1) := by
  have ev : ∀ p, p < m + 1 → at' l' p = if p < i then at' l p else if p = i then at' l m else at' l (p - 1) := by
    intro p hp
    rw [hr p]
    by_cases c : p < i
    · rw [if_neg (by omega), if_neg (by omega), if_pos c]
    · rw [if_neg c]
      by_cases d : p = i
      · rw [if_pos (by omega), if_pos d]; congr 1; omega
      · rw [if_neg (by omega), if_pos (by omega), if_neg d]
  intro p q a1 a2 a3
  rw [ev p (by omega), ev q (by omega)]
  by_cases c : p < i
  · rw [if_pos c]
    by_cases d : q < i
    · rw [if_pos d]; exact hs _ _ (by omega) (by omega) (by omega)
    · rw [if_neg d]
      by_cases e : q = i
      · rw [if_pos e]; exact h5 _ (by omega) (by omega)
      · rw [if_neg e]; exact hs _ _ (by omega) (by omega) (by omega)
  · rw [if_neg c, if_neg (show ¬ q < i by omega), if_neg (show ¬ q = i by omega)]
    by_cases e : p = i
    · rw [if_pos e]; exact L.lt ho (h6 _ (by omega) (by omega))
    · rw [if_neg e]; exact hs _ _ (by omega) (by omega) (by omega)

/-- What the search and the rotation leave: two halves, the first one's rows the lesser ones. -/
theorem halves (ho : Ord) (l l' : List RW) (a m b s : Nat) (ham : a < m) (hmb : m < b) (hs : Srt l a m) (ht : Srt l m b) (hsm : s ≤ m) (has : a ≤ s) (hme : m ≤ (a + b) / 2 + m - s) (heb : (a + b) / 2 + m - s ≤ b)
    (hr : Rot l l' s (m - s) ((a + b) / 2 + m - s - m))
    (h5 : a < s → (a + b) / 2 + m - s < b → L (at' l (s - 1)) (at' l ((a + b) / 2 + m - s))) (h6 : s < m → m < (a + b) / 2 + m - s → L (at' l ((a + b) / 2 + m - s - 1)) (at' l s)) :
    (∀ p q, a ≤ p → p < (a + b) / 2 → (a + b) / 2 ≤ q → q < b → L (at' l' p) (at' l' q)) ∧ Srt l' a s ∧ Srt l' s ((a + b) / 2) ∧ Srt l' ((a + b) / 2) ((a + b) / 2 + m - s) ∧ Srt l' ((a + b) / 2 + m - s) b := by
  generalize hd : (a + b) / 2 = mid at *
  generalize he : mid + m - s = e at *
  have ev : ∀ p, a ≤ p → at' l' p = if p < s then at' l p else if p < mid then at' l (p + (m - s)) else if p < e then at' l (p - (e - m)) else at' l p := by
    intro p hp
    rw [hr p]
    by_cases c : p < s
    · rw [if_neg (by omega), if_neg (by omega), if_pos c]
    · rw [if_neg c]
      by_cases d : p < mid
      · rw [if_pos (by omega), if_pos d]
      · rw [if_neg (by omega), if_neg d]
        by_cases g : p < e
        · rw [if_pos (by omega), if_pos g]
        · rw [if_neg (by omega), if_neg g]
  refine ⟨fun p q a1 a2 a3 a4 => ?_, fun p q a1 a2 a3 => ?_, fun p q a1 a2 a3 => ?_, fun p q a1 a2 a3 => ?_, fun p q a1 a2 a3 => ?_⟩
  · rw [ev p a1, ev q (by omega), if_neg (show ¬ q < s by omega), if_neg (show ¬ q < mid by omega)]
    by_cases c : p < s
    · rw [if_pos c]
      by_cases d : q < e
      · rw [if_pos d]; exact Srt.le ho hs a1 (by omega) (by omega)
      · rw [if_neg d]
        exact L.trans ho (L.trans ho (Srt.le ho hs a1 (show p ≤ s - 1 by omega) (by omega)) (h5 (by omega) (by omega))) (Srt.le ho ht (by omega) (by omega) a4)
    · rw [if_neg c, if_pos a2]
      by_cases d : q < e
      · rw [if_pos d]
        exact L.trans ho (L.trans ho (Srt.le ho ht (by omega) (show p + (m - s) ≤ e - 1 by omega) (by omega)) (h6 (by omega) (by omega))) (Srt.le ho hs (by omega) (by omega) (by omega))
      · rw [if_neg d]; exact Srt.le ho ht (by omega) (by omega) a4
  · rw [ev p (by omega), ev q (by omega), if_pos (by omega), if_pos (by omega)]; exact hs _ _ (by omega) (by omega) (by omega)
  · rw [ev p (by omega), ev q (by omega), if_neg (by omega), if_pos (by omega), if_neg (by omega), if_pos (by omega)]; exact ht _ _ (by omega) (by omega) (by omega)
  · rw [ev p (by omega), ev q (by omega), if_neg (by omega), if_neg (by omega), if_pos (by omega), if_neg (by omega), if_neg (by omega), if_pos (by omega)]; exact hs _ _ (by omega) (by omega) (by omega)
  · rw [ev p (by omega), ev q (by omega), if_neg (by omega), if_neg (by omega), if_neg (by omega), if_neg (by omega), if_neg (by omega), if_neg (by omega)]; exact ht _ _ (by omega) (by omega) (by omega)

def SM (rec : Rec) (d : Nat) : Prop := ∀ (l : List RW) (a m b : Nat), l.length ≤ 32 → a < m → m < b → b ≤ l.length → b - a ≤ d → Srt l a m → Srt l m b → ∃ l', rec l a m b = some (l', ()) ∧ Same l l' a b ∧ Srt l' a b

theorem Srt.of_same {l l' : List RW} {a b : Nat} (h : Srt l a b) (h2 : ∀ p, a ≤ p → p < b → at' l' p = at' l p) : Srt l' a b := fun p q a1 a2 a3 => by
  rw [h2 p a1 (by omega), h2 q (by omega) a3]; exact h p q a1 a2 a3
/-- A half: sorted by the recursion, or sorted already. -/
theorem half (rec : Rec) (d : Nat) (hr : SM rec d) (l : List RW) (a s b : Nat) (hl : l.length ≤ 32) (has : a ≤ s) (hsb : s ≤ b) (hb : b ≤ l.length) (hd : b - a ≤ d) (h1 : Srt l a s) (h2 : Srt l s b) (R : Type) (K : List RW → Option R) :
    ∃ l', (bif decide ((a : Int) < (s : Int)) then (bif decide ((s : Int) < (b : Int)) then (rec l a s b).bind fun r => K r.1 else K l) else K l) = K l' ∧ Same l l' a b ∧ Srt l' a b := by
  by_cases c : a < s
  · rw [bt1 (show (a : Int) < (s : Int) by omega)]
    by_cases e : s < b
    · rw [bt1 (show (s : Int) < (b : Int) by omega)]
      obtain ⟨l', g1, g2, g3⟩ := hr l a s b hl c e hb hd h1 h2
      rw [g1]
      exact ⟨l', rfl, g2, g3⟩
    · rw [bf1 (show ¬ (s : Int) < (b : Int) by omega)]
      have : s = b := by omega
      subst this
      exact ⟨l, rfl, Same.refl _ _ _, h1⟩
  · rw [bf1 (show ¬ (a : Int) < (s : Int) by omega)]
    have : a = s := by omega
    subst this
    exact ⟨l, rfl, Same.refl _ _ _, h2⟩
theorem c77_eq (rec : Rec) (l : List RW) (a b mid s e : Nat) : c77_41 100 rec l a b () mid s e =
    (bif decide ((a : Int) < (s : Int)) then (bif decide ((s : Int) < (mid : Int)) then (rec l a s mid).bind fun r => (fun l1 => bif decide ((mid : Int) < (e : Int)) then (bif decide ((e : Int) < (b : Int)) then (rec l1 mid e b).bind fun r => some (r.1, ()) else some (l1, ())) else some (l1, ())) r.1
      else (bif decide ((mid : Int) < (e : Int)) then (bif decide ((e : Int) < (b : Int)) then (rec l mid e b).bind fun r => some (r.1, ()) else some (l, ())) else some (l, ())))
     else (bif decide ((mid : Int) < (e : Int)) then (bif decide ((e : Int) < (b : Int)) then (rec l mid e b).bind fun r => some (r.1, ()) else some (l, ())) else some (l, ()))) := by rfl
theorem merge2 (ho : Ord) (rec : Rec) (d : Nat) (hrec : SM rec d) (l l1 : List RW) (a m b s : Nat) (hl : l.length ≤ 32) (hb : b ≤ l.length) (ham : a < m) (hmb : m < b) (hd : b - a ≤ d + 1) (hs : Srt l a m) (ht : Srt l m b) (hsm : s ≤ m) (has : a ≤ s) (hsd : s ≤ (a + b) / 2) (hme : m ≤ (a + b) / 2 + m - s) (heb : (a + b) / 2 + m - s ≤ b)
    (hr : Rot l l1 s (m - s) ((a + b) / 2 + m - s - m)) (hsame : Same l l1 a b)
    (h5 : a < s → (a + b) / 2 + m - s < b → L (at' l (s - 1)) (at' l ((a + b) / 2 + m - s))) (h6 : s < m → m < (a + b) / 2 + m - s → L (at' l ((a + b) / 2 + m - s - 1)) (at' l s)) :
    ∃ l', c77_41 100 rec l1 a b () ((a + b) / 2 : Nat) s ((a + b) / 2 + m - s : Nat) = some (l', ()) ∧ Same l l' a b ∧ Srt l' a b := by
  obtain ⟨k1, k2, k3, k4, k5⟩ := halves ho l l1 a m b s ham hmb hs ht hsm has hme heb hr h5 h6
  have hlen := hsame.1
  have hm1 : a ≤ (a + b) / 2 := by omega
  have hm2 : (a + b) / 2 < b := by omega
  have hbd : b - (a + b) / 2 ≤ d := by omega
  have had : (a + b) / 2 - a ≤ d := by omega
  have hmd : (a + b) / 2 ≤ (a + b) / 2 + m - s := by omega
  generalize (a + b) / 2 + m - s = e at *
  generalize (a + b) / 2 = mid at *
  rw [c77_eq]
  obtain ⟨l2, g1, g2, g3⟩ := half rec d hrec l1 a s mid (by omega) has hsd (by omega) had k2 k3 _ (fun l1 => bif decide ((mid : Int) < (e : Int)) then (bif decide ((e : Int) < (b : Int)) then (rec l1 mid e b).bind fun r => some (r.1, ()) else some (l1, ())) else some (l1, ()))
  rw [g1]
  have hl2 := g2.1
  have fx : ∀ p, mid ≤ p → p < b → at' l2 p = at' l1 p := fun p a1 _ => g2.2.2 p (Or.inr a1)
  obtain ⟨l3, f1, f2, f3⟩ := half rec d hrec l2 mid e b (by omega) hmd heb (by omega) hbd (k4.of_same fun p a1 a2 => fx p a1 (by omega)) (k5.of_same fun p a1 a2 => fx p (by omega) a2) _ (fun l => some (l, ()))
  show ∃ l', (bif decide ((mid : Int) < (e : Int)) then (bif decide ((e : Int) < (b : Int)) then (rec l2 mid e b).bind fun r => some (r.1, ()) else some (l2, ())) else some (l2, ())) = _ ∧ _
  rw [f1]
  refine ⟨l3, rfl, (hsame.trans (g2.mono (Nat.le_refl _) (by omega))).trans (f2.mono (by omega) (Nat.le_refl _)), fun p q a1 a2 a3 => ?_⟩
  by_cases c : q < mid
  · rw [f2.2.2 p (by omega), f2.2.2 q (by omega)]; exact g3 p q a1 a2 c
  · by_cases c2 : mid ≤ p
    · exact f3 p q c2 a2 a3
    · rw [f2.2.2 p (by omega)]
      obtain ⟨p', u1, u2, u3⟩ := g2.loc (by omega) p ⟨a1, by omega⟩
      obtain ⟨q', v1, v2, v3⟩ := f2.loc (by omega) q ⟨by omega, a3⟩
      rw [u3, v3, fx q' v1 v2]
      exact k1 p' q' u1 u2 v1 v2

theorem symMerge (ho : Ord) : ∀ d, SM (f77_at 100 d) d
  | 0 => fun l a m b hl ham hmb hb hd _ _ => by omega
  | d + 1 => fun l a m b hl ham hmb hb hd hs ht => by
    show ∃ l', f77_body 100 (f77_at 100 d) l a m b = some (l', ()) ∧ _
    unfold f77_body
    rw [show w64 ((m : Int) - (a : Int)) = ((m - a : Nat) : Int) by rw [ws (by omega)]; omega, show w64 ((b : Int) - (m : Int)) = ((b - m : Nat) : Int) by rw [ws (by omega)]; omega, mid_eq a b (by omega)]
    by_cases c1 : m - a = 1
    · rw [show ((((m - a : Nat) : Int)) == 1) = true by simp; omega]
      have hm : m = a + 1 := by omega
      subst hm
      obtain ⟨i, e1, e2, e3, e4, e5⟩ := find1 ho (f77_at 100 d) l a (a + 1) b hl (by omega) hb ht 100 (a + 1) b (Nat.le_refl _) (by omega) (Nat.le_refl _) (by omega) (fun q a1 a2 => by omega) (fun q a1 a2 => by omega)
      simp only [cond_true]
      rw [e1]
      obtain ⟨l', g1, g2, g3, g4⟩ := move1 (f77_at 100 d) i 100 a l hl (by omega) (by omega) (by omega) (by omega)
      simp only [Option.bind_some]
      rw [g1]
      exact ⟨l', rfl, ⟨g2, g3, fun p hp => by rw [g4 p, if_neg (by omega), if_neg (by omega)]⟩, srt1 ho l l' a b i ht e2 e3 g4 e4 e5⟩
    · rw [show ((((m - a : Nat) : Int)) == 1) = false by simp; omega]
      simp only [cond_false]
      by_cases c2 : b - m = 1
      · rw [show ((((b - m : Nat) : Int)) == 1) = true by simp; omega]
        have hm : b = m + 1 := by omega
        subst hm
        obtain ⟨i, e1, e2, e3, e4, e5⟩ := find2 ho (f77_at 100 d) l a m hl (by omega) hs 100 a m (Nat.le_refl _) (by omega) (Nat.le_refl _) (by omega) (fun q a1 a2 => by omega) (fun q a1 a2 => by omega)
        simp only [cond_true]
        rw [e1]
        obtain ⟨l', g1, g2, g3, g4⟩ := move2 (f77_at 100 d) i 100 m l hl e3 (by omega) (by omega)
        simp only [Option.bind_some]
        rw [g1]
        exact ⟨l', rfl, ⟨g2, g3, fun p hp => by rw [g4 p, if_neg (by omega), if_neg (by omega)]⟩, srt2 ho l l' a m i hs e2 e3 g4 e4 e5⟩
      · rw [show ((((b - m : Nat) : Int)) == 1) = false by simp; omega]
        simp only [cond_false]
        have e1 : w64 ((((a + b) / 2 : Nat) : Int) + (m : Int)) = (((a + b) / 2 + m : Nat) : Int) := by rw [ws (by omega)]; omega
        have e3 : w64 ((((a + b) / 2 + m : Nat) : Int) - 1) = (((a + b) / 2 + m - 1 : Nat) : Int) := by rw [ws (by omega)]; omega
        rw [e1, e3]
        have fin : ∀ s0 r0, a ≤ s0 → s0 ≤ r0 → r0 ≤ m → r0 ≤ (a + b) / 2 → (∀ c, s0 ≤ c → c < r0 → a ≤ c ∧ c < m ∧ c ≤ (a + b) / 2 + m - 1 ∧ m ≤ (a + b) / 2 + m - 1 - c ∧ (a + b) / 2 + m - 1 - c < b) → (a + b) / 2 + m - s0 ≤ b →
            (∀ s, s0 ≤ s → a < s → (a + b) / 2 + m - s < b → s0 < s) → (∀ s, s ≤ r0 → s < m → m < (a + b) / 2 + m - s → s < r0) →
            ∃ l', ((l77_33 100 (f77_at 100 d) 100 l a m b () ((a + b) / 2 : Nat) ((a + b) / 2 + m : Nat) s0 r0 ((a + b) / 2 + m - 1 : Nat)).bind fun o5 =>
              bif decide (o5.2.2.2.2.2.2.2.1 < o5.2.2.1) then
                bif decide (o5.2.2.1 < (w64 (o5.2.2.2.2.2.2.1 - o5.2.2.2.2.2.2.2.1))) then
                  (f80 100 o5.1 o5.2.2.2.2.2.2.2.1 o5.2.2.1 (w64 (o5.2.2.2.2.2.2.1 - o5.2.2.2.2.2.2.2.1))).bind fun r6 =>
                  (c77_41 100 (f77_at 100 d) r6.1 o5.2.1 o5.2.2.2.1 () o5.2.2.2.2.2.1 o5.2.2.2.2.2.2.2.1 (w64 (o5.2.2.2.2.2.2.1 - o5.2.2.2.2.2.2.2.1))).bind fun o7 =>
                  some o7
                else
                  (c77_41 100 (f77_at 100 d) o5.1 o5.2.1 o5.2.2.2.1 () o5.2.2.2.2.2.1 o5.2.2.2.2.2.2.2.1 (w64 (o5.2.2.2.2.2.2.1 - o5.2.2.2.2.2.2.2.1))).bind fun o8 =>
                  some o8
              else
                (c77_41 100 (f77_at 100 d) o5.1 o5.2.1 o5.2.2.2.1 () o5.2.2.2.2.2.1 o5.2.2.2.2.2.2.2.1 (w64 (o5.2.2.2.2.2.2.1 - o5.2.2.2.2.2.2.2.1))).bind fun o9 =>
                some o9) = some (l', ()) ∧ Same l l' a b ∧ Srt l' a b := by
          intro s0 r0 q1 q2 q3 q3' q4 q5 q6 q7
          obtain ⟨s, g1, g2, g3, g4, g5⟩ := find3 ho (f77_at 100 d) l a m b ((a + b) / 2) ((a + b) / 2 + m) ((a + b) / 2 + m - 1) s0 r0 hl hb hs ht q4 100 s0 r0 (Nat.le_refl _) q2 (Nat.le_refl _) (by omega) (by omega) (fun q a1 a2 => by omega) (fun q a1 a2 => by omega)
          rw [g1]
          simp only [Option.bind_some]
          rw [show w64 ((((a + b) / 2 + m : Nat) : Int) - (s : Int)) = (((a + b) / 2 + m - s : Nat) : Int) by rw [ws (by omega)]; omega]
          have h5 : a < s → (a + b) / 2 + m - s < b → L (at' l (s - 1)) (at' l ((a + b) / 2 + m - s)) := by
            intro a1 a2
            have := g4 (s - 1) (by have := q6 s g2 a1 a2; omega) (by omega)
            rw [show (a + b) / 2 + m - 1 - (s - 1) = (a + b) / 2 + m - s by omega] at this
            exact this
          have h6 : s < m → m < (a + b) / 2 + m - s → L (at' l ((a + b) / 2 + m - s - 1)) (at' l s) := by
            intro a1 a2
            have := g5 s (Nat.le_refl _) (q7 s g3 a1 a2)
            rw [show (a + b) / 2 + m - 1 - s = (a + b) / 2 + m - s - 1 by omega] at this
            exact L.lt ho this
          by_cases x1 : s < m
          · rw [bt1 (show (s : Int) < (m : Int) by omega)]
            by_cases x2 : m < (a + b) / 2 + m - s
            · rw [bt1 (show (m : Int) < (((a + b) / 2 + m - s : Nat) : Int) by omega)]
              obtain ⟨l1, r1, r2, r3, r4⟩ := rotate l s m ((a + b) / 2 + m - s) hl x1 x2 (by omega)
              rw [r1]
              simp only [Option.bind_some]
              obtain ⟨l', u1, u2⟩ := merge2 ho (f77_at 100 d) d (symMerge ho d) l l1 a m b s hl hb ham hmb hd hs ht (by omega) (by omega) (by omega) (by omega) (by omega) r4 ((r4.same r2 r3 x1 x2).mono (by omega) (by omega)) h5 h6
              rw [u1]; exact ⟨l', rfl, u2⟩
            · rw [bf1 (show ¬ (m : Int) < (((a + b) / 2 + m - s : Nat) : Int) by omega)]
              obtain ⟨l', u1, u2⟩ := merge2 ho (f77_at 100 d) d (symMerge ho d) l l a m b s hl hb ham hmb hd hs ht (by omega) (by omega) (by omega) (by omega) (by omega) (Rot.none (by omega)) (Same.refl _ _ _) h5 h6
              rw [u1]; exact ⟨l', rfl, u2⟩
          · rw [bf1 (show ¬ (s : Int) < (m : Int) by omega)]
            obtain ⟨l', u1, u2⟩ := merge2 ho (f77_at 100 d) d (symMerge ho d) l l a m b s hl hb ham hmb hd hs ht (by omega) (by omega) (by omega) (by omega) (by omega) (Rot.none (by omega)) (Same.refl _ _ _) h5 h6
            rw [u1]; exact ⟨l', rfl, u2⟩
        by_cases c3 : (a + b) / 2 < m
        · rw [bt1 (show (m : Int) > (((a + b) / 2 : Nat) : Int) by omega)]
          rw [show w64 ((((a + b) / 2 + m : Nat) : Int) - (b : Int)) = (((a + b) / 2 + m - b : Nat) : Int) by rw [ws (by omega)]; omega]
          exact fin ((a + b) / 2 + m - b) ((a + b) / 2) (by omega) (by omega) (by omega) (by omega) (fun c a1 a2 => by omega) (by omega) (fun s a1 a2 a3 => by omega) (fun s a1 a2 a3 => by omega)
        · rw [bf1 (show ¬ (m : Int) > (((a + b) / 2 : Nat) : Int) by omega)]
          exact fin a m (by omega) (by omega) (by omega) (by omega) (fun c a1 a2 => by omega) (by omega) (fun s a1 a2 a3 => by omega) (fun s a1 a2 a3 => by omega)
end Go.Proofs.Ytfalgaldkadgoaa.G
