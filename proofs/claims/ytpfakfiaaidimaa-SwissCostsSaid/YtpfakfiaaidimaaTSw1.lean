/- Swiss pairings: how often players have met; what is passed is bounded. -/
import Derived.Test.YtpfakfiaaidimaaGSwCosts
namespace Go.Proofs.Ytpfakfiaaidimaa.G
open Go.VM Go.Proofs

theorem ws {n : Int} (h : -9223372036854775808 ≤ n ∧ n ≤ 9223372036854775807) : w64 n = n := by
  unfold w64; rw [IntKind.wrap_i64]; omega
theorem bt2 {α : Type} {p q : Prop} [Decidable p] [Decidable q] {A B : α} (h : p ∧ q) : (bif decide p && decide q then A else B) = A := by
  rw [decide_eq_true h.1, decide_eq_true h.2]; rfl
theorem bt1 {α : Type} {p : Prop} [Decidable p] {A B : α} (h : p) : (bif decide p then A else B) = A := by
  rw [decide_eq_true h]; rfl
theorem bf1 {α : Type} {p : Prop} [Decidable p] {A B : α} (h : ¬ p) : (bif decide p then A else B) = B := by
  rw [decide_eq_false h]; rfl
theorem be1 {α : Type} {a b : Int} {A B : α} (h : a = b) : (bif a == b then A else B) = A := by rw [h, beq_self_eq_true]; rfl
theorem bn1 {α : Type} {a b : Int} {A B : α} (h : a ≠ b) : (bif a == b then A else B) = B := by rw [show (a == b) = false by simpa using h]; rfl
theorem bne1 {α : Type} {a b : Int} {A B : α} (h : a ≠ b) : (bif a != b then A else B) = A := by rw [show (a != b) = true by simpa using h]; rfl
theorem beq1 {α : Type} {a b : Int} {A B : α} (h : a = b) : (bif a != b then A else B) = B := by rw [show (a != b) = false by simp [h]]; rfl
/-- An answer; nought says that such is the case. -/
def Ans (R : Prop) (v : Option (Int × Unit)) : Prop := ∃ e, v = some (e, ()) ∧ (e = 0 → R)
theorem Ans.bif {R : Prop} {b : Bool} {x y : Option (Int × Unit)} (h1 : b = true → Ans R x) (h2 : b = false → Ans R y) : Ans R (bif b then x else y) := by
  cases b
  · exact h2 rfl
  · exact h1 rfl
theorem Ans.bad {R : Prop} {e : Int} (h : e ≠ 0) : Ans R (some (e, ())) := ⟨e, rfl, fun h' => absurd h' h⟩
/-- A loop's end: through, and such is the case; or an error. -/
def Lp {α : Type} (x : α) (R : Prop) (v : Option (α ⊕ (Int × Unit))) : Prop := (v = some (.inl x) ∧ R) ∨ ∃ e, v = some (.inr (e, ())) ∧ e ≠ 0
theorem Lp.bif {α : Type} {z : α} {R : Prop} {b : Bool} {x y : Option (α ⊕ (Int × Unit))} (h1 : b = true → Lp z R x) (h2 : b = false → Lp z R y) : Lp z R (bif b then x else y) := by
  cases b
  · exact h2 rfl
  · exact h1 rfl
theorem Lp.bad {α : Type} {z : α} {R : Prop} {e : Int} (h : e ≠ 0) : Lp z R (some (.inr (e, ()))) := .inr ⟨e, rfl, h⟩
theorem Lp.mono {α : Type} {z : α} {R R' : Prop} {v : Option (α ⊕ (Int × Unit))} (h : Lp z R v) (f : R → R') : Lp z R' v := h.imp (fun h => ⟨h.1, f h.2⟩) id
theorem dF {p : Prop} [Decidable p] (h : decide p = false) : ¬ p := of_decide_eq_false h
theorem all_step {P : Nat → Prop} {i n : Nat} (h : P i) (h2 : ∀ m, i + 1 ≤ m → m < n → P m) : ∀ m, i ≤ m → m < n → P m := fun m hm hm' => by
  by_cases e : m = i
  · subst e; exact h
  · exact h2 m (by omega) hm'
theorem w1 {i n : Nat} (h : i < n) (hn : n ≤ 1000) : w64 ((i : Int) + 1) = ((i + 1 : Nat) : Int) := by rw [ws (by omega)]; omega

abbrev PL := Int × List Int × Int × Bool × Unit
abbrev D0 : PL := (0, [], 0, false, ())
/-- Whom a player has met. -/
noncomputable def opp (l : List PL) (i : Int) : List Int := (rd D0 l i).2.1
theorem rd_mem {α : Type} (d : α) (l : List α) (i : Nat) (h : i < l.length) : rd d l (i : Int) ∈ l := by
  have : rd d l (i : Int) = l[i] := by simp [rd, List.getD_eq_getElem?_getD, List.getElem?_eq_getElem h]
  rw [this]; exact List.getElem_mem h
theorem mem_rd {α : Type} (d : α) {l : List α} {x : α} (h : x ∈ l) : ∃ i, i < l.length ∧ rd d l ((i : Nat) : Int) = x := by
  obtain ⟨i, hi, e⟩ := List.getElem_of_mem h
  exact ⟨i, hi, by simp [rd, List.getD_eq_getElem?_getD, List.getElem?_eq_getElem hi, e]⟩
theorem drop_rd {α : Type} (d : α) (l : List α) (i : Nat) (h : i < l.length) : l.drop i = rd d l (i : Int) :: l.drop (i + 1) := by
  have : rd d l (i : Int) = l[i] := by simp [rd, List.getD_eq_getElem?_getD, List.getElem?_eq_getElem h]
  rw [this]; exact List.drop_eq_getElem_cons h
theorem times3 (k : Nat) (x : Int) (os : List Int) (hl : os.length ≤ 20) : ∀ (j i c : Nat), i ≤ os.length → os.length < i + j → c ≤ i → l20_3 k j x c os os.length i = some (((c + (os.drop i).count x : Nat) : Int), ())
  | 0, i, c, h, h', _ => by omega
  | j + 1, i, c, h, h', hc => by
    rw [l20_3]
    by_cases hi : i < os.length
    · rw [bt1 (show (i : Int) < (os.length : Int) by omega), bt2 ⟨by omega, by omega⟩, w1 (n := os.length) hi (by omega), drop_rd 0 os i hi, List.count_cons]
      by_cases e : rd (0 : Int) os i = x
      · rw [be1 e, w1 (n := 21) (i := c) (by omega) (by omega), times3 k x os hl j (i + 1) (c + 1) (by omega) (by omega) (by omega), if_pos (by simpa using e)]
        congr 3; omega
      · rw [bn1 e, times3 k x os hl j (i + 1) c (by omega) (by omega) (by omega), if_neg (by simpa using e)]
        rfl
    · rw [bf1 (show ¬ (i : Int) < (os.length : Int) by omega), show i = os.length by omega, List.drop_length]
      rfl
theorem times_eq (l : List PL) (i : Nat) (hi : i < l.length) (x : Int) (hl : (opp l i).length ≤ 20) : f20 9000 l i x = some (((opp l i).count x : Int), ()) := by
  unfold f20
  rw [bt2 ⟨by omega, by omega⟩]
  have := times3 9000 x (opp l i) hl 9000 0 0 (by omega) (by omega) (by omega)
  rw [List.drop_zero, Nat.zero_add] at this
  unfold opp at this ⊢
  rw [show ((0 : Nat) : Int) = 0 from rfl] at this
  rw [this]
  rfl
/-- A player's numbers are in their bounds. -/
def PlOK (l : List PL) (m : Nat) : Prop := (0 ≤ (rd D0 l m).1 ∧ (rd D0 l m).1 ≤ 40) ∧ (-20 ≤ (rd D0 l m).2.2.1 ∧ (rd D0 l m).2.2.1 ≤ 20) ∧ (opp l m).length ≤ 20 ∧ ∀ k, k < (opp l m).length → 0 ≤ rd (0 : Int) (opp l m) (k : Nat) ∧ rd (0 : Int) (opp l m) (k : Nat) < l.length ∧ rd (0 : Int) (opp l m) (k : Nat) ≠ m
theorem chk11 (k : Nat) (l : List PL) (p s18 s19 : Int) (s17 : List PL) (os : List Int) (hl : os.length ≤ 20) : ∀ (j i : Nat), i ≤ os.length → os.length < i + j →
    Lp (l, s17, s18, s19, ()) (∀ m, i ≤ m → m < os.length → 0 ≤ rd (0 : Int) os (m : Nat) ∧ rd (0 : Int) os (m : Nat) < l.length ∧ rd (0 : Int) os (m : Nat) ≠ p) (l14_11 k j l p s17 s18 s19 os os.length i)
  | 0, i, h, h' => by omega
  | j + 1, i, h, h' => by
    rw [l14_11]
    refine Lp.bif (fun hb => ?_) (fun hb => .inl ⟨rfl, fun m h1 h2 => by have := dF hb; omega⟩)
    have hi := of_decide_eq_true hb
    rw [bt2 ⟨by omega, hi⟩]
    refine Lp.bif (fun _ => Lp.bad (by decide)) (fun c1 => ?_)
    refine Lp.bif (fun _ => Lp.bad (by decide)) (fun c2 => ?_)
    refine Lp.bif (fun _ => Lp.bad (by decide)) (fun c3 => ?_)
    rw [w1 (n := os.length) (by omega) (by omega)]
    exact (chk11 k l p s18 s19 s17 os hl j (i + 1) (by omega) (by omega)).mono (all_step ⟨by have := dF c1; omega, by have := dF c2; omega, by simpa using c3⟩)
theorem chk4 (k : Nat) (l : List PL) (hn : l.length ≤ 8) (hk : 30 ≤ k) : ∀ (j i : Nat), i ≤ l.length → l.length < i + j → Lp (l, ()) (∀ m, i ≤ m → m < l.length → PlOK l m) (l14_4 k j l l l.length i)
  | 0, i, h, h' => by omega
  | j + 1, i, h, h' => by
    rw [l14_4]
    refine Lp.bif (fun hb => ?_) (fun hb => .inl ⟨rfl, fun m h1 h2 => by have := dF hb; omega⟩)
    have hi := of_decide_eq_true hb
    rw [bt2 ⟨by omega, hi⟩]
    refine Lp.bif (fun _ => Lp.bad (by decide)) (fun c1 => ?_)
    refine Lp.bif (fun _ => Lp.bad (by decide)) (fun c2 => ?_)
    refine Lp.bif (fun _ => Lp.bad (by decide)) (fun c3 => ?_)
    refine Lp.bif (fun _ => Lp.bad (by decide)) (fun c4 => ?_)
    refine Lp.bif (fun _ => Lp.bad (by decide)) (fun c5 => ?_)
    have c1 : ¬ (rd D0 l (i : Int)).1 < 0 := dF c1; have c2 : ¬ (rd D0 l (i : Int)).1 > 40 := dF c2; have c3 : ¬ (rd D0 l (i : Int)).2.2.1 < -20 := dF c3; have c4 : ¬ (rd D0 l (i : Int)).2.2.1 > 20 := dF c4
    have c5 : ¬ ((rd D0 l (i : Int)).2.1.length : Int) > 20 := dF c5
    have hos : (opp l i).length ≤ 20 := by unfold opp; omega
    rcases chk11 k l i l.length i l (opp l i) hos k 0 (by omega) (by omega) with ⟨e, hr⟩ | ⟨e, h1, h2⟩
    · rw [show ((0 : Nat) : Int) = 0 from rfl] at e
      unfold opp at e
      rw [e]
      show Lp _ _ (l14_4 k j l l l.length (w64 (i + 1)))
      rw [w1 (n := l.length) (by omega) (by omega)]
      exact (chk4 k l hn hk j (i + 1) (by omega) (by omega)).mono (all_step ⟨⟨by omega, by omega⟩, ⟨by omega, by omega⟩, hos, fun q hq => hr q (Nat.zero_le _) hq⟩)
    · rw [show ((0 : Nat) : Int) = 0 from rfl] at h1
      unfold opp at h1
      rw [h1]
      exact Lp.bad h2
theorem chk21 (k : Nat) (l : List PL) (hn : l.length ≤ 8) (hp : ∀ m, m < l.length → PlOK l m) (a : Nat) (ha : a < l.length) (s69 s70 : Int) : ∀ (j i : Nat), i ≤ a → a < i + j →
    Lp (l, s69, s70, ()) (∀ m, i ≤ m → m < a → (opp l a).count (m : Int) = (opp l m).count (a : Int)) (l14_21 9000 j l a s69 s70 a i)
  | 0, i, h, h' => by omega
  | j + 1, i, h, h' => by
    rw [l14_21]
    refine Lp.bif (fun hb => ?_) (fun hb => .inl ⟨rfl, fun m h1 h2 => by have := dF hb; omega⟩)
    have hi : i < a := by have := of_decide_eq_true hb; omega
    rw [times_eq l a ha i (hp a ha).2.2.1, times_eq l i (by omega) a (hp i (by omega)).2.2.1]
    simp only [Option.bind_some]
    by_cases e : (opp l a).count (i : Int) = (opp l i).count (a : Int)
    · rw [beq1 (by omega)]
      refine Lp.bif (fun _ => Lp.bad (by decide)) (fun c1 => ?_)
      rw [w1 (n := l.length) (by omega) (by omega)]
      exact (chk21 k l hn hp a ha s69 s70 j (i + 1) (by omega) (by omega)).mono (all_step e)
    · rw [bne1 (by omega)]
      exact Lp.bad (by decide)
theorem chk18 (l : List PL) (hn : l.length ≤ 8) (hp : ∀ m, m < l.length → PlOK l m) : ∀ (j i : Nat), i ≤ l.length → l.length < i + j →
    Lp () (∀ a, i ≤ a → a < l.length → ∀ m, m < a → (opp l a).count (m : Int) = (opp l m).count (a : Int)) (l14_18 9000 j l l.length i)
  | 0, i, h, h' => by omega
  | j + 1, i, h, h' => by
    rw [l14_18]
    refine Lp.bif (fun hb => ?_) (fun hb => .inl ⟨rfl, fun m h1 h2 => by have := dF hb; omega⟩)
    have hi := of_decide_eq_true hb
    rcases chk21 9000 l hn hp i (by omega) l.length i 9000 0 (by omega) (by omega) with ⟨e, hr⟩ | ⟨e, h1, h2⟩
    · rw [show ((0 : Nat) : Int) = 0 from rfl] at e
      rw [e]
      show Lp _ _ (l14_18 9000 j l l.length (w64 (i + 1)))
      rw [w1 (n := l.length) (by omega) (by omega)]
      exact (chk18 l hn hp j (i + 1) (by omega) (by omega)).mono (all_step (fun m hm => hr m (Nat.zero_le _) hm))
    · rw [show ((0 : Nat) : Int) = 0 from rfl] at h1
      rw [h1]
      exact Lp.bad h2
/-- What is known of the players is passed. -/
structure SwOK (l : List PL) : Prop where
  n2 : 2 ≤ l.length
  n8 : l.length ≤ 8
  pl : ∀ m, m < l.length → PlOK l m
  sym : ∀ a, a < l.length → ∀ m, m < a → (opp l a).count (m : Int) = (opp l m).count (a : Int)
theorem check_tot (l : List PL) : Ans (SwOK l) (f14 9000 l) := by
  unfold f14
  refine Ans.bif (fun _ => Ans.bad (by decide)) (fun c1 => ?_)
  refine Ans.bif (fun _ => Ans.bad (by decide)) (fun c2 => ?_)
  have c1 := dF c1; have c2 := dF c2
  rcases chk4 9000 l (by omega) (by omega) 9000 0 (by omega) (by omega) with ⟨e, hr⟩ | ⟨e, h1, h2⟩
  rotate_left
  · rw [show ((0 : Nat) : Int) = 0 from rfl] at h1
    rw [h1]
    exact Ans.bad h2
  rw [show ((0 : Nat) : Int) = 0 from rfl] at e
  rw [e]
  have hp : ∀ m, m < l.length → PlOK l m := fun m hm => hr m (Nat.zero_le _) hm
  show Ans _ ((l14_18 9000 9000 l (l.length : Int) 0).bind _)
  rcases chk18 l (by omega) hp 9000 0 (by omega) (by omega) with ⟨e, hs⟩ | ⟨e, h1, h2⟩
  · rw [show ((0 : Nat) : Int) = 0 from rfl] at e
    rw [e]
    exact ⟨0, rfl, fun _ => ⟨by omega, by omega, hp, fun a ha m hm => hs a (Nat.zero_le _) ha m hm⟩⟩
  · rw [show ((0 : Nat) : Int) = 0 from rfl] at h1
    rw [h1]
    exact Ans.bad h2
/-- Two players have met. -/
def met (l : List PL) (i j : Nat) : Prop := (j : Int) ∈ opp l i
theorem SwOK.met {l : List PL} (h : SwOK l) {i j : Nat} (hi : i < l.length) (hj : j < l.length) : met l i j ↔ met l j i := by
  unfold G.met
  by_cases e : i = j
  · subst e; exact Iff.rfl
  rw [← List.count_pos_iff, ← List.count_pos_iff]
  by_cases h1 : i < j
  · rw [h.sym j hj i h1]
  · rw [h.sym i hi j (by omega)]
end Go.Proofs.Ytpfakfiaaidimaa.G
