/- A pattern at a square. -/
import Derived.Test.YtphgopfhobockaaPPattern
namespace Go.Proofs.Ytphgopfhobockaa.G
open Go.VM Go.Proofs

/-- A pattern's cell, seen from a square. -/
def ix (W s w m : Nat) : Nat := s + m / w * W + m % w
theorem ix_lt {W H s w h m : Nat} (hW : 0 < W) (hw : 0 < w) (h1 : s % W + w ≤ W) (h2 : s / W + h ≤ H) (hm : m < w * h) : ix W s w m < W * H := by
  have d := Nat.div_add_mod s W
  have hr := Nat.mod_lt m hw
  have hq : m / w < h := Nat.div_lt_of_lt_mul hm
  have h3 : (s / W + m / w + 1) * W ≤ H * W := Nat.mul_le_mul_right W (by omega)
  rw [Nat.add_mul, Nat.add_mul, Nat.one_mul, Nat.mul_comm H W] at h3
  rw [Nat.mul_comm W (s / W)] at d
  unfold ix
  omega
theorem rd_at0 {x : Int} {p r : List Int} : rd 0 (p ++ x :: r) p.length = x := by unfold rd; simp
theorem rd_pre0 (d : Int) (l t : List Int) (n : Nat) (h : n < l.length) : rd d (l ++ t) n = rd d l n := by
  unfold rd; simp [List.getD_eq_getElem?_getD, List.getElem?_append_left h]

theorem ix_w64 {W s w i n : Nat} (hw : 0 < w) (hn : n ≤ 64) (h : ix W s w i < n) (hs : s ≤ 64) (hi : i ≤ 64) :
    w64 ((w64 ((s : Int) + (w64 ((w64 ((i : Int).tdiv (w : Int))) * (W : Int))))) + ((i : Int).tmod (w : Int))) = ((ix W s w i : Nat) : Int) := by
  have hr := Nat.mod_lt i hw
  have e1 : (i : Int).tdiv (w : Int) = ((i / w : Nat) : Int) := (Int.ofNat_tdiv i w).symm
  have e2 : (i : Int).tmod (w : Int) = ((i % w : Nat) : Int) := (Int.ofNat_tmod i w).symm
  have hq := Nat.div_le_self i w
  have dm : ((i / w : Nat) : Int) * (W : Int) = ((i / w * W : Nat) : Int) := by simp
  unfold ix at *
  rw [e1, e2, wi (n := ((i / w : Nat) : Int)) (by generalize i / w = q at *; omega), dm]
  generalize i / w * W = q at *
  generalize i % w = r at *
  rw [wi (n := (q : Int)) (by omega), wi (n := (s : Int) + (q : Int)) (by omega), wi (by omega)]
  omega

theorem owner_tot (k : Nat) (c : Int) : ∃ o, f64 k c = some (o, ()) := by
  unfold f64
  cases c == 0
  · exact ⟨_, rfl⟩
  · exact ⟨_, rfl⟩
theorem fits_tot (c w : Int) : ∃ b, f88 9000 c w = some (b, ()) := by
  unfold f88
  obtain ⟨o, ho⟩ := owner_tot 9000 c
  rw [ho]
  cases w == (-1)
  · cases w == (-2)
    · cases w == (-3)
      · exact ⟨_, rfl⟩
      · exact ⟨_, rfl⟩
    · exact ⟨_, rfl⟩
  · exact ⟨_, rfl⟩
theorem fits_same (c : Int) (h : 0 ≤ c) : f88 9000 c c = some (true, ()) := by
  unfold f88
  rw [beq_eq_false_iff_ne.2 (show c ≠ -1 by omega), beq_eq_false_iff_ne.2 (show c ≠ -2 by omega), beq_eq_false_iff_ne.2 (show c ≠ -3 by omega), beq_self_eq_true]
  rfl

/-- Such a pattern lies wholly on the board. -/
def Lies (r : RU) (x : XP) (s : Nat) : Prop := s % r.2.1.toNat + x.1.toNat ≤ r.2.1.toNat ∧ s / r.2.1.toNat + x.2.1.toNat ≤ r.2.2.1.toNat
theorem XOK.nat {r : RU} {x : XP} (h : XOK r x) : x.2.2.1.length = x.1.toNat * x.2.1.toNat := by
  have h1 := h.w1
  have h2 := h.h1
  have h3 := h.len
  obtain ⟨a, ha⟩ := Int.eq_ofNat_of_zero_le (show 0 ≤ x.1 by omega)
  obtain ⟨b, hb⟩ := Int.eq_ofNat_of_zero_le (show 0 ≤ x.2.1 by omega)
  rw [ha, hb] at h3
  rw [ha, hb]
  simp only [Int.toNat_natCast]
  exact_mod_cast h3
theorem POK.nat {r : RU} {p : PO} (h : POK r p) : p.1.length = r.2.1.toNat * r.2.2.1.toNat := by
  have h1 := h.ru.w1
  have h2 := h.ru.h1
  have h3 := h.len
  obtain ⟨a, ha⟩ := Int.eq_ofNat_of_zero_le (show 0 ≤ r.2.1 by omega)
  obtain ⟨b, hb⟩ := Int.eq_ofNat_of_zero_le (show 0 ≤ r.2.2.1 by omega)
  rw [ha, hb] at h3
  rw [ha, hb]
  simp only [Int.toNat_natCast]
  exact_mod_cast h3
theorem Lies.lt {r : RU} {x : XP} {p : PO} {s m : Nat} (h : Lies r x s) (hx : XOK r x) (hp : POK r p) (hm : m < x.2.2.1.length) : ix r.2.1.toNat s x.1.toNat m < p.1.length := by
  have := hp.ru.w1
  have := hx.w1
  rw [hp.nat]
  exact ix_lt (by omega) (by omega) h.1 h.2 (by rw [← hx.nat]; exact hm)

theorem at_l (r : RU) (x : XP) (p : PO) (s : Nat) (hx : XOK r x) (hp : POK r p) (hs : s < p.1.length) (hl : Lies r x s) : ∀ (j i : Nat), i ≤ x.2.2.1.length → x.2.2.1.length < i + j →
    (l61_4 9000 j s r x p x.2.2.1 x.2.2.1.length i = some (.inl ()) ∨ l61_4 9000 j s r x p x.2.2.1 x.2.2.1.length i = some (.inr (false, ()))) ∧
    ((∀ m : Nat, i ≤ m → m < x.2.2.1.length → f88 9000 (rd 0 p.1 (ix r.2.1.toNat s x.1.toNat m : Nat)) (rd 0 x.2.2.1 m) = some (true, ())) ↔ l61_4 9000 j s r x p x.2.2.1 x.2.2.1.length i = some (.inl ()))
  | 0, i, h, h' => by omega
  | j + 1, i, h, h' => by
    have h64 := hp.len64
    have x64 := (hx.sq hp.ru).2
    have hxl := hx.len
    have w1 := hx.w1
    have r1 := hp.ru.w1
    rw [l61_4]
    by_cases hi : i < x.2.2.1.length
    · have hlt := hl.lt hx hp hi
      have e3 := ix_w64 (W := r.2.1.toNat) (s := s) (w := x.1.toNat) (i := i) (n := p.1.length) (by omega) h64.2 hlt (by omega) (by omega)
      have c1 : ((x.1.toNat : Nat) : Int) = x.1 := by omega
      have c2 : ((r.2.1.toNat : Nat) : Int) = r.2.1 := by omega
      rw [c1, c2] at e3
      simp only [e3]
      rw [decide_eq_true (show (i : Int) < x.2.2.1.length by omega), decide_eq_false (show ¬ (x.1 = 0) by omega), decide_eq_true (show (0 : Int) ≤ i by omega), decide_eq_true (show (0 : Int) ≤ (ix r.2.1.toNat s x.1.toNat i : Nat) by omega), decide_eq_true (show ((ix r.2.1.toNat s x.1.toNat i : Nat) : Int) < p.1.length by omega), wi (n := (i : Int) + 1) (by omega)]
      simp only [cond_true, cond_false, Bool.and_self]
      obtain ⟨b, hb⟩ := fits_tot (rd 0 p.1 (ix r.2.1.toNat s x.1.toNat i : Nat)) (rd 0 x.2.2.1 i)
      rw [hb]
      simp only [Option.bind_some]
      obtain ⟨ih1, ih2⟩ := at_l r x p s hx hp hs hl j (i + 1) (by omega) (by omega)
      cases b
      · refine ⟨.inr rfl, fun ha => ?_, fun h => by cases h⟩
        rw [ha i (Nat.le_refl _) hi] at hb
        cases hb
      · refine ⟨ih1, fun ha => ih2.1 fun m hm hm' => ha m (by omega) hm', fun h => ?_⟩
        exact all_step hb (ih2.2 h)
    · rw [decide_eq_false (show ¬ (i : Int) < x.2.2.1.length by omega)]
      exact ⟨.inl rfl, fun _ => rfl, fun _ m h1 h2 => by omega⟩

/-- What 'at' says. -/
def AtOK (r : RU) (x : XP) (p : PO) (s : Nat) : Prop := (x.2.2.2.1 ≥ 0 → x.2.2.2.1 = p.2.2.1) ∧ Lies r x s ∧ ∀ m : Nat, m < x.2.2.1.length → f88 9000 (rd 0 p.1 (ix r.2.1.toNat s x.1.toNat m : Nat)) (rd 0 x.2.2.1 m) = some (true, ())
theorem at_spec (r : RU) (x : XP) (p : PO) (s : Nat) (hx : XOK r x) (hp : POK r p) (hs : s < p.1.length) :
    (f61 9000 r x p s = some (true, ()) ∧ AtOK r x p s) ∨ (f61 9000 r x p s = some (false, ()) ∧ ¬ AtOK r x p s) := by
  have h64 := hp.len64
  have w1 := hx.w1
  have r1 := hp.ru.w1
  have w8 := hp.ru.w8
  have v1 := hx.h1
  have g1 := hp.ru.h1
  have g8 := hp.ru.h8
  have hxw := hx.w
  have hxh := hx.h
  have e1 : (s : Int).tdiv r.2.1 = ((s / r.2.1.toNat : Nat) : Int) := by
    have : ((r.2.1.toNat : Nat) : Int) = r.2.1 := by omega
    rw [← this]; exact (Int.ofNat_tdiv s _).symm
  have e2 : (s : Int).tmod r.2.1 = ((s % r.2.1.toNat : Nat) : Int) := by
    have : ((r.2.1.toNat : Nat) : Int) = r.2.1 := by omega
    rw [← this]; exact (Int.ofNat_tmod s _).symm
  have hr := Nat.mod_lt s (show 0 < r.2.1.toNat by omega)
  have hq := Nat.div_le_self s r.2.1.toNat
  have x64 := (hx.sq hp.ru).2
  have hxl := hx.len
  have d0 : decide (r.2.1 = 0) = false := decide_eq_false (by omega)
  have hw1 : w64 (((s % r.2.1.toNat : Nat) : Int) + x.1) = ((s % r.2.1.toNat : Nat) : Int) + x.1 := by
    generalize s % r.2.1.toNat = a at *
    exact wi (by omega)
  have hw2 : w64 ((w64 ((s / r.2.1.toNat : Nat) : Int)) + x.2.1) = ((s / r.2.1.toNat : Nat) : Int) + x.2.1 := by
    generalize s / r.2.1.toNat = a at *
    rw [wi (n := (a : Int)) (by omega), wi (by omega)]
  have rest : ((x.2.2.2.1 ≥ 0 → x.2.2.2.1 = p.2.2.1)) → ((bif decide ((w64 (((s : Int).tmod r.2.1) + x.1)) > r.2.1) then some (false, ()) else bif decide ((w64 ((w64 ((s : Int).tdiv r.2.1)) + x.2.1)) > r.2.2.1) then some (false, ()) else
      (l61_4 9000 9000 s r x p x.2.2.1 (x.2.2.1.length : Int) 0).bind fun w14 => Sum.elim (fun _ => some (true, ())) (fun y4 => some y4) w14) = some (true, ()) ∧ AtOK r x p s) ∨
      ((bif decide ((w64 (((s : Int).tmod r.2.1) + x.1)) > r.2.1) then some (false, ()) else bif decide ((w64 ((w64 ((s : Int).tdiv r.2.1)) + x.2.1)) > r.2.2.1) then some (false, ()) else
      (l61_4 9000 9000 s r x p x.2.2.1 (x.2.2.1.length : Int) 0).bind fun w14 => Sum.elim (fun _ => some (true, ())) (fun y4 => some y4) w14) = some (false, ()) ∧ ¬ AtOK r x p s) := by
    intro ht
    rw [e1, e2, hw1, hw2]
    by_cases b1 : ((s % r.2.1.toNat : Nat) : Int) + x.1 > r.2.1
    · right
      rw [decide_eq_true b1]
      refine ⟨rfl, fun h => ?_⟩
      have := h.2.1.1
      generalize s % r.2.1.toNat = a at *
      omega
    rw [decide_eq_false b1]
    by_cases b2 : ((s / r.2.1.toNat : Nat) : Int) + x.2.1 > r.2.2.1
    · right
      rw [decide_eq_true b2]
      refine ⟨rfl, fun h => ?_⟩
      have := h.2.1.2
      generalize s / r.2.1.toNat = a at *
      omega
    rw [decide_eq_false b2]
    simp only [cond_false]
    have hl : Lies r x s := by
      refine ⟨?_, ?_⟩
      · generalize s % r.2.1.toNat = a at *; omega
      · generalize s / r.2.1.toNat = a at *; omega
    obtain ⟨a1, a2⟩ := at_l r x p s hx hp hs hl 9000 0 (by omega) (by omega)
    rw [show ((0 : Nat) : Int) = 0 from rfl] at a1 a2
    rcases a1 with e | e
    · left
      have := a2.2 e
      rw [e]
      exact ⟨rfl, ht, hl, fun m hm => this m (by omega) hm⟩
    · right
      refine ⟨by rw [e]; rfl, fun h => ?_⟩
      have := a2.1 fun m _ hm => h.2.2 m hm
      rw [e] at this
      cases this
  unfold f61
  by_cases t1 : x.2.2.2.1 ≥ 0
  · rw [decide_eq_true t1]
    simp only [cond_true]
    by_cases t2 : x.2.2.2.1 = p.2.2.1
    · rw [t2, bne_self_eq_false, d0]
      simp only [cond_false]
      exact rest fun _ => t2
    · right
      rw [bne_iff_ne.2 t2]
      exact ⟨rfl, fun h => t2 (h.1 t1)⟩
  · rw [decide_eq_false t1, d0]
    simp only [cond_false]
    exact rest fun h => absurd h t1
end Go.Proofs.Ytphgopfhobockaa.G
