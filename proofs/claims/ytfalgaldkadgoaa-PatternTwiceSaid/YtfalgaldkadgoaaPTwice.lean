/- PatternTwice, as a plain fact. -/
import Derived.Test.YtfalgaldkadgoaaPPattern
namespace Go.Proofs.Ytfalgaldkadgoaa.G
open Go.VM Go.Proofs

/-- Where a cell comes from. -/
def mi (w m : Nat) : Nat := m / w * w + w - 1 - m % w
theorem mi_lt {w h m : Nat} (hw : 0 < w) (hm : m < w * h) : mi w m < w * h := by
  unfold mi
  have h1 : m / w < h := Nat.div_lt_of_lt_mul hm
  have h2 : (m / w + 1) * w ≤ h * w := Nat.mul_le_mul_right w h1
  rw [Nat.add_mul, Nat.one_mul, Nat.mul_comm h w] at h2
  omega
theorem mi_mi {w m : Nat} (hw : 0 < w) : mi w (mi w m) = m := by
  have hr := Nat.mod_lt m hw
  have e : mi w m = m / w * w + (w - 1 - m % w) := by unfold mi; omega
  have e1 : mi w m / w = m / w := by
    rw [e, Nat.add_comm, Nat.add_mul_div_right _ _ hw, Nat.div_eq_of_lt (by omega), Nat.zero_add]
  have e2 : mi w m % w = w - 1 - m % w := by
    rw [e, Nat.add_comm, Nat.add_mul_mod_self_right, Nat.mod_eq_of_lt (by omega)]
  have d := Nat.div_add_mod m w
  rw [Nat.mul_comm] at d
  rw [mi, e1, e2]
  omega

theorem mirror_l (w h : Nat) (cells : List Int) (turn : Int) (s4 : XP) (hw : 0 < w) (hw8 : w ≤ 8) (hl : cells.length = w * h) (hl2 : cells.length ≤ 64) :
    ∀ (j i : Nat) (out : List Int), i ≤ cells.length → cells.length < i + j → out.length = i → (∀ m, m < i → rd 0 out m = rd 0 cells (mi w m : Nat)) →
    ∃ out', l32_6 100 j ((w : Int), (h : Int), cells, turn, ()) s4 ((w : Int), (h : Int), out, turn, ()) cells.length i = some (s4, ((w : Int), (h : Int), out', turn, ()), ()) ∧
      out'.length = cells.length ∧ ∀ m, m < cells.length → rd 0 out' m = rd 0 cells (mi w m : Nat)
  | 0, i, out, h1, h2, _, _ => by omega
  | j + 1, i, out, h1, h2, h3, h4 => by
    rw [l32_6]
    by_cases hi : i < cells.length
    · have hr := Nat.mod_lt i hw
      have hmi := mi_lt hw (show i < w * h by omega)
      have e1 : (i : Int).tdiv (w : Int) = ((i / w : Nat) : Int) := (Int.ofNat_tdiv i w).symm
      have e2 : (i : Int).tmod (w : Int) = ((i % w : Nat) : Int) := (Int.ofNat_tmod i w).symm
      have d := Nat.div_add_mod i w
      rw [Nat.mul_comm] at d
      have dm : ((i / w : Nat) : Int) * (w : Int) = ((i / w * w : Nat) : Int) := by simp
      have e3 : w64 ((w64 ((w64 ((w64 ((w64 ((i : Int).tdiv (w : Int))) * (w : Int))) + (w : Int))) - 1)) - ((i : Int).tmod (w : Int))) = ((mi w i : Nat) : Int) := by
        have hq := Nat.div_le_self i w
        rw [e1, e2, wi (n := ((i / w : Nat) : Int)) (by generalize i / w = q at *; omega), dm]
        generalize i / w * w = q at *
        rw [wi (n := (q : Int)) (by omega), wi (n := (q : Int) + (w : Int)) (by omega), wi (n := (q : Int) + (w : Int) - 1) (by omega), wi (by omega)]
        unfold mi
        omega
      have hm : mi w i = i / w * w + w - 1 - i % w := rfl
      simp only [e3]
      rw [decide_eq_true (show (i : Int) < cells.length by omega), decide_eq_false (show ¬ ((w : Int) = 0) by omega), decide_eq_true (show (0 : Int) ≤ (mi w i : Nat) by omega), decide_eq_true (show ((mi w i : Nat) : Int) < cells.length by omega), wi (n := (i : Int) + 1) (by omega)]
      simp only [cond_true, cond_false, Bool.and_self, List.length_singleton]
      rw [decide_eq_true (show (out.length + 1) * 8 ≤ roomN by unfold roomN; omega)]
      simp only [cond_true]
      refine mirror_l w h cells turn s4 hw hw8 hl hl2 j (i + 1) _ (by omega) (by omega) (by simp; omega) fun m hm => ?_
      by_cases hmi : m = i
      · subst hmi
        rw [← h3, rd_at, h3]
      · rw [rd_pre 0 out _ m (by omega)]
        exact h4 m (by omega)
    · rw [decide_eq_false (show ¬ (i : Int) < cells.length by omega)]
      exact ⟨out, rfl, by omega, fun m hm => h4 m (by omega)⟩
where
  rd_at {x : Int} {p r : List Int} : rd 0 (p ++ x :: r) p.length = x := by unfold rd; simp
  rd_pre (d : Int) (l t : List Int) (n : Nat) (h : n < l.length) : rd d (l ++ t) n = rd d l n := by
    unfold rd; simp [List.getD_eq_getElem?_getD, List.getElem?_append_left h]

theorem mirror_ok {r : RU} {x : XP} (hz : Rz r) (h : XOK r x) : ∃ out : List Int, f32 100 r x = some ((x.1, x.2.1, out, x.2.2.2.1, ()), 0, ()) ∧ out.length = x.2.2.1.length ∧
    (∀ m, m < x.2.2.1.length → rd 0 out m = rd 0 x.2.2.1 (mi x.1.toNat m : Nat)) ∧ XOK r (x.1, x.2.1, out, x.2.2.2.1, ()) := by
  have hr := hz.ok
  have hsq := h.sq hr
  have h0 := pat_ok hz h
  obtain ⟨w, v, cells, turn, ⟨⟩⟩ := x
  obtain ⟨h1, h2, h3, h4, h5, h6, h7⟩ := h
  dsimp only at *
  have w8 := hr.w8
  obtain ⟨wn, rfl⟩ := Int.eq_ofNat_of_zero_le (show 0 ≤ w by omega)
  obtain ⟨vn, rfl⟩ := Int.eq_ofNat_of_zero_le (show 0 ≤ v by omega)
  have hl : cells.length = wn * vn := by exact_mod_cast h5
  obtain ⟨out, e1, e2, e3⟩ := mirror_l wn vn cells turn (0, 0, [], 0, ()) (by omega) (by omega) hl (by omega) 100 0 [] (by omega) (by omega) rfl (fun m hm => by omega)
  rw [show ((0 : Nat) : Int) = 0 from rfl] at e1
  refine ⟨out, ?_, e2, fun m hm => by simpa using e3 m hm, h1, h2, h3, h4, by dsimp only; omega, fun m hm => ?_, h7⟩
  · unfold f32
    simp only [h0, Option.bind_some, show ((0 : Int) != 0) = false from rfl, cond_false, e1]
  · dsimp only at hm ⊢
    rw [e3 m (by omega)]
    exact h6 _ (by have := mi_lt (w := wn) (h := vn) (m := m) (by omega) (by omega); omega)

theorem same_l (x z : XP) (he : z.2.2.1.length = x.2.2.1.length) (hc : ∀ m, m < x.2.2.1.length → rd 0 z.2.2.1 m = rd 0 x.2.2.1 m) (hl : x.2.2.1.length ≤ 64) : ∀ (j i : Nat), i ≤ x.2.2.1.length → x.2.2.1.length < i + j →
    l11_9 100 j x z true x.2.2.1.length i = some (true, ())
  | 0, i, h, h' => by omega
  | j + 1, i, h, h' => by
    rw [l11_9]
    by_cases hi : i < x.2.2.1.length
    · rw [decide_eq_true (show (i : Int) < x.2.2.1.length by omega), decide_eq_true (show (0 : Int) ≤ i by omega), decide_eq_true (show (i : Int) < z.2.2.1.length by omega), hc i hi, beq_self_eq_true, wi (by omega)]
      simp only [cond_true, Bool.and_self]
      exact same_l x z he hc hl j (i + 1) (by omega) (by omega)
    · rw [decide_eq_false (show ¬ (i : Int) < x.2.2.1.length by omega)]
      rfl

theorem twice_pure (r : RU) (x : XP) : f11 100 r x = some (true, ()) := by
  unfold f11
  simp only [patterns_pure, Option.bind_some, Bool.not_true, cond_false]
  obtain ⟨e, he, hx⟩ := pat_tot r x
  by_cases h0 : e = 0
  rotate_left
  · have : f32 100 r x = some ((0, 0, [], 0, ()), e, ()) := by
      unfold f32
      simp only [he, Option.bind_some, bne_t h0, cond_true]
    simp only [this, Option.bind_some, bne_t h0, cond_true]
    rfl
  subst h0
  obtain ⟨hz, hx⟩ := hx rfl
  have hsq := hx.sq hz.ok
  obtain ⟨y, e1, e2, e3, e4⟩ := mirror_ok hz hx
  obtain ⟨z, f1, f2, f3, f4⟩ := mirror_ok hz e4
  have hlen := hx.len
  have w1 := hx.w1
  have h1 := hx.h1
  dsimp only at f1 f2 f3
  have key : ∀ m, m < x.2.2.1.length → rd 0 z m = rd 0 x.2.2.1 m := fun m hm => by
    obtain ⟨wn, hw⟩ := Int.eq_ofNat_of_zero_le (show 0 ≤ x.1 by omega)
    obtain ⟨vn, hv⟩ := Int.eq_ofNat_of_zero_le (show 0 ≤ x.2.1 by omega)
    have hl : x.2.2.1.length = wn * vn := by rw [hw, hv] at hlen; exact_mod_cast hlen
    have ht : x.1.toNat = wn := by omega
    have hmi2 : mi x.1.toNat m < x.2.2.1.length := by
      rw [hl, ht]; exact mi_lt (by omega) (by omega)
    rw [f3 m (by omega), e3 _ hmi2, mi_mi (by omega)]
  simp only [e1, f1, Option.bind_some, show ((0 : Int) != 0) = false from rfl, show ((0 : Int) == 0) = true from rfl, cond_false, cond_true, beq_self_eq_true]
  rw [show ((z.length : Int) == (x.2.2.1.length : Int)) = true by rw [f2, e2]; exact beq_self_eq_true _]
  have sl := same_l x (x.1, x.2.1, z, x.2.2.2.1, ()) (by dsimp only; omega) key (by omega) 100 0 (by omega) (by omega)
  rw [show ((0 : Nat) : Int) = 0 from rfl] at sl
  simp only [cond_true, sl, Option.bind_some]
end Go.Proofs.Ytfalgaldkadgoaa.G
