/- The moves of a position: they come to an end, and are moves. -/
import Derived.Test.YtgglflagbbfalaaTBase
namespace Go.Proofs.Ytgglflagbbfalaa.G
open Go.VM Go.Proofs

/-- The hand of the player to move. -/
def hnd (p : PO) : List Int := bif p.2.2.1 == 0 then p.2.1.1 else p.2.1.2.1
/-- Whose piece is in a cell, and of which type. -/
def ownr (c : Int) : Int := if c = 0 then -1 else (c - 1) % 2
def knd (c : Int) : Int := (c - 1) / 2
def MvOK (r : RU) (p : PO) (m : MV) : Prop := 0 ≤ m.2.1 ∧ m.2.1 < p.1.length ∧ 0 ≤ m.2.2.1 ∧ m.2.2.1 < r.2.2.2.1.length ∧ ((m.1 = -1 ∧ 0 < rd 0 (hnd p) m.2.2.1 ∧ rd 0 p.1 m.2.1 = 0) ∨
  (0 ≤ m.1 ∧ m.1 < p.1.length ∧ 1 ≤ rd 0 p.1 m.1 ∧ ownr (rd 0 p.1 m.1) = p.2.2.1 ∧ (rd 0 p.1 m.2.1 = 0 ∨ ownr (rd 0 p.1 m.2.1) = 1 - p.2.2.1) ∧ (m.2.2.1 = knd (rd 0 p.1 m.1) ∨ m.2.2.1 + 1 = (rd P0 r.2.2.2.1 (knd (rd 0 p.1 m.1))).2.2.1)))
theorem own_eq (c : Int) : f54 9000 c = some (bif c == 0 then -1 else (w64 (c - 1)).tmod 2, ()) := by
  unfold f54
  cases c == 0 <;> rfl
theorem kind_eq (c : Int) (n : Nat) (h1 : 1 ≤ c) (h2 : c ≤ 2 * (n : Int)) (hn : n ≤ 9000) : ∃ k, f49 9000 c = some (k, ()) ∧ 0 ≤ k ∧ k < n := by
  refine ⟨_, rfl, ?_⟩
  rw [ws (n := c - 1) (by omega), Int.tdiv_eq_ediv_of_nonneg (by omega), ws (by omega)]
  omega
theorem kind_eq' (c : Int) (n : Nat) (h1 : 1 ≤ c) (h2 : c ≤ 2 * (n : Int)) (hn : n ≤ 9000) : f49 9000 c = some (knd c, ()) ∧ 0 ≤ knd c ∧ knd c < n := by
  refine ⟨?_, by unfold knd; omega, by unfold knd; omega⟩
  unfold f49 knd
  rw [ws (n := c - 1) (by omega), Int.tdiv_eq_ediv_of_nonneg (by omega), ws (by omega)]
theorem own_eq' (c : Int) (h1 : 0 ≤ c ∧ c ≤ 9000) : (bif c == 0 then (-1 : Int) else (w64 (c - 1)).tmod 2) = ownr c := by
  unfold ownr
  by_cases h : c = 0
  · rw [be1 h, if_pos h]
  · rw [bn1 h, if_neg h, ws (by omega), Int.tmod_eq_emod_of_nonneg (by omega)]
theorem far_tot {r : RU} (hr : ROK r) (a b : Int) : ∃ z, f52 9000 r a b = some (z, ()) := by
  have := hr.w1
  unfold f52
  cases a == 0
  · simp only [cond_false]
    rw [bf1 (show ¬ r.2.1 = 0 by omega)]
    exact ⟨_, rfl⟩
  · simp only [cond_true]
    rw [bf1 (show ¬ r.2.1 = 0 by omega)]
    exact ⟨_, rfl⟩
theorem arr_tot {r : RU} (hr : ROK r) (t k to : Int) (h1 : 0 ≤ k) (h2 : k < r.2.2.2.1.length) : ∃ z, f63 9000 r t k to = some (z, ()) ∧ 0 ≤ z ∧ z < r.2.2.2.1.length ∧ (z = k ∨ z + 1 = (rd P0 r.2.2.2.1 k).2.2.1) := by
  unfold f63
  rw [bt2 ⟨h1, h2⟩]
  obtain ⟨m, rfl⟩ := Int.eq_ofNat_of_zero_le h1
  have hp := hr.pcs m (by omega)
  obtain ⟨_, _, _, _, g1, g2, _, _⟩ := hp
  have hn := hr.n6
  have g1' : 0 ≤ (rd ((0, 0, 0, [], ()) : PC) r.2.2.2.1 (m : Int)).2.2.1 := g1
  have g2' : (rd ((0, 0, 0, [], ()) : PC) r.2.2.2.1 (m : Int)).2.2.1 ≤ (r.2.2.2.1.length : Int) := g2
  cases hd : decide ((rd ((0, 0, 0, [], ()) : PC) r.2.2.2.1 (m : Int)).2.2.1 > 0)
  · exact ⟨_, rfl, h1, h2, .inl rfl⟩
  · have hd := of_decide_eq_true hd
    simp only [cond_true]
    obtain ⟨z, hz⟩ := far_tot hr t to
    rw [hz]
    simp only [Option.bind_some]
    cases z
    · exact ⟨_, rfl, h1, h2, .inl rfl⟩
    · refine ⟨_, rfl, ?_⟩
      rw [ws (by omega)]
      refine ⟨by omega, by omega, .inr ?_⟩
      show _ = (rd ((0, 0, 0, [], ()) : PC) r.2.2.2.1 (m : Int)).2.2.1
      omega
theorem idx_ok {x y w h : Int} (hx : 0 ≤ x ∧ x < w) (hy : 0 ≤ y ∧ y < h) : 0 ≤ y * w ∧ y * w + x < w * h := by
  have h1 : 0 ≤ y * w := Int.mul_nonneg hy.1 (by omega)
  have h2 : y * w ≤ (h - 1) * w := Int.mul_le_mul_of_nonneg_right (by omega) (by omega)
  rw [Int.sub_mul, Int.one_mul, Int.mul_comm h w] at h2
  omega

section
variable {r : RU} {p : PO}
/-- A round's end, of the moves by a way. -/
def AL (r : RU) (p : PO) (out : List MV) (i : Nat) (v : Option ((List MV × Unit) ⊕ (List MV × Unit × Unit))) : Prop :=
  ∃ o', (v = some (.inl (o', ())) ∨ v = some (.inr (o', (), ()))) ∧ o'.length + i ≤ out.length + 7 ∧ ∀ m ∈ o', m ∈ out ∨ MvOK r p m
theorem AL.bif {out : List MV} {i : Nat} {b : Bool} {x y : Option ((List MV × Unit) ⊕ (List MV × Unit × Unit))} (h1 : b = true → AL r p out i x) (h2 : b = false → AL r p out i y) : AL r p out i (bif b then x else y) := by
  cases b
  · exact h2 rfl
  · exact h1 rfl
theorem AL.stop {out : List MV} {i : Nat} (h : i ≤ 7) : AL r p out i (some (.inr (out, (), ()))) := ⟨out, .inr rfl, by omega, fun m hm => .inl hm⟩
theorem along_l (hp : POK r p) (fr : Int) (hf : 0 ≤ fr ∧ fr < p.1.length) (w : WY) (hw : WOK w) (hfo : 1 ≤ rd 0 p.1 fr ∧ ownr (rd 0 p.1 fr) = p.2.2.1) (kd : Int) (hkd : kd = knd (rd 0 p.1 fr)) (hk : 0 ≤ kd ∧ kd < r.2.2.2.1.length) (dy : Int) (hdy : -7 ≤ dy ∧ dy ≤ 7) : ∀ (j i : Nat) (out : List MV) (x y : Int), i ≤ 7 → 8 ≤ i + j → out.length + 7 ≤ 8500 + i → 0 ≤ x ∧ x < r.2.1 → 0 ≤ y ∧ y < r.2.2.1 →
    AL r p out i (l55_7 9000 j out fr r p w kd dy x y w.2.2.1 i)
  | 0, i, out, x, y, h, h', _, _, _ => by omega
  | j + 1, i, out, x, y, h, h', ho, hx, hy => by
    have hr := hp.ru
    have w8 := hr.w8
    have h8 := hr.h8
    have hlen := hp.len
    have hsq := hr.sq
    obtain ⟨a1, a2, a3, a4, a5, a6, a7, a8⟩ := hw
    rw [l55_7, ws (n := x + w.1) (by omega), ws (n := y + dy) (by omega), ws (n := (i : Int) + 1) (by omega)]
    refine AL.bif (fun hi => ?_) (fun _ => ⟨out, .inl rfl, by omega, fun m hm => .inl hm⟩)
    have hi : (i : Int) < w.2.2.1 := of_decide_eq_true hi
    refine AL.bif (fun _ => AL.stop h) fun c1 => AL.bif (fun _ => AL.stop h) fun c2 => AL.bif (fun _ => AL.stop h) fun c3 => AL.bif (fun _ => AL.stop h) fun c4 => ?_
    have c1 := dF c1
    have c2 := dF c2
    have c3 := dF c3
    have c4 := dF c4
    have hix := idx_ok (x := x + w.1) (y := y + dy) (w := r.2.1) (h := r.2.2.1) ⟨by omega, by omega⟩ ⟨by omega, by omega⟩
    rw [ws (n := (y + dy) * r.2.1) (by omega), ws (n := (y + dy) * r.2.1 + (x + w.1)) (by omega), bt2 ⟨by omega, by omega⟩, own_eq]
    generalize hto : (y + dy) * r.2.1 + (x + w.1) = to at *
    simp only [Option.bind_some]
    have hcto := hp.cells to.toNat (by omega)
    rw [Int.toNat_of_nonneg (by omega)] at hcto
    have hn6 := hr.n6
    rw [own_eq' (rd 0 p.1 to) ⟨hcto.1, by omega⟩]
    have hof : ∀ q : Prop, (q ↔ (ownr (rd 0 p.1 to) < 0 ∨ ownr (rd 0 p.1 to) = w64 (1 - p.2.2.1))) → q → (rd 0 p.1 to = 0 ∨ ownr (rd 0 p.1 to) = 1 - p.2.2.1) := by
      intro q hq h
      rcases hq.1 h with h | h
      · left
        unfold ownr at h
        split at h
        · assumption
        · omega
      · right
        have := hp.turn
        rw [h, ws (by omega)]
    have hof := hof _ Iff.rfl
    generalize hoe : ownr (rd 0 p.1 to) = o at *
    have e : ((i : Int) + 1) = ((i + 1 : Nat) : Int) := by omega
    rw [e]
    have hplain : AL r p out i (bif decide (o ≥ 0) then some (.inr (out, (), ())) else l55_7 9000 j out fr r p w kd dy (x + w.1) (y + dy) w.2.2.1 ((i + 1 : Nat) : Int)) := by
      refine AL.bif (fun _ => AL.stop h) fun _ => ?_
      obtain ⟨o', g1, g2, g3⟩ := along_l hp fr hf w ⟨a1, a2, a3, a4, a5, a6, a7, a8⟩ hfo kd hkd hk dy hdy j (i + 1) out (x + w.1) (y + dy) (by omega) (by omega) (by omega) ⟨by omega, by omega⟩ ⟨by omega, by omega⟩
      exact ⟨o', g1, by omega, g3⟩
    have hadd : (o < 0 ∨ o = w64 (1 - p.2.2.1)) → AL r p out i ((f63 9000 r p.2.2.1 kd to).bind fun r2 => bif decide ((out.length + ([(fr, to, r2)] : List MV).length) * 24 ≤ roomN) then bif decide (o ≥ 0) then some (.inr (out ++ [(fr, to, r2)], (), ())) else l55_7 9000 j (out ++ [(fr, to, r2)]) fr r p w kd dy (x + w.1) (y + dy) w.2.2.1 ((i + 1 : Nat) : Int) else none) := by
      intro hoo
      obtain ⟨z, hz, z1, z2, z3⟩ := arr_tot hr p.2.2.1 kd to hk.1 hk.2
      rw [hz]
      simp only [Option.bind_some]
      rw [bt1 (by simp; unfold roomN; omega)]
      have hm : MvOK r p (fr, to, z, ()) := ⟨by show 0 ≤ to; omega, by show to < _; omega, z1, z2, .inr ⟨hf.1, hf.2, hfo.1, hfo.2, (by show rd 0 p.1 to = 0 ∨ ownr (rd 0 p.1 to) = _; rw [hoe]; exact hof hoo), by rw [← hkd]; exact z3⟩⟩
      refine AL.bif (fun _ => ⟨out ++ [(fr, to, z, ())], .inr rfl, by simp; omega, fun m h' => ?_⟩) fun _ => ?_
      · rcases List.mem_append.1 h' with h' | h'
        · exact .inl h'
        · simp at h'; subst h'; exact .inr hm
      · obtain ⟨o', g1, g2, g3⟩ := along_l hp fr hf w ⟨a1, a2, a3, a4, a5, a6, a7, a8⟩ hfo kd hkd hk dy hdy j (i + 1) (out ++ [(fr, to, z, ())]) (x + w.1) (y + dy) (by omega) (by omega) (by simp; omega) ⟨by omega, by omega⟩ ⟨by omega, by omega⟩
        refine ⟨o', g1, by simp at g2; omega, fun m h' => ?_⟩
        rcases g3 m h' with h' | h'
        · rcases List.mem_append.1 h' with h' | h'
          · exact .inl h'
          · simp at h'; subst h'; exact .inr hm
        · exact .inr h'
    exact AL.bif (fun q => AL.bif (fun _ => hadd (.inl (of_decide_eq_true q))) fun _ => AL.bif (fun q => AL.bif (fun _ => hadd (.inr (eq_of_beq q))) fun _ => hplain) fun _ => hplain) fun _ => AL.bif (fun q => AL.bif (fun _ => hadd (.inr (eq_of_beq q))) fun _ => hplain) fun _ => hplain
/-- More moves, all of them moves. -/
def More (r : RU) (p : PO) (out o' : List MV) (n : Nat) : Prop := o'.length ≤ out.length + n ∧ ∀ m ∈ o', m ∈ out ∨ MvOK r p m
theorem More.refl {out : List MV} {n : Nat} : More r p out out n := ⟨by omega, fun m h => .inl h⟩
theorem More.trans {a b c : List MV} {n m k : Nat} (h1 : More r p a b n) (h2 : More r p b c m) (h : n + m ≤ k) : More r p a c k :=
  ⟨by have := h1.1; have := h2.1; omega, fun x hx => (h2.2 x hx).elim (fun h => h1.2 x h) .inr⟩
theorem along_tot (hp : POK r p) (fr : Nat) (hf : fr < p.1.length) (hc : 1 ≤ rd 0 p.1 (fr : Int)) (hco : ownr (rd 0 p.1 (fr : Int)) = p.2.2.1) (w : WY) (hw : WOK w) (out : List MV) (ho : out.length + 7 ≤ 8500) : ∃ o', f55 9000 out r p fr w = some (o', ()) ∧ More r p out o' 7 := by
  have hr := hp.ru
  have hw1 := hr.w1
  have hlen := hp.len
  have hsq := hr.sq
  have hn6 := hr.n6
  unfold f55
  rw [bt2 ⟨by omega, by omega⟩]
  obtain ⟨hkd, k1, k2⟩ := kind_eq' (rd 0 p.1 (fr : Int)) r.2.2.2.1.length hc (hp.cells fr hf).2 (by omega)
  rw [hkd]
  simp only [Option.bind_some]
  generalize hkk : knd (rd 0 p.1 (fr : Int)) = kd at *
  have hy0 : 0 ≤ (fr : Int) / r.2.1 := Int.ediv_nonneg (by omega) (by omega)
  have hy1 : (fr : Int) / r.2.1 < r.2.2.1 := Int.ediv_lt_of_lt_mul (by omega) (by rw [Int.mul_comm]; omega)
  have hx0 : 0 ≤ (fr : Int) % r.2.1 := Int.emod_nonneg _ (by omega)
  have hx1 : (fr : Int) % r.2.1 < r.2.1 := Int.emod_lt_of_pos _ (by omega)
  have h8 := hr.h8
  rw [Int.tmod_eq_emod_of_nonneg (by omega), Int.tdiv_eq_ediv_of_nonneg (by omega), ws (n := (fr : Int) / r.2.1) (by omega)]
  have hb : ∀ dy, -7 ≤ dy ∧ dy ≤ 7 → ∃ o', ((l55_7 9000 9000 out fr r p w kd dy ((fr : Int) % r.2.1) ((fr : Int) / r.2.1) w.2.2.1 0).bind fun w2 => Sum.elim (fun y2 => some y2) (fun y3 => some (y3.1, ())) w2) = some (o', ()) ∧ More r p out o' 7 := by
    intro dy hdy
    obtain ⟨o', g1, g2, g3⟩ := along_l hp fr ⟨by omega, by omega⟩ w hw ⟨hc, hco⟩ kd hkk.symm ⟨k1, k2⟩ dy hdy 9000 0 out _ _ (by omega) (by omega) (by omega) ⟨hx0, hx1⟩ ⟨hy0, hy1⟩
    rw [show ((0 : Nat) : Int) = 0 from rfl] at g1
    refine ⟨o', ?_, by omega, g3⟩
    rcases g1 with g1 | g1 <;> rw [g1] <;> rfl
  obtain ⟨a1, a2, a3, a4, a5, a6, a7, a8⟩ := hw
  rw [ws (n := 0 - w.2.1) (by omega)]
  cases p.2.2.1 == 1
  · simp only [cond_false]
    rw [bf1 (show ¬ r.2.1 = 0 by omega), bf1 (show ¬ r.2.1 = 0 by omega)]
    exact hb _ ⟨by omega, by omega⟩
  · simp only [cond_true]
    rw [bf1 (show ¬ r.2.1 = 0 by omega), bf1 (show ¬ r.2.1 = 0 by omega)]
    exact hb _ ⟨by omega, by omega⟩
end
end Go.Proofs.Ytgglflagbbfalaa.G
