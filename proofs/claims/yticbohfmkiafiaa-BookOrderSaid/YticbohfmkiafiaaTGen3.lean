import Derived.Test.YticbohfmkiafiaaTBase
namespace Go.Proofs.Yticbohfmkiafiaa.G
open Go.VM Go.Proofs
def hnd (p : PO) : List Int := bif p.2.2.1 == 0 then p.2.1.1 else p.2.1.2.1
def ownr (c : Int) : Int := if c = 0 then -1 else (c - 1) % 2
def knd (c : Int) : Int := (c - 1) / 2
def MvOK (r : RU) (p : PO) (m : MV) : Prop := 0 ≤ m.2.1 ∧ m.2.1 < p.1.length ∧ 0 ≤ m.2.2.1 ∧ m.2.2.1 < r.2.2.2.1.length ∧ ((m.1 = -1 ∧ 0 < rd 0 (hnd p) m.2.2.1 ∧ rd 0 p.1 m.2.1 = 0) ∨
  (0 ≤ m.1 ∧ m.1 < p.1.length ∧ 1 ≤ rd 0 p.1 m.1 ∧ ownr (rd 0 p.1 m.1) = p.2.2.1 ∧ (rd 0 p.1 m.2.1 = 0 ∨ ownr (rd 0 p.1 m.2.1) = 1 - p.2.2.1) ∧ (m.2.2.1 = knd (rd 0 p.1 m.1) ∨ m.2.2.1 + 1 = (rd P0 r.2.2.2.1 (knd (rd 0 p.1 m.1))).2.2.1)))
theorem own_eq (c : Int) : f47 9000 c = some (bif c == 0 then -1 else (w64 (c - 1)).tmod 2, ()) := by
  unfold f47
  cases c == 0 <;> rfl
theorem kind_eq (c : Int) (n : Nat) (h1 : 1 ≤ c) (h2 : c ≤ 2 * (n : Int)) (hn : n ≤ 9000) : ∃ k, f40 9000 c = some (k, ()) ∧ 0 ≤ k ∧ k < n := by
  refine ⟨_, rfl, ?_⟩
  rw [ws (n := c - 1) (by omega), Int.tdiv_eq_ediv_of_nonneg (by omega), ws (by omega)]
  omega
theorem kind_eq' (c : Int) (n : Nat) (h1 : 1 ≤ c) (h2 : c ≤ 2 * (n : Int)) (hn : n ≤ 9000) : f40 9000 c = some (knd c, ()) ∧ 0 ≤ knd c ∧ knd c < n := by
  refine ⟨?_, by unfold knd; omega, by unfold knd; omega⟩
  unfold f40 knd
  rw [ws (n := c - 1) (by omega), Int.tdiv_eq_ediv_of_nonneg (by omega), ws (by omega)]
theorem own_eq' (c : Int) (h1 : 0 ≤ c ∧ c ≤ 9000) : (bif c == 0 then (-1 : Int) else (w64 (c - 1)).tmod 2) = ownr c := by
  unfold ownr
  by_cases h : c = 0
  · rw [be1 h, if_pos h]
  · rw [bn1 h, if_neg h, ws (by omega), Int.tmod_eq_emod_of_nonneg (by omega)]
theorem far_tot {r : RU} (hr : ROK r) (a b : Int) : ∃ z, f76 9000 r a b = some (z, ()) := by
  have := hr.w1
  unfold f76
  cases a == 0
  · simp only [cond_false]
    rw [bf1 (show ¬ r.2.1 = 0 by omega)]
    exact ⟨_, rfl⟩
  · simp only [cond_true]
    rw [bf1 (show ¬ r.2.1 = 0 by omega)]
    exact ⟨_, rfl⟩
theorem arr_tot {r : RU} (hr : ROK r) (t k to : Int) (h1 : 0 ≤ k) (h2 : k < r.2.2.2.1.length) : ∃ z, f65 9000 r t k to = some (z, ()) ∧ 0 ≤ z ∧ z < r.2.2.2.1.length ∧ (z = k ∨ z + 1 = (rd P0 r.2.2.2.1 k).2.2.1) := by
  unfold f65
  rw [bt2 ⟨h1, h2⟩]
  obtain ⟨m, rfl⟩ := Int.eq_ofNat_of_zero_le h1
  have hp := hr.pcs m (by omega)
  obtain ⟨_, _, _, _, g1, g2, _, _⟩ := hp
  have hn := hr.n6
  have g1' : 0 ≤ (rd ((0, 0, 0, [], ()) : PC) r.2.2.2.1 (m : Int)).2.2.1 := g1
  have g2' : (rd ((0, 0, 0, [], ()) : PC) r.2.2.2.1 (m : Int)).2.2.1 ≤ (r.2.2.2.1.length : Int) := g2
  cases hd : decide ((rd ((0, 0, 0, [], ()) : PC) r.2.2.2.1 (m : Int)).2.2.1 > 0)
  · exact ⟨_, rfl, h1, h2, .inl rfl⟩
  · have hd := of_decide_eq_true hd
    simp only [cond_true]
    obtain ⟨z, hz⟩ := far_tot hr t to
    rw [hz]
    simp only [Option.bind_some]
    cases z
    · exact ⟨_, rfl, h1, h2, .inl rfl⟩
    · refine ⟨_, rfl, ?_⟩
      rw [ws (by omega)]
      refine ⟨by omega, by omega, .inr ?_⟩
      show _ = (rd ((0, 0, 0, [], ()) : PC) r.2.2.2.1 (m : Int)).2.2.1
      omega
theorem idx_ok {x y w h : Int} (hx : 0 ≤ x ∧ x < w) (hy : 0 ≤ y ∧ y < h) : 0 ≤ y * w ∧ y * w + x < w * h := by
  have h1 : 0 ≤ y * w := Int.mul_nonneg hy.1 (by omega)
  have h2 : y * w ≤ (h - 1) * w := Int.mul_le_mul_of_nonneg_right (by omega) (by omega)
  rw [Int.sub_mul, Int.one_mul, Int.mul_comm h w] at h2
  omega
section
variable {r : RU} {p : PO}
def AL (r : RU) (p : PO) (out : List MV) (i : Nat) (v : Option ((List MV × Unit) ⊕ (List MV × Unit × Unit))) : Prop :=
  ∃ o', (v = some (.inl (o', ())) ∨ v = some (.inr (o', (), ()))) ∧ o'.length + i ≤ out.length + 7 ∧ ∀ m ∈ o', m ∈ out ∨ MvOK r p m
theorem AL.bif {out : List MV} {i : Nat} {b : Bool} {x y : Option ((List MV × Unit) ⊕ (List MV × Unit × Unit))} (h1 : b = true → AL r p out i x) (h2 : b = false → AL r p out i y) : AL r p out i (bif b then x else y) := by
  cases b
  · exact h2 rfl
  · exact h1 rfl
theorem AL.stop {out : List MV} {i : Nat} (h : i ≤ 7) : AL r p out i (some (.inr (out, (), ()))) := ⟨out, .inr rfl, by omega, fun m hm => .inl hm⟩
theorem along_l (hp : POK r p) (fr : Int) (hf : 0 ≤ fr ∧ fr < p.1.length) (w : WY) (hw : WOK w) (hfo : 1 ≤ rd 0 p.1 fr ∧ ownr (rd 0 p.1 fr) = p.2.2.1) (kd : Int) (hkd : kd = knd (rd 0 p.1 fr)) (hk : 0 ≤ kd ∧ kd < r.2.2.2.1.length) (dy : Int) (hdy : -7 ≤ dy ∧ dy ≤ 7) : ∀ (j i : Nat) (out : List MV) (x y : Int), i ≤ 7 → 8 ≤ i + j → out.length + 7 ≤ 8500 + i → 0 ≤ x ∧ x < r.2.1 → 0 ≤ y ∧ y < r.2.2.1 →
    AL r p out i (l48_7 9000 j out fr r p w kd dy x y w.2.2.1 i)
  | 0, i, out, x, y, h, h', _, _, _ => by omega
  | j + 1, i, out, x, y, h, h', ho, hx, hy => by
    have hr := hp.ru
    have w8 := hr.w8
    have h8 := hr.h8
    have hlen := hp.len
    have hsq := hr.sq
    obtain ⟨a1, a2, a3, a4, a5, a6, a7, a8⟩ := hw
    rw [l48_7, ws (n := x + w.1) (by omega), ws (n := y + dy) (by omega), ws (n := (i : Int) + 1) (by omega)]
    refine AL.bif (fun hi => ?_) (fun _ => ⟨out, .inl rfl, by omega, fun m hm => .inl hm⟩)
    have hi : (i : Int) < w.2.2.1 := of_decide_eq_true hi
    refine AL.bif (fun _ => AL.stop h) fun c1 => AL.bif (fun _ => AL.stop h) fun c2 => AL.bif (fun _ => AL.stop h) fun c3 => AL.bif (fun _ => AL.stop h) fun c4 => ?_
    have c1 := dF c1
    have c2 := dF c2
    have c3 := dF c3
    have c4 := dF c4
    have hix := idx_ok (x := x + w.1) (y := y + dy) (w := r.2.1) (h := r.2.2.1) ⟨by omega, by omega⟩ ⟨by omega, by omega⟩
    rw [ws (n := (y + dy) * r.2.1) (by omega), ws (n := (y + dy) * r.2.1 + (x + w.1)) (by omega), bt2 ⟨by omega, by omega⟩, own_eq]
    generalize hto : (y + dy) * r.2.1 + (x + w.1) = to at *
    simp only [Option.bind_some]
    have hcto := hp.cells to.toNat (by omega)
    rw [Int.toNat_of_nonneg (by omega)] at hcto
    have hn6 := hr.n6
    rw [own_eq' (rd 0 p.1 to) ⟨hcto.1, by omega⟩]
    have hof : ∀ q : Prop, (q ↔ (ownr (rd 0 p.1 to) < 0 ∨ ownr (rd 0 p.1 to) = w64 (1 - p.2.2.1))) → q → (rd 0 p.1 to = 0 ∨ ownr (rd 0 p.1 to) = 1 - p.2.2.1) := by
      intro q hq h
      rcases hq.1 h with h | h
      · left
        unfold ownr at h
        split at h
        · assumption
        · omega
      · right
        have := hp.turn
        rw [h, ws (by omega)]
    have hof := hof _ Iff.rfl
    generalize hoe : ownr (rd 0 p.1 to) = o at *
    have e : ((i : Int) + 1) = ((i + 1 : Nat) : Int) := by omega
    rw [e]
    have hplain : AL r p out i (bif decide (o ≥ 0) then some (.inr (out, (), ())) else l48_7 9000 j out fr r p w kd dy (x + w.1) (y + dy) w.2.2.1 ((i + 1 : Nat) : Int)) := by
      refine AL.bif (fun _ => AL.stop h) fun _ => ?_
      obtain ⟨o', g1, g2, g3⟩ := along_l hp fr hf w ⟨a1, a2, a3, a4, a5, a6, a7, a8⟩ hfo kd hkd hk dy hdy j (i + 1) out (x + w.1) (y + dy) (by omega) (by omega) (by omega) ⟨by omega, by omega⟩ ⟨by omega, by omega⟩
      exact ⟨o', g1, by omega, g3⟩
    have hadd : (o < 0 ∨ o = w64 (1 - p.2.2.1)) → AL r p out i ((f65 9000 r p.2.2.1 kd to).bind fun r2 => bif decide ((out.length + ([(fr, to, r2)] : List MV).length) * 24 ≤ roomN) then bif decide (o ≥ 0) then some (.inr (out ++ [(fr, to, r2)], (), ())) else l48_7 9000 j (out ++ [(fr, to, r2)]) fr r p w kd dy (x + w.1) (y + dy) w.2.2.1 ((i + 1 : Nat) : Int) else none) := by
      intro hoo
      obtain ⟨z, hz, z1, z2, z3⟩ := arr_tot hr p.2.2.1 kd to hk.1 hk.2
      rw [hz]
      simp only [Option.bind_some]
      rw [bt1 (by simp; unfold roomN; omega)]
      have hm : MvOK r p (fr, to, z, ()) := ⟨by show 0 ≤ to; omega, by show to < _; omega, z1, z2, .inr ⟨hf.1, hf.2, hfo.1, hfo.2, (by show rd 0 p.1 to = 0 ∨ ownr (rd 0 p.1 to) = _; rw [hoe]; exact hof hoo), by rw [← hkd]; exact z3⟩⟩
      refine AL.bif (fun _ => ⟨out ++ [(fr, to, z, ())], .inr rfl, by simp; omega, fun m h' => ?_⟩) fun _ => ?_
      · rcases List.mem_append.1 h' with h' | h'
        · exact .inl h'
        · simp at h'; subst h'; exact .inr hm
      · obtain ⟨o', g1, g2, g3⟩ := along_l hp fr hf w ⟨a1, a2, a3, a4, a5, a6, a7, a8⟩ hfo kd hkd hk dy hdy j (i + 1) (out ++ [(fr, to, z, ())]) (x + w.1) (y + dy) (by omega) (by omega) (by simp; omega) ⟨by omega, by omega⟩ ⟨by omega, by omega⟩
        refine ⟨o', g1, by simp at g2; omega, fun m h' => ?_⟩
        rcases g3 m h' with h' | h'
        · rcases List.mem_append.1 h' with h' | h'
          · exact .inl h'
          · simp at h'; subst h'; exact .inr hm
        · exact .inr h'
    exact AL.bif (fun q => AL.bif (fun _ => hadd (.inl (of_decide_eq_true q))) fun _ => AL.bif (fun q => AL.bif (fun _ => hadd (.inr (eq_of_beq q))) fun _ => hplain) fun _ => hplain) fun _ => AL.bif (fun q => AL.bif (fun _ => hadd (.inr (eq_of_beq q))) fun _ => hplain) fun _ => hplain
def More (r : RU) (p : PO) (out o' : List MV) (n : Nat) : Prop := o'.length ≤ out.length + n ∧ ∀ m ∈ o', m ∈ out ∨ MvOK r p m
theorem More.refl {out : List MV} {n : Nat} : More r p out out n := ⟨by omega, fun m h => .inl h⟩
theorem More.trans {a b c : List MV} {n m k : Nat} (h1 : More r p a b n) (h2 : More r p b c m) (h : n + m ≤ k) : More r p a c k :=
  ⟨by have := h1.1; have := h2.1; omega, fun x hx => (h2.2 x hx).elim (fun h => h1.2 x h) .inr⟩
theorem along_tot (hp : POK r p) (fr : Nat) (hf : fr < p.1.length) (hc : 1 ≤ rd 0 p.1 (fr : Int)) (hco : ownr (rd 0 p.1 (fr : Int)) = p.2.2.1) (w : WY) (hw : WOK w) (out : List MV) (ho : out.length + 7 ≤ 8500) : ∃ o', f48 9000 out r p fr w = some (o', ()) ∧ More r p out o' 7 := by
  have hr := hp.ru
  have hw1 := hr.w1
  have hlen := hp.len
  have hsq := hr.sq
  have hn6 := hr.n6
  unfold f48
  rw [bt2 ⟨by omega, by omega⟩]
  obtain ⟨hkd, k1, k2⟩ := kind_eq' (rd 0 p.1 (fr : Int)) r.2.2.2.1.length hc (hp.cells fr hf).2 (by omega)
  rw [hkd]
  simp only [Option.bind_some]
  generalize hkk : knd (rd 0 p.1 (fr : Int)) = kd at *
  have hy0 : 0 ≤ (fr : Int) / r.2.1 := Int.ediv_nonneg (by omega) (by omega)
  have hy1 : (fr : Int) / r.2.1 < r.2.2.1 := Int.ediv_lt_of_lt_mul (by omega) (by rw [Int.mul_comm]; omega)
  have hx0 : 0 ≤ (fr : Int) % r.2.1 := Int.emod_nonneg _ (by omega)
  have hx1 : (fr : Int) % r.2.1 < r.2.1 := Int.emod_lt_of_pos _ (by omega)
  have h8 := hr.h8
  rw [Int.tmod_eq_emod_of_nonneg (by omega), Int.tdiv_eq_ediv_of_nonneg (by omega), ws (n := (fr : Int) / r.2.1) (by omega)]
  have hb : ∀ dy, -7 ≤ dy ∧ dy ≤ 7 → ∃ o', ((l48_7 9000 9000 out fr r p w kd dy ((fr : Int) % r.2.1) ((fr : Int) / r.2.1) w.2.2.1 0).bind fun w2 => Sum.elim (fun y2 => some y2) (fun y3 => some (y3.1, ())) w2) = some (o', ()) ∧ More r p out o' 7 := by
    intro dy hdy
    obtain ⟨o', g1, g2, g3⟩ := along_l hp fr ⟨by omega, by omega⟩ w hw ⟨hc, hco⟩ kd hkk.symm ⟨k1, k2⟩ dy hdy 9000 0 out _ _ (by omega) (by omega) (by omega) ⟨hx0, hx1⟩ ⟨hy0, hy1⟩
    rw [show ((0 : Nat) : Int) = 0 from rfl] at g1
    refine ⟨o', ?_, by omega, g3⟩
    rcases g1 with g1 | g1 <;> rw [g1] <;> rfl
  obtain ⟨a1, a2, a3, a4, a5, a6, a7, a8⟩ := hw
  rw [ws (n := 0 - w.2.1) (by omega)]
  cases p.2.2.1 == 1
  · simp only [cond_false]
    rw [bf1 (show ¬ r.2.1 = 0 by omega), bf1 (show ¬ r.2.1 = 0 by omega)]
    exact hb _ ⟨by omega, by omega⟩
  · simp only [cond_true]
    rw [bf1 (show ¬ r.2.1 = 0 by omega), bf1 (show ¬ r.2.1 = 0 by omega)]
    exact hb _ ⟨by omega, by omega⟩
end
end Go.Proofs.Yticbohfmkiafiaa.G
namespace Go.Proofs.Yticbohfmkiafiaa.G
open Go.VM Go.Proofs
section
variable {r : RU} {p : PO}
theorem ways17 (hp : POK r p) (fr : Nat) (hf : fr < p.1.length) (hc : 1 ≤ rd 0 p.1 (fr : Int)) (hco : ownr (rd 0 p.1 (fr : Int)) = p.2.2.1) (a b : List Int) (c d : Int) (l : List WY) (hl : l.length ≤ 16) (hw : ∀ m : Nat, m < l.length → WOK (rd W0 l m)) : ∀ (j i : Nat) (out : List MV), i ≤ l.length → l.length < i + j → out.length + 7 * (l.length - i) ≤ 8000 →
    ∃ o', l28_17 9000 j r p out fr a c d l l.length i = some (r, p, o', a, c, d, ()) ∧ More r p out o' (7 * (l.length - i))
  | 0, i, out, h, h', _ => by omega
  | j + 1, i, out, h, h', ho => by
    rw [l28_17]
    by_cases hi : i < l.length
    · rw [bt1 (show (i : Int) < l.length by omega), bt2 ⟨by omega, by omega⟩, ws (by omega)]
      have e : ((i : Int) + 1) = ((i + 1 : Nat) : Int) := by omega
      rw [e]
      obtain ⟨o1, h1, h2⟩ := along_tot hp fr hf hc hco (rd W0 l (i : Int)) (hw i hi) out (by omega)
      rw [show rd ((0, 0, 0, 0, ()) : Int × Int × Int × Int × Unit) l (i : Int) = rd W0 l (i : Int) from rfl, h1]
      simp only [Option.bind_some]
      have hlen := h2.1
      obtain ⟨o', h3, h4⟩ := ways17 hp fr hf hc hco a b c d l hl hw j (i + 1) o1 (by omega) (by omega) (by omega)
      exact ⟨o', h3, h2.trans h4 (by omega)⟩
    · rw [bf1 (show ¬ (i : Int) < l.length by omega)]
      exact ⟨out, rfl, More.refl⟩
theorem own_turn {c : Int} {t : Int} (hc : 0 ≤ c ∧ c ≤ 9000) (ht : t = 0 ∨ t = 1) (h : ((bif c == 0 then (-1 : Int) else (w64 (c - 1)).tmod 2) == t) = true) : 1 ≤ c := by
  by_cases h0 : c = 0
  · subst h0
    have := eq_of_beq h
    rcases ht with rfl | rfl <;> simp at this
  · omega
theorem cells13 (hp : POK r p) : ∀ (j i : Nat) (out : List MV), i ≤ p.1.length → p.1.length < i + j → out.length + 112 * (p.1.length - i) ≤ 7700 →
    ∃ o', l28_13 9000 j r p out p.1 p.1.length i = some (o', ()) ∧ More r p out o' (112 * (p.1.length - i))
  | 0, i, out, h, h', _ => by omega
  | j + 1, i, out, h, h', ho => by
    have hl := hp.len64
    have hn6 := hp.ru.n6
    rw [l28_13]
    by_cases hi : i < p.1.length
    · rw [bt1 (show (i : Int) < p.1.length by omega), bt2 ⟨by omega, by omega⟩, own_eq]
      have e : ((i : Int) + 1) = ((i + 1 : Nat) : Int) := by omega
      simp only [Option.bind_some]
      have hcell := hp.cells i hi
      cases hown : ((bif rd 0 p.1 (i : Int) == 0 then (-1 : Int) else (w64 (rd 0 p.1 (i : Int) - 1)).tmod 2) == p.2.2.1)
      · simp only [cond_false]
        rw [ws (by omega), e]
        obtain ⟨o', h3, h4⟩ := cells13 hp j (i + 1) out (by omega) (by omega) (by omega)
        exact ⟨o', h3, (More.refl (n := 0)).trans h4 (by omega)⟩
      · simp only [cond_true]
        have hc := own_turn ⟨hcell.1, by omega⟩ hp.turn hown
        have hco : ownr (rd 0 p.1 (i : Int)) = p.2.2.1 := by rw [← own_eq' _ ⟨hcell.1, by omega⟩]; exact eq_of_beq hown
        obtain ⟨kd, hkd, k1, k2⟩ := kind_eq (rd 0 p.1 (i : Int)) r.2.2.2.1.length hc hcell.2 (by omega)
        rw [hkd]
        simp only [Option.bind_some]
        rw [bt2 ⟨k1, k2⟩]
        obtain ⟨m, rfl⟩ := Int.eq_ofNat_of_zero_le k1
        obtain ⟨_, _, _, _, _, _, g7, g8⟩ := hp.ru.pcs m (by omega)
        have g7' : (rd ((0, 0, 0, [], ()) : PC) r.2.2.2.1 (m : Int)).2.2.2.1.length ≤ 16 := g7
        obtain ⟨o1, h1, h2⟩ := ways17 hp i hi hc hco p.1 p.1 (p.1.length : Int) (i : Int) (rd ((0, 0, 0, [], ()) : PC) r.2.2.2.1 (m : Int)).2.2.2.1 g7' g8 9000 0 out (by omega) (by omega) (by omega)
        rw [show ((0 : Nat) : Int) = 0 from rfl] at h1
        rw [h1]
        simp only [Option.bind_some]
        rw [ws (by omega), e]
        have hlen := h2.1
        obtain ⟨o', h3, h4⟩ := cells13 hp j (i + 1) o1 (by omega) (by omega) (by omega)
        exact ⟨o', h3, h2.trans h4 (by omega)⟩
    · rw [bf1 (show ¬ (i : Int) < p.1.length by omega)]
      exact ⟨out, rfl, More.refl⟩
theorem open5 (hp : POK r p) : ∀ (j : Nat) (s : Int), -8 ≤ s → s < p.1.length → s + 8 < j → l46_5 9000 j r p s = some (.inl ()) ∨ l46_5 9000 j r p s = some (.inr (false, ())) 
  | 0, s, h1, h2, h3 => by omega
  | j + 1, s, h1, h2, h3 => by
    have hw1 := hp.ru.w1
    have hw8 := hp.ru.w8
    have hl := hp.len64
    rw [l46_5]
    by_cases hs : s ≥ 0
    · rw [bt1 hs, bt2 ⟨hs, h2⟩]
      cases rd 0 p.1 s == 0
      · simp only [cond_false]
        rw [ws (by omega)]
        exact open5 hp j (s - r.2.1) (by omega) (by omega) (by omega)
      · exact .inr rfl
    · rw [bf1 hs]
      exact .inl rfl
theorem open_tot (hp : POK r p) (s : Int) (h0 : 0 ≤ s) (h1 : s < p.1.length) : ∃ b, f46 9000 r p s = some (b, ()) ∧ (b = true → rd 0 p.1 s = 0) := by
  have hw1 := hp.ru.w1
  have hw8 := hp.ru.w8
  have hl := hp.len64
  unfold f46
  rw [bt2 ⟨h0, h1⟩]
  cases hz : rd 0 p.1 s != 0
  rotate_left
  · exact ⟨_, rfl, fun h => by cases h⟩
  have hz : rd 0 p.1 s = 0 := by simpa using hz
  simp only [cond_false]
  cases r.2.2.2.2.2.1
  · exact ⟨_, rfl, fun _ => hz⟩
  simp only [cond_true]
  rw [ws (by omega)]
  rcases open5 hp 9000 (s - r.2.1) (by omega) (by omega) (by omega) with h | h <;> rw [h] <;> exact ⟨_, rfl, fun _ => hz⟩
theorem drop6 (hp : POK r p) (t : Nat) (ht : t < r.2.2.2.1.length) (n : Int) (hn : n = rd 0 (hnd p) t) (a : List Int) (c d : Int) : ∀ (j i : Nat) (out : List MV), i ≤ p.1.length → p.1.length < i + j → out.length + (p.1.length - i) ≤ 7700 →
    ∃ o', l28_6 9000 j r p out t n a c d p.1.length i = some (r, p, o', a, c, d, ()) ∧ More r p out o' (p.1.length - i)
  | 0, i, out, h, h', _ => by omega
  | j + 1, i, out, h, h', ho => by
    have hl := hp.len64
    rw [l28_6]
    by_cases hi : i < p.1.length
    · rw [bt1 (show (i : Int) < p.1.length by omega), ws (by omega)]
      have e : ((i : Int) + 1) = ((i + 1 : Nat) : Int) := by omega
      rw [e]
      have plain : ∃ o', l28_6 9000 j r p out t n a c d p.1.length ((i + 1 : Nat) : Int) = some (r, p, o', a, c, d, ()) ∧ More r p out o' (p.1.length - i) := by
        obtain ⟨o', h3, h4⟩ := drop6 hp t ht n hn a c d j (i + 1) out (by omega) (by omega) (by omega)
        exact ⟨o', h3, (More.refl (n := 0)).trans h4 (by omega)⟩
      cases hd : decide (n > 0)
      · exact plain
      · have hd := of_decide_eq_true hd
        simp only [cond_true]
        obtain ⟨b, hb, hb0⟩ := open_tot hp (i : Int) (by omega) (by omega)
        rw [hb]
        simp only [Option.bind_some]
        cases b
        · exact plain
        · simp only [cond_true]
          rw [bt1 (by simp; unfold roomN; omega)]
          have hm : MvOK r p (-1, (i : Int), (t : Int), ()) := ⟨by show (0 : Int) ≤ i; omega, by show (i : Int) < _; omega, by show (0 : Int) ≤ t; omega, by show (t : Int) < _; omega, .inl ⟨rfl, by show 0 < rd 0 (hnd p) (t : Int); omega, hb0 rfl⟩⟩
          obtain ⟨o', h3, h4⟩ := drop6 hp t ht n hn a c d j (i + 1) (out ++ [(-1, (i : Int), (t : Int), ())]) (by omega) (by omega) (by simp; omega)
          refine ⟨o', h3, More.trans (b := out ++ [(-1, (i : Int), (t : Int), ())]) (n := 1) ⟨by simp, fun m h' => ?_⟩ h4 (by omega)⟩
          rcases List.mem_append.1 h' with h' | h'
          · exact .inl h'
          · simp at h'; subst h'; exact .inr hm
    · rw [bf1 (show ¬ (i : Int) < p.1.length by omega)]
      exact ⟨out, rfl, More.refl⟩
theorem hand3 (hp : POK r p) (hh : (hnd p).length = r.2.2.2.1.length) : ∀ (j i : Nat) (out : List MV), i ≤ (hnd p).length → (hnd p).length < i + j → out.length + 64 * ((hnd p).length - i) ≤ 500 →
    ∃ o', l28_3 9000 j r p out (hnd p) (hnd p).length i = some (r, p, o', ()) ∧ More r p out o' (64 * ((hnd p).length - i))
  | 0, i, out, h, h', _ => by omega
  | j + 1, i, out, h, h', ho => by
    have hl := hp.len64
    have hn6 := hp.ru.n6
    rw [l28_3]
    by_cases hi : i < (hnd p).length
    · rw [bt1 (show (i : Int) < (hnd p).length by omega), bt2 ⟨by omega, by omega⟩]
      have e : ((i : Int) + 1) = ((i + 1 : Nat) : Int) := by omega
      obtain ⟨o1, h1, h2⟩ := drop6 hp i (by omega) (rd 0 (hnd p) (i : Int)) rfl (hnd p) ((hnd p).length : Int) (i : Int) 9000 0 out (by omega) (by omega) (by omega)
      rw [show ((0 : Nat) : Int) = 0 from rfl] at h1
      rw [h1]
      simp only [Option.bind_some]
      rw [ws (by omega), e]
      have hlen := h2.1
      obtain ⟨o', h3, h4⟩ := hand3 hp hh j (i + 1) o1 (by omega) (by omega) (by omega)
      exact ⟨o', h3, h2.trans h4 (by omega)⟩
    · rw [bf1 (show ¬ (i : Int) < (hnd p).length by omega)]
      exact ⟨out, rfl, More.refl⟩
end
end Go.Proofs.Yticbohfmkiafiaa.G
namespace Go.Proofs.Yticbohfmkiafiaa.G
open Go.VM Go.Proofs
theorem rd_mem {α : Type} (d : α) (l : List α) (i : Nat) (h : i < l.length) : rd d l (i : Int) ∈ l := by
  unfold rd
  rw [Int.toNat_natCast, List.getD_eq_getElem?_getD, List.getElem?_eq_getElem h]
  exact List.getElem_mem h
theorem cpt9 (l : List MV) (a n : Nat) (ha : 1 ≤ a) (hn : a + n ≤ 8000) : ∀ (j i w : Nat) (s : List MV), 1 ≤ i → i ≤ n → n < i + j → w < a + i → s.length = a + n → (∀ x ∈ s, x ∈ l) →
    ∃ (s' : List MV) (w' : Nat), l51_9 9000 j s (w : Int) ((a : Int), (n : Int)) (i : Int) = some (s', (w' : Int), ()) ∧ s'.length = a + n ∧ w' ≤ a + n ∧ ∀ x ∈ s', x ∈ l
  | 0, i, w, s, h1, h2, h3, _, _, _ => by omega
  | j + 1, i, w, s, h1, h2, h3, hw, hs, hm => by
    rw [l51_9]
    simp only [Int.toNat_natCast]
    by_cases hi : i < n
    · have e : ((i : Int) + 1) = ((i + 1 : Nat) : Int) := by omega
      have e' : ((w : Int) + 1) = ((w + 1 : Nat) : Int) := by omega
      rw [bt1 (show (i : Int) < (n : Int) by omega), bt2 ⟨by omega, by omega⟩, ws (n := (i : Int) - 1) (by omega), bt2 ⟨by omega, by omega⟩, ws (n := (i : Int) + 1) (by omega), ws (n := (w : Int) + 1) (by omega), e, e']
      generalize (!(((rd ((0, 0, 0, ()) : MV) s ((a : Int) + (i : Int))).1 == (rd ((0, 0, 0, ()) : MV) s ((a : Int) + ((i : Int) - 1))).1) && (((rd ((0, 0, 0, ()) : MV) s ((a : Int) + (i : Int))).2.1 == (rd ((0, 0, 0, ()) : MV) s ((a : Int) + ((i : Int) - 1))).2.1) && (((rd ((0, 0, 0, ()) : MV) s ((a : Int) + (i : Int))).2.2.1 == (rd ((0, 0, 0, ()) : MV) s ((a : Int) + ((i : Int) - 1))).2.2.1) && true)))) = bb
      cases bb
      · exact cpt9 l a n ha hn j (i + 1) w s (by omega) (by omega) (by omega) (by omega) hs hm
      · simp only [cond_true]
        rw [bt2 ⟨by omega, by omega⟩, bt2 ⟨by omega, by omega⟩]
        refine cpt9 l a n ha hn j (i + 1) (w + 1) _ (by omega) (by omega) (by omega) (by omega) (by simpa using hs) (fun x hx => ?_)
        rcases List.mem_or_eq_of_mem_set hx with hx | hx
        · exact hm x hx
        · rw [hx, show ((a : Int) + (i : Int)) = ((a + i : Nat) : Int) by omega]
          exact hm _ (rd_mem _ s (a + i) (by omega))
    · rw [bf1 (show ¬ (i : Int) < (n : Int) by omega)]
      exact ⟨s, w, rfl, hs, by omega, hm⟩
theorem cpt4 (l : List MV) (hl : l.length ≤ 8000) : ∀ (j i : Nat), 1 ≤ i → i ≤ l.length → l.length < i + j →
    l51_4 9000 j l i = some (.inl (l, ())) ∨ ∃ o, l51_4 9000 j l i = some (.inr (o, ())) ∧ o.length ≤ l.length ∧ ∀ x ∈ o, x ∈ l
  | 0, i, h1, h2, h3 => by omega
  | j + 1, i, h1, h2, h3 => by
    rw [l51_4]
    by_cases hi : i < l.length
    · have e : ((i : Int) + 1) = ((i + 1 : Nat) : Int) := by omega
      rw [bt1 (show (i : Int) < l.length by omega), bt2 ⟨by omega, by omega⟩, ws (n := (i : Int) - 1) (by omega), bt2 ⟨by omega, by omega⟩, ws (n := (i : Int) + 1) (by omega), e]
      generalize (((rd ((0, 0, 0, ()) : MV) l (i : Int)).1 == (rd ((0, 0, 0, ()) : MV) l ((i : Int) - 1)).1) && (((rd ((0, 0, 0, ()) : MV) l (i : Int)).2.1 == (rd ((0, 0, 0, ()) : MV) l ((i : Int) - 1)).2.1) && (((rd ((0, 0, 0, ()) : MV) l (i : Int)).2.2.1 == (rd ((0, 0, 0, ()) : MV) l ((i : Int) - 1)).2.2.1) && true))) = bb
      cases bb
      · exact cpt4 l hl j (i + 1) (by omega) (by omega) (by omega)
      · simp only [cond_true]
        rw [decide_eq_true (show (0 : Int) ≤ i by omega), decide_eq_true (show (i : Int) ≤ l.length by omega), decide_eq_true (show (l.length : Int) ≤ l.length by omega)]
        simp only [Bool.and_self, cond_true]
        obtain ⟨s', w', k1, k2, k3, k4⟩ := cpt9 l i (l.length - i) h1 (by omega) 9000 1 i l (by omega) (by omega) (by omega) (by omega) (by omega) (fun x hx => hx)
        rw [show ((((i : Int)).toNat : Nat) : Int) = (i : Int) by omega, show ((((l.length : Int) - (i : Int)).toNat : Nat) : Int) = ((l.length - i : Nat) : Int) by omega]
        rw [show ((1 : Nat) : Int) = 1 from rfl] at k1
        rw [k1]
        simp only [Option.bind_some]
        have hb : Nat.ble ((w' : Int).toNat + ((s'.length : Int) - (w' : Int)).toNat) s'.length = true := Nat.ble_eq_true_of_le (by omega)
        rw [decide_eq_true (show (0 : Int) ≤ (w' : Int) by omega), decide_eq_true (show (w' : Int) ≤ (s'.length : Int) by omega), decide_eq_true (show (s'.length : Int) ≤ (s'.length : Int) by omega), hb]
        simp only [Bool.and_self, cond_true]
        rw [decide_eq_true (show (w' : Int) ≤ (((s'.take (w' : Int).toNat ++ (List.replicate ((s'.length : Int) - (w' : Int)).toNat ((0, 0, 0, ()) : MV) ++ s'.drop ((w' : Int).toNat + ((s'.length : Int) - (w' : Int)).toNat))).length : Nat) : Int) by simp; omega)]
        simp only [cond_true, first_eq]
        refine .inr ⟨_, rfl, ?_, fun x hx => ?_⟩
        · simp; omega
        · rw [show (w' : Int).toNat = w' by omega, List.take_append_of_le_length (by simp; omega), List.take_take, Nat.min_self] at hx
          exact k4 x (List.mem_of_mem_take hx)
    · rw [bf1 (show ¬ (i : Int) < l.length by omega)]
      exact .inl rfl
theorem cpt_tot (l : List MV) (hl : l.length ≤ 8000) : ∃ o, f51 9000 l = some (o, ()) ∧ o.length ≤ l.length ∧ ∀ x ∈ o, x ∈ l := by
  unfold f51
  by_cases h : (l.length : Int) < 2
  · rw [bt1 h]
    exact ⟨l, rfl, Nat.le_refl _, fun x hx => hx⟩
  · rw [bf1 h]
    rcases cpt4 l hl 9000 1 (by omega) (by omega) (by omega) with h | ⟨o, h, h1, h2⟩
    · rw [show ((1 : Nat) : Int) = 1 from rfl] at h
      rw [h]
      exact ⟨l, rfl, Nat.le_refl _, fun x hx => hx⟩
    · rw [show ((1 : Nat) : Int) = 1 from rfl] at h
      rw [h]
      exact ⟨o, rfl, h1, h2⟩
theorem sort_tot (l : List MV) (hl : l.length ≤ 8000) : ∃ o, f49 9000 l = some (o, ()) ∧ o.length = l.length ∧ ∀ x ∈ o, x ∈ l := by
  unfold f49
  rw [show Nat.ble 5 9000 = true from rfl, Bool.true_and, bt1 (by omega)]
  exact ⟨_, rfl, List.length_mergeSort .., fun x hx => (List.mem_mergeSort ..).1 hx⟩
theorem gen_tot {r : RU} {p : PO} (hp : POK r p) : ∃ g, f28 9000 r p = some (g, ()) ∧ g.length ≤ 8000 ∧ ∀ m ∈ g, MvOK r p m := by
  have hl := hp.len64
  have hn6 := hp.ru.n6
  have key : (hnd p).length = r.2.2.2.1.length → ∃ g, ((l28_3 9000 9000 r p [] (hnd p) ((hnd p).length : Int) 0).bind fun o1 => (l28_13 9000 9000 o1.1 o1.2.1 o1.2.2.1 o1.2.1.1 (o1.2.1.1.length : Int) 0).bind fun o2 => (f49 9000 o2.1).bind fun r3 => (f51 9000 r3.1).bind fun r4 => some (r4.1, ())) = some (g, ()) ∧ g.length ≤ 8000 ∧ ∀ m ∈ g, MvOK r p m := by
    intro hh
    obtain ⟨o1, h1, m1⟩ := hand3 hp hh 9000 0 [] (by omega) (by omega) (by simp; omega)
    rw [show ((0 : Nat) : Int) = 0 from rfl] at h1
    rw [h1]
    simp only [Option.bind_some]
    have l1 := m1.1
    simp only [List.length_nil] at l1
    obtain ⟨o2, h2, m2⟩ := cells13 hp 9000 0 o1 (by omega) (by omega) (by omega)
    rw [show ((0 : Nat) : Int) = 0 from rfl] at h2
    rw [h2]
    simp only [Option.bind_some]
    have l2 := m2.1
    obtain ⟨o3, h3, l3, m3⟩ := sort_tot o2 (by omega)
    rw [h3]
    simp only [Option.bind_some]
    obtain ⟨o4, h4, l4, m4⟩ := cpt_tot o3 (by omega)
    rw [h4]
    refine ⟨o4, rfl, by omega, fun m hm => ?_⟩
    rcases m2.2 m (m3 m (m4 m hm)) with h | h
    · rcases m1.2 m h with h | h
      · cases h
      · exact h
    · exact h
  unfold f28
  rcases hp.turn with ht | ht
  · have e : hnd p = p.2.1.1 := by unfold hnd; rw [ht]; rfl
    rw [be1 ht, ← e]
    exact key (by rw [e]; exact hp.a)
  · have e : hnd p = p.2.1.2.1 := by unfold hnd; rw [ht]; rfl
    rw [bn1 (by omega), be1 ht, ← e]
    exact key (by rw [e]; exact hp.b)
end Go.Proofs.Yticbohfmkiafiaa.G
