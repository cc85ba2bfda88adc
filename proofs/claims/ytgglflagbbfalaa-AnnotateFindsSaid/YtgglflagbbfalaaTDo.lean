/- A move made: a position again, that is passed. -/
import Derived.Test.YtgglflagbbfalaaTEnds
namespace Go.Proofs.Ytgglflagbbfalaa.G
open Go.VM Go.Proofs
section
variable {r : RU} {p : PO}
def Bnd (B : Int) (l : List Int) : Prop := ∀ m : Nat, m < l.length → 0 ≤ rd 0 l m ∧ rd 0 l m ≤ B
theorem Bnd.set {B : Int} {l : List Int} (h : Bnd B l) (k : Nat) {v : Int} (h0 : 0 ≤ v) (h1 : v ≤ B) : Bnd B (l.set k v) := by
  intro m hm
  have hm' : m < l.length := by simpa using hm
  have := h m hm'
  unfold rd at this ⊢
  rw [Int.toNat_natCast, List.getD_eq_getElem?_getD] at this ⊢
  by_cases e : k = m
  · subst e
    rw [List.getElem?_set_self hm']
    exact ⟨h0, h1⟩
  · rw [List.getElem?_set_ne e]
    exact this
theorem copy_eq (hp : POK r p) : f31 9000 p = some (p, ()) := by
  have hl := hp.len64
  have hn := hp.ru.n6
  have ha := hp.a
  have hb := hp.b
  unfold f31
  rw [clone_eq _ _ (by omega)]
  simp only [Option.bind_some]
  rw [clone_eq _ _ (by omega)]
  simp only [Option.bind_some]
  rw [clone_eq _ _ (by omega)]
  rfl
theorem pok_mk (hp : POK r p) {c a b : List Int} {q : Int} (hc : c.length = p.1.length) (hc2 : Bnd (2 * (r.2.2.2.1.length : Int)) c) (ha : a.length = p.2.1.1.length) (ha2 : Bnd 1000 a) (hb : b.length = p.2.1.2.1.length) (hb2 : Bnd 1000 b) (hq : 0 ≤ q ∧ q ≤ 200) :
    POK r (c, (a, b, ()), w64 (1 - p.2.2.1), q, ()) := by
  refine ⟨hp.ru, ?_, ha.trans hp.a, hb.trans hp.b, hc2, ha2, hb2, ?_, hq⟩
  · show (c.length : Int) = _
    rw [hc]; exact hp.len
  · show w64 (1 - p.2.2.1) = 0 ∨ w64 (1 - p.2.2.1) = 1
    rcases hp.turn with h | h <;> rw [h] <;> decide
theorem up_ok {x : Int} (h : 0 ≤ x ∧ x ≤ 1000) : 0 ≤ (if 1000 < w64 (x + 1) then (1000 : Int) else w64 (x + 1)) ∧ (if 1000 < w64 (x + 1) then (1000 : Int) else w64 (x + 1)) ≤ 1000 := by
  rw [ws (by omega)]
  split <;> omega
theorem qu_ok {x : Int} (h : 0 ≤ x ∧ x ≤ 200) : 0 ≤ (if 200 < w64 (x + 1) then (200 : Int) else w64 (x + 1)) ∧ (if 200 < w64 (x + 1) then (200 : Int) else w64 (x + 1)) ≤ 200 := by
  rw [ws (by omega)]
  split <;> omega
theorem cell_ok {k t : Int} {n : Nat} (hk : 0 ≤ k ∧ k < n) (ht : t = 0 ∨ t = 1) (hn : n ≤ 6) : 0 ≤ w64 (w64 (w64 (2 * k) + t) + 1) ∧ w64 (w64 (w64 (2 * k) + t) + 1) ≤ 2 * (n : Int) := by
  rw [ws (n := 2 * k) (by omega), ws (n := 2 * k + t) (by omega), ws (by omega)]
  omega
theorem rdz {l : List Int} {B : Int} (h : Bnd B l) {k : Int} (h0 : 0 ≤ k) (h1 : k < l.length) : 0 ≤ rd 0 l k ∧ rd 0 l k ≤ B := by
  obtain ⟨m, rfl⟩ := Int.eq_ofNat_of_zero_le h0
  exact h m (by omega)
theorem do_tot (hp : POK r p) (m : MV) (hm : MvOK r p m) : ∃ q, f38 9000 r p m = some (q, ()) ∧ POK r q := by
  have hl := hp.len64
  have hn := hp.ru.n6
  have ha := hp.a
  have hb := hp.b
  have hqu := qu_ok hp.quiet
  have hA : Bnd 1000 p.2.1.1 := hp.ha
  have hB : Bnd 1000 p.2.1.2.1 := hp.hb
  have hC : Bnd (2 * (r.2.2.2.1.length : Int)) p.1 := hp.cells
  obtain ⟨t0, t1, k0, k1, hcase⟩ := hm
  have hcl := cell_ok ⟨k0, k1⟩ hp.turn hn
  have hcc := rdz hC t0 t1
  unfold f38
  rw [copy_eq hp]
  simp only [Option.bind_some]
  have z2 : (0 : Int) ≤ 0 ∧ (0 : Int) ≤ 200 := ⟨by decide, by decide⟩
  rcases hcase with ⟨hd, hh, _⟩ | ⟨g0, g1, _⟩
  · have hd : m.1 < 0 := by omega
    rw [bt1 hd]
    rcases hp.turn with ht | ht
    · have eh : hnd p = p.2.1.1 := by unfold hnd; rw [ht]; rfl
      rw [eh] at hh
      have hx := rdz hA k0 (by omega)
      have hw : w64 (rd 0 p.2.1.1 m.2.2.1 - 1) = rd 0 p.2.1.1 m.2.2.1 - 1 := ws (by omega)
      have hA' : Bnd 1000 (p.2.1.1.set m.2.2.1.toNat (w64 (rd 0 p.2.1.1 m.2.2.1 - 1))) := hA.set _ (by omega) (by omega)
      rw [be1 ht, bt2 ⟨k0, by omega⟩, bt2 ⟨k0, by omega⟩, bt2 ⟨t0, t1⟩]
      by_cases c0 : rd 0 p.1 m.2.1 = 0
      · rw [beq1 c0]
        unfold f50
        simp only [Option.bind_some]
        rw [bt2 ⟨t0, t1⟩]
        exact ⟨_, rfl, pok_mk hp (by simp) (hC.set _ hcl.1 hcl.2) (by simp) hA' rfl hB z2⟩
      · rw [bne1 c0, be1 ht]
        generalize r.2.2.2.2.2.2.1 = kp
        cases kp
        · simp only [cond_false]
          unfold f50
          simp only [Option.bind_some]
          rw [bt2 ⟨t0, t1⟩]
          exact ⟨_, rfl, pok_mk hp (by simp) (hC.set _ hcl.1 hcl.2) (by simp) hA' rfl hB z2⟩
        · simp only [cond_true]
          obtain ⟨kd, hkd, d1, d2⟩ := kind_eq (rd 0 p.1 m.2.1) r.2.2.2.1.length (by omega) hcc.2 (by omega)
          rw [hkd]
          simp only [Option.bind_some]
          rw [bt2 ⟨d1, by simp; omega⟩, bt2 ⟨d1, by simp; omega⟩]
          unfold f50
          simp only [Option.bind_some]
          rw [bt2 ⟨t0, t1⟩]
          have hu := up_ok (rdz hA' d1 (by simp; omega))
          exact ⟨_, rfl, pok_mk hp (by simp) (hC.set _ hcl.1 hcl.2) (by simp) (hA'.set _ hu.1 hu.2) rfl hB z2⟩
    · have eh : hnd p = p.2.1.2.1 := by unfold hnd; rw [ht]; rfl
      rw [eh] at hh
      have hx := rdz hB k0 (by omega)
      have hw : w64 (rd 0 p.2.1.2.1 m.2.2.1 - 1) = rd 0 p.2.1.2.1 m.2.2.1 - 1 := ws (by omega)
      have hB' : Bnd 1000 (p.2.1.2.1.set m.2.2.1.toNat (w64 (rd 0 p.2.1.2.1 m.2.2.1 - 1))) := hB.set _ (by omega) (by omega)
      rw [bn1 (show p.2.2.1 ≠ 0 by omega), be1 ht, bt2 ⟨k0, by omega⟩, bt2 ⟨k0, by omega⟩, bt2 ⟨t0, t1⟩]
      by_cases c0 : rd 0 p.1 m.2.1 = 0
      · rw [beq1 c0]
        unfold f50
        simp only [Option.bind_some]
        rw [bt2 ⟨t0, t1⟩]
        exact ⟨_, rfl, pok_mk hp (by simp) (hC.set _ hcl.1 hcl.2) rfl hA (by simp) hB' z2⟩
      · rw [bne1 c0, bn1 (show p.2.2.1 ≠ 0 by omega), be1 ht]
        generalize r.2.2.2.2.2.2.1 = kp
        cases kp
        · simp only [cond_false]
          unfold f50
          simp only [Option.bind_some]
          rw [bt2 ⟨t0, t1⟩]
          exact ⟨_, rfl, pok_mk hp (by simp) (hC.set _ hcl.1 hcl.2) rfl hA (by simp) hB' z2⟩
        · simp only [cond_true]
          obtain ⟨kd, hkd, d1, d2⟩ := kind_eq (rd 0 p.1 m.2.1) r.2.2.2.1.length (by omega) hcc.2 (by omega)
          rw [hkd]
          simp only [Option.bind_some]
          rw [bt2 ⟨d1, by simp; omega⟩, bt2 ⟨d1, by simp; omega⟩]
          unfold f50
          simp only [Option.bind_some]
          rw [bt2 ⟨t0, t1⟩]
          have hu := up_ok (rdz hB' d1 (by simp; omega))
          exact ⟨_, rfl, pok_mk hp (by simp) (hC.set _ hcl.1 hcl.2) rfl hA (by simp) (hB'.set _ hu.1 hu.2) z2⟩
  · rw [bf1 (show ¬ m.1 < 0 by omega), bt2 ⟨g0, g1⟩, bt2 ⟨t0, t1⟩]
    have hC' : Bnd (2 * (r.2.2.2.1.length : Int)) (p.1.set m.1.toNat 0) := hC.set _ (by omega) (by omega)
    by_cases c0 : rd 0 p.1 m.2.1 = 0
    · rw [beq1 c0]
      unfold f50
      simp only [Option.bind_some]
      rw [bt2 ⟨t0, by simp; omega⟩]
      exact ⟨_, rfl, pok_mk hp (by simp) (hC'.set _ hcl.1 hcl.2) rfl hA rfl hB hqu⟩
    · rw [bne1 c0]
      obtain ⟨kd, hkd, d1, d2⟩ := kind_eq (rd 0 p.1 m.2.1) r.2.2.2.1.length (by omega) hcc.2 (by omega)
      rcases hp.turn with ht | ht
      · rw [be1 ht]
        generalize r.2.2.2.2.2.2.1 = kp
        cases kp
        · simp only [cond_false]
          unfold f50
          simp only [Option.bind_some]
          rw [bt2 ⟨t0, by simp; omega⟩]
          exact ⟨_, rfl, pok_mk hp (by simp) (hC'.set _ hcl.1 hcl.2) rfl hA rfl hB z2⟩
        · simp only [cond_true]
          rw [hkd]
          simp only [Option.bind_some]
          rw [bt2 ⟨d1, by omega⟩, bt2 ⟨d1, by omega⟩]
          unfold f50
          simp only [Option.bind_some]
          rw [bt2 ⟨t0, by simp; omega⟩]
          have hu := up_ok (rdz hA d1 (by omega))
          exact ⟨_, rfl, pok_mk hp (by simp) (hC'.set _ hcl.1 hcl.2) (by simp) (hA.set _ hu.1 hu.2) rfl hB z2⟩
      · rw [bn1 (show p.2.2.1 ≠ 0 by omega), be1 ht]
        generalize r.2.2.2.2.2.2.1 = kp
        cases kp
        · simp only [cond_false]
          unfold f50
          simp only [Option.bind_some]
          rw [bt2 ⟨t0, by simp; omega⟩]
          exact ⟨_, rfl, pok_mk hp (by simp) (hC'.set _ hcl.1 hcl.2) rfl hA rfl hB z2⟩
        · simp only [cond_true]
          rw [hkd]
          simp only [Option.bind_some]
          rw [bt2 ⟨d1, by omega⟩, bt2 ⟨d1, by omega⟩]
          unfold f50
          simp only [Option.bind_some]
          rw [bt2 ⟨t0, by simp; omega⟩]
          have hu := up_ok (rdz hB d1 (by omega))
          exact ⟨_, rfl, pok_mk hp (by simp) (hC'.set _ hcl.1 hcl.2) rfl hA (by simp) (hB.set _ hu.1 hu.2) z2⟩

/-! ### What is well formed is passed -/
theorem pc7 (r : RU) (p : PO) (l : List Int) (hn : r.2.2.2.1.length ≤ 6) (hb : Bnd (2 * (r.2.2.2.1.length : Int)) l) : ∀ (j i : Nat), i ≤ l.length → l.length < i + j → l.length ≤ 1000 → l47_7 9000 j r p l l.length i = some (.inl (p, ()))
  | 0, i, h, h', _ => by omega
  | j + 1, i, h, h', hs => by
    rw [l47_7]
    by_cases hi : i < l.length
    · have e : ((i : Int) + 1) = ((i + 1 : Nat) : Int) := by omega
      have := hb i hi
      rw [bt1 (show (i : Int) < l.length by omega), bt2 ⟨by omega, by omega⟩, bf1 (by omega), ws (n := 2 * (r.2.2.2.1.length : Int)) (by omega), bf1 (by omega), ws (by omega), e]
      exact pc7 r p l hn hb j (i + 1) (by omega) (by omega) hs
    · rw [bf1 (show ¬ (i : Int) < l.length by omega)]
theorem pc16 (p : PO) (hh : List Int × List Int × Unit) (n : Int) (l : List Int) (hb : Bnd 1000 l) : ∀ (j i : Nat), i ≤ l.length → l.length < i + j → l.length ≤ 1000 → l47_16 9000 j p hh n l l.length i = some (.inl (p, hh, n, ()))
  | 0, i, h, h', _ => by omega
  | j + 1, i, h, h', hs => by
    rw [l47_16]
    by_cases hi : i < l.length
    · have e : ((i : Int) + 1) = ((i + 1 : Nat) : Int) := by omega
      have := hb i hi
      rw [bt1 (show (i : Int) < l.length by omega), bt2 ⟨by omega, by omega⟩, bf1 (by omega), bf1 (by omega), ws (by omega), e]
      exact pc16 p hh n l hb j (i + 1) (by omega) (by omega) hs
    · rw [bf1 (show ¬ (i : Int) < l.length by omega)]
theorem place_ok (hz : Rz r) (hp : POK r p) : f47 9000 r p = some (0, ()) := by
  have hl := hp.len64
  have hn := hp.ru.n6
  have ha := hp.a
  have hb := hp.b
  have hsq := hp.ru.sq
  have hlen := hp.len
  have hq := hp.quiet
  have e1 : w64 (0 + 1) = 1 := by decide
  have e2 : w64 (1 + 1) = 2 := by decide
  have h0 : ((0 : Nat) : Int) = 0 := rfl
  unfold f47
  rw [show f34 9000 r = some (0, ()) from hz]
  simp only [Option.bind_some]
  rw [beq1 rfl, ws (n := r.2.1 * r.2.2.1) (by omega), beq1 (by omega), beq1 (by omega), beq1 (by omega)]
  have h7 := pc7 r p p.1 hn hp.cells 9000 0 (by omega) (by omega) (by omega)
  rw [h0] at h7
  rw [h7]
  simp only [Option.bind_some, Sum.elim_inl]
  have h13 : l47_13 9000 9000 p p.2.1 0 = some (.inl (p, ())) := by
    have g1 := pc16 p p.2.1 0 p.2.1.1 hp.ha 9000 0 (by omega) (by omega) (by omega)
    have g2 := pc16 p p.2.1 1 p.2.1.2.1 hp.hb 9000 0 (by omega) (by omega) (by omega)
    rw [h0] at g1 g2
    rw [l47_13, bt1 (by decide), be1 rfl, g1]
    simp only [Option.bind_some, Sum.elim_inl]
    rw [e1, l47_13, bt1 (by decide), bn1 (by decide), be1 rfl, g2]
    simp only [Option.bind_some, Sum.elim_inl]
    rw [e2, l47_13, bf1 (by decide)]
  rw [h13]
  simp only [Option.bind_some, Sum.elim_inl]
  rcases hp.turn with ht | ht
  · rw [beq1 ht, bf1 (by omega), bf1 (by omega)]
  · rw [bne1 (show p.2.2.1 ≠ 0 by omega), beq1 ht, bf1 (by omega), bf1 (by omega)]
end
end Go.Proofs.Ytgglflagbbfalaa.G
