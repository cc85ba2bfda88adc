/- A move, in full. -/
import Derived.Test.YtphgopfhobockaaTRun
namespace Go.Proofs.Ytphgopfhobockaa.G
open Go.VM Go.Proofs
section
variable {r : RU} {p : PO}
def doCells (p : PO) (m : MV) : List Int := (if m.1 < 0 then p.1 else p.1.set m.1.toNat 0).set m.2.1.toNat (2 * m.2.2.1 + p.2.2.1 + 1)
def doHand (r : RU) (p : PO) (m : MV) : List Int :=
  if m.1 < 0 then (hnd p).set m.2.2.1.toNat (rd 0 (hnd p) m.2.2.1 - 1)
  else if rd 0 p.1 m.2.1 ≠ 0 ∧ r.2.2.2.2.2.2.1 = true then (hnd p).set (knd (rd 0 p.1 m.2.1)).toNat (min (rd 0 (hnd p) (knd (rd 0 p.1 m.2.1)) + 1) 1000) else hnd p
def doQuiet (p : PO) (m : MV) : Int := if m.1 < 0 ∨ rd 0 p.1 m.2.1 ≠ 0 then 0 else min (p.2.2.2.1 + 1) 200
/-- The position after a legal move. -/
def doP (r : RU) (p : PO) (m : MV) : PO :=
  (doCells p m, (if p.2.2.1 = 0 then doHand r p m else p.2.1.1, if p.2.2.1 = 0 then p.2.1.2.1 else doHand r p m, ()), 1 - p.2.2.1, doQuiet p m, ())
theorem min1000 (x : Int) (h : -10000 ≤ x ∧ x ≤ 10000) : (if 1000 < w64 (x + 1) then 1000 else w64 (x + 1)) = min (x + 1) 1000 := by
  rw [ws (by omega)]; split <;> omega
theorem min200 (x : Int) (h : -10000 ≤ x ∧ x ≤ 10000) : (if 200 < w64 (x + 1) then 200 else w64 (x + 1)) = min (x + 1) 200 := by
  rw [ws (by omega)]; split <;> omega
theorem do_eq (hp : POK r p) (m : MV) (hm : MvOK r p m) : f50 9000 r p m = some (doP r p m, ()) := by
  have hl := hp.len64
  have hn := hp.ru.n6
  have ha := hp.a
  have hb := hp.b
  have hq := hp.quiet
  have hA : Bnd 1000 p.2.1.1 := hp.ha
  have hB : Bnd 1000 p.2.1.2.1 := hp.hb
  have hC : Bnd (2 * (r.2.2.2.1.length : Int)) p.1 := hp.cells
  obtain ⟨t0, t1, k0, k1, hcase⟩ := hm
  have hcc := rdz hC t0 t1
  have htu := hp.turn
  have ecell : w64 (w64 (w64 (2 * m.2.2.1) + p.2.2.1) + 1) = 2 * m.2.2.1 + p.2.2.1 + 1 := by
    rw [ws (n := 2 * m.2.2.1) (by omega), ws (n := 2 * m.2.2.1 + p.2.2.1) (by omega), ws (by omega)]
  have eturn : w64 (1 - p.2.2.1) = 1 - p.2.2.1 := ws (by omega)
  unfold f50
  rw [copy_eq hp]
  simp only [Option.bind_some]
  rcases hcase with ⟨hd, hh, c0⟩ | ⟨g0, g1, _⟩
  · have hd : m.1 < 0 := by omega
    rw [bt1 hd]
    rcases hp.turn with ht | ht
    · have eh : hnd p = p.2.1.1 := by unfold hnd; rw [ht]; rfl
      rw [eh] at hh
      have hx := rdz hA k0 (by omega)
      have hw : w64 (rd 0 p.2.1.1 m.2.2.1 - 1) = rd 0 p.2.1.1 m.2.2.1 - 1 := ws (by omega)
      rw [be1 ht, bt2 ⟨k0, by omega⟩, bt2 ⟨k0, by omega⟩, bt2 ⟨t0, t1⟩, beq1 c0]
      unfold f83
      simp only [Option.bind_some]
      rw [bt2 ⟨t0, t1⟩, ecell, eturn, hw]
      simp [doP, doCells, doHand, doQuiet, hd, ht, eh]
    · have eh : hnd p = p.2.1.2.1 := by unfold hnd; rw [ht]; rfl
      rw [eh] at hh
      have hx := rdz hB k0 (by omega)
      have hw : w64 (rd 0 p.2.1.2.1 m.2.2.1 - 1) = rd 0 p.2.1.2.1 m.2.2.1 - 1 := ws (by omega)
      rw [bn1 (show p.2.2.1 ≠ 0 by omega), be1 ht, bt2 ⟨k0, by omega⟩, bt2 ⟨k0, by omega⟩, bt2 ⟨t0, t1⟩, beq1 c0]
      unfold f83
      simp only [Option.bind_some]
      rw [bt2 ⟨t0, t1⟩, ecell, eturn, hw]
      simp [doP, doCells, doHand, doQuiet, hd, ht, eh]
  · have hd : ¬ m.1 < 0 := by omega
    rw [bf1 hd, bt2 ⟨g0, g1⟩, bt2 ⟨t0, t1⟩]
    by_cases c0 : rd 0 p.1 m.2.1 = 0
    · rw [beq1 c0]
      unfold f83
      simp only [Option.bind_some]
      rw [bt2 ⟨t0, by simp; omega⟩, ecell, eturn, min200 _ ⟨by omega, by omega⟩]
      rcases hp.turn with ht | ht
      · have eh : hnd p = p.2.1.1 := by unfold hnd; rw [ht]; rfl
        simp [doP, doCells, doHand, doQuiet, hd, ht, eh, c0]
      · have eh : hnd p = p.2.1.2.1 := by unfold hnd; rw [ht]; rfl
        simp [doP, doCells, doHand, doQuiet, hd, ht, eh, c0]
    · rw [bne1 c0]
      obtain ⟨hkd, d1, d2⟩ := kind_eq' (rd 0 p.1 m.2.1) r.2.2.2.1.length (by omega) hcc.2 (by omega)
      rcases hp.turn with ht | ht
      · have eh : hnd p = p.2.1.1 := by unfold hnd; rw [ht]; rfl
        rw [be1 ht]
        cases hk : r.2.2.2.2.2.2.1
        · simp only [cond_false]
          unfold f83
          simp only [Option.bind_some]
          rw [bt2 ⟨t0, by simp; omega⟩, ecell, eturn]
          simp [doP, doCells, doHand, doQuiet, hd, ht, eh, c0, hk]
        · simp only [cond_true]
          rw [hkd]
          simp only [Option.bind_some]
          rw [bt2 ⟨d1, by omega⟩, bt2 ⟨d1, by omega⟩]
          unfold f83
          simp only [Option.bind_some]
          have hx := rdz hA d1 (by omega)
          rw [bt2 ⟨t0, by simp; omega⟩, ecell, eturn, min1000 _ ⟨by omega, by omega⟩]
          simp [doP, doCells, doHand, doQuiet, hd, ht, eh, c0, hk]
      · have eh : hnd p = p.2.1.2.1 := by unfold hnd; rw [ht]; rfl
        rw [bn1 (show p.2.2.1 ≠ 0 by omega), be1 ht]
        cases hk : r.2.2.2.2.2.2.1
        · simp only [cond_false]
          unfold f83
          simp only [Option.bind_some]
          rw [bt2 ⟨t0, by simp; omega⟩, ecell, eturn]
          simp [doP, doCells, doHand, doQuiet, hd, ht, eh, c0, hk]
        · simp only [cond_true]
          rw [hkd]
          simp only [Option.bind_some]
          rw [bt2 ⟨d1, by omega⟩, bt2 ⟨d1, by omega⟩]
          unfold f83
          simp only [Option.bind_some]
          have hx := rdz hB d1 (by omega)
          rw [bt2 ⟨t0, by simp; omega⟩, ecell, eturn, min1000 _ ⟨by omega, by omega⟩]
          simp [doP, doCells, doHand, doQuiet, hd, ht, eh, c0, hk]
end
end Go.Proofs.Ytphgopfhobockaa.G
