/- Boards: a legal move is made and taken back. -/
import Derived.Test.YtnjjioeehbanjaaTBegin
namespace Go.Proofs.Ytnjjioeehbanjaa.G
open Go.VM Go.Proofs
abbrev UN := MV × Int × Int × Bool × Int × Int × Unit
abbrev BD := RU × PO × Int × List UN × Unit
theorem set_rdi {l : List Int} {k : Int} (h0 : 0 ≤ k) (h1 : k < l.length) : l.set k.toNat (rd 0 l k) = l := by
  obtain ⟨i, rfl⟩ := Int.eq_ofNat_of_zero_le h0
  unfold rd
  rw [Int.toNat_natCast, List.getD_eq_getElem?_getD, List.getElem?_eq_getElem (by omega), Option.getD_some, List.set_getElem_self]
theorem set_back {l : List Int} {k : Int} (h0 : 0 ≤ k) (h1 : k < l.length) (v : Int) : (l.set k.toNat v).set k.toNat (rd 0 l k) = l := by
  rw [List.set_set, set_rdi h0 h1]
theorem rd_seti {l : List Int} {k : Int} (h0 : 0 ≤ k) (h1 : k < l.length) (v : Int) : rd 0 (l.set k.toNat v) k = v := by
  obtain ⟨i, rfl⟩ := Int.eq_ofNat_of_zero_le h0
  unfold rd
  rw [Int.toNat_natCast, List.getD_eq_getElem?_getD, List.getElem?_set_self (by omega), Option.getD_some]
theorem cells_back {c : List Int} {f t : Int} (f0 : 0 ≤ f) (f1 : f < c.length) (t0 : 0 ≤ t) (t1 : t < c.length) (hn : f ≠ t) (v x : Int) : (((c.set f.toNat v).set t.toNat x).set t.toNat (rd 0 c t)).set f.toNat (rd 0 c f) = c := by
  rw [List.set_set, List.set_comm _ _ (by omega), List.set_set, set_rdi f0 f1, set_rdi t0 t1]
theorem rd_lastU (d : List UN) (u z : UN) : rd z (d ++ [u]) (d.length : Int) = u := by
  unfold rd
  simp
theorem len_app (d : List UN) (u : UN) (h : d.length ≤ 50) : w64 (((d ++ [u]).length : Int) - 1) = (d.length : Int) := by
  rw [ws (by simp; omega)]
  simp
theorem first_app (d : List UN) (u : UN) : first (d.length : Int).toNat (d ++ [u]) = d := by
  rw [first_eq]
  simp
section
variable {c a h : List Int} {r : RU} {t q key : Int} {d : List UN} {m : MV} {pc tk qu ky : Int}
theorem undo_d0 (hd : d.length ≤ 50) (ht : w64 (1 - t) = 0) (hto : 0 ≤ m.2.1 ∧ m.2.1 < c.length) (hm : m.1 < 0) (hk : 0 ≤ m.2.2.1 ∧ m.2.2.1 < a.length) :
    f55 9000 (r, (c, (a, h, ()), t, q, ()), key, d ++ [(m, pc, tk, false, qu, ky, ())], ()) = some (0, (r, (c.set m.2.1.toNat tk, (a.set m.2.2.1.toNat (w64 (rd 0 a m.2.2.1 + 1)), h, ()), w64 (1 - t), qu, ()), ky, d, ()), ()) := by
  unfold f55
  dsimp only
  rw [bn1 (by simp; omega)]
  simp only [len_app d _ hd, rd_lastU, first_app]
  rw [bt2 ⟨by omega, by simp; omega⟩, bt2 ⟨by omega, by simp; omega⟩, be1 ht, bt2 hto]
  simp only [cond_false]
  rw [bt1 hm, bt2 hk, bt2 hk]
theorem undo_d1 (hd : d.length ≤ 50) (ht : w64 (1 - t) = 1) (hto : 0 ≤ m.2.1 ∧ m.2.1 < c.length) (hm : m.1 < 0) (hk : 0 ≤ m.2.2.1 ∧ m.2.2.1 < h.length) :
    f55 9000 (r, (c, (a, h, ()), t, q, ()), key, d ++ [(m, pc, tk, false, qu, ky, ())], ()) = some (0, (r, (c.set m.2.1.toNat tk, (a, h.set m.2.2.1.toNat (w64 (rd 0 h m.2.2.1 + 1)), ()), w64 (1 - t), qu, ()), ky, d, ()), ()) := by
  unfold f55
  dsimp only
  rw [bn1 (by simp; omega)]
  simp only [len_app d _ hd, rd_lastU, first_app]
  rw [bt2 ⟨by omega, by simp; omega⟩, bt2 ⟨by omega, by simp; omega⟩, bn1 (by omega), be1 ht, bt2 hto]
  simp only [cond_false]
  rw [bt1 hm, bt2 hk, bt2 hk]
theorem undo_b0 (hd : d.length ≤ 50) (ht : w64 (1 - t) = 0) (hto : 0 ≤ m.2.1 ∧ m.2.1 < c.length) (hm : 0 ≤ m.1 ∧ m.1 < c.length) :
    f55 9000 (r, (c, (a, h, ()), t, q, ()), key, d ++ [(m, pc, tk, false, qu, ky, ())], ()) = some (0, (r, ((c.set m.2.1.toNat tk).set m.1.toNat pc, (a, h, ()), w64 (1 - t), qu, ()), ky, d, ()), ()) := by
  unfold f55
  dsimp only
  rw [bn1 (by simp; omega)]
  simp only [len_app d _ hd, rd_lastU, first_app]
  rw [bt2 ⟨by omega, by simp; omega⟩, bt2 ⟨by omega, by simp; omega⟩, be1 ht, bt2 hto]
  simp only [cond_false]
  rw [bf1 (by omega), bt2 ⟨hm.1, by simp; omega⟩]
theorem undo_b1 (hd : d.length ≤ 50) (ht : w64 (1 - t) = 1) (hto : 0 ≤ m.2.1 ∧ m.2.1 < c.length) (hm : 0 ≤ m.1 ∧ m.1 < c.length) :
    f55 9000 (r, (c, (a, h, ()), t, q, ()), key, d ++ [(m, pc, tk, false, qu, ky, ())], ()) = some (0, (r, ((c.set m.2.1.toNat tk).set m.1.toNat pc, (a, h, ()), w64 (1 - t), qu, ()), ky, d, ()), ()) := by
  unfold f55
  dsimp only
  rw [bn1 (by simp; omega)]
  simp only [len_app d _ hd, rd_lastU, first_app]
  rw [bt2 ⟨by omega, by simp; omega⟩, bt2 ⟨by omega, by simp; omega⟩, bn1 (by omega), be1 ht, bt2 hto]
  simp only [cond_false]
  rw [bf1 (by omega), bt2 ⟨hm.1, by simp; omega⟩]
theorem undo_k0 {kd : Int} (hkd : f65 9000 tk = some (kd, ())) (hd : d.length ≤ 50) (ht : w64 (1 - t) = 0) (hto : 0 ≤ m.2.1 ∧ m.2.1 < c.length) (hm : 0 ≤ m.1 ∧ m.1 < c.length) (hk : 0 ≤ kd ∧ kd < a.length) :
    f55 9000 (r, (c, (a, h, ()), t, q, ()), key, d ++ [(m, pc, tk, true, qu, ky, ())], ()) = some (0, (r, ((c.set m.2.1.toNat tk).set m.1.toNat pc, (a.set kd.toNat (w64 (rd 0 a kd - 1)), h, ()), w64 (1 - t), qu, ()), ky, d, ()), ()) := by
  unfold f55
  dsimp only
  rw [bn1 (by simp; omega)]
  simp only [len_app d _ hd, rd_lastU, first_app]
  rw [bt2 ⟨by omega, by simp; omega⟩, bt2 ⟨by omega, by simp; omega⟩, be1 ht, bt2 hto]
  simp only [cond_true, hkd, Option.bind_some]
  rw [bt2 hk, bt2 hk, bf1 (by omega), bt2 ⟨hm.1, by simp; omega⟩]
theorem undo_k1 {kd : Int} (hkd : f65 9000 tk = some (kd, ())) (hd : d.length ≤ 50) (ht : w64 (1 - t) = 1) (hto : 0 ≤ m.2.1 ∧ m.2.1 < c.length) (hm : 0 ≤ m.1 ∧ m.1 < c.length) (hk : 0 ≤ kd ∧ kd < h.length) :
    f55 9000 (r, (c, (a, h, ()), t, q, ()), key, d ++ [(m, pc, tk, true, qu, ky, ())], ()) = some (0, (r, ((c.set m.2.1.toNat tk).set m.1.toNat pc, (a, h.set kd.toNat (w64 (rd 0 h kd - 1)), ()), w64 (1 - t), qu, ()), ky, d, ()), ()) := by
  unfold f55
  dsimp only
  rw [bn1 (by simp; omega)]
  simp only [len_app d _ hd, rd_lastU, first_app]
  rw [bt2 ⟨by omega, by simp; omega⟩, bt2 ⟨by omega, by simp; omega⟩, bn1 (by omega), be1 ht, bt2 hto]
  simp only [cond_true, hkd, Option.bind_some]
  rw [bt2 hk, bt2 hk, bf1 (by omega), bt2 ⟨hm.1, by simp; omega⟩]
end
section
variable {r : RU} {p : PO}
theorem zt_ex (x : Int) : ∃ v, f58 9000 x = some (v, ()) := by
  unfold f58 f67
  rw [Option.bind_some]
  exact ⟨_, rfl⟩
theorem zh_ex (x y z : Int) : ∃ v, f60 9000 x y z = some (v, ()) := by
  unfold f60 f67
  rw [Option.bind_some]
  exact ⟨_, rfl⟩
theorem zs_ex (x y : Int) : ∃ v, f59 9000 x y = some (v, ()) := by
  unfold f59 f67
  cases y == 0
  · rw [cond_false, Option.bind_some]
    exact ⟨_, rfl⟩
  · exact ⟨0, rfl⟩
noncomputable def zt (x : Int) : Int := Classical.choose (zt_ex x)
noncomputable def zs (x y : Int) : Int := Classical.choose (zs_ex x y)
noncomputable def zh (x y z : Int) : Int := Classical.choose (zh_ex x y z)
theorem zt_eq (x : Int) : f58 9000 x = some (zt x, ()) := Classical.choose_spec (zt_ex x)
theorem zs_eq (x y : Int) : f59 9000 x y = some (zs x y, ()) := Classical.choose_spec (zs_ex x y)
theorem zh_eq (x y z : Int) : f60 9000 x y z = some (zh x y z, ()) := Classical.choose_spec (zh_ex x y z)
theorem znext_tot (hp : POK r p) (m : MV) (hm : MvOK r p m) (key : Int) : ∃ v, f64 9000 r p m key = some (v, ()) := by
  have hn := hp.ru.n6
  have ha := hp.a
  have hb := hp.b
  have hC : Bnd (2 * (r.2.2.2.1.length : Int)) p.1 := hp.cells
  obtain ⟨t0, t1, k0, k1, hcase⟩ := hm
  have hcc := rdz hC t0 t1
  unfold f64
  rw [zt_eq, Option.bind_some, zt_eq, Option.bind_some]
  rcases hcase with ⟨hd, hh, hz⟩ | ⟨g0, g1, _⟩
  · rw [bt1 (show m.1 < 0 by omega), zh_eq, Option.bind_some, bt2 ⟨t0, t1⟩, beq1 hz]
    unfold f66
    rw [Option.bind_some, zs_eq, Option.bind_some]
    exact ⟨_, rfl⟩
  · rw [bf1 (show ¬ m.1 < 0 by omega), bt2 ⟨g0, g1⟩, zs_eq, Option.bind_some, bt2 ⟨t0, t1⟩]
    by_cases c0 : rd 0 p.1 m.2.1 = 0
    · rw [beq1 c0]
      unfold f66
      rw [Option.bind_some, zs_eq, Option.bind_some]
      exact ⟨_, rfl⟩
    · rw [bne1 c0, zs_eq, Option.bind_some]
      generalize r.2.2.2.2.2.2.1 = kp
      cases kp
      · rw [cond_false]
        unfold f66
        rw [Option.bind_some, zs_eq, Option.bind_some]
        exact ⟨_, rfl⟩
      · rw [cond_true]
        obtain ⟨kd, hkd, d1, d2⟩ := kind_eq (rd 0 p.1 m.2.1) r.2.2.2.1.length (by omega) hcc.2 (by omega)
        rcases hp.turn with ht | ht
        · rw [be1 ht, hkd, Option.bind_some, bt2 ⟨d1, by omega⟩]
          cases decide (rd 0 p.2.1.1 kd < 1000)
          · rw [cond_false]
            unfold f66
            rw [Option.bind_some, zs_eq, Option.bind_some]
            exact ⟨_, rfl⟩
          · rw [cond_true, Option.bind_some, zh_eq, Option.bind_some]
            unfold f66
            rw [Option.bind_some, zs_eq, Option.bind_some]
            exact ⟨_, rfl⟩
        · rw [bn1 (show p.2.2.1 ≠ 0 by omega), be1 ht, hkd, Option.bind_some, bt2 ⟨d1, by omega⟩]
          cases decide (rd 0 p.2.1.2.1 kd < 1000)
          · rw [cond_false]
            unfold f66
            rw [Option.bind_some, zs_eq, Option.bind_some]
            exact ⟨_, rfl⟩
          · rw [cond_true, Option.bind_some, zh_eq, Option.bind_some]
            unfold f66
            rw [Option.bind_some, zs_eq, Option.bind_some]
            exact ⟨_, rfl⟩
/-- A legal move: made, and taken back. -/
theorem make_tot (hp : POK r p) (m : MV) (hm : MvOK r p m) (key : Int) (d : List UN) (hd : d.length ≤ 50) :
    ∃ p' key' u, f53 9000 (r, p, key, d, ()) m = some ((r, p', key', d ++ [u], ()), ()) ∧ POK r p' ∧ f55 9000 (r, p', key', d ++ [u], ()) = some (0, (r, p, key, d, ()), ()) := by
  have hl := hp.len64
  have hn := hp.ru.n6
  have ha := hp.a
  have hb := hp.b
  have hqu := qu_ok hp.quiet
  have hA : Bnd 1000 p.2.1.1 := hp.ha
  have hB : Bnd 1000 p.2.1.2.1 := hp.hb
  have hC : Bnd (2 * (r.2.2.2.1.length : Int)) p.1 := hp.cells
  obtain ⟨v, hv⟩ := znext_tot hp m hm key
  obtain ⟨t0, t1, k0, k1, hcase⟩ := hm
  have hcl := cell_ok ⟨k0, k1⟩ hp.turn hn
  have hcc := rdz hC t0 t1
  have hroom : ∀ u : UN, (d.length + [u].length) * 64 ≤ roomN := fun u => by simp only [List.length_singleton]; unfold roomN; omega
  unfold f53
  dsimp only
  rw [hv]
  simp only [Option.bind_some]
  have z2 : (0 : Int) ≤ 0 ∧ (0 : Int) ≤ 200 := ⟨by decide, by decide⟩
  rw [bt2 ⟨t0, t1⟩]
  rcases hcase with ⟨hdr, hh, hz⟩ | ⟨g0, g1, hx1, hx2, hx3, _⟩
  · have hdr : m.1 < 0 := by omega
    simp only [hz]
    rcases hp.turn with ht | ht
    · have eh : hnd p = p.2.1.1 := by unfold hnd; rw [ht]; rfl
      rw [eh] at hh
      have hx := rdz hA k0 (by omega)
      have hw : w64 (rd 0 p.2.1.1 m.2.2.1 - 1) = rd 0 p.2.1.1 m.2.2.1 - 1 := ws (by omega)
      rw [be1 ht, bt1 hdr, bt2 ⟨k0, by omega⟩, bt2 ⟨k0, by omega⟩, beq1 rfl]
      unfold f66
      simp only [Option.bind_some]
      rw [bt2 ⟨t0, t1⟩, bt1 (hroom _)]
      refine ⟨_, _, _, rfl, pok_mk hp (by simp) (hC.set _ hcl.1 hcl.2) (by simp) (hA.set _ (by omega) (by omega)) rfl hB z2, ?_⟩
      refine (undo_d0 hd (by rw [ht]; decide) ⟨t0, by simp; omega⟩ hdr ⟨k0, by simp; omega⟩).trans ?_
      rw [rd_seti k0 (by omega), hw, show w64 (rd 0 p.2.1.1 m.2.2.1 - 1 + 1) = rd 0 p.2.1.1 m.2.2.1 by rw [ws (by omega)]; omega, set_back k0 (by omega), ← hz, set_back t0 t1, show w64 (1 - w64 (1 - p.2.2.1)) = p.2.2.1 by rw [ht]; decide]
    · have eh : hnd p = p.2.1.2.1 := by unfold hnd; rw [ht]; rfl
      rw [eh] at hh
      have hx := rdz hB k0 (by omega)
      have hw : w64 (rd 0 p.2.1.2.1 m.2.2.1 - 1) = rd 0 p.2.1.2.1 m.2.2.1 - 1 := ws (by omega)
      rw [bn1 (show p.2.2.1 ≠ 0 by omega), be1 ht, bt1 hdr, bt2 ⟨k0, by omega⟩, bt2 ⟨k0, by omega⟩, beq1 rfl]
      unfold f66
      simp only [Option.bind_some]
      rw [bt2 ⟨t0, t1⟩, bt1 (hroom _)]
      refine ⟨_, _, _, rfl, pok_mk hp (by simp) (hC.set _ hcl.1 hcl.2) rfl hA (by simp) (hB.set _ (by omega) (by omega)) z2, ?_⟩
      refine (undo_d1 hd (by rw [ht]; decide) ⟨t0, by simp; omega⟩ hdr ⟨k0, by simp; omega⟩).trans ?_
      rw [rd_seti k0 (by omega), hw, show w64 (rd 0 p.2.1.2.1 m.2.2.1 - 1 + 1) = rd 0 p.2.1.2.1 m.2.2.1 by rw [ws (by omega)]; omega, set_back k0 (by omega), ← hz, set_back t0 t1, show w64 (1 - w64 (1 - p.2.2.1)) = p.2.2.1 by rw [ht]; decide]
  · have hC' : Bnd (2 * (r.2.2.2.1.length : Int)) (p.1.set m.1.toNat 0) := hC.set _ (by omega) (by omega)
    have hne : m.1 ≠ m.2.1 := by
      intro e
      rw [← e] at hx3
      rcases hx3 with h | h
      · omega
      · rcases hp.turn with ht | ht <;> omega
    have hback := fun v x => cells_back (c := p.1) g0 g1 t0 t1 hne v x
    have hle1 : ∀ x y : Int, m.2.1 < (((p.1.set m.1.toNat x).set m.2.1.toNat y).length : Int) := fun x y => by simp; omega
    have hle2 : ∀ x y : Int, m.1 < (((p.1.set m.1.toNat x).set m.2.1.toNat y).length : Int) := fun x y => by simp; omega
    by_cases c0 : rd 0 p.1 m.2.1 = 0
    · rcases hp.turn with ht | ht
      · rw [be1 ht, bf1 (show ¬ m.1 < 0 by omega), bt2 ⟨g0, g1⟩, bt2 ⟨g0, g1⟩, beq1 c0]
        unfold f66
        simp only [Option.bind_some]
        rw [bt2 ⟨t0, by simp; omega⟩, bt1 (hroom _)]
        refine ⟨_, _, _, rfl, pok_mk hp (by simp) (hC'.set _ hcl.1 hcl.2) rfl hA rfl hB hqu, ?_⟩
        refine (undo_b0 hd (by rw [ht]; decide) ⟨t0, hle1 _ _⟩ ⟨g0, hle2 _ _⟩).trans ?_
        rw [hback, show w64 (1 - w64 (1 - p.2.2.1)) = p.2.2.1 by rw [ht]; decide]
      · rw [bn1 (show p.2.2.1 ≠ 0 by omega), be1 ht, bf1 (show ¬ m.1 < 0 by omega), bt2 ⟨g0, g1⟩, bt2 ⟨g0, g1⟩, beq1 c0]
        unfold f66
        simp only [Option.bind_some]
        rw [bt2 ⟨t0, by simp; omega⟩, bt1 (hroom _)]
        refine ⟨_, _, _, rfl, pok_mk hp (by simp) (hC'.set _ hcl.1 hcl.2) rfl hA rfl hB hqu, ?_⟩
        refine (undo_b1 hd (by rw [ht]; decide) ⟨t0, hle1 _ _⟩ ⟨g0, hle2 _ _⟩).trans ?_
        rw [hback, show w64 (1 - w64 (1 - p.2.2.1)) = p.2.2.1 by rw [ht]; decide]
    · obtain ⟨kd, hkd, d1, d2⟩ := kind_eq (rd 0 p.1 m.2.1) r.2.2.2.1.length (by omega) hcc.2 (by omega)
      rcases hp.turn with ht | ht
      · rw [be1 ht, bf1 (show ¬ m.1 < 0 by omega), bt2 ⟨g0, g1⟩, bt2 ⟨g0, g1⟩, bne1 c0, hkd]
        simp only [Option.bind_some]
        generalize r.2.2.2.2.2.2.1 = kp
        cases kp
        · simp only [cond_false]
          unfold f66
          simp only [Option.bind_some]
          rw [bt2 ⟨t0, by simp; omega⟩, bt1 (hroom _)]
          refine ⟨_, _, _, rfl, pok_mk hp (by simp) (hC'.set _ hcl.1 hcl.2) rfl hA rfl hB z2, ?_⟩
          refine (undo_b0 hd (by rw [ht]; decide) ⟨t0, hle1 _ _⟩ ⟨g0, hle2 _ _⟩).trans ?_
          rw [hback, show w64 (1 - w64 (1 - p.2.2.1)) = p.2.2.1 by rw [ht]; decide]
        · simp only [cond_true]
          rw [bt2 ⟨d1, by omega⟩]
          by_cases hk : rd 0 p.2.1.1 kd < 1000
          · rw [bt1 hk, bt2 ⟨d1, by omega⟩, bt2 ⟨d1, by omega⟩]
            unfold f66
            simp only [Option.bind_some]
            rw [bt2 ⟨t0, by simp; omega⟩, bt1 (hroom _)]
            have hx := rdz hA d1 (by omega)
            have hw : w64 (rd 0 p.2.1.1 kd + 1) = rd 0 p.2.1.1 kd + 1 := ws (by omega)
            refine ⟨_, _, _, rfl, pok_mk hp (by simp) (hC'.set _ hcl.1 hcl.2) (by simp) (hA.set _ (by omega) (by omega)) rfl hB z2, ?_⟩
            refine (undo_k0 hkd hd (by rw [ht]; decide) ⟨t0, hle1 _ _⟩ ⟨g0, hle2 _ _⟩ ⟨d1, by simp; omega⟩).trans ?_
            rw [hback, rd_seti d1 (by omega), hw, show w64 (rd 0 p.2.1.1 kd + 1 - 1) = rd 0 p.2.1.1 kd by rw [ws (by omega)]; omega, set_back d1 (by omega), show w64 (1 - w64 (1 - p.2.2.1)) = p.2.2.1 by rw [ht]; decide]
          · rw [bf1 hk]
            unfold f66
            simp only [Option.bind_some]
            rw [bt2 ⟨t0, by simp; omega⟩, bt1 (hroom _)]
            refine ⟨_, _, _, rfl, pok_mk hp (by simp) (hC'.set _ hcl.1 hcl.2) rfl hA rfl hB z2, ?_⟩
            refine (undo_b0 hd (by rw [ht]; decide) ⟨t0, hle1 _ _⟩ ⟨g0, hle2 _ _⟩).trans ?_
            rw [hback, show w64 (1 - w64 (1 - p.2.2.1)) = p.2.2.1 by rw [ht]; decide]
      · rw [bn1 (show p.2.2.1 ≠ 0 by omega), be1 ht, bf1 (show ¬ m.1 < 0 by omega), bt2 ⟨g0, g1⟩, bt2 ⟨g0, g1⟩, bne1 c0, hkd]
        simp only [Option.bind_some]
        generalize r.2.2.2.2.2.2.1 = kp
        cases kp
        · simp only [cond_false]
          unfold f66
          simp only [Option.bind_some]
          rw [bt2 ⟨t0, by simp; omega⟩, bt1 (hroom _)]
          refine ⟨_, _, _, rfl, pok_mk hp (by simp) (hC'.set _ hcl.1 hcl.2) rfl hA rfl hB z2, ?_⟩
          refine (undo_b1 hd (by rw [ht]; decide) ⟨t0, hle1 _ _⟩ ⟨g0, hle2 _ _⟩).trans ?_
          rw [hback, show w64 (1 - w64 (1 - p.2.2.1)) = p.2.2.1 by rw [ht]; decide]
        · simp only [cond_true]
          rw [bt2 ⟨d1, by omega⟩]
          by_cases hk : rd 0 p.2.1.2.1 kd < 1000
          · rw [bt1 hk, bt2 ⟨d1, by omega⟩, bt2 ⟨d1, by omega⟩]
            unfold f66
            simp only [Option.bind_some]
            rw [bt2 ⟨t0, by simp; omega⟩, bt1 (hroom _)]
            have hx := rdz hB d1 (by omega)
            have hw : w64 (rd 0 p.2.1.2.1 kd + 1) = rd 0 p.2.1.2.1 kd + 1 := ws (by omega)
            refine ⟨_, _, _, rfl, pok_mk hp (by simp) (hC'.set _ hcl.1 hcl.2) rfl hA (by simp) (hB.set _ (by omega) (by omega)) z2, ?_⟩
            refine (undo_k1 hkd hd (by rw [ht]; decide) ⟨t0, hle1 _ _⟩ ⟨g0, hle2 _ _⟩ ⟨d1, by simp; omega⟩).trans ?_
            rw [hback, rd_seti d1 (by omega), hw, show w64 (rd 0 p.2.1.2.1 kd + 1 - 1) = rd 0 p.2.1.2.1 kd by rw [ws (by omega)]; omega, set_back d1 (by omega), show w64 (1 - w64 (1 - p.2.2.1)) = p.2.2.1 by rw [ht]; decide]
          · rw [bf1 hk]
            unfold f66
            simp only [Option.bind_some]
            rw [bt2 ⟨t0, by simp; omega⟩, bt1 (hroom _)]
            refine ⟨_, _, _, rfl, pok_mk hp (by simp) (hC'.set _ hcl.1 hcl.2) rfl hA rfl hB z2, ?_⟩
            refine (undo_b1 hd (by rw [ht]; decide) ⟨t0, hle1 _ _⟩ ⟨g0, hle2 _ _⟩).trans ?_
            rw [hback, show w64 (1 - w64 (1 - p.2.2.1)) = p.2.2.1 by rw [ht]; decide]
end
end Go.Proofs.Ytnjjioeehbanjaa.G
