import Derived.Test.YticbohfmkiafiaaVM7
namespace Go.VM
open Go.RowKit
section
variable {P : Program} {w : World} {A : Nat → Prop} {μ : Mu} {h : Heap}
theorem toNat_lt (i : Int) (n : Nat) (h0 : 0 ≤ i) (h1 : i < (n : Int)) : i.toNat < n := by omega
theorem unK_sound {op : UnOp} {x v : V} {xv : Value} (hk : unK op x some = some v) (hx : VRep w A μ h x xv) :
    ∃ cv, (Op.unary op xv).run P w = .ok cv w ∧ VRep w A μ h v cv := by
  unfold unK at hk
  split at hk <;> cases hk
  · rw [vrep_int hx]; exact ⟨_, rfl, rep_int ..⟩
  · rw [vrep_int hx]; exact ⟨_, rfl, rep_int ..⟩
  · rw [vrep_bool hx]; exact ⟨_, rfl, rep_bool _⟩
theorem convK_sound {src dst : TypeId} {x v : V} {xv : Value} (hk : convK P src dst x some = some v) (hx : VRep w A μ h x xv) :
    ∃ cv, (convert src dst xv).run P w = .ok cv w ∧ VRep w A μ h v cv := by
  unfold convK at hk
  split at hk <;> cases hk
  · rename_i h1 h2
    rw [vrep_int hx]
    exact ⟨_, by simp [convert, run_underlying h1, run_underlying h2, Conv.intToInt], rep_int ..⟩
  · rename_i h1 h2
    rw [vrep_str hx]
    exact ⟨_, by simp [convert, run_underlying h1, run_underlying h2], rep_str ..⟩
  · rename_i h1 h2
    rw [vrep_int hx]
    exact ⟨_, by simp [convert, run_underlying h1, run_underlying h2, Conv.intToString, encS], rep_str ..⟩
theorem opFieldAddr_sound {s : TypeId} {x v : V} {f : Nat} {xv : Value} (hk : opFieldAddr P s x f some = some v) (hx : VRep w A μ h x xv) :
    ∃ cv, (Instr.fieldAt s xv f).run P w = .ok cv w ∧ VRep w A μ h v cv := by
  unfold opFieldAddr at hk
  split at hk
  · rename_i fd hf
    split at hk
    · rename_i i hi
      have hz0 := (cond_none hk).1
      have hk2 := (cond_none hk).2
      clear hk
      have hz : i.size ≠ 0 := fun e => by rw [e] at hz0; cases hz0
      rw [nth_eq] at hf
      unfold fieldsOf at hf
      split at hf
      · rename_i fs hu
        have hf' : fs[f]? = some fd := by rw [← Array.getElem?_toList]; exact hf
        have run : ∀ a : Addr, (Instr.fieldAt s (.pointer (some a)) f).run P w = .ok (.pointer (some (a.add fd.offset))) w := by
          intro a
          simp [Instr.fieldAt, run_underlying hu, hf', Instr.sureAddr, fieldPlace, sizeOf, typeInfo, hi, hz]
        split at hk2 <;> try (cases hk2; done)
        · rename_i id off
          cases hk2
          obtain ⟨blk, b, c, hb, hm, rfl⟩ := VRep.to_c (by simp) hx
          exact ⟨_, run _, VRep.of_c (c := .ptr id (off + fd.offset)) ⟨blk, b, c, hb, hm, by rw [add_lit]⟩⟩
        · rename_i id j off
          cases hk2
          obtain ⟨blk, hb, ⟨a, rfl⟩, hr⟩ := VRep.to_c (by simp) hx
          refine ⟨_, run _, VRep.of_c (c := .eptr id j (off + fd.offset)) ⟨blk, hb, ⟨_, rfl⟩, fun t xs fz he => ?_⟩⟩
          obtain ⟨h0, h1, b, c, hm, hv⟩ := hr t xs fz he
          refine ⟨h0, h1, b, c, hm, ?_⟩
          cases hv
          rw [add_lit, Nat.add_assoc]
        · rename_i u y off
          cases hk2
          obtain ⟨a, cs, rfl, hf2, hc⟩ := VRep.to_c (by simp) hx
          exact ⟨_, run _, VRep.of_c (c := .fptr u y (off + fd.offset)) ⟨a, cs, by rw [add_add], hf2, hc⟩⟩
      · simp at hf
    · cases hk
  · cases hk
theorem partC_sound {t : TypeId} {off : Nat} {cs : List C} {v : V} {vs : Array Value} (hl : loadCs P t off cs some = some v) (hr : CsRep w A μ h cs vs.toList) :
    ∃ cv, (part t vs off).run P w = .ok cv w ∧ VRep w A μ h v cv := by
  unfold loadCs at hl
  split at hl
  · rename_i i d hi hu
    cases hd : aggD d
    · rw [hd] at hl
      simp only [cond_false] at hl
      split at hl
      · rename_i c hc
        cases hl
        rw [nth_eq] at hc
        obtain ⟨u, hu', hcu⟩ := All2.get hr hc
        have hvo : vs[off]? = some u := by rw [← Array.getElem?_toList]; exact hu'
        exact ⟨u, by simp [part, run_isAgg hu, hd, hvo], VRep.of_c hcu⟩
      · cases hl
    · rw [hd] at hl
      simp only [cond_true] at hl
      obtain ⟨hb, hl⟩ := cond_some hl
      cases hl
      have hle : off + i.size ≤ cs.length := by rw [← len_eq]; exact Nat.le_of_ble_eq_true hb
      obtain ⟨v, hrun, hv, _⟩ := run_part (P := P) hi hu vs off hr hle (.inl hd)
      rw [hd] at hv
      exact ⟨v, hrun, hv⟩
  · cases hl
theorem opField_sound {t : TypeId} {x v : V} {f : Nat} {xv : Value} (hk : opField P t x f some = some v) (hx : VRep w A μ h x xv) :
    ∃ cv, (Instr.field t xv f).run P w = .ok cv w ∧ VRep w A μ h v cv := by
  unfold opField at hk
  split at hk
  · rename_i cs fd hf
    obtain ⟨vs, rfl, hcs⟩ := hx
    rw [nth_eq] at hf
    unfold fieldsOf at hf
    split at hf
    · rename_i fs hu
      have hf' : fs[f]? = some fd := by rw [← Array.getElem?_toList]; exact hf
      obtain ⟨cv, hrun, hv⟩ := partC_sound hk hcs
      exact ⟨cv, by simp [Instr.field, run_underlying hu, hf', asAgg, hrun], hv⟩
    · simp at hf
  · cases hk
theorem splitK_some {i : Int} {α : Type} {g : Nat → Option α} {r : α} : ∀ {n m : Nat}, splitK i g n m = some r → ∃ j, m ≤ j ∧ j < m + n ∧ i = (j : Int) ∧ g j = some r
  | 0, m, k => by cases k
  | n + 1, m, k => by
    unfold splitK at k
    cases hc : (i == (m : Int))
    · rw [hc] at k
      obtain ⟨j, h1, h2, h3, h4⟩ := splitK_some (n := n) (m := m + 1) k
      exact ⟨j, by omega, by omega, h3, h4⟩
    · rw [hc] at k
      exact ⟨m, Nat.le_refl _, by omega, by simpa using hc, k⟩
theorem win_pos {i : Int} {n : Nat} (h0 : 0 ≤ i) (h1 : i < (n : Int)) : 0 < n := by omega
theorem win_ge {i : Int} {lo : Nat} (h0 : 0 ≤ i) : 0 ≤ (lo : Int) + i := by omega
theorem win_lt {i : Int} {lo n L : Nat} (h1 : i < (n : Int)) (h : lo + n ≤ L) : (lo : Int) + i < (L : Int) := by omega
theorem win_nat {i : Int} {lo : Nat} (h0 : 0 ≤ i) : ((lo : Int) + i).toNat = lo + i.toNat := by omega
theorem opIndexAddr_sound (hB : ∀ id blk, h id = some blk → BRep w A μ h (μ id) blk) {lim : Option Nat} {t : TypeId} {x i v : V} {xv iv : Value} (hk : opIndexAddr P h lim t x i some = some v)
    (hx : VRep w A μ h x xv) (hi : VRep w A μ h i iv) : ∃ cv, (Instr.indexAt t xv iv).run P w = .ok cv w ∧ VRep w A μ h v cv := by
  unfold opIndexAddr at hk
  split at hk
  · rename_i k i
    rw [vrep_int hi]
    split at hk
    · rename_i e hu
      split at hk
      · rename_i ie hie
        have run : ∀ (a : Addr) (n c : Nat), 0 ≤ i → i < (n : Int) → (Instr.indexAt t (.slice (some a) n c) (.int k i)).run P w = .ok (.pointer (some (a.add (i.toNat * ie.size)))) w := by
          intro a n c h0 h1
          simp [Instr.indexAt, asIntOf, run_underlying hu, h0, h1, sizeOf, typeInfo, hie]
        split at hk
        · rename_i u xs
          have hs := Nat.eq_of_beq_eq_true (cond_some hk).1
          have hk2 := (cond_some hk).2
          clear hk
          have hc := (cond_some hk2).1
          have hk3 := (cond_some hk2).2
          clear hk2
          simp only [Bool.and_eq_true, decide_eq_true_eq] at hc
          cases hk3
          obtain ⟨ad, cap, hv, _, _, _, hxx⟩ := VRep.to_c (by simp) hx
          simp at hv
          subst hv
          obtain ⟨a, ec, rfl, hf, hcell⟩ := hxx i.toNat _ (rd_get u.dflt xs i hc.1 hc.2)
          refine ⟨_, run a _ _ hc.1 hc.2, VRep.of_c (c := .fptr u (rd u.dflt xs i) 0) ⟨a.add (i.toNat * u.sz), ec, by rw [hs, add_add, Nat.add_zero], hf, fun j y hj => ?_⟩⟩
          rw [add_add, add_block]
          exact hcell j y hj
        · rename_i id
          split at hk
          · rename_i u xs fz hb
            have hb := rdH_some hb
            have hs := Nat.eq_of_beq_eq_true (cond_some hk).1
            have hk2 := (cond_some hk).2
            clear hk
            have hc := (cond_some hk2).1
            have hk3 := (cond_some hk2).2
            clear hk2
            simp only [Bool.and_eq_true, decide_eq_true_eq] at hc
            cases hk3
            obtain ⟨blk, hb', _, hr⟩ := VRep.to_c (by simp) hx
            rw [hb] at hb'
            cases hb'
            have hbr := hB id _ hb
            have hv := hr u xs fz rfl
            cases hm : μ id with
            | none =>
              rw [hm] at hbr
              have : xs = [] := hbr.2
              subst this
              exact absurd hc.2 (by simp; exact hc.1)
            | some p =>
              obtain ⟨b, c⟩ := p
              rw [hm] at hv
              have hv : xv = _ := hv
              subst hv
              refine ⟨_, run _ _ _ hc.1 hc.2, VRep.of_c (c := .eptr id i 0) ⟨_, hb, ⟨_, rfl⟩, fun t xs' fz' he => ?_⟩⟩
              cases he
              exact ⟨hc.1, hc.2, b, c, hm, by rw [add_lit, hs]; simp⟩
          · cases hk
        · rename_i id n
          split at hk
          · rename_i u xs fz hb
            have hb := rdH_some hb
            have hs := Nat.eq_of_beq_eq_true (cond_some hk).1
            have hk2 := (cond_some hk).2
            clear hk
            have hc := (cond_some hk2).1
            have hk3 := (cond_some hk2).2
            clear hk2
            simp only [Bool.and_eq_true, decide_eq_true_eq] at hc
            cases hk3
            obtain ⟨blk, hb', _, hr⟩ := VRep.to_c (by simp) hx
            rw [hb] at hb'
            cases hb'
            have hbr := hB id _ hb
            obtain ⟨hn, hv⟩ := hr u xs fz rfl
            cases hm : μ id with
            | none =>
              rw [hm] at hbr
              have : xs = [] := hbr.2
              subst this
              have hn0 : n = 0 := Nat.le_zero.1 hn
              subst hn0
              exact absurd hc.2 (by simp; exact hc.1)
            | some p =>
              obtain ⟨b, c⟩ := p
              rw [hm] at hv
              have hv : xv = _ := hv
              subst hv
              refine ⟨_, run _ _ _ hc.1 hc.2, VRep.of_c (c := .eptr id i 0) ⟨_, hb, ⟨_, rfl⟩, fun t xs' fz' he => ?_⟩⟩
              cases he
              exact ⟨hc.1, Int.lt_of_lt_of_le hc.2 (Int.ofNat_le.2 hn), b, c, hm, by rw [add_lit, hs]; simp⟩
          · cases hk
        · rename_i id lo n z
          split at hk
          · rename_i u xs fz hb
            have hb := rdH_some hb
            have hs0 := (cond_some hk).1
            rw [Bool.and_eq_true] at hs0
            have hs := Nat.eq_of_beq_eq_true hs0.1
            have hsz := Nat.eq_of_beq_eq_true hs0.2
            have hk2 := (cond_some hk).2
            clear hk
            have hc := (cond_some hk2).1
            have hk3 := (cond_some hk2).2
            clear hk2
            simp only [Bool.and_eq_true, decide_eq_true_eq] at hc
            cases hk3
            obtain ⟨blk, ad, c', hb', rfl, hn, hr⟩ := VRep.to_c (by simp) hx
            rw [hb] at hb'
            cases hb'
            obtain ⟨hle, b, c, hm, rfl⟩ := hr u xs fz rfl hsz (win_pos hc.1 hc.2)
            refine ⟨_, run _ _ _ hc.1 hc.2, VRep.of_c (c := .eptr id ((lo : Int) + i) 0) ⟨_, hb, ⟨_, rfl⟩, fun t xs' fz' he => ?_⟩⟩
            cases he
            refine ⟨win_ge hc.1, win_lt hc.2 hle, b, c, hm, ?_⟩
            rw [add_lit, hs, win_nat hc.1, Nat.add_mul, hsz, Nat.add_zero]
          · cases hk
        · cases hk
      · cases hk
    · rename_i n e hu
      split at hk
      · rename_i ie hie
        have run : ∀ (a : Addr) (j : Nat), j < n → i = (j : Int) → (Instr.indexAt t (.pointer (some a)) (.int k i)).run P w = .ok (.pointer (some (a.add (j * ie.size)))) w := by
          intro a j hj hij
          subst hij
          simp [Instr.indexAt, asIntOf, run_underlying hu, Instr.sureAddr, sizeOf, typeInfo, hie, hj]
        split at hk <;> try (cases hk; done)
        · rename_i id off
          obtain ⟨j, _, hj, hij, hv⟩ := splitK_some hk
          cases hv
          obtain ⟨blk, b, c, hb, hm, rfl⟩ := VRep.to_c (by simp) hx
          exact ⟨_, run _ j (by omega) hij, VRep.of_c (c := .ptr id (off + j * ie.size)) ⟨blk, b, c, hb, hm, by rw [add_lit]⟩⟩
        · rename_i id m off
          obtain ⟨j, _, hj, hij, hv⟩ := splitK_some hk
          cases hv
          obtain ⟨blk, hb, ⟨a, rfl⟩, hr⟩ := VRep.to_c (by simp) hx
          refine ⟨_, run _ j (by omega) hij, VRep.of_c (c := .eptr id m (off + j * ie.size)) ⟨blk, hb, ⟨_, rfl⟩, fun t xs fz he => ?_⟩⟩
          obtain ⟨h0, h1, b, c, hm, hv⟩ := hr t xs fz he
          refine ⟨h0, h1, b, c, hm, ?_⟩
          cases hv
          rw [add_lit, Nat.add_assoc]
        · rename_i u y off
          obtain ⟨j, _, hj, hij, hv⟩ := splitK_some hk
          cases hv
          obtain ⟨a, cs, rfl, hf2, hc⟩ := VRep.to_c (by simp) hx
          exact ⟨_, run _ j (by omega) hij, VRep.of_c (c := .fptr u y (off + j * ie.size)) ⟨a, cs, by rw [add_add], hf2, hc⟩⟩
      · cases hk
    · cases hk
  · cases hk
theorem opIndex_sound {t : TypeId} {x i v : V} {xv iv : Value} (hk : opIndex P t x i some = some v) (hx : VRep w A μ h x xv) (hi : VRep w A μ h i iv) :
    ∃ cv, (Instr.index t xv iv).run P w = .ok cv w ∧ VRep w A μ h v cv := by
  unfold opIndex at hk
  split at hk
  · rename_i k i
    rw [vrep_int hi]
    split at hk
    · rename_i s hu
      have hc := (cond_some hk).1
      have hk2 := (cond_some hk).2
      clear hk
      simp only [Bool.and_eq_true, decide_eq_true_eq] at hc
      cases hk2
      rw [vrep_str hx]
      have hlt := toNat_lt i (ByteArray.size s) hc.1 hc.2
      refine ⟨.int .u8 (bt s i), ?_, rep_int ..⟩
      simp [Instr.index, asIntOf, run_underlying hu, hc.1, bt, hlt]
    · rename_i n e cs hu
      split at hk
      · rename_i ie hie
        obtain ⟨j, _, hj, hij, hv⟩ := splitK_some hk
        obtain ⟨vs, rfl, hcs⟩ := hx
        obtain ⟨cv, hrun, hr⟩ := partC_sound hv hcs
        refine ⟨cv, ?_, hr⟩
        subst hij
        simp [Instr.index, asIntOf, run_underlying hu, sizeOf, typeInfo, hie, show j < n by omega, hrun]
      · cases hk
    · cases hk
  · cases hk
theorem opExtract_sound {x v : V} {i : Nat} {xv : Value} (hk : opExtract x i some = some v) (hx : VRep w A μ h x xv) :
    ∃ cv, (Instr.extract xv i).run P w = .ok cv w ∧ VRep w A μ h v cv := by
  unfold opExtract at hk
  split at hk
  · rename_i vs
    obtain ⟨us, rfl, hr⟩ := hx
    rw [nth_eq] at hk
    split at hk
    · rename_i c hc
      cases hk
      obtain ⟨u, hu, hcu⟩ := All2.get hr hc
      have hu' : us[i]? = some u := by rw [← Array.getElem?_toList]; exact hu
      refine ⟨u, by simp [Instr.extract, hu'], ?_⟩
      cases c <;> first | trivial | exact hcu
    · rename_i cs hc
      cases hk
      obtain ⟨u, hu, hcu⟩ := All2.get hr hc
      have hu' : us[i]? = some u := by rw [← Array.getElem?_toList]; exact hu
      exact ⟨u, by simp [Instr.extract, hu'], hcu⟩
    · cases hk
  · cases hk
theorem opLen_sound (hB : ∀ id blk, h id = some blk → BRep w A μ h (μ id) blk) {lim : Option Nat} {t ty : TypeId} {x v : V} {xv : Value} (hk : opLen P h lim t x some = some v) (hx : VRep w A μ h x xv) :
    ∃ cv, (Builtin.len_ #[t] ty #[xv]).run P w = .ok cv w ∧ VRep w A μ h v cv := by
  unfold opLen at hk
  split at hk
  · rename_i s hu
    cases hk
    rw [vrep_str hx]
    exact ⟨_, by simp [Builtin.len_, run_underlying hu]; rfl, rep_int ..⟩
  · rename_i e u xs hu
    cases hk
    obtain ⟨ad, cap, hv, _⟩ := VRep.to_c (by simp) hx
    simp at hv
    subst hv
    exact ⟨_, by simp [Builtin.len_, run_underlying hu]; rfl, rep_int ..⟩
  · rename_i e hu
    cases hk
    rw [show xv = .slice none 0 0 from VRep.to_c (by simp) hx]
    exact ⟨_, by simp [Builtin.len_, run_underlying hu]; rfl, rep_int ..⟩
  · rename_i e id hu
    split at hk
    · rename_i u xs fz hb
      have hb := rdH_some hb
      cases hk
      obtain ⟨blk, hb', _, hr⟩ := VRep.to_c (by simp) hx
      rw [hb] at hb'
      cases hb'
      have hv := hr u xs fz rfl
      have hbr := hB id _ hb
      cases hm : μ id with
      | none =>
        rw [hm] at hbr hv
        have : xs = [] := hbr.2
        subst this
        obtain ⟨_, ad, rfl⟩ := hv
        exact ⟨_, by simp [Builtin.len_, run_underlying hu]; rfl, rep_int ..⟩
      | some p =>
        obtain ⟨b, c⟩ := p
        rw [hm] at hv
        have hv : xv = _ := hv
        subst hv
        exact ⟨_, by simp [Builtin.len_, run_underlying hu]; rfl, rep_int ..⟩
    · cases hk
  · rename_i e id n hu
    split at hk
    · rename_i u xs fz hb
      have hb := rdH_some hb
      cases hk
      obtain ⟨blk, hb', _, hr⟩ := VRep.to_c (by simp) hx
      rw [hb] at hb'
      cases hb'
      obtain ⟨hn, hv⟩ := hr u xs fz rfl
      cases hm : μ id with
      | none =>
        rw [hm] at hv
        obtain ⟨rfl, ad, rfl⟩ := hv
        exact ⟨_, by simp [Builtin.len_, run_underlying hu]; rfl, rep_int ..⟩
      | some p =>
        obtain ⟨b, c⟩ := p
        rw [hm] at hv
        have hv : xv = _ := hv
        subst hv
        exact ⟨_, by simp [Builtin.len_, run_underlying hu]; rfl, rep_int ..⟩
    · cases hk
  · rename_i e id lo n z hu
    cases hk
    obtain ⟨blk, ad, c', hb', rfl, _⟩ := VRep.to_c (by simp) hx
    exact ⟨_, by simp [Builtin.len_, run_underlying hu]; rfl, rep_int ..⟩
  · rename_i n e hu
    cases hk
    exact ⟨_, by simp [Builtin.len_, run_underlying hu]; rfl, rep_int ..⟩
  · cases hk
end
end Go.VM
