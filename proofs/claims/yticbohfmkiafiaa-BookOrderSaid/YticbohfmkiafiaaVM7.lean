import Derived.Test.YticbohfmkiafiaaVM6
import Derived.Laws.Slices
import Derived.Laws.Strings3
namespace Go.VM
open Go.RowKit
section
variable {P : Program} {w : World} {A : Nat → Prop} {μ : Mu} {h : Heap}
theorem nilB_cons {α : Type} {xs : List α} (h : nilB xs = false) : ∃ x r, xs = x :: r := by
  cases xs with
  | nil => cases h
  | cons x r => exact ⟨x, r, rfl⟩
theorem eqNil_sound (hB : ∀ id blk, h id = some blk → BRep w A μ h (μ id) blk) {c : C} {v : Value} {neg : Bool} {y : V} (hr : CRep w A μ h c v) (he : eqNilK h c (fun a => some (ansV neg a)) = some y) :
    ∃ a n k, v = .slice a n k ∧ VRep w A μ h y (.bool (bif neg then !a.isNone else a.isNone)) := by
  unfold eqNilK at he
  split at he
  · cases he; rw [show v = .slice none 0 0 from hr]; exact ⟨_, _, _, rfl, rep_bool _⟩
  · rename_i id
    split at he
    · rename_i t xs fz hb
      obtain ⟨blk, hb', _, hv⟩ := hr
      rw [hb] at hb'
      cases hb'
      have hbr := hB id _ hb
      obtain ⟨_, hbr⟩ := hbr
      have hd := hv t xs fz rfl
      cases hn : nilB xs
      · rw [hn] at he
        cases he
        obtain ⟨x, r, rfl⟩ := nilB_cons hn
        cases hm : μ id with
        | none => rw [hm] at hbr; cases hbr
        | some p => rw [hm] at hd; obtain ⟨b, c⟩ := p; exact ⟨_, _, _, hd, rep_bool _⟩
      · rw [hn] at he
        cases he
        cases hm : μ id with
        | none => rw [hm] at hd; obtain ⟨_, ad, rfl⟩ := hd; exact ⟨_, _, _, rfl, _, rfl⟩
        | some p => rw [hm] at hd; obtain ⟨b, c⟩ := p; exact ⟨_, _, _, hd, _, rfl⟩
    · cases he
  · rename_i t xs
    obtain ⟨ad, cap, hv, _, _, hk, hx⟩ := hr
    simp at hv
    cases hn : nilB xs
    · rw [hn] at he
      cases he
      obtain ⟨x, r, rfl⟩ := nilB_cons hn
      obtain ⟨a, _, ha, _⟩ := hx 0 x rfl
      subst ha
      exact ⟨_, _, _, hv, rep_bool _⟩
    · rw [hn] at he
      cases xs with
      | cons x r => cases hn
      | nil =>
      cases hm : t.mk with
      | false =>
        rw [hm] at he
        cases he
        exact ⟨_, _, _, hv, _, rfl⟩
      | true =>
        rw [hm] at he
        cases he
        obtain ⟨rfl, _⟩ := hk hm rfl
        exact ⟨_, _, _, hv, rep_bool _⟩
  · cases he
theorem eqNilp_sound {c : C} {v : Value} {b : Bool} (hr : CRep w A μ h c v) (he : eqNilp c = some b) : ∃ a, v = .pointer a ∧ a.isNone = b := by
  unfold eqNilp at he
  split at he <;> cases he
  · exact ⟨_, hr, rfl⟩
  · obtain ⟨_, _, _, _, _, rfl⟩ := hr; exact ⟨_, rfl, rfl⟩
  · obtain ⟨_, _, ⟨a, rfl⟩, _⟩ := hr; exact ⟨_, rfl, rfl⟩
  · obtain ⟨_, _, rfl, _⟩ := hr; exact ⟨_, rfl, rfl⟩
theorem eq_ne_undef {c : C} {K : Option Bool → Option V} {b : V} (he : eqNilK h c K = some b) : c ≠ .undef := by rintro rfl; cases he
theorem eqp_ne_undef {c : C} {b : Bool} (he : eqNilp c = some b) : c ≠ .undef := by rintro rfl; simp [eqNilp] at he
theorem binV_sound {op : BinOp} {t : TypeId} {u u' : Ty} {a : u.den} {b : u'.den} {v : V} {xv yv : Value} (ox oy : Operand)
    (hk : binV P op t some u a u' b = some v) (hx : CRep w A μ h (.val u a) xv) (hy : CRep w A μ h (.val u' b) yv) :
    ∃ cv, ((do eqGuard op t ox oy xv yv; binOp op t xv yv : Sem Value)).run P w = .ok cv w ∧ VRep w A μ h v cv := by
  unfold binV at hk
  split at hk
  · rename_i k a k' b
    rw [crep_int hx, crep_int hy]
    have hg : ∀ w, (eqGuard op t ox oy (.int k a) (.int k' b)).run P w = .ok () w := fun w => by cases op <;> simp [eqGuard]
    simp only [Sem.run_bind, hg, Result.andThen_ok]
    cases hs : isShift op
    · rw [hs] at hk
      obtain ⟨he, hk⟩ := cond_some hk
      have he := of_decide_eq_true he
      subst he
      exact binInt_sound hs hk
    · rw [hs] at hk
      exact shiftOp_sound hs hk
  · rename_i a b
    rw [crep_str hx, crep_str hy]
    have hg : ∀ w, (eqGuard op t ox oy (.string a) (.string b)).run P w = .ok () w := fun w => by cases op <;> simp [eqGuard]
    simp only [Sem.run_bind, hg, Result.andThen_ok]
    exact binStr_sound hk
  · rename_i a b
    rw [crep_bool hx, crep_bool hy]
    have hg : ∀ w, (eqGuard op t ox oy (.bool a) (.bool b)).run P w = .ok () w := fun w => by cases op <;> simp [eqGuard]
    simp only [Sem.run_bind, hg, Result.andThen_ok]
    split at hk
    · rename_i hu
      cases hk
      exact ⟨_, by simp only [binOp, Op.equal, Sem.run_bind]; rw [show Op.maxDepth = 9999 + 1 from rfl, run_equalIn_bool' w 9999 t a b hu]; rfl, rep_bool _⟩
    · rename_i hu
      cases hk
      exact ⟨_, by simp only [binOp, Op.equal, Sem.run_bind]; rw [show Op.maxDepth = 9999 + 1 from rfl, run_equalIn_bool' w 9999 t a b hu]; rfl, rep_bool _⟩
    · cases hk
  · cases hk
theorem binC_sound (hB : ∀ id blk, h id = some blk → BRep w A μ h (μ id) blk) {op : BinOp} {t : TypeId} {x y : C} {v : V} {xv yv : Value} (ox oy : Operand)
    (hk : binC P h op t x y some = some v) (hx : VRep w A μ h (.c x) xv) (hy : VRep w A μ h (.c y) yv) :
    ∃ cv, ((do eqGuard op t ox oy xv yv; binOp op t xv yv : Sem Value)).run P w = .ok cv w ∧ VRep w A μ h v cv := by
  unfold binC at hk
  split at hk
  · split at hk
    · exact binV_sound ox oy hk (VRep.to_c (by simp) hx) (VRep.to_c (by simp) hy)
    · cases hk
  · split at hk <;> try (cases hk; done)
    all_goals
      rename_i e hu
      obtain ⟨a, n, k, rfl, ha⟩ := eqNil_sound hB (VRep.to_c (eq_ne_undef hk) hx) hk
      rw [show yv = .slice none 0 0 from VRep.to_c (by simp) hy]
      have hg : ∀ w op, (eqGuard op t ox oy (.slice a n k) (.slice none 0 0)).run P w = .ok () w := fun w op => by cases op <;> simp [eqGuard]
      simp only [Sem.run_bind, hg, Result.andThen_ok]
      refine ⟨_, ?_, ha⟩
      simp only [binOp, Op.equal, Sem.run_bind]
      rw [show Op.maxDepth = 9999 + 1 from rfl]
      generalize 9999 = dd
      cases a <;> simp [Op.equalIn, run_underlying hu]
  · split at hk <;> try (cases hk; done)
    all_goals
      rename_i e b hu he
      cases hk
      obtain ⟨a, rfl, ha⟩ := eqNilp_sound (VRep.to_c (eqp_ne_undef he) hx) he
      rw [show yv = .pointer none from VRep.to_c (by simp) hy]
      have hg : ∀ w op, (eqGuard op t ox oy (.pointer a) (.pointer none)).run P w = .ok () w := fun w op => by cases op <;> simp [eqGuard]
      simp only [Sem.run_bind, hg, Result.andThen_ok]
      refine ⟨_, ?_, rep_bool _⟩
      subst ha
      simp only [binOp, Op.equal, Sem.run_bind]
      rw [show Op.maxDepth = 9999 + 1 from rfl]
      generalize 9999 = dd
      cases a <;> simp [Op.equalIn, run_underlying hu]
  · cases hk
theorem binK_sound (hB : ∀ id blk, h id = some blk → BRep w A μ h (μ id) blk) {op : BinOp} {t : TypeId} {x y v : V} {xv yv : Value} (ox oy : Operand)
    (hk : binK P h op t x y some = some v) (hx : VRep w A μ h x xv) (hy : VRep w A μ h y yv) :
    ∃ cv, ((do eqGuard op t ox oy xv yv; binOp op t xv yv : Sem Value)).run P w = .ok cv w ∧ VRep w A μ h v cv := by
  unfold binK at hk
  split at hk
  · exact binC_sound hB ox oy hk hx hy
  · rename_i xs ys
    obtain ⟨us, rfl, hcx⟩ := hx
    obtain ⟨vs, rfl, hcy⟩ := hy
    cases hu : P.underlying t with
    | none => rw [hu] at hk; cases hk
    | some td =>
    rw [hu] at hk
    have h1 := (cond_none hk).1
    have h2 := (cond_none hk).2
    clear hk
    rw [Bool.or_eq_false_iff] at h1
    have hagg : aggD td = true := by simpa using h1.1
    simp only [Sem.run_bind, run_eqGuard_agg w op t ox oy us vs h1.2, Result.andThen_ok]
    have fin : ∀ b, eqT P 20 t xs ys = some b → (Op.equalIn 10000 t (.agg us) (.agg vs)).run P w = .ok b w := fun b he =>
      eqT_sound (P := P) 20 10000 t td xs ys b (.agg us) (.agg vs) hu he (by omega) (.inl ⟨hagg, us, rfl, hcx⟩) (.inl ⟨hagg, vs, rfl, hcy⟩)
    cases he : eqT P 20 t xs ys with
    | none => rw [he] at h2; cases h2
    | some b =>
      rw [he] at h2
      cases op <;> simp only at h2 <;> first
        | (cases h2; exact ⟨_, by rw [run_eql_struct, fin b he]; rfl, rep_bool _⟩)
        | (cases h2; exact ⟨_, by rw [run_neq_struct, fin b he]; rfl, rep_bool _⟩)
        | cases h2
  · cases hk
theorem errK_sound {op : BinOp} {t : TypeId} {x v : V} {xv : Value} (ox : Operand) (hk : errK P op t x some = some v) (hx : VRep w A μ h x xv) :
    ∃ cv, ((do eqGuard op t ox (.const .nilIface) xv .nilIface; binOp op t xv .nilIface : Sem Value)).run P w = .ok cv w ∧ VRep w A μ h v cv := by
  unfold errK at hk
  split at hk
  · rename_i a
    obtain ⟨u, he, h1, hv⟩ := VRep.to_c (by simp) hx
    have he : xv = u := by simpa using he
    subst he
    have hg : (eqGuard op t ox (.const .nilIface) xv .nilIface).run P w = .ok () w := by
      unfold eqGuard
      cases a
      · obtain ⟨t', u', rfl⟩ := hv
        cases op <;> simp
      · have hv : xv = .nilIface := hv
        subst hv
        cases op <;> simp
    simp only [Sem.run_bind, hg, Result.andThen_ok]
    split at hk
    · rename_i ms hu
      cases hk
      refine ⟨_, ?_, rep_bool _⟩
      simp only [binOp, Op.equal, Sem.run_bind]
      rw [show Op.maxDepth = 9999 + 1 from rfl]
      generalize 9999 = dd
      cases a
      · obtain ⟨t', u', rfl⟩ := hv
        simp [Op.equalIn, run_underlying hu, binOp, Op.equal]
      · have hv : xv = .nilIface := hv
        subst hv
        simp [Op.equalIn, run_underlying hu]
    · rename_i ms hu
      cases hk
      refine ⟨_, ?_, rep_bool _⟩
      simp only [binOp, Op.equal, Sem.run_bind]
      rw [show Op.maxDepth = 9999 + 1 from rfl]
      generalize 9999 = dd
      cases a
      · obtain ⟨t', u', rfl⟩ := hv
        simp [Op.equalIn, run_underlying hu, binOp, Op.equal]
      · have hv : xv = .nilIface := hv
        subst hv
        simp [Op.equalIn, run_underlying hu]
    · cases hk
  · cases hk
end
end Go.VM
