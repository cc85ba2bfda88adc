import Derived.Test.YticbohfmkiafiaaVM17c
namespace Go.VM
open Go.RowKit
section
variable {W0 : World} {O : Out}
theorem wp_loop_fuel {P : Program} {c : Code} {Q : Exit → Act → World → Prop} (G : Nat → Act → World → Prop) (round : ∀ k a w, G k a w → ∃ j, k = j + 1 ∧ c.wp P (Exit.then (fun a' w' => G j a' w') Q) a w) :
    ∀ k a w, G k a w → (Code.loop c).wp P Q a w := by
  have key : ∀ (n : Nat) (a : Act) (w : World), G n a w → ∀ (b : Frame) (k : List Item) (cs : List Frame),
      ∃ e a' w', Q e a' w' ∧ Arrives P (lone (b.at a (.code c :: .inLoop c :: k)) cs w) b k cs e a' w' := by
    intro n
    induction n with
    | zero =>
      intro a w hG
      obtain ⟨j, hj, _⟩ := round 0 a w hG
      omega
    | succ n ih =>
      intro a w hG b k cs
      obtain ⟨j, hj, hwp⟩ := round (n + 1) a w hG
      obtain rfl : n = j := by omega
      obtain ⟨e, a1, w1, hq, harr⟩ := hwp b (.inLoop c :: k) cs
      cases e with
      | normal =>
        obtain ⟨e2, a2, w2, hq2, harr2⟩ := ih a1 w1 hq b k cs
        exact ⟨e2, a2, w2, hq2, .of_steps (Steps.trans harr (.one step_inLoop)) harr2⟩
      | exit id => exact ⟨_, a1, w1, hq, .pass (x := .inLoop c) rfl (fun _ _ => .inl (by simp)) harr⟩
      | goto l => exact ⟨_, a1, w1, hq, .pass (x := .inLoop c) rfl (fun _ _ => .inl (by simp)) harr⟩
      | ret => exact ⟨_, a1, w1, hq, .pass (x := .inLoop c) rfl (fun _ _ => .inl (by simp)) harr⟩
      | panic ch => exact ⟨_, a1, w1, hq, .pass (x := .inLoop c) rfl (fun _ _ => .inl (by simp)) harr⟩
      | outgrown => exact ⟨_, a1, w1, hq, .pass (x := .inLoop c) rfl (fun _ _ => .inl (by simp)) harr⟩
  intro k a w hG b kk cs
  obtain ⟨e, a', w', hq, harr⟩ := key k a w hG b kk cs
  exact ⟨e, a', w', hq, .of_steps (.one step_loop) harr⟩
noncomputable def LoopsOK (E : Env) (n : Fr) : Code → Prop
  | .seq a b => LoopsOK E n a ∧ LoopsOK E n b ∧ ∀ ls, E.J (exec.key b) = some ls → ∀ x, ls.F E.k x = exec E b (inj ls.exits) (enc n ls.inL x)
  | .cond _ x y => LoopsOK E n x ∧ LoopsOK E n y
  | .block _ c => LoopsOK E n c
  | .loop c => LoopsOK E n c ∧ ∀ ls, E.L (exec.key c) = some ls → (∀ x, ls.F 0 x = none) ∧ ∀ k x, ls.F (k + 1) x = exec E c (loopK ls (ls.F k)) (enc n ls.inL x)
  | _ => True
noncomputable def QE (Q : Exit → Act → World → Prop) : Ex → Act → World → Prop
  | .normal => Q .normal
  | .exit i => Q (.exit i)
  | .ret => Q .ret
theorem enc_n (n : Fr) (l : Layout) (x : (lTy l).den) : (enc n l x).n = n := rfl
theorem out_ok [Dr] {R : Type} {K : Ex → St → Option R} {r : R} {n : Fr} {Q : Exit → Act → World → Prop} (hQ : ∀ e st' a' w', Rel W0 O st' a' w' → st'.n = n → K e st' = some r → QE Q e a' w') :
    ∀ (l : List (Ex × Layout)) (o : Sum' l), exec.out K n l o = some r → ∀ (e : Ex) (st : St) (a : Act) (w : World), Rel W0 O st a w → st.n = n → inj l e st = some o → ∃ e', Ex.is e' e = true ∧ QE Q e' a w
  | [], o, _, _, _, _, _, _, _, _ => nomatch o
  | [p], o, ho, e, st, a, w, r0, hn, hi => by
    simp only [inj] at hi
    have h1 := (cond_some hi).1
    have h2 := (cond_some hi).2
    have hc := r0.canon h2
    rw [hn] at hc
    exact ⟨p.1, h1, hQ p.1 _ a w hc (enc_n n p.2 o) ho⟩
  | p :: q :: l, o, ho, e, st, a, w, r0, hn, hi => by
    simp only [inj] at hi
    cases hb : Ex.is p.1 e
    · rw [hb] at hi
      simp only [cond_false] at hi
      split at hi
      · rename_i y hy
        cases hi
        exact out_ok hQ (q :: l) y ho e st a w r0 hn hy
      · cases hi
    · rw [hb] at hi
      simp only [cond_true] at hi
      split at hi
      · rename_i y hy
        cases hi
        have hc := r0.canon hy
        rw [hn] at hc
        exact ⟨p.1, hb, hQ p.1 _ a w hc (enc_n n p.2 y) ho⟩
      · cases hi
theorem Ex.is_eq {e e' : Ex} (h : Ex.is e e' = true) : e = e' := by
  cases e <;> cases e' <;> simp [Ex.is] at h <;> first | rfl | (rw [h])
theorem both_some {R : Type} {a b : Option R} {r : R} (h : both a b = some r) : a = some r ∧ b = some r := by
  unfold both at h
  split at h
  · rename_i e; exact ⟨h, e ▸ h⟩
  · cases h
theorem both_same {R : Type} (a : Option R) : both a a = a := by unfold both; rw [if_pos rfl]
theorem exec_ok [Dr] {E : Env} (hE : EnvOK E) (hm : E.P.follows .mixedOrders = true) {n : Fr} (hG : n.gl = E.G) : ∀ (c : Code), LoopsOK E n c → ∀ {R : Type} (K : Ex → St → Option R) (r : R) (Q : Exit → Act → World → Prop),
    (∀ e st' a' w', Rel W0 O st' a' w' → st'.n = n → K e st' = some r → QE Q e a' w') → ∀ (st : St) (a : Act) (w : World), Rel W0 O st a w → st.n = n → exec E c K st = some r → c.wp E.P Q a w := by
  intro c
  induction c with
  | skip => intro _ R K r Q hQ st a w h hn hk; exact wp_skip (hQ .normal st a w h hn hk)
  | label l => intro _ R K r Q hQ st a w h hn hk; exact wp_label (hQ .normal st a w h hn hk)
  | exit id => intro _ R K r Q hQ st a w h hn hk; exact wp_exit (hQ (.exit id) st a w h hn hk)
  | ret => intro _ R K r Q hQ st a w h hn hk; exact wp_ret (hQ .ret st a w h hn hk)
  | goto l => intro _ R K r Q hQ st a w h hn hk; cases hk
  | refuse s => intro _ R K r Q hQ st a w h hn hk; cases hk
  | scope c ih => intro _ R K r Q hQ st a w h hn hk; cases hk
  | rangeFunc f ps c1 c2 ih1 ih2 => intro _ R K r Q hQ st a w h hn hk; cases hk
  | region id ops draw =>
    intro _ R K r Q hQ st a w h hn hk
    simp only [exec] at hk
    obtain ⟨hl, hk⟩ := cond_some hk
    have hep : ∀ st' a' w', Rel W0 O st' a' w' → Rel W0 O { st' with ep := st'.ep + 1 } a' w' := by
      rintro st' a' w' ⟨μ, r⟩
      exact ⟨μ, r.tmps, r.blks, r.inj, r.fresh, r.below, r.outer, r.size, r.keep, r.defers, r.glob⟩
    cases draw
    · refine wp_region ?_
      have := ops_ok hE (hG := hG) (Q := Q) (n := n) (K := fun st' => K .normal { st' with ep := st'.ep + 1 }) (res := r) (fun st' a' w' hr hn' hk' => hQ .normal _ a' w' (hep st' a' w' hr) hn' hk') ops.toList 0 st a w (fun k => by simp) h hn hk
      rw [List.range_eq_range']
      simpa using this
    · simp only [Bool.not_true, Bool.false_or] at hl
      exact draw_ok hE hm (hG := hG) (n := n) (K := fun st' => K .normal { st' with ep := st'.ep + 1 }) (fun st' a' w' hr hn' hk' => hQ .normal _ a' w' (hep st' a' w' hr) hn' hk') h hn hl hk
  | seq x y ihx ihy =>
    intro hl R K r Q hQ st a w h hn hk
    simp only [exec] at hk
    refine wp_seq (ihx hl.1 _ r _ (fun e st' a' w' hr hn' hk' => ?_) st a w h hn hk)
    cases e with
    | normal =>
      simp only at hk'
      cases hj : E.J (exec.key y) with
      | none => rw [hj] at hk'; exact ihy hl.2.1 K r Q hQ st' a' w' hr hn' hk'
      | some ls =>
        rw [hj] at hk'
        simp only at hk'
        cases hx : dec ls.inL st' with
        | none => rw [hx] at hk'; cases hk'
        | some x =>
          rw [hx] at hk'
          simp only at hk'
          cases ho : ls.F E.k x with
          | none => rw [ho] at hk'; cases hk'
          | some o =>
            rw [ho] at hk'
            simp only [Option.bind_some] at hk'
            rw [hn'] at hk'
            have h0 := hr.canon hx
            rw [hn'] at h0
            rw [hl.2.2 ls hj] at ho
            refine ihy hl.2.1 (inj ls.exits) o Q (fun e st2 a2 w2 hr2 hn2 hk2 => ?_) _ a' w' h0 (enc_n ..) ho
            obtain ⟨e2, h1, h2⟩ := out_ok hQ ls.exits o hk' e st2 a2 w2 hr2 hn2 hk2
            rw [← Ex.is_eq h1]
            exact h2
    | exit i => exact hQ (.exit i) st' a' w' hr hn' hk'
    | ret => exact hQ .ret st' a' w' hr hn' hk'
  | cond c x y ihx ihy =>
    intro hl R K r Q hQ st a w h hn hk
    simp only [exec] at hk
    split at hk
    · rename_i b hb
      obtain ⟨μ, h'⟩ := h
      have hv := h'.ev c
      rw [hb] at hv
      have hv := vrep_bool hv
      cases b
      · exact wp_cond hv (ihy hl.2 K r Q hQ st a w ⟨μ, h'⟩ hn hk)
      · exact wp_cond hv (ihx hl.1 K r Q hQ st a w ⟨μ, h'⟩ hn hk)
    · rename_i hb
      obtain ⟨μ, h'⟩ := h
      have hv := h'.ev c
      rw [hb] at hv
      obtain ⟨b, hv⟩ := hv
      obtain ⟨h1, h2⟩ := both_some hk
      cases b
      · exact wp_cond hv (ihy hl.2 K r Q hQ st a w ⟨μ, h'⟩ hn h2)
      · exact wp_cond hv (ihx hl.1 K r Q hQ st a w ⟨μ, h'⟩ hn h1)
    · cases hk
  | block id c ih =>
    intro hl R K r Q hQ st a w h hn hk
    simp only [exec] at hk
    refine wp_block (ih hl _ r _ (fun e st' a' w' hr hn' hk' => ?_) st a w h hn hk)
    cases e with
    | normal => exact hQ .normal st' a' w' hr hn' hk'
    | ret => exact hQ .ret st' a' w' hr hn' hk'
    | exit i =>
      simp only at hk'
      show (if i = id then Q .normal a' w' else Q (.exit i) a' w')
      by_cases hi : i = id
      · subst hi
        rw [if_pos rfl]
        rw [beq_ref] at hk'
        exact hQ .normal st' a' w' hr hn' hk'
      · rw [if_neg hi]
        rw [beq_of_ne hi] at hk'
        exact hQ (.exit i) st' a' w' hr hn' hk'
  | loop c ih =>
    intro hl R K r Q hQ st a w h hn hk
    simp only [exec] at hk
    split at hk
    · rename_i ls hls
      obtain ⟨hl0, hl1⟩ := hl.2 ls hls
      cases hx : dec ls.inL st with
      | none => rw [hx] at hk; cases hk
      | some x =>
      rw [hx] at hk
      simp only at hk
      cases ho : ls.F E.k x with
      | none => rw [ho] at hk; cases hk
      | some o =>
        rw [ho] at hk
        simp only [Option.bind_some] at hk
        rw [hn] at hk
        have h0 := h.canon hx
        rw [hn] at h0
        refine wp_loop_fuel (fun k a w => ∃ x, Rel W0 O (enc n ls.inL x) a w ∧ ls.F k x = some o) (fun k a w => ?_) E.k a w ⟨x, h0, ho⟩
        rintro ⟨x, hr, hF⟩
        cases k with
        | zero => rw [hl0] at hF; cases hF
        | succ k =>
          refine ⟨k, rfl, ?_⟩
          rw [hl1] at hF
          refine ih hl.1 _ o _ (fun e st' a' w' hr' hn' hk' => ?_) _ a w hr (enc_n ..) hF
          have left : ∀ e', e' ≠ .normal → e = e' → inj ls.exits e st' = some o → QE Q e a' w' := by
            intro e' he hee hi
            obtain ⟨e2, h1, h2⟩ := out_ok hQ ls.exits o hk e st' a' w' hr' hn' hi
            rw [← Ex.is_eq h1]
            exact h2
          cases e with
          | normal =>
            simp only [loopK] at hk'
            cases hx' : dec ls.inL st' with
            | none => rw [hx'] at hk'; cases hk'
            | some x' =>
              rw [hx'] at hk'
              have hc := hr'.canon hx'
              rw [hn'] at hc
              exact ⟨x', hc, hk'⟩
          | exit i => exact left (.exit i) (by simp) rfl hk'
          | ret => exact left .ret (by simp) rfl hk'
    · refine wp_loop_fuel (fun k a w => ∃ st, Rel W0 O st a w ∧ st.n = n ∧ iterK (exec E c) K k st = some r) (fun k a w => ?_) (E.U (exec.key c)) a w ⟨st, h, hn, hk⟩
      rintro ⟨st, hr, hn, hk⟩
      cases k with
      | zero => cases hk
      | succ k =>
        refine ⟨k, rfl, ?_⟩
        refine ih hl.1 _ r _ (fun e st' a' w' hr' hn' hk' => ?_) st a w hr hn hk
        cases e with
        | normal => exact ⟨st', hr', hn', hk'⟩
        | exit i => exact hQ (.exit i) st' a' w' hr' hn' hk'
        | ret => exact hQ .ret st' a' w' hr' hn' hk'
end
end Go.VM
