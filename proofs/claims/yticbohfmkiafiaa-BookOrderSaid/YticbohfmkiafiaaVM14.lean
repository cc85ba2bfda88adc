import Derived.Test.YticbohfmkiafiaaVM16
namespace Go.VM
open Go.RowKit
section
variable {W0 : World} {O : Out} {μ : Mu} {st : St} {a : Act} {w : World} {o : Oper} {v : V} {u : Upd}
theorem eqNil_rd {h : Heap} {lim : Option Nat} {c : C} {K : Option Bool → Option V} {b : V} (hk : eqNilK (rdH h lim) c K = some b) : eqNilK h c K = some b := by
  unfold eqNilK at hk ⊢
  split at hk
  · exact hk
  · rename_i id
    split at hk
    · rename_i hb
      simp only [rdH_some hb]
      exact hk
    · cases hk
  · exact hk
  · cases hk
theorem binK_rd {P : Program} {h : Heap} {lim : Option Nat} {op : BinOp} {t : TypeId} {x y v : V} (hk : binK P (rdH h lim) op t x y some = some v) : binK P h op t x y some = some v := by
  unfold binK at hk ⊢
  split at hk
  · unfold binC at hk ⊢
    split at hk
    · exact hk
    · split at hk
      · rename_i hu
        exact eqNil_rd hk
      · rename_i hu
        exact eqNil_rd hk
      · cases hk
    · exact hk
    · cases hk
  · exact hk
  · cases hk
theorem bind_mkp {x : Option V} {v : V} {u : Upd} (h : x.bind (fun v => mkp v ([] : Upd)) = some (v, u)) : x = some v ∧ u = [] := by
  cases x with
  | none => cases h
  | some y => simp [mkp] at h; exact ⟨by rw [h.1], h.2⟩
theorem capIds_rep : ∀ (l : List Operand) (ids : List Nat), capIds (evs st l) = some ids → (∀ x, VRep w (Av O μ st.heap) μ st.heap (st.ev x) (a.eval x)) →
    All2 (fun id u => ∃ blk b c, st.heap id = some blk ∧ μ id = some (b, c) ∧ u = .pointer (some ⟨b, 0, none⟩)) ids (l.map a.eval)
  | [], ids, h, _ => by
    simp only [evs, capIds, Option.some.injEq] at h
    subst h
    trivial
  | x :: l, ids, h, hx => by
    simp only [evs] at h
    unfold capIds at h
    split at h
    · rename_i he; cases he
    · rename_i i r he
      simp only [List.cons.injEq] at he
      obtain ⟨he, rfl⟩ := he
      split at h
      · rename_i l' hl
        cases h
        have := hx x
        rw [he] at this
        exact ⟨VRep.to_c (by simp) this, capIds_rep l l' hl hx⟩
      · cases h
    · cases h
theorem ptrVs_rep {A : Nat → Prop} {h : Heap} : ∀ {ids : List Nat} {us : List Value}, All2 (fun id u => ∃ blk b c, h id = some blk ∧ μ id = some (b, c) ∧ u = .pointer (some ⟨b, 0, none⟩)) ids us → All2 (VRep w A μ h) (ptrVs ids) us
  | [], [], _ => trivial
  | id :: ids, u :: us, h => ⟨VRep.of_c (c := .ptr id 0) h.1, ptrVs_rep h.2⟩
  | [], _ :: _, h => h.elim
  | _ :: _, [], h => h.elim
theorem op_ok [Dr] {E : Env} (hE : EnvOK E) (hG : st.n.gl = E.G) (r : RelM W0 O μ st a w) {lim : Option Nat} (hk : aop E st lim o = some (v, u)) : OpOK E.P W0 O st a w o v u := by
  unfold aop opK at hk
  dsimp only at hk
  split at hk
  · rename_i x ho
    simp only [mkp, Option.some.injEq, Prod.mk.injEq] at hk
    obtain ⟨rfl, rfl⟩ := hk
    exact OpOK.pure r (by simp [execOp, ho]) (r.ev x)
  · rename_i x ho
    simp only [mkp, Option.some.injEq, Prod.mk.injEq] at hk
    obtain ⟨rfl, rfl⟩ := hk
    exact OpOK.pure r (by simp [execOp, ho]) (r.ev x)
  · rename_i c x y ho
    split at hk
    · rename_i bv hc
      have hcv := r.ev c
      rw [hc] at hcv
      have hcv := vrep_bool hcv
      have exec : (execOp a.eval o).run E.P w = .ok (.value (if bv then a.eval x else a.eval y)) w := by
        simp [execOp, ho, hcv, asBool]
      split at hk
      · rename_i p q hp hq
        simp only [mkp, Option.some.injEq, Prod.mk.injEq] at hk
        obtain ⟨rfl, rfl⟩ := hk
        have h1 := r.ev x
        have h2 := r.ev y
        rw [hp] at h1
        rw [hq] at h2
        refine OpOK.pure r exec ?_
        cases bv
        · simpa [vrep_bool h2] using rep_bool q
        · simpa [vrep_bool h1] using rep_bool p
      · cases bv
        · simp only [cond_false, mkp, Option.some.injEq, Prod.mk.injEq] at hk
          obtain ⟨rfl, rfl⟩ := hk
          exact OpOK.pure r exec (by simpa using r.ev y)
        · simp only [cond_true, mkp, Option.some.injEq, Prod.mk.injEq] at hk
          obtain ⟨rfl, rfl⟩ := hk
          exact OpOK.pure r exec (by simpa using r.ev x)
    · cases hk
  · rename_i elem ho
    split at hk
    · rename_i i hi hid
      split at hk
      · rename_i z hz
        have h1 := (cond_some hk).1
        have hk2 := (cond_some hk).2
        clear hk
        simp only [mkp, Option.some.injEq, Prod.mk.injEq] at hk2
        obtain ⟨rfl, rfl⟩ := hk2
        exact alloc_ok r ho hi hz h1 hid
      · cases hk
    · cases hk
  · rename_i elem x ho
    split at hk
    · rename_i cs hcs hid
      simp only [mkp, Option.some.injEq, Prod.mk.injEq] at hk
      obtain ⟨rfl, rfl⟩ := hk
      exact box_ok r ho hcs hid
    · cases hk
  · rename_i t parts ho
    rw [opBuild_nat] at hk
    obtain ⟨h1, rfl⟩ := bind_mkp hk
    exact build_ok r ho h1
  · rename_i t n parts ho
    exact buildSlice_ok r ho hk
  · rename_i t x ho
    rw [opLoad_nat] at hk
    obtain ⟨h1, rfl⟩ := bind_mkp hk
    obtain ⟨cv, hrun, hv⟩ := opLoad_sound (P := E.P) r.blks h1 (r.ev x)
    exact OpOK.pure r (by simp [execOp, ho, hrun]) hv
  · rename_i t x y ho
    split at hk
    · rw [opStore_nat] at hk
      cases hs : opStore E.P E.M st.heap t (st.ev x) (st.ev y) some with
      | none => rw [hs] at hk; cases hk
      | some u' =>
        rw [hs] at hk
        simp only [Option.bind_some, mkp, Option.some.injEq, Prod.mk.injEq] at hk
        obtain ⟨rfl, rfl⟩ := hk
        exact store_ok r ho hs
    · cases hk
  · rename_i x ho
    have hx := r.ev x
    have exec : ∀ p, a.eval x = .pointer (some p) → (execOp a.eval o).run E.P w = .ok (.value (a.eval x)) w := by
      intro p hp
      simp [execOp, ho, hp]
    split at hk
    · rename_i id off he
      simp only [mkp, Option.some.injEq, Prod.mk.injEq] at hk
      obtain ⟨rfl, rfl⟩ := hk
      rw [he] at hx
      have h2 := hx
      obtain ⟨_, b, _, _, _, hv⟩ := VRep.to_c (by simp) h2
      exact OpOK.pure r (exec _ hv) hx
    · rename_i id i off he
      simp only [mkp, Option.some.injEq, Prod.mk.injEq] at hk
      obtain ⟨rfl, rfl⟩ := hk
      rw [he] at hx
      have h2 := hx
      obtain ⟨_, _, ⟨p, hv⟩, _⟩ := VRep.to_c (by simp) h2
      exact OpOK.pure r (exec _ hv) hx
    · rename_i t y off he
      simp only [mkp, Option.some.injEq, Prod.mk.injEq] at hk
      obtain ⟨rfl, rfl⟩ := hk
      rw [he] at hx
      have h2 := hx
      obtain ⟨p, _, hv, _⟩ := VRep.to_c (by simp) h2
      exact OpOK.pure r (exec _ hv) hx
    · cases hk
  · rename_i op t x y yt ho
    cases hny : isNilI y
    rotate_left
    · rw [hny] at hk
      simp only [cond_true] at hk
      rw [errK_nat] at hk
      obtain ⟨h1, rfl⟩ := bind_mkp hk
      have hy : y = .const .nilIface := by
        unfold isNilI at hny
        split at hny
        · rfl
        · cases hny
      subst hy
      obtain ⟨cv, hrun, hv⟩ := errK_sound (P := E.P) x h1 (r.ev x)
      exact OpOK.pure r (by simp only [execOp, ho]; simp only [Sem.run_bind] at hrun ⊢; rw [show a.eval (.const .nilIface) = .nilIface from rfl, hrun]; rfl) hv
    rw [hny] at hk
    simp only [cond_false] at hk
    rw [binK_nat] at hk
    obtain ⟨h1, rfl⟩ := bind_mkp hk
    obtain ⟨cv, hrun, hv⟩ := binK_sound (P := E.P) r.blks x y (binK_rd h1) (r.ev x) (r.ev y)
    exact OpOK.pure r (by simp only [execOp, ho]; simp only [Sem.run_bind] at hrun ⊢; rw [hrun]; rfl) hv
  · rename_i op t x ho
    rw [unK_nat] at hk
    obtain ⟨h1, rfl⟩ := bind_mkp hk
    obtain ⟨cv, hrun, hv⟩ := unK_sound (P := E.P) h1 (r.ev x)
    exact OpOK.pure r (by simp [execOp, ho, hrun]) hv
  · rename_i src dst x ho
    cases hs : isSliceT E.P src
    · rw [hs] at hk
      simp only [cond_false] at hk
      rw [convK_nat] at hk
      obtain ⟨h1, rfl⟩ := bind_mkp hk
      obtain ⟨cv, hrun, hv⟩ := convK_sound (P := E.P) h1 (r.ev x)
      exact OpOK.pure r (by simp [execOp, ho, hrun]) hv
    · rw [hs] at hk
      simp only [cond_true] at hk
      rw [convS_nat] at hk
      obtain ⟨h1, rfl⟩ := bind_mkp hk
      obtain ⟨cv, hrun, hv⟩ := convS_sound (P := E.P) r.blks h1 (r.ev x)
      exact OpOK.pure r (by simp [execOp, ho, hrun]) hv
  · rename_i fn fs cs ho
    rw [opMakeFunc_nat] at hk
    obtain ⟨h1, rfl⟩ := bind_mkp hk
    have exec : (execOp a.eval o).run E.P w = .ok (.value (.func fn (fs.map a.eval) (cs.map a.eval))) w := by simp [execOp, ho, Instr.makeFunc]
    have nil_of : ∀ (l : Array Operand), evs st l.toList = [] → l.map a.eval = #[] := by
      intro l hl
      have : l.toList = [] := by
        cases hq : l.toList with
        | nil => rfl
        | cons x r => rw [hq] at hl; cases hl
      have : l = #[] := by rw [← Array.toArray_toList (xs := l), this]
      rw [this]
      simp
    unfold opMakeFunc at h1
    split at h1
    · rename_i f hf hc
      cases h1
      rw [nil_of _ hf, nil_of _ hc] at exec
      exact OpOK.pure r exec (VRep.of_c (c := .fn _) rfl)
    · rename_i f hf _
      split at h1
      · rename_i ids hids
        cases h1
        rw [nil_of _ hf] at exec
        have hcr := capIds_rep cs.toList ids hids (fun x => r.ev x)
        have e : cs.map a.eval = (cs.toList.map a.eval).toArray := by apply Array.ext'; simp
        rw [e] at exec
        exact OpOK.pure r exec (VRep.of_c (c := .clo _ ids) ⟨_, rfl, hcr⟩)
      · cases h1
    · cases h1
  · rename_i t l c ho
    exact makeSlice_ok r ho hk
  · rename_i t x lo hi mx ho
    exact slice_ok r ho hk
  · rename_i s x f ho
    rw [opFieldAddr_nat] at hk
    obtain ⟨h1, rfl⟩ := bind_mkp hk
    obtain ⟨cv, hrun, hv⟩ := opFieldAddr_sound (P := E.P) h1 (r.ev x)
    exact OpOK.pure r (by simp [execOp, ho, hrun]) hv
  · rename_i t x f ho
    rw [opField_nat] at hk
    obtain ⟨h1, rfl⟩ := bind_mkp hk
    obtain ⟨cv, hrun, hv⟩ := opField_sound (P := E.P) h1 (r.ev x)
    exact OpOK.pure r (by simp [execOp, ho, hrun]) hv
  · rename_i t x i ho
    rw [opIndexAddr_nat] at hk
    obtain ⟨h1, rfl⟩ := bind_mkp hk
    obtain ⟨cv, hrun, hv⟩ := opIndexAddr_sound (P := E.P) r.blks h1 (r.ev x) (r.ev i)
    exact OpOK.pure r (by simp [execOp, ho, hrun]) hv
  · rename_i t x i ho
    rw [opIndex_nat] at hk
    obtain ⟨h1, rfl⟩ := bind_mkp hk
    obtain ⟨cv, hrun, hv⟩ := opIndex_sound (P := E.P) h1 (r.ev x) (r.ev i)
    exact OpOK.pure r (by simp [execOp, ho, hrun]) hv
  · rename_i x i ho
    rw [opExtract_nat] at hk
    obtain ⟨h1, rfl⟩ := bind_mkp hk
    obtain ⟨cv, hrun, hv⟩ := opExtract_sound (P := E.P) h1 (r.ev x)
    exact OpOK.pure r (by simp [execOp, ho, hrun]) hv
  · rename_i c ho
    split at hk
    · rename_i q hq
      split at hk
      · rw [q.nat] at hk
        obtain ⟨h1, rfl⟩ := bind_mkp hk
        unfold qOf at hq
        split at hq
        · rename_i f hcal
          have hok := hE.2 f q hq
          intro next Q hn
          have e : c.args.map a.eval = (c.args.toList.map a.eval).toArray := by apply Array.ext'; simp
          have hex : (execOp a.eval o).run E.P w = .ok (.enter f (c.args.toList.map a.eval).toArray) w := by
            simp only [execOp, ho, resolve, hcal, Act.eval, Frame.eval, Deferred.ofValue, Sem.run_bind, Sem.run_pure, Result.andThen_ok, invoke, e]
            simpa using hok.enter (c.args.toList.map a.eval).toArray w
          unfold Oper.wp
          rw [hex]
          refine (hok.calls r hG (evs_rep r c.args.toList) h1).mono ?_
          rintro ee w' ⟨cv, rfl, hb, hv⟩
          exact hn cv w' μ (r.world hb).2 hv
        · cases hq
      · cases hk
    split at hk
    · rename_i f hcal
      split at hk
      · rename_i fid hf
        have hfv : a.eval f = .func (.func fid) #[] #[] := by
          have := r.ev f
          rw [hf] at this
          exact VRep.to_c (by simp) this
        refine call_ok hE hG r (evs_rep r c.args.toList) (fun henter => ?_) hk
        have e : c.args.map a.eval = (c.args.toList.map a.eval).toArray := by apply Array.ext'; simp
        simp only [execOp, ho, resolve, hcal, hfv, Deferred.ofValue, Sem.run_bind, Sem.run_pure, Result.andThen_ok, invoke, e]
        simpa using henter (c.args.toList.map a.eval).toArray w
      · rename_i fid ids hf
        have hfv := r.ev f
        rw [hf] at hfv
        obtain ⟨us, hfv, hall⟩ := VRep.to_c (by simp) hfv
        refine call_ok hE hG r (cargs := c.args.toList.map a.eval ++ us) (by rw [app_eq]; exact All2.append (evs_rep r c.args.toList) (ptrVs_rep hall)) (fun henter => ?_) hk
        have e : c.args.map a.eval = (c.args.toList.map a.eval).toArray := by apply Array.ext'; simp
        simp only [execOp, ho, resolve, hcal, hfv, Deferred.ofValue, Sem.run_bind, Sem.run_pure, Result.andThen_ok, invoke, e]
        simpa using henter (c.args.toList.map a.eval ++ us).toArray w
      · cases hk
    · rename_i hcal
      split at hk
      · rename_i t x hat har
        rw [opLen_nat] at hk
        obtain ⟨h1, rfl⟩ := bind_mkp hk
        obtain ⟨cv, hrun, hv⟩ := opLen_sound (P := E.P) (ty := o.type) r.blks h1 (r.ev x)
        have hat' : c.argTypes = #[t] := by rw [← Array.toArray_toList (xs := c.argTypes), hat]
        have har' : c.args = #[x] := by rw [← Array.toArray_toList (xs := c.args), har]
        exact OpOK.pure r (by simp [execOp, ho, resolve, hcal, hat', har', invoke, builtin, hrun]) hv
      · cases hk
    · rename_i hcal
      split at hk
      · rename_i t t2 x y hat har
        exact append_ok r ho hcal hat har hk
      · cases hk
    · rename_i hcal
      split at hk
      · rename_i t x hat har
        rw [opClear_nat] at hk
        cases hq : opClear E.P st.heap t (st.ev x) some with
        | none => rw [hq] at hk; cases hk
        | some u' =>
          rw [hq] at hk
          simp only [Option.bind_some, mkp, Option.some.injEq, Prod.mk.injEq] at hk
          obtain ⟨rfl, rfl⟩ := hk
          exact clear_ok r ho hcal hat har hq
      · cases hk
    · rename_i hcal
      split at hk
      · rename_i v' hm
        simp only [mkp, Option.some.injEq, Prod.mk.injEq] at hk
        obtain ⟨rfl, rfl⟩ := hk
        exact min_ok r ho hcal hm
      · cases hk
    · rename_i hcal
      split at hk
      · rename_i v' hm
        simp only [mkp, Option.some.injEq, Prod.mk.injEq] at hk
        obtain ⟨rfl, rfl⟩ := hk
        exact max_ok r ho hcal hm
      · cases hk
    · cases hk
  · cases hk
theorem RelM.put [Dr] (r : RelM W0 O μ { st with heap := updsH st.heap u } a w) {cv : Value} (hv : VRep w (Av O μ (updsH st.heap u)) μ (updsH st.heap u) v cv) {dst : Option Nat} (hd : ∀ d, dst = some d → d < st.n.n ∧ d ∉ st.n.pr) :
    RelM W0 O μ (st.put dst v u) (a.put dst cv) w := by
  refine ⟨fun t => ?_, r.blks, r.inj, r.fresh, r.below, r.outer, ?_, fun p hp => ?_, ?_, r.glob⟩
  · have h0 := r.tmps t
    cases dst with
    | none => exact h0
    | some d =>
      have hdn := (hd d rfl).1
      have hs : a.tmps.size = st.n.n := r.size
      by_cases ht : t = d
      · subst ht
        have e1 : (st.put (some t) v u).tmp t = v := updT_same ..
        have e2 : (a.put (some t) cv).tmps.getD t undef = cv := by
          simp [Act.put, hs, hdn]
        rw [e1, e2]
        exact hv
      · have e1 : (st.put (some d) v u).tmp t = st.tmp t := updT_ne _ _ ht
        have e2 : (a.put (some d) cv).tmps.getD t undef = a.tmps.getD t undef := by
          simp [Act.put, Array.getElem?_setIfInBounds_ne (Ne.symm ht)]
        rw [e1, e2]
        exact h0
  · have hs : a.tmps.size = st.n.n := r.size
    cases dst <;> simp [Act.put, St.put, hs]
  · have hkp := r.keep p hp
    cases dst with
    | none => exact hkp
    | some d =>
      have hpd : p ≠ d := fun e => (hd d rfl).2 (e ▸ hp)
      rw [← hkp]
      simp [Act.put, Array.getElem?_setIfInBounds_ne (Ne.symm hpd)]
  · have hdf : a.defers = [] := r.defers
    cases dst <;> simp [Act.put, hdf]
theorem RelM.setBool [Dr] (r : RelM W0 O μ st a w) {d : Nat} {b : Bool} (h : st.tmp d = .c (.val .bool b)) : RelM W0 O μ { st with tmp := updT st.tmp d (boolC b) } a w := by
  refine ⟨fun t => ?_, r.blks, r.inj, r.fresh, r.below, r.outer, r.size, r.keep, r.defers, r.glob⟩
  by_cases ht : t = d
  · subst ht
    show VRep w (Av O μ st.heap) μ st.heap (updT st.tmp t (boolC b) t) _
    rw [updT_same]
    have := r.tmps t
    rw [h] at this
    exact this
  · show VRep w (Av O μ st.heap) μ st.heap (updT st.tmp d (boolC b) t) _
    rw [updT_ne _ _ ht]
    exact r.tmps t
theorem guardV_some {ops : Array Oper} {j d : Nat} {b : Bool} (h : guardV ops st j = some (d, b)) : (ops[j]?).bind (·.dst) = some d ∧ st.tmp d = .c (.val .bool b) := by
  unfold guardV at h
  split at h
  · rename_i d' hd
    split at h
    · rename_i b' hb
      cases h
      exact ⟨hd, hb⟩
    · cases h
  · cases h
theorem yielded_of [Dr] (r : RelM W0 O μ st a w) {ops : Array Oper} {j d : Nat} {b : Bool} (h : guardV ops st j = some (d, b)) : yielded ops a.tmps j = some b := by
  obtain ⟨h1, h2⟩ := guardV_some h
  have h3 := r.tmps d
  rw [h2] at h3
  have h3 := vrep_bool h3
  have h4 : a.tmps[d]? = some (.bool b) := by
    cases hq : a.tmps[d]? with
    | none => simp [hq] at h3; cases h3
    | some q => simp [hq] at h3; rw [h3]
  unfold yielded
  rw [h1]
  simp [h4]
theorem skipped_of [Dr] (r : RelM W0 O μ st a w) {ops : Array Oper} {j : Nat} (h : skipB ops st j = true) : yielded ops a.tmps j = none := by
  unfold skipB at h
  split at h
  · rename_i d hd
    have h3 := r.tmps d
    split at h
    · rename_i he
      rw [he] at h3
      obtain ⟨vs, hv, hall⟩ := h3
      unfold yielded
      rw [hd]
      simp only [Option.bind_some]
      cases hq : a.tmps[d]? with
      | none => rfl
      | some q =>
        simp [hq] at hv
        rw [hv]
    · cases h
  · cases h
theorem step_ok [Dr] {R : Type} {E : Env} (hE : EnvOK E) (hG : st.n.gl = E.G) {ops : Array Oper} {i : Nat} {lim : Option Nat} {K : St → Option R} {res : R} (hi : ops[i]? = some o) (r : Rel W0 O st a w) (hk : stepK E ops lim o st K = some res)
    {next : Act → World → Prop} {Q : Exit → Act → World → Prop} (hn : ∀ st' a' w', Rel W0 O st' a' w' → st'.n = st.n → K st' = some res → next a' w') : wpOp E.P ops Q i next a w := by
  obtain ⟨μ, r⟩ := r
  unfold stepK at hk
  have hd0 := (cond_some hk).1
  have hk2 := (cond_some hk).2
  clear hk
  have hd : ∀ d, o.dst = some d → d < st.n.n ∧ d ∉ st.n.pr := by
    intro d h
    unfold dstOk at hd0
    rw [h] at hd0
    simp only [Bool.and_eq_true, Bool.not_eq_true'] at hd0
    refine ⟨Nat.le_of_ble_eq_true hd0.1, fun hm => ?_⟩
    have := (memN_iff _ _).2 hm
    rw [this] at hd0
    cases hd0.2
  -- an operation carried out
  have go : ∀ (st1 : St), RelM W0 O μ st1 a w → st1.n = st.n → opK E st1 lim o (fun v u => K (st1.put o.dst v u)) = some res → o.wp E.P a w next Q := by
    intro st1 r1 hn1 ho
    rw [opK_eq] at ho
    cases hop : aop E st1 lim o with
    | none => rw [hop] at ho; cases ho
    | some p =>
      obtain ⟨v, u⟩ := p
      rw [hop] at ho
      refine op_ok hE (by rw [hn1]; exact hG) r1 hop next Q fun cv w' μ' r' hv => ?_
      exact hn _ _ _ ⟨μ', RelM.put r' hv (fun d h => by rw [hn1]; exact hd d h)⟩ hn1 ho
  have skip : ∀ (st1 : St), RelM W0 O μ st1 a w → st1.n = st.n → K (st1.put o.dst (.tup []) []) = some res → next (a.put o.dst undef) w := by
    intro st1 r1 hn1 ho
    exact hn _ _ _ ⟨μ, RelM.put (u := []) (v := .tup []) r1 ⟨#[], rfl, trivial⟩ (fun d h => by rw [hn1]; exact hd d h)⟩ hn1 ho
  unfold wpOp
  simp only [hi]
  split at hk2
  · rename_i hg
    have : Region.wanted o (yielded ops a.tmps) = true := by simp [Region.wanted, hg]
    rw [if_pos this]
    exact .inl (go st r rfl hk2)
  · rename_i j want hg
    split at hk2
    · have hsk := (cond_some hk2).1
      have hk3 := (cond_some hk2).2
      have hy := skipped_of r hsk
      have : ¬ Region.wanted o (yielded ops a.tmps) = true := by simp [Region.wanted, hg, hy]
      rw [if_neg this]
      exact skip _ r rfl hk3
    · rename_i d b hgv
      have hy := yielded_of r hgv
      have hst := (guardV_some hgv).2
      cases b
      · simp only [cond_false] at hk2
        have r1 := r.setBool hst
        cases want
        · have : Region.wanted o (yielded ops a.tmps) = true := by simp [Region.wanted, hg, hy]
          rw [if_pos this]
          exact .inl (go _ r1 rfl hk2)
        · have : ¬ Region.wanted o (yielded ops a.tmps) = true := by simp [Region.wanted, hg, hy]
          rw [if_neg this]
          exact skip _ r1 rfl hk2
      · simp only [cond_true] at hk2
        have r1 := r.setBool hst
        cases want
        · have : ¬ Region.wanted o (yielded ops a.tmps) = true := by simp [Region.wanted, hg, hy]
          rw [if_neg this]
          exact skip _ r1 rfl hk2
        · have : Region.wanted o (yielded ops a.tmps) = true := by simp [Region.wanted, hg, hy]
          rw [if_pos this]
          exact .inl (go _ r1 rfl hk2)
theorem ops_ok [Dr] {R : Type} {E : Env} (hE : EnvOK E) {ops : Array Oper} {b : Array Nat} {l0 : Nat} {t0 : Nat → V} {K : St → Option R} {res : R} {Q : Exit → Act → World → Prop} {n : Fr} (hG : n.gl = E.G) (hQ : ∀ st' a' w', Rel W0 O st' a' w' → st'.n = n → K st' = some res → Q .normal a' w') :
    ∀ (l : List Oper) (i : Nat) (st : St) (a : Act) (w : World), (∀ k, l[k]? = ops[i + k]?) → Rel W0 O st a w → st.n = n → opsK E ops false b l0 t0 l i st K = some res → wpOps E.P ops Q (List.range' i l.length) a w
  | [], i, st, a, w, _, r, hn, hk => hQ st a w r hn hk
  | o :: l, i, st, a, w, hl, r, hn, hk => by
    have hi : ops[i]? = some o := by simpa using (hl 0).symm
    simp only [List.length_cons, List.range'_succ]
    rw [wpOps_cons]
    simp only [opsK, Bool.not_false, Bool.true_or, cond_true] at hk
    refine step_ok hE (by rw [hn]; exact hG) hi r hk fun st' a' w' r' hn' hk' => ?_
    exact ops_ok hE hG hQ l (i + 1) st' a' w' (fun k => by have := hl (k + 1); simpa [Nat.add_assoc, Nat.add_comm 1 k] using this) r' (hn'.trans hn) hk'
end
end Go.VM
