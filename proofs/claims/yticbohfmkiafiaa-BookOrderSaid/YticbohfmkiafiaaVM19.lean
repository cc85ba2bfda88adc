import Derived.Test.YticbohfmkiafiaaVM18
namespace Go.VM
open Go.RowKit
section
variable {P : Program} {W0 : World} {O : Out} {μ : Mu} {st : St} {a : Act} {w : World}
noncomputable def oneRes (tmps : Array Value) : ResultVar → Sem Value
  | .tmp t => pure (tmps.getD t undef)
  | .cell a t => do loadVar t (← asAddr (tmps.getD a undef))
theorem loadAt_addr {t : TypeId} {xv cv : Value} (h : (Instr.loadAt t xv).run P w = .ok cv w) : ∃ ad, xv = .pointer (some ad) ∧ (loadVar t ad).run P w = .ok cv w := by
  cases xv <;> first
    | (rename_i o; cases o with
       | none => simp [Instr.loadAt, Instr.sureAddr] at h <;> cases h
       | some ad => exact ⟨ad, rfl, by simpa [Instr.loadAt, Instr.sureAddr] using h⟩)
    | (simp [Instr.loadAt, Instr.sureAddr] at h <;> cases h)
theorem resVar_rep [Dr] (r : RelM W0 O μ st a w) {rv : ResultVar} {v : V} (h : resVar P st rv = some v) : ∃ cv, (oneRes a.tmps rv).run P w = .ok cv w ∧ VRep w (Av O μ st.heap) μ st.heap v cv := by
  cases rv with
  | tmp t =>
    cases h
    exact ⟨_, rfl, r.tmps t⟩
  | cell c t =>
    obtain ⟨cv, hrun, hv⟩ := opLoad_sound r.blks h (r.tmps c)
    obtain ⟨ad, he, hl⟩ := loadAt_addr hrun
    refine ⟨cv, ?_, hv⟩
    simp only [oneRes, he]
    simpa [asAddr] using hl
theorem mapM_run (f : ResultVar → Sem Value) : ∀ (l : List ResultVar) (vs : List Value), All2 (fun rv v => (f rv).run P w = .ok v w) l vs → (l.mapM f).run P w = .ok vs w
  | [], [], _ => by simp
  | x :: l, v :: vs, h => by
    have := mapM_run f l vs h.2
    simp [List.mapM_cons, h.1, this]
  | [], _ :: _, h => h.elim
  | _ :: _, [], h => h.elim
theorem resVars_rep [Dr] (r : RelM W0 O μ st a w) : ∀ {rs : List ResultVar} {vs : List V}, resVars P st rs = some vs →
    ∃ cvs, All2 (fun rv v => (oneRes a.tmps rv).run P w = .ok v w) rs cvs ∧ All2 (VRep w (Av O μ st.heap) μ st.heap) vs cvs
  | [], vs, h => by
    simp only [resVars, Option.some.injEq] at h
    subst h
    exact ⟨[], trivial, trivial⟩
  | rv :: rs, vs, h => by
    simp only [resVars] at h
    split at h
    · rename_i v hv
      split at h
      · rename_i vs' hvs
        cases h
        obtain ⟨cv, h1, h2⟩ := resVar_rep r hv
        obtain ⟨cvs, h3, h4⟩ := resVars_rep r hvs
        exact ⟨cv :: cvs, ⟨h1, h3⟩, h2, h4⟩
      · cases h
    · cases h
theorem tmpsAt_rep [Dr] (r : RelM W0 O μ st a w) : ∀ (l : List Nat), All2 (VRep w (Av O μ st.heap) μ st.heap) (tmpsAt st.tmp l) (l.map fun p => a.tmps.getD p undef)
  | [] => trivial
  | p :: l => ⟨r.tmps p, tmpsAt_rep r l⟩
theorem nthV_arr (l : List Value) (t : Nat) : l.toArray.getD t undef = nthV l t := by
  unfold nthV
  rw [Array.getD_eq_getD_getElem?, List.getD_eq_getElem?_getD]
  simp
theorem RelM.args [Dr] (r : RelM W0 O μ st a w) {vs : List V} {cvs : List Value} (hv : All2 (VRep w (Av O μ st.heap) μ st.heap) vs cvs) : RelM W0 O μ (argSt st.heap vs) { tmps := cvs.toArray, defers := [] } w := by
  refine ⟨fun t => ?_, r.blks, r.inj, r.fresh, r.below, r.outer, ?_, fun p hp => (by cases hp), rfl, fun p hp => by cases hp⟩
  · show VRep w _ μ st.heap (listV vs t) (cvs.toArray.getD t undef)
    rw [nthV_arr]
    exact listV_rep hv t
  · show cvs.toArray.size = len' vs
    rw [len_eq, All2.len hv]
    simp
theorem injO_out {st : St} : ∀ {ls : List (List CK)} {y : SumL ls}, injO ls st = some y → OutRep (fun l z => st.n.n = l.length ∧ dec (lay 0 l) st = some z) ls y
  | [], y, _ => nomatch y
  | [l], y, h => by
    simp only [injO] at h
    have h1 := (cond_some h).1
    rw [len_eq] at h1
    exact ⟨Nat.eq_of_beq_eq_true h1, (cond_some h).2⟩
  | l :: l' :: r, y, h => by
    simp only [injO] at h
    split at h
    · rename_i z hz
      cases h
      have h1 := (cond_some hz).1
      rw [len_eq] at h1
      exact ⟨Nat.eq_of_beq_eq_true h1, (cond_some hz).2⟩
    · split at h
      · rename_i z hz
        cases h
        exact injO_out (ls := l' :: r) hz
      · cases h
theorem OutRep.mono {Φ Ψ : (l : List CK) → (lTy (lay 0 l)).den → Prop} (h : ∀ l z, Φ l z → Ψ l z) : ∀ {ls : List (List CK)} {y : SumL ls}, OutRep Φ ls y → OutRep Ψ ls y
  | [], y, _ => nomatch y
  | [l], y, k => h l y k
  | l :: _ :: _, .inl y, k => h l y k
  | _ :: l' :: r, .inr y, k => OutRep.mono h (ls := l' :: r) k
theorem ret_ok [Dr] {fn : Func} {s : Sig} {y : SumL s.outs} {e : Ex} (h : Rel W0 O st a w) (hpr : st.n.pr = s.lent) (hk : retK P fn s e st = some y) :
    (e = .normal ∨ e = .ret) ∧ a.defers = [] ∧ ∃ v, (results fn a.tmps).run P w = .ok v w ∧ BelowX O.i W0 w ∧
      OutRep (fun l z => ∃ vs hs', v = tupVal vs ∧ vs.length + s.lent.length = l.length ∧ (∀ b, inHd hs' b → W0.heap.size ≤ b ∨ O.i b) ∧ DistH hs' ∧ LRepL w (AvO O hs') (nthV (vs ++ s.lent.map O.g)) (lay 0 l) z hs') s.outs y := by
  obtain ⟨μ, r⟩ := h
  have he : e = .normal ∨ e = .ret := by cases e <;> simp_all [retK]
  refine ⟨he, r.defers, ?_⟩
  have hk : (match resVars P st fn.results.toList with
    | some rs => injO s.outs (argSt st.heap (app rs (tmpsAt st.tmp s.lent)))
    | none => none) = some y := by rcases he with rfl | rfl <;> exact hk
  split at hk
  · rename_i rs hrs
    obtain ⟨vs, hall, hv⟩ := resVars_rep r hrs
    have hm := mapM_run (P := P) (oneRes a.tmps) _ _ hall
    have h1 : (fn.results.mapM (oneRes a.tmps)).run P w = .ok vs.toArray w := by
      have e : fn.results = fn.results.toList.toArray := by simp
      rw [e, List.mapM_toArray]
      simp [hm]
    have fin : (results fn a.tmps).run P w = .ok (tupVal vs) w := by
      show ((do
        let vs ← fn.results.mapM (oneRes a.tmps)
        pure (if h : vs.size = 1 then vs[0] else .tuple vs) : Sem Value)).run P w = _
      simp only [Sem.run_bind, h1, Result.andThen_ok, Sem.run_pure]
      congr 1
      match vs with
      | [] => rfl
      | [v] => rfl
      | v :: v' :: r => rw [dif_neg (by simp)]; rfl
    refine ⟨_, fin, r.below, (injO_out hk).mono fun l z hz => ?_⟩
    obtain ⟨hn, hd⟩ := hz
    have hkeep : (s.lent.map fun p => a.tmps.getD p undef) = s.lent.map O.g := List.map_congr_left fun p hp => r.keep p (by rw [hpr]; exact hp)
    have hv2 : All2 (VRep w (Av O μ st.heap) μ st.heap) (app rs (tmpsAt st.tmp s.lent)) (vs ++ s.lent.map O.g) := by
      rw [app_eq, ← hkeep]
      exact All2.append hv (tmpsAt_rep r s.lent)
    have ra := r.args hv2
    obtain ⟨o1, o2, o3⟩ := ra.out hd
    refine ⟨vs, _, rfl, ?_, fun b hb => ?_, o2, ?_⟩
    · have := All2.len hv2
      have hn : len' (app rs (tmpsAt st.tmp s.lent)) = l.length := hn
      rw [len_eq, this] at hn
      simpa using hn
    · obtain ⟨id, blk, c, _, k1, k2, k3⟩ := o3 b hb
      exact r.fresh id blk b c k1 k2 k3
    · have e : (fun t => (vs ++ s.lent.map O.g).toArray.getD t undef) = nthV (vs ++ s.lent.map O.g) := funext fun t => nthV_arr _ t
      rw [← e]
      exact o1
  · cases hk
theorem same_lay : ∀ (l : List CK) (n s s' : Nat), ¬ Refs (lay n l) s s'
  | [], _, _, _, h => by simp [lay, Refs] at h
  | k :: l, n, s, s', h => by
    simp only [lay, Refs, List.mem_cons] at h
    rcases h with (h | h) | ⟨z, h | h⟩ | ⟨z, h | h⟩ | ⟨g, ss, h | h, h2⟩
    · cases h
    · exact same_lay l (n + 1) s s' (.inl h)
    · cases h
    · exact same_lay l (n + 1) s s' (.inr (.inl ⟨z, h⟩))
    · cases h
    · exact same_lay l (n + 1) s s' (.inr (.inr (.inl ⟨z, h⟩)))
    · cases h
    · exact same_lay l (n + 1) s s' (.inr (.inr (.inr ⟨g, ss, h, h2⟩)))
theorem fn_ok [Dr] {E : Env} (hE : EnvOK E) (hm : E.P.follows .mixedOrders = true) {f : Nat} {fn : Func} {c : Code} {s : Sig} (hf : E.P.funcs[f]? = some fn) (hb : fn.body = some c)
    (henter : ∀ (args : Array Value) (w : World), (callFunc f args).run E.P w = .ok (.enter f args) w) (hn : Nat.ble (len' s.ins) fn.ntmps = true)
    (hl : LoopsOK E ⟨fn.ntmps, s.lent, E.G⟩ c) (hr : ∀ x y, s.F x = some y → runF E fn s x = some y) : FnOK E.P E.G f s := by
  refine ⟨henter, fun x y hy w A args hs hlen hA hrep hdist hdis hgl => ?_⟩
  have hrun := hr x y hy
  unfold runF at hrun
  rw [hb] at hrun
  simp only at hrun
  refine calls_of_wp hf hb ?_
  rw [len_eq] at hn
  have hn := Nat.le_of_ble_eq_true hn
  let O : Out := ⟨A, inHd hs, nthV args⟩
  let a0 : Act := { tmps := args.toArray ++ Array.replicate (fn.ntmps - args.toArray.size) undef, defers := [] }
  have hval : ∀ t, a0.tmps.getD t undef = nthV args t := by
    intro t
    show (args.toArray ++ Array.replicate (fn.ntmps - args.toArray.size) undef).getD t undef = _
    unfold nthV
    rw [Array.getD_eq_getD_getElem?, List.getD_eq_getElem?_getD, Array.getElem?_append]
    split
    · simp
    · rename_i hge
      have hge : args.length ≤ t := by simpa using hge
      rw [Array.getElem?_replicate, List.getElem?_eq_none hge]
      split <;> rfl
  have h0 : Rel w O (enc ⟨fn.ntmps, s.lent, E.G⟩ (lay 0 s.ins) x) a0 w := by
    refine LRepL.rel (O := O) (hs := hs) ?_ hdist (fun b hb => .inr hb) (BelowX.refl _ _) (fun b hb => ⟨hA b hb, fun hi => (hdis b hi).2 hb⟩) ?_ (fun p _ => hval p) rfl hgl
    · exact hrep.vals (fun t _ => hval t) (fun t t' h => absurd h (same_lay _ _ _ _))
    · show (args.toArray ++ Array.replicate (fn.ntmps - args.toArray.size) undef).size = fn.ntmps
      simp
      omega
  refine exec_ok hE hm (n := ⟨fn.ntmps, s.lent, E.G⟩) rfl c hl (retK E.P fn s) y _ (fun e st' a' w' hrel hn' hk => ?_) _ _ _ h0 rfl hrun
  obtain ⟨he, hd, v, hv, hbl, hout⟩ := ret_ok hrel (by rw [hn']) hk
  have hfin : OutRep (fun l z => ∃ vs hs', Ending.returned v = .returned (tupVal vs) ∧ vs.length + s.lent.length = l.length ∧ BelowX (inHd hs) w w' ∧ (∀ b, inHd hs' b → w.heap.size ≤ b ∨ inHd hs b) ∧ DistH hs' ∧
      LRepL w' (AvO A hs') (nthV (vs ++ s.lent.map (nthV args))) (lay 0 l) z hs') s.outs y :=
    hout.mono fun l z ⟨vs, hs', h1, h2, h3, h4, h5⟩ => ⟨vs, hs', by rw [h1], h2, hbl, h3, h4, h5⟩
  rcases he with rfl | rfl
  · exact ⟨hd, v, hv, hfin⟩
  · exact ⟨hd, v, hv, hfin⟩
end
end Go.VM
