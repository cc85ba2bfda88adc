import Derived.Test.YticbohfmkiafiaaVM17d
namespace Go.VM
open Go.RowKit
section
variable {W0 : World} {O : Out} {E : Env} {st : St} {o : Oper} {v : V} {u : Upd} {lim : Option Nat}
noncomputable def stepA (E : Env) (ops : Array Oper) (lim : Option Nat) (o : Oper) (st : St) : Option (V × Upd) :=
  bif dstOk st lim o then
    match o.guard with
    | none => aop E st lim o
    | some (j, want) => match guardV ops st j with
      | none => bif skipB ops st j then some (.tup [], []) else none
      | some (_, b) => bif b == want then aop E st lim o else some (.tup [], [])
  else none
theorem updT_self {f : Nat → V} {d : Nat} {x : V} (h : f d = x) : updT f d x = f := by
  funext j
  by_cases hj : j = d
  · subst hj; rw [updT_same, h]
  · rw [updT_ne _ _ hj]
theorem stepK_eq {R : Type} {ops : Array Oper} {K : St → Option R} : stepK E ops lim o st K = (stepA E ops lim o st).bind fun p => K (st.put o.dst p.1 p.2) := by
  unfold stepK stepA
  cases dstOk st lim o
  · rfl
  · simp only [cond_true]
    cases hgd : o.guard with
    | none =>
      simp only [opK_eq]
      cases aop E st lim o <;> rfl
    | some jw =>
      obtain ⟨j, want⟩ := jw
      simp only
      cases hg : guardV ops st j with
      | none =>
        simp only
        cases skipB ops st j <;> rfl
      | some p =>
        obtain ⟨d, b⟩ := p
        have hd := (guardV_some hg).2
        have e : updT st.tmp d (boolC b) = st.tmp := updT_self hd
        have e2 : ({ st with tmp := st.tmp } : St) = st := rfl
        simp only
        cases b
        · simp only [cond_false, e, opK_eq]
          cases want
          · simp only [cond_false, beq_self_eq_true, cond_true]
            cases aop E st lim o <;> rfl
          · rfl
        · simp only [cond_true, e, opK_eq]
          cases want
          · rfl
          · simp only [cond_true, beq_self_eq_true]
            cases aop E st lim o <;> rfl
theorem chkU_none {l0 : Nat} {o : Op} {u : Upd} : chkU none l0 o u = semiU l0 o u := by
  cases u
  · unfold semiU; simp [chkU, geU]
  · rfl
theorem chkU_some {l0 : Nat} {o : Op} {u : Upd} {f : Upd → Bool} (h : chkU (some f) l0 o u = true) : u = [] ∨ f u = true := by
  cases u
  · exact .inl rfl
  · exact .inr h
theorem stepC_eq {R : Type} {ops : Array Oper} {l0 : Nat} {bx : Option (Upd → Bool)} {K : St → Option R} : stepC E ops l0 bx o st K = (stepA E ops none o st).bind fun p => bif chkU bx l0 o.op p.2 then K (st.put o.dst p.1 p.2) else none := by
  unfold stepC stepA
  cases dstOk st none o
  · rfl
  · simp only [cond_true]
    cases hgd : o.guard with
    | none =>
      simp only [opK_eq]
      cases aop E st none o <;> rfl
    | some jw =>
      obtain ⟨j, want⟩ := jw
      simp only
      cases hg : guardV ops st j with
      | none =>
        simp only
        cases skipB ops st j <;> rfl
      | some p =>
        obtain ⟨d, b⟩ := p
        have hd := (guardV_some hg).2
        have e : updT st.tmp d (boolC b) = st.tmp := updT_self hd
        simp only
        cases b
        · simp only [cond_false, e, opK_eq]
          cases want
          · simp only [cond_false, beq_self_eq_true, cond_true]
            cases aop E st none o <;> rfl
          · rfl
        · simp only [cond_true, e, opK_eq]
          cases want
          · rfl
          · simp only [cond_true, beq_self_eq_true]
            cases aop E st none o <;> rfl
theorem geU_mem {l0 : Nat} {fn : Bool} : ∀ {u : Upd}, geU l0 fn u = true → ∀ p ∈ u, l0 ≤ p.1 ∨ (fn = true ∧ frozenB p.2 = true)
  | [], _, _, h => by cases h
  | (i, b) :: u, h, p, hp => by
    rw [geU, Bool.and_eq_true, Bool.or_eq_true, Bool.and_eq_true] at h
    rcases List.mem_cons.1 hp with rfl | hp
    · exact h.1.imp Nat.le_of_ble_eq_true id
    · exact geU_mem h.2 p hp
theorem stepA_quiet {ops : Array Oper} (hq : quietOp o.op = true) (hk : stepA E ops lim o st = some (v, u)) : u = [] := by
  have key : ∀ {v u}, aop E st lim o = some (v, u) → u = [] := by
    intro v u h
    obtain ⟨dst, op, type, pos, after, guard⟩ := o
    simp only [aop] at h
    cases op <;> first | (cases hq; done) | skip
    all_goals simp only [opK] at h
    case load t x => rw [opLoad_nat] at h; exact (bindp h).2
    case indexAddr t x i => rw [opIndexAddr_nat] at h; exact (bindp h).2
    case call c =>
      simp only [quietOp] at hq
      split at hq
      · rename_i hc
        have hqc : qOf E c = none := by unfold qOf; rw [hc]
        simp only [hqc, hc] at h
        split at h
        · rw [opLen_nat] at h; exact (bindp h).2
        · cases h
      · cases hq
  unfold stepA at hk
  obtain ⟨_, hk⟩ := cond_some hk
  split at hk
  · exact key hk
  · split at hk
    · obtain ⟨_, hk⟩ := cond_some hk
      cases hk; rfl
    · rename_i b _
      cases hbw : b == _
      · rw [hbw] at hk; cases hk; rfl
      · rw [hbw] at hk; exact key hk
theorem stepA_calm {ops : Array Oper} (hq : calmOp E o.op = true) (hk : stepA E ops lim o st = some (v, u)) : u = [] := by
  unfold calmOp at hq
  rw [Bool.or_eq_true] at hq
  rcases hq with hq | hq
  · exact stepA_quiet hq hk
  have key : ∀ {v u}, aop E st lim o = some (v, u) → u = [] := by
    intro v u h
    obtain ⟨dst, op, type, pos, after, guard⟩ := o
    simp only [aop] at h
    cases op <;> first | (cases hq; done) | skip
    rename_i c
    simp only [isQ] at hq
    simp only [opK] at h
    cases hqc : qOf E c with
    | none => rw [hqc] at hq; cases hq
    | some q =>
      rw [hqc] at h
      simp only at h
      cases lim with
      | none =>
        simp only at h
        rw [q.nat] at h
        exact (bindp h).2
      | some l => cases h
  unfold stepA at hk
  obtain ⟨_, hk⟩ := cond_some hk
  split at hk
  · exact key hk
  · split at hk
    · obtain ⟨_, hk⟩ := cond_some hk
      cases hk; rfl
    · rename_i b _
      cases hbw : b == _
      · rw [hbw] at hk; cases hk; rfl
      · rw [hbw] at hk; exact key hk
theorem rdH_sim {h h' : Heap} {l : Nat} (hag : ∀ i, i < l → SimB (h i) (h' i)) (i : Nat) : SimB (rdH h (some l) i) (rdH h' (some l) i) := by
  unfold rdH
  simp only
  cases hb : Nat.blt i l
  · exact .inl rfl
  · exact hag i (Nat.le_of_ble_eq_true hb)
theorem opLoad_sim {P : Program} {h h' : Heap} {l : Nat} (hag : ∀ i, i < l → SimB (h i) (h' i)) (t : TypeId) (x : V) : opLoad P h' (some l) t x some = opLoad P h (some l) t x some := by
  unfold opLoad
  split
  · rename_i id off
    rcases rdH_sim hag id with e | ⟨u, xs, f, f', e1, e2⟩
    · rw [e]
    · rw [e1, e2]
  · rename_i id i off
    rcases rdH_sim hag id with e | ⟨u, xs, f, f', e1, e2⟩
    · rw [e]
    · rw [e1, e2]
  · rfl
  · rfl
theorem opIndexAddr_sim {P : Program} {h h' : Heap} {l : Nat} (hag : ∀ i, i < l → SimB (h i) (h' i)) (t : TypeId) (x i : V) : opIndexAddr P h' (some l) t x i some = opIndexAddr P h (some l) t x i some := by
  unfold opIndexAddr
  split
  · split
    · split
      · split
        · rfl
        · rename_i id
          rcases rdH_sim hag id with e | ⟨u, xs, f, f', e1, e2⟩
          · rw [e]
          · rw [e1, e2]
        · rename_i id n
          rcases rdH_sim hag id with e | ⟨u, xs, f, f', e1, e2⟩
          · rw [e]
          · rw [e1, e2]
        · rename_i id lo n z
          rcases rdH_sim hag id with e | ⟨u, xs, f, f', e1, e2⟩
          · rw [e]
          · rw [e1, e2]
        · rfl
      · rfl
    · rfl
    · rfl
  · rfl
theorem opLen_sim {P : Program} {h h' : Heap} {l : Nat} (hag : ∀ i, i < l → SimB (h i) (h' i)) (t : TypeId) (x : V) : opLen P h' (some l) t x some = opLen P h (some l) t x some := by
  unfold opLen
  split
  · rfl
  · rfl
  · rfl
  · rename_i id _
    rcases rdH_sim hag id with e | ⟨u, xs, f, f', e1, e2⟩
    · rw [e]
    · rw [e1, e2]
  · rename_i id n _
    rcases rdH_sim hag id with e | ⟨u, xs, f, f', e1, e2⟩
    · rw [e]
    · rw [e1, e2]
  · rfl
  · rfl
  · rfl
theorem aop_quiet_frame {l : Nat} (hq : quietOp o.op = true) (hk : aop E st (some l) o = some (v, u)) {h' : Heap} (hag : ∀ i, i < l → SimB (st.heap i) (h' i)) : aop E { st with heap := h' } (some l) o = some (v, u) := by
  obtain ⟨dst, op, type, pos, after, guard⟩ := o
  simp only [aop] at hk ⊢
  cases op <;> first | (cases hq; done) | skip
  all_goals simp only [opK, ev_heap, ev_heap'] at hk ⊢
  case load t x =>
    rw [opLoad_nat] at hk ⊢
    rw [← hk, opLoad_sim hag]
  case indexAddr t x i =>
    rw [opIndexAddr_nat] at hk ⊢
    rw [← hk, opIndexAddr_sim hag]
  case call c =>
    simp only [quietOp] at hq
    split at hq
    · rename_i hc
      have hqc : qOf E c = none := by unfold qOf; rw [hc]
      simp only [hqc, hc] at hk ⊢
      split at hk
      · rw [opLen_nat] at hk ⊢
        rw [← hk, opLen_sim hag]
      · cases hk
    · cases hq
theorem stepA_quiet_frame {ops : Array Oper} {l : Nat} (hq : quietOp o.op = true) (hk : stepA E ops (some l) o st = some (v, u)) {h' : Heap} (hag : ∀ i, i < l → SimB (st.heap i) (h' i)) : stepA E ops (some l) o { st with heap := h' } = some (v, u) := by
  unfold stepA at hk ⊢
  obtain ⟨hd, hk⟩ := cond_some hk
  have hd2 : dstOk { st with heap := h' } (some l) o = true := hd
  simp only [hd2, cond_true]
  split at hk
  · exact aop_quiet_frame hq hk hag
  · rename_i j want hg
    have hgv : guardV ops { st with heap := h' } j = guardV ops st j := rfl
    have hsv : skipB ops { st with heap := h' } j = skipB ops st j := rfl
    simp only [hgv, hsv]
    split at hk
    · exact hk
    · rename_i d' b hgb
      cases hbw : b == want
      · rw [hbw] at hk
        exact hk
      · rw [hbw] at hk
        exact aop_quiet_frame hq hk hag
noncomputable def NB (a : Option Blk) : Prop := ∀ e cs, a ≠ some (.box e cs)
noncomputable def SimN (a b : Option Blk) : Prop := a = b ∨ (NB a ∧ NB b)
theorem SimN.symm {a b : Option Blk} : SimN a b → SimN b a
  | .inl h => .inl h.symm
  | .inr h => .inr h.symm
theorem rdH_simN {h h' : Heap} (hag : ∀ i, SimN (h i) (h' i)) (l : Option Nat) (i : Nat) : SimN (rdH h l i) (rdH h' l i) := by
  unfold rdH
  cases l with
  | none => exact hag i
  | some l =>
    simp only
    cases hb : Nat.blt i l
    · exact .inl rfl
    · exact hag i
theorem opLoad_simN {P : Program} {h h' : Heap} {l : Option Nat} (hag : ∀ i, SimN (h i) (h' i)) (t : TypeId) : ∀ x : V, (match x with | .c (.ptr ..) => true | .c (.fptr ..) => true | _ => false) = true → opLoad P h' l t x some = opLoad P h l t x some
  | .c (.ptr id off), _ => by
    simp only [opLoad]
    rcases rdH_simN hag l id with e | ⟨e1, e2⟩
    · rw [e]
    · cases h1 : rdH h l id with
      | none =>
        cases h2 : rdH h' l id with
        | none => rfl
        | some b2 => cases b2 <;> first | rfl | exact absurd h2 (e2 _ _)
      | some b1 =>
        cases b1 with
        | box _ cs => exact absurd h1 (e1 _ _)
        | _ =>
          cases h2 : rdH h' l id with
          | none => rfl
          | some b2 => cases b2 <;> first | rfl | exact absurd h2 (e2 _ _)
  | .c (.fptr u x off), _ => rfl
theorem aop_quiet_frameN {l : Option Nat} (hq : quietOp o.op = true) (hok : qOk st o.op = true) (hk : aop E st l o = some (v, u)) {h' : Heap} (hag : ∀ i, SimN (st.heap i) (h' i)) : aop E { st with heap := h' } l o = some (v, u) := by
  obtain ⟨dst, op, type, pos, after, guard⟩ := o
  simp only [aop] at hk ⊢
  cases op <;> first | (cases hq; done) | skip
  all_goals simp only [opK, ev_heap, ev_heap'] at hk ⊢
  case load t x =>
    rw [opLoad_nat] at hk ⊢
    rw [← hk, opLoad_simN hag t (st.ev x) hok]
  case indexAddr t x i =>
    rw [opIndexAddr_nat] at hk ⊢
    rw [← hk]
    have e : opIndexAddr E.P h' l t (st.ev x) (st.ev i) some = opIndexAddr E.P st.heap l t (st.ev x) (st.ev i) some := by
      simp only [qOk] at hok
      split at hok
      · rename_i ty xx h1
        rw [h1]
        cases ty <;> (unfold opIndexAddr; split <;> rfl)
      · rename_i h1; rw [h1]; unfold opIndexAddr; split <;> rfl
      · rename_i h1; rw [h1]; unfold opIndexAddr; split <;> rfl
      · cases hok
    rw [e]
  case call c =>
    simp only [quietOp] at hq
    split at hq
    · rename_i hc
      have hqc : qOf E c = none := by unfold qOf; rw [hc]
      simp only [hqc, hc] at hk ⊢
      split at hk
      · rename_i t x ht hx
        rw [opLen_nat] at hk ⊢
        rw [← hk]
        have e : opLen E.P h' l t (st.ev x) some = opLen E.P st.heap l t (st.ev x) some := by
          simp only [qOk, hx] at hok
          split at hok
          · rename_i ty xx h1
            rw [h1]
            unfold opLen
            rcases E.P.underlying t with _ | d
            · rfl
            · cases d <;> cases ty <;> rfl
          · rename_i h1
            rw [h1]
            unfold opLen
            rcases E.P.underlying t with _ | d
            · rfl
            · cases d <;> rfl
          · rename_i h1
            rw [h1]
            unfold opLen
            rcases E.P.underlying t with _ | d
            · rfl
            · cases d <;> rfl
          · cases hok
        rw [e]
      · cases hk
    · cases hq
theorem stepA_quiet_frameN {ops : Array Oper} {l : Option Nat} (hq : quietOp o.op = true) (hok : qOk st o.op = true) (hk : stepA E ops l o st = some (v, u)) {h' : Heap} (hag : ∀ i, SimN (st.heap i) (h' i)) : stepA E ops l o { st with heap := h' } = some (v, u) := by
  unfold stepA at hk ⊢
  obtain ⟨hd, hk⟩ := cond_some hk
  have hd2 : dstOk { st with heap := h' } l o = true := hd
  simp only [hd2, cond_true]
  split at hk
  · exact aop_quiet_frameN hq hok hk hag
  · rename_i j want hg
    have hgv : guardV ops { st with heap := h' } j = guardV ops st j := rfl
    have hsv : skipB ops { st with heap := h' } j = skipB ops st j := rfl
    simp only [hgv, hsv]
    split at hk
    · exact hk
    · rename_i d' b hgb
      cases hbw : b == want
      · rw [hbw] at hk
        exact hk
      · rw [hbw] at hk
        exact aop_quiet_frameN hq hok hk hag
noncomputable def RB (a : Option Blk) : Prop := ∀ t xs f, a ≠ some (.row t xs f)
noncomputable def SimX (a b : Option Blk) : Prop := a = b ∨ (RB a ∧ RB b)
theorem SimX.symm {a b : Option Blk} : SimX a b → SimX b a
  | .inl h => .inl h.symm
  | .inr h => .inr h.symm
theorem rdH_simX {h h' : Heap} (hag : ∀ i, SimX (h i) (h' i)) (l : Option Nat) (i : Nat) : SimX (rdH h l i) (rdH h' l i) := by
  unfold rdH
  cases l with
  | none => exact hag i
  | some l =>
    simp only
    cases hb : Nat.blt i l
    · exact .inl rfl
    · exact hag i
theorem onRow_simX {α : Type} {a b : Option Blk} (f : (t : Ty) → List t.den → Bool → Option α) : SimX a b → (match a with | some (.row t xs z) => f t xs z | _ => none) = (match b with | some (.row t xs z) => f t xs z | _ => none) := by
  rintro (rfl | ⟨h1, h2⟩)
  · rfl
  · split
    · exact absurd rfl (h1 _ _ _)
    · split
      · exact absurd rfl (h2 _ _ _)
      · rfl
theorem opIndexAddr_simX {P : Program} {h h' : Heap} {l : Option Nat} (hag : ∀ i, SimX (h i) (h' i)) (t : TypeId) (x i : V) : opIndexAddr P h' l t x i some = opIndexAddr P h l t x i some := by
  unfold opIndexAddr
  split
  · split
    · split
      · split
        · rfl
        · rename_i id
          exact onRow_simX _ (rdH_simX hag l id).symm
        · rename_i id n
          exact onRow_simX _ (rdH_simX hag l id).symm
        · rename_i id lo n z
          exact onRow_simX _ (rdH_simX hag l id).symm
        · rfl
      · rfl
    · rfl
    · rfl
  · rfl
theorem opLen_simX {P : Program} {h h' : Heap} {l : Option Nat} (hag : ∀ i, SimX (h i) (h' i)) (t : TypeId) (x : V) : opLen P h' l t x some = opLen P h l t x some := by
  unfold opLen
  split
  · rfl
  · rfl
  · rfl
  · rename_i id _
    exact onRow_simX (fun _ xs _ => some (intC .i64 (xs.length : Int))) (rdH_simX hag l id).symm
  · rename_i id n _
    exact onRow_simX (fun _ _ _ => some (intC .i64 (n : Int))) (rdH_simX hag l id).symm
  · rfl
  · rfl
  · rfl
theorem opSlice_simX {P : Program} {id : Nat} {h h' : Heap} {l : Nat} (hag : ∀ i, SimX (h i) (h' i)) (t : TypeId) (x : V) (lo hi mx : Option V) : opSlice P id h' (some l) t x lo hi mx mkp = opSlice P id h (some l) t x lo hi mx mkp := by
  unfold opSlice
  split
  · rfl
  · split
    · rfl
    · rfl
    · simp only
      exact onRow_simX _ (rdH_simX hag (some l) _).symm
    · simp only
      exact onRow_simX _ (rdH_simX hag (some l) _).symm
    · rfl
    · rfl
theorem sliceRowL_nil {P : Program} {e : TypeId} {id : Nat} {u : Ty} {xs ys : List u.den} {fz : Bool} {lo hi : Option V} {v : V} {w : Upd} (hk : sliceRowL P e id u xs ys fz lo hi mkp = some (v, w)) : w = [] := by
  unfold sliceRowL at hk
  cases fz
  · simp only [cond_false] at hk
    unfold sliceRow at hk
    split at hk
    · simp only [cond_false] at hk
      obtain ⟨_, hk⟩ := cond_some hk
      cases lo with
      | none => simp only [Option.isSome_none, cond_false, mkp, Option.some.injEq, Prod.mk.injEq] at hk; exact hk.2.symm
      | some _ => simp only [Option.isSome_some, cond_true, mkp, Option.some.injEq, Prod.mk.injEq] at hk; exact hk.2.symm
    · cases hk
  · cases hk
theorem opSlice_nil {P : Program} {id : Nat} {h : Heap} {l : Nat} {t : TypeId} {x : V} {lo hi mx : Option V} {v : V} {w : Upd} (hk : opSlice P id h (some l) t x lo hi mx mkp = some (v, w)) : w = [] := by
  unfold opSlice at hk
  split at hk
  · split at hk
    · rename_i hl _ _; cases hl
    · cases hk
  · split at hk
    · split at hk
      · have hk := (cond_some hk).2
        simp only [mkp, Option.some.injEq, Prod.mk.injEq] at hk; exact hk.2.symm
      · cases hk
    · split at hk
      · have hk := (cond_some hk).2
        simp only [mkp, Option.some.injEq, Prod.mk.injEq] at hk; exact hk.2.symm
      · cases hk
    · simp only at hk
      split at hk
      · exact sliceRowL_nil hk
      · cases hk
    · simp only at hk
      split at hk
      · exact sliceRowL_nil hk
      · cases hk
    · split at hk
      · have hk := (cond_some hk).2
        simp only [mkp, Option.some.injEq, Prod.mk.injEq] at hk; exact hk.2.symm
      · cases hk
    · cases hk
theorem aop_rowLook {l : Nat} (hq : rowLook o.op = true) (hk : aop E st (some l) o = some (v, u)) : u = [] ∧ ∀ h' : Heap, (∀ i, SimX (st.heap i) (h' i)) → aop E { st with heap := h' } (some l) o = some (v, u) := by
  obtain ⟨dst, op, type, pos, after, guard⟩ := o
  simp only [aop] at hk ⊢
  cases op <;> first | (cases hq; done) | skip
  all_goals simp only [opK, ev_heap, ev_heap'] at hk ⊢
  case slice t x lo hi mx =>
    exact ⟨opSlice_nil hk, fun h' hag => by rw [← hk]; exact opSlice_simX hag _ _ _ _ _⟩
  case indexAddr t x i =>
    rw [opIndexAddr_nat] at hk
    refine ⟨(bindp hk).2, fun h' hag => ?_⟩
    rw [opIndexAddr_nat, ← hk, opIndexAddr_simX hag]
  case call c =>
    simp only [rowLook] at hq
    split at hq
    · rename_i hc
      have hqc : qOf E c = none := by unfold qOf; rw [hc]
      simp only [hqc, hc] at hk ⊢
      split at hk
      · rw [opLen_nat] at hk
        refine ⟨(bindp hk).2, fun h' hag => ?_⟩
        rw [opLen_nat, ← hk, opLen_simX hag]
      · cases hk
    · cases hq
theorem stepA_rowLook {ops : Array Oper} {l : Nat} (hq : rowLook o.op = true) (hk : stepA E ops (some l) o st = some (v, u)) : u = [] ∧ ∀ h' : Heap, (∀ i, SimX (st.heap i) (h' i)) → stepA E ops (some l) o { st with heap := h' } = some (v, u) := by
  unfold stepA at hk ⊢
  obtain ⟨hd, hk⟩ := cond_some hk
  have hd2 : ∀ h' : Heap, dstOk { st with heap := h' } (some l) o = true := fun _ => hd
  simp only [hd2, cond_true]
  split at hk
  · exact aop_rowLook hq hk
  · rename_i j want hg
    have hgv : ∀ h', guardV ops { st with heap := h' } j = guardV ops st j := fun _ => rfl
    have hsv : ∀ h', skipB ops { st with heap := h' } j = skipB ops st j := fun _ => rfl
    simp only [hgv, hsv]
    split at hk
    · refine ⟨?_, fun _ _ => hk⟩
      obtain ⟨_, hk⟩ := cond_some hk
      cases hk; rfl
    · rename_i d' b hgb
      cases hbw : b == want
      · rw [hbw] at hk
        exact ⟨by cases hk; rfl, fun _ _ => hk⟩
      · rw [hbw] at hk
        exact aop_rowLook hq hk
theorem stepA_store {ops : Array Oper} (hf : storeOp o.op = true) (hb : boxU u = true) (hk : stepA E ops none o st = some (v, u)) : ∀ p ∈ u, RB (st.heap p.1) ∧ RB (some p.2) := by
  have key : ∀ {v u}, aop E st none o = some (v, u) → boxU u = true → ∀ p ∈ u, RB (st.heap p.1) ∧ RB (some p.2) := by
    intro v u hk hb
    obtain ⟨dst, op, type, pos, after, guard⟩ := o
    simp only [aop] at hk
    cases op <;> first | (cases hf; done) | skip
    rename_i t x y
    simp only [opK] at hk
    unfold opStore at hk
    split at hk
    · have hk := (cond_some hk).2
      split at hk
      · split at hk
        · rename_i hbx
          have hk9 := (cond_some hk).2
          have plain : ∀ {e : TypeId} {cs : List C} {i : Nat}, st.heap i = some (.box e cs) → ∀ {cs' : List C}, some (V.c C.undef, [(i, Blk.box e cs')]) = some (v, u) → ∀ p ∈ u, RB (st.heap p.1) ∧ RB (some p.2) := by
            intro e cs i hbx cs' hk
            simp only [Option.some.injEq, Prod.mk.injEq] at hk
            obtain ⟨_, rfl⟩ := hk
            intro p hp
            simp only [List.mem_cons, List.not_mem_nil, or_false] at hp
            subst hp
            exact ⟨fun _ _ _ e => by rw [hbx] at e; (cases e), fun _ _ _ e => by cases e⟩
          split at hk9
          · exact plain hbx hk9
          · split at hk9
            · exact plain hbx hk9
            · rename_i hrow
              exfalso
              obtain ⟨fz, rfl, hbj⟩ := rowFor_some hrow
              have hk8 := (cond_none hk9).2
              simp only [mkp, Option.some.injEq, Prod.mk.injEq] at hk8
              obtain ⟨_, rfl⟩ := hk8
              simp only [freezes, hbj] at hb
              cases hb
        · cases hk
      · exfalso
        split at hk
        · have hk := (cond_some hk).2
          split at hk
          · rename_i l _
            cases hm : memN _ l
            · rw [hm] at hk
              simp only [cond_false, mkp, Option.some.injEq, Prod.mk.injEq] at hk
              obtain ⟨_, rfl⟩ := hk
              have nb : ∀ (a : Upd) (i : Nat) (t : Ty) (xs : List t.den), boxU (app a [(i, .row t xs false)]) = false := by
                intro a
                induction a with
                | nil => intro i t xs; rfl
                | cons q a ih =>
                  intro i t xs
                  obtain ⟨j, b⟩ := q
                  cases b
                  · exact ih i t xs
                  · rfl
                  · rfl
              rw [nb] at hb
              cases hb
            · rw [hm] at hk; cases hk
          · cases hk
        · cases hk
      · cases hk
    · cases hk
  unfold stepA at hk
  obtain ⟨_, hk⟩ := cond_some hk
  split at hk
  · exact key hk hb
  · split at hk
    · obtain ⟨_, hk⟩ := cond_some hk
      cases hk
      exact fun p hp => by cases hp
    · rename_i b _
      cases hbw : b == _
      · rw [hbw] at hk; cases hk
        exact fun p hp => by cases hp
      · rw [hbw] at hk; exact key hk hb
theorem updsH_simX {h0 : Heap} : ∀ (u : Upd) (h : Heap), (∀ p ∈ u, RB (h0 p.1) ∧ RB (some p.2)) → (∀ i, SimX (h0 i) (h i)) → ∀ i, SimX (h0 i) (updsH h u i)
  | [], h, _, h1 => h1
  | q :: u, h, hu, h1 => by
    simp only [updsH]
    refine updsH_simX u _ (fun p hp => hu p (List.mem_cons_of_mem _ hp)) fun i => ?_
    by_cases e : i = q.1
    · subst e
      rw [updH_same]
      exact .inr (hu q (by simp))
    · rw [updH_ne _ _ e]; exact h1 i
theorem appStr_nb {P : Program} {id : Nat} {h : Heap} {t2 e : TypeId} {i : TypeInfo} {yy : Ty} {x y : V} (hid : h id = none) (hk : appStr P id h t2 e i yy x y mkp = some (v, u)) : ∀ p ∈ u, NB (h p.1) ∧ NB (some p.2) := by
  have nbr : ∀ {t xs f}, NB (some (.row t xs f)) := fun _ cs e => by cases e
  have nbd : NB (some .dead) := fun _ cs e => by cases e
  have nbn : NB none := fun _ cs e => by cases e
  unfold appStr at hk
  split at hk
  · split at hk
    · rename_i hb
      split at hk
      · have hk := (cond_some hk).2
        simp only [mkp, Option.some.injEq, Prod.mk.injEq] at hk
        obtain ⟨rfl, rfl⟩ := hk
        intro p hp
        simp only [List.mem_cons, List.not_mem_nil, or_false] at hp
        rcases hp with rfl | rfl
        · exact ⟨by rw [hb]; exact nbr, nbd⟩
        · exact ⟨by rw [hid]; exact nbn, nbr⟩
      · cases hk
    · cases hk
  · cases hk
theorem appStr_more {P : Program} {id : Nat} {h h' : Heap} (k : ∀ i y, h i = some y → h' i = some y) {t2 e : TypeId} {i : TypeInfo} {yy : Ty} {x y : V} (hk : appStr P id h t2 e i yy x y mkp = some (v, u)) : appStr P id h' t2 e i yy x y mkp = some (v, u) := by
  unfold appStr at hk ⊢
  split at hk
  · rename_i r s hst
    cases hb : h r with
    | none => rw [hb] at hk; cases hk
    | some b => rw [hb] at hk; simp only [k r b hb]; exact hk
  · cases hk
theorem opAppend_nb {P : Program} {id : Nat} {h : Heap} {t t2 : TypeId} {x y : V} (hk : opAppend P id h t t2 x y mkp = some (v, u)) : ∀ p ∈ u, NB (h p.1) ∧ NB (some p.2) := by
  have nbr : ∀ {t xs f}, NB (some (.row t xs f)) := fun _ cs e => by cases e
  have nbd : NB (some .dead) := fun _ cs e => by cases e
  have nbn : NB none := fun _ cs e => by cases e
  unfold opAppend at hk
  split at hk
  · rename_i hid
    split at hk
    · split at hk
      · have hk := (cond_some hk).2
        simp only [mkp, Option.some.injEq, Prod.mk.injEq] at hk
        obtain ⟨rfl, rfl⟩ := hk
        intro p hp
        simp only [List.mem_cons, List.not_mem_nil, or_false] at hp
        subst hp
        exact ⟨by rw [hid]; exact nbn, nbr⟩
      · split at hk
        · rename_i hb
          split at hk
          · have hk := (cond_some hk).2
            simp only [mkp, Option.some.injEq, Prod.mk.injEq] at hk
            obtain ⟨rfl, rfl⟩ := hk
            intro p hp
            simp only [List.mem_cons, List.not_mem_nil, or_false] at hp
            rcases hp with rfl | rfl
            · exact ⟨by rw [hb]; exact nbr, nbd⟩
            · exact ⟨by rw [hid]; exact nbn, nbr⟩
          · cases hk
        · cases hk
      · split at hk
        · rename_i hb
          split at hk
          · rename_i r n _ _ _ _ _ _
            cases hw : winOf r y
            · rw [hw] at hk
              have hk := (cond_some hk).2
              simp only [mkp, Option.some.injEq, Prod.mk.injEq] at hk
              obtain ⟨rfl, rfl⟩ := hk
              intro p hp
              simp only [List.mem_cons, List.not_mem_nil, or_false] at hp
              rcases hp with rfl | rfl
              · exact ⟨by rw [hb]; exact nbr, nbd⟩
              · exact ⟨by rw [hid]; exact nbn, nbr⟩
            · rw [hw] at hk
              have hk := (cond_some hk).2
              simp only [mkp, Option.some.injEq, Prod.mk.injEq] at hk
              obtain ⟨rfl, rfl⟩ := hk
              intro p hp
              simp only [List.mem_cons, List.not_mem_nil, or_false] at hp
              subst hp
              exact ⟨by rw [hb]; exact nbr, nbr⟩
          · cases hk
        · cases hk
      · cases hk
    · cases hk
  · rename_i hid
    exact appStr_nb hid hk
  · cases hk
theorem stepA_app {ops : Array Oper} (hf : appOp o.op = true) (hk : stepA E ops none o st = some (v, u)) : ∀ p ∈ u, NB (st.heap p.1) ∧ NB (some p.2) := by
  have key : ∀ {v u}, aop E st none o = some (v, u) → ∀ p ∈ u, NB (st.heap p.1) ∧ NB (some p.2) := by
    intro v u hk
    obtain ⟨dst, op, type, pos, after, guard⟩ := o
    simp only [aop] at hk
    cases op <;> first | (cases hf; done) | skip
    rename_i c _
    simp only [appOp] at hf
    split at hf
    · rename_i hc
      have hqc : qOf E c = none := by unfold qOf; rw [hc]
      simp only [opK, hqc, hc] at hk
      split at hk
      · exact opAppend_nb hk
      · cases hk
    · cases hf
  unfold stepA at hk
  obtain ⟨_, hk⟩ := cond_some hk
  split at hk
  · exact key hk
  · split at hk
    · obtain ⟨_, hk⟩ := cond_some hk
      cases hk
      exact fun p hp => by cases hp
    · rename_i b _
      cases hbw : b == _
      · rw [hbw] at hk; cases hk
        exact fun p hp => by cases hp
      · rw [hbw] at hk; exact key hk
theorem aop_callFn {f : Nat} (hiq : isQ E o.op = false) (hf : callFn o.op = some f) : ∃ args : List V, aop E st none o = opCall E (nid st.ep (o.dst.getD 0) 0) st.heap none f args mkp ∧ ∀ h' : Heap, aop E { st with heap := h' } none o = opCall E (nid st.ep (o.dst.getD 0) 0) h' none f args mkp := by
  obtain ⟨dst, op, type, pos, after, guard⟩ := o
  simp only [aop] at hf ⊢
  cases op <;> first | (cases hf; done) | skip
  rename_i c
  have hqc : qOf E c = none := by
    unfold isQ at hiq
    cases h : qOf E c with
    | none => rfl
    | some q => simp only [h] at hiq; cases hiq
  simp only [callFn] at hf
  split at hf
  · rename_i f' hc
    cases hf
    simp only [opK, hqc, hc]
    exact ⟨_, rfl, fun h' => by rw [evs_heap]; rfl⟩
  · cases hf
theorem stepA_frozen {ops : Array Oper} (hiq : isQ E o.op = false) (hf : isFn o.op = true) (hk : stepA E ops none o st = some (v, u)) : ∀ p ∈ u, frozenB p.2 = true → ∃ t xs f, st.heap p.1 = some (.row t xs f) ∧ p.2 = .row t xs true := by
  have key : ∀ {v u}, aop E st none o = some (v, u) → ∀ p ∈ u, frozenB p.2 = true → ∃ t xs f, st.heap p.1 = some (.row t xs f) ∧ p.2 = .row t xs true := by
    intro v u hk
    unfold isFn at hf
    split at hf
    · rename_i f hc
      obtain ⟨args, e1, _⟩ := aop_callFn (E := E) (st := st) hiq hc
      rw [e1] at hk
      exact call_frozen hk
    · cases hf
  unfold stepA at hk
  obtain ⟨_, hk⟩ := cond_some hk
  split at hk
  · exact key hk
  · split at hk
    · obtain ⟨_, hk⟩ := cond_some hk
      cases hk
      exact fun p hp => by cases hp
    · rename_i b _
      cases hbw : b == _
      · rw [hbw] at hk; cases hk
        exact fun p hp => by cases hp
      · rw [hbw] at hk; exact key hk
theorem stepA_call_ext {ops : Array Oper} (hiq : isQ E o.op = false) (h1 : oneCall E.C o.op = true) (hk : stepA E ops none o st = some (v, u)) {h' : Heap} (he : Ext st.heap h') (hu : ∀ p ∈ u, st.heap p.1 = none → h' p.1 = none) : stepA E ops none o { st with heap := h' } = some (v, u) := by
  unfold oneCall at h1
  split at h1
  · rename_i f hf
    have hs : ∃ s, E.C f = [s] := by
      split at h1
      · rename_i s hs; exact ⟨s, hs⟩
      · cases h1
    have key : ∀ {v u}, aop E st none o = some (v, u) → (∀ p ∈ u, st.heap p.1 = none → h' p.1 = none) → aop E { st with heap := h' } none o = some (v, u) := by
      intro v u hk hu
      obtain ⟨args, e1, e2⟩ := aop_callFn (E := E) (st := st) hiq hf
      rw [e1] at hk
      rw [e2]
      exact call_ext he hs hk hu
    unfold stepA at hk ⊢
    obtain ⟨hd, hk⟩ := cond_some hk
    have hd2 : dstOk { st with heap := h' } none o = true := hd
    simp only [hd2, cond_true]
    split at hk
    · exact key hk hu
    · rename_i j want hg
      have hgv : guardV ops { st with heap := h' } j = guardV ops st j := rfl
      have hsv : skipB ops { st with heap := h' } j = skipB ops st j := rfl
      simp only [hgv, hsv]
      split at hk
      · exact hk
      · rename_i d' b hgb
        cases hbw : b == want
        · rw [hbw] at hk
          exact hk
        · rw [hbw] at hk
          exact key hk hu
  · cases h1
theorem stepA_alloc {ops : Array Oper} (ha : allocOp o.op = true) (hk : stepA E ops lim o st = some (v, u)) : (u = [] ∧ ∀ h', stepA E ops lim o { st with heap := h' } = some (v, u)) ∨ ∃ id b, u = [(id, b)] ∧ st.heap id = none ∧ ∀ h' : Heap, h' id = none → stepA E ops lim o { st with heap := h' } = some (v, u) := by
  have key : ∀ {v u}, aop E st lim o = some (v, u) → ∃ id b, u = [(id, b)] ∧ st.heap id = none ∧ ∀ h' : Heap, h' id = none → aop E { st with heap := h' } lim o = some (v, u) := by
    intro v u h
    obtain ⟨dst, op, type, pos, after, guard⟩ := o
    simp only [aop] at h ⊢
    cases op <;> first | (cases ha; done) | skip
    simp only [opK] at h ⊢
    split at h
    · rename_i i hi hf
      split at h
      · rename_i z hz
        obtain ⟨hb, h⟩ := cond_some h
        simp only [mkp, Option.some.injEq, Prod.mk.injEq] at h
        obtain ⟨rfl, rfl⟩ := h
        refine ⟨_, _, rfl, hf, fun h' hn => ?_⟩
        rw [hn, hi]
        simp only [hz, hb]
        rfl
      · cases h
    · cases h
  unfold stepA at hk ⊢
  obtain ⟨hd, hk⟩ := cond_some hk
  have hd2 : ∀ h', dstOk { st with heap := h' } lim o = true := fun _ => hd
  simp only [hd2, cond_true]
  split at hk
  · exact .inr (key hk)
  · rename_i j want hg
    have hgv : ∀ h', guardV ops { st with heap := h' } j = guardV ops st j := fun _ => rfl
    have hsv : ∀ h', skipB ops { st with heap := h' } j = skipB ops st j := fun _ => rfl
    simp only [hgv, hsv]
    split at hk
    · refine .inl ⟨?_, fun _ => hk⟩
      obtain ⟨_, hk⟩ := cond_some hk
      cases hk; rfl
    · rename_i d' b hgb
      cases hbw : b == want
      · rw [hbw] at hk
        exact .inl ⟨by cases hk; rfl, fun _ => hk⟩
      · rw [hbw] at hk
        exact .inr (key hk)
theorem guardV_tmp {ops : Array Oper} {tmp : Nat → V} {j : Nat} (h : ∀ d, (ops[j]?).bind (·.dst) = some d → tmp d = st.tmp d) : guardV ops { st with tmp := tmp } j = guardV ops st j := by
  unfold guardV
  split
  · rename_i d hd
    simp only [h d hd]
  · rfl
theorem skipB_tmp {ops : Array Oper} {tmp : Nat → V} {j : Nat} (h : ∀ d, (ops[j]?).bind (·.dst) = some d → tmp d = st.tmp d) : skipB ops { st with tmp := tmp } j = skipB ops st j := by
  unfold skipB
  split
  · rename_i d hd
    simp only [h d hd]
  · rfl
theorem stepA_tmp {ops : Array Oper} {d : Nat} {x : V} (h : d ∉ o.looksAt ops) : stepA E ops lim o { st with tmp := updT st.tmp d x } = stepA E ops lim o st := by
  have ha : aop E { st with tmp := updT st.tmp d x } lim o = aop E st lim o := aop_congr fun y hy => by
    cases y with
    | tmp t =>
      show updT st.tmp d x t = st.tmp t
      refine updT_ne _ _ fun e => h ?_
      subst e
      exact List.mem_append_left _ (List.mem_filterMap.2 ⟨.tmp t, by simpa using hy, rfl⟩)
    | _ => rfl
  unfold stepA
  rw [ha]
  have hd : dstOk { st with tmp := updT st.tmp d x } lim o = dstOk st lim o := rfl
  rw [hd]
  cases dstOk st lim o
  · rfl
  · simp only [cond_true]
    split
    · rfl
    · rename_i j want hg
      have hk : ∀ d', (ops[j]?).bind (·.dst) = some d' → updT st.tmp d x d' = st.tmp d' := fun d' hd' => updT_ne _ _ fun e => h (by subst e; simp [Oper.looksAt, hg, hd'])
      rw [guardV_tmp (tmp := updT st.tmp d x) (j := j) hk, skipB_tmp (tmp := updT st.tmp d x) (j := j) hk]
theorem stepA_put {ops : Array Oper} {dst : Option Nat} {x : V} {ux : Upd} (h : ∀ d, dst = some d → d ∉ o.looksAt ops) : stepA E ops lim o (st.put dst x ux) = stepA E ops lim o { st with heap := updsH st.heap ux } := by
  cases dst with
  | none => rfl
  | some d => exact stepA_tmp (st := { st with heap := updsH st.heap ux }) (h d rfl)
theorem stepA_pure {ops : Array Oper} (hp : pureOp E.P o.op = true) (hk : stepA E ops lim o st = some (v, u)) : u = [] ∧ ∀ h', stepA E ops lim o { st with heap := h' } = some (v, u) := by
  unfold stepA at hk ⊢
  obtain ⟨hd, hk⟩ := cond_some hk
  have hd2 : ∀ h', dstOk { st with heap := h' } lim o = true := fun _ => hd
  simp only [hd2, cond_true]
  split at hk
  · exact aop_pure hp hk
  · rename_i j want hg
    have hgv : ∀ h', guardV ops { st with heap := h' } j = guardV ops st j := fun _ => rfl
    have hsv : ∀ h', skipB ops { st with heap := h' } j = skipB ops st j := fun _ => rfl
    simp only [hgv, hsv]
    split at hk
    · obtain ⟨hs, hk⟩ := cond_some hk
      cases hk
      exact ⟨rfl, fun _ => by simp only [hs, cond_true]⟩
    · rename_i d b hgb
      cases hbw : b == want
      · rw [hbw] at hk
        cases hk
        exact ⟨rfl, fun _ => rfl⟩
      · rw [hbw] at hk
        exact aop_pure hp hk
theorem stepA_strict {ops : Array Oper} {l : Nat} (hk : stepA E ops (some l) o st = some (v, u)) : ∃ d, o.dst = some d ∧ (∀ p ∈ u, nid st.ep d 0 ≤ p.1 ∧ p.1 < nid st.ep d 0 + 64) ∧
    ∀ h' : Heap, (∀ i, i < l → h' i = st.heap i) → (∀ i, nid st.ep d 0 ≤ i → i < nid st.ep d 0 + 64 → h' i = st.heap i) → stepA E ops (some l) o { st with heap := h' } = some (v, u) := by
  unfold stepA at hk ⊢
  obtain ⟨hd, hk⟩ := cond_some hk
  have hd2 : ∀ h', dstOk { st with heap := h' } (some l) o = true := fun _ => hd
  simp only [hd2, cond_true]
  obtain ⟨d, hdst⟩ : ∃ d, o.dst = some d := by
    unfold dstOk at hd
    split at hd
    · rename_i d h; exact ⟨d, h⟩
    · cases hd
  refine ⟨d, hdst, ?_⟩
  split at hk
  · exact aop_strict hdst hk
  · rename_i j want hg
    have hgv : ∀ h', guardV ops { st with heap := h' } j = guardV ops st j := fun _ => rfl
    have hsv : ∀ h', skipB ops { st with heap := h' } j = skipB ops st j := fun _ => rfl
    simp only [hgv, hsv]
    split at hk
    · obtain ⟨hs, hk⟩ := cond_some hk
      cases hk
      exact ⟨by simp, fun _ _ _ => by simp only [hs, cond_true]⟩
    · rename_i d' b hgb
      cases hbw : b == want
      · rw [hbw] at hk
        cases hk
        exact ⟨by simp, fun _ _ _ => rfl⟩
      · rw [hbw] at hk
        exact aop_strict hdst hk
theorem updsH_not : ∀ {u : Upd} {h : Heap} {i : Nat}, (∀ p ∈ u, p.1 ≠ i) → updsH h u i = h i
  | [], _, _, _ => rfl
  | (j, b) :: u, h, i, hi => by
    simp only [updsH]
    rw [updsH_not (fun p hp => hi p (List.mem_cons_of_mem _ hp)), updH_ne _ _ (Ne.symm (hi (j, b) (by simp)))]
theorem updsH_in : ∀ {u : Upd} {h h' : Heap} {i : Nat}, (∃ p ∈ u, p.1 = i) → updsH h u i = updsH h' u i
  | [], _, _, _, hi => by obtain ⟨_, h, _⟩ := hi; cases h
  | (j, b) :: u, h, h', i, hi => by
    simp only [updsH]
    by_cases h2 : ∃ p ∈ u, p.1 = i
    · exact updsH_in h2
    · have h2' : ∀ p ∈ u, p.1 ≠ i := fun p hp e => h2 ⟨p, hp, e⟩
      rw [updsH_not h2', updsH_not h2']
      obtain ⟨p, hp, e⟩ := hi
      rcases List.mem_cons.1 hp with rfl | hp
      · subst e; rw [updH_same, updH_same]
      · exact absurd e (h2' p hp)
theorem updsH_comm {u u' : Upd} {h : Heap} (hd : ∀ p ∈ u, ∀ q ∈ u', p.1 ≠ q.1) : updsH (updsH h u) u' = updsH (updsH h u') u := by
  funext i
  by_cases h1 : ∃ p ∈ u, p.1 = i
  · have h2 : ∀ q ∈ u', q.1 ≠ i := by
      obtain ⟨p, hp, rfl⟩ := h1
      exact fun q hq e => hd p hp q hq e.symm
    rw [updsH_not h2, updsH_in h1]
  · have h1' : ∀ p ∈ u, p.1 ≠ i := fun p hp e => h1 ⟨p, hp, e⟩
    rw [updsH_not (h := updsH h u') h1']
    by_cases h2 : ∃ q ∈ u', q.1 = i
    · exact updsH_in h2
    · have h2' : ∀ p ∈ u', p.1 ≠ i := fun p hp e => h2 ⟨p, hp, e⟩
      rw [updsH_not h2', updsH_not h2', updsH_not h1']
theorem put_comm {x y : Oper} (hne : ∀ d, x.dst = some d → y.dst ≠ some d) {vx vy : V} {ux uy : Upd} (hd : ∀ p ∈ ux, ∀ q ∈ uy, p.1 ≠ q.1) : (st.put x.dst vx ux).put y.dst vy uy = (st.put y.dst vy uy).put x.dst vx ux := by
  unfold St.put
  simp only [updsH_comm hd, St.mk.injEq, and_true, true_and]
  cases hx : x.dst with
  | none => rfl
  | some d =>
    cases hy : y.dst with
    | none => rfl
    | some e =>
      have : e ≠ d := fun h => hne d hx (by rw [hy, h])
      simp only
      funext j
      by_cases h1 : j = d
      · subst h1
        rw [updT_ne _ _ (Ne.symm this), updT_same, updT_same]
      · by_cases h2 : j = e
        · subst h2
          rw [updT_same, updT_ne _ _ h1, updT_same]
        · rw [updT_ne _ _ h2, updT_ne _ _ h1, updT_ne _ _ h1, updT_ne _ _ h2]
theorem nid_ne {e e' d d' : Nat} (h : d < 65536) (he : e + 1 ≤ e') : nid e d 0 ≠ nid e' d' 0 := by
  have h1 : (e + 1) * K' ≤ e' * K' := Nat.mul_le_mul_right _ he
  have h2 : (e + 1) * K' = e * K' + K' := by rw [Nat.add_mul, Nat.one_mul]
  have h3 : d * 64 < K' := by
    have : K' = 65536 * 64 := rfl
    rw [this]
    exact Nat.mul_lt_mul_of_pos_right h (by decide)
  unfold nid
  generalize e * K' = A at *
  generalize e' * K' = B at *
  generalize K' = C at *
  generalize d * 64 = D at *
  generalize d' * 64 = F at *
  omega
theorem nid_inj {e d d' : Nat} (h : nid e d 0 = nid e d' 0) : d = d' := by
  unfold nid at h
  generalize e * K' = A at h
  omega
theorem stepA_build {ops : Array Oper} {l : Nat} (ha : rowOp o.op = true) (hk : stepA E ops (some l) o st = some (v, u)) : (u = [] ∧ ∀ h', stepA E ops (some l) o { st with heap := h' } = some (v, u)) ∨ ∃ id b d, u = [(id, b)] ∧ st.heap id = none ∧ o.dst = some d ∧ id = nid st.ep d 0 ∧ ∀ h' : Heap, h' id = none → stepA E ops (some l) o { st with heap := h' } = some (v, u) := by
  have hk0 := hk
  unfold stepA at hk
  obtain ⟨hd, hk⟩ := cond_some hk
  obtain ⟨d, hdst⟩ : ∃ d, o.dst = some d := by
    unfold dstOk at hd
    split at hd
    · rename_i d h; exact ⟨d, h⟩
    · cases hd
  have key : ∀ {v u}, aop E st (some l) o = some (v, u) → ∃ b, u = [(nid st.ep d 0, b)] ∧ st.heap (nid st.ep d 0) = none ∧ ∀ h' : Heap, h' (nid st.ep d 0) = none → aop E { st with heap := h' } (some l) o = some (v, u) := by
    intro v u h
    obtain ⟨dst, op, type, pos, after, guard⟩ := o
    simp only [aop] at h ⊢
    cases op <;> first | (cases ha; done) | skip
    have hdst : dst = some d := hdst
    subst hdst
    simp only [opK, Option.getD_some, evPs_heap] at h ⊢
    unfold opBuildSlice at h ⊢
    split at h
    · rename_i e i y he hf
      obtain ⟨hb, h⟩ := cond_some h
      split at h
      · rename_i xs ll hl
        cases ll with
        | cons a r => cases h
        | nil =>
          simp only [mkp, Option.some.injEq, Prod.mk.injEq] at h
          obtain ⟨rfl, rfl⟩ := h
          refine ⟨_, rfl, hf, fun h' hn => ?_⟩
          have hl2 := litRow_frame hl (h' := h') (by simp)
          rw [he, hn]
          simp only [hb, cond_true, hl2]
          rfl
      · cases h
    · cases h
  have hd2 : ∀ h', dstOk { st with heap := h' } (some l) o = true := fun _ => hd
  split at hk
  · rename_i hg
    obtain ⟨b, h1, h2, h3⟩ := key hk
    refine .inr ⟨_, b, d, h1, h2, hdst, rfl, fun h' hn => ?_⟩
    unfold stepA
    simp only [hd2, cond_true, hg]
    exact h3 h' hn
  · rename_i j want hg
    have hgv : ∀ h', guardV ops { st with heap := h' } j = guardV ops st j := fun _ => rfl
    have hsv : ∀ h', skipB ops { st with heap := h' } j = skipB ops st j := fun _ => rfl
    split at hk
    · rename_i hgn
      refine .inl ⟨?_, fun h' => ?_⟩
      · obtain ⟨_, hk⟩ := cond_some hk
        cases hk; rfl
      · unfold stepA
        simp only [hd2, cond_true, hg, hgv, hsv, hgn]
        exact hk
    · rename_i d' b' hgb
      cases hbw : b' == want
      · rw [hbw] at hk
        refine .inl ⟨by cases hk; rfl, fun h' => ?_⟩
        unfold stepA
        simp only [hd2, cond_true, hg, hgv, hgb, hbw]
        exact hk
      · rw [hbw] at hk
        obtain ⟨b, h1, h2, h3⟩ := key hk
        refine .inr ⟨_, b, d, h1, h2, hdst, rfl, fun h' hn => ?_⟩
        unfold stepA
        simp only [hd2, cond_true, hg, hgv, hgb, hbw]
        exact h3 h' hn
theorem readSl_more {h h' : Heap} (k : ∀ i y, h i = some y → h' i = some y) {t : Ty} {x : V} {ys : List t.den} (hk : readSl h t x = some ys) : readSl h' t x = some ys := by
  unfold readSl at hk ⊢
  split at hk
  · exact hk
  · exact hk
  · rename_i i
    cases hb : h i with
    | none => rw [hb] at hk; cases hk
    | some b => rw [hb] at hk; rw [k i b hb]; exact hk
  · rename_i i n
    cases hb : h i with
    | none => rw [hb] at hk; cases hk
    | some b => rw [hb] at hk; rw [k i b hb]; exact hk
  · rename_i i lo n z
    cases hb : h i with
    | none => rw [hb] at hk; cases hk
    | some b => rw [hb] at hk; rw [k i b hb]; exact hk
  · cases hk
theorem opAppend_more {P : Program} {id : Nat} {h h' : Heap} (k : ∀ i y, h i = some y → h' i = some y) (hid : h id = none → h' id = none) {t t2 : TypeId} {x y : V} (hk : opAppend P id h t t2 x y mkp = some (v, u)) : opAppend P id h' t t2 x y mkp = some (v, u) := by
  unfold opAppend at hk ⊢
  split at hk
  · rename_i e i yt e2 h1 h2 hn
    rw [h1, h2, hid hn]
    simp only
    split at hk
    · rename_i ys hys
      rw [readSl_more k hys]
      simp only
      split at hk
      · exact hk
      · rename_i r
        cases hb : h r with
        | none => rw [hb] at hk; cases hk
        | some b => rw [hb] at hk; rw [k r b hb]; exact hk
      · rename_i r n
        cases hb : h r with
        | none => rw [hb] at hk; cases hk
        | some b => rw [hb] at hk; rw [k r b hb]; exact hk
      · cases hk
    · cases hk
  · rename_i e i yt h1 h2 hn
    rw [h1, h2, hid hn]
    exact appStr_more k hk
  · cases hk
theorem stepA_appframe {ops : Array Oper} {d : Nat} (hf : appOp o.op = true) (hiq : isQ E o.op = false) (hd : o.dst = some d) (hk : stepA E ops none o st = some (v, u)) {h2 : Heap} (k : ∀ i y, st.heap i = some y → h2 i = some y) (hid : st.heap (nid st.ep d 0) = none → h2 (nid st.ep d 0) = none) : stepA E ops none o { st with heap := h2 } = some (v, u) := by
  have key : ∀ {v u}, aop E st none o = some (v, u) → aop E { st with heap := h2 } none o = some (v, u) := by
    intro v u hk
    obtain ⟨dst, op, type, pos, after, guard⟩ := o
    have hd : dst = some d := hd
    subst hd
    simp only [aop] at hk ⊢
    cases op <;> first | (cases hf; done) | skip
    rename_i c _
    simp only [appOp] at hf
    split at hf
    · rename_i hc
      have hqc : qOf E c = none := by unfold qOf; rw [hc]
      simp only [opK, hqc, hc, ev_heap, Option.getD_some] at hk ⊢
      split at hk
      · rename_i h3 h4
        exact opAppend_more k hid hk
      · cases hk
    · cases hf
  unfold stepA at hk ⊢
  obtain ⟨hdk, hk⟩ := cond_some hk
  have hd2 : dstOk { st with heap := h2 } none o = true := hdk
  simp only [hd2, cond_true]
  split at hk
  · exact key hk
  · rename_i j want hg
    have hgv : guardV ops { st with heap := h2 } j = guardV ops st j := rfl
    have hsv : skipB ops { st with heap := h2 } j = skipB ops st j := rfl
    simp only [hgv, hsv]
    split at hk
    · exact hk
    · rename_i d' b' hgb
      cases hbw : b' == want
      · rw [hbw] at hk
        exact hk
      · rw [hbw] at hk
        exact key hk
theorem stepA_allocId {ops : Array Oper} {id d : Nat} {b : Blk} (ha : allocOp o.op = true) (hd : o.dst = some d) (hk : stepA E ops lim o st = some (v, [(id, b)])) : id = nid st.ep d 0 := by
  have key : ∀ {v}, aop E st lim o = some (v, [(id, b)]) → id = nid st.ep d 0 := by
    intro v h
    obtain ⟨dst, op, type, pos, after, guard⟩ := o
    simp only [aop] at h
    cases op <;> first | (cases ha; done) | skip
    simp only [opK] at h
    split at h
    · split at h
      · obtain ⟨_, h⟩ := cond_some h
        simp only [mkp, Option.some.injEq, Prod.mk.injEq, List.cons.injEq, and_true] at h
        have hd : dst = some d := hd
        rw [← h.2.1, hd]
        rfl
      · cases h
    · cases h
  unfold stepA at hk
  obtain ⟨_, hk⟩ := cond_some hk
  split at hk
  · exact key hk
  · split at hk
    · obtain ⟨_, hk⟩ := cond_some hk
      cases hk
    · rename_i b' _
      cases hbw : b' == _
      · rw [hbw] at hk; cases hk
      · rw [hbw] at hk; exact key hk
theorem stepA_qframe {ops : Array Oper} (hq : isQ E o.op = true) (hk : stepA E ops lim o st = some (v, u)) {h2 : Heap} (hfr : ∀ (q : QFun) (args : List V) (v : V), q.run st.heap (st.ep + 1) args some = some v → q.run h2 (st.ep + 1) args some = some v) : stepA E ops lim o { st with heap := h2 } = some (v, u) := by
  have key : ∀ {v u}, aop E st lim o = some (v, u) → aop E { st with heap := h2 } lim o = some (v, u) := by
    intro v u h
    obtain ⟨dst, op, type, pos, after, guard⟩ := o
    simp only [aop] at h ⊢
    cases op <;> first | (cases hq; done) | skip
    rename_i c
    simp only [isQ] at hq
    simp only [opK] at h ⊢
    cases hqc : qOf E c with
    | none => rw [hqc] at hq; cases hq
    | some q =>
      rw [hqc] at h
      simp only at h ⊢
      cases lim with
      | none =>
        simp only at h ⊢
        rw [q.nat] at h
        obtain ⟨h1, rfl⟩ := bindp h
        rw [q.nat, evs_heap]
        show ((q.run h2 (st.ep + 1) (evs st c.args.toList) some).bind fun v => mkp v []) = _
        rw [hfr q _ _ h1]
        rfl
      | some l => cases h
  unfold stepA at hk ⊢
  obtain ⟨hd, hk⟩ := cond_some hk
  have hd2 : dstOk { st with heap := h2 } lim o = true := hd
  simp only [hd2, cond_true]
  split at hk
  · exact key hk
  · rename_i j want hg
    have hgv : guardV ops { st with heap := h2 } j = guardV ops st j := rfl
    have hsv : skipB ops { st with heap := h2 } j = skipB ops st j := rfl
    simp only [hgv, hsv]
    split at hk
    · exact hk
    · rename_i d' b' hgb
      cases hbw : b' == want
      · rw [hbw] at hk
        exact hk
      · rw [hbw] at hk
        exact key hk
theorem notIn_mem {a : Nat} : ∀ {u : Upd}, notIn a u = true → ∀ p ∈ u, p.1 ≠ a
  | [], _, _, h => by cases h
  | (i, b) :: u, h, p, hp => by
    rw [notIn, Bool.and_eq_true] at h
    rcases List.mem_cons.1 hp with rfl | hp
    · intro e
      have h1 := h.1
      have e : i = a := e
      subst e
      simp at h1
    · exact notIn_mem h.2 p hp
noncomputable def ldAt (st : St) (o : Op) (a : Nat) : Prop := ∃ t y, o = .load t y ∧ (∀ id off, st.ev y = .c (.ptr id off) → id = a) ∧ ∀ id i off, st.ev y ≠ .c (.eptr id i off)
theorem stepA_load_at {ops : Array Oper} {l : Option Nat} {a : Nat} (hk : stepA E ops l o st = some (v, u)) (hne : ldAt st o.op a) {h' : Heap} (hag : h' a = st.heap a) : stepA E ops l o { st with heap := h' } = some (v, u) := by
  obtain ⟨t, y, ho, hy, hy2⟩ := hne
  have key : aop E { st with heap := h' } l o = aop E st l o := by
    obtain ⟨dst, op, type, pos, after, guard⟩ := o
    have ho : op = .load t y := ho
    subst ho
    simp only [aop, opK, ev_heap]
    generalize st.ev y = z at hy hy2
    unfold opLoad
    split
    · rename_i id off
      obtain rfl := hy id off rfl
      have : rdH h' l id = rdH st.heap l id := by
        unfold rdH
        cases l with
        | none => exact hag
        | some l => simp only; rw [hag]
      rw [this]
    · rename_i id i off
      exact absurd rfl (hy2 id i off)
    · rfl
    · rfl
  unfold stepA at hk ⊢
  obtain ⟨hd, hk⟩ := cond_some hk
  have hd2 : dstOk { st with heap := h' } l o = true := hd
  simp only [hd2, cond_true]
  rw [key]
  exact hk
theorem loadOp_quiet {o : Op} (h : loadOp o = true) : quietOp o = true := by cases o <;> first | rfl | cases h
theorem swap_ok {ops : Array Oper} {x y : Oper} (hap : x.apart ops y = true) {lx ly : Option Nat}
    {vx vy : V} {ux uy : Upd} (hcase : pureOp E.P x.op = true ∨ pureOp E.P y.op = true ∨ (lx = some (nid st.ep 0 0) ∧ ly = some (nid st.ep 0 0)) ∨ (quietOp x.op = true ∧ lx = some (nid st.ep 0 0) ∧ ly = none ∧ semiU (nid st.ep 0 0) y.op uy = true ∧ (appOp y.op = true → qOk st x.op = true) ∧ isQ E y.op = false) ∨ (quietOp y.op = true ∧ ly = some (nid st.ep 0 0) ∧ lx = none ∧ semiU (nid st.ep 0 0) x.op ux = true ∧ (appOp x.op = true → qOk st y.op = true) ∧ isQ E x.op = false) ∨ (oneCall E.C x.op = true ∧ lx = none ∧ allocOp y.op = true ∧ isQ E x.op = false) ∨ (calmOp E x.op = true ∧ calmOp E y.op = true) ∨ (isQ E x.op = true ∧ smallA y = true) ∨ (appA x = true ∧ isQ E x.op = false ∧ lx = none ∧ rowOp y.op = true ∧ ly = some (nid st.ep 0 0)) ∨ (rowLook x.op = true ∧ lx = some (nid st.ep 0 0) ∧ storeOp y.op = true ∧ ly = none ∧ boxU uy = true) ∨ (storeOp x.op = true ∧ lx = none ∧ boxU ux = true ∧ rowLook y.op = true ∧ ly = some (nid st.ep 0 0)) ∨ (∃ a, (∀ p ∈ uy, p.1 ≠ a) ∧ ldAt st x.op a) ∨ (∃ a, (∀ p ∈ ux, p.1 ≠ a) ∧ ldAt st y.op a))
    (h1 : stepA E ops lx x st = some (vx, ux)) (h2 : stepA E ops ly y (st.put x.dst vx ux) = some (vy, uy)) :
    stepA E ops ly y st = some (vy, uy) ∧ stepA E ops lx x (st.put y.dst vy uy) = some (vx, ux) ∧ (st.put x.dst vx ux).put y.dst vy uy = (st.put y.dst vy uy).put x.dst vx ux := by
  obtain ⟨a1, a2, a3⟩ := Oper.apart_spec hap
  rw [stepA_put a1] at h2
  rw [stepA_put a3]
  have old : ∀ (h0 : Heap) (u : Upd) (h : Heap), (∀ p ∈ u, nid st.ep 0 0 ≤ p.1 ∨ ∃ t xs f, h0 p.1 = some (.row t xs f) ∧ p.2 = .row t xs true) → (∀ i, i < nid st.ep 0 0 → SimB (h0 i) (h i)) → ∀ i, i < nid st.ep 0 0 → SimB (h0 i) (updsH h u i) := by
    intro h0 u
    induction u with
    | nil => intro h _ h1; exact h1
    | cons q u ih =>
      intro h hu h1
      simp only [updsH]
      refine ih _ (fun p hp => hu p (List.mem_cons_of_mem _ hp)) fun i hi => ?_
      by_cases e : i = q.1
      · subst e
        rw [updH_same]
        rcases hu q (by simp) with h2 | ⟨t, xs, f, h2, h3⟩
        · omega
        · rw [h2, h3]; exact .inr ⟨t, xs, f, true, rfl, rfl⟩
      · rw [updH_ne _ _ e]; exact h1 i hi
  have oldc : ∀ {z : Oper} {vz : V} {uz : Upd} (h0 : Heap), isQ E z.op = false → stepA E ops none z { st with heap := h0 } = some (vz, uz) → geU (nid st.ep 0 0) (match callFn z.op with | some _ => true | none => false) uz = true → ∀ i, i < nid st.ep 0 0 → SimB (h0 i) (updsH h0 uz i) := by
    intro z vz uz h0 hiq hz hg
    refine old h0 uz h0 (fun p hp => ?_) (fun _ _ => .inl rfl)
    rcases geU_mem hg p hp with h2 | ⟨h2, h3⟩
    · exact .inl h2
    · exact .inr (stepA_frozen hiq h2 hz p hp h3)
  have appc : ∀ {z : Oper} {vz : V} {uz : Upd} (h0 : Heap), stepA E ops none z { st with heap := h0 } = some (vz, uz) → appOp z.op = true → ∀ i, SimN (h0 i) (updsH h0 uz i) := by
    intro z vz uz h0 hz ha
    have h1 := stepA_app ha hz
    have key : ∀ (u : Upd) (h : Heap), (∀ p ∈ u, NB (h0 p.1) ∧ NB (some p.2)) → (∀ i, SimN (h0 i) (h i)) → ∀ i, SimN (h0 i) (updsH h u i) := by
      intro u
      induction u with
      | nil => intro h _ h1; exact h1
      | cons q u ih =>
        intro h hu h1
        simp only [updsH]
        refine ih _ (fun p hp => hu p (List.mem_cons_of_mem _ hp)) fun i => ?_
        by_cases e : i = q.1
        · subst e
          rw [updH_same]
          exact .inr (hu q (by simp))
        · rw [updH_ne _ _ e]; exact h1 i
    exact key uz h0 h1 (fun _ => .inl rfl)
  rcases hcase with hp | hp | ⟨rfl, rfl⟩ | ⟨hq, rfl, rfl, hg, hap, hiq⟩ | ⟨hq, rfl, rfl, hg, hap, hiq⟩ | ⟨hx, rfl, hy, hiq⟩ | ⟨hx, hy⟩ | ⟨hx, hy⟩ | ⟨hx, hiq, rfl, hy, rfl⟩ | ⟨hx, rfl, hy, rfl, hb⟩ | ⟨hx, rfl, hb, hy, rfl⟩ | ⟨a, ha, hap⟩ | ⟨a, ha, hap⟩
  rotate_left 3
  · have hu := stepA_quiet hq h1
    subst hu
    refine ⟨h2, ?_, put_comm a2 (by simp)⟩
    cases ha : appOp y.op
    · exact stepA_quiet_frame hq h1 (oldc st.heap hiq h2 (by unfold semiU at hg; rw [ha, Bool.or_false] at hg; exact hg))
    · exact stepA_quiet_frameN hq (hap ha) h1 (appc st.heap h2 ha)
  · have hu := stepA_quiet hq h2
    subst hu
    refine ⟨?_, h1, put_comm a2 (by simp)⟩
    cases ha : appOp x.op
    · exact stepA_quiet_frame (st := { st with heap := updsH st.heap ux }) hq h2 (fun i hi => (oldc st.heap hiq h1 (by unfold semiU at hg; rw [ha, Bool.or_false] at hg; exact hg) i hi).symm)
    · have hq2 : qOk { st with heap := updsH st.heap ux } y.op = true := by
        have := hap ha
        have e : ∀ h : Heap, qOk { st with heap := h } y.op = qOk st y.op := fun h => by
          unfold qOk
          simp only [ev_heap]
        rw [e]; exact this
      exact stepA_quiet_frameN (st := { st with heap := updsH st.heap ux }) hq hq2 h2 (fun i => (appc st.heap h1 ha i).symm)
  · rcases stepA_alloc hy h2 with ⟨rfl, k⟩ | ⟨id, b, rfl, hn, k⟩
    · exact ⟨k st.heap, h1, put_comm a2 (by simp)⟩
    · have hn : updsH st.heap ux id = none := hn
      have hne : ∀ p ∈ ux, p.1 ≠ id := by
        intro p hp e
        have hs : ∀ (u : Upd) (h : Heap), (∃ p ∈ u, p.1 = id) → updsH h u id ≠ none := by
          intro u
          induction u with
          | nil => rintro h ⟨_, h', _⟩; cases h'
          | cons q u ih =>
            intro h hq
            simp only [updsH]
            by_cases h3 : ∃ p ∈ u, p.1 = id
            · exact ih _ h3
            · rw [updsH_not (fun p hp e => h3 ⟨p, hp, e⟩)]
              obtain ⟨p, hp, e⟩ := hq
              rcases List.mem_cons.1 hp with rfl | hp
              · subst e; rw [updH_same]; simp
              · exact absurd ⟨p, hp, e⟩ h3
        exact hs ux st.heap ⟨p, hp, e⟩ hn
      have hn0 : st.heap id = none := (updsH_not (h := st.heap) hne).symm.trans hn
      refine ⟨k st.heap hn0, ?_, put_comm a2 (by simpa using fun a b' hp => hne (a, b') hp)⟩
      refine stepA_call_ext hiq hx h1 (fun i hi => ?_) (fun p hp hp0 => ?_)
      · exact updsH_not (by simpa using fun e => hi (by rw [← e]; exact hn0))
      · rw [updsH_not (by simpa using fun e => hne p hp e.symm)]; exact hp0
  · have hu := stepA_calm hx h1
    subst hu
    have hu2 := stepA_calm hy h2
    subst hu2
    exact ⟨h2, h1, put_comm a2 (by simp)⟩
  · have hu := stepA_calm (by unfold calmOp; rw [hx, Bool.or_true]) h1
    subst hu
    unfold smallA at hy
    rw [Bool.and_eq_true] at hy
    obtain ⟨d, hdy, hlt⟩ : ∃ d, y.dst = some d ∧ d < 65536 := by
      have h3 := hy.2
      split at h3
      · rename_i d hd; exact ⟨d, hd, Nat.le_of_ble_eq_true h3⟩
      · cases h3
    rcases stepA_alloc hy.1 h2 with ⟨rfl, k⟩ | ⟨id, b, rfl, hn, k⟩
    · exact ⟨h2, h1, put_comm a2 (by simp)⟩
    · refine ⟨h2, ?_, put_comm a2 (by simp)⟩
      have hid : id = nid st.ep d 0 := stepA_allocId hy.1 hdy h2
      have hidd : ∀ e' d', st.ep + 1 ≤ e' → id ≠ nid e' d' 0 := by
        intro e' d' he
        rw [hid]
        exact nid_ne hlt he
      exact stepA_qframe (h2 := updH st.heap id b) hx h1 fun q args v hv => q.frame st.heap (st.ep + 1) args v id b hn hidd hv
  · unfold appA at hx
    rw [Bool.and_eq_true] at hx
    obtain ⟨dx, hdx⟩ := Option.isSome_iff_exists.1 hx.2
    rcases stepA_build hy h2 with ⟨rfl, k⟩ | ⟨id, b, d, rfl, hn, hdy, hid, k⟩
    · exact ⟨k st.heap, h1, put_comm a2 (by simp)⟩
    · have hn : updsH st.heap ux id = none := hn
      have hne : ∀ p ∈ ux, p.1 ≠ id := by
        intro p hp e
        have hs : ∀ (u : Upd) (h : Heap), (∃ p ∈ u, p.1 = id) → updsH h u id ≠ none := by
          intro u
          induction u with
          | nil => rintro h ⟨_, h', _⟩; cases h'
          | cons q u ih =>
            intro h hq
            simp only [updsH]
            by_cases h3 : ∃ p ∈ u, p.1 = id
            · exact ih _ h3
            · rw [updsH_not (fun p hp e => h3 ⟨p, hp, e⟩)]
              obtain ⟨p, hp, e⟩ := hq
              rcases List.mem_cons.1 hp with rfl | hp
              · subst e; rw [updH_same]; simp
              · exact absurd ⟨p, hp, e⟩ h3
        exact hs ux st.heap ⟨p, hp, e⟩ hn
      have hn0 : st.heap id = none := (updsH_not (h := st.heap) hne).symm.trans hn
      refine ⟨k st.heap hn0, ?_, put_comm a2 (by simpa using fun a b' hp => hne (a, b') hp)⟩
      have hdd : dx ≠ d := fun e => a2 dx hdx (by rw [hdy, e])
      have hid : id = nid st.ep d 0 := hid
      refine stepA_appframe (h2 := updsH st.heap [(id, b)]) hx.1 hiq hdx h1 (fun i y hy => ?_) ?_
      · show updH st.heap id b i = some y
        rw [updH_ne _ _ (fun e => by rw [e, hn0] at hy; cases hy)]
        exact hy
      · intro hq
        show updH st.heap id b (nid st.ep dx 0) = none
        rw [updH_ne _ _ (fun e => hdd (nid_inj (e.trans hid))), hq]
  · obtain ⟨hu, k⟩ := stepA_rowLook hx h1
    subst hu
    have h2' : stepA E ops none y st = some (vy, uy) := h2
    exact ⟨h2', k _ (updsH_simX uy st.heap (stepA_store hy hb h2') fun _ => .inl rfl), put_comm a2 (by simp)⟩
  · obtain ⟨hu, k⟩ := stepA_rowLook hy h2
    subst hu
    exact ⟨k st.heap fun i => (updsH_simX ux st.heap (stepA_store hx hb h1) (fun _ => .inl rfl) i).symm, h1, put_comm a2 (by simp)⟩
  · obtain ⟨t, y', e1, e2, e3⟩ := hap
    have hu := stepA_quiet (by rw [e1]; rfl) h1
    subst hu
    have h2' : stepA E ops ly y st = some (vy, uy) := h2
    exact ⟨h2', stepA_load_at h1 ⟨t, y', e1, e2, e3⟩ (updsH_not ha), put_comm a2 (by simp)⟩
  · obtain ⟨t, y', e1, e2, e3⟩ := hap
    have hu := stepA_quiet (by rw [e1]; rfl) h2
    subst hu
    refine ⟨?_, h1, put_comm a2 (by simp)⟩
    exact stepA_load_at (st := { st with heap := updsH st.heap ux }) (h' := st.heap) h2 ⟨t, y', e1, by rw [ev_heap]; exact e2, by rw [ev_heap]; exact e3⟩ (updsH_not ha).symm
  · obtain ⟨rfl, k⟩ := stepA_pure hp h1
    exact ⟨h2, k _, put_comm a2 (by simp)⟩
  · obtain ⟨rfl, k⟩ := stepA_pure hp h2
    exact ⟨k st.heap, h1, put_comm a2 (by simp)⟩
  · obtain ⟨dx, hdx, bx, kx⟩ := stepA_strict h1
    obtain ⟨dy, hdy, by', ky⟩ := stepA_strict h2
    have hne : @Ne Nat dx dy := fun e => a2 dx hdx (by rw [hdy, e])
    have by' : ∀ p ∈ uy, nid st.ep dy 0 ≤ p.1 ∧ p.1 < nid st.ep dy 0 + 64 := by'
    have hdis : ∀ p ∈ ux, ∀ q ∈ uy, p.1 ≠ q.1 := by
      intro p hp q hq e
      have h1 := bx p hp
      have h2 := by' q hq
      unfold nid at h1 h2
      omega
    have low : ∀ (u : Upd) (d : Nat), (∀ p ∈ u, nid st.ep d 0 ≤ p.1 ∧ p.1 < nid st.ep d 0 + 64) → ∀ i, i < nid st.ep 0 0 → updsH st.heap u i = st.heap i := by
      intro u d hu i hi
      refine updsH_not fun p hp e => ?_
      have h1 := hu p hp
      unfold nid at h1 hi
      omega
    have far : ∀ (u : Upd) (d e : Nat), d ≠ e → (∀ p ∈ u, nid st.ep d 0 ≤ p.1 ∧ p.1 < nid st.ep d 0 + 64) → ∀ i, nid st.ep e 0 ≤ i → i < nid st.ep e 0 + 64 → updsH st.heap u i = st.heap i := by
      intro u d e hde hu i hi hi'
      refine updsH_not fun p hp e => ?_
      have h1 := hu p hp
      unfold nid at h1 hi hi'
      omega
    refine ⟨?_, kx _ (low uy dy by') (far uy dy dx (Ne.symm hne) by'), put_comm a2 hdis⟩
    exact ky st.heap (fun i hi => (low ux dx bx i hi).symm) (fun i hi hi' => (far ux dx dy hne bx i hi hi').symm)
end
end Go.VM
