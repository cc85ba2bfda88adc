/- The value machine: regions that draw: two operations that may change places. -/
import Derived.Test.YtphgopfhobockaaVM17d
namespace Go.VM
open Go.RowKit
section
variable {W0 : World} {O : Out} {E : Env} {st : St} {o : Oper} {v : V} {u : Upd} {lim : Option Nat}

/-! ### One operation, its guard asked, by itself -/
def stepA (E : Env) (ops : Array Oper) (lim : Option Nat) (o : Oper) (st : St) : Option (V × Upd) :=
  bif dstOk st lim o then
    match o.guard with
    | none => aop E st lim o
    | some (j, want) => match guardV ops st j with
      | none => bif skipB ops st j then some (.tup [], []) else none
      | some (_, b) => bif b == want then aop E st lim o else some (.tup [], [])
  else none

theorem updT_self {f : Nat → V} {d : Nat} {x : V} (h : f d = x) : updT f d x = f := by
  funext j
  by_cases hj : j = d
  · subst hj; rw [updT_same, h]
  · rw [updT_ne _ _ hj]

theorem stepK_eq {R : Type} {ops : Array Oper} {K : St → Option R} : stepK E ops lim o st K = (stepA E ops lim o st).bind fun p => K (st.put o.dst p.1 p.2) := by
  unfold stepK stepA
  cases dstOk st lim o
  · rfl
  · simp only [cond_true]
    cases hgd : o.guard with
    | none =>
      simp only [opK_eq]
      cases aop E st lim o <;> rfl
    | some jw =>
      obtain ⟨j, want⟩ := jw
      simp only
      cases hg : guardV ops st j with
      | none =>
        simp only
        cases skipB ops st j <;> rfl
      | some p =>
        obtain ⟨d, b⟩ := p
        have hd := (guardV_some hg).2
        have e : updT st.tmp d (boolC b) = st.tmp := updT_self hd
        have e2 : ({ st with tmp := st.tmp } : St) = st := rfl
        simp only
        cases b
        · simp only [cond_false, e, opK_eq]
          cases want
          · simp only [cond_false, beq_self_eq_true, cond_true]
            cases aop E st lim o <;> rfl
          · rfl
        · simp only [cond_true, e, opK_eq]
          cases want
          · rfl
          · simp only [cond_true, beq_self_eq_true]
            cases aop E st lim o <;> rfl

theorem stepC_eq {R : Type} {ops : Array Oper} {l0 : Nat} {K : St → Option R} : stepC E ops l0 o st K = (stepA E ops none o st).bind fun p => bif semiU l0 o.op p.2 then K (st.put o.dst p.1 p.2) else none := by
  unfold stepC stepA
  cases dstOk st none o
  · rfl
  · simp only [cond_true]
    cases hgd : o.guard with
    | none =>
      simp only [opK_eq]
      cases aop E st none o <;> rfl
    | some jw =>
      obtain ⟨j, want⟩ := jw
      simp only
      cases hg : guardV ops st j with
      | none =>
        simp only
        cases skipB ops st j <;> rfl
      | some p =>
        obtain ⟨d, b⟩ := p
        have hd := (guardV_some hg).2
        have e : updT st.tmp d (boolC b) = st.tmp := updT_self hd
        simp only
        cases b
        · simp only [cond_false, e, opK_eq]
          cases want
          · simp only [cond_false, beq_self_eq_true, cond_true]
            cases aop E st none o <;> rfl
          · rfl
        · simp only [cond_true, e, opK_eq]
          cases want
          · rfl
          · simp only [cond_true, beq_self_eq_true]
            cases aop E st none o <;> rfl
theorem geU_mem {l0 : Nat} {fn : Bool} : ∀ {u : Upd}, geU l0 fn u = true → ∀ p ∈ u, l0 ≤ p.1 ∨ (fn = true ∧ frozenB p.2 = true)
  | [], _, _, h => by cases h
  | (i, b) :: u, h, p, hp => by
    rw [geU, Bool.and_eq_true, Bool.or_eq_true, Bool.and_eq_true] at h
    rcases List.mem_cons.1 hp with rfl | hp
    · exact h.1.imp Nat.le_of_ble_eq_true id
    · exact geU_mem h.2 p hp
theorem stepA_quiet {ops : Array Oper} (hq : quietOp o.op = true) (hk : stepA E ops lim o st = some (v, u)) : u = [] := by
  have key : ∀ {v u}, aop E st lim o = some (v, u) → u = [] := by
    intro v u h
    obtain ⟨dst, op, type, pos, after, guard⟩ := o
    simp only [aop] at h
    cases op <;> first | (cases hq; done) | skip
    all_goals simp only [opK] at h
    case load t x => rw [opLoad_nat] at h; exact (bindp h).2
    case indexAddr t x i => rw [opIndexAddr_nat] at h; exact (bindp h).2
    case call c =>
      simp only [quietOp] at hq
      split at hq
      · rename_i hc
        simp only [hc] at h
        split at h
        · rw [opLen_nat] at h; exact (bindp h).2
        · cases h
      · cases hq
  unfold stepA at hk
  obtain ⟨_, hk⟩ := cond_some hk
  split at hk
  · exact key hk
  · split at hk
    · obtain ⟨_, hk⟩ := cond_some hk
      cases hk; rfl
    · rename_i b _
      cases hbw : b == _
      · rw [hbw] at hk; cases hk; rfl
      · rw [hbw] at hk; exact key hk

theorem rdH_sim {h h' : Heap} {l : Nat} (hag : ∀ i, i < l → SimB (h i) (h' i)) (i : Nat) : SimB (rdH h (some l) i) (rdH h' (some l) i) := by
  unfold rdH
  simp only
  cases hb : Nat.blt i l
  · exact .inl rfl
  · exact hag i (Nat.le_of_ble_eq_true hb)
theorem opLoad_sim {P : Program} {h h' : Heap} {l : Nat} (hag : ∀ i, i < l → SimB (h i) (h' i)) (t : TypeId) (x : V) : opLoad P h' (some l) t x some = opLoad P h (some l) t x some := by
  unfold opLoad
  split
  · rename_i id off
    rcases rdH_sim hag id with e | ⟨u, xs, f, f', e1, e2⟩
    · rw [e]
    · rw [e1, e2]
  · rename_i id i off
    rcases rdH_sim hag id with e | ⟨u, xs, f, f', e1, e2⟩
    · rw [e]
    · rw [e1, e2]
  · rfl
  · rfl
theorem opIndexAddr_sim {P : Program} {h h' : Heap} {l : Nat} (hag : ∀ i, i < l → SimB (h i) (h' i)) (t : TypeId) (x i : V) : opIndexAddr P h' (some l) t x i some = opIndexAddr P h (some l) t x i some := by
  unfold opIndexAddr
  split
  · split
    · split
      · split
        · rfl
        · rename_i id
          rcases rdH_sim hag id with e | ⟨u, xs, f, f', e1, e2⟩
          · rw [e]
          · rw [e1, e2]
        · rename_i id n
          rcases rdH_sim hag id with e | ⟨u, xs, f, f', e1, e2⟩
          · rw [e]
          · rw [e1, e2]
        · rename_i id lo n z
          rcases rdH_sim hag id with e | ⟨u, xs, f, f', e1, e2⟩
          · rw [e]
          · rw [e1, e2]
        · rfl
      · rfl
    · rfl
    · rfl
  · rfl
theorem opLen_sim {P : Program} {h h' : Heap} {l : Nat} (hag : ∀ i, i < l → SimB (h i) (h' i)) (t : TypeId) (x : V) : opLen P h' (some l) t x some = opLen P h (some l) t x some := by
  unfold opLen
  split
  · rfl
  · rfl
  · rfl
  · rename_i id _
    rcases rdH_sim hag id with e | ⟨u, xs, f, f', e1, e2⟩
    · rw [e]
    · rw [e1, e2]
  · rename_i id n _
    rcases rdH_sim hag id with e | ⟨u, xs, f, f', e1, e2⟩
    · rw [e]
    · rw [e1, e2]
  · rfl
  · rfl
  · rfl
theorem aop_quiet_frame {l : Nat} (hq : quietOp o.op = true) (hk : aop E st (some l) o = some (v, u)) {h' : Heap} (hag : ∀ i, i < l → SimB (st.heap i) (h' i)) : aop E { st with heap := h' } (some l) o = some (v, u) := by
  obtain ⟨dst, op, type, pos, after, guard⟩ := o
  simp only [aop] at hk ⊢
  cases op <;> first | (cases hq; done) | skip
  all_goals simp only [opK, ev_heap, ev_heap'] at hk ⊢
  case load t x =>
    rw [opLoad_nat] at hk ⊢
    rw [← hk, opLoad_sim hag]
  case indexAddr t x i =>
    rw [opIndexAddr_nat] at hk ⊢
    rw [← hk, opIndexAddr_sim hag]
  case call c =>
    simp only [quietOp] at hq
    split at hq
    · rename_i hc
      simp only [hc] at hk ⊢
      split at hk
      · rw [opLen_nat] at hk ⊢
        rw [← hk, opLen_sim hag]
      · cases hk
    · cases hq
theorem stepA_quiet_frame {ops : Array Oper} {l : Nat} (hq : quietOp o.op = true) (hk : stepA E ops (some l) o st = some (v, u)) {h' : Heap} (hag : ∀ i, i < l → SimB (st.heap i) (h' i)) : stepA E ops (some l) o { st with heap := h' } = some (v, u) := by
  unfold stepA at hk ⊢
  obtain ⟨hd, hk⟩ := cond_some hk
  have hd2 : dstOk { st with heap := h' } (some l) o = true := hd
  simp only [hd2, cond_true]
  split at hk
  · exact aop_quiet_frame hq hk hag
  · rename_i j want hg
    have hgv : guardV ops { st with heap := h' } j = guardV ops st j := rfl
    have hsv : skipB ops { st with heap := h' } j = skipB ops st j := rfl
    simp only [hgv, hsv]
    split at hk
    · exact hk
    · rename_i d' b hgb
      cases hbw : b == want
      · rw [hbw] at hk
        exact hk
      · rw [hbw] at hk
        exact aop_quiet_frame hq hk hag

/-- No box. -/
def NB (a : Option Blk) : Prop := ∀ cs, a ≠ some (.box cs)
def SimN (a b : Option Blk) : Prop := a = b ∨ (NB a ∧ NB b)
theorem SimN.symm {a b : Option Blk} : SimN a b → SimN b a
  | .inl h => .inl h.symm
  | .inr h => .inr h.symm
theorem rdH_simN {h h' : Heap} (hag : ∀ i, SimN (h i) (h' i)) (l : Option Nat) (i : Nat) : SimN (rdH h l i) (rdH h' l i) := by
  unfold rdH
  cases l with
  | none => exact hag i
  | some l =>
    simp only
    cases hb : Nat.blt i l
    · exact .inl rfl
    · exact hag i
theorem opLoad_simN {P : Program} {h h' : Heap} {l : Option Nat} (hag : ∀ i, SimN (h i) (h' i)) (t : TypeId) : ∀ x : V, (match x with | .c (.ptr ..) => true | .c (.fptr ..) => true | _ => false) = true → opLoad P h' l t x some = opLoad P h l t x some
  | .c (.ptr id off), _ => by
    simp only [opLoad]
    rcases rdH_simN hag l id with e | ⟨e1, e2⟩
    · rw [e]
    · cases h1 : rdH h l id with
      | none =>
        cases h2 : rdH h' l id with
        | none => rfl
        | some b2 => cases b2 <;> first | rfl | exact absurd h2 (e2 _)
      | some b1 =>
        cases b1 with
        | box cs => exact absurd h1 (e1 _)
        | _ =>
          cases h2 : rdH h' l id with
          | none => rfl
          | some b2 => cases b2 <;> first | rfl | exact absurd h2 (e2 _)
  | .c (.fptr u x off), _ => rfl
theorem aop_quiet_frameN {l : Option Nat} (hq : quietOp o.op = true) (hok : qOk st o.op = true) (hk : aop E st l o = some (v, u)) {h' : Heap} (hag : ∀ i, SimN (st.heap i) (h' i)) : aop E { st with heap := h' } l o = some (v, u) := by
  obtain ⟨dst, op, type, pos, after, guard⟩ := o
  simp only [aop] at hk ⊢
  cases op <;> first | (cases hq; done) | skip
  all_goals simp only [opK, ev_heap, ev_heap'] at hk ⊢
  case load t x =>
    rw [opLoad_nat] at hk ⊢
    rw [← hk, opLoad_simN hag t (st.ev x) hok]
  case indexAddr t x i =>
    rw [opIndexAddr_nat] at hk ⊢
    rw [← hk]
    have e : opIndexAddr E.P h' l t (st.ev x) (st.ev i) some = opIndexAddr E.P st.heap l t (st.ev x) (st.ev i) some := by
      simp only [qOk] at hok
      split at hok
      · rename_i ty xx h1
        rw [h1]
        cases ty <;> (unfold opIndexAddr; split <;> rfl)
      · rename_i h1; rw [h1]; unfold opIndexAddr; split <;> rfl
      · rename_i h1; rw [h1]; unfold opIndexAddr; split <;> rfl
      · cases hok
    rw [e]
  case call c =>
    simp only [quietOp] at hq
    split at hq
    · rename_i hc
      simp only [hc] at hk ⊢
      split at hk
      · rename_i t x ht hx
        rw [opLen_nat] at hk ⊢
        rw [← hk]
        have e : opLen E.P h' l t (st.ev x) some = opLen E.P st.heap l t (st.ev x) some := by
          simp only [qOk, hx] at hok
          split at hok
          · rename_i ty xx h1
            rw [h1]
            unfold opLen
            rcases E.P.underlying t with _ | d
            · rfl
            · cases d <;> cases ty <;> rfl
          · rename_i h1
            rw [h1]
            unfold opLen
            rcases E.P.underlying t with _ | d
            · rfl
            · cases d <;> rfl
          · rename_i h1
            rw [h1]
            unfold opLen
            rcases E.P.underlying t with _ | d
            · rfl
            · cases d <;> rfl
          · cases hok
        rw [e]
      · cases hk
    · cases hq
theorem stepA_quiet_frameN {ops : Array Oper} {l : Option Nat} (hq : quietOp o.op = true) (hok : qOk st o.op = true) (hk : stepA E ops l o st = some (v, u)) {h' : Heap} (hag : ∀ i, SimN (st.heap i) (h' i)) : stepA E ops l o { st with heap := h' } = some (v, u) := by
  unfold stepA at hk ⊢
  obtain ⟨hd, hk⟩ := cond_some hk
  have hd2 : dstOk { st with heap := h' } l o = true := hd
  simp only [hd2, cond_true]
  split at hk
  · exact aop_quiet_frameN hq hok hk hag
  · rename_i j want hg
    have hgv : guardV ops { st with heap := h' } j = guardV ops st j := rfl
    have hsv : skipB ops { st with heap := h' } j = skipB ops st j := rfl
    simp only [hgv, hsv]
    split at hk
    · exact hk
    · rename_i d' b hgb
      cases hbw : b == want
      · rw [hbw] at hk
        exact hk
      · rw [hbw] at hk
        exact aop_quiet_frameN hq hok hk hag
/-- An append changes no box. -/
theorem opAppend_nb {P : Program} {id : Nat} {h : Heap} {t t2 : TypeId} {x y : V} (hk : opAppend P id h t t2 x y mkp = some (v, u)) : ∀ p ∈ u, NB (h p.1) ∧ NB (some p.2) := by
  have nbr : ∀ {t xs f}, NB (some (.row t xs f)) := fun cs e => by cases e
  have nbd : NB (some .dead) := fun cs e => by cases e
  have nbn : NB none := fun cs e => by cases e
  unfold opAppend at hk
  split at hk
  · rename_i hid
    split at hk
    · split at hk
      · have hk := (cond_some hk).2
        simp only [mkp, Option.some.injEq, Prod.mk.injEq] at hk
        obtain ⟨rfl, rfl⟩ := hk
        intro p hp
        simp only [List.mem_cons, List.not_mem_nil, or_false] at hp
        subst hp
        exact ⟨by rw [hid]; exact nbn, nbr⟩
      · split at hk
        · rename_i hb
          split at hk
          · have hk := (cond_some hk).2
            simp only [mkp, Option.some.injEq, Prod.mk.injEq] at hk
            obtain ⟨rfl, rfl⟩ := hk
            intro p hp
            simp only [List.mem_cons, List.not_mem_nil, or_false] at hp
            rcases hp with rfl | rfl
            · exact ⟨by rw [hb]; exact nbr, nbd⟩
            · exact ⟨by rw [hid]; exact nbn, nbr⟩
          · cases hk
        · cases hk
      · split at hk
        · rename_i hb
          split at hk
          · rename_i r n _ _ _ _ _ _
            cases hw : winOf r y
            · rw [hw] at hk
              have hk := (cond_some hk).2
              simp only [mkp, Option.some.injEq, Prod.mk.injEq] at hk
              obtain ⟨rfl, rfl⟩ := hk
              intro p hp
              simp only [List.mem_cons, List.not_mem_nil, or_false] at hp
              rcases hp with rfl | rfl
              · exact ⟨by rw [hb]; exact nbr, nbd⟩
              · exact ⟨by rw [hid]; exact nbn, nbr⟩
            · rw [hw] at hk
              have hk := (cond_some hk).2
              simp only [mkp, Option.some.injEq, Prod.mk.injEq] at hk
              obtain ⟨rfl, rfl⟩ := hk
              intro p hp
              simp only [List.mem_cons, List.not_mem_nil, or_false] at hp
              subst hp
              exact ⟨by rw [hb]; exact nbr, nbr⟩
          · cases hk
        · cases hk
      · cases hk
    · cases hk
  · cases hk
theorem stepA_app {ops : Array Oper} (hf : appOp o.op = true) (hk : stepA E ops none o st = some (v, u)) : ∀ p ∈ u, NB (st.heap p.1) ∧ NB (some p.2) := by
  have key : ∀ {v u}, aop E st none o = some (v, u) → ∀ p ∈ u, NB (st.heap p.1) ∧ NB (some p.2) := by
    intro v u hk
    obtain ⟨dst, op, type, pos, after, guard⟩ := o
    simp only [aop] at hk
    cases op <;> first | (cases hf; done) | skip
    rename_i c
    simp only [appOp] at hf
    split at hf
    · rename_i hc
      simp only [opK, hc] at hk
      split at hk
      · exact opAppend_nb hk
      · cases hk
    · cases hf
  unfold stepA at hk
  obtain ⟨_, hk⟩ := cond_some hk
  split at hk
  · exact key hk
  · split at hk
    · obtain ⟨_, hk⟩ := cond_some hk
      cases hk
      exact fun p hp => by cases hp
    · rename_i b _
      cases hbw : b == _
      · rw [hbw] at hk; cases hk
        exact fun p hp => by cases hp
      · rw [hbw] at hk; exact key hk
theorem aop_callFn {f : Nat} (hf : callFn o.op = some f) : ∃ args : List V, aop E st none o = opCall E (nid st.ep (o.dst.getD 0) 0) st.heap none f args mkp ∧ ∀ h' : Heap, aop E { st with heap := h' } none o = opCall E (nid st.ep (o.dst.getD 0) 0) h' none f args mkp := by
  obtain ⟨dst, op, type, pos, after, guard⟩ := o
  simp only [aop] at hf ⊢
  cases op <;> first | (cases hf; done) | skip
  rename_i c
  simp only [callFn] at hf
  split at hf
  · rename_i f' hc
    cases hf
    simp only [opK, hc]
    exact ⟨_, rfl, fun h' => by rw [evs_heap]; rfl⟩
  · cases hf
theorem stepA_frozen {ops : Array Oper} (hf : isFn o.op = true) (hk : stepA E ops none o st = some (v, u)) : ∀ p ∈ u, frozenB p.2 = true → ∃ t xs f, st.heap p.1 = some (.row t xs f) ∧ p.2 = .row t xs true := by
  have key : ∀ {v u}, aop E st none o = some (v, u) → ∀ p ∈ u, frozenB p.2 = true → ∃ t xs f, st.heap p.1 = some (.row t xs f) ∧ p.2 = .row t xs true := by
    intro v u hk
    unfold isFn at hf
    split at hf
    · rename_i f hc
      obtain ⟨args, e1, _⟩ := aop_callFn (E := E) (st := st) hc
      rw [e1] at hk
      exact call_frozen hk
    · cases hf
  unfold stepA at hk
  obtain ⟨_, hk⟩ := cond_some hk
  split at hk
  · exact key hk
  · split at hk
    · obtain ⟨_, hk⟩ := cond_some hk
      cases hk
      exact fun p hp => by cases hp
    · rename_i b _
      cases hbw : b == _
      · rw [hbw] at hk; cases hk
        exact fun p hp => by cases hp
      · rw [hbw] at hk; exact key hk
theorem stepA_call_ext {ops : Array Oper} (h1 : oneCall E.C o.op = true) (hk : stepA E ops none o st = some (v, u)) {h' : Heap} (he : Ext st.heap h') (hu : ∀ p ∈ u, st.heap p.1 = none → h' p.1 = none) : stepA E ops none o { st with heap := h' } = some (v, u) := by
  unfold oneCall at h1
  split at h1
  · rename_i f hf
    have hs : ∃ s, E.C f = [s] := by
      split at h1
      · rename_i s hs; exact ⟨s, hs⟩
      · cases h1
    have key : ∀ {v u}, aop E st none o = some (v, u) → (∀ p ∈ u, st.heap p.1 = none → h' p.1 = none) → aop E { st with heap := h' } none o = some (v, u) := by
      intro v u hk hu
      obtain ⟨args, e1, e2⟩ := aop_callFn (E := E) (st := st) hf
      rw [e1] at hk
      rw [e2]
      exact call_ext he hs hk hu
    unfold stepA at hk ⊢
    obtain ⟨hd, hk⟩ := cond_some hk
    have hd2 : dstOk { st with heap := h' } none o = true := hd
    simp only [hd2, cond_true]
    split at hk
    · exact key hk hu
    · rename_i j want hg
      have hgv : guardV ops { st with heap := h' } j = guardV ops st j := rfl
      have hsv : skipB ops { st with heap := h' } j = skipB ops st j := rfl
      simp only [hgv, hsv]
      split at hk
      · exact hk
      · rename_i d' b hgb
        cases hbw : b == want
        · rw [hbw] at hk
          exact hk
        · rw [hbw] at hk
          exact key hk hu
  · cases h1
/-- A new box: one place, that was free. -/
theorem stepA_alloc {ops : Array Oper} (ha : allocOp o.op = true) (hk : stepA E ops lim o st = some (v, u)) : (u = [] ∧ ∀ h', stepA E ops lim o { st with heap := h' } = some (v, u)) ∨ ∃ id b, u = [(id, b)] ∧ st.heap id = none ∧ ∀ h' : Heap, h' id = none → stepA E ops lim o { st with heap := h' } = some (v, u) := by
  have key : ∀ {v u}, aop E st lim o = some (v, u) → ∃ id b, u = [(id, b)] ∧ st.heap id = none ∧ ∀ h' : Heap, h' id = none → aop E { st with heap := h' } lim o = some (v, u) := by
    intro v u h
    obtain ⟨dst, op, type, pos, after, guard⟩ := o
    simp only [aop] at h ⊢
    cases op <;> first | (cases ha; done) | skip
    simp only [opK] at h ⊢
    split at h
    · rename_i i hi hf
      split at h
      · rename_i z hz
        obtain ⟨hb, h⟩ := cond_some h
        simp only [mkp, Option.some.injEq, Prod.mk.injEq] at h
        obtain ⟨rfl, rfl⟩ := h
        refine ⟨_, _, rfl, hf, fun h' hn => ?_⟩
        rw [hn, hi]
        simp only [hz, hb]
        rfl
      · cases h
    · cases h
  unfold stepA at hk ⊢
  obtain ⟨hd, hk⟩ := cond_some hk
  have hd2 : ∀ h', dstOk { st with heap := h' } lim o = true := fun _ => hd
  simp only [hd2, cond_true]
  split at hk
  · exact .inr (key hk)
  · rename_i j want hg
    have hgv : ∀ h', guardV ops { st with heap := h' } j = guardV ops st j := fun _ => rfl
    have hsv : ∀ h', skipB ops { st with heap := h' } j = skipB ops st j := fun _ => rfl
    simp only [hgv, hsv]
    split at hk
    · refine .inl ⟨?_, fun _ => hk⟩
      obtain ⟨_, hk⟩ := cond_some hk
      cases hk; rfl
    · rename_i d' b hgb
      cases hbw : b == want
      · rw [hbw] at hk
        exact .inl ⟨by cases hk; rfl, fun _ => hk⟩
      · rw [hbw] at hk
        exact .inr (key hk)

theorem guardV_tmp {ops : Array Oper} {tmp : Nat → V} {j : Nat} (h : ∀ d, (ops[j]?).bind (·.dst) = some d → tmp d = st.tmp d) : guardV ops { st with tmp := tmp } j = guardV ops st j := by
  unfold guardV
  split
  · rename_i d hd
    simp only [h d hd]
  · rfl

theorem skipB_tmp {ops : Array Oper} {tmp : Nat → V} {j : Nat} (h : ∀ d, (ops[j]?).bind (·.dst) = some d → tmp d = st.tmp d) : skipB ops { st with tmp := tmp } j = skipB ops st j := by
  unfold skipB
  split
  · rename_i d hd
    simp only [h d hd]
  · rfl

theorem stepA_tmp {ops : Array Oper} {d : Nat} {x : V} (h : d ∉ o.looksAt ops) : stepA E ops lim o { st with tmp := updT st.tmp d x } = stepA E ops lim o st := by
  have ha : aop E { st with tmp := updT st.tmp d x } lim o = aop E st lim o := aop_congr fun y hy => by
    cases y with
    | tmp t =>
      show updT st.tmp d x t = st.tmp t
      refine updT_ne _ _ fun e => h ?_
      subst e
      exact List.mem_append_left _ (List.mem_filterMap.2 ⟨.tmp t, by simpa using hy, rfl⟩)
    | _ => rfl
  unfold stepA
  rw [ha]
  have hd : dstOk { st with tmp := updT st.tmp d x } lim o = dstOk st lim o := rfl
  rw [hd]
  cases dstOk st lim o
  · rfl
  · simp only [cond_true]
    split
    · rfl
    · rename_i j want hg
      have hk : ∀ d', (ops[j]?).bind (·.dst) = some d' → updT st.tmp d x d' = st.tmp d' := fun d' hd' => updT_ne _ _ fun e => h (by subst e; simp [Oper.looksAt, hg, hd'])
      rw [guardV_tmp (tmp := updT st.tmp d x) (j := j) hk, skipB_tmp (tmp := updT st.tmp d x) (j := j) hk]

theorem stepA_put {ops : Array Oper} {dst : Option Nat} {x : V} {ux : Upd} (h : ∀ d, dst = some d → d ∉ o.looksAt ops) : stepA E ops lim o (st.put dst x ux) = stepA E ops lim o { st with heap := updsH st.heap ux } := by
  cases dst with
  | none => rfl
  | some d => exact stepA_tmp (st := { st with heap := updsH st.heap ux }) (h d rfl)

theorem stepA_pure {ops : Array Oper} (hp : pureOp E.P o.op = true) (hk : stepA E ops lim o st = some (v, u)) : u = [] ∧ ∀ h', stepA E ops lim o { st with heap := h' } = some (v, u) := by
  unfold stepA at hk ⊢
  obtain ⟨hd, hk⟩ := cond_some hk
  have hd2 : ∀ h', dstOk { st with heap := h' } lim o = true := fun _ => hd
  simp only [hd2, cond_true]
  split at hk
  · exact aop_pure hp hk
  · rename_i j want hg
    have hgv : ∀ h', guardV ops { st with heap := h' } j = guardV ops st j := fun _ => rfl
    have hsv : ∀ h', skipB ops { st with heap := h' } j = skipB ops st j := fun _ => rfl
    simp only [hgv, hsv]
    split at hk
    · obtain ⟨hs, hk⟩ := cond_some hk
      cases hk
      exact ⟨rfl, fun _ => by simp only [hs, cond_true]⟩
    · rename_i d b hgb
      cases hbw : b == want
      · rw [hbw] at hk
        cases hk
        exact ⟨rfl, fun _ => rfl⟩
      · rw [hbw] at hk
        exact aop_pure hp hk

theorem stepA_strict {ops : Array Oper} {l : Nat} (hk : stepA E ops (some l) o st = some (v, u)) : ∃ d, o.dst = some d ∧ (∀ p ∈ u, nid st.ep d 0 ≤ p.1 ∧ p.1 < nid st.ep d 0 + 64) ∧
    ∀ h' : Heap, (∀ i, i < l → h' i = st.heap i) → (∀ i, nid st.ep d 0 ≤ i → i < nid st.ep d 0 + 64 → h' i = st.heap i) → stepA E ops (some l) o { st with heap := h' } = some (v, u) := by
  unfold stepA at hk ⊢
  obtain ⟨hd, hk⟩ := cond_some hk
  have hd2 : ∀ h', dstOk { st with heap := h' } (some l) o = true := fun _ => hd
  simp only [hd2, cond_true]
  obtain ⟨d, hdst⟩ : ∃ d, o.dst = some d := by
    unfold dstOk at hd
    split at hd
    · rename_i d h; exact ⟨d, h⟩
    · cases hd
  refine ⟨d, hdst, ?_⟩
  split at hk
  · exact aop_strict hdst hk
  · rename_i j want hg
    have hgv : ∀ h', guardV ops { st with heap := h' } j = guardV ops st j := fun _ => rfl
    have hsv : ∀ h', skipB ops { st with heap := h' } j = skipB ops st j := fun _ => rfl
    simp only [hgv, hsv]
    split at hk
    · obtain ⟨hs, hk⟩ := cond_some hk
      cases hk
      exact ⟨by simp, fun _ _ _ => by simp only [hs, cond_true]⟩
    · rename_i d' b hgb
      cases hbw : b == want
      · rw [hbw] at hk
        cases hk
        exact ⟨by simp, fun _ _ _ => rfl⟩
      · rw [hbw] at hk
        exact aop_strict hdst hk

/-! ### Two operations that may change places -/
theorem updsH_not : ∀ {u : Upd} {h : Heap} {i : Nat}, (∀ p ∈ u, p.1 ≠ i) → updsH h u i = h i
  | [], _, _, _ => rfl
  | (j, b) :: u, h, i, hi => by
    simp only [updsH]
    rw [updsH_not (fun p hp => hi p (List.mem_cons_of_mem _ hp)), updH_ne _ _ (Ne.symm (hi (j, b) (by simp)))]
theorem updsH_in : ∀ {u : Upd} {h h' : Heap} {i : Nat}, (∃ p ∈ u, p.1 = i) → updsH h u i = updsH h' u i
  | [], _, _, _, hi => by obtain ⟨_, h, _⟩ := hi; cases h
  | (j, b) :: u, h, h', i, hi => by
    simp only [updsH]
    by_cases h2 : ∃ p ∈ u, p.1 = i
    · exact updsH_in h2
    · have h2' : ∀ p ∈ u, p.1 ≠ i := fun p hp e => h2 ⟨p, hp, e⟩
      rw [updsH_not h2', updsH_not h2']
      obtain ⟨p, hp, e⟩ := hi
      rcases List.mem_cons.1 hp with rfl | hp
      · subst e; rw [updH_same, updH_same]
      · exact absurd e (h2' p hp)
theorem updsH_comm {u u' : Upd} {h : Heap} (hd : ∀ p ∈ u, ∀ q ∈ u', p.1 ≠ q.1) : updsH (updsH h u) u' = updsH (updsH h u') u := by
  funext i
  by_cases h1 : ∃ p ∈ u, p.1 = i
  · have h2 : ∀ q ∈ u', q.1 ≠ i := by
      obtain ⟨p, hp, rfl⟩ := h1
      exact fun q hq e => hd p hp q hq e.symm
    rw [updsH_not h2, updsH_in h1]
  · have h1' : ∀ p ∈ u, p.1 ≠ i := fun p hp e => h1 ⟨p, hp, e⟩
    rw [updsH_not (h := updsH h u') h1']
    by_cases h2 : ∃ q ∈ u', q.1 = i
    · exact updsH_in h2
    · have h2' : ∀ p ∈ u', p.1 ≠ i := fun p hp e => h2 ⟨p, hp, e⟩
      rw [updsH_not h2', updsH_not h2', updsH_not h1']

theorem put_comm {x y : Oper} (hne : ∀ d, x.dst = some d → y.dst ≠ some d) {vx vy : V} {ux uy : Upd} (hd : ∀ p ∈ ux, ∀ q ∈ uy, p.1 ≠ q.1) : (st.put x.dst vx ux).put y.dst vy uy = (st.put y.dst vy uy).put x.dst vx ux := by
  unfold St.put
  simp only [updsH_comm hd, St.mk.injEq, and_true, true_and]
  cases hx : x.dst with
  | none => rfl
  | some d =>
    cases hy : y.dst with
    | none => rfl
    | some e =>
      have : e ≠ d := fun h => hne d hx (by rw [hy, h])
      simp only
      funext j
      by_cases h1 : j = d
      · subst h1
        rw [updT_ne _ _ (Ne.symm this), updT_same, updT_same]
      · by_cases h2 : j = e
        · subst h2
          rw [updT_same, updT_ne _ _ h1, updT_same]
        · rw [updT_ne _ _ h2, updT_ne _ _ h1, updT_ne _ _ h1, updT_ne _ _ h2]

theorem swap_ok {ops : Array Oper} {x y : Oper} (hap : x.apart ops y = true) {lx ly : Option Nat}
    {vx vy : V} {ux uy : Upd} (hcase : pureOp E.P x.op = true ∨ pureOp E.P y.op = true ∨ (lx = some (nid st.ep 0 0) ∧ ly = some (nid st.ep 0 0)) ∨ (quietOp x.op = true ∧ lx = some (nid st.ep 0 0) ∧ ly = none ∧ semiU (nid st.ep 0 0) y.op uy = true ∧ (appOp y.op = true → qOk st x.op = true)) ∨ (quietOp y.op = true ∧ ly = some (nid st.ep 0 0) ∧ lx = none ∧ semiU (nid st.ep 0 0) x.op ux = true ∧ (appOp x.op = true → qOk st y.op = true)) ∨ (oneCall E.C x.op = true ∧ lx = none ∧ allocOp y.op = true) ∨ (quietOp x.op = true ∧ quietOp y.op = true))
    (h1 : stepA E ops lx x st = some (vx, ux)) (h2 : stepA E ops ly y (st.put x.dst vx ux) = some (vy, uy)) :
    stepA E ops ly y st = some (vy, uy) ∧ stepA E ops lx x (st.put y.dst vy uy) = some (vx, ux) ∧ (st.put x.dst vx ux).put y.dst vy uy = (st.put y.dst vy uy).put x.dst vx ux := by
  obtain ⟨a1, a2, a3⟩ := Oper.apart_spec hap
  rw [stepA_put a1] at h2
  rw [stepA_put a3]
  have old : ∀ (h0 : Heap) (u : Upd) (h : Heap), (∀ p ∈ u, nid st.ep 0 0 ≤ p.1 ∨ ∃ t xs f, h0 p.1 = some (.row t xs f) ∧ p.2 = .row t xs true) → (∀ i, i < nid st.ep 0 0 → SimB (h0 i) (h i)) → ∀ i, i < nid st.ep 0 0 → SimB (h0 i) (updsH h u i) := by
    intro h0 u
    induction u with
    | nil => intro h _ h1; exact h1
    | cons q u ih =>
      intro h hu h1
      simp only [updsH]
      refine ih _ (fun p hp => hu p (List.mem_cons_of_mem _ hp)) fun i hi => ?_
      by_cases e : i = q.1
      · subst e
        rw [updH_same]
        rcases hu q (by simp) with h2 | ⟨t, xs, f, h2, h3⟩
        · omega
        · rw [h2, h3]; exact .inr ⟨t, xs, f, true, rfl, rfl⟩
      · rw [updH_ne _ _ e]; exact h1 i hi
  have oldc : ∀ {z : Oper} {vz : V} {uz : Upd} (h0 : Heap), stepA E ops none z { st with heap := h0 } = some (vz, uz) → geU (nid st.ep 0 0) (match callFn z.op with | some _ => true | none => false) uz = true → ∀ i, i < nid st.ep 0 0 → SimB (h0 i) (updsH h0 uz i) := by
    intro z vz uz h0 hz hg
    refine old h0 uz h0 (fun p hp => ?_) (fun _ _ => .inl rfl)
    rcases geU_mem hg p hp with h2 | ⟨h2, h3⟩
    · exact .inl h2
    · exact .inr (stepA_frozen h2 hz p hp h3)
  have appc : ∀ {z : Oper} {vz : V} {uz : Upd} (h0 : Heap), stepA E ops none z { st with heap := h0 } = some (vz, uz) → appOp z.op = true → ∀ i, SimN (h0 i) (updsH h0 uz i) := by
    intro z vz uz h0 hz ha
    have h1 := stepA_app ha hz
    have key : ∀ (u : Upd) (h : Heap), (∀ p ∈ u, NB (h0 p.1) ∧ NB (some p.2)) → (∀ i, SimN (h0 i) (h i)) → ∀ i, SimN (h0 i) (updsH h u i) := by
      intro u
      induction u with
      | nil => intro h _ h1; exact h1
      | cons q u ih =>
        intro h hu h1
        simp only [updsH]
        refine ih _ (fun p hp => hu p (List.mem_cons_of_mem _ hp)) fun i => ?_
        by_cases e : i = q.1
        · subst e
          rw [updH_same]
          exact .inr (hu q (by simp))
        · rw [updH_ne _ _ e]; exact h1 i
    exact key uz h0 h1 (fun _ => .inl rfl)
  rcases hcase with hp | hp | ⟨rfl, rfl⟩ | ⟨hq, rfl, rfl, hg, hap⟩ | ⟨hq, rfl, rfl, hg, hap⟩ | ⟨hx, rfl, hy⟩ | ⟨hx, hy⟩
  rotate_left 3
  · have hu := stepA_quiet hq h1
    subst hu
    refine ⟨h2, ?_, put_comm a2 (by simp)⟩
    cases ha : appOp y.op
    · exact stepA_quiet_frame hq h1 (oldc st.heap h2 (by unfold semiU at hg; rw [ha, Bool.or_false] at hg; exact hg))
    · exact stepA_quiet_frameN hq (hap ha) h1 (appc st.heap h2 ha)
  · have hu := stepA_quiet hq h2
    subst hu
    refine ⟨?_, h1, put_comm a2 (by simp)⟩
    cases ha : appOp x.op
    · exact stepA_quiet_frame (st := { st with heap := updsH st.heap ux }) hq h2 (fun i hi => (oldc st.heap h1 (by unfold semiU at hg; rw [ha, Bool.or_false] at hg; exact hg) i hi).symm)
    · have hq2 : qOk { st with heap := updsH st.heap ux } y.op = true := by
        have := hap ha
        have e : ∀ h : Heap, qOk { st with heap := h } y.op = qOk st y.op := fun h => by
          unfold qOk
          simp only [ev_heap]
        rw [e]; exact this
      exact stepA_quiet_frameN (st := { st with heap := updsH st.heap ux }) hq hq2 h2 (fun i => (appc st.heap h1 ha i).symm)
  · rcases stepA_alloc hy h2 with ⟨rfl, k⟩ | ⟨id, b, rfl, hn, k⟩
    · exact ⟨k st.heap, h1, put_comm a2 (by simp)⟩
    · have hn : updsH st.heap ux id = none := hn
      have hne : ∀ p ∈ ux, p.1 ≠ id := by
        intro p hp e
        have hs : ∀ (u : Upd) (h : Heap), (∃ p ∈ u, p.1 = id) → updsH h u id ≠ none := by
          intro u
          induction u with
          | nil => rintro h ⟨_, h', _⟩; cases h'
          | cons q u ih =>
            intro h hq
            simp only [updsH]
            by_cases h3 : ∃ p ∈ u, p.1 = id
            · exact ih _ h3
            · rw [updsH_not (fun p hp e => h3 ⟨p, hp, e⟩)]
              obtain ⟨p, hp, e⟩ := hq
              rcases List.mem_cons.1 hp with rfl | hp
              · subst e; rw [updH_same]; simp
              · exact absurd ⟨p, hp, e⟩ h3
        exact hs ux st.heap ⟨p, hp, e⟩ hn
      have hn0 : st.heap id = none := (updsH_not (h := st.heap) hne).symm.trans hn
      refine ⟨k st.heap hn0, ?_, put_comm a2 (by simpa using fun a b' hp => hne (a, b') hp)⟩
      refine stepA_call_ext hx h1 (fun i hi => ?_) (fun p hp hp0 => ?_)
      · exact updsH_not (by simpa using fun e => hi (by rw [← e]; exact hn0))
      · rw [updsH_not (by simpa using fun e => hne p hp e.symm)]; exact hp0
  · have hu := stepA_quiet hx h1
    subst hu
    have hu2 := stepA_quiet hy h2
    subst hu2
    exact ⟨h2, h1, put_comm a2 (by simp)⟩
  · obtain ⟨rfl, k⟩ := stepA_pure hp h1
    exact ⟨h2, k _, put_comm a2 (by simp)⟩
  · obtain ⟨rfl, k⟩ := stepA_pure hp h2
    exact ⟨k st.heap, h1, put_comm a2 (by simp)⟩
  · obtain ⟨dx, hdx, bx, kx⟩ := stepA_strict h1
    obtain ⟨dy, hdy, by', ky⟩ := stepA_strict h2
    have hne : @Ne Nat dx dy := fun e => a2 dx hdx (by rw [hdy, e])
    have by' : ∀ p ∈ uy, nid st.ep dy 0 ≤ p.1 ∧ p.1 < nid st.ep dy 0 + 64 := by'
    have hdis : ∀ p ∈ ux, ∀ q ∈ uy, p.1 ≠ q.1 := by
      intro p hp q hq e
      have h1 := bx p hp
      have h2 := by' q hq
      unfold nid at h1 h2
      omega
    have low : ∀ (u : Upd) (d : Nat), (∀ p ∈ u, nid st.ep d 0 ≤ p.1 ∧ p.1 < nid st.ep d 0 + 64) → ∀ i, i < nid st.ep 0 0 → updsH st.heap u i = st.heap i := by
      intro u d hu i hi
      refine updsH_not fun p hp e => ?_
      have h1 := hu p hp
      unfold nid at h1 hi
      omega
    have far : ∀ (u : Upd) (d e : Nat), d ≠ e → (∀ p ∈ u, nid st.ep d 0 ≤ p.1 ∧ p.1 < nid st.ep d 0 + 64) → ∀ i, nid st.ep e 0 ≤ i → i < nid st.ep e 0 + 64 → updsH st.heap u i = st.heap i := by
      intro u d e hde hu i hi hi'
      refine updsH_not fun p hp e => ?_
      have h1 := hu p hp
      unfold nid at h1 hi hi'
      omega
    refine ⟨?_, kx _ (low uy dy by') (far uy dy dx (Ne.symm hne) by'), put_comm a2 hdis⟩
    exact ky st.heap (fun i hi => (low ux dx bx i hi).symm) (fun i hi hi' => (far ux dx dy hne bx i hi hi').symm)
end
end Go.VM
