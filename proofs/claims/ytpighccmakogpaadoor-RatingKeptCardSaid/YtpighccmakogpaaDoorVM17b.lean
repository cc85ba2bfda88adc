/- The value machine: regions that draw: two operations that may change places. -/
import Derived.Test.YtpighccmakogpaaDoorVM17
namespace Go.VM
open Go.RowKit
section
variable {W0 : World} {O : Out} {E : Env} {st : St} {o : Oper} {v : V} {u : Upd} {lim : Option Nat}

/-! ### One operation, its guard asked, by itself -/
def stepA (E : Env) (ops : Array Oper) (lim : Option Nat) (o : Oper) (st : St) : Option (V × Upd) :=
  bif dstOk st lim o then
    match o.guard with
    | none => aop E st lim o
    | some (j, want) => match guardV ops st j with
      | none => bif skipB ops st j then some (.tup [], []) else none
      | some (_, b) => bif b == want then aop E st lim o else some (.tup [], [])
  else none

theorem updT_self {f : Nat → V} {d : Nat} {x : V} (h : f d = x) : updT f d x = f := by
  funext j
  by_cases hj : j = d
  · subst hj; rw [updT_same, h]
  · rw [updT_ne _ _ hj]

theorem stepK_eq {R : Type} {ops : Array Oper} {K : St → Option R} : stepK E ops lim o st K = (stepA E ops lim o st).bind fun p => K (st.put o.dst p.1 p.2) := by
  unfold stepK stepA
  cases dstOk st lim o
  · rfl
  · simp only [cond_true]
    cases hgd : o.guard with
    | none =>
      simp only [opK_eq]
      cases aop E st lim o <;> rfl
    | some jw =>
      obtain ⟨j, want⟩ := jw
      simp only
      cases hg : guardV ops st j with
      | none =>
        simp only
        cases skipB ops st j <;> rfl
      | some p =>
        obtain ⟨d, b⟩ := p
        have hd := (guardV_some hg).2
        have e : updT st.tmp d (boolC b) = st.tmp := updT_self hd
        have e2 : ({ st with tmp := st.tmp } : St) = st := rfl
        simp only
        cases b
        · simp only [cond_false, e, opK_eq]
          cases want
          · simp only [cond_false, beq_self_eq_true, cond_true]
            cases aop E st lim o <;> rfl
          · rfl
        · simp only [cond_true, e, opK_eq]
          cases want
          · rfl
          · simp only [cond_true, beq_self_eq_true]
            cases aop E st lim o <;> rfl

theorem guardV_tmp {ops : Array Oper} {tmp : Nat → V} {j : Nat} (h : ∀ d, (ops[j]?).bind (·.dst) = some d → tmp d = st.tmp d) : guardV ops { st with tmp := tmp } j = guardV ops st j := by
  unfold guardV
  split
  · rename_i d hd
    simp only [h d hd]
  · rfl

theorem skipB_tmp {ops : Array Oper} {tmp : Nat → V} {j : Nat} (h : ∀ d, (ops[j]?).bind (·.dst) = some d → tmp d = st.tmp d) : skipB ops { st with tmp := tmp } j = skipB ops st j := by
  unfold skipB
  split
  · rename_i d hd
    simp only [h d hd]
  · rfl

theorem stepA_tmp {ops : Array Oper} {d : Nat} {x : V} (h : d ∉ o.looksAt ops) : stepA E ops lim o { st with tmp := updT st.tmp d x } = stepA E ops lim o st := by
  have ha : aop E { st with tmp := updT st.tmp d x } lim o = aop E st lim o := aop_congr fun y hy => by
    cases y with
    | tmp t =>
      show updT st.tmp d x t = st.tmp t
      refine updT_ne _ _ fun e => h ?_
      subst e
      exact List.mem_append_left _ (List.mem_filterMap.2 ⟨.tmp t, by simpa using hy, rfl⟩)
    | _ => rfl
  unfold stepA
  rw [ha]
  have hd : dstOk { st with tmp := updT st.tmp d x } lim o = dstOk st lim o := rfl
  rw [hd]
  cases dstOk st lim o
  · rfl
  · simp only [cond_true]
    split
    · rfl
    · rename_i j want hg
      have hk : ∀ d', (ops[j]?).bind (·.dst) = some d' → updT st.tmp d x d' = st.tmp d' := fun d' hd' => updT_ne _ _ fun e => h (by subst e; simp [Oper.looksAt, hg, hd'])
      rw [guardV_tmp (tmp := updT st.tmp d x) (j := j) hk, skipB_tmp (tmp := updT st.tmp d x) (j := j) hk]

theorem stepA_put {ops : Array Oper} {dst : Option Nat} {x : V} {ux : Upd} (h : ∀ d, dst = some d → d ∉ o.looksAt ops) : stepA E ops lim o (st.put dst x ux) = stepA E ops lim o { st with heap := updsH st.heap ux } := by
  cases dst with
  | none => rfl
  | some d => exact stepA_tmp (st := { st with heap := updsH st.heap ux }) (h d rfl)

theorem stepA_pure {ops : Array Oper} (hp : pureOp E.P o.op = true) (hk : stepA E ops lim o st = some (v, u)) : u = [] ∧ ∀ h', stepA E ops lim o { st with heap := h' } = some (v, u) := by
  unfold stepA at hk ⊢
  obtain ⟨hd, hk⟩ := cond_some hk
  have hd2 : ∀ h', dstOk { st with heap := h' } lim o = true := fun _ => hd
  simp only [hd2, cond_true]
  split at hk
  · exact aop_pure hp hk
  · rename_i j want hg
    have hgv : ∀ h', guardV ops { st with heap := h' } j = guardV ops st j := fun _ => rfl
    have hsv : ∀ h', skipB ops { st with heap := h' } j = skipB ops st j := fun _ => rfl
    simp only [hgv, hsv]
    split at hk
    · obtain ⟨hs, hk⟩ := cond_some hk
      cases hk
      exact ⟨rfl, fun _ => by simp only [hs, cond_true]⟩
    · rename_i d b hgb
      cases hbw : b == want
      · rw [hbw] at hk
        cases hk
        exact ⟨rfl, fun _ => rfl⟩
      · rw [hbw] at hk
        exact aop_pure hp hk

theorem stepA_strict {ops : Array Oper} {l : Nat} (hk : stepA E ops (some l) o st = some (v, u)) : ∃ d, o.dst = some d ∧ (∀ p ∈ u, nid st.ep d 0 ≤ p.1 ∧ p.1 < nid st.ep d 0 + 64) ∧
    ∀ h' : Heap, (∀ i, i < l → h' i = st.heap i) → (∀ i, nid st.ep d 0 ≤ i → i < nid st.ep d 0 + 64 → h' i = st.heap i) → stepA E ops (some l) o { st with heap := h' } = some (v, u) := by
  unfold stepA at hk ⊢
  obtain ⟨hd, hk⟩ := cond_some hk
  have hd2 : ∀ h', dstOk { st with heap := h' } (some l) o = true := fun _ => hd
  simp only [hd2, cond_true]
  obtain ⟨d, hdst⟩ : ∃ d, o.dst = some d := by
    unfold dstOk at hd
    split at hd
    · rename_i d h; exact ⟨d, h⟩
    · cases hd
  refine ⟨d, hdst, ?_⟩
  split at hk
  · exact aop_strict hdst hk
  · rename_i j want hg
    have hgv : ∀ h', guardV ops { st with heap := h' } j = guardV ops st j := fun _ => rfl
    have hsv : ∀ h', skipB ops { st with heap := h' } j = skipB ops st j := fun _ => rfl
    simp only [hgv, hsv]
    split at hk
    · obtain ⟨hs, hk⟩ := cond_some hk
      cases hk
      exact ⟨by simp, fun _ _ _ => by simp only [hs, cond_true]⟩
    · rename_i d' b hgb
      cases hbw : b == want
      · rw [hbw] at hk
        cases hk
        exact ⟨by simp, fun _ _ _ => rfl⟩
      · rw [hbw] at hk
        exact aop_strict hdst hk

/-! ### Two operations that may change places -/
theorem updsH_not : ∀ {u : Upd} {h : Heap} {i : Nat}, (∀ p ∈ u, p.1 ≠ i) → updsH h u i = h i
  | [], _, _, _ => rfl
  | (j, b) :: u, h, i, hi => by
    simp only [updsH]
    rw [updsH_not (fun p hp => hi p (List.mem_cons_of_mem _ hp)), updH_ne _ _ (Ne.symm (hi (j, b) (by simp)))]
theorem updsH_in : ∀ {u : Upd} {h h' : Heap} {i : Nat}, (∃ p ∈ u, p.1 = i) → updsH h u i = updsH h' u i
  | [], _, _, _, hi => by obtain ⟨_, h, _⟩ := hi; cases h
  | (j, b) :: u, h, h', i, hi => by
    simp only [updsH]
    by_cases h2 : ∃ p ∈ u, p.1 = i
    · exact updsH_in h2
    · have h2' : ∀ p ∈ u, p.1 ≠ i := fun p hp e => h2 ⟨p, hp, e⟩
      rw [updsH_not h2', updsH_not h2']
      obtain ⟨p, hp, e⟩ := hi
      rcases List.mem_cons.1 hp with rfl | hp
      · subst e; rw [updH_same, updH_same]
      · exact absurd e (h2' p hp)
theorem updsH_comm {u u' : Upd} {h : Heap} (hd : ∀ p ∈ u, ∀ q ∈ u', p.1 ≠ q.1) : updsH (updsH h u) u' = updsH (updsH h u') u := by
  funext i
  by_cases h1 : ∃ p ∈ u, p.1 = i
  · have h2 : ∀ q ∈ u', q.1 ≠ i := by
      obtain ⟨p, hp, rfl⟩ := h1
      exact fun q hq e => hd p hp q hq e.symm
    rw [updsH_not h2, updsH_in h1]
  · have h1' : ∀ p ∈ u, p.1 ≠ i := fun p hp e => h1 ⟨p, hp, e⟩
    rw [updsH_not (h := updsH h u') h1']
    by_cases h2 : ∃ q ∈ u', q.1 = i
    · exact updsH_in h2
    · have h2' : ∀ p ∈ u', p.1 ≠ i := fun p hp e => h2 ⟨p, hp, e⟩
      rw [updsH_not h2', updsH_not h2', updsH_not h1']

theorem put_comm {x y : Oper} (hne : ∀ d, x.dst = some d → y.dst ≠ some d) {vx vy : V} {ux uy : Upd} (hd : ∀ p ∈ ux, ∀ q ∈ uy, p.1 ≠ q.1) : (st.put x.dst vx ux).put y.dst vy uy = (st.put y.dst vy uy).put x.dst vx ux := by
  unfold St.put
  simp only [updsH_comm hd, St.mk.injEq, and_true, true_and]
  cases hx : x.dst with
  | none => rfl
  | some d =>
    cases hy : y.dst with
    | none => rfl
    | some e =>
      have : e ≠ d := fun h => hne d hx (by rw [hy, h])
      simp only
      funext j
      by_cases h1 : j = d
      · subst h1
        rw [updT_ne _ _ (Ne.symm this), updT_same, updT_same]
      · by_cases h2 : j = e
        · subst h2
          rw [updT_same, updT_ne _ _ h1, updT_same]
        · rw [updT_ne _ _ h2, updT_ne _ _ h1, updT_ne _ _ h1, updT_ne _ _ h2]

theorem swap_ok {ops : Array Oper} {x y : Oper} (hap : x.apart ops y = true) {lx ly : Option Nat}
    (hcase : pureOp E.P x.op = true ∨ pureOp E.P y.op = true ∨ (lx = some (nid st.ep 0 0) ∧ ly = some (nid st.ep 0 0))) {vx vy : V} {ux uy : Upd}
    (h1 : stepA E ops lx x st = some (vx, ux)) (h2 : stepA E ops ly y (st.put x.dst vx ux) = some (vy, uy)) :
    stepA E ops ly y st = some (vy, uy) ∧ stepA E ops lx x (st.put y.dst vy uy) = some (vx, ux) ∧ (st.put x.dst vx ux).put y.dst vy uy = (st.put y.dst vy uy).put x.dst vx ux := by
  obtain ⟨a1, a2, a3⟩ := Oper.apart_spec hap
  rw [stepA_put a1] at h2
  rw [stepA_put a3]
  rcases hcase with hp | hp | ⟨rfl, rfl⟩
  · obtain ⟨rfl, k⟩ := stepA_pure hp h1
    exact ⟨h2, k _, put_comm a2 (by simp)⟩
  · obtain ⟨rfl, k⟩ := stepA_pure hp h2
    exact ⟨k st.heap, h1, put_comm a2 (by simp)⟩
  · obtain ⟨dx, hdx, bx, kx⟩ := stepA_strict h1
    obtain ⟨dy, hdy, by', ky⟩ := stepA_strict h2
    have hne : @Ne Nat dx dy := fun e => a2 dx hdx (by rw [hdy, e])
    have by' : ∀ p ∈ uy, nid st.ep dy 0 ≤ p.1 ∧ p.1 < nid st.ep dy 0 + 64 := by'
    have hdis : ∀ p ∈ ux, ∀ q ∈ uy, p.1 ≠ q.1 := by
      intro p hp q hq e
      have h1 := bx p hp
      have h2 := by' q hq
      unfold nid at h1 h2
      omega
    have low : ∀ (u : Upd) (d : Nat), (∀ p ∈ u, nid st.ep d 0 ≤ p.1 ∧ p.1 < nid st.ep d 0 + 64) → ∀ i, i < nid st.ep 0 0 → updsH st.heap u i = st.heap i := by
      intro u d hu i hi
      refine updsH_not fun p hp e => ?_
      have h1 := hu p hp
      unfold nid at h1 hi
      omega
    have far : ∀ (u : Upd) (d e : Nat), d ≠ e → (∀ p ∈ u, nid st.ep d 0 ≤ p.1 ∧ p.1 < nid st.ep d 0 + 64) → ∀ i, nid st.ep e 0 ≤ i → i < nid st.ep e 0 + 64 → updsH st.heap u i = st.heap i := by
      intro u d e hde hu i hi hi'
      refine updsH_not fun p hp e => ?_
      have h1 := hu p hp
      unfold nid at h1 hi hi'
      omega
    refine ⟨?_, kx _ (low uy dy by') (far uy dy dx (Ne.symm hne) by'), put_comm a2 hdis⟩
    exact ky st.heap (fun i hi => (low ux dx bx i hi).symm) (fun i hi hi' => (far ux dx dy hne bx i hi hi').symm)
end
end Go.VM
