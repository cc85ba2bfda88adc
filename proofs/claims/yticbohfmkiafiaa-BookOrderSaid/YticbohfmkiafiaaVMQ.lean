import Derived.Test.YticbohfmkiafiaaVM21
namespace Go.VM
open Go.RowKit
section
variable {R : Type} {E : Env}
theorem opsK_nat {ops : Array Oper} {draw : Bool} {b : Array Nat} {l0 : Nat} {t0 : Nat → V} {K : St → Option R} : ∀ (l : List Oper) (i : Nat) (st : St), opsK E ops draw b l0 t0 l i st K = (opsK E ops draw b l0 t0 l i st some).bind K
  | [], i, st => rfl
  | o :: l, i, st => by
    simp only [opsK]
    have ih := fun st' => opsK_nat (K := K) l (i + 1) st' (ops := ops) (draw := draw) (b := b) (l0 := l0) (t0 := t0)
    have e1 : ∀ lim, stepK E ops lim o st (fun st' => opsK E ops draw b l0 t0 l (i + 1) st' K) = (stepK E ops lim o st (fun st' => opsK E ops draw b l0 t0 l (i + 1) st' some)).bind K := by
      intro lim
      rw [stepK_eq, stepK_eq, Option.bind_assoc]
      congr 1
      funext p
      exact ih _
    have e2 : ∀ bx, stepC E ops l0 bx o st (fun st' => opsK E ops draw b l0 t0 l (i + 1) st' K) = (stepC E ops l0 bx o st (fun st' => opsK E ops draw b l0 t0 l (i + 1) st' some)).bind K := by
      intro bx
      rw [stepC_eq, stepC_eq, Option.bind_assoc]
      congr 1
      funext p
      cases chkU bx l0 o.op p.2
      · rfl
      · exact ih _
    rw [e1, e1, e2, e2]
    cases (!draw || pureOp E.P o.op || totB E.P (calmOp E) ops.toList b i (calmOp E o.op) (isQ E o.op))
    · cases (sOp E o.op && totS E.P ops.toList b t0 i (storeOp o.op))
      · cases (!quietOp o.op && !isQ E o.op && totL E.P ops.toList b i (oneCall E.C o.op) (appA o))
        · cases (quietOp o.op && (appU ops.toList b i || stoU E ops.toList b i))
          · rfl
          · cases qChk E ops.toList b t0 i st o.op <;> rfl
        · rfl
      · rfl
    · rfl
theorem qexec_nat {h0 : Heap} {K : St → Option R} : ∀ (c : Code) (st : St), qexec E h0 c K st = (qexec E h0 c some st).bind K := by
  intro c
  have key : ∀ (c : Code) {R : Type} (K : St → Option R) (st : St), qexec E h0 c K st = (qexec E h0 c some st).bind K := by
    intro c
    induction c with
    | skip => intro R K st; rfl
    | label l => intro R K st; rfl
    | ret => intro R K st; rfl
    | region id ops draw =>
      intro R K st
      simp only [qexec]
      cases ((!draw || lexB ops (Region.before ops)) && storesB h0 st (dstsL ops.toList) ops.toList)
      · rfl
      · simp only [cond_true]
        have e := fun (R : Type) (K : St → Option R) => opsK_nat (E := E) (ops := ops) (draw := draw) (b := bif draw then Region.before ops else #[]) (l0 := nid st.ep 0 0) (t0 := st.tmp) (K := K) ops.toList 0 st
        rw [e R, e St (fun st' => some { st' with ep := st'.ep + 1 }), Option.bind_assoc]
        rfl
    | seq a b iha ihb =>
      intro R K st
      simp only [qexec]
      rw [iha (qexec E h0 b K), iha (qexec E h0 b some), Option.bind_assoc]
      congr 1
      funext st'
      exact ihb K st'
    | _ => intros; rfl
  exact key c K
theorem qrun_nat {P : Program} {G : GTab} {fn : Func} {h : Heap} {ep : Nat} {args : List V} {K : V → Option R} : qrun P G fn h ep args K = (qrun P G fn h ep args some).bind K := by
  unfold qrun
  cases fn.body with
  | none => rfl
  | some c =>
    simp only
    cases (lookC P c && Nat.ble (len' args) fn.ntmps)
    · rfl
    · simp only [cond_true]
      have e := fun (R : Type) (K : St → Option R) st => qexec_nat (E := E0 P G) (h0 := h) (K := K) c st
      refine (e R _ _).trans ?_
      refine Eq.trans ?_ (congrArg (fun z => Option.bind z K) (e V _ _)).symm
      rw [Option.bind_assoc]
      congr 1
      funext st
      cases resVars P st fn.results.toList with
      | none => rfl
      | some vs =>
        simp only
        cases plainV (tupV (tupRes vs)) <;> rfl
end
section
variable {E : Env} {st : St} {o : Oper} {v : V} {u : Upd} {lim : Option Nat} {id : Nat} {b : Blk}
noncomputable def More (h h' : Heap) : Prop := ∀ i x, h i = some x → h' i = some x
theorem More.rd {h h' : Heap} (k : More h h') (lim : Option Nat) : More (rdH h lim) (rdH h' lim) := by
  intro i x hx
  unfold rdH at hx ⊢
  cases lim with
  | none => exact k i x hx
  | some l =>
    simp only at hx ⊢
    obtain ⟨h1, h2⟩ := cond_some hx
    rw [h1]
    exact k i x h2
theorem opLoad_more {P : Program} {h h' : Heap} (k : More h h') {t : TypeId} {x : V} (hk : opLoad P h lim t x some = some v) : opLoad P h' lim t x some = some v := by
  unfold opLoad at hk ⊢
  split at hk
  · rename_i i off
    cases hb : rdH h lim i with
    | none => rw [hb] at hk; cases hk
    | some blk => rw [hb] at hk; rw [k.rd lim i blk hb]; exact hk
  · rename_i i j off
    cases hb : rdH h lim i with
    | none => rw [hb] at hk; cases hk
    | some blk => rw [hb] at hk; rw [k.rd lim i blk hb]; exact hk
  · exact hk
  · cases hk
theorem opLen_more {P : Program} {h h' : Heap} (k : More h h') {t : TypeId} {x : V} (hk : opLen P h lim t x some = some v) : opLen P h' lim t x some = some v := by
  unfold opLen at hk ⊢
  split at hk
  · exact hk
  · exact hk
  · exact hk
  · rename_i i _
    cases hb : rdH h lim i with
    | none => rw [hb] at hk; cases hk
    | some blk => rw [hb] at hk; rw [k.rd lim i blk hb]; exact hk
  · rename_i i n _
    cases hb : rdH h lim i with
    | none => rw [hb] at hk; cases hk
    | some blk => rw [hb] at hk; rw [k.rd lim i blk hb]; exact hk
  · exact hk
  · exact hk
  · cases hk
theorem opIndexAddr_more {P : Program} {h h' : Heap} (k : More h h') {t : TypeId} {x i : V} (hk : opIndexAddr P h lim t x i some = some v) : opIndexAddr P h' lim t x i some = some v := by
  unfold opIndexAddr at hk ⊢
  split at hk
  · split at hk
    · split at hk
      · split at hk
        · exact hk
        · rename_i id
          cases hb : rdH h lim id with
          | none => rw [hb] at hk; cases hk
          | some blk => rw [hb] at hk; rw [k.rd lim id blk hb]; exact hk
        · rename_i id n
          cases hb : rdH h lim id with
          | none => rw [hb] at hk; cases hk
          | some blk => rw [hb] at hk; rw [k.rd lim id blk hb]; exact hk
        · rename_i id lo n z
          cases hb : rdH h lim id with
          | none => rw [hb] at hk; cases hk
          | some blk => rw [hb] at hk; rw [k.rd lim id blk hb]; exact hk
        · cases hk
      · cases hk
    · exact hk
    · cases hk
  · cases hk
theorem eqNilK_more {h h' : Heap} (k : More h h') {c : C} {K : Option Bool → Option V} (hk : eqNilK h c K = some v) : eqNilK h' c K = some v := by
  unfold eqNilK at hk ⊢
  split at hk
  · exact hk
  · rename_i i
    cases hb : h i with
    | none => rw [hb] at hk; cases hk
    | some blk => rw [hb] at hk; rw [k i blk hb]; exact hk
  · exact hk
  · cases hk
theorem binK_more {P : Program} {h h' : Heap} (k : More h h') {op : BinOp} {t : TypeId} {x y : V} (hk : binK P h op t x y some = some v) : binK P h' op t x y some = some v := by
  unfold binK at hk ⊢
  split at hk
  · unfold binC at hk ⊢
    split at hk
    · exact hk
    · split at hk
      · exact eqNilK_more k hk
      · exact eqNilK_more k hk
      · cases hk
    · exact hk
    · cases hk
  · exact hk
  · cases hk
theorem opStore_more {P : Program} {h h' : Heap} (k : More h h') {t : TypeId} {x y : V} {i off : Nat} (hx : x = .c (.ptr i off)) (hk : opStore P false h t x y some = some u) : opStore P false h' t x y some = some u := by
  subst hx
  unfold opStore at hk ⊢
  split at hk
  · obtain ⟨h1, hk⟩ := cond_some hk
    rw [h1]
    simp only [cond_true] at hk ⊢
    cases hb : h i with
    | none => rw [hb] at hk; cases hk
    | some blk => rw [hb] at hk; rw [k i blk hb]; exact hk
  · cases hk
noncomputable def Apart (id : Nat) (h h' : Heap) : Prop := h id = none ∧ ∀ i, i ≠ id → h' i = h i
theorem Apart.more {h h' : Heap} (k : Apart id h h') : More h h' := by
  intro i x hx
  by_cases e : i = id
  · subst e; rw [k.1] at hx; cases hx
  · rw [k.2 i e]; exact hx
theorem Apart.upd : ∀ {u : Upd} {h h' : Heap}, Apart id h h' → (∀ p ∈ u, p.1 ≠ id) → Apart id (updsH h u) (updsH h' u)
  | [], _, _, k, _ => k
  | (j, x) :: u, h, h', k, hu => by
    simp only [updsH]
    refine Apart.upd (u := u) ⟨?_, fun i hi => ?_⟩ (fun p hp => hu p (List.mem_cons_of_mem _ hp))
    · have : j ≠ id := hu (j, x) (by simp)
      rw [updH_ne _ _ (Ne.symm this)]; exact k.1
    · by_cases e : i = j
      · subst e; rw [updH_same, updH_same]
      · rw [updH_ne _ _ e, updH_ne _ _ e]; exact k.2 i hi
noncomputable def storePtr (st : St) : Op → Bool
  | .store _ x _ => (match st.ev x with | .c (.ptr _ _) => true | _ => false)
  | _ => true
theorem look_apart (hE : E.M = false) (hl : lookOp E.P o.op = true) (hk : aop E st lim o = some (v, u)) (hs : storePtr st o.op = true) {h' : Heap} (ha : Apart id st.heap h') (hid : ∀ d, id ≠ nid st.ep d 0) : (∀ p ∈ u, p.1 ≠ id) ∧ aop E { st with heap := h' } lim o = some (v, u) := by
  have km := ha.more
  obtain ⟨dst, op, type, pos, after, guard⟩ := o
  by_cases hp : pureOp E.P op = true
  · obtain ⟨rfl, k⟩ := aop_pure (o := ⟨dst, op, type, pos, after, guard⟩) hp hk
    exact ⟨by simp, k h'⟩
  simp only [aop] at hk ⊢
  cases op <;> first | (cases hl; done) | (exact absurd rfl hp) | skip
  all_goals simp only [opK, ev_heap, ev_heap'] at hk ⊢
  case load t x =>
    rw [opLoad_nat] at hk
    obtain ⟨h1, rfl⟩ := bind_mkp hk
    refine ⟨by simp, ?_⟩
    rw [opLoad_nat, opLoad_more km h1]; rfl
  case indexAddr t x i =>
    rw [opIndexAddr_nat] at hk
    obtain ⟨h1, rfl⟩ := bind_mkp hk
    refine ⟨by simp, ?_⟩
    rw [opIndexAddr_nat, opIndexAddr_more km h1]; rfl
  case binOp op t x y yt =>
    cases hny : isNilI y
    rotate_left
    · rw [hny] at hk
      simp only [cond_true] at hk ⊢
      refine ⟨?_, hk⟩
      rw [errK_nat] at hk
      rw [(bind_mkp hk).2]; simp
    · rw [hny] at hk
      simp only [cond_false] at hk ⊢
      rw [binK_nat] at hk
      obtain ⟨h1, rfl⟩ := bind_mkp hk
      refine ⟨by simp, ?_⟩
      rw [binK_nat, binK_more (km.rd lim) h1]; rfl
  case alloc elem =>
    split at hk
    · rename_i i hi hf
      split at hk
      · rename_i z hz
        obtain ⟨hb, hk⟩ := cond_some hk
        simp only [mkp, Option.some.injEq, Prod.mk.injEq] at hk
        obtain ⟨rfl, rfl⟩ := hk
        refine ⟨fun p hp => ?_, ?_⟩
        · simp only [List.mem_singleton] at hp
          subst hp
          exact fun e => hid _ e.symm
        · rw [ha.2 _ (fun e => hid _ e.symm), hf, hi]
          simp only [hz, hb]
          rfl
      · cases hk
    · cases hk
  case store t x y =>
    cases lim with
    | some l => cases hk
    | none =>
    simp only at hk ⊢
    rw [hE] at hk ⊢
    rw [opStore_nat] at hk
    cases hq : opStore E.P false st.heap t (st.ev x) (st.ev y) some with
    | none => rw [hq] at hk; cases hk
    | some u' =>
      rw [hq] at hk
      simp only [Option.bind_some, mkp, Option.some.injEq, Prod.mk.injEq] at hk
      obtain ⟨rfl, rfl⟩ := hk
      simp only [storePtr] at hs
      split at hs
      · rename_i i off he
        refine ⟨?_, ?_⟩
        · have h2 := hq
          unfold opStore at h2
          rw [he] at h2
          split at h2
          · obtain ⟨_, h2⟩ := cond_some h2
            simp only at h2
            split at h2
            · rename_i cs hb
              obtain ⟨_, h2⟩ := cond_some h2
              cases h2
              intro p hp
              simp only [List.mem_singleton] at hp
              subst hp
              intro e
              have e : i = id := e
              rw [e, ha.1] at hb
              cases hb
            · cases h2
          · cases h2
        · rw [opStore_nat, opStore_more km he hq]; rfl
      · cases hs
  case call c =>
    simp only [lookOp] at hl
    split at hl
    · rename_i hcal
      have hqc : qOf E c = none := by unfold qOf; rw [hcal]
      simp only [hqc, hcal] at hk ⊢
      split at hk
      · rw [opLen_nat] at hk
        obtain ⟨h1, rfl⟩ := bind_mkp hk
        refine ⟨by simp, ?_⟩
        rw [opLen_nat, opLen_more km h1]; rfl
      · cases hk
    · cases hl
theorem stepA_apart (hE : E.M = false) {ops : Array Oper} (hl : lookOp E.P o.op = true) (hk : stepA E ops lim o st = some (v, u)) (hs : storePtr st o.op = true) {h' : Heap} (ha : Apart id st.heap h') (hid : ∀ d, id ≠ nid st.ep d 0) : (∀ p ∈ u, p.1 ≠ id) ∧ stepA E ops lim o { st with heap := h' } = some (v, u) := by
  unfold stepA at hk ⊢
  obtain ⟨hd, hk⟩ := cond_some hk
  have hd2 : dstOk { st with heap := h' } lim o = true := hd
  simp only [hd2, cond_true]
  split at hk
  · exact look_apart hE hl hk hs ha hid
  · rename_i j want hg
    have hgv : guardV ops { st with heap := h' } j = guardV ops st j := rfl
    have hsv : skipB ops { st with heap := h' } j = skipB ops st j := rfl
    simp only [hgv, hsv]
    split at hk
    · refine ⟨?_, hk⟩
      obtain ⟨_, hk⟩ := cond_some hk
      cases hk; simp
    · rename_i d' b hgb
      cases hbw : b == want
      · rw [hbw] at hk
        exact ⟨by cases hk; simp, hk⟩
      · rw [hbw] at hk
        exact look_apart hE hl hk hs ha hid
theorem putHeap (st : St) (h' : Heap) (d : Option Nat) (v : V) (u : Upd) : ({ st with heap := h' } : St).put d v u = { st.put d v u with heap := updsH h' u } := by cases d <;> rfl
theorem qOk_heap (st : St) (h' : Heap) (op : Op) : qOk { st with heap := h' } op = qOk st op := by
  unfold qOk
  simp only [ev_heap]
theorem opsK_apart (hE : E.M = false) {ol : List Oper} {ops : Array Oper} {draw : Bool} {bb : Array Nat} {l0 : Nat} {t0 : Nat → V} (hop : ops.toList = ol) (hlk : lookOps E.P ol = true) {st0 : St} (hst : ∀ o ∈ ol, ∀ t x y, o.op = .store t x y → ∃ s i off, x = .tmp s ∧ memN s (dstsL ol) = false ∧ st0.tmp s = .c (.ptr i off)) :
    ∀ (l : List Oper) (i : Nat) (st st' : St) (h' : Heap), (∀ o ∈ l, o ∈ ol) → (∀ x, memN x (dstsL ol) = false → st.tmp x = st0.tmp x) → Apart id st.heap h' → (∀ d, id ≠ nid st.ep d 0) → opsK E ops draw bb l0 t0 l i st some = some st' →
      st'.ep = st.ep ∧ ∃ h2, Apart id st'.heap h2 ∧ opsK E ops draw bb l0 t0 l i { st with heap := h' } some = some { st' with heap := h2 } := by
  intro l
  induction l with
  | nil =>
    intro i st st' h' _ _ ha _ hk
    have hk := Option.some.inj hk
    subst hk
    exact ⟨rfl, h', ha, rfl⟩
  | cons o l ih =>
    intro i st st' h' hm htm ha hid hk
    have hlo : lookOp E.P o.op = true := by
      have key : ∀ (l : List Oper), lookOps E.P l = true → ∀ o ∈ l, lookOp E.P o.op = true := by
        intro l
        induction l with
        | nil => intro _ o ho; cases ho
        | cons x l ih =>
          intro h o ho
          simp only [lookOps, Bool.and_eq_true] at h
          rcases List.mem_cons.1 ho with rfl | ho
          · exact h.1
          · exact ih h.2 o ho
      exact key _ hlk o (hm o (by simp))
    have hsp : storePtr st o.op = true := by
      cases hop : o.op <;> first | rfl | skip
      rename_i t x y
      obtain ⟨s, j, off, rfl, h1, h2⟩ := hst o (hm o (by simp)) t x y hop
      show (match st.tmp s with | .c (.ptr _ _) => true | _ => false) = true
      rw [htm s h1, h2]
    have hdm : ∀ d, o.dst = some d → memN d (dstsL ol) = true := by
      have key : ∀ (l : List Oper), o ∈ l → ∀ d, o.dst = some d → memN d (dstsL l) = true := by
        intro l
        induction l with
        | nil => intro ho; cases ho
        | cons x l ih =>
          intro ho d hd
          rcases List.mem_cons.1 ho with rfl | ho
          · simp [dstsL, hd, memN]
          · have := ih ho d hd
            simp only [dstsL]
            split
            · simp [memN, this]
            · exact this
      exact key _ (hm o (by simp))
    have step : ∀ lim, (stepA E ops lim o st).bind (fun p => opsK E ops draw bb l0 t0 l (i + 1) (st.put o.dst p.1 p.2) some) = some st' →
        st'.ep = st.ep ∧ ∃ h2, Apart id st'.heap h2 ∧ (stepA E ops lim o { st with heap := h' }).bind (fun p => opsK E ops draw bb l0 t0 l (i + 1) (({ st with heap := h' } : St).put o.dst p.1 p.2) some) = some { st' with heap := h2 } := by
      intro lim hk
      cases hs : stepA E ops lim o st with
      | none => rw [hs] at hk; cases hk
      | some p =>
        obtain ⟨v, u⟩ := p
        rw [hs] at hk
        simp only [Option.bind_some] at hk
        obtain ⟨h1, h2⟩ := stepA_apart hE hlo hs hsp ha hid
        have hh : (st.put o.dst v u).heap = updsH st.heap u := by cases o.dst <;> rfl
        obtain ⟨e, h3, k1, k2⟩ := ih (i + 1) (st.put o.dst v u) st' (updsH h' u) (fun o ho => hm o (List.mem_cons_of_mem _ ho)) (fun x hx => by
          rw [← htm x hx]
          unfold St.put
          cases hod : o.dst with
          | none => rfl
          | some d =>
            refine updT_ne _ _ fun e => ?_
            subst e
            rw [hdm _ hod] at hx
            cases hx) (by rw [hh]; exact ha.upd h1) (by rw [put_ep]; exact hid) hk
        refine ⟨by rw [e, put_ep], h3, k1, ?_⟩
        rw [h2]
        simp only [Option.bind_some]
        rw [putHeap]
        exact k2
    simp only [opsK] at hk ⊢
    have eqc : qChk E ops.toList bb t0 i { st with heap := h' } o.op = qChk E ops.toList bb t0 i st o.op := by
      unfold qChk rOk
      rw [qOk_heap]
      simp only [ev_heap]
    rw [eqc]
    cases hc1 : (!draw || pureOp E.P o.op || totB E.P (calmOp E) ops.toList bb i (calmOp E o.op) (isQ E o.op))
    · rw [hc1] at hk
      simp only [cond_false] at hk ⊢
      have stepc : ∀ bx, stepC E ops l0 bx o st (fun st' => opsK E ops draw bb l0 t0 l (i + 1) st' some) = some st' →
          st'.ep = st.ep ∧ ∃ h2, Apart id st'.heap h2 ∧ stepC E ops l0 bx o { st with heap := h' } (fun st' => opsK E ops draw bb l0 t0 l (i + 1) st' some) = some { st' with heap := h2 } := by
        intro bx hk
        rw [stepC_eq] at hk ⊢
        cases hs : stepA E ops none o st with
        | none => rw [hs] at hk; cases hk
        | some p =>
          obtain ⟨v, u⟩ := p
          rw [hs] at hk
          simp only [Option.bind_some] at hk
          obtain ⟨hsu, hk⟩ := cond_some hk
          obtain ⟨h1, h2⟩ := stepA_apart hE hlo hs hsp ha hid
          obtain ⟨e, h3, k1, k2⟩ := step none (by rw [hs]; exact hk)
          refine ⟨e, h3, k1, ?_⟩
          rw [h2] at k2 ⊢
          simp only [Option.bind_some] at k2 ⊢
          rw [hsu]
          exact k2
      cases hc4 : (sOp E o.op && totS E.P ops.toList bb t0 i (storeOp o.op))
      rotate_left
      · rw [hc4] at hk
        simp only [cond_true] at hk ⊢
        exact stepc (some _) hk
      rw [hc4] at hk
      simp only [cond_false] at hk ⊢
      cases hc2 : (!quietOp o.op && !isQ E o.op && totL E.P ops.toList bb i (oneCall E.C o.op) (appA o))
      · rw [hc2] at hk
        simp only [cond_false] at hk ⊢
        cases hc3 : (quietOp o.op && (appU ops.toList bb i || stoU E ops.toList bb i))
        · rw [hc3] at hk
          simp only [cond_false] at hk ⊢
          rw [stepK_eq] at hk ⊢
          exact step _ hk
        · rw [hc3] at hk
          simp only [cond_true] at hk ⊢
          obtain ⟨hq, hk⟩ := cond_some hk
          rw [hq]
          simp only [cond_true]
          rw [stepK_eq] at hk ⊢
          exact step _ hk
      · rw [hc2] at hk
        simp only [cond_true] at hk ⊢
        exact stepc none hk
    · rw [hc1] at hk
      simp only [cond_true] at hk ⊢
      rw [stepK_eq] at hk ⊢
      exact step _ hk
theorem storesB_mem {h0 : Heap} {st : St} {ds : List Nat} : ∀ (l : List Oper), storesB h0 st ds l = true → ∀ o ∈ l, ∀ t x y, o.op = .store t x y → ∃ s i off, x = .tmp s ∧ memN s ds = false ∧ st.tmp s = .c (.ptr i off) ∧ h0 i = none ∧ (st.heap i).isSome = true
  | [], _, o, ho => by cases ho
  | z :: l, h, o, ho => by
    intro t x y he
    simp only [storesB, Bool.and_eq_true] at h
    rcases List.mem_cons.1 ho with rfl | ho
    · have h1 := h.1
      rw [he] at h1
      cases x <;> first | (cases h1; done) | skip
      rename_i s
      simp only [Bool.and_eq_true, Bool.not_eq_true'] at h1
      obtain ⟨h2, h3⟩ := h1
      split at h3
      · rename_i i off hp
        split at h3
        · rename_i hn; exact ⟨s, i, off, rfl, h2, hp, hn, h3⟩
        · cases h3
      · cases h3
    · exact storesB_mem l h.2 o ho t x y he
theorem storesB_apart {h0 h0' h' : Heap} {st : St} {ds : List Nat} (h00 : ∀ i, i ≠ id → h0' i = h0 i) (ha : Apart id st.heap h') : ∀ (l : List Oper), storesB h0 st ds l = true → storesB h0' { st with heap := h' } ds l = true
  | [], _ => rfl
  | z :: l, h => by
    simp only [storesB, Bool.and_eq_true] at h ⊢
    refine ⟨?_, storesB_apart h00 ha l h.2⟩
    have h1 := h.1
    split at h1
    · rename_i t x y he
      rw [Bool.and_eq_true] at h1 ⊢
      refine ⟨h1.1, ?_⟩
      have h3 := h1.2
      split at h3
      · rename_i i off hp
        split at h3
        · rename_i hn
          have hne : i ≠ id := fun e => by rw [e, ha.1] at h3; cases h3
          have goal : (match h0' i with | none => (h' i).isSome | some _ => false) = true := by
            rw [h00 i hne, hn, ha.2 i hne]
            exact h3
          first | exact goal | (simp only [hp]; exact goal) | (show (match st.tmp _ with | .c (.ptr id _) => (match h0' id with | none => (h' id).isSome | some _ => false) | _ => false) = true; rw [hp]; exact goal)
        · cases h3
      · cases h3
    · cases h1
    · rfl
theorem reg_apart (hE : E.M = false) {h0 h0' : Heap} (h00 : ∀ i, i ≠ id → h0' i = h0 i) {n : Nat} {ops : Array Oper} {draw : Bool} (hlk : lookOps E.P ops.toList = true) {st st' : St} {h' : Heap} (ha : Apart id st.heap h') (hid : ∀ e d, st.ep ≤ e → id ≠ nid e d 0) (hk : qexec E h0 (.region n ops draw) some st = some st') :
    st.ep ≤ st'.ep ∧ ∃ h2, Apart id st'.heap h2 ∧ qexec E h0' (.region n ops draw) some { st with heap := h' } = some { st' with heap := h2 } := by
  simp only [qexec] at hk ⊢
  obtain ⟨hc, hk⟩ := cond_some hk
  rw [Bool.and_eq_true] at hc
  rw [hc.1, storesB_apart h00 ha _ hc.2]
  simp only [Bool.and_self, cond_true]
  rw [opsK_nat] at hk
  cases hs : opsK E ops draw (bif draw then Region.before ops else #[]) (nid st.ep 0 0) st.tmp ops.toList 0 st some with
  | none => rw [hs] at hk; cases hk
  | some s1 =>
    rw [hs] at hk
    simp only [Option.bind_some, Option.some.injEq] at hk
    subst hk
    obtain ⟨e, h2, k1, k2⟩ := opsK_apart hE (id := id) rfl hlk (st0 := st) (fun o ho t x y he => by
      obtain ⟨s, i, off, h1, h2, h3, _⟩ := storesB_mem _ hc.2 o ho t x y he
      exact ⟨s, i, off, h1, h2, h3⟩) ops.toList 0 st s1 h' (fun _ h => h) (fun _ _ => rfl) ha (fun d => hid _ d (Nat.le_refl _)) hs
    refine ⟨by show st.ep ≤ s1.ep + 1; omega, h2, k1, ?_⟩
    rw [opsK_nat, k2]
    rfl
theorem qexec_apart (hE : E.M = false) {h0 h0' : Heap} (h00 : ∀ i, i ≠ id → h0' i = h0 i) : ∀ (c : Code), lookC E.P c = true → ∀ (st st' : St) (h' : Heap), Apart id st.heap h' → (∀ e d, st.ep ≤ e → id ≠ nid e d 0) → qexec E h0 c some st = some st' →
    ∃ h2, Apart id st'.heap h2 ∧ qexec E h0' c some { st with heap := h' } = some { st' with heap := h2 } := by
  intro c
  induction c with
  | skip => intro _ st st' h' ha _ hk; cases hk; exact ⟨h', ha, rfl⟩
  | label l => intro _ st st' h' ha _ hk; cases hk; exact ⟨h', ha, rfl⟩
  | ret => intro _ st st' h' ha _ hk; cases hk; exact ⟨h', ha, rfl⟩
  | region n ops draw =>
    intro hl st st' h' ha hid hk
    exact (reg_apart hE h00 hl ha hid hk).2
  | seq x y ihx ihy =>
    intro hl st st' h' ha hid hk
    cases x <;> first | (cases hl; done) | skip
    rename_i n ops draw
    simp only [lookC, Bool.and_eq_true] at hl
    have e0 : ∀ (h0 : Heap) (st : St), qexec E h0 (.seq (.region n ops draw) y) some st = (qexec E h0 (.region n ops draw) some st).bind (qexec E h0 y some) := by
      intro h0 st
      show qexec E h0 (.region n ops draw) (qexec E h0 y some) st = _
      exact qexec_nat _ _
    rw [e0] at hk
    cases hs : qexec E h0 (.region n ops draw) some st with
    | none => rw [hs] at hk; cases hk
    | some s1 =>
      rw [hs] at hk
      simp only [Option.bind_some] at hk
      obtain ⟨hle, h1, k1, k2⟩ := reg_apart hE h00 hl.1 ha hid hs
      obtain ⟨h2, k3, k4⟩ := ihy hl.2 s1 st' h1 k1 (fun e d he => hid e d (Nat.le_trans hle he)) hk
      refine ⟨h2, k3, ?_⟩
      rw [e0, k2]
      exact k4
  | _ => intro hl; cases hl
theorem resVars_more {P : Program} {h' : Heap} (hm : More st.heap h') : ∀ {rs : List ResultVar} {vs : List V}, resVars P st rs = some vs → resVars P { st with heap := h' } rs = some vs
  | [], vs, h => h
  | rv :: rs, vs, h => by
    simp only [resVars] at h ⊢
    split at h
    · rename_i v hv
      have : resVar P { st with heap := h' } rv = some v := by
        cases rv with
        | tmp t => exact hv
        | cell a t => exact opLoad_more hm hv
      rw [this]
      split at h
      · rename_i vs' hvs
        rw [resVars_more hm hvs]
        exact h
      · cases h
    · cases h
theorem qrun_frame {P : Program} {G : GTab} {fn : Func} (h : Heap) (e : Nat) (args : List V) (v : V) (id : Nat) (b : Blk) (hn : h id = none) (hid : ∀ e' d, e ≤ e' → id ≠ nid e' d 0) (hk : qrun P G fn h e args some = some v) : qrun P G fn (updH h id b) e args some = some v := by
  unfold qrun at hk ⊢
  cases hb : fn.body with
  | none => rw [hb] at hk; cases hk
  | some c =>
    rw [hb] at hk
    simp only at hk ⊢
    obtain ⟨hc, hk⟩ := cond_some hk
    rw [hc]
    simp only [cond_true]
    rw [Bool.and_eq_true] at hc
    have e1 := fun (K : St → Option V) (h0 : Heap) st => qexec_nat (E := E0 P G) (h0 := h0) (K := K) c st
    have hk := (e1 _ _ _).symm.trans hk
    refine (e1 _ _ _).trans ?_
    cases hs : qexec (E0 P G) h c some ⟨listV args, h, e, ⟨fn.ntmps, [], G⟩⟩ with
    | none => rw [hs] at hk; cases hk
    | some st' =>
      rw [hs] at hk
      obtain ⟨h2, k1, k2⟩ := qexec_apart (E := E0 P G) rfl (id := id) (h0 := h) (h0' := updH h id b) (fun i hi => updH_ne _ _ hi) c hc.1 _ st' (updH h id b) ⟨hn, fun i hi => updH_ne _ _ hi⟩ hid hs
      have k2 : qexec (E0 P G) (updH h id b) c some ⟨listV args, updH h id b, e, ⟨fn.ntmps, [], G⟩⟩ = some { st' with heap := h2 } := k2
      rw [k2]
      simp only [Option.bind_some] at hk ⊢
      cases hr : resVars P st' fn.results.toList with
      | none => rw [hr] at hk; cases hk
      | some vs =>
        rw [hr] at hk
        rw [resVars_more k1.more hr]
        exact hk
end
noncomputable def mkQ (P : Program) (G : GTab) (fn : Func) : QFun := ⟨fun h ep args K => qrun P G fn h ep args K, fun _ _ _ _ => qrun_nat, qrun_frame⟩
section
variable {P : Program} {W0 : World} {O : Out} {μ : Mu} {st : St} {a : Act} {w : World} {o : Oper} {v : V} {u : Upd}
noncomputable def writeOp : Op → Bool
  | .alloc _ | .store .. => true
  | _ => false
theorem look_ok [Dr] {E : Env} (r : RelM W0 O μ st a w) (hl : lookOp E.P o.op = true) (hwr : writeOp o.op = false) {lim : Option Nat} (hk : aop E st lim o = some (v, u)) :
    u = [] ∧ ∃ cv, (execOp a.eval o).run E.P w = .ok (.value cv) w ∧ VRep w (Av O μ st.heap) μ st.heap v cv := by
  obtain ⟨dst, op, type, pos, after, guard⟩ := o
  simp only [aop] at hk
  cases op <;> first | (cases hl; done) | (cases hwr; done) | skip
  all_goals simp only [opK] at hk
  case nilCheck x =>
    have hx := r.ev x
    have exec : ∀ p, a.eval x = .pointer (some p) → (execOp a.eval { dst := dst, op := Op.nilCheck x, type := type, pos := pos, after := after, guard := guard }).run E.P w = .ok (.value (a.eval x)) w := by
      intro p hp
      simp [execOp, hp]
    split at hk
    · rename_i id off he
      simp only [mkp, Option.some.injEq, Prod.mk.injEq] at hk
      obtain ⟨rfl, rfl⟩ := hk
      rw [he] at hx
      have h2 := hx
      obtain ⟨_, b, _, _, _, hv⟩ := VRep.to_c (by simp) h2
      exact ⟨rfl, _, exec _ hv, hx⟩
    · rename_i id i off he
      simp only [mkp, Option.some.injEq, Prod.mk.injEq] at hk
      obtain ⟨rfl, rfl⟩ := hk
      rw [he] at hx
      have h2 := hx
      obtain ⟨_, _, ⟨p, hv⟩, _⟩ := VRep.to_c (by simp) h2
      exact ⟨rfl, _, exec _ hv, hx⟩
    · rename_i t y off he
      simp only [mkp, Option.some.injEq, Prod.mk.injEq] at hk
      obtain ⟨rfl, rfl⟩ := hk
      rw [he] at hx
      have h2 := hx
      obtain ⟨p, _, hv, _⟩ := VRep.to_c (by simp) h2
      exact ⟨rfl, _, exec _ hv, hx⟩
    · cases hk
  case move x =>
    simp only [mkp, Option.some.injEq, Prod.mk.injEq] at hk
    obtain ⟨rfl, rfl⟩ := hk
    exact ⟨rfl, _, by simp [execOp], r.ev x⟩
  case assign x =>
    simp only [mkp, Option.some.injEq, Prod.mk.injEq] at hk
    obtain ⟨rfl, rfl⟩ := hk
    exact ⟨rfl, _, by simp [execOp], r.ev x⟩
  case pick c x y =>
    split at hk
    · rename_i bv hc
      have hcv := r.ev c
      rw [hc] at hcv
      have hcv := vrep_bool hcv
      have exec : (execOp a.eval { dst := dst, op := Op.pick c x y, type := type, pos := pos, after := after, guard := guard }).run E.P w = .ok (.value (if bv then a.eval x else a.eval y)) w := by
        simp [execOp, hcv, asBool]
      split at hk
      · rename_i p q hp hq
        simp only [mkp, Option.some.injEq, Prod.mk.injEq] at hk
        obtain ⟨rfl, rfl⟩ := hk
        have h1 := r.ev x
        have h2 := r.ev y
        rw [hp] at h1
        rw [hq] at h2
        refine ⟨rfl, _, exec, ?_⟩
        cases bv
        · simpa [vrep_bool h2] using rep_bool q
        · simpa [vrep_bool h1] using rep_bool p
      · cases bv
        · simp only [cond_false, mkp, Option.some.injEq, Prod.mk.injEq] at hk
          obtain ⟨rfl, rfl⟩ := hk
          exact ⟨rfl, _, exec, by simpa using r.ev y⟩
        · simp only [cond_true, mkp, Option.some.injEq, Prod.mk.injEq] at hk
          obtain ⟨rfl, rfl⟩ := hk
          exact ⟨rfl, _, exec, by simpa using r.ev x⟩
    · cases hk
  case load t x =>
    rw [opLoad_nat] at hk
    obtain ⟨h1, rfl⟩ := bind_mkp hk
    obtain ⟨cv, hrun, hv⟩ := opLoad_sound (P := E.P) r.blks h1 (r.ev x)
    exact ⟨rfl, cv, by simp [execOp, hrun], hv⟩
  case binOp op t x y yt =>
    cases hny : isNilI y
    rotate_left
    · rw [hny] at hk
      simp only [cond_true] at hk
      rw [errK_nat] at hk
      obtain ⟨h1, rfl⟩ := bind_mkp hk
      have hy : y = .const .nilIface := by
        unfold isNilI at hny
        split at hny
        · rfl
        · cases hny
      subst hy
      obtain ⟨cv, hrun, hv⟩ := errK_sound (P := E.P) x h1 (r.ev x)
      exact ⟨rfl, cv, by simp only [execOp]; simp only [Sem.run_bind] at hrun ⊢; rw [show a.eval (.const .nilIface) = .nilIface from rfl, hrun]; rfl, hv⟩
    rw [hny] at hk
    simp only [cond_false] at hk
    rw [binK_nat] at hk
    obtain ⟨h1, rfl⟩ := bind_mkp hk
    obtain ⟨cv, hrun, hv⟩ := binK_sound (P := E.P) r.blks x y (binK_rd h1) (r.ev x) (r.ev y)
    exact ⟨rfl, cv, by simp only [execOp]; simp only [Sem.run_bind] at hrun ⊢; rw [hrun]; rfl, hv⟩
  case unOp op t x =>
    rw [unK_nat] at hk
    obtain ⟨h1, rfl⟩ := bind_mkp hk
    obtain ⟨cv, hrun, hv⟩ := unK_sound (P := E.P) h1 (r.ev x)
    exact ⟨rfl, cv, by simp [execOp, hrun], hv⟩
  case fieldAddr s x f =>
    rw [opFieldAddr_nat] at hk
    obtain ⟨h1, rfl⟩ := bind_mkp hk
    obtain ⟨cv, hrun, hv⟩ := opFieldAddr_sound (P := E.P) h1 (r.ev x)
    exact ⟨rfl, cv, by simp [execOp, hrun], hv⟩
  case field t x f =>
    rw [opField_nat] at hk
    obtain ⟨h1, rfl⟩ := bind_mkp hk
    obtain ⟨cv, hrun, hv⟩ := opField_sound (P := E.P) h1 (r.ev x)
    exact ⟨rfl, cv, by simp [execOp, hrun], hv⟩
  case indexAddr t x i =>
    rw [opIndexAddr_nat] at hk
    obtain ⟨h1, rfl⟩ := bind_mkp hk
    obtain ⟨cv, hrun, hv⟩ := opIndexAddr_sound (P := E.P) r.blks h1 (r.ev x) (r.ev i)
    exact ⟨rfl, cv, by simp [execOp, hrun], hv⟩
  case index t x i =>
    rw [opIndex_nat] at hk
    obtain ⟨h1, rfl⟩ := bind_mkp hk
    obtain ⟨cv, hrun, hv⟩ := opIndex_sound (P := E.P) h1 (r.ev x) (r.ev i)
    exact ⟨rfl, cv, by simp [execOp, hrun], hv⟩
  case extract x i =>
    rw [opExtract_nat] at hk
    obtain ⟨h1, rfl⟩ := bind_mkp hk
    obtain ⟨cv, hrun, hv⟩ := opExtract_sound (P := E.P) h1 (r.ev x)
    exact ⟨rfl, cv, by simp [execOp, hrun], hv⟩
  case call c =>
    simp only [lookOp] at hl
    split at hl
    · rename_i hcal
      have hqc : qOf E c = none := by unfold qOf; rw [hcal]
      simp only [hqc, hcal] at hk
      split at hk
      · rename_i t x hat har
        rw [opLen_nat] at hk
        obtain ⟨h1, rfl⟩ := bind_mkp hk
        obtain ⟨cv, hrun, hv⟩ := opLen_sound (P := E.P) (ty := type) r.blks h1 (r.ev x)
        have hat' : c.argTypes = #[t] := by rw [← Array.toArray_toList (xs := c.argTypes), hat]
        have har' : c.args = #[x] := by rw [← Array.toArray_toList (xs := c.args), har]
        exact ⟨rfl, cv, by simp [execOp, resolve, hcal, hat', har', invoke, builtin, hrun], hv⟩
      · cases hk
    · cases hl
structure LookRel [Dr] (W0 : World) (O : Out) (μ : Mu) (h0 : Heap) (n : Fr) (w0 : World) (st : St) (a : Act) (w : World) : Prop where
  rel : ∃ μ1, RelM W0 O μ1 st a w ∧ (∀ id blk, h0 id = some blk → st.heap id = some blk ∧ μ1 id = μ id) ∧ ∀ id blk b c, st.heap id = some blk → h0 id = none → blk.own = true → μ1 id = some (b, c) → w0.heap.size ≤ b
  n : st.n = n
  world : BelowD w0.heap.size w0 w
noncomputable def LookReg [Dr] (W0 : World) (O : Out) (μ : Mu) (h0 : Heap) (n : Fr) (w0 : World) (ds : List Nat) (tmp0 : Nat → V) (st : St) (a : Act) (w : World) : Prop :=
  LookRel W0 O μ h0 n w0 st a w ∧ ∀ x, memN x ds = false → st.tmp x = tmp0 x
theorem lookstep_ok [Dr] {E : Env} (hE : E.M = false) {h0 : Heap} {n : Fr} {w0 : World} {ds : List Nat} {st0 : St} {ops : Array Oper} {i : Nat} {lim : Option Nat} (hl : lookOps E.P ops.toList = true) (hds : dstsL ops.toList = ds) (hst : storesB h0 st0 ds ops.toList = true) (hi : ops[i]? = some o) (r0 : LookReg W0 O μ h0 n w0 ds st0.tmp st a w) (hk : stepA E ops lim o st = some (v, u))
    {next : Act → World → Prop} {Q : Exit → Act → World → Prop} (hn : ∀ a' w', LookReg W0 O μ h0 n w0 ds st0.tmp (st.put o.dst v u) a' w' → next a' w') : wpOp E.P ops Q i next a w := by
  have hm : o ∈ ops.toList := by
    have hm := Array.mem_of_getElem? hi
    simpa using hm
  have hlo : lookOp E.P o.op = true := by
    have key : ∀ (l : List Oper), lookOps E.P l = true → ∀ o ∈ l, lookOp E.P o.op = true := by
      intro l
      induction l with
      | nil => intro _ o ho; cases ho
      | cons x l ih =>
        intro h o ho
        simp only [lookOps, Bool.and_eq_true] at h
        rcases List.mem_cons.1 ho with rfl | ho
        · exact h.1
        · exact ih h.2 o ho
    exact key _ hl o hm
  have hso : ∀ t x y, o.op = .store t x y → ∃ s id off, x = .tmp s ∧ memN s ds = false ∧ st0.tmp s = .c (.ptr id off) ∧ h0 id = none := by
    have key : ∀ (l : List Oper), storesB h0 st0 ds l = true → ∀ o ∈ l, ∀ t x y, o.op = .store t x y → ∃ s id off, x = .tmp s ∧ memN s ds = false ∧ st0.tmp s = .c (.ptr id off) ∧ h0 id = none := by
      intro l
      induction l with
      | nil => intro _ o ho; cases ho
      | cons z l ih =>
        intro h o ho t x y he
        simp only [storesB, Bool.and_eq_true] at h
        rcases List.mem_cons.1 ho with rfl | ho
        · have h1 := h.1
          rw [he] at h1
          cases x <;> first | (cases h1; done) | skip
          rename_i s
          simp only [Bool.and_eq_true, Bool.not_eq_true'] at h1
          obtain ⟨h2, h3⟩ := h1
          split at h3
          · rename_i id off hp
            split at h3
            · rename_i hn; exact ⟨s, id, off, rfl, h2, hp, hn⟩
            · cases h3
          · cases h3
        · exact ih h.2 o ho t x y he
    exact key _ hst o hm
  have hdm : ∀ d, o.dst = some d → memN d ds = true := by
    have key : ∀ (l : List Oper), o ∈ l → ∀ d, o.dst = some d → memN d (dstsL l) = true := by
      intro l
      induction l with
      | nil => intro ho; cases ho
      | cons x l ih =>
        intro ho d hd
        rcases List.mem_cons.1 ho with rfl | ho
        · simp [dstsL, hd, memN]
        · have := ih ho d hd
          simp only [dstsL]
          split
          · simp [memN, this]
          · exact this
    intro d hd
    rw [← hds]
    exact key _ hm d hd
  obtain ⟨⟨⟨μ1, r, hold, hnew⟩, hnn, hw⟩, htm⟩ := r0
  unfold stepA at hk
  have hd0 := (cond_some hk).1
  have hk2 := (cond_some hk).2
  clear hk
  have hd : ∀ d, o.dst = some d → d < st.n.n ∧ d ∉ st.n.pr := by
    intro d h
    unfold dstOk at hd0
    rw [h] at hd0
    simp only [Bool.and_eq_true, Bool.not_eq_true'] at hd0
    refine ⟨Nat.le_of_ble_eq_true hd0.1, fun hm => ?_⟩
    have := (memN_iff _ _).2 hm
    rw [this] at hd0
    cases hd0.2
  have ptm : ∀ x, memN x ds = false → (st.put o.dst v u).tmp x = st0.tmp x := by
    intro x hx
    rw [← htm x hx]
    unfold St.put
    cases hod : o.dst with
    | none => rfl
    | some d =>
      refine updT_ne _ _ fun e => ?_
      subst e
      rw [hdm _ hod] at hx
      cases hx
  have fin : ∀ {μ' : Mu} {w' : World} {cv : Value}, RelM W0 O μ' { st with heap := updsH st.heap u } a w' → VRep w' (Av O μ' (updsH st.heap u)) μ' (updsH st.heap u) v cv →
      (∀ id blk, h0 id = some blk → updsH st.heap u id = some blk ∧ μ' id = μ id) → (∀ id blk b c, updsH st.heap u id = some blk → h0 id = none → blk.own = true → μ' id = some (b, c) → w0.heap.size ≤ b) → BelowD w0.heap.size w0 w' → next (a.put o.dst cv) w' := by
    intro μ' w' cv r' hv h1 h2 h3
    exact hn _ _ ⟨⟨⟨μ', RelM.put r' hv hd, h1, h2⟩, hnn ▸ put_n .., h3⟩, ptm⟩
  have go : aop E st lim o = some (v, u) → o.wp E.P a w next Q := by
    intro ho
    cases hwr : writeOp o.op
    · obtain ⟨rfl, cv, hrun, hv⟩ := look_ok r hlo hwr ho
      unfold Oper.wp
      rw [hrun]
      exact fin r hv hold hnew hw
    · obtain ⟨dst, op, type, pos, after, guard⟩ := o
      cases op <;> first | (cases hwr; done) | skip
      case alloc elem =>
        simp only [aop, opK] at ho
        split at ho
        · rename_i i' hi' hid
          split at ho
          · rename_i z hz
            obtain ⟨h1, ho⟩ := cond_some ho
            simp only [mkp, Option.some.injEq, Prod.mk.injEq] at ho
            obtain ⟨rfl, rfl⟩ := ho
            have hnw := (alloc_below w (.cells z.cells elem))
            obtain ⟨s, r'⟩ := r.new (b := w.heap.size) (c := 0) (blk := .box elem (absCs z.cells.toList)) hid hnw (Nat.le_refl _) (fun s => ⟨w.heap.size, 0, z.cells, rfl, heap_alloc_new w _, absCs_rep _ h1, rfl⟩)
            have hrun : (execOp a.eval { dst := dst, op := Op.alloc elem, type := type, pos := pos, after := after, guard := guard }).run E.P w = .ok (.value (.pointer (some ⟨w.heap.size, 0, none⟩))) (w.alloc (.cells z.cells elem)) := by
              simp [execOp, Instr.alloc, zeroValue, typeInfo, hi', hz, newVar, newRow]
            unfold Oper.wp
            rw [hrun]
            generalize nid st.ep (dst.getD 0) 0 = nw at *
            have hn0 : h0 nw = none := by
              cases hq : h0 nw with
              | none => rfl
              | some bq => rw [(hold nw bq hq).1] at hid; cases hid
            refine fin (μ' := updM μ1 nw (some (w.heap.size, 0))) r' (VRep.of_c (c := .ptr nw 0) ⟨_, w.heap.size, 0, updH_same .., updM_same .., rfl⟩) (fun id blk hb => ?_) (fun id blk b c hb hb0 hown hmu => ?_) (hw.alloc hw.size _)
            · have hne : id ≠ nw := fun e => by rw [e, hn0] at hb; cases hb
              show updH st.heap nw _ id = _ ∧ _
              rw [updH_ne _ _ hne, updM_ne _ _ hne]
              exact hold id blk hb
            · have hb : updH st.heap nw _ id = some blk := hb
              by_cases e : id = nw
              · subst e
                rw [updM_same] at hmu
                cases hmu
                exact hw.size
              · rw [updH_ne _ _ e] at hb
                rw [updM_ne _ _ e] at hmu
                exact hnew id blk b c hb hb0 hown hmu
          · cases ho
        · cases ho
      case store t x y =>
        obtain ⟨sl, id, off, rfl, hsd, hsp, hh0⟩ := hso t x y rfl
        have hev : st.ev (.tmp sl) = .c (.ptr id off) := by show st.tmp sl = _; rw [htm sl hsd, hsp]
        cases lim with
        | some l => simp only [aop, opK] at ho; cases ho
        | none =>
        simp only [aop, opK] at ho
        rw [hE] at ho
        rw [opStore_nat] at ho
        cases hs : opStore E.P false st.heap t (st.ev (.tmp sl)) (st.ev y) some with
        | none => rw [hs] at ho; cases ho
        | some u' =>
          rw [hs] at ho
          simp only [Option.bind_some, mkp, Option.some.injEq, Prod.mk.injEq] at ho
          obtain ⟨rfl, rfl⟩ := ho
          have hx := r.ev (.tmp sl)
          have hy := r.ev y
          unfold opStore at hs
          split at hs
          · rename_i i' vc hi' hvc
            have hsz := Nat.eq_of_beq_eq_true (cond_some hs).1
            have hk2 := (cond_some hs).2
            clear hs
            rw [len_eq] at hsz
            have hcv := cells_rep hy hvc
            have hl := All2.len hcv
            simp at hl
            rw [hev] at hk2 hx
            simp only at hk2
            split at hk2
            · rename_i te cs hb
              have hc := (cond_some hk2).1
              have hk3 := (cond_some hk2).2
              clear hk2
              cases hk3
              have hle : off + i'.size ≤ cs.length := by rw [← len_eq]; exact Nat.le_of_ble_eq_true hc
              obtain ⟨blk, b, c, hb', hmu, hxv⟩ := VRep.to_c (by simp) hx
              rw [hb] at hb'
              cases hb'
              have hbr := r.blks id _ hb
              obtain ⟨b', c', cur, hm', hg, hcs, hc0⟩ := hbr
              rw [hmu] at hm'
              cases hm'
              have hlc := All2.len hcs
              simp at hlc
              have hst := run_storeVar (P := E.P) (v := a.eval y) hi' hg (by omega) (by omega : off + i'.size ≤ cur.size) hcv.one
              obtain ⟨s, r'⟩ := r.mod (blk' := .box te (over off vc cs)) (w' := w.setRow b (over off (a.eval y).cells.toList cur.toList).toArray) hb rfl hmu trivial rfl
                (fun k hk => setRow_other w b k _ hk) (setRow_size ..) rfl rfl rfl (Nat.le_refl _)
                (fun s => ⟨b, c, _, rfl, setRow_heap w b cur _ te _ hg, by
                  simpa using s.csrep (over_rep hcv hcs (by omega)), hc0⟩)
              have hrun : (execOp a.eval { dst := dst, op := Op.store t (.tmp sl) y, type := type, pos := pos, after := after, guard := guard }).run E.P w = .ok .skip (w.setRow b (over off (a.eval y).cells.toList cur.toList).toArray) := by
                simp [execOp, Instr.storeAt, hxv, Instr.sureAddr, hst]
              unfold Oper.wp
              rw [hrun]
              have hbig := hnew id _ b c hb hh0 rfl hmu
              refine fin (cv := undef) r' trivial (fun id' blk' hb' => ?_) (fun id' blk' b' c' hb' hb0 hown hmu' => ?_) ?_
              · have hne : id' ≠ id := fun e => by rw [e, hh0] at hb'; cases hb'
                show updH st.heap id _ id' = _ ∧ _
                rw [updH_ne _ _ hne]
                exact hold id' blk' hb'
              · have hb' : updH st.heap id _ id' = some blk' := hb'
                by_cases e : id' = id
                · subst e
                  rw [hmu] at hmu'
                  cases hmu'
                  exact hbig
                · rw [updH_ne _ _ e] at hb'
                  exact hnew id' blk' b' c' hb' hb0 hown hmu'
              · refine ⟨⟨hw.os, hw.tape, hw.output, by rw [setRow_size]; exact hw.size, fun k hk => ?_⟩, hw.drawn⟩
                rw [setRow_other w b k _ (by omega)]
                exact hw.block k hk
            · cases hk2
          · cases hs
  have skip : v = .tup [] → u = [] → next (a.put o.dst undef) w := by
    rintro rfl rfl
    exact fin (cv := undef) r ⟨#[], rfl, trivial⟩ hold hnew hw
  unfold wpOp
  simp only [hi]
  split at hk2
  · rename_i hg
    have : Region.wanted o (yielded ops a.tmps) = true := by simp [Region.wanted, hg]
    rw [if_pos this]
    exact .inl (go hk2)
  · rename_i j want hg
    split at hk2
    · have hsk := (cond_some hk2).1
      have hk3 := (cond_some hk2).2
      have hy := skipped_of r hsk
      have : ¬ Region.wanted o (yielded ops a.tmps) = true := by simp [Region.wanted, hg, hy]
      rw [if_neg this]
      simp only [Option.some.injEq, Prod.mk.injEq] at hk3
      exact skip hk3.1.symm hk3.2.symm
    · rename_i d b hgv
      have hy := yielded_of r hgv
      cases hbw : b == want
      · rw [hbw] at hk2
        simp only [cond_false, Option.some.injEq, Prod.mk.injEq] at hk2
        have : ¬ Region.wanted o (yielded ops a.tmps) = true := by
          simp only [Region.wanted, hg, hy]
          cases b <;> cases want <;> simp_all
        rw [if_neg this]
        exact skip hk2.1.symm hk2.2.symm
      · rw [hbw] at hk2
        simp only [cond_true] at hk2
        have : Region.wanted o (yielded ops a.tmps) = true := by
          simp only [Region.wanted, hg, hy]
          cases b <;> cases want <;> simp_all
        rw [if_pos this]
        exact .inl (go hk2)
theorem lookops_ok [Dr] {R : Type} {E : Env} (hE : E.M = false) {h0 : Heap} {n : Fr} {w0 : World} {ds : List Nat} {st0 : St} {ops : Array Oper} {b : Array Nat} {l0 : Nat} {t0 : Nat → V} {K : St → Option R} {res : R} {Q : Exit → Act → World → Prop} (hlk : lookOps E.P ops.toList = true) (hds : dstsL ops.toList = ds) (hst : storesB h0 st0 ds ops.toList = true)
    (hQ : ∀ st' a' w', LookReg W0 O μ h0 n w0 ds st0.tmp st' a' w' → K st' = some res → Q .normal a' w') :
    ∀ (l : List Oper) (i : Nat) (st : St) (a : Act) (w : World), (∀ k, l[k]? = ops[i + k]?) → LookReg W0 O μ h0 n w0 ds st0.tmp st a w → opsK E ops false b l0 t0 l i st K = some res → wpOps E.P ops Q (List.range' i l.length) a w
  | [], i, st, a, w, _, r, hk => hQ st a w r hk
  | o :: l, i, st, a, w, hl, r, hk => by
    have hi : ops[i]? = some o := by simpa using (hl 0).symm
    simp only [List.length_cons, List.range'_succ]
    rw [wpOps_cons]
    simp only [opsK, Bool.not_false, Bool.true_or, cond_true] at hk
    rw [stepK_eq] at hk
    cases hs : stepA E ops none o st with
    | none => rw [hs] at hk; cases hk
    | some p =>
      obtain ⟨v, u⟩ := p
      rw [hs] at hk
      simp only [Option.bind_some] at hk
      refine lookstep_ok hE hlk hds hst hi r hs fun a' w' r' => ?_
      exact lookops_ok hE hlk hds hst hQ l (i + 1) _ a' w' (fun k => by have := hl (k + 1); simpa [Nat.add_assoc, Nat.add_comm 1 k] using this) r' hk
theorem lookdraw_ok [Dr] {R : Type} {E : Env} (hE : E.M = false) {t0 : Nat → V} (hm : E.P.follows .mixedOrders = true) {h0 : Heap} {n : Fr} {w0 : World} {id : Nat} {ds : List Nat} {ops : Array Oper} {K : St → Option R} {res : R} {Q : Exit → Act → World → Prop} (hlk : lookOps E.P ops.toList = true) (hds : dstsL ops.toList = ds) (hst : storesB h0 st ds ops.toList = true)
    (hQ : ∀ st' a' w', LookReg W0 O μ h0 n w0 ds st.tmp st' a' w' → K st' = some res → Q .normal a' w') (r : LookReg W0 O μ h0 n w0 ds st.tmp st a w) (hl : lexB ops (Region.before ops) = true)
    (hk : opsK E ops true (Region.before ops) (nid st.ep 0 0) t0 ops.toList 0 st K = some res) : (Code.region id ops true).wp E.P Q a w := by
  rw [opsK_run ops.toList 0 st (fun k => by simp)] at hk
  cases hrun : runL E ops (nid st.ep 0 0) t0 (List.range' 0 ops.toList.length) st with
  | none => rw [hrun] at hk; cases hk
  | some st' =>
    rw [hrun] at hk
    simp only [Option.bind_some] at hk
    refine wp_region_any hm ?_
    have r' : LookReg W0 O μ h0 n w0 ds st.tmp st a { w with drawn := w.drawn + 1 } := by
      have hb : BelowD w.heap.size w { w with drawn := w.drawn + 1 } := ⟨⟨rfl, rfl, rfl, Nat.le_refl _, fun _ _ => rfl⟩, fun _ => Nat.le_succ _⟩
      obtain ⟨⟨⟨μ1, r1, h1, h2⟩, hn, hw⟩, ht⟩ := r
      exact ⟨⟨⟨μ1, (r1.world hb).2, h1, h2⟩, hn, ⟨⟨hw.os, hw.tape, hw.output, hw.size, fun b hb => hw.block b hb⟩, fun d => Nat.le_succ_of_le (hw.drawn d)⟩⟩, ht⟩
    refine any_okG (E := E) (Rl := LookReg W0 O μ h0 n w0 ds st.tmp) (l0 := nid st.ep 0 0) (t0 := t0) (fun i o st1 a w v u ho hrel h1 next hn => lookstep_ok hE hlk hds hst ho hrel h1 hn) hl (st' := st') (fun a' w' hr' => hQ st' a' w' hr' hk) ops.size (Array.replicate ops.size false) (List.range' 0 ops.toList.length) st a _ (by simp) (by simp) ?_ (fun j => ?_) (fun j o hj h => ?_) r' rfl hrun
    · exact List.pairwise_lt_range'
    · simp only [List.mem_range', Array.length_toList]
      constructor
      · rintro ⟨k, hk, rfl⟩
        exact ⟨by omega, by simp [show k < ops.size by omega]⟩
      · rintro ⟨h, _⟩
        exact ⟨j, h, by omega⟩
    · rcases Nat.lt_or_ge j ops.size with h' | h' <;> simp [h'] at h
theorem LookRel.ep [Dr] {h0 : Heap} {n : Fr} {w0 : World} {st : St} (r : LookRel W0 O μ h0 n w0 st a w) {e : Nat} : LookRel W0 O μ h0 n w0 { st with ep := e } a w := by
  obtain ⟨⟨μ1, r1, h1, h2⟩, hn, hw⟩ := r
  exact ⟨⟨μ1, ⟨r1.tmps, r1.blks, r1.inj, r1.fresh, r1.below, r1.outer, r1.size, r1.keep, r1.defers, r1.glob⟩, h1, h2⟩, hn, hw⟩
theorem lookreg_ok [Dr] {R : Type} {E : Env} (hE : E.M = false) (hm : E.P.follows .mixedOrders = true) {h0 : Heap} {n : Fr} {w0 : World} {id : Nat} {ops : Array Oper} {draw : Bool} {K : St → Option R} {res : R} {Q : Exit → Act → World → Prop} (hlk : lookOps E.P ops.toList = true)
    (hQ : ∀ st' a' w', LookRel W0 O μ h0 n w0 st' a' w' → K st' = some res → Q .normal a' w') (r : LookRel W0 O μ h0 n w0 st a w) (hk : qexec E h0 (.region id ops draw) K st = some res) : (Code.region id ops draw).wp E.P Q a w := by
  simp only [qexec] at hk
  obtain ⟨hl, hk⟩ := cond_some hk
  rw [Bool.and_eq_true] at hl
  obtain ⟨hl, hst⟩ := hl
  have r0 : LookReg W0 O μ h0 n w0 (dstsL ops.toList) st.tmp st a w := ⟨r, fun _ _ => rfl⟩
  cases draw
  · refine wp_region ?_
    have := lookops_ok (E := E) hE (Q := Q) (n := n) (st0 := st) (K := fun st' => K { st' with ep := st'.ep + 1 }) (res := res) hlk rfl hst (fun st' a' w' hr hk' => hQ _ a' w' hr.1.ep hk') ops.toList 0 st a w (fun k => by simp) r0 hk
    rw [List.range_eq_range']
    simpa using this
  · simp only [Bool.not_true, Bool.false_or] at hl
    exact lookdraw_ok hE hm (K := fun st' => K { st' with ep := st'.ep + 1 }) hlk rfl hst (fun st' a' w' hr hk' => hQ _ a' w' hr.1.ep hk') r0 hl hk
theorem qexec_ok [Dr] {R : Type} {E : Env} (hE : E.M = false) (hm : E.P.follows .mixedOrders = true) {h0 : Heap} {n : Fr} {w0 : World} : ∀ (c : Code), lookC E.P c = true → ∀ (K : St → Option R) (res : R) (Q : Exit → Act → World → Prop),
    (∀ st' a' w', LookRel W0 O μ h0 n w0 st' a' w' → K st' = some res → Q .normal a' w' ∧ Q .ret a' w') → ∀ (st : St) (a : Act) (w : World), LookRel W0 O μ h0 n w0 st a w → qexec E h0 c K st = some res → c.wp E.P Q a w := by
  intro c
  induction c with
  | skip => intro _ K res Q hQ st a w h hk; exact wp_skip (hQ st a w h hk).1
  | label l => intro _ K res Q hQ st a w h hk; exact wp_label (hQ st a w h hk).1
  | ret => intro _ K res Q hQ st a w h hk; exact wp_ret (hQ st a w h hk).2
  | region id ops draw =>
    intro hl K res Q hQ st a w h hk
    exact lookreg_ok hE hm hl (fun st' a' w' hr hk' => (hQ st' a' w' hr hk').1) h hk
  | seq x y ihx ihy =>
    intro hl K res Q hQ st a w h hk
    cases x <;> first | (cases hl; done) | skip
    rename_i id ops draw
    simp only [lookC, Bool.and_eq_true] at hl
    refine wp_seq (lookreg_ok hE hm (Q := Exit.then _ Q) (K := qexec E h0 y K) hl.1 (fun st' a' w' hr hk' => ?_) h hk)
    exact ihy hl.2 K res Q hQ st' a' w' hr hk'
  | _ => intro hl; cases hl
theorem plainC_rep {A A' : Nat → Prop} {μ' : Mu} {h h' : Heap} (hA : ∀ b, A' b → A b) {c : C} {v : Value} (hp : plainC c = true) (k : CRep w A μ' h c v) : CRep w A' μ h' c v := by
  cases c <;> first | (cases hp; done) | skip
  case undef => exact k
  case val t x => exact FRep.mono hA (t := t) k
  case nils => exact k
  case nilp => exact k
  case fptr t x off =>
    obtain ⟨ad, cs, h1, h2, h3⟩ := k
    exact ⟨ad, cs, h1, FRep.mono hA h2, fun j u hu => ⟨fun h => (h3 j u hu).1 (hA _ h), (h3 j u hu).2⟩⟩
  case fn f => exact k
  case anyb => exact k
theorem plainCs_rep {A A' : Nat → Prop} {μ' : Mu} {h h' : Heap} (hA : ∀ b, A' b → A b) : ∀ {cs : List C} {vs : List Value}, plainCs cs = true → CsRep w A μ' h cs vs → CsRep w A' μ h' cs vs
  | [], [], _, _ => trivial
  | c :: cs, v :: vs, hp, k => by
    simp only [plainCs, Bool.and_eq_true] at hp
    exact ⟨plainC_rep hA hp.1 k.1, plainCs_rep hA hp.2 k.2⟩
  | [], _ :: _, _, k => k.elim
  | _ :: _, [], _, k => k.elim
theorem plainV_rep {A A' : Nat → Prop} {μ' : Mu} {h h' : Heap} (hA : ∀ b, A' b → A b) {v : V} {cv : Value} (hp : plainV v = true) (k : VRep w A μ' h v cv) : VRep w A' μ h' v cv := by
  cases v with
  | c x =>
    by_cases hx : x = .undef
    · subst hx; trivial
    · exact VRep.of_c (plainC_rep hA hp (VRep.to_c hx k))
  | agg cs => obtain ⟨vs, h1, h2⟩ := k; exact ⟨vs, h1, plainCs_rep hA hp h2⟩
  | tup l => cases hp
theorem tupRes_rep {A : Nat → Prop} {h : Heap} : ∀ {vs : List V} {cvs : List Value}, All2 (VRep w A μ h) vs cvs → All2 (SRep w A μ h) (tupRes vs) cvs
  | [], [], _ => trivial
  | v :: vs, c :: cvs, k => ⟨resV_rep k.1, tupRes_rep k.2⟩
  | [], _ :: _, k => k.elim
  | _ :: _, [], k => k.elim
theorem q_ok [Dr] {G : GTab} (hm : P.follows .mixedOrders = true) {f : Nat} {fn : Func} (hf : P.funcs[f]? = some fn) (henter : ∀ (args : Array Value) (w : World), (callFunc f args).run P w = .ok (.enter f args) w) : QOK P G f (mkQ P G fn) := by
  refine ⟨henter, fun {W0 O μ st a w} r hG {ep args cargs} hargs {v} hk => ?_⟩
  have hk : qrun P G fn st.heap ep args some = some v := hk
  unfold qrun at hk
  cases hb : fn.body with
  | none => rw [hb] at hk; cases hk
  | some c =>
    rw [hb] at hk
    simp only at hk
    obtain ⟨hc, hk⟩ := cond_some hk
    rw [Bool.and_eq_true, len_eq] at hc
    have hn := Nat.le_of_ble_eq_true hc.2
    have hlen := All2.len hargs
    refine calls_of_wp hf hb ?_
    let a0 : Act := { tmps := cargs.toArray ++ Array.replicate (fn.ntmps - cargs.toArray.size) undef, defers := [] }
    have hval : ∀ t, a0.tmps.getD t undef = nthV cargs t := by
      intro t
      show (cargs.toArray ++ Array.replicate (fn.ntmps - cargs.toArray.size) undef).getD t undef = _
      unfold nthV
      rw [Array.getD_eq_getD_getElem?, List.getD_eq_getElem?_getD, Array.getElem?_append]
      split
      · simp
      · rename_i hge
        have hge : cargs.length ≤ t := by simpa using hge
        rw [Array.getElem?_replicate, List.getElem?_eq_none hge]
        split <;> rfl
    let st0 : St := ⟨listV args, st.heap, ep, ⟨fn.ntmps, [], G⟩⟩
    have r0 : RelM W0 O μ st0 a0 w := by
      refine ⟨fun t => ?_, r.blks, r.inj, r.fresh, r.below, r.outer, ?_, fun p hp => (by cases hp), rfl, ?_⟩
      · rw [hval]
        exact listV_rep hargs t
      · show (cargs.toArray ++ Array.replicate (fn.ntmps - cargs.toArray.size) undef).size = fn.ntmps
        simp
        omega
      · show GRep G w _
        rw [← hG]
        exact r.glob
    refine qexec_ok (E := E0 P G) rfl hm c hc.1 _ v _ (fun st' a' w' hr hk' => ?_) st0 a0 w (⟨⟨μ, r0, fun id blk hb => ⟨hb, rfl⟩, fun id blk b c h1 h2 => by have h1 : st.heap id = some blk := h1; rw [h1] at h2; cases h2⟩, rfl, BelowD.refl _ _⟩ : LookRel W0 O μ st.heap ⟨fn.ntmps, [], G⟩ w st0 a0 w) hk
    obtain ⟨⟨μ1, hrel, hold, _⟩, _, hworld⟩ := hr
    split at hk'
    · rename_i rs hrs
      obtain ⟨hpl, hk'⟩ := cond_some hk'
      cases hk'
      obtain ⟨vs, hall, hv⟩ := resVars_rep hrel hrs
      have hm := mapM_run (P := P) (oneRes a'.tmps) _ _ hall
      have h1 : (fn.results.mapM (oneRes a'.tmps)).run P w' = .ok vs.toArray w' := by
        have e : fn.results = fn.results.toList.toArray := by simp
        rw [e, List.mapM_toArray]
        simp [hm]
      have fin : (results fn a'.tmps).run P w' = .ok (tupVal vs) w' := by
        show ((do
          let vs ← fn.results.mapM (oneRes a'.tmps)
          pure (if h : vs.size = 1 then vs[0] else .tuple vs) : Sem Value)).run P w' = _
        simp only [Sem.run_bind, h1, Result.andThen_ok, Sem.run_pure]
        congr 1
        match vs with
        | [] => rfl
        | [v] => rfl
        | v :: v' :: r => rw [dif_neg (by simp)]; rfl
      have hv2 : VRep w' (Av O μ st.heap) μ st.heap (tupV (tupRes rs)) (tupVal vs) := by
        refine plainV_rep (fun b hb => ?_) hpl (tupV_rep (tupRes_rep hv))
        rcases hb with hb | ⟨id, blk, c, h1, h2, h3⟩
        · exact .inl hb
        · obtain ⟨k1, k2⟩ := hold id blk h1
          exact .inr ⟨id, blk, c, k1, h2, by rw [k2]; exact h3⟩
      have hfin : ∃ cv, Ending.returned (tupVal vs) = .returned cv ∧ BelowD w.heap.size w w' ∧ VRep w' (Av O μ st.heap) μ st.heap (tupV (tupRes rs)) cv := ⟨_, rfl, hworld, hv2⟩
      exact ⟨⟨hrel.defers, _, fin, hfin⟩, ⟨hrel.defers, _, fin, hfin⟩⟩
    · cases hk'
end
end Go.VM
