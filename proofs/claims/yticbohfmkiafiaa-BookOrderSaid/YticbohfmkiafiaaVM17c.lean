import Derived.Test.YticbohfmkiafiaaVM17b
namespace Go.VM
open Go.RowKit
section
variable {W0 : World} {O : Out} {E : Env} {st : St}
noncomputable def bits1 (acc : Array Nat) (o : Oper) : Nat := o.after.foldl (fun s e => if Region.binds .any e then s ||| 2 ^ e.on ||| acc.getD e.on 0 else s) 0
theorem bits1_mem {acc : Array Nat} {o : Oper} {p : Nat} (h : (bits1 acc o).testBit p = true) : ∃ e ∈ o.after.toList, Region.binds .any e = true ∧ (e.on = p ∨ (acc.getD e.on 0).testBit p = true) := by
  unfold bits1 at h
  rw [← Array.foldl_toList] at h
  have key : ∀ (l : List Edge) (s : Nat), (l.foldl (fun s e => if Region.binds .any e then s ||| 2 ^ e.on ||| acc.getD e.on 0 else s) s).testBit p = true →
      s.testBit p = true ∨ ∃ e ∈ l, Region.binds .any e = true ∧ (e.on = p ∨ (acc.getD e.on 0).testBit p = true) := by
    intro l
    induction l with
    | nil => intro s h; exact .inl h
    | cons e l ih =>
      intro s h
      rw [List.foldl_cons] at h
      rcases ih _ h with h | ⟨e', he', h'⟩
      · by_cases hb : Region.binds .any e = true
        · rw [if_pos hb] at h
          rw [Nat.testBit_or, Nat.testBit_or, Bool.or_eq_true, Bool.or_eq_true] at h
          rcases h with (h | h) | h
          · exact .inl h
          · refine .inr ⟨e, by simp, hb, .inl ?_⟩
            rw [Nat.testBit_two_pow] at h
            simpa using h
          · exact .inr ⟨e, by simp, hb, .inr h⟩
        · rw [if_neg hb] at h
          exact .inl h
      · exact .inr ⟨e', List.mem_cons_of_mem _ he', h'⟩
  rcases key _ 0 h with h | h
  · simp at h
  · exact h
theorem foldl_push_get (f : Array Nat → Oper → Nat) : ∀ (l : List Oper) (A : Array Nat) (j : Nat), j < A.size → (l.foldl (fun acc o => acc.push (f acc o)) A).getD j 0 = A.getD j 0
  | [], A, j, h => rfl
  | o :: l, A, j, h => by
    rw [List.foldl_cons, foldl_push_get f l _ j (by simp; omega)]
    simp [Array.getElem?_push, Nat.ne_of_lt h]
theorem before_get {ops : Array Oper} {j p : Nat} {o : Oper} (ho : ops[j]? = some o) (h : bitB (Region.before ops) j p = true) :
    ∃ e ∈ o.after.toList, Region.binds .any e = true ∧ (e.on = p ∨ (e.on < j ∧ bitB (Region.before ops) e.on p = true)) := by
  have key : ∀ (l : List Oper) (A : Array Nat) (j : Nat) (o : Oper), l[j]? = some o → ∃ B : Array Nat, B.size = A.size + j ∧ (l.foldl (fun acc o => acc.push (bits1 acc o)) A).getD (A.size + j) 0 = bits1 B o ∧
      ∀ i, i < A.size + j → (l.foldl (fun acc o => acc.push (bits1 acc o)) A).getD i 0 = B.getD i 0 := by
    intro l
    induction l with
    | nil => intro A j o h; simp at h
    | cons x l ih =>
      intro A j o h
      cases j with
      | zero =>
        simp at h
        subst h
        refine ⟨A, rfl, ?_, fun i hi => ?_⟩
        · rw [List.foldl_cons, foldl_push_get _ l _ _ (by simp)]
          simp
        · rw [List.foldl_cons, foldl_push_get _ l _ _ (by simp; omega)]
          have : i ≠ A.size := by omega
          simp [Array.getElem?_push, this]
      | succ j =>
        simp at h
        obtain ⟨B, h1, h2, h3⟩ := ih (A.push (bits1 A x)) j o h
        simp only [Array.size_push] at h1 h2 h3
        refine ⟨B, by omega, ?_, fun i hi => ?_⟩
        · rw [List.foldl_cons, show A.size + (j + 1) = A.size + 1 + j by omega]; exact h2
        · rw [List.foldl_cons]; exact h3 i (by omega)
  have hb : Region.before ops = ops.toList.foldl (fun acc o => acc.push (bits1 acc o)) #[] := by
    unfold Region.before
    rw [← Array.foldl_toList]
    rfl
  obtain ⟨B, h1, h2, h3⟩ := key ops.toList #[] j o (by simpa using ho)
  simp only [Array.size_empty, Nat.zero_add] at h1 h2 h3
  rw [← hb] at h2 h3
  unfold bitB at h
  rw [h2] at h
  obtain ⟨e, he, hbd, h⟩ := bits1_mem h
  refine ⟨e, he, hbd, h.imp_right fun h => ?_⟩
  have hlt : e.on < j := by
    rcases Nat.lt_or_ge e.on j with h' | h'
    · exact h'
    · have : B.getD e.on 0 = 0 := by simp [Array.getElem?_eq_none (show B.size ≤ e.on by omega)]
      rw [this] at h
      simp at h
  exact ⟨hlt, by unfold bitB; rw [h3 _ hlt]; exact h⟩
theorem lexB_spec {ops : Array Oper} {b : Array Nat} (h : lexB ops b = true) : (∀ (i : Nat) (o : Oper), ops[i]? = some o → ∀ e ∈ o.after.toList, Region.binds .any e = true → e.on < i) ∧
    ∀ (i j : Nat) (o p : Oper), i < j → ops[i]? = some o → ops[j]? = some p → bitB b j i = true ∨ Oper.apart ops o p = true := by
  unfold lexB at h
  rw [Bool.and_eq_true] at h
  have rowk : ∀ (o : Oper) (i : Nat) (l : List Oper) (m : Nat), lexB.row ops b o i l m = true → ∀ k p, l[k]? = some p → bitB b (m + k) i = true ∨ Oper.apart ops o p = true := by
    intro o i l
    induction l with
    | nil => intro m _ k p hk; simp at hk
    | cons q l ih =>
      intro m hr k p hk
      simp only [lexB.row, Bool.and_eq_true, Bool.or_eq_true] at hr
      cases k with
      | zero => simp at hk; subst hk; exact hr.1
      | succ k =>
        have := ih (m + 1) hr.2 k p (by simpa using hk)
        rwa [show m + 1 + k = m + (k + 1) by omega] at this
  have key : ∀ (l : List Oper) (m : Nat), lexB.rows ops b l m = true → (∀ k o, l[k]? = some o → ∀ e ∈ o.after.toList, Region.binds .any e = true → e.on < m + k) ∧
      ∀ i j o p, i < j → l[i]? = some o → l[j]? = some p → bitB b (m + j) (m + i) = true ∨ Oper.apart ops o p = true := by
    intro l
    induction l with
    | nil => intro m _; exact ⟨fun k o hk => by simp at hk, fun i j o p _ hi => by simp at hi⟩
    | cons q l ih =>
      intro m hr
      simp only [lexB.rows, Bool.and_eq_true] at hr
      obtain ⟨⟨h1, h2⟩, h3⟩ := hr
      obtain ⟨i1, i2⟩ := ih (m + 1) h3
      refine ⟨fun k o hk e he hb => ?_, fun i j o p hij hi hj => ?_⟩
      · cases k with
        | zero =>
          simp at hk; subst hk
          have := List.all_eq_true.1 h1 e he
          rw [hb] at this
          simp only [Bool.not_true, Bool.false_or] at this
          exact Nat.le_of_ble_eq_true this
        | succ k =>
          have := i1 k o (by simpa using hk) e he hb
          omega
      · cases j with
        | zero => omega
        | succ j =>
          cases i with
          | zero =>
            simp at hi; subst hi
            have := rowk q m l (m + 1) h2 j p (by simpa using hj)
            rwa [show m + 1 + j = m + (j + 1) by omega] at this
          | succ i =>
            have := i2 i j o p (by omega) (by simpa using hi) (by simpa using hj)
            rwa [show m + 1 + j = m + (j + 1) by omega, show m + 1 + i = m + (i + 1) by omega] at this
  obtain ⟨k1, k2⟩ := key _ 0 h.2
  refine ⟨fun i o hi e he hb => ?_, fun i j o p hij hi hj => ?_⟩
  · have := k1 i o (by simpa using hi) e he hb
    omega
  · have := k2 i j o p hij (by simpa using hi) (by simpa using hj)
    simpa using this
theorem totB_spec {P : Program} {cm : Op → Bool} {ops : List Oper} {b : Array Nat} {i : Nat} {q iq : Bool} (h : totB P cm ops b i q iq = true) : ∀ (j : Nat) (o : Oper), ops[j]? = some o → i ≠ j → pureOp P o.op = true ∨ (q = true ∧ cm o.op = true) ∨ (iq = true ∧ smallA o = true ∧ i < j) ∨ bitB b i j = true ∨ bitB b j i = true := by
  have key : ∀ (l : List Oper) (m : Nat), totB.go P cm b i q iq l m = true → ∀ k o, l[k]? = some o → i ≠ m + k → pureOp P o.op = true ∨ (q = true ∧ cm o.op = true) ∨ (iq = true ∧ smallA o = true ∧ i < m + k) ∨ bitB b i (m + k) = true ∨ bitB b (m + k) i = true := by
    intro l
    induction l with
    | nil => intro m _ k o hk; simp at hk
    | cons w l ih =>
      intro m hr k o hk hne
      simp only [totB.go, Bool.and_eq_true, Bool.or_eq_true] at hr
      cases k with
      | zero =>
        simp at hk; subst hk
        rcases hr.1 with ((((h | h) | h) | h) | h) | h
        · exact absurd (Nat.eq_of_beq_eq_true h) hne
        · exact .inl h
        · exact .inr (.inl h)
        · exact .inr (.inr (.inl ⟨h.1.1, h.1.2, Nat.le_of_ble_eq_true h.2⟩))
        · exact .inr (.inr (.inr (.inl h)))
        · exact .inr (.inr (.inr (.inr h)))
      | succ k =>
        have := ih (m + 1) hr.2 k o (by simpa using hk) (by omega)
        rwa [show m + 1 + k = m + (k + 1) by omega] at this
  intro j o ho hne
  have := key _ 0 h j o ho (by omega)
  simpa using this
theorem totL_spec {P : Program} {ops : List Oper} {b : Array Nat} {i : Nat} {one ap : Bool} (h : totL P ops b i one ap = true) : ∀ (j : Nat) (o : Oper), ops[j]? = some o → i ≠ j → pureOp P o.op = true ∨ quietOp o.op = true ∨ (one = true ∧ allocOp o.op = true ∧ i < j) ∨ (ap = true ∧ rowOp o.op = true ∧ i < j) ∨ bitB b i j = true ∨ bitB b j i = true := by
  have key : ∀ (l : List Oper) (m : Nat), totL.go P b i one ap l m = true → ∀ k o, l[k]? = some o → i ≠ m + k → pureOp P o.op = true ∨ quietOp o.op = true ∨ (one = true ∧ allocOp o.op = true ∧ i < m + k) ∨ (ap = true ∧ rowOp o.op = true ∧ i < m + k) ∨ bitB b i (m + k) = true ∨ bitB b (m + k) i = true := by
    intro l
    induction l with
    | nil => intro m _ k o hk; simp at hk
    | cons q l ih =>
      intro m hr k o hk hne
      simp only [totL.go, Bool.and_eq_true, Bool.or_eq_true] at hr
      cases k with
      | zero =>
        simp at hk; subst hk
        rcases hr.1 with (((((h | h) | h) | h) | h) | h) | h
        · exact absurd (Nat.eq_of_beq_eq_true h) hne
        · exact .inl h
        · exact .inr (.inl h)
        · exact .inr (.inr (.inl ⟨h.1.1, h.1.2, Nat.le_of_ble_eq_true h.2⟩))
        · exact .inr (.inr (.inr (.inl ⟨h.1.1, h.1.2, Nat.le_of_ble_eq_true h.2⟩)))
        · exact .inr (.inr (.inr (.inr (.inl h))))
        · exact .inr (.inr (.inr (.inr (.inr h))))
      | succ k =>
        have := ih (m + 1) hr.2 k o (by simpa using hk) (by omega)
        rwa [show m + 1 + k = m + (k + 1) by omega] at this
  intro j o ho hne
  have := key _ 0 h j o ho (by omega)
  simpa using this
theorem totS_spec {P : Program} {ops : List Oper} {b : Array Nat} {t0 : Nat → V} {i : Nat} {sb : Bool} (h : totS P ops b t0 i sb = true) : ∀ (j : Nat) (o : Oper), ops[j]? = some o → i ≠ j → pureOp P o.op = true ∨ (sb = true ∧ rowLook o.op = true) ∨ bitB b i j = true ∨ bitB b j i = true ∨ (loadOp o.op = true ∧ (opRoot ops t0 o.op).isSome = true) := by
  have key : ∀ (l : List Oper) (m : Nat), totS.go P ops b t0 i sb l m = true → ∀ k o, l[k]? = some o → i ≠ m + k → pureOp P o.op = true ∨ (sb = true ∧ rowLook o.op = true) ∨ bitB b i (m + k) = true ∨ bitB b (m + k) i = true ∨ (loadOp o.op = true ∧ (opRoot ops t0 o.op).isSome = true) := by
    intro l
    induction l with
    | nil => intro m _ k o hk; simp at hk
    | cons q l ih =>
      intro m hr k o hk hne
      simp only [totS.go, Bool.and_eq_true, Bool.or_eq_true] at hr
      cases k with
      | zero =>
        simp at hk; subst hk
        rcases hr.1 with ((((h | h) | h) | h) | h) | h
        · exact absurd (Nat.eq_of_beq_eq_true h) hne
        · exact .inl h
        · exact .inr (.inl h)
        · exact .inr (.inr (.inl h))
        · exact .inr (.inr (.inr (.inl h)))
        · exact .inr (.inr (.inr (.inr h)))
      | succ k =>
        have := ih (m + 1) hr.2 k o (by simpa using hk) (by omega)
        rwa [show m + 1 + k = m + (k + 1) by omega] at this
  intro j o ho hne
  have := key _ 0 h j o ho (by omega)
  simpa using this
theorem avoidU_spec {ops : List Oper} {b : Array Nat} {t0 : Nat → V} {i : Nat} {u : Upd} (h : avoidU ops b t0 i u = true) : ∀ (j : Nat) (o : Oper), ops[j]? = some o → i ≠ j → loadOp o.op = true → bitB b i j = false → bitB b j i = false → ∀ r, opRoot ops t0 o.op = some r → notIn r u = true := by
  have key : ∀ (l : List Oper) (m : Nat), avoidU.go ops b t0 i u l m = true → ∀ k o, l[k]? = some o → i ≠ m + k → loadOp o.op = true → bitB b i (m + k) = false → bitB b (m + k) i = false → ∀ r, opRoot ops t0 o.op = some r → notIn r u = true := by
    intro l
    induction l with
    | nil => intro m _ k o hk; simp at hk
    | cons q l ih =>
      intro m hr k o hk hne hl h1 h2 r hroot
      simp only [avoidU.go, Bool.and_eq_true, Bool.or_eq_true] at hr
      cases k with
      | zero =>
        simp at hk; subst hk
        have h1 : bitB b i m = false := h1
        have h2 : bitB b m i = false := h2
        rcases hr.1 with (((h | h) | h) | h) | h
        · rw [hl] at h; cases h
        · exact absurd (Nat.eq_of_beq_eq_true h) hne
        · rw [h1] at h; cases h
        · rw [h2] at h; cases h
        · rw [hroot] at h; exact h
      | succ k =>
        have e : m + 1 + k = m + (k + 1) := by omega
        exact ih (m + 1) hr.2 k o (by simpa using hk) (by omega) hl (by rw [e]; exact h1) (by rw [e]; exact h2) r hroot
  intro j o ho hne hl h1 h2
  exact key _ 0 h j o ho (by omega) hl (by simpa using h1) (by simpa using h2)
noncomputable def freeB (E : Env) (ops : Array Oper) (i : Nat) (o : Oper) : Bool := pureOp E.P o.op || totB E.P (calmOp E) ops.toList (Region.before ops) i (calmOp E o.op) (isQ E o.op)
noncomputable def semiB (E : Env) (ops : Array Oper) (i : Nat) (o : Oper) : Bool := !quietOp o.op && !isQ E o.op && totL E.P ops.toList (Region.before ops) i (oneCall E.C o.op) (appA o)
noncomputable def stoB (E : Env) (ops : Array Oper) (t0 : Nat → V) (i : Nat) (o : Oper) : Bool := sOp E o.op && totS E.P ops.toList (Region.before ops) t0 i (storeOp o.op)
noncomputable def limOf (E : Env) (ops : Array Oper) (l0 : Nat) (t0 : Nat → V) (i : Nat) (o : Oper) : Option Nat := bif freeB E ops i o then none else bif stoB E ops t0 i o then none else bif semiB E ops i o then none else some l0
noncomputable def qaB (E : Env) (ops : Array Oper) (i : Nat) (o : Oper) : Bool := quietOp o.op && (appU ops.toList (Region.before ops) i || stoU E ops.toList (Region.before ops) i)
noncomputable def chkOf (E : Env) (ops : Array Oper) (l0 : Nat) (t0 : Nat → V) (i : Nat) (o : Oper) (st : St) (u : Upd) : Bool := bif freeB E ops i o then true else bif stoB E ops t0 i o then chkU (some (sChk ops.toList (Region.before ops) t0 i l0 (semiB E ops i o) o.op)) l0 o.op u else bif semiB E ops i o then semiU l0 o.op u else bif qaB E ops i o then qChk E ops.toList (Region.before ops) t0 i st o.op else true
theorem appU_spec {ops : List Oper} {b : Array Nat} {i j : Nat} {o : Oper} (hj : ops[j]? = some o) (ha : appOp o.op = true) (hne : i ≠ j) (h1 : bitB b i j = false) (h2 : bitB b j i = false) : appU ops b i = true := by
  have key : ∀ (l : List Oper) (m k : Nat), l[k]? = some o → m + k = j → appU.go b i l m = true := by
    intro l
    induction l with
    | nil => intro m k hk; simp at hk
    | cons q l ih =>
      intro m k hk he
      simp only [appU.go, Bool.or_eq_true]
      cases k with
      | zero =>
        simp at hk; subst hk
        have he : m = j := by omega
        subst he
        refine .inl ?_
        have hb : Nat.beq i m = false := by
          cases hb : Nat.beq i m
          · rfl
          · exact absurd (Nat.eq_of_beq_eq_true hb) hne
        simp [ha, h1, h2, hb]
      | succ k => exact .inr (ih (m + 1) k (by simpa using hk) (by omega))
  exact key ops 0 j hj (by omega)
theorem qOk_put {ops : Array Oper} {x y : Oper} {st : St} {v : V} {u : Upd} (h : ∀ d, x.dst = some d → d ∉ y.looksAt ops) (hq : quietOp y.op = true) : qOk (st.put x.dst v u) y.op = qOk st y.op := by
  have e : ∀ z ∈ y.op.operands, (st.put x.dst v u).ev z = st.ev z := by
    intro z hz
    unfold St.put
    cases hx : x.dst with
    | none => cases z <;> rfl
    | some d =>
      cases z with
      | tmp t =>
        show updT st.tmp d v t = st.tmp t
        refine updT_ne _ _ fun e => ?_
        subst e
        exact h _ hx (List.mem_append_left _ (List.mem_filterMap.2 ⟨.tmp t, by simpa using hz, rfl⟩))
      | _ => rfl
  obtain ⟨dst, op, type, pos, after, guard⟩ := y
  cases op <;> first | (cases hq; done) | skip
  case load t x => simp only [qOk]; rw [e x (by simp [Op.operands])]
  case indexAddr t x i => simp only [qOk]; rw [e x (by simp [Op.operands])]
  case call c =>
    simp only [qOk]
    split
    · rename_i x hx
      rw [e x (by
        have hm : x ∈ c.args := by rw [← Array.mem_toList_iff, hx]; simp
        simp [Op.operands, Call.operands, hm])]
    · rfl
theorem rOk_put {ops : Array Oper} {x y : Oper} {ol : List Oper} {t0 : Nat → V} {st : St} {v : V} {u : Upd} (h : ∀ d, x.dst = some d → d ∉ y.looksAt ops) : rOk ol t0 (st.put x.dst v u) y.op = rOk ol t0 st y.op := by
  have e : ∀ z ∈ y.op.operands, (st.put x.dst v u).ev z = st.ev z := by
    intro z hz
    unfold St.put
    cases hx : x.dst with
    | none => cases z <;> rfl
    | some d =>
      cases z with
      | tmp t =>
        show updT st.tmp d v t = st.tmp t
        refine updT_ne _ _ fun e => ?_
        subst e
        exact h _ hx (List.mem_append_left _ (List.mem_filterMap.2 ⟨.tmp t, by simpa using hz, rfl⟩))
      | _ => rfl
  obtain ⟨dst, op, type, pos, after, guard⟩ := y
  cases op <;> first | rfl | skip
  case load t z => simp only [rOk]; rw [e z (by simp [Op.operands])]
theorem chkOf_put {ops : Array Oper} {l0 : Nat} {t0 : Nat → V} {i : Nat} {x y : Oper} {st : St} {v : V} {u uy : Upd} (h : ∀ d, x.dst = some d → d ∉ y.looksAt ops) : chkOf E ops l0 t0 i y (st.put x.dst v u) uy = chkOf E ops l0 t0 i y st uy := by
  unfold chkOf
  cases hq : qaB E ops i y
  · rfl
  · have h2 : quietOp y.op = true := by unfold qaB at hq; exact ((Bool.and_eq_true _ _).mp hq).1
    unfold qChk
    rw [qOk_put h h2, rOk_put h]
theorem stoU_spec {ops : List Oper} {b : Array Nat} {i j : Nat} {o : Oper} (hj : ops[j]? = some o) (ha : sOp E o.op = true) (hne : i ≠ j) (h1 : bitB b i j = false) (h2 : bitB b j i = false) : stoU E ops b i = true := by
  have key : ∀ (l : List Oper) (m k : Nat), l[k]? = some o → m + k = j → stoU.go E b i l m = true := by
    intro l
    induction l with
    | nil => intro m k hk; simp at hk
    | cons q l ih =>
      intro m k hk he
      simp only [stoU.go, Bool.or_eq_true]
      cases k with
      | zero =>
        simp at hk; subst hk
        have he : m = j := by omega
        subst he
        refine .inl ?_
        have hb : Nat.beq i m = false := by
          cases hb : Nat.beq i m
          · rfl
          · exact absurd (Nat.eq_of_beq_eq_true hb) hne
        simp [ha, h1, h2, hb]
      | succ k => exact .inr (ih (m + 1) k (by simpa using hk) (by omega))
  exact key ops 0 j hj (by omega)
theorem rOk_at {ops : List Oper} {t0 : Nat → V} {st : St} {o : Op} {b : Nat} (hl : loadOp o = true) (hb : opRoot ops t0 o = some b) (h : rOk ops t0 st o = true) : ldAt st o b := by
  cases o <;> first | (cases hl; done) | skip
  case load t y =>
    simp only [rOk, hb] at h
    refine ⟨t, y, rfl, fun id off e => ?_, fun id i off e => ?_⟩
    · rw [e] at h
      exact Nat.eq_of_beq_eq_true h
    · rw [e] at h
      cases h
noncomputable def runL (E : Env) (ops : Array Oper) (l0 : Nat) (t0 : Nat → V) : List Nat → St → Option St
  | [], st => some st
  | i :: is, st => match ops[i]? with
    | some o => (stepA E ops (limOf E ops l0 t0 i o) o st).bind fun p => bif chkOf E ops l0 t0 i o st p.2 then runL E ops l0 t0 is (st.put o.dst p.1 p.2) else none
    | none => none
theorem opsK_run {R : Type} {ops : Array Oper} {l0 : Nat} {t0 : Nat → V} {K : St → Option R} : ∀ (l : List Oper) (i : Nat) (st : St), (∀ k, l[k]? = ops[i + k]?) →
    opsK E ops true (Region.before ops) l0 t0 l i st K = (runL E ops l0 t0 (List.range' i l.length) st).bind K
  | [], i, st, _ => rfl
  | o :: l, i, st, h => by
    have hi : ops[i]? = some o := by simpa using (h 0).symm
    simp only [opsK, List.length_cons, List.range'_succ, runL, hi]
    have ih := fun st' => opsK_run (l0 := l0) (t0 := t0) (K := K) l (i + 1) st' fun k => by have := h (k + 1); simpa [Nat.add_assoc, Nat.add_comm 1 k] using this
    unfold limOf chkOf
    have ef : (!true || pureOp E.P o.op || totB E.P (calmOp E) ops.toList (Region.before ops) i (calmOp E o.op) (isQ E o.op)) = freeB E ops i o := by unfold freeB; simp
    have es : (!quietOp o.op && !isQ E o.op && totL E.P ops.toList (Region.before ops) i (oneCall E.C o.op) (appA o)) = semiB E ops i o := rfl
    have et : (sOp E o.op && totS E.P ops.toList (Region.before ops) t0 i (storeOp o.op)) = stoB E ops t0 i o := rfl
    rw [ef, es, et]
    cases freeB E ops i o
    · cases stoB E ops t0 i o
      · cases semiB E ops i o
        · simp only [cond_false, cond_true]
          have eq : (quietOp o.op && (appU ops.toList (Region.before ops) i || stoU E ops.toList (Region.before ops) i)) = qaB E ops i o := rfl
          rw [eq]
          cases qaB E ops i o
          · simp only [cond_false, cond_true]
            rw [stepK_eq, Option.bind_assoc]
            congr 1
            funext p
            exact ih _
          · simp only [cond_true]
            cases qChk E ops.toList (Region.before ops) t0 i st o.op
            · simp only [cond_false]
              cases stepA E ops (some l0) o st <;> rfl
            · simp only [cond_true]
              rw [stepK_eq, Option.bind_assoc]
              congr 1
              funext p
              exact ih _
        · simp only [cond_false, cond_true]
          rw [stepC_eq, Option.bind_assoc]
          congr 1
          funext p
          rw [chkU_none]
          cases semiU l0 o.op p.2
          · rfl
          · exact ih _
      · simp only [cond_false, cond_true]
        rw [stepC_eq, Option.bind_assoc]
        congr 1
        funext p
        cases chkU (some (sChk ops.toList (Region.before ops) t0 i l0 (semiB E ops i o) o.op)) l0 o.op p.2
        · rfl
        · exact ih _
    · simp only [cond_true]
      rw [stepK_eq, Option.bind_assoc]
      congr 1
      funext p
      exact ih _
theorem put_ep (st : St) (d : Option Nat) (v : V) (u : Upd) : (st.put d v u).ep = st.ep := by cases d <;> rfl
theorem put_n (st : St) (d : Option Nat) (v : V) (u : Upd) : (st.put d v u).n = st.n := by cases d <;> rfl
theorem lim_case {ops : Array Oper} {l0 : Nat} {t0 : Nat → V} {p i : Nat} {x o : Oper} {ux uo : Upd} (hop : ops[p]? = some x) (hi : ops[i]? = some o) (hlt : p < i) (hb1 : bitB (Region.before ops) i p = false) (hb2 : bitB (Region.before ops) p i = false)
    {st : St} (cx : chkOf E ops l0 t0 p x st ux = true) (co : chkOf E ops l0 t0 i o st uo = true) :
    pureOp E.P x.op = true ∨ pureOp E.P o.op = true ∨ (limOf E ops l0 t0 p x = some l0 ∧ limOf E ops l0 t0 i o = some l0) ∨ (quietOp x.op = true ∧ limOf E ops l0 t0 p x = some l0 ∧ limOf E ops l0 t0 i o = none ∧ semiU l0 o.op uo = true ∧ (appOp o.op = true → qOk st x.op = true) ∧ isQ E o.op = false) ∨ (quietOp o.op = true ∧ limOf E ops l0 t0 i o = some l0 ∧ limOf E ops l0 t0 p x = none ∧ semiU l0 x.op ux = true ∧ (appOp x.op = true → qOk st o.op = true) ∧ isQ E x.op = false) ∨ (oneCall E.C x.op = true ∧ limOf E ops l0 t0 p x = none ∧ allocOp o.op = true ∧ isQ E x.op = false) ∨ (calmOp E x.op = true ∧ calmOp E o.op = true) ∨ (isQ E x.op = true ∧ smallA o = true) ∨ (appA x = true ∧ isQ E x.op = false ∧ limOf E ops l0 t0 p x = none ∧ rowOp o.op = true ∧ limOf E ops l0 t0 i o = some l0) ∨ (rowLook x.op = true ∧ limOf E ops l0 t0 p x = some l0 ∧ storeOp o.op = true ∧ limOf E ops l0 t0 i o = none ∧ boxU uo = true) ∨ (storeOp x.op = true ∧ limOf E ops l0 t0 p x = none ∧ boxU ux = true ∧ rowLook o.op = true ∧ limOf E ops l0 t0 i o = some l0) ∨ (∃ a, (∀ p ∈ uo, p.1 ≠ a) ∧ ldAt st x.op a) ∨ (∃ a, (∀ p ∈ ux, p.1 ≠ a) ∧ ldAt st o.op a) := by
  have hne : p ≠ i := Nat.ne_of_lt hlt
  cases hpx : pureOp E.P x.op
  rotate_left
  · exact .inl rfl
  cases hpo : pureOp E.P o.op
  rotate_left
  · exact .inr (.inl rfl)
  by_cases hqq : calmOp E x.op = true ∧ calmOp E o.op = true
  · exact .inr (.inr (.inr (.inr (.inr (.inr (.inl hqq))))))
  by_cases hqa : isQ E x.op = true ∧ smallA o = true
  · exact .inr (.inr (.inr (.inr (.inr (.inr (.inr (.inl hqa)))))))
  have fx : freeB E ops p x = false := by
    unfold freeB
    rw [hpx]
    cases ht : totB E.P (calmOp E) ops.toList (Region.before ops) p (calmOp E x.op) (isQ E x.op)
    · rfl
    · rcases totB_spec ht i o (by simpa using hi) hne with h | h | h | h | h
      · rw [hpo] at h; cases h
      · exact absurd h hqq
      · exact absurd ⟨h.1, h.2.1⟩ hqa
      · rw [hb2] at h; cases h
      · rw [hb1] at h; cases h
  have fo : freeB E ops i o = false := by
    unfold freeB
    rw [hpo]
    cases ht : totB E.P (calmOp E) ops.toList (Region.before ops) i (calmOp E o.op) (isQ E o.op)
    · rfl
    · rcases totB_spec ht p x (by simpa using hop) (Ne.symm hne) with h | h | h | h | h
      · rw [hpx] at h; cases h
      · exact absurd ⟨h.2, h.1⟩ hqq
      · exact absurd h.2.2 (by omega)
      · rw [hb1] at h; cases h
      · rw [hb2] at h; cases h
  have nq : ∀ {j : Nat} {y : Oper}, semiB E ops j y = true → isQ E y.op = false := by
    intro j y h
    unfold semiB at h
    rw [Bool.and_eq_true, Bool.and_eq_true] at h
    simpa using h.1.2
  have sx : semiB E ops p x = true → (quietOp o.op = true ∧ quietOp x.op = false) ∨ (oneCall E.C x.op = true ∧ allocOp o.op = true) ∨ (appA x = true ∧ rowOp o.op = true) := by
    intro h
    unfold semiB at h
    rw [Bool.and_eq_true, Bool.and_eq_true] at h
    rcases totL_spec h.2 i o (by simpa using hi) hne with h' | h' | h' | h' | h' | h'
    · rw [hpo] at h'; cases h'
    · exact .inl ⟨h', by simpa using h.1.1⟩
    · exact .inr (.inl ⟨h'.1, h'.2.1⟩)
    · exact .inr (.inr ⟨h'.1, h'.2.1⟩)
    · rw [hb2] at h'; cases h'
    · rw [hb1] at h'; cases h'
  have so : semiB E ops i o = true → quietOp x.op = true ∧ quietOp o.op = false := by
    intro h
    unfold semiB at h
    rw [Bool.and_eq_true, Bool.and_eq_true] at h
    refine ⟨?_, by simpa using h.1.1⟩
    rcases totL_spec h.2 p x (by simpa using hop) (Ne.symm hne) with h' | h' | h' | h' | h' | h'
    · rw [hpx] at h'; cases h'
    · exact h'
    · omega
    · omega
    · rw [hb1] at h'; cases h'
    · rw [hb2] at h'; cases h'
  have ssx : stoB E ops t0 p x = true → ((storeOp x.op = true ∧ rowLook o.op = true) ∨ (loadOp o.op = true ∧ (opRoot ops.toList t0 o.op).isSome = true)) ∧ sOp E x.op = true := by
    intro h
    unfold stoB at h
    rw [Bool.and_eq_true] at h
    rcases totS_spec h.2 i o (by simpa using hi) hne with h' | h' | h' | h' | h'
    · rw [hpo] at h'; cases h'
    · exact ⟨.inl h', h.1⟩
    · rw [hb2] at h'; cases h'
    · rw [hb1] at h'; cases h'
    · exact ⟨.inr h', h.1⟩
  have sso : stoB E ops t0 i o = true → ((storeOp o.op = true ∧ rowLook x.op = true) ∨ (loadOp x.op = true ∧ (opRoot ops.toList t0 x.op).isSome = true)) ∧ sOp E o.op = true := by
    intro h
    unfold stoB at h
    rw [Bool.and_eq_true] at h
    rcases totS_spec h.2 p x (by simpa using hop) (Ne.symm hne) with h' | h' | h' | h' | h'
    · rw [hpx] at h'; cases h'
    · exact ⟨.inl h', h.1⟩
    · rw [hb1] at h'; cases h'
    · rw [hb2] at h'; cases h'
    · exact ⟨.inr h', h.1⟩
  have ns : ∀ {y : Op}, sOp E y = true → quietOp y = true ∨ rowLook y = true ∨ rowOp y = true ∨ allocOp y = true → False := by
    intro y h h2
    cases y <;> first | (cases h; done) | (rcases h2 with h2 | h2 | h2 | h2 <;> cases h2; done) | skip
    rename_i c
    have h3 : isFn (.call c) = true := by
      unfold sOp at h
      rw [Bool.or_eq_true, Bool.and_eq_true] at h
      rcases h with h | h
      · cases h
      · exact h.1
    simp only [isFn, callFn] at h3
    rcases h2 with h2 | h2 | h2 | h2
    · simp only [quietOp] at h2
      split at h2
      · rename_i hc; rw [hc] at h3; cases h3
      · cases h2
    · simp only [rowLook] at h2
      split at h2
      · rename_i hc; rw [hc] at h3; cases h3
      · cases h2
    · cases h2
    · cases h2
  have kind : ∀ {j : Nat} {y : Oper} {uy : Upd}, freeB E ops j y = false → chkOf E ops l0 t0 j y st uy = true →
      (limOf E ops l0 t0 j y = none ∧ semiB E ops j y = true ∧ semiU l0 y.op uy = true) ∨ (limOf E ops l0 t0 j y = none ∧ stoB E ops t0 j y = true ∧ (storeOp y.op = true → boxU uy = true) ∧ avoidU ops.toList (Region.before ops) t0 j uy = true) ∨ (limOf E ops l0 t0 j y = some l0 ∧ (qaB E ops j y = true → qChk E ops.toList (Region.before ops) t0 j st y.op = true)) := by
    intro j y uy hf hc
    unfold limOf
    unfold chkOf at hc
    rw [hf] at hc ⊢
    cases hst : stoB E ops t0 j y
    · rw [hst] at hc
      cases hse : semiB E ops j y
      · rw [hse] at hc
        refine .inr (.inr ⟨rfl, fun hq => ?_⟩)
        rw [hq] at hc
        exact hc
      · rw [hse] at hc
        exact .inl ⟨rfl, rfl, hc⟩
    · rw [hst] at hc
      rcases chkU_some (l0 := l0) (o := y.op) hc with rfl | hc
      · refine .inr (.inl ⟨rfl, rfl, fun _ => rfl, ?_⟩)
        have key : ∀ (l : List Oper) (m : Nat), avoidU.go ops.toList (Region.before ops) t0 j [] l m = true := by
          intro l
          induction l with
          | nil => intro m; rfl
          | cons q l ih =>
            intro m
            simp only [avoidU.go, ih, Bool.and_true]
            cases opRoot ops.toList t0 q.op <;> simp [notIn]
        exact key _ _
      · unfold sChk at hc
        rw [Bool.or_eq_true, Bool.and_eq_true, Bool.and_eq_true, Bool.or_eq_true] at hc
        rcases hc with hc | hc
        · refine .inr (.inl ⟨rfl, rfl, fun hs => ?_, hc.2⟩)
          rcases hc.1 with h | h
          · rw [hs] at h; cases h
          · exact h
        · exact .inl ⟨rfl, hc.1, hc.2⟩
  have semiNq : ∀ {j : Nat} {y : Oper}, semiB E ops j y = true → quietOp y.op = true → False := by
    intro j y h h2
    unfold semiB at h
    rw [Bool.and_eq_true, Bool.and_eq_true, h2] at h
    cases h.1.1
  have sl : ∀ {y : Op}, storeOp y = true → sOp E y = true := fun h => by unfold sOp; rw [h]; rfl
  rcases kind fx cx with ⟨lx, hsx, cx⟩ | ⟨lx, htx, cx1, cx2⟩ | ⟨lx, cx⟩
  · rcases kind fo co with ⟨lo, hso, co⟩ | ⟨lo, hto, co1, co2⟩ | ⟨lo, co⟩
    · rcases sx hsx with h1 | h1 | h1
      · exact (semiNq hso h1.1).elim
      · exact .inr (.inr (.inr (.inr (.inr (.inl ⟨h1.1, lx, h1.2, nq hsx⟩)))))
      · have h2 := so hso
        have h3 := h1.1
        unfold appA at h3
        rw [Bool.and_eq_true] at h3
        have h4 := h2.1
        exfalso
        cases hxo : x.op <;> rw [hxo] at h3 h4 <;> first | (cases h3.1; done) | (cases h4; done) | skip
        simp only [appOp] at h3
        simp only [quietOp] at h4
        split at h4
        · rename_i hc; rw [hc] at h3; cases h3.1
        · cases h4
    · exfalso
      have hs := (sso hto).2
      rcases sx hsx with h1 | h1 | h1
      · exact ns hs (.inl h1.1)
      · exact ns hs (.inr (.inr (.inr h1.2)))
      · exact ns hs (.inr (.inr (.inl h1.2)))
    · rcases sx hsx with h1 | h1 | h1
      · refine .inr (.inr (.inr (.inr (.inl ⟨h1.1, lo, lx, cx, fun ha => ?_, nq hsx⟩))))
        have hap := appU_spec (ops := ops.toList) (by simpa using hop) ha (Ne.symm hne) hb1 hb2
        have co := ((Bool.and_eq_true _ _).mp (co (by unfold qaB; rw [h1.1, hap]; rfl))).1
        rw [hap] at co
        exact co
      · exact .inr (.inr (.inr (.inr (.inr (.inl ⟨h1.1, lx, h1.2, nq hsx⟩)))))
      · exact .inr (.inr (.inr (.inr (.inr (.inr (.inr (.inr (.inl ⟨h1.1, nq hsx, lx, h1.2, lo⟩))))))))
  · have toLd : ((opRoot ops.toList t0 o.op).isSome = true) → loadOp o.op = true → sOp E x.op = true → (qaB E ops i o = true → qChk E ops.toList (Region.before ops) t0 i st o.op = true) → ∃ a, (∀ p ∈ ux, p.1 ≠ a) ∧ ldAt st o.op a := by
      intro h1 h2 h3 co
      obtain ⟨a, ea⟩ := Option.isSome_iff_exists.1 h1
      have hs := stoU_spec (E := E) (ops := ops.toList) (by simpa using hop) h3 (Ne.symm hne) hb1 hb2
      have co := ((Bool.and_eq_true _ _).mp (co (by unfold qaB; rw [loadOp_quiet h2, hs, Bool.or_true]; rfl))).2
      rw [hs] at co
      exact ⟨a, notIn_mem (avoidU_spec cx2 i o (by simpa using hi) hne h2 hb2 hb1 a ea), rOk_at h2 ea co⟩
    rcases kind fo co with ⟨lo, hso, co⟩ | ⟨lo, hto, co1, co2⟩ | ⟨lo, co⟩
    · exact (ns (ssx htx).2 (.inl (so hso).1)).elim
    · exfalso
      rcases sso hto with ⟨h1 | h1, h2⟩
      · exact ns (ssx htx).2 (.inr (.inl h1.2))
      · exact ns (ssx htx).2 (.inl (loadOp_quiet h1.1))
    · rcases ssx htx with ⟨h1 | h1, h2⟩
      · exact .inr (.inr (.inr (.inr (.inr (.inr (.inr (.inr (.inr (.inr (.inl ⟨h1.1, lx, cx1 h1.1, h1.2, lo⟩))))))))))
      · exact .inr (.inr (.inr (.inr (.inr (.inr (.inr (.inr (.inr (.inr (.inr (.inr (toLd h1.2 h1.1 h2 co))))))))))))
  · have toLd : ((opRoot ops.toList t0 x.op).isSome = true) → loadOp x.op = true → sOp E o.op = true → avoidU ops.toList (Region.before ops) t0 i uo = true → ∃ a, (∀ p ∈ uo, p.1 ≠ a) ∧ ldAt st x.op a := by
      intro h1 h2 h3 co2
      obtain ⟨a, ea⟩ := Option.isSome_iff_exists.1 h1
      have hs := stoU_spec (E := E) (ops := ops.toList) (by simpa using hi) h3 hne hb2 hb1
      have cx := ((Bool.and_eq_true _ _).mp (cx (by unfold qaB; rw [loadOp_quiet h2, hs, Bool.or_true]; rfl))).2
      rw [hs] at cx
      exact ⟨a, notIn_mem (avoidU_spec co2 p x (by simpa using hop) (Ne.symm hne) h2 hb1 hb2 a ea), rOk_at h2 ea cx⟩
    rcases kind fo co with ⟨lo, hso, co⟩ | ⟨lo, hto, co1, co2⟩ | ⟨lo, co⟩
    · have hqx := (so hso).1
      refine .inr (.inr (.inr (.inl ⟨hqx, lx, lo, co, fun ha => ?_, nq hso⟩)))
      have hap := appU_spec (ops := ops.toList) (by simpa using hi) ha hne hb2 hb1
      have cx := ((Bool.and_eq_true _ _).mp (cx (by unfold qaB; rw [hqx, hap]; rfl))).1
      rw [hap] at cx
      exact cx
    · rcases sso hto with ⟨h1 | h1, h2⟩
      · exact .inr (.inr (.inr (.inr (.inr (.inr (.inr (.inr (.inr (.inl ⟨h1.2, lx, h1.1, lo, co1 h1.1⟩)))))))))
      · exact .inr (.inr (.inr (.inr (.inr (.inr (.inr (.inr (.inr (.inr (.inr (.inl (toLd h1.2 h1.1 h2 co2))))))))))))
    · exact .inr (.inr (.inl ⟨lx, lo⟩))
theorem runL_cons {ops : Array Oper} {l0 : Nat} {t0 : Nat → V} {i : Nat} {o : Oper} (hi : ops[i]? = some o) {is : List Nat} {st st' : St} : runL E ops l0 t0 (i :: is) st = some st' ↔ ∃ v u, stepA E ops (limOf E ops l0 t0 i o) o st = some (v, u) ∧ chkOf E ops l0 t0 i o st u = true ∧ runL E ops l0 t0 is (st.put o.dst v u) = some st' := by
  simp only [runL, hi]
  cases stepA E ops (limOf E ops l0 t0 i o) o st with
  | none => simp
  | some q =>
    obtain ⟨v, u⟩ := q
    simp only [Option.bind_some, Option.some.injEq, Prod.mk.injEq]
    constructor
    · intro h
      have h := cond_some h
      exact ⟨v, u, ⟨rfl, rfl⟩, h.1, h.2⟩
    · rintro ⟨_, _, ⟨rfl, rfl⟩, h, h2⟩
      rw [h]; exact h2
theorem runL_front {ops : Array Oper} (hl : lexB ops (Region.before ops) = true) {i : Nat} {o : Oper} (hi : ops[i]? = some o) (l0 : Nat) (t0 : Nat → V) (post : List Nat) (st' : St) : ∀ (pre : List Nat) (st : St), nid st.ep 0 0 = l0 → (∀ p ∈ pre, p < i ∧ bitB (Region.before ops) i p = false ∧ bitB (Region.before ops) p i = false) →
    runL E ops l0 t0 (pre ++ i :: post) st = some st' → runL E ops l0 t0 (i :: (pre ++ post)) st = some st' := by
  intro pre
  induction pre with
  | nil => intro st _ _ h; exact h
  | cons p pre ih =>
    intro st hep hp h
    rw [List.cons_append] at h
    cases hop : ops[p]? with
    | none => simp only [runL, hop] at h; cases h
    | some x =>
      obtain ⟨vx, ux, h1, cx, h⟩ := (runL_cons hop).1 h
      have ih := ih (st.put x.dst vx ux) (by rw [put_ep]; exact hep) (fun q hq => hp q (List.mem_cons_of_mem _ hq)) h
      obtain ⟨vy, uy, h2, cy, ih⟩ := (runL_cons hi).1 ih
      obtain ⟨hlt, hb1, hb2⟩ := hp p (by simp)
      have hap : x.apart ops o = true := by
        rcases (lexB_spec hl).2 p i x o hlt hop hi with h | h
        · rw [hb1] at h; cases h
        · exact h
      obtain ⟨a1, a2, a3⟩ := Oper.apart_spec hap
      have cy0 : chkOf E ops l0 t0 i o st uy = true := by rw [← chkOf_put (x := x) (v := vx) (u := ux) a1]; exact cy
      have hcase := lim_case (E := E) (l0 := l0) (t0 := t0) hop hi hlt hb1 hb2 cx cy0
      subst hep
      obtain ⟨s1, s2, s3⟩ := swap_ok hap hcase h1 h2
      refine (runL_cons hi).2 ⟨vy, uy, s1, cy0, ?_⟩
      rw [List.cons_append]
      refine (runL_cons hop).2 ⟨vx, ux, s2, by rw [chkOf_put a3]; exact cx, ?_⟩
      rw [← s3]
      exact ih
theorem before_listed {ops : Array Oper} {listed : Array Bool} (hcl : ∀ (j : Nat) (o : Oper), ops[j]? = some o → listed.getD j false = true → ∀ e ∈ o.after.toList, Region.binds .any e = true → listed.getD e.on false = true) (hin : ∀ j, listed.getD j false = true → j < ops.size) :
    ∀ (n j : Nat) (o : Oper) (p : Nat), j < n → ops[j]? = some o → (∀ e ∈ o.after.toList, Region.binds .any e = true → listed.getD e.on false = true) → bitB (Region.before ops) j p = true → listed.getD p false = true := by
  intro n
  induction n with
  | zero => intro j o p h; omega
  | succ n ih =>
    intro j o p hj ho hall hb
    obtain ⟨e, he, hbd, h⟩ := before_get ho hb
    have hle := hall e he hbd
    rcases h with rfl | ⟨hlt, h⟩
    · exact hle
    · have hlt2 := hin _ hle
      have hoe : ops[e.on]? = some ops[e.on] := Array.getElem?_eq_getElem hlt2
      exact ih e.on ops[e.on] p (by omega) hoe (hcl e.on _ hoe hle) h
theorem before_lt {ops : Array Oper} {b : Array Nat} (hl : lexB ops b = true) : ∀ (n j : Nat) (o : Oper) (p : Nat), j < n → ops[j]? = some o → bitB (Region.before ops) j p = true → p < j := by
  intro n
  induction n with
  | zero => intro j o p h; omega
  | succ n ih =>
    intro j o p hj ho hb
    obtain ⟨e, he, hbd, h⟩ := before_get ho hb
    have hlt := (lexB_spec hl).1 j o ho e he hbd
    rcases h with rfl | ⟨_, h⟩
    · exact hlt
    · have hsz : j < ops.size := (Array.getElem?_eq_some_iff.1 ho).1
      have hoe : ops[e.on]? = some (ops[e.on]'(by omega)) := Array.getElem?_eq_getElem (by omega)
      have := ih e.on _ p (by omega) hoe h
      omega
theorem getD_tf {l : Array Bool} {i : Nat} (h : i < l.size) : l.getD i true = l.getD i false := by simp [h]
theorem any_okG {Rl : St → Act → World → Prop} {ops : Array Oper} {l0 : Nat} {t0 : Nat → V} {Q : Exit → Act → World → Prop} (hstep : ∀ (i : Nat) (o : Oper) (st : St) (a : Act) (w : World) (v : V) (u : Upd), ops[i]? = some o → Rl st a w → stepA E ops (limOf E ops l0 t0 i o) o st = some (v, u) → ∀ next : Act → World → Prop, (∀ a2 w2, Rl (st.put o.dst v u) a2 w2 → next a2 w2) → wpOp E.P ops Q i next a w)
    (hl : lexB ops (Region.before ops) = true) {st' : St} (hQ : ∀ a w, Rl st' a w → Q .normal a w) :
    ∀ (fuel : Nat) (listed : Array Bool) (rem : List Nat) (st : St) (a : Act) (w : World), listed.size = ops.size → rem.length ≤ fuel → rem.Pairwise (· < ·) → (∀ j, j ∈ rem ↔ j < ops.size ∧ listed.getD j true = false) →
      (∀ (j : Nat) (o : Oper), ops[j]? = some o → listed.getD j false = true → ∀ e ∈ o.after.toList, Region.binds .any e = true → listed.getD e.on false = true) →
      Rl st a w → nid st.ep 0 0 = l0 → runL E ops l0 t0 rem st = some st' → wpAny E.P .any ops Q fuel listed a w := by
  -- nothing ready: nothing left
  have ready_nil : ∀ (listed : Array Bool) (rem : List Nat), listed.size = ops.size → rem.Pairwise (· < ·) → (∀ j, j ∈ rem ↔ j < ops.size ∧ listed.getD j true = false) → Region.ready .any ops listed = [] → rem = [] := by
    intro listed rem hsz hs hm hr
    cases rem with
    | nil => rfl
    | cons i rem =>
      exfalso
      have hi := (hm i).1 (by simp)
      have ho : ops[i]? = some ops[i] := Array.getElem?_eq_getElem hi.1
      have : i ∈ Region.ready .any ops listed := by
        rw [mem_ready]
        refine ⟨hi.2, ops[i], ho, fun e he hb => ?_⟩
        have hlt := (lexB_spec hl).1 i _ ho e (by simpa using he) hb
        have hnot : e.on ∉ i :: rem := by
          intro hin
          rcases List.mem_cons.1 hin with h | h
          · omega
          · have := (List.pairwise_cons.1 hs).1 _ h
            omega
        cases hq : listed.getD e.on true
        · exact absurd ((hm _).2 ⟨by omega, hq⟩) hnot
        · rw [← getD_tf (by omega)]; exact hq
      rw [hr] at this
      cases this
  intro fuel
  induction fuel with
  | zero =>
    intro listed rem st a w hsz hlen hs hm hcl hrel hep hrun
    have : rem = [] := List.eq_nil_of_length_eq_zero (by omega)
    subst this
    cases hrun
    refine ⟨?_, hQ a w hrel⟩
    refine List.eq_nil_iff_forall_not_mem.2 fun i hi => ?_
    rw [mem_ready] at hi
    obtain ⟨h0, o, ho, _⟩ := hi
    have := (hm i).2 ⟨(Array.getElem?_eq_some_iff.1 ho).1, h0⟩
    cases this
  | succ fuel ih =>
    intro listed rem st a w hsz hlen hs hm hcl hrel hep hrun
    refine ⟨fun hr => ?_, fun i hi => ?_⟩
    · have := ready_nil listed rem hsz hs hm hr
      subst this
      cases hrun
      exact hQ a w hrel
    · have hi' := hi
      rw [mem_ready] at hi'
      obtain ⟨h0, o, ho, hall⟩ := hi'
      have hall : ∀ e ∈ o.after.toList, Region.binds .any e = true → listed.getD e.on false = true := fun e he => hall e (by simpa using he)
      have hlt : i < ops.size := (Array.getElem?_eq_some_iff.1 ho).1
      have hmem : i ∈ rem := (hm i).2 ⟨hlt, h0⟩
      obtain ⟨pre, post, rfl⟩ := List.append_of_mem hmem
      have hs' := List.pairwise_append.1 hs
      have hpre : ∀ p ∈ pre, p < i := fun p hp => hs'.2.2 p hp i (by simp)
      have hpost : ∀ p ∈ post, i < p := fun p hp => (List.pairwise_cons.1 hs'.2.1).1 p hp
      have hfr := runL_front hl ho l0 t0 post st' pre st hep (fun p hp => by
        have hlp := hpre p hp
        have hpm := (hm p).1 (List.mem_append_left _ hp)
        refine ⟨hlp, ?_, ?_⟩
        · cases hb : bitB (Region.before ops) i p
          · rfl
          · have := before_listed hcl (fun j hj => by
              rcases Nat.lt_or_ge j ops.size with h | h
              · exact h
              · simp [Array.getElem?_eq_none (show listed.size ≤ j by omega)] at hj) (i + 1) i o p (by omega) ho hall hb
            rw [← getD_tf (by omega), hpm.2] at this
            cases this
        · cases hb : bitB (Region.before ops) p i
          · rfl
          · have := before_lt hl (p + 1) p _ i (by omega) (Array.getElem?_eq_getElem hpm.1) hb
            omega) hrun
      obtain ⟨v, u, h1, _, hfr⟩ := (runL_cons ho).1 hfr
      refine hstep i o st a w v u ho hrel h1 _ ?_
      · intro a2 w2 hr2
        have hset : ∀ j, (listed.setIfInBounds i true).getD j true = false ↔ j ≠ i ∧ listed.getD j true = false := by
          intro j
          by_cases hj : i = j
          · subst hj; simp [show i < listed.size by omega]
          · rw [getD_set_ne true hj]; simp [Ne.symm hj]
        refine ih (listed.setIfInBounds i true) (pre ++ post) _ a2 w2 (by simpa using hsz) (by simp at hlen ⊢; omega) ?_ (fun j => ?_) ?_ hr2 (by rw [put_ep]; exact hep) ?_
        · exact List.pairwise_append.2 ⟨hs'.1, (List.pairwise_cons.1 hs'.2.1).2, fun p hp q hq => hs'.2.2 p hp q (List.mem_cons_of_mem _ hq)⟩
        · rw [hset]
          constructor
          · intro hj
            have h3 : j ≠ i := by
              rcases List.mem_append.1 hj with h | h
              · have := hpre j h; omega
              · have := hpost j h; omega
            have h4 := (hm j).1 (by rcases List.mem_append.1 hj with h | h <;> simp [h])
            exact ⟨h4.1, h3, h4.2⟩
          · rintro ⟨h3, h4, h5⟩
            have := (hm j).2 ⟨h3, h5⟩
            rcases List.mem_append.1 this with h | h
            · exact List.mem_append_left _ h
            · rcases List.mem_cons.1 h with h | h
              · exact absurd h h4
              · exact List.mem_append_right _ h
        · intro j oj hj hlj e he hb
          by_cases hji : j = i
          · subst hji
            rw [ho] at hj
            cases hj
            exact getD_set_true (hall e he hb)
          · rw [getD_set_ne false (Ne.symm hji)] at hlj
            exact getD_set_true (hcl j oj hj hlj e he hb)
        · exact hfr
theorem any_ok [Dr] (hE : EnvOK E) {ops : Array Oper} {t0 : Nat → V} (hl : lexB ops (Region.before ops) = true) {st' : St} {Q : Exit → Act → World → Prop} (hQ : ∀ a w, Rel W0 O st' a w → Q .normal a w) :
    ∀ (fuel : Nat) (listed : Array Bool) (rem : List Nat) (st : St) (a : Act) (w : World), listed.size = ops.size → rem.length ≤ fuel → rem.Pairwise (· < ·) → (∀ j, j ∈ rem ↔ j < ops.size ∧ listed.getD j true = false) →
      (∀ (j : Nat) (o : Oper), ops[j]? = some o → listed.getD j false = true → ∀ e ∈ o.after.toList, Region.binds .any e = true → listed.getD e.on false = true) →
      Rel W0 O st a w → st.n.gl = E.G → runL E ops (nid st.ep 0 0) t0 rem st = some st' → wpAny E.P .any ops Q fuel listed a w := by
  intro fuel listed rem st a w h1 h2 h3 h4 h5 hr hG hrun
  generalize hl0 : nid st.ep 0 0 = l0 at *
  refine any_okG (Rl := fun st a w => Rel W0 O st a w ∧ st.n.gl = E.G) (l0 := l0) (t0 := t0) (fun i o st a w v u ho hrel h1 next hn => ?_) hl (fun a w h => hQ a w h.1) fuel listed rem st a w h1 h2 h3 h4 h5 ⟨hr, hG⟩ hl0 hrun
  refine step_ok hE hrel.2 (K := fun s => some s) (res := st.put o.dst v u) (lim := limOf E ops l0 t0 i o) ho hrel.1 ?_ ?_
  · rw [stepK_eq, h1]
    rfl
  · intro st2 a2 w2 hr2 hn2 hk2
    cases hk2
    exact hn a2 w2 ⟨hr2, by rw [put_n]; exact hrel.2⟩
theorem draw_ok [Dr] {R : Type} {t0 : Nat → V} (hE : EnvOK E) (hm : E.P.follows .mixedOrders = true) {id : Nat} {ops : Array Oper} {K : St → Option R} {res : R} {Q : Exit → Act → World → Prop} {n : Fr} (hG : n.gl = E.G)
    (hQ : ∀ st' a' w', Rel W0 O st' a' w' → st'.n = n → K st' = some res → Q .normal a' w') {a : Act} {w : World} (r : Rel W0 O st a w) (hn : st.n = n) (hl : lexB ops (Region.before ops) = true)
    (hk : opsK E ops true (Region.before ops) (nid st.ep 0 0) t0 ops.toList 0 st K = some res) : (Code.region id ops true).wp E.P Q a w := by
  rw [opsK_run ops.toList 0 st (fun k => by simp)] at hk
  cases hrun : runL E ops (nid st.ep 0 0) t0 (List.range' 0 ops.toList.length) st with
  | none => rw [hrun] at hk; cases hk
  | some st' =>
    rw [hrun] at hk
    simp only [Option.bind_some] at hk
    have hn' : st'.n = n := by
      have key : ∀ (l : List Nat) (st : St), runL E ops (nid st.ep 0 0) t0 l st = some st' → True := fun _ _ _ => trivial
      have key2 : ∀ (l : List Nat) (l0 : Nat) (s : St), runL E ops l0 t0 l s = some st' → st'.n = s.n := by
        intro l
        induction l with
        | nil => intro l0 s h; cases h; rfl
        | cons i l ih =>
          intro l0 s h
          cases hop : ops[i]? with
          | none => simp only [runL, hop] at h; cases h
          | some x =>
            obtain ⟨v, u, _, _, h⟩ := (runL_cons hop).1 h
            rw [ih _ _ h, put_n]
      rw [key2 _ _ _ hrun, hn]
    refine wp_region_any hm ?_
    have r' : Rel W0 O st a { w with drawn := w.drawn + 1 } := by
      obtain ⟨μ, r⟩ := r
      have hb : BelowD w.heap.size w { w with drawn := w.drawn + 1 } := ⟨⟨rfl, rfl, rfl, Nat.le_refl _, fun _ _ => rfl⟩, fun _ => Nat.le_succ _⟩
      exact ⟨μ, (r.world hb).2⟩
    refine any_ok hE hl (st' := st') (fun a' w' hr' => hQ st' a' w' hr' hn' hk) ops.size (Array.replicate ops.size false) (List.range' 0 ops.toList.length) st a _ (by simp) (by simp) ?_ (fun j => ?_) (fun j o hj h => ?_) r' (by rw [hn]; exact hG) hrun
    · exact List.pairwise_lt_range'
    · simp only [List.mem_range', Array.length_toList]
      constructor
      · rintro ⟨k, hk, rfl⟩
        exact ⟨by omega, by simp [show k < ops.size by omega]⟩
      · rintro ⟨h, _⟩
        exact ⟨j, h, by omega⟩
    · rcases Nat.lt_or_ge j ops.size with h' | h' <;> simp [h'] at h
end
end Go.VM
