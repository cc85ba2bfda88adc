import Derived.Test.YticbohfmkiafiaaVM14
namespace Go.VM
open Go.RowKit
section
variable {W0 : World} {O : Out} {E : Env} {st : St} {o : Oper} {v : V} {u : Upd} {lim : Option Nat}
theorem ev_heap (st : St) (h : Heap) (x : Operand) : ({ st with heap := h } : St).ev x = st.ev x := by cases x <;> rfl
theorem evs_heap (st : St) (h : Heap) : ∀ l : List Operand, evs ({ st with heap := h } : St) l = evs st l
  | [] => rfl
  | x :: l => by simp only [evs, ev_heap, evs_heap st h l]
theorem evPs_heap (st : St) (h : Heap) : ∀ l : List (Nat × Operand), evPs ({ st with heap := h } : St) l = evPs st l
  | [] => rfl
  | (i, x) :: l => by simp only [evPs, ev_heap, evPs_heap st h l]
theorem ev_heap' (st : St) (h : Heap) : ({ st with heap := h } : St).ev = st.ev := funext (ev_heap st h)
theorem evs_congr {st st' : St} : ∀ {l : List Operand}, (∀ x ∈ l, st'.ev x = st.ev x) → evs st' l = evs st l
  | [], _ => rfl
  | x :: l, h => by simp only [evs, h x (by simp), evs_congr (fun y hy => h y (List.mem_cons_of_mem _ hy))]
theorem evPs_congr {st st' : St} : ∀ {l : List (Nat × Operand)}, (∀ x ∈ l.map (·.2), st'.ev x = st.ev x) → evPs st' l = evPs st l
  | [], _ => rfl
  | (i, x) :: l, h => by simp only [evPs, h x (by simp), evPs_congr (fun y hy => h y (by simp only [List.map_cons]; exact List.mem_cons_of_mem _ hy))]
theorem aop_congr {tmp : Nat → V} (h : ∀ x ∈ o.op.operands, ({ st with tmp := tmp } : St).ev x = st.ev x) : aop E { st with tmp := tmp } lim o = aop E st lim o := by
  obtain ⟨dst, op, type, pos, after, guard⟩ := o
  cases op <;> simp only [Op.operands] at h <;> simp only [aop, opK]
  case build t ps => rw [evPs_congr (l := ps.toList) fun x hx => h x (by simpa using hx)]
  case buildSlice t n ps => rw [evPs_congr (l := ps.toList) fun x hx => h x (by simpa using hx)]
  case call c =>
    have ha : evs ({ st with tmp := tmp } : St) c.args.toList = evs st c.args.toList := evs_congr fun x hx => h x (by simp only [Call.operands]; exact Array.mem_append.2 (.inr (by simpa using hx)))
    have hargs : ∀ x, x ∈ c.args.toList → ({ st with tmp := tmp } : St).ev x = st.ev x := fun x hx => h x (by simp only [Call.operands]; exact Array.mem_append.2 (.inr (by simpa using hx)))
    cases hqc : qOf E c with
    | some q => simp only [ha]
    | none =>
    simp only
    cases hc : c.callee with
    | value f =>
      have hf : ({ st with tmp := tmp } : St).ev f = st.ev f := h f (by simp [Call.operands, hc])
      simp only [hf, ha]
    | invoke r m => rfl
    | builtin b =>
      cases b <;> simp only [ha] <;> first | rfl | skip
      all_goals
        split
        · rename_i h2
          rw [h2] at hargs
          simp [hargs]
        · rfl
  case makeFunc fn fs cs =>
    rw [evs_congr (l := fs.toList) fun x hx => h x (Array.mem_append.2 (.inl (by simpa using hx))), evs_congr (l := cs.toList) fun x hx => h x (Array.mem_append.2 (.inr (by simpa using hx)))]
  case slice t x lo hi mx => cases lo <;> cases hi <;> cases mx <;> simp_all
  all_goals (first | rfl | (simp_all; done))
theorem binK_pure {P : Program} {h h' : Heap} {op : BinOp} {t : TypeId} {x y : V} {v : V} (hp : ∀ e, P.underlying t ≠ some (.slice e)) (hk : binK P h op t x y some = some v) : binK P h' op t x y some = some v := by
  unfold binK at hk ⊢
  split at hk
  · unfold binC at hk ⊢
    split at hk
    · exact hk
    · split at hk
      · rename_i hu; exact absurd hu (hp _)
      · rename_i hu; exact absurd hu (hp _)
      · cases hk
    · exact hk
    · cases hk
  · exact hk
  · cases hk
theorem bindp {x : Option V} {v : V} {u : Upd} (h : x.bind (fun v => mkp v ([] : Upd)) = some (v, u)) : x = some v ∧ u = [] := by
  cases x with
  | none => cases h
  | some y => simp only [Option.bind_some, mkp, Option.some.injEq, Prod.mk.injEq] at h; exact ⟨by rw [h.1], h.2.symm⟩
theorem aop_pure (hp : pureOp E.P o.op = true) (hk : aop E st lim o = some (v, u)) : u = [] ∧ ∀ h', aop E { st with heap := h' } lim o = some (v, u) := by
  obtain ⟨dst, op, type, pos, after, guard⟩ := o
  simp only [aop] at hk ⊢
  cases op <;> simp only [pureOp] at hp <;> first | cases hp | skip
  all_goals simp only [opK, ev_heap, ev_heap', evPs_heap, evs_heap] at hk ⊢
  case move => simp only [mkp, Option.some.injEq, Prod.mk.injEq] at hk ⊢; obtain ⟨rfl, rfl⟩ := hk; exact ⟨rfl, fun _ => ⟨rfl, rfl⟩⟩
  case assign => simp only [mkp, Option.some.injEq, Prod.mk.injEq] at hk ⊢; obtain ⟨rfl, rfl⟩ := hk; exact ⟨rfl, fun _ => ⟨rfl, rfl⟩⟩
  case pick =>
    refine ⟨?_, fun _ => hk⟩
    have two : ∀ (b : Bool) (x y : V), (bif b then mkp x ([] : Upd) else mkp y []) = some (v, u) → u = [] := by
      intro b x y hb
      cases b <;> simp only [cond_true, cond_false, mkp, Option.some.injEq, Prod.mk.injEq] at hb <;> exact hb.2.symm
    split at hk
    · split at hk
      · simp only [mkp, Option.some.injEq, Prod.mk.injEq] at hk; exact hk.2.symm
      · exact two _ _ _ hk
    · cases hk
  case build => rw [opBuild_nat] at hk; exact ⟨(bindp hk).2, fun _ => by rw [opBuild_nat]; exact hk⟩
  case nilCheck =>
    refine ⟨?_, fun _ => hk⟩
    split at hk
    · simp only [mkp, Option.some.injEq, Prod.mk.injEq] at hk; exact hk.2.symm
    · simp only [mkp, Option.some.injEq, Prod.mk.injEq] at hk; exact hk.2.symm
    · simp only [mkp, Option.some.injEq, Prod.mk.injEq] at hk; exact hk.2.symm
    · cases hk
  case unOp => rw [unK_nat] at hk; exact ⟨(bindp hk).2, fun _ => by rw [unK_nat]; exact hk⟩
  case fieldAddr => rw [opFieldAddr_nat] at hk; exact ⟨(bindp hk).2, fun _ => by rw [opFieldAddr_nat]; exact hk⟩
  case field => rw [opField_nat] at hk; exact ⟨(bindp hk).2, fun _ => by rw [opField_nat]; exact hk⟩
  case index => rw [opIndex_nat] at hk; exact ⟨(bindp hk).2, fun _ => by rw [opIndex_nat]; exact hk⟩
  case extract => rw [opExtract_nat] at hk; exact ⟨(bindp hk).2, fun _ => by rw [opExtract_nat]; exact hk⟩
  case convert src dst x =>
    have hs : isSliceT E.P src = false := by simpa [pureOp] using hp
    rw [hs] at hk ⊢
    simp only [cond_false] at hk ⊢
    rw [convK_nat] at hk; exact ⟨(bindp hk).2, fun _ => by rw [convK_nat]; exact hk⟩
  case makeFunc => rw [opMakeFunc_nat] at hk; exact ⟨(bindp hk).2, fun _ => by rw [opMakeFunc_nat]; exact hk⟩
  case binOp op t x y _ =>
    cases hny : isNilI y
    rotate_left
    · rw [hny] at hk
      simp only [cond_true] at hk ⊢
      rw [errK_nat] at hk
      exact ⟨(bindp hk).2, fun _ => by rw [errK_nat]; exact hk⟩
    rw [hny] at hk
    simp only [cond_false] at hk ⊢
    rw [binK_nat] at hk
    obtain ⟨h1, rfl⟩ := bindp hk
    refine ⟨rfl, fun h' => ?_⟩
    rw [binK_nat, binK_pure (h' := rdH h' lim) (fun e he => by rw [he] at hp; cases hp) h1]
    rfl
  case indexAddr t x i =>
    rw [opIndexAddr_nat] at hk
    obtain ⟨h1, rfl⟩ := bindp hk
    refine ⟨rfl, fun h' => ?_⟩
    rw [opIndexAddr_nat]
    split at hp
    · rename_i n e hu
      have : opIndexAddr E.P h' lim t (st.ev x) (st.ev i) some = opIndexAddr E.P st.heap lim t (st.ev x) (st.ev i) some := by
        unfold opIndexAddr
        simp only [hu]
      rw [this, h1]
      rfl
    · cases hp
  case call c =>
    split at hp
    · rename_i hc
      have hqc : qOf E c = none := by unfold qOf; rw [hc]
      rw [hqc] at hk ⊢
      rw [hc] at hk
      simp only at hk
      refine ⟨?_, fun _ => by rw [hc]; exact hk⟩
      split at hk
      · simp only [mkp, Option.some.injEq, Prod.mk.injEq] at hk; exact hk.2.symm
      · cases hk
    · rename_i hc
      have hqc : qOf E c = none := by unfold qOf; rw [hc]
      rw [hqc] at hk ⊢
      rw [hc] at hk
      simp only at hk
      refine ⟨?_, fun _ => by rw [hc]; exact hk⟩
      split at hk
      · simp only [mkp, Option.some.injEq, Prod.mk.injEq] at hk; exact hk.2.symm
      · cases hk
    · cases hp
theorem takeMk_frame {h h' : Heap} {t : Ty} {cs : List C} {x : (Ty.sl t).den} {r : List C} {l : List Nat} (hi : takeMk h t cs = some (x, r, l)) (hl : ∀ i ∈ l, h' i = h i) : takeMk h' t cs = some (x, r, l) := by
  unfold takeMk at hi ⊢
  split at hi
  · exact hi
  · exact hi
  · rename_i v id r'
    split at hi
    · rename_i u xs fz hb
      split at hi
      · rename_i y hy
        obtain ⟨hc, hi2⟩ : (v.mk || nilB (α := v.den) y) = false ∧ some ((List.map (fun z : v.den => ((), z)) y, r', [id]) : (Ty.sl (.pair .unit v)).den × List C × List Nat) = some (x, r, l) := by
          cases hc : (v.mk || nilB (α := v.den) y) with
          | true => rw [hc] at hi; cases hi
          | false => rw [hc] at hi; exact ⟨rfl, hi⟩
        simp only [Option.some.injEq, Prod.mk.injEq] at hi2
        obtain ⟨rfl, rfl, rfl⟩ := hi2
        simp only [hl id (by simp), hb, hy, hc, cond_false]
      · cases hi
    · cases hi
  · cases hi
theorem implode_frame {h h' : Heap} : ∀ {t : Ty} {cs : List C} {x : t.den} {r : List C} {l : List Nat}, implode h t cs = some (x, r, l) → (∀ i ∈ l, h' i = h i) → implode h' t cs = some (x, r, l)
  | .unit, _, _, _, _, hi, _ => hi
  | .int _, _, _, _, _, hi, _ => hi
  | .bool, _, _, _, _, hi, _ => hi
  | .str, _, _, _, _, hi, _ => hi
  | .err, _, _, _, _, hi, _ => hi
  | .pair a b, cs, x, r, l, hi, hl => by
    simp only [implode] at hi ⊢
    split at hi
    · rename_i x1 r1 l1 h1
      split at hi
      · rename_i x2 r2 l2 h2
        simp only [Option.some.injEq, Prod.mk.injEq] at hi
        obtain ⟨rfl, rfl, rfl⟩ := hi
        rw [app_eq] at hl
        rw [implode_frame h1 (fun i hi => hl i (List.mem_append_left _ hi))]
        simp only
        rw [implode_frame h2 (fun i hi => hl i (List.mem_append_right _ hi))]
      · cases hi
    · cases hi
  | .sl t, cs, x, r, l, hi, hl => by
    simp only [implode] at hi ⊢
    cases hkm : t.mk with
    | true =>
      rw [hkm] at hi
      exact takeMk_frame hi hl
    | false =>
    rw [hkm] at hi
    simp only [cond_false] at hi ⊢
    unfold takeSl at hi ⊢
    split at hi
    · exact hi
    · exact hi
    · rename_i id r'
      split at hi
      · rename_i u xs fz hb
        split at hi
        · rename_i y hy
          simp only [Option.some.injEq, Prod.mk.injEq] at hi
          obtain ⟨rfl, rfl, rfl⟩ := hi
          simp only [hl id (by simp), hb, hy]
        · cases hi
      · cases hi
    · rename_i id n r'
      split at hi
      · rename_i u xs fz hb
        split at hi
        · rename_i y hy
          simp only [Option.some.injEq, Prod.mk.injEq] at hi
          obtain ⟨rfl, rfl, rfl⟩ := hi
          simp only [hl id (by simp), hb, hy]
        · cases hi
      · cases hi
    · rename_i id lo n z r'
      split at hi
      · rename_i u xs fz hb
        have hz := (cond_some hi).1
        have hi := (cond_some hi).2
        split at hi
        · rename_i y hy
          simp only [Option.some.injEq, Prod.mk.injEq] at hi
          obtain ⟨rfl, rfl, rfl⟩ := hi
          simp only [hl id (by simp), hb, hz, cond_true, hy]
        · cases hi
      · cases hi
    · cases hi
theorem litRow_frame {h h' : Heap} {t : Ty} : ∀ {m : Nat} {ps : List (Nat × V)} {xs : List t.den} {l : List Nat}, litRow h t m ps = some (xs, l) → (∀ i ∈ l, h' i = h i) → litRow h' t m ps = some (xs, l)
  | m, [], xs, l, hi, _ => hi
  | m, (i, v) :: ps, xs, l, hi, hl => by
    simp only [litRow] at hi ⊢
    obtain ⟨hb, hi⟩ := cond_some hi
    rw [hb]
    simp only [cond_true]
    split at hi
    · rename_i vc hv
      split at hi
      · rename_i x1 l1 h1
        split at hi
        · rename_i x2 l2 h2
          simp only [Option.some.injEq, Prod.mk.injEq] at hi
          obtain ⟨rfl, rfl⟩ := hi
          rw [app_eq] at hl
          rw [implode_frame h1 (fun i hi => hl i (List.mem_append_left _ hi))]
          simp only
          rw [litRow_frame h2 (fun i hi => hl i (List.mem_append_right _ hi))]
        · cases hi
      · cases hi
    · cases hi
theorem decK_frame {h h' : Heap} {ow : List Nat} : ∀ {k : CK} {self : Option Nat} {cs : List C} {x : k.ty.den}, decK h ow self k cs = some x → somes (ownsK h k cs) = [] → (∀ i ∈ takesK h k cs, h' i = h i) →
    decK h' ow self k cs = some x ∧ ownsK h' k cs = ownsK h k cs ∧ takesK h' k cs = takesK h k cs
  | .val t, self, cs, x, hd, ho, ht => by
    rw [decK_val] at hd
    split at hd
    · rename_i x' ids hi
      rw [takesK_val, hi] at ht
      have hi' := implode_frame (h' := h') hi ht
      rw [decK_val, takesK_val, takesK_val, hi', hi]
      exact ⟨hd, rfl, rfl⟩
    · cases hd
  | .row t, self, cs, x, hd, ho, ht => by
    obtain ⟨c, rfl, hd⟩ := row_some hd
    cases c with
    | nils => exact ⟨hd, rfl, rfl⟩
    | ref id => simp [ownsK, somes] at ho
    | sub id n => simp [ownsK, somes] at ho
    | win id lo n z => cases hd
    | _ => cases hd
  | .skip, self, cs, x, hd, ho, ht => ⟨hd, rfl, rfl⟩
  | .nilp, self, cs, x, hd, ho, ht => ⟨hd, rfl, rfl⟩
  | .slf, self, cs, x, hd, ho, ht => ⟨hd, rfl, rfl⟩
  | .fn _, self, cs, x, hd, ho, ht => ⟨hd, rfl, rfl⟩
  | .view _, self, cs, x, hd, ho, ht => ⟨hd, rfl, rfl⟩
  | .nil, self, cs, x, hd, ho, ht => ⟨hd, rfl, rfl⟩
  | .box _ k, self, cs, x, hd, ho, ht => by
    rw [decK_box] at hd
    split at hd
    · rw [ownsK_box] at ho
      simp [somes] at ho
    · cases hd
  | .clo g k, self, cs, x, hd, ho, ht => by
    rw [decK_clo] at hd
    split at hd
    · rename_i g' ids
      have hc := (cond_some hd).1
      obtain ⟨h1, h2, h3⟩ := decK_frame (cond_some hd).2 ho ht
      rw [decK_clo]
      simp only [hc, cond_true]
      exact ⟨h1, h2, h3⟩
    · cases hd
  | .cons k ks, self, cs, x, hd, ho, ht => by
    rw [decK_cons] at hd
    split at hd
    · rename_i x1 h1
      split at hd
      · rename_i x2 h2
        rw [ownsK_cons, app_eq, somes_app, List.append_eq_nil_iff] at ho
        rw [takesK_cons, app_eq] at ht
        obtain ⟨a1, a2, a3⟩ := decK_frame h1 ho.1 (fun i hi => ht i (List.mem_append_left _ hi))
        obtain ⟨b1, b2, b3⟩ := decK_frame h2 ho.2 (fun i hi => ht i (List.mem_append_right _ hi))
        rw [decK_cons, ownsK_cons, ownsK_cons, takesK_cons, takesK_cons, a1, a2, a3]
        simp only
        rw [b1, b2, b3]
        exact ⟨hd, rfl, rfl⟩
      · cases hd
    · cases hd
theorem decLs_frame {h h' : Heap} {args : List V} {ow : List Nat} : ∀ {l : List CK} {n : Nat} {x : (lTy (lay n l)).den}, decLs (argSt h args) ow (lay n l) = some x → somes (ownsLs (argSt h args) (lay n l)) = [] → (∀ i ∈ takesLs (argSt h args) (lay n l), h' i = h i) →
    decLs (argSt h' args) ow (lay n l) = some x ∧ ownsLs (argSt h' args) (lay n l) = ownsLs (argSt h args) (lay n l) ∧ takesLs (argSt h' args) (lay n l) = takesLs (argSt h args) (lay n l)
  | [], n, x, hd, _, _ => ⟨hd, rfl, rfl⟩
  | k :: l, n, x, hd, ho, ht => by
    simp only [lay, decLs, ownsLs, takesLs] at hd ho ht ⊢
    rw [app_eq, somes_app, List.append_eq_nil_iff] at ho
    rw [app_eq] at ht
    split at hd
    · rename_i x1 h1
      split at hd
      · rename_i x2 h2
        obtain ⟨b1, b2, b3⟩ := decLs_frame h2 ho.2 (fun i hi => ht i (List.mem_append_right _ hi))
        have ha : decL (argSt h' args) ow n (.obj k) = some x1 ∧ ownsL (argSt h' args) n (.obj k) = ownsL (argSt h args) n (.obj k) ∧ takesL (argSt h' args) n (.obj k) = takesL (argSt h args) n (.obj k) := by
          have ho1 := ho.1
          have ht1 : ∀ i ∈ takesL (argSt h args) n (.obj k), h' i = h i := fun i hi => ht i (List.mem_append_left _ hi)
          simp only [decL, ownsL, takesL] at h1 ho1 ht1 ⊢
          have e : (argSt h' args).tmp n = (argSt h args).tmp n := rfl
          rw [e]
          split at h1
          · rename_i cs hcs
            rw [hcs] at ho1 ht1
            exact decK_frame h1 ho1 ht1
          · cases h1
        rw [ha.1, ha.2.1, ha.2.2]
        simp only
        rw [b1, b2, b3]
        exact ⟨hd, rfl, rfl⟩
      · cases hd
    · cases hd
theorem dec_frame {h h' : Heap} {args : List V} {l : List CK} {x : (lTy (lay 0 l)).den} (hd : dec (lay 0 l) (argSt h args) = some x) (ho : somes (ownsLs (argSt h args) (lay 0 l)) = []) (ht : ∀ i ∈ takesLs (argSt h args) (lay 0 l), h' i = h i) :
    dec (lay 0 l) (argSt h' args) = some x ∧ ownsLs (argSt h' args) (lay 0 l) = ownsLs (argSt h args) (lay 0 l) ∧ takesLs (argSt h' args) (lay 0 l) = takesLs (argSt h args) (lay 0 l) := by
  unfold dec at hd ⊢
  have hc := (cond_some hd).1
  obtain ⟨b1, b2, b3⟩ := decLs_frame (h' := h') (cond_some hd).2 ho ht
  rw [b2]
  refine ⟨?_, rfl, b3⟩
  have e : (argSt h' args).n = (argSt h args).n := rfl
  rw [e, hc]
  exact b1
theorem freeUpd_frame {h h' : Heap} {roots : List (Nat × Nat)} : ∀ {l : Upd} {n : Nat}, (∀ p ∈ l, h' p.1 = h p.1) → freeUpd h' roots n l = freeUpd h roots n l
  | [], _, _ => rfl
  | (i, b) :: l, n, hl => by simp only [freeUpd, hl (i, b) (by simp), freeUpd_frame (l := l) (fun p hp => hl p (List.mem_cons_of_mem _ hp))]
theorem allFlat_mem : ∀ {ls : List (List CK)} {l : List CK}, allFlat ls = true → l ∈ ls → lFlat (lay 0 l) = true
  | l0 :: ls, l, h, hl => by
    simp only [allFlat, Bool.and_eq_true] at h
    rcases List.mem_cons.1 hl with rfl | hl
    · exact h.1
    · exact allFlat_mem h.2 hl
theorem allWd_mem : ∀ {ls : List (List CK)} {l : List CK}, allWd ls = true → l ∈ ls → wds l < 60
  | l0 :: ls, l, h, hl => by
    simp only [allWd, Bool.and_eq_true] at h
    rcases List.mem_cons.1 hl with rfl | hl
    · exact Nat.le_of_ble_eq_true h.1
    · exact allWd_mem h.2 hl
theorem outK_mem {R : Type} {K K' : (l : List CK) → (lTy (lay 0 l)).den → Option R} {res : R} : ∀ {ls : List (List CK)} {y : SumL ls}, outK K ls y = some res → ∃ l z, l ∈ ls ∧ K l z = some res ∧ ((K' l z = some res) → outK K' ls y = some res)
  | [], y, _ => nomatch y
  | [l], y, hk => ⟨l, y, by simp, hk, fun h => h⟩
  | l :: _ :: _, .inl y, hk => ⟨l, y, by simp, hk, fun h => h⟩
  | _ :: l' :: r, .inr y, hk => by
    obtain ⟨l, z, h1, h2, h3⟩ := outK_mem (K' := K') (ls := l' :: r) (y := y) hk
    exact ⟨l, z, List.mem_cons_of_mem _ h1, h2, h3⟩
theorem ltAll_mem {l : Nat} : ∀ {ids : List Nat}, ltAll l ids = true → ∀ i ∈ ids, i < l
  | [], _, _, h => by cases h
  | x :: r, hl, i, hi => by
    simp only [ltAll, Bool.and_eq_true] at hl
    rcases List.mem_cons.1 hi with rfl | hi
    · exact Nat.le_of_ble_eq_true hl.1
    · exact ltAll_mem hl.2 i hi
theorem rdH_frame {h h' : Heap} {l : Nat} (hag : ∀ i, i < l → h' i = h i) : rdH h' (some l) = rdH h (some l) := by
  funext i
  unfold rdH
  simp only
  cases hb : Nat.blt i l
  · rfl
  · simp only [cond_true]
    exact hag i (Nat.le_of_ble_eq_true hb)
theorem call_strict {E : Env} {st : St} {l d f : Nat} {args : List V} {v : V} {u : Upd} (hk : opCall E (nid st.ep d 0) st.heap (some l) f args mkp = some (v, u)) :
    (∀ p ∈ u, nid st.ep d 0 ≤ p.1 ∧ p.1 < nid st.ep d 0 + 64) ∧
    ∀ h' : Heap, (∀ i, i < l → h' i = st.heap i) → (∀ i, nid st.ep d 0 ≤ i → i < nid st.ep d 0 + 64 → h' i = st.heap i) → opCall E (nid st.ep d 0) h' (some l) f args mkp = some (v, u) := by
  unfold opCall at hk ⊢
  have ho := (cond_some hk).1
  have hk := (cond_some hk).2
  rw [ho]
  simp only [cond_true]
  match hE : E.C f, ho, hk with
  | [s], ho, hk =>
    simp only [callSigs] at hk
    split at hk
    · rename_i x hx
      unfold callSig at hk
      have hc := (cond_some hk).1
      have hk := (cond_some hk).2
      have hc2 := hc
      simp only [callLim, Bool.and_eq_true] at hc2
      obtain ⟨hlen, how, ⟨hlt, hor⟩, hwd⟩ := hc2
      have how : somes (ownsLs (argSt st.heap args) (lay 0 s.ins)) = [] := by
        cases hq : somes (ownsLs (argSt st.heap args) (lay 0 s.ins)) with
        | nil => rfl
        | cons a r => rw [hq] at how; cases how
      cases hy : s.F x with
      | none => rw [hy] at hk; cases hk
      | some y =>
        rw [hy] at hk
        simp only [Option.bind_some] at hk
        have main : ∀ h' : Heap, (∀ i, i < l → h' i = st.heap i) → (∀ i, nid st.ep d 0 ≤ i → i < nid st.ep d 0 + 64 → h' i = st.heap i) →
            (∀ p ∈ u, nid st.ep d 0 ≤ p.1 ∧ p.1 < nid st.ep d 0 + 64) ∧ callSigs (nid st.ep d 0) h' (some l) args mkp [s] = some (v, u) := by
          intro h' hag hown
          obtain ⟨d1, d2, d3⟩ := dec_frame (h' := h') hx how (fun i hi => hag i (ltAll_mem hlt i hi))
          obtain ⟨lo, z, hmem, hco, hback⟩ := outK_mem (K' := callOut (nid st.ep d 0) h' s.lent args (somes (ownsLs (argSt st.heap args) (lay 0 s.ins))) (takesLs (argSt st.heap args) (lay 0 s.ins)) mkp) hk
          have hco0 := hco
          rw [how] at hco hback
          unfold callOut at hco
          have hcc := (cond_some hco).1
          have hco := (cond_some hco).2
          simp only [Bool.and_eq_true] at hcc
          obtain ⟨hfree, hnd, hmm, hle⟩ := hcc
          simp only [mkp, Option.some.injEq, Prod.mk.injEq] at hco
          obtain ⟨rfl, rfl⟩ := hco
          generalize hrd : rootsLs (wds (first (len' lo - len' s.lent) lo)) (cut (len' lo - len' s.lent) lo) (pick (.c .undef) args s.lent) = roots at *
          have hroots : roots = [] := by
            cases roots with
            | nil => rfl
            | cons p r =>
              have := allMem_spec hmm p.2 (mem_sndN' (j := p.1) (by simp))
              cases this
          subst hroots
          have hz : ∀ h0 : Heap, (bif lFlat (lay 0 lo) then [] else freezes h0 (takesLs (argSt st.heap args) (lay 0 s.ins))) = ([] : Upd) := by
            intro h0
            cases hfl : lFlat (lay 0 lo)
            · rcases (Bool.or_eq_true _ _).mp hor with h1 | h1
              · rw [allFlat_mem h1 hmem] at hfl; cases hfl
              · cases hq : takesLs (argSt st.heap args) (lay 0 s.ins) with
                | nil => rfl
                | cons a r => rw [hq] at h1; cases h1
            · rfl
          have hw := allWd_mem hwd hmem
          have hin : ∀ p ∈ (encLs (named (nid st.ep d 0) []) noTmp 0 (lay 0 lo) z).2, nid st.ep d 0 ≤ p.1 ∧ p.1 < nid st.ep d 0 + 64 := by
            intro p hp
            have h1 : p.1 ∈ keys (encLs (named (nid st.ep d 0) []) noTmp 0 (lay 0 lo) z).2 := List.mem_map.2 ⟨p, hp, rfl⟩
            rw [encLs_keys, lWd_lay] at h1
            obtain ⟨j, hj, hjp⟩ := List.mem_map.1 h1
            simp at hj
            rw [← hjp]
            show nid st.ep d 0 ≤ nid st.ep d 0 + j ∧ nid st.ep d 0 + j < nid st.ep d 0 + 64
            omega
          rw [hz]
          refine ⟨by simpa [kills, app] using hin, ?_⟩
          simp only [callSigs, d1]
          unfold callSig
          rw [d2, d3, hc, hy]
          simp only [cond_true, Option.bind_some]
          rw [how]
          rw [← hz st.heap]
          refine hback ?_
          unfold callOut
          dsimp only
          rw [hrd]
          rw [freeUpd_frame (fun p hp => hown p.1 (hin p hp).1 (hin p hp).2), hfree, hnd, hmm, hle, hz, hz]
          rfl
        exact ⟨(main st.heap (fun _ _ => rfl) (fun _ _ _ => rfl)).1, fun h' h1 h2 => (main h' h1 h2).2⟩
    · cases hk
  | [], ho, hk => cases ho
  | _ :: _ :: _, ho, hk => cases ho
noncomputable def Strict (E : Env) (st : St) (l : Nat) (o : Oper) (d : Nat) (v : V) (u : Upd) : Prop :=
  (∀ p ∈ u, nid st.ep d 0 ≤ p.1 ∧ p.1 < nid st.ep d 0 + 64) ∧
  ∀ h' : Heap, (∀ i, i < l → h' i = st.heap i) → (∀ i, nid st.ep d 0 ≤ i → i < nid st.ep d 0 + 64 → h' i = st.heap i) → aop E { st with heap := h' } (some l) o = some (v, u)
theorem sliceRowL_upd {P : Program} {e : TypeId} {id : Nat} {y : Ty} {xs ys : List y.den} {fz : Bool} {lo hi : Option V} {v : V} {u : Upd} (hk : sliceRowL P e id y xs ys fz lo hi mkp = some (v, u)) : u = [] := by
  unfold sliceRowL at hk
  cases fz
  · simp only [cond_false] at hk
    unfold sliceRow at hk
    split at hk
    · simp only [cond_false] at hk
      have := (cond_some hk).2
      cases hq : lo.isSome
      · rw [hq] at this; simp only [cond_false, mkp, Option.some.injEq, Prod.mk.injEq] at this; exact this.2.symm
      · rw [hq] at this; simp only [cond_true, mkp, Option.some.injEq, Prod.mk.injEq] at this; exact this.2.symm
    · cases hk
  · cases hk
theorem aop_strict {l d : Nat} (hd : o.dst = some d) (hk : aop E st (some l) o = some (v, u)) : Strict E st l o d v u := by
  by_cases hp : pureOp E.P o.op = true
  · obtain ⟨rfl, h2⟩ := aop_pure hp hk
    exact ⟨by simp, fun h' _ _ => h2 h'⟩
  unfold Strict
  obtain ⟨dst, op, type, pos, after, guard⟩ := o
  simp only at hd
  subst hd
  simp only [aop] at hk ⊢
  cases op <;> first | exact absurd rfl hp | skip
  all_goals simp only [opK, ev_heap, ev_heap', evPs_heap, evs_heap, Option.getD_some] at hk ⊢
  all_goals first | (cases hk; done) | skip
  case alloc elem =>
    split at hk
    · rename_i i hi hf
      split at hk
      · rename_i z hz
        obtain ⟨hb, hk⟩ := cond_some hk
        simp only [mkp, Option.some.injEq, Prod.mk.injEq] at hk
        obtain ⟨rfl, rfl⟩ := hk
        refine ⟨by simp, fun h' _ hown => ?_⟩
        rw [hown _ (Nat.le_refl _) (by omega), hi, hf]
        simp only [hz, hb, cond_true, mkp]
      · cases hk
    · cases hk
  case box t x =>
    split at hk
    · rename_i cs hc hf
      simp only [mkp, Option.some.injEq, Prod.mk.injEq] at hk
      obtain ⟨rfl, rfl⟩ := hk
      refine ⟨by simp, fun h' _ hown => ?_⟩
      rw [hown _ (Nat.le_refl _) (by omega), hc, hf]
      simp only [mkp]
    · cases hk
  case buildSlice t n ps =>
    unfold opBuildSlice at hk ⊢
    split at hk
    · rename_i e i t' he hf
      obtain ⟨hb, hk⟩ := cond_some hk
      split at hk
      · rename_i xs l' hl
        cases l' with
        | cons a r => cases hk
        | nil =>
          simp only [mkp, Option.some.injEq, Prod.mk.injEq] at hk
          obtain ⟨rfl, rfl⟩ := hk
          refine ⟨by simp [freezes, app], fun h' _ hown => ?_⟩
          rw [hown _ (Nat.le_refl _) (by omega), he, hf]
          simp only [hb, cond_true, litRow_frame hl (h' := h') (by simp), mkp, freezes]
      · cases hk
    · cases hk
  case convert src dst x =>
    cases hs : isSliceT E.P src
    · exact absurd (by simp [pureOp, hs]) hp
    · rw [hs] at hk
      simp only [cond_true] at hk ⊢
      rw [convS_nat] at hk
      obtain ⟨h1, rfl⟩ := bindp hk
      refine ⟨by simp, fun h' hag _ => ?_⟩
      rw [convS_nat, rdH_frame hag, h1]
      rfl
  case load t x =>
    rw [opLoad_nat] at hk
    obtain ⟨h1, rfl⟩ := bindp hk
    refine ⟨by simp, fun h' hag _ => ?_⟩
    rw [opLoad_nat]
    have : opLoad E.P h' (some l) t (st.ev x) some = opLoad E.P st.heap (some l) t (st.ev x) some := by unfold opLoad; rw [rdH_frame hag]
    rw [this, h1]
    rfl
  case binOp op t x y _ =>
    cases hny : isNilI y
    rotate_left
    · rw [hny] at hk
      simp only [cond_true] at hk ⊢
      rw [errK_nat] at hk
      obtain ⟨h1, rfl⟩ := bindp hk
      exact ⟨by simp, fun h' hag _ => by rw [errK_nat]; exact hk⟩
    rw [hny] at hk
    simp only [cond_false] at hk ⊢
    rw [binK_nat] at hk
    obtain ⟨h1, rfl⟩ := bindp hk
    refine ⟨by simp, fun h' hag _ => ?_⟩
    rw [rdH_frame hag, binK_nat, h1]
    rfl
  case makeSlice t a c =>
    unfold opMakeSlice at hk ⊢
    split at hk
    · rename_i he hl hc
      split at hk
      · rename_i hf
        obtain ⟨hb, hk⟩ := cond_some hk
        simp only [mkp, Option.some.injEq, Prod.mk.injEq] at hk
        obtain ⟨rfl, rfl⟩ := hk
        refine ⟨by simp, fun h' _ hown => ?_⟩
        rw [hown _ (Nat.le_refl _) (by omega)]
        simp only [hf, hb, cond_true, mkp]
      · cases hk
    · cases hk
  case slice t x lo hi mx =>
    unfold opSlice at hk ⊢
    split at hk
    · cases hk
    · split at hk
      · rename_i hu hx
        refine ⟨?_, fun h' _ _ => by first | exact hk | (rw [hu, hx]; exact hk)⟩
        split at hk
        · have := (cond_some hk).2
          simp only [mkp, Option.some.injEq, Prod.mk.injEq] at this
          rw [← this.2]; simp
        · cases hk
      · rename_i hu hx
        refine ⟨?_, fun h' _ _ => by first | exact hk | (rw [hu, hx]; exact hk)⟩
        split at hk
        · have := (cond_some hk).2
          simp only [mkp, Option.some.injEq, Prod.mk.injEq] at this
          rw [← this.2]; simp
        · cases hk
      · rename_i hu hx
        dsimp only at hk
        refine ⟨?_, fun h' hag _ => by first | (rw [hu, hx]; dsimp only; rw [rdH_frame hag]; exact hk) | (dsimp only; rw [rdH_frame hag]; exact hk)⟩
        split at hk
        · rw [sliceRowL_upd hk]; simp
        · cases hk
      · rename_i hu hx
        dsimp only at hk
        refine ⟨?_, fun h' hag _ => by first | (rw [hu, hx]; dsimp only; rw [rdH_frame hag]; exact hk) | (dsimp only; rw [rdH_frame hag]; exact hk)⟩
        split at hk
        · rw [sliceRowL_upd hk]; simp
        · cases hk
      · rename_i hu hx
        refine ⟨?_, fun h' _ _ => by first | exact hk | (rw [hu, hx]; exact hk)⟩
        split at hk
        · have := (cond_some hk).2
          simp only [mkp, Option.some.injEq, Prod.mk.injEq] at this
          rw [← this.2]; simp
        · cases hk
      · cases hk
  case indexAddr t x i =>
    rw [opIndexAddr_nat] at hk
    obtain ⟨h1, rfl⟩ := bindp hk
    refine ⟨by simp, fun h' hag _ => ?_⟩
    rw [opIndexAddr_nat]
    have : opIndexAddr E.P h' (some l) t (st.ev x) (st.ev i) some = opIndexAddr E.P st.heap (some l) t (st.ev x) (st.ev i) some := by unfold opIndexAddr; rw [rdH_frame hag]
    rw [this, h1]
    rfl
  case call c =>
    cases hqc : qOf E c with
    | some q => rw [hqc] at hk; cases hk
    | none =>
    rw [hqc] at hk
    simp only at hk ⊢
    split at hk
    · rename_i f hc
      split at hk
      · rename_i fid hf
        exact call_strict hk
      · rename_i fid ids hf
        exact call_strict hk
      · cases hk
    · rename_i hc
      split at hk
      · rename_i h1 h2
        rw [opLen_nat] at hk
        obtain ⟨h3, rfl⟩ := bindp hk
        refine ⟨by simp, fun h' hag _ => ?_⟩
        rw [opLen_nat]
        have this : ∀ t x, opLen E.P h' (some l) t (st.ev x) some = opLen E.P st.heap (some l) t (st.ev x) some := by intro t x; unfold opLen; rw [rdH_frame hag]
        rw [this, h3]
        rfl
      · cases hk
    · cases hk
    · cases hk
    · rename_i hc; exact absurd (by simp only [pureOp, hc]) hp
    · rename_i hc; exact absurd (by simp only [pureOp, hc]) hp
    · cases hk
end
end Go.VM
