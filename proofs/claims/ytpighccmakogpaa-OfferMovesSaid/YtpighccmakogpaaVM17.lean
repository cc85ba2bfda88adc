/- The value machine: regions that draw their order. Any order that the edges allow tells the same. -/
import Derived.Test.YtpighccmakogpaaVM16
namespace Go.VM
open Go.RowKit
section
variable {W0 : World} {O : Nat → Prop} {E : Env} {st : St} {o : Oper} {v : V} {u : Upd} {lim : Option Nat}

theorem ev_heap (st : St) (h : Heap) (x : Operand) : ({ st with heap := h } : St).ev x = st.ev x := by cases x <;> rfl
theorem evs_heap (st : St) (h : Heap) : ∀ l : List Operand, evs ({ st with heap := h } : St) l = evs st l
  | [] => rfl
  | x :: l => by simp only [evs, ev_heap, evs_heap st h l]
theorem evPs_heap (st : St) (h : Heap) : ∀ l : List (Nat × Operand), evPs ({ st with heap := h } : St) l = evPs st l
  | [] => rfl
  | (i, x) :: l => by simp only [evPs, ev_heap, evPs_heap st h l]
theorem ev_heap' (st : St) (h : Heap) : ({ st with heap := h } : St).ev = st.ev := funext (ev_heap st h)

/-! ### What an operation looks at -/
theorem evs_congr {st st' : St} : ∀ {l : List Operand}, (∀ x ∈ l, st'.ev x = st.ev x) → evs st' l = evs st l
  | [], _ => rfl
  | x :: l, h => by simp only [evs, h x (by simp), evs_congr (fun y hy => h y (List.mem_cons_of_mem _ hy))]
theorem evPs_congr {st st' : St} : ∀ {l : List (Nat × Operand)}, (∀ x ∈ l.map (·.2), st'.ev x = st.ev x) → evPs st' l = evPs st l
  | [], _ => rfl
  | (i, x) :: l, h => by simp only [evPs, h x (by simp), evPs_congr (fun y hy => h y (by simp only [List.map_cons]; exact List.mem_cons_of_mem _ hy))]

theorem aop_congr {tmp : Nat → V} (h : ∀ x ∈ o.op.operands, ({ st with tmp := tmp } : St).ev x = st.ev x) : aop E { st with tmp := tmp } lim o = aop E st lim o := by
  obtain ⟨dst, op, type, pos, after, guard⟩ := o
  cases op <;> simp only [Op.operands] at h <;> simp only [aop, opK]
  case build t ps => rw [evPs_congr (l := ps.toList) fun x hx => h x (by simpa using hx)]
  case buildSlice t n ps => rw [evPs_congr (l := ps.toList) fun x hx => h x (by simpa using hx)]
  case call c =>
    have ha : evs ({ st with tmp := tmp } : St) c.args.toList = evs st c.args.toList := evs_congr fun x hx => h x (by simp only [Call.operands]; exact Array.mem_append.2 (.inr (by simpa using hx)))
    have hargs : ∀ x, x ∈ c.args.toList → ({ st with tmp := tmp } : St).ev x = st.ev x := fun x hx => h x (by simp only [Call.operands]; exact Array.mem_append.2 (.inr (by simpa using hx)))
    cases hc : c.callee with
    | value f =>
      have hf : ({ st with tmp := tmp } : St).ev f = st.ev f := h f (by simp [Call.operands, hc])
      simp only [hf, ha]
    | invoke r m => rfl
    | builtin b =>
      cases b <;> simp only [ha] <;> first | rfl | skip
      all_goals
        split
        · rename_i h2
          rw [h2] at hargs
          simp [hargs]
        · rfl
  case slice t x lo hi mx => cases lo <;> cases hi <;> cases mx <;> simp_all
  all_goals (first | rfl | (simp_all; done))

/-! ### Pure operations -/
theorem binK_pure {P : Program} {h h' : Heap} {op : BinOp} {t : TypeId} {x y : V} {v : V} (hp : ∀ e, P.underlying t ≠ some (.slice e)) (hk : binK P h op t x y some = some v) : binK P h' op t x y some = some v := by
  unfold binK at hk ⊢
  split at hk
  · exact hk
  · exact hk
  · exact hk
  · exact hk
  · split at hk
    · rename_i hu _; exact absurd hu (hp _)
    · rename_i hu _; exact absurd hu (hp _)
    · cases hk
  · exact hk
  · cases hk

theorem bindp {x : Option V} {v : V} {u : Upd} (h : x.bind (fun v => mkp v ([] : Upd)) = some (v, u)) : x = some v ∧ u = [] := by
  cases x with
  | none => cases h
  | some y => simp only [Option.bind_some, mkp, Option.some.injEq, Prod.mk.injEq] at h; exact ⟨by rw [h.1], h.2.symm⟩

theorem aop_pure (hp : pureOp E.P o.op = true) (hk : aop E st lim o = some (v, u)) : u = [] ∧ ∀ h', aop E { st with heap := h' } lim o = some (v, u) := by
  obtain ⟨dst, op, type, pos, after, guard⟩ := o
  simp only [aop] at hk ⊢
  cases op <;> simp only [pureOp] at hp <;> first | cases hp | skip
  all_goals simp only [opK, ev_heap, ev_heap', evPs_heap, evs_heap] at hk ⊢
  case move => simp only [mkp, Option.some.injEq, Prod.mk.injEq] at hk ⊢; obtain ⟨rfl, rfl⟩ := hk; exact ⟨rfl, fun _ => ⟨rfl, rfl⟩⟩
  case assign => simp only [mkp, Option.some.injEq, Prod.mk.injEq] at hk ⊢; obtain ⟨rfl, rfl⟩ := hk; exact ⟨rfl, fun _ => ⟨rfl, rfl⟩⟩
  case pick =>
    refine ⟨?_, fun _ => hk⟩
    have two : ∀ (b : Bool) (x y : V), (bif b then mkp x ([] : Upd) else mkp y []) = some (v, u) → u = [] := by
      intro b x y hb
      cases b <;> simp only [cond_true, cond_false, mkp, Option.some.injEq, Prod.mk.injEq] at hb <;> exact hb.2.symm
    split at hk
    · split at hk
      · simp only [mkp, Option.some.injEq, Prod.mk.injEq] at hk; exact hk.2.symm
      · exact two _ _ _ hk
    · cases hk
  case build => rw [opBuild_nat] at hk; exact ⟨(bindp hk).2, fun _ => by rw [opBuild_nat]; exact hk⟩
  case nilCheck =>
    refine ⟨?_, fun _ => hk⟩
    split at hk
    · simp only [mkp, Option.some.injEq, Prod.mk.injEq] at hk; exact hk.2.symm
    · simp only [mkp, Option.some.injEq, Prod.mk.injEq] at hk; exact hk.2.symm
    · simp only [mkp, Option.some.injEq, Prod.mk.injEq] at hk; exact hk.2.symm
    · cases hk
  case unOp => rw [unK_nat] at hk; exact ⟨(bindp hk).2, fun _ => by rw [unK_nat]; exact hk⟩
  case fieldAddr => rw [opFieldAddr_nat] at hk; exact ⟨(bindp hk).2, fun _ => by rw [opFieldAddr_nat]; exact hk⟩
  case field => rw [opField_nat] at hk; exact ⟨(bindp hk).2, fun _ => by rw [opField_nat]; exact hk⟩
  case index => rw [opIndex_nat] at hk; exact ⟨(bindp hk).2, fun _ => by rw [opIndex_nat]; exact hk⟩
  case extract => rw [opExtract_nat] at hk; exact ⟨(bindp hk).2, fun _ => by rw [opExtract_nat]; exact hk⟩
  case convert => rw [convK_nat] at hk; exact ⟨(bindp hk).2, fun _ => by rw [convK_nat]; exact hk⟩
  case binOp op t x y _ =>
    rw [binK_nat] at hk
    obtain ⟨h1, rfl⟩ := bindp hk
    refine ⟨rfl, fun h' => ?_⟩
    rw [binK_nat, binK_pure (h' := rdH h' lim) (fun e he => by rw [he] at hp; cases hp) h1]
    rfl
  case indexAddr t x i =>
    rw [opIndexAddr_nat] at hk
    obtain ⟨h1, rfl⟩ := bindp hk
    refine ⟨rfl, fun h' => ?_⟩
    rw [opIndexAddr_nat]
    split at hp
    · rename_i n e hu
      have : opIndexAddr E.P h' lim t (st.ev x) (st.ev i) some = opIndexAddr E.P st.heap lim t (st.ev x) (st.ev i) some := by
        unfold opIndexAddr
        simp only [hu]
      rw [this, h1]
      rfl
    · cases hp
  case call c =>
    split at hp
    · rename_i hc
      rw [hc] at hk
      simp only at hk
      refine ⟨?_, fun _ => by rw [hc]; exact hk⟩
      split at hk
      · simp only [mkp, Option.some.injEq, Prod.mk.injEq] at hk; exact hk.2.symm
      · cases hk
    · rename_i hc
      rw [hc] at hk
      simp only at hk
      refine ⟨?_, fun _ => by rw [hc]; exact hk⟩
      split at hk
      · simp only [mkp, Option.some.injEq, Prod.mk.injEq] at hk; exact hk.2.symm
      · cases hk
    · cases hp

/-! ### Operations under a limit -/
theorem takeVal_frame {t : Ty} {cs : List C} {x : t.den} {r : List C} {l : List Nat} (hi : takeVal t cs = some (x, r, l)) : takeVal t cs = some (x, r, l) := hi
theorem implode_frame {h h' : Heap} : ∀ {t : Ty} {cs : List C} {x : t.den} {r : List C} {l : List Nat}, implode h t cs = some (x, r, l) → (∀ i ∈ l, h' i = h i) → implode h' t cs = some (x, r, l)
  | .unit, _, _, _, _, hi, _ => hi
  | .int _, _, _, _, _, hi, _ => hi
  | .bool, _, _, _, _, hi, _ => hi
  | .str, _, _, _, _, hi, _ => hi
  | .pair a b, cs, x, r, l, hi, hl => by
    simp only [implode] at hi ⊢
    split at hi
    · rename_i x1 r1 l1 h1
      split at hi
      · rename_i x2 r2 l2 h2
        simp only [Option.some.injEq, Prod.mk.injEq] at hi
        obtain ⟨rfl, rfl, rfl⟩ := hi
        rw [app_eq] at hl
        rw [implode_frame h1 (fun i hi => hl i (List.mem_append_left _ hi))]
        simp only
        rw [implode_frame h2 (fun i hi => hl i (List.mem_append_right _ hi))]
      · cases hi
    · cases hi
  | .sl t, cs, x, r, l, hi, hl => by
    simp only [implode] at hi ⊢
    unfold takeSl at hi ⊢
    split at hi
    · exact hi
    · exact hi
    · rename_i id r'
      split at hi
      · rename_i u xs fz hb
        split at hi
        · rename_i y hy
          simp only [Option.some.injEq, Prod.mk.injEq] at hi
          obtain ⟨rfl, rfl, rfl⟩ := hi
          simp only [hl id (by simp), hb, hy]
        · cases hi
      · cases hi
    · cases hi

theorem litRow_frame {h h' : Heap} {t : Ty} : ∀ {m : Nat} {ps : List (Nat × V)} {xs : List t.den} {l : List Nat}, litRow h t m ps = some (xs, l) → (∀ i ∈ l, h' i = h i) → litRow h' t m ps = some (xs, l)
  | m, [], xs, l, hi, _ => hi
  | m, (i, v) :: ps, xs, l, hi, hl => by
    simp only [litRow] at hi ⊢
    obtain ⟨hb, hi⟩ := cond_some hi
    rw [hb]
    simp only [cond_true]
    split at hi
    · rename_i vc hv
      split at hi
      · rename_i x1 l1 h1
        split at hi
        · rename_i x2 l2 h2
          simp only [Option.some.injEq, Prod.mk.injEq] at hi
          obtain ⟨rfl, rfl⟩ := hi
          rw [app_eq] at hl
          rw [implode_frame h1 (fun i hi => hl i (List.mem_append_left _ hi))]
          simp only
          rw [litRow_frame h2 (fun i hi => hl i (List.mem_append_right _ hi))]
        · cases hi
      · cases hi
    · cases hi

theorem argsIn_frame {h h' : Heap} : ∀ {ts : List Ty} {vs : List V} {x : (tupT ts).den} {l : List Nat}, argsIn h ts vs = some (x, l) → (∀ i ∈ l, h' i = h i) → argsIn h' ts vs = some (x, l)
  | [], [], _, _, hi, _ => hi
  | t :: ts, v :: vs, x, l, hi, hl => by
    simp only [argsIn] at hi ⊢
    split at hi
    · rename_i vc hvc
      split at hi
      · rename_i x1 l1 h1
        split at hi
        · rename_i x2 l2 h2
          simp only [Option.some.injEq, Prod.mk.injEq] at hi
          obtain ⟨rfl, rfl⟩ := hi
          rw [app_eq] at hl
          rw [implode_frame h1 (fun i hi => hl i (List.mem_append_left _ hi))]
          simp only
          rw [argsIn_frame h2 (fun i hi => hl i (List.mem_append_right _ hi))]
        · cases hi
      · cases hi
    · cases hi
  | [], _ :: _, _, _, hi, _ => by simp [argsIn] at hi
  | _ :: _, [], _, _, hi, _ => by simp [argsIn] at hi

theorem resC_len (own : Bool) (base : Nat) : ∀ (t : Ty) (x : t.den) (c : Nat), (resC own base t x c).2.1.length ≤ sls t
  | .unit, _, _ => by simp [resC]
  | .int _, _, _ => by simp [resC]
  | .bool, _, _ => by simp [resC]
  | .str, _, _ => by simp [resC]
  | .sl t, x, c => by cases own <;> simp [resC, sls]
  | .pair a b, x, c => by
    have h1 := resC_len own base a x.1 c
    have h2 := resC_len own base b x.2 (resC own base a x.1 c).2.2
    simp only [resC, app_eq, List.length_append, sls]
    omega
theorem resVs_len (own : Bool) (base : Nat) : ∀ (ts : List Ty) (x : (tupT ts).den) (c : Nat), (resVs own base ts x c).2.length ≤ sls (tupT ts)
  | [], _, _ => by simp [resVs]
  | t :: ts, x, c => by
    have h1 := resC_len own base t x.1 c
    have h2 := resVs_len own base ts x.2 (resC own base t x.1 c).2.2
    simp only [resVs, app_eq, List.length_append, sls, tupT]
    omega

theorem freeUpd_frame {h h' : Heap} : ∀ {l : Upd}, (∀ p ∈ l, h' p.1 = h p.1) → freeUpd h' l = freeUpd h l
  | [], _ => rfl
  | (i, b) :: l, hl => by simp only [freeUpd, hl (i, b) (by simp), freeUpd_frame (fun p hp => hl p (List.mem_cons_of_mem _ hp))]

theorem ltAll_mem {l : Nat} : ∀ {ids : List Nat}, ltAll l ids = true → ∀ i ∈ ids, i < l
  | [], _, _, h => by cases h
  | x :: r, hl, i, hi => by
    simp only [ltAll, Bool.and_eq_true] at hl
    rcases List.mem_cons.1 hi with rfl | hi
    · exact Nat.le_of_ble_eq_true hl.1
    · exact ltAll_mem hl.2 i hi

theorem rdH_frame {h h' : Heap} {l : Nat} (hag : ∀ i, i < l → h' i = h i) : rdH h' (some l) = rdH h (some l) := by
  funext i
  unfold rdH
  simp only
  cases hb : Nat.blt i l
  · rfl
  · simp only [cond_true]
    exact hag i (Nat.le_of_ble_eq_true hb)

/-- In its own places, and what it reads stays. -/
def Strict (E : Env) (st : St) (l : Nat) (o : Oper) (d : Nat) (v : V) (u : Upd) : Prop :=
  (∀ p ∈ u, nid st.ep d 0 ≤ p.1 ∧ p.1 < nid st.ep d 0 + 64) ∧
  ∀ h' : Heap, (∀ i, i < l → h' i = st.heap i) → (∀ i, nid st.ep d 0 ≤ i → i < nid st.ep d 0 + 64 → h' i = st.heap i) → aop E { st with heap := h' } (some l) o = some (v, u)

theorem aop_strict {l d : Nat} (hd : o.dst = some d) (hk : aop E st (some l) o = some (v, u)) : Strict E st l o d v u := by
  by_cases hp : pureOp E.P o.op = true
  · obtain ⟨rfl, h2⟩ := aop_pure hp hk
    exact ⟨by simp, fun h' _ _ => h2 h'⟩
  unfold Strict
  obtain ⟨dst, op, type, pos, after, guard⟩ := o
  simp only at hd
  subst hd
  simp only [aop] at hk ⊢
  cases op <;> first | exact absurd rfl hp | skip
  all_goals simp only [opK, ev_heap, ev_heap', evPs_heap, evs_heap, Option.getD_some] at hk ⊢
  all_goals first | (cases hk; done) | skip
  case alloc elem =>
    split at hk
    · rename_i i hi hf
      split at hk
      · rename_i z hz
        obtain ⟨hb, hk⟩ := cond_some hk
        simp only [mkp, Option.some.injEq, Prod.mk.injEq] at hk
        obtain ⟨rfl, rfl⟩ := hk
        refine ⟨by simp, fun h' _ hown => ?_⟩
        rw [hown _ (Nat.le_refl _) (by omega), hi, hf]
        simp only [hz, hb, cond_true, mkp]
      · cases hk
    · cases hk
  case box t x =>
    split at hk
    · rename_i cs hc hf
      simp only [mkp, Option.some.injEq, Prod.mk.injEq] at hk
      obtain ⟨rfl, rfl⟩ := hk
      refine ⟨by simp, fun h' _ hown => ?_⟩
      rw [hown _ (Nat.le_refl _) (by omega), hc, hf]
      simp only [mkp]
    · cases hk
  case buildSlice t n ps =>
    unfold opBuildSlice at hk ⊢
    split at hk
    · rename_i e i t' he hf
      obtain ⟨hb, hk⟩ := cond_some hk
      split at hk
      · rename_i xs l' hl
        cases l' with
        | cons a r => cases hk
        | nil =>
          simp only [mkp, Option.some.injEq, Prod.mk.injEq] at hk
          obtain ⟨rfl, rfl⟩ := hk
          refine ⟨by simp [freezes, app], fun h' _ hown => ?_⟩
          rw [hown _ (Nat.le_refl _) (by omega), he, hf]
          simp only [hb, cond_true, litRow_frame hl (h' := h') (by simp), mkp, freezes]
      · cases hk
    · cases hk
  case load t x =>
    rw [opLoad_nat] at hk
    obtain ⟨h1, rfl⟩ := bindp hk
    refine ⟨by simp, fun h' hag _ => ?_⟩
    rw [opLoad_nat]
    have : opLoad E.P h' (some l) t (st.ev x) some = opLoad E.P st.heap (some l) t (st.ev x) some := by unfold opLoad; rw [rdH_frame hag]
    rw [this, h1]
    rfl
  case binOp op t x y _ =>
    rw [binK_nat] at hk
    obtain ⟨h1, rfl⟩ := bindp hk
    refine ⟨by simp, fun h' hag _ => ?_⟩
    rw [rdH_frame hag, binK_nat, h1]
    rfl
  case makeSlice t a c =>
    unfold opMakeSlice at hk ⊢
    split at hk
    · rename_i he hl hc
      split at hk
      · rename_i hf
        obtain ⟨hb, hk⟩ := cond_some hk
        simp only [mkp, Option.some.injEq, Prod.mk.injEq] at hk
        obtain ⟨rfl, rfl⟩ := hk
        refine ⟨by simp, fun h' _ hown => ?_⟩
        rw [hown _ (Nat.le_refl _) (by omega)]
        simp only [hf, hb, cond_true, mkp]
      · cases hk
    · cases hk
  case slice t x lo hi mx =>
    unfold opSlice at hk ⊢
    split at hk
    · cases hk
    · split at hk
      · rename_i hu hx
        refine ⟨?_, fun h' _ _ => by first | exact hk | (rw [hu, hx]; exact hk)⟩
        split at hk
        · have := (cond_some hk).2
          simp only [mkp, Option.some.injEq, Prod.mk.injEq] at this
          rw [← this.2]; simp
        · cases hk
      · rename_i hu hx
        refine ⟨?_, fun h' _ _ => by first | exact hk | (rw [hu, hx]; exact hk)⟩
        split at hk
        · have := (cond_some hk).2
          simp only [mkp, Option.some.injEq, Prod.mk.injEq] at this
          rw [← this.2]; simp
        · cases hk
      · cases hk
      · rename_i hu hx
        refine ⟨?_, fun h' _ _ => by first | exact hk | (rw [hu, hx]; exact hk)⟩
        split at hk
        · have := (cond_some hk).2
          simp only [mkp, Option.some.injEq, Prod.mk.injEq] at this
          rw [← this.2]; simp
        · cases hk
      · cases hk
  case indexAddr t x i =>
    rw [opIndexAddr_nat] at hk
    obtain ⟨h1, rfl⟩ := bindp hk
    refine ⟨by simp, fun h' hag _ => ?_⟩
    rw [opIndexAddr_nat]
    have : opIndexAddr E.P h' (some l) t (st.ev x) (st.ev i) some = opIndexAddr E.P st.heap (some l) t (st.ev x) (st.ev i) some := by unfold opIndexAddr; rw [rdH_frame hag]
    rw [this, h1]
    rfl
  case call c =>
    split at hk
    · rename_i f hc
      split at hk
      · rename_i fid hf
        unfold opCall at hk
        split at hk
        · rename_i s hs
          split at hk
          · rename_i x l' hx
            obtain ⟨hb, hk⟩ := cond_some hk
            cases hy : s.f x with
            | none => rw [hy] at hk; cases hk
            | some y =>
              rw [hy] at hk
              simp only [Option.bind_some] at hk
              obtain ⟨hfr, hk⟩ := cond_some hk
              simp only [mkp, Option.some.injEq, Prod.mk.injEq] at hk
              obtain ⟨rfl, rfl⟩ := hk
              have hb2 := hb
              simp only [Bool.and_eq_true] at hb2
              obtain ⟨hsl, hlt, hor⟩ := hb2
              have hsl : sls (tupT s.rt) < 60 := Nat.le_of_ble_eq_true hsl
              have hin : ∀ p ∈ (resVs s.own (nid st.ep d 0) s.rt y 0).2, nid st.ep d 0 ≤ p.1 ∧ p.1 < nid st.ep d 0 + 64 := by
                rintro ⟨i, b⟩ hm
                obtain ⟨k, hk⟩ := List.getElem?_of_mem hm
                have h1 := resVs_upd _ _ _ _ _ k i b hk
                have h2 := (List.getElem?_eq_some_iff.1 hk).1
                have h3 := resVs_len s.own (nid st.ep d 0) s.rt y 0
                simp only
                omega
              have hz : ∀ h : Heap, (bif (tupT s.rt).shallow && s.own then [] else freezes h l') = ([] : Upd) := by
                intro h
                cases hsh : (tupT s.rt).shallow && s.own
                · rw [hsh] at hor
                  simp only [Bool.false_or] at hor
                  cases l' with
                  | nil => rfl
                  | cons a r => cases hor
                · rfl
              rw [hz]
              refine ⟨by simpa [app] using hin, fun h' hag hown => ?_⟩
              unfold opCall
              simp only [hs, argsIn_frame hx (fun i hi => hag i (ltAll_mem hlt i hi)), hb, cond_true, hy, Option.bind_some]
              rw [freeUpd_frame (fun p hp => hown p.1 (hin p hp).1 (hin p hp).2), hfr, hz]
              rfl
          · cases hk
        · cases hk
      · cases hk
    · rename_i hc
      split at hk
      · rename_i h1 h2
        rw [opLen_nat] at hk
        obtain ⟨h3, rfl⟩ := bindp hk
        refine ⟨by simp, fun h' hag _ => ?_⟩
        rw [opLen_nat]
        have this : ∀ t x, opLen E.P h' (some l) t (st.ev x) some = opLen E.P st.heap (some l) t (st.ev x) some := by intro t x; unfold opLen; rw [rdH_frame hag]
        rw [this, h3]
        rfl
      · cases hk
    · cases hk
    · rename_i hc; exact absurd (by simp only [pureOp, hc]) hp
    · rename_i hc; exact absurd (by simp only [pureOp, hc]) hp
    · cases hk

end
end Go.VM
