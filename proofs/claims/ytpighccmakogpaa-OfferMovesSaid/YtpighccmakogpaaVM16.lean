/- The value machine: canonical states. -/
import Derived.Test.YtpighccmakogpaaVM15
namespace Go.VM
open Go.RowKit
section
variable {W0 : World} {O : Nat → Prop} {μ : Mu} {st : St} {a : Act} {w : World}

theorem explode_one : ∀ (t : Ty) (x : t.den), t.isAgg = false → ∃ c, explode t x = [c]
  | .int _, _, _ => ⟨_, rfl⟩
  | .bool, _, _ => ⟨_, rfl⟩
  | .str, _, _ => ⟨_, rfl⟩
  | .sl _, _, _ => ⟨_, rfl⟩
  | .unit, _, h => by simp [Ty.isAgg] at h
  | .pair _ _, _, h => by simp [Ty.isAgg] at h

theorem valV_rep {A : Nat → Prop} {μ' : Mu} {h : Heap} {t : Ty} {x : t.den} {vs : List Value} {v : Value} (hf : FRep w A t x vs) (hs : shapeV t vs v) : VRep w A μ' h (valV t x) v := by
  have hc := explode_rep (μ := μ') (h := h) hf
  unfold valV
  unfold shapeV at hs
  cases ht : t.isAgg
  · rw [ht] at hs
    rw [if_neg (by simp)] at hs
    subst hs
    obtain ⟨c, he⟩ := explode_one t x ht
    rw [he] at hc
    simp only [cond_false, he]
    by_cases hu : c = .undef
    · subst hu; trivial
    · exact VRep.of_c hc.1
  · rw [ht] at hs
    rw [if_pos rfl] at hs
    subst hs
    exact ⟨_, rfl, hc⟩

theorem ow_sub (r : RelM W0 O μ st a w) {ow : List Nat} (hown : ∀ id, id ∈ ow → ∃ blk, st.heap id = some blk ∧ blk.own = true) : ∀ b, AvO O μ ow b → Av O μ st.heap b := by
  rintro b (hb | ⟨id, c, hid, hm⟩)
  · exact .inl hb
  · obtain ⟨blk, h1, h2⟩ := hown id hid
    exact .inr ⟨id, blk, c, h1, h2, hm⟩

/-- What is taken in as data, apart from what stays own. -/
theorem val_away (r : RelM W0 O μ st a w) {ow : List Nat} (hown : ∀ id, id ∈ ow → ∃ blk, st.heap id = some blk ∧ blk.own = true) {ids : List Nat} (hrow : ∀ id, id ∈ ids → ∃ u xs fz, st.heap id = some (.row u xs fz)) (hdj : disjB ids ow = true) :
    ∀ id, id ∈ ids → ∀ b c, μ id = some (b, c) → ¬ AvO O μ ow b := by
  intro id hid b c hm hav
  obtain ⟨u, xs, fz, hb⟩ := hrow id hid
  rcases hav with hO | ⟨id', c', hid', hm'⟩
  · cases fz with
    | true =>
      have := r.blks id _ hb
      rw [hm] at this
      exact this.2.2 rfl (.inl hO)
    | false =>
      have := r.fresh id _ b c hb rfl hm
      have := r.outer b hO
      omega
  · obtain ⟨blk', hb', ho'⟩ := hown id' hid'
    cases fz with
    | true =>
      have := r.blks id _ hb
      rw [hm] at this
      exact this.2.2 rfl (.inr ⟨id', blk', c', hb', ho', hm'⟩)
    | false =>
      have := r.inj id id' _ blk' b c c' hb hb' rfl ho' hm hm'
      subst this
      exact disjB_spec hdj id hid hid'

theorem Enc.tmp {A : Nat → Prop} {done used : Nat → Prop} {e : St} {μ' : Mu} (h : Enc st μ A a w done used e μ') {s : Nat} {v : V} (hv : VRep w A μ' e.heap v (a.tmps.getD s undef)) : Enc st μ A a w done used { e with tmp := updT e.tmp s v } μ' := by
  refine ⟨fun t => ?_, h.blks, h.srcs, h.inj, h.dom, h.n⟩
  by_cases ht : t = s
  · subst ht
    show VRep w A μ' e.heap (updT e.tmp t v t) _
    rw [updT_same]; exact hv
  · show VRep w A μ' e.heap (updT e.tmp s v t) _
    rw [updT_ne _ _ ht]; exact h.tmps t
theorem Enc.weaken {A : Nat → Prop} {done used done' used' : Nat → Prop} {e : St} {μ' : Mu} (h : Enc st μ A a w done used e μ') (hu : ∀ x, used x → used' x) (hd : ∀ s, done s → done' s) : Enc st μ A a w done' used' e μ' :=
  ⟨h.tmps, h.blks, fun id blk b c hb hm => let ⟨i, bl, c0, h1, h2⟩ := h.srcs id blk b c hb hm; ⟨i, bl, c0, hu _ h1, h2⟩, h.inj, fun id blk hb => let ⟨s, c, h1, h2, h3⟩ := h.dom id blk hb; ⟨s, c, h1, h2, hd _ h3⟩, h.n⟩

theorem encL_ok (r : RelM W0 O μ st a w) {ow : List Nat} (hown : ∀ id, id ∈ ow → ∃ blk, st.heap id = some blk ∧ blk.own = true) {done used : Nat → Prop} {e : St} {μ' : Mu} (h : Enc st μ (AvO O μ ow) a w done used e μ') {s : Nat} (hs : ¬ done s)
    {k : LK} (hk : ∀ ks, k = .box ks → ks.length < 63) {x : k.ty.den} (hd : decL st ow s k = some x) (how : ∀ id, id ∈ ownsL st s k → id ∈ ow ∧ ¬ used id) (hnd : (ownsL st s k).Nodup) :
    ∃ μ2, Enc st μ (AvO O μ ow) a w (fun q => done q ∨ q = s) (fun q => used q ∨ q ∈ ownsL st s k) { e with tmp := updT e.tmp s (encL e.tmp s k x).1, heap := updsH e.heap (encL e.tmp s k x).2 } μ2 := by
  have hfree : ∀ j, j < 64 → e.heap (cid s j) = none := by
    intro j hj
    cases hq : e.heap (cid s j) with
    | none => rfl
    | some blk =>
      obtain ⟨s', c', h1, h2, h3⟩ := h.dom _ blk hq
      have := cid_inj h1 hj h2
      rw [← this.1] at h3
      exact absurd h3 hs
  have hv := r.tmps s
  have hAA := ow_sub r hown
  cases k with
  | val t =>
    simp only [decL] at hd
    split at hd
    · rename_i cs hcs
      split at hd
      · rename_i x' ids him
        obtain ⟨hdj, hd⟩ := cond_some hd
        cases hd
        obtain ⟨vs, hr, hsh⟩ := cellsAs_rep hv hcs
        have hf := implode_all hAA r.blks him hr (val_away r hown (implode_rows him) hdj)
        exact ⟨μ', (h.tmp (valV_rep hf hsh)).weaken (fun _ h => .inl h) (fun _ h => .inl h)⟩
      · cases hd
    · cases hd
  | row t =>
    simp only [decL] at hd
    split at hd
    · rename_i c hc
      rw [hc] at hv
      have hcu : c ≠ .undef := by rintro rfl; simp [decC] at hd
      have ho : ownsC (.row t) c = ownsL st s (.row t) := by
        simp only [ownsL, hc]
        cases c <;> rfl
      obtain ⟨μ2, e2, _, r2, _⟩ := encC_ok r hown h (s := s) (c := 0) (k := .row t) (hfree 0 (by omega)) (by omega) hd (VRep.to_c hcu hv) (by rw [ho]; exact how)
      rw [ho] at e2
      exact ⟨μ2, e2.tmp (VRep.of_c (c := .ref (cid s 0)) r2)⟩
    · exfalso
      rename_i hno
      cases hq : st.tmp s with
      | c c => exact hno c hq
      | agg q => rw [hq] at hd; cases hd
      | tup q => rw [hq] at hd; cases hd
  | box ks =>
    simp only [decL] at hd
    split at hd
    · rename_i id hc
      rw [hc] at hv
      split at hd
      · rename_i cs hb
        have hoL : ownsL st s (.box ks) = ownsCs ks cs ++ [id] := by
          simp only [ownsL, hc, hb, app_eq]
        rw [hoL] at how hnd ⊢
        rw [List.nodup_append] at hnd
        obtain ⟨b, c, ee, cur, hm, hg, hcs⟩ := r.blks id _ hb
        obtain ⟨μ2, e2, s2, r2, f2⟩ := encCs_ok r hown (s := s) ks cs x cur.toList 1 done used e μ' h hd hcs (by have := hk ks rfl; omega) (fun j _ hj => hfree j hj) (fun id' hid => how id' (List.mem_append_left _ hid)) hnd.1
        have hid0 : (updsH e.heap (encCs s 1 ks x).2) (cid s 0) = none := by
          rw [f2 (cid s 0) (fun j hj hj2 he => by have := cid_inj he (by omega) hj2; omega)]
          exact hfree 0 (by omega)
        obtain ⟨h3, s3⟩ := e2.add r (done' := fun q => done q ∨ q = s) (used' := fun q => used q ∨ q ∈ ownsCs ks cs ++ [id]) (id := cid s 0) (blk := .box (encCs s 1 ks x).1) (m := some (b, c)) hid0 rfl
          (fun s3 => ⟨b, c, ee, cur, rfl, hg, s3.csrep r2⟩)
          (fun b' c' he => by
            cases he
            refine ⟨id, _, c, ?_, .inr (by simp), hb, rfl, hm⟩
            rintro (hu | hu)
            · exact (how id (by simp)).2 hu
            · exact hnd.2.2 id hu id (by simp) rfl)
          (fun q hq => hq.elim .inl (fun hq => .inr (List.mem_append_left _ hq))) (fun _ hq => hq) ⟨s, 0, rfl, by omega, .inr rfl⟩
        have hup : updsH e.heap (encL e.tmp s (.box ks) x).2 = updH (updsH e.heap (encCs s 1 ks x).2) (cid s 0) (.box (encCs s 1 ks x).1) := by
          simp only [encL, app_eq]
          rw [updsH_append]
          rfl
        rw [hup]
        refine ⟨_, h3.tmp (VRep.of_c (c := .ptr (cid s 0) 0) ?_)⟩
        obtain ⟨blk, b', c', hb', hm', hvv⟩ := VRep.to_c (by simp) hv
        rw [hm] at hm'
        cases hm'
        exact ⟨_, b, c, updH_same .., updM_same .., hvv⟩
      · exfalso
        rename_i hno
        cases hq : st.heap id with
        | none => rw [hq] at hd; cases hd
        | some q =>
          cases q with
          | box cs => exact hno cs hq
          | row u xs fz => rw [hq] at hd; cases hd
          | dead => rw [hq] at hd; cases hd
    · cases hd
  | same s' =>
    simp only [decL] at hd
    have hsv := (cond_some hd).1
    have hv' := r.tmps s'
    have heq : a.tmps.getD s undef = a.tmps.getD s' undef := by
      unfold sameV at hsv
      split at hsv
      · rename_i i j h1 h2
        rw [h1] at hv
        rw [h2] at hv'
        simp only [Bool.and_eq_true] at hsv
        have hij := Nat.eq_of_beq_eq_true hsv.1
        subst hij
        have hrow := hsv.2
        unfold isRowB at hrow
        split at hrow
        · rename_i t xs fz hb
          obtain ⟨blk, hb1, _, k1⟩ := VRep.to_c (by simp) hv
          obtain ⟨blk2, hb2, _, k2⟩ := VRep.to_c (by simp) hv'
          rw [hb] at hb1 hb2
          cases hb1
          cases hb2
          rw [k1 _ _ _ rfl, k2 _ _ _ rfl]
        · cases hrow
      · rename_i i j h1 h2
        rw [h1] at hv
        rw [h2] at hv'
        have hij := Nat.eq_of_beq_eq_true hsv
        subst hij
        obtain ⟨blk, b, c, hb1, m1, k1⟩ := VRep.to_c (by simp) hv
        obtain ⟨blk2, b2, c2, hb2, m2, k2⟩ := VRep.to_c (by simp) hv'
        rw [m1] at m2
        cases m2
        rw [k1, k2]
      · cases hsv
    refine ⟨μ', (h.tmp ?_).weaken (fun _ h => .inl h) (fun _ h => .inl h)⟩
    rw [heq]
    exact h.tmps s'

theorem encLs_ok (r : RelM W0 O μ st a w) {ow : List Nat} (hown : ∀ id, id ∈ ow → ∃ blk, st.heap id = some blk ∧ blk.own = true) :
    ∀ (l : Layout) (x : (lTy l).den) (done used : Nat → Prop) (e : St) (μ' : Mu), Enc st μ (AvO O μ ow) a w done used e μ' → decLs st ow l = some x → smallL st.n l = true → (slotsB l).Nodup → (∀ s, s ∈ slotsB l → ¬ done s) →
      (∀ id, id ∈ ownsLs st l → id ∈ ow ∧ ¬ used id) → (ownsLs st l).Nodup → ∃ μ2 done', Enc st μ (AvO O μ ow) a w done' (fun q => used q ∨ q ∈ ownsLs st l) (encLs e l x) μ2
  | [], x, done, used, e, μ', h, _, _, _, _, _, _ => ⟨μ', done, h.weaken (fun _ h => .inl h) (fun _ h => h)⟩
  | (s, k) :: l, x, done, used, e, μ', h, hd, hsm, hnd, hdn, how, hno => by
    simp only [decLs] at hd
    split at hd
    · rename_i x1 h1
      split at hd
      · rename_i x2 h2
        cases hd
        simp only [slotsB] at hnd hdn
        rw [List.nodup_cons] at hnd
        simp only [ownsLs, app_eq] at how hno
        rw [List.nodup_append] at hno
        simp only [smallL, Bool.and_eq_true] at hsm
        obtain ⟨μ2, e2⟩ := encL_ok r hown h (s := s) (hdn s (by simp)) (k := k) (fun ks hk => by
          have := hsm.1.2
          rw [hk] at this
          have := Nat.le_of_ble_eq_true this
          rw [len_eq] at this
          omega) h1 (fun id hid => how id (List.mem_append_left _ hid)) hno.1
        obtain ⟨μ3, done3, e3⟩ := encLs_ok r hown l x2 _ _ _ μ2 e2 h2 hsm.2 hnd.2 (fun q hq => by
            rintro (hdq | rfl)
            · exact hdn q (by simp [hq]) hdq
            · exact hnd.1 hq)
          (fun id hid => ⟨(how id (List.mem_append_right _ hid)).1, fun hu => hu.elim (how id (List.mem_append_right _ hid)).2 (fun hq => hno.2.2 id hq id hid rfl)⟩) hno.2.1
        refine ⟨μ3, done3, e3.weaken (fun q hq => ?_) (fun _ h => h)⟩
        simp only [ownsLs, app_eq, List.mem_append]
        rcases hq with (hq | hq) | hq
        · exact .inl hq
        · exact .inr (.inl hq)
        · exact .inr (.inr hq)
      · cases hd
    · cases hd

/-- The rows and boxes that stay are the machine's own. -/
theorem ownsCs_own (r : RelM W0 O μ st a w) {ow : List Nat} : ∀ {ks : List CK} {cs : List C} {x : (ckTy ks).den}, decCs st.heap ow ks cs = some x → ∀ id, id ∈ ownsCs ks cs → ∃ blk, st.heap id = some blk ∧ blk.own = true
  | [], [], _, _, id, hid => by simp [ownsCs] at hid
  | k :: ks, c :: cs, x, hd, id, hid => by
    simp only [decCs] at hd
    split at hd
    · rename_i x1 h1
      split at hd
      · rename_i x2 h2
        simp only [ownsCs, app_eq] at hid
        rcases List.mem_append.1 hid with hid | hid
        · exact ownsC_own h1 id hid
        · exact ownsCs_own r h2 id hid
      · cases hd
    · cases hd
  | [], _ :: _, _, hd, _, _ => by simp [decCs] at hd
  | _ :: _, [], _, hd, _, _ => by simp [decCs] at hd
where
  ownsC_own {ow : List Nat} {k : CK} {c : C} {x : k.ty.den} (hd : decC st.heap ow k c = some x) (id : Nat) (hid : id ∈ ownsC k c) : ∃ blk, st.heap id = some blk ∧ blk.own = true := by
    unfold ownsC at hid
    split at hid
    · rename_i t id'
      rw [List.mem_singleton.1 hid]
      simp only [decC] at hd
      cases hq : st.heap id' with
      | none => rw [hq] at hd; cases hd
      | some b =>
        rw [hq] at hd
        cases b with
        | row u xs fz =>
          cases fz with
          | false => exact ⟨_, rfl, rfl⟩
          | true => cases hd
        | box cs => cases hd
        | dead => cases hd
    · simp at hid
theorem ownsLs_own (r : RelM W0 O μ st a w) {ow : List Nat} : ∀ {l : Layout} {x : (lTy l).den}, decLs st ow l = some x → ∀ id, id ∈ ownsLs st l → ∃ blk, st.heap id = some blk ∧ blk.own = true
  | [], _, _, id, hid => by simp [ownsLs] at hid
  | (s, k) :: l, x, hd, id, hid => by
    simp only [decLs] at hd
    split at hd
    · rename_i x1 h1
      split at hd
      · rename_i x2 h2
        simp only [ownsLs, app_eq] at hid
        rcases List.mem_append.1 hid with hid | hid
        · cases k with
          | val t => simp [ownsL] at hid
          | same s' => simp [ownsL] at hid
          | row t =>
            simp only [decL] at h1
            split at h1
            · rename_i c hc
              simp only [ownsL, hc] at hid
              have : id ∈ ownsC (.row t) c := by cases c <;> simp_all [ownsC]
              exact ownsCs_own.ownsC_own (st := st) h1 id this
            · exfalso
              rename_i hno
              cases hq : st.tmp s with
              | c c => exact hno c hq
              | agg q => rw [hq] at h1; cases h1
              | tup q => rw [hq] at h1; cases h1
          | box ks =>
            simp only [decL] at h1
            split at h1
            · rename_i id' hc
              split at h1
              · rename_i cs hb
                simp only [ownsL, hc, hb, app_eq] at hid
                rcases List.mem_append.1 hid with hid | hid
                · exact ownsCs_own r h1 id hid
                · rw [List.mem_singleton.1 hid]
                  exact ⟨_, hb, rfl⟩
              · exfalso
                rename_i hno
                cases hq : st.heap id' with
                | none => rw [hq] at h1; cases h1
                | some q =>
                  cases q with
                  | box cs => exact hno cs hq
                  | row u xs fz => rw [hq] at h1; cases h1
                  | dead => rw [hq] at h1; cases h1
            · cases h1
        · exact ownsLs_own r h2 id hid
      · cases hd
    · cases hd

/-- **A state taken apart and put together again stands for the same memory.** -/
theorem Rel.canon (r : Rel W0 O st a w) {l : Layout} {x : (lTy l).den} (hd : dec l st = some x) : Rel W0 O (enc st.n l x) a w := by
  obtain ⟨μ, r⟩ := r
  unfold dec at hd
  have hc := (cond_some hd).1
  have hd2 := (cond_some hd).2
  clear hd
  simp only [Bool.and_eq_true] at hc
  have hown := ownsLs_own r hd2
  have h0 : Enc st μ (AvO O μ (ownsLs st l)) a w (fun _ => False) (fun _ => False) { tmp := fun _ => .c .undef, heap := fun _ => none, ep := 1, n := st.n } (fun _ => none) :=
    ⟨fun _ => trivial, fun id blk hb => (by cases hb), fun id blk b c hb => (by cases hb), fun id id' blk blk' b c c' hb => (by cases hb), fun id blk hb => (by cases hb), rfl⟩
  obtain ⟨μ2, done', h⟩ := encLs_ok r hown l x _ _ _ _ h0 hd2 hc.2 (nodupB_spec hc.1.2) (fun _ _ h => h) (fun id hid => ⟨hid, fun h => h⟩) (nodupB_spec hc.1.1)
  -- what keeps away from what the elder state keeps keeps away from what the new one has
  have hAv : ∀ b, Av O μ2 (enc st.n l x).heap b → AvO O μ (ownsLs st l) b := by
    rintro b (hb | ⟨id, blk, c, h1, h2, h3⟩)
    · exact .inl hb
    · obtain ⟨id0, blk0, c0, k1, k2, k3, k4⟩ := h.srcs id blk b c h1 h3
      rcases k1 with k1 | k1
      · exact k1.elim
      · exact .inr ⟨id0, c0, k1, k4⟩
  have s : Step w w (AvO O μ (ownsLs st l)) (Av O μ2 (enc st.n l x).heap) μ2 μ2 (enc st.n l x).heap (enc st.n l x).heap :=
    ⟨fun _ _ _ => rfl, fun b hb => .inl (hAv b hb), fun id blk hb => ⟨blk, hb, by cases blk <;> simp [compat], rfl⟩⟩
  refine ⟨μ2, fun t => s.vrep (h.tmps t), fun id blk hb => s.brep (fun _ _ _ _ => rfl) (h.blks id blk hb).1, fun id id' blk blk' b c c' h1 h2 _ _ h3 h4 => h.inj id id' blk blk' b c c' h1 h2 h3 h4, fun id blk b c h1 h2 h3 => ?_, r.below, r.outer, ?_, r.defers⟩
  · obtain ⟨id0, blk0, c0, _, k2, k3, k4⟩ := h.srcs id blk b c h1 h3
    exact r.fresh id0 blk0 b c0 k2 k3 k4
  · rw [r.size]; exact h.n.symm
end
end Go.VM
