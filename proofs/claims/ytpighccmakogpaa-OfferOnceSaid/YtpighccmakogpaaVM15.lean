/- The value machine: a state taken apart into plain data, and put together again. -/
import Derived.Test.YtpighccmakogpaaVM14
namespace Go.VM
open Go.RowKit

theorem disjB_spec : ∀ {l m : List Nat}, disjB l m = true → ∀ x, x ∈ l → x ∉ m
  | [], _, _, x, hx => by simp at hx
  | y :: l, m, h, x, hx => by
    simp only [disjB, Bool.and_eq_true, Bool.not_eq_true'] at h
    rcases List.mem_cons.1 hx with rfl | hx
    · intro hm
      rw [(memN_iff _ _).2 hm] at h
      cases h.1
    · exact disjB_spec h.2 x hx
theorem nodupB_spec : ∀ {l : List Nat}, nodupB l = true → l.Nodup
  | [], _ => List.nodup_nil
  | x :: l, h => by
    simp only [nodupB, Bool.and_eq_true, Bool.not_eq_true'] at h
    refine List.nodup_cons.2 ⟨fun hm => ?_, nodupB_spec h.2⟩
    rw [(memN_iff _ _).2 hm] at h
    cases h.1

theorem cid_inj {s c s' c' : Nat} (h : cid s c = cid s' c') (hc : c < 64) (hc' : c' < 64) : s = s' ∧ c = c' := by
  unfold cid at h
  omega

section
variable {W0 : World} {O : Nat → Prop} {μ : Mu} {st : St} {a : Act} {w : World}

/-- The state as far as it is put together: what stands in it has its source in the elder state. -/
structure Enc (st : St) (μ : Mu) (A : Nat → Prop) (a : Act) (w : World) (done : Nat → Prop) (used : Nat → Prop) (e : St) (μ' : Mu) : Prop where
  tmps : ∀ t, VRep w A μ' e.heap (e.tmp t) (a.tmps.getD t undef)
  blks : ∀ id blk, e.heap id = some blk → BRep w A μ' e.heap (μ' id) blk ∧ blk.own = true
  srcs : ∀ id blk b c, e.heap id = some blk → μ' id = some (b, c) → ∃ id0 blk0 c0, used id0 ∧ st.heap id0 = some blk0 ∧ blk0.own = true ∧ μ id0 = some (b, c0)
  inj : ∀ id id' blk blk' b c c', e.heap id = some blk → e.heap id' = some blk' → μ' id = some (b, c) → μ' id' = some (b, c') → id = id'
  dom : ∀ id blk, e.heap id = some blk → ∃ s c, id = cid s c ∧ c < 64 ∧ done s
  n : e.n = st.n

/-- The heap has more in it. -/
theorem ext_step {A : Nat → Prop} {h h2 : Heap} {μ' μ2 : Mu} (hh : ∀ id blk, h id = some blk → h2 id = some blk ∧ μ2 id = μ' id) : Step w w A A μ' μ2 h h2 :=
  ⟨fun _ _ _ => rfl, fun _ h => .inl h, fun id blk hb => ⟨blk, (hh id blk hb).1, by cases blk <;> simp [compat], (hh id blk hb).2⟩⟩

/-- A block more. -/
theorem Enc.add (r : RelM W0 O μ st a w) {A : Nat → Prop} {done used done' used' : Nat → Prop} {e : St} {μ' : Mu} (h : Enc st μ A a w done used e μ') {id : Nat} {blk : Blk} {m : Option (Nat × Nat)} (hid : e.heap id = none)
    (ho : blk.own = true) (hB : Step w w A A μ' (updM μ' id m) e.heap (updH e.heap id blk) → BRep w A (updM μ' id m) (updH e.heap id blk) m blk)
    (hsrc : ∀ b c, m = some (b, c) → ∃ id0 blk0 c0, ¬ used id0 ∧ used' id0 ∧ st.heap id0 = some blk0 ∧ blk0.own = true ∧ μ id0 = some (b, c0))
    (hu : ∀ x, used x → used' x) (hd : ∀ s, done s → done' s) (hdom : ∃ s c, id = cid s c ∧ c < 64 ∧ done' s) :
    Enc st μ A a w done' used' { e with heap := updH e.heap id blk } (updM μ' id m) ∧ Step w w A A μ' (updM μ' id m) e.heap (updH e.heap id blk) := by
  have hne : ∀ j b, e.heap j = some b → j ≠ id := fun j b hb he => by rw [he, hid] at hb; cases hb
  have s : Step w w A A μ' (updM μ' id m) e.heap (updH e.heap id blk) := ext_step fun j b hb => ⟨by rw [updH_ne _ _ (hne j b hb), hb], updM_ne _ _ (hne j b hb)⟩
  have clash : ∀ j b bb c c', j ≠ id → updH e.heap id blk j = some b → updM μ' id m j = some (bb, c) → m = some (bb, c') → False := by
    intro j b bb c c' hj hb hm hm'
    rw [updH_ne _ _ hj] at hb
    rw [updM_ne _ _ hj] at hm
    obtain ⟨id0, blk0, c0, h1, h2, h3, h4⟩ := h.srcs j b bb c hb hm
    obtain ⟨id1, blk1, c1, k1, _, k2, k3, k4⟩ := hsrc bb c' hm'
    have := r.inj id0 id1 blk0 blk1 bb c0 c1 h2 k2 h3 k3 h4 k4
    subst this
    exact k1 h1
  refine ⟨⟨fun t => s.vrep (h.tmps t), fun j b hb => ?_, fun j b bb c hb hm => ?_, fun j j' b b' bb c c' hb hb' hm hm' => ?_, fun j b hb => ?_, h.n⟩, s⟩
  · by_cases hj : j = id
    · subst hj
      have hb : updH e.heap j blk j = some b := hb
      rw [updH_same] at hb
      cases hb
      rw [updM_same]
      exact ⟨hB s, ho⟩
    · have hb : updH e.heap id blk j = some b := hb
      rw [updH_ne _ _ hj] at hb
      rw [updM_ne _ _ hj]
      exact ⟨s.brep (fun _ _ _ _ => rfl) (h.blks j b hb).1, (h.blks j b hb).2⟩
  · by_cases hj : j = id
    · subst hj
      rw [updM_same] at hm
      obtain ⟨id0, blk0, c0, _, h3, h4, h5, h6⟩ := hsrc bb c hm
      exact ⟨id0, blk0, c0, h3, h4, h5, h6⟩
    · have hb : updH e.heap id blk j = some b := hb
      rw [updH_ne _ _ hj] at hb
      rw [updM_ne _ _ hj] at hm
      obtain ⟨id0, blk0, c0, h2, h3, h4, h5⟩ := h.srcs j b bb c hb hm
      exact ⟨id0, blk0, c0, hu _ h2, h3, h4, h5⟩
  · by_cases hj : j = id
    · by_cases hj' : j' = id
      · rw [hj, hj']
      · rw [hj, updM_same] at hm
        exact (clash j' b' bb c' c hj' hb' hm' hm).elim
    · by_cases hj' : j' = id
      · rw [hj', updM_same] at hm'
        exact (clash j b bb c c' hj hb hm hm').elim
      · have hb : updH e.heap id blk j = some b := hb
        have hb' : updH e.heap id blk j' = some b' := hb'
        rw [updH_ne _ _ hj] at hb
        rw [updM_ne _ _ hj] at hm
        rw [updH_ne _ _ hj'] at hb'
        rw [updM_ne _ _ hj'] at hm'
        exact h.inj j j' b b' bb c c' hb hb' hm hm'
  · by_cases hj : j = id
    · rw [hj]; exact hdom
    · have hb : updH e.heap id blk j = some b := hb
      rw [updH_ne _ _ hj] at hb
      obtain ⟨s', c', h1, h2, h3⟩ := h.dom j b hb
      exact ⟨s', c', h1, h2, hd _ h3⟩

/-- The blocks that the elder state keeps. -/
def AvO (O : Nat → Prop) (μ : Mu) (ow : List Nat) (b : Nat) : Prop := O b ∨ ∃ id c, id ∈ ow ∧ μ id = some (b, c)

theorem castRow {t t' : Ty} {xs : List t'.den} {x : (Ty.sl t).den} (h : castTo (.sl t) (t := .sl t') xs = some x) : ∃ e : t' = t, x = e ▸ xs := by
  obtain ⟨e, rfl⟩ := castTo_some h
  cases e
  exact ⟨rfl, rfl⟩

/-- A cell, taken out and put back. -/
theorem encC_ok (r : RelM W0 O μ st a w) {ow : List Nat} (hown : ∀ id, id ∈ ow → ∃ blk, st.heap id = some blk ∧ blk.own = true) {done used : Nat → Prop} {e : St} {μ' : Mu}
    (h : Enc st μ (AvO O μ ow) a w done used e μ') {s c : Nat} (hs : e.heap (cid s c) = none) (hc : c < 64) {k : CK} {x : k.ty.den} {cell : C} {v : Value} (hd : decC st.heap ow k cell = some x)
    (hr : CRep w (Av O μ st.heap) μ st.heap cell v) (how : ∀ id, id ∈ ownsC k cell → id ∈ ow ∧ ¬ used id) :
    ∃ μ2, Enc st μ (AvO O μ ow) a w (fun q => done q ∨ q = s) (fun q => used q ∨ q ∈ ownsC k cell) { e with heap := updsH e.heap (encC s c k x).2 } μ2 ∧
      Step w w (AvO O μ ow) (AvO O μ ow) μ' μ2 e.heap (updsH e.heap (encC s c k x).2) ∧ CRep w (AvO O μ ow) μ2 (updsH e.heap (encC s c k x).2) (encC s c k x).1 v ∧
      (∀ id, id ≠ cid s c → (updsH e.heap (encC s c k x).2) id = e.heap id) := by
  have same : Enc st μ (AvO O μ ow) a w (fun q => done q ∨ q = s) (fun q => used q ∨ q ∈ ownsC k cell) { e with heap := e.heap } μ' ∧ Step w w (AvO O μ ow) (AvO O μ ow) μ' μ' e.heap e.heap := by
    refine ⟨⟨h.tmps, h.blks, fun id blk b c hb hm => ?_, h.inj, fun id blk hb => ?_, h.n⟩, ext_step fun id blk hb => ⟨hb, rfl⟩⟩
    · obtain ⟨id0, blk0, c0, h2, h3⟩ := h.srcs id blk b c hb hm
      exact ⟨id0, blk0, c0, .inl h2, h3⟩
    · obtain ⟨s', c', h1, h2, h3⟩ := h.dom id blk hb
      exact ⟨s', c', h1, h2, .inl h3⟩
  have hAA : ∀ b, AvO O μ ow b → Av O μ st.heap b := by
    rintro b (hb | ⟨id, c, hid, hm⟩)
    · exact .inl hb
    · obtain ⟨blk, h1, h2⟩ := hown id hid
      exact .inr ⟨id, blk, c, h1, h2, hm⟩
  cases k with
  | skip =>
    obtain ⟨h2, s2⟩ := same
    exact ⟨μ', h2, s2, hr.one, fun _ _ => rfl⟩
  | val t =>
    obtain ⟨h2, s2⟩ := same
    refine ⟨μ', h2, s2, ?_, fun _ _ => rfl⟩
    simp only [decC] at hd
    split at hd
    · rename_i x' ids him
      obtain ⟨hc2, hd⟩ := cond_some hd
      cases hd
      simp only [Bool.and_eq_true] at hc2
      have hf : FRep w (AvO O μ ow) t x [v] := by
        refine implode_all hAA r.blks him ⟨hr, trivial⟩ (fun id hid b c hm hav => ?_)
        obtain ⟨u, xs, fz, hb⟩ := implode_rows him id hid
        rcases hav with hO | ⟨id', c', hid', hm'⟩
        · cases fz with
          | true =>
            have := r.blks id _ hb
            rw [hm] at this
            exact this.2.2 rfl (.inl hO)
          | false =>
            have := r.fresh id _ b c hb rfl hm
            have := r.outer b hO
            omega
        · obtain ⟨blk', hb', ho'⟩ := hown id' hid'
          cases fz with
          | true =>
            have := r.blks id _ hb
            rw [hm] at this
            exact this.2.2 rfl (.inr ⟨id', blk', c', hb', ho', hm'⟩)
          | false =>
            have := r.inj id id' _ blk' b c c' hb hb' rfl ho' hm hm'
            subst this
            exact disjB_spec hc2.1 id hid hid'
      have hcs := explode_rep (μ := μ') (h := e.heap) hf
      simp only [encC, updsH]
      cases hx : explode t x with
      | nil => rw [hx] at hcs; exact hcs.elim
      | cons c1 l =>
        rw [hx] at hcs
        cases l with
        | nil => exact hcs.1
        | cons c2 l => exact hcs.2.elim
    · cases hd
  | row t =>
    simp only [decC] at hd
    split at hd
    · -- nil
      obtain ⟨hz, hd⟩ := cond_none hd
      cases hd
      have hz : 0 < t.sz := by
        rcases Nat.eq_zero_or_pos t.sz with h0 | h0
        · rw [h0] at hz; cases hz
        · exact h0
      obtain ⟨h2, s2⟩ := h.add r (done' := fun q => done q ∨ q = s) (used' := fun q => used q ∨ q ∈ ownsC (.row t) .nils) (id := cid s c) (blk := .row t [] false) (m := none) hs rfl (fun _ => ⟨hz, rfl⟩) (fun b c hm => by cases hm)
        (fun _ h => .inl h) (fun _ h => .inl h) ⟨s, c, rfl, hc, .inr rfl⟩
      refine ⟨_, h2, s2, ⟨_, updH_same .., by rw [show v = .slice none 0 0 from hr]; rfl, fun t' xs fz he => ?_⟩, fun id hne => updH_ne _ _ hne⟩
      cases he
      rw [updM_same]
      exact hr
    · rename_i id0
      split at hd
      · rename_i u xs hb
        obtain ⟨e0, rfl⟩ := castRow hd
        cases e0
        obtain ⟨ho1, ho2⟩ := how id0 (by simp [ownsC])
        have hbr := r.blks id0 _ hb
        have hbr' : BRep w (AvO O μ ow) (updM μ' (cid s c) (μ id0)) (updH e.heap (cid s c) (.row t xs false)) (μ id0) (.row t xs false) := by
          refine ⟨hbr.1, ?_⟩
          have h2 := hbr.2
          cases hm : μ id0 with
          | none => rw [hm] at h2; exact h2
          | some p => rw [hm] at h2; exact ⟨RowAt.mono hAA h2.1, by simp⟩
        obtain ⟨h2, s2⟩ := h.add r (done' := fun q => done q ∨ q = s) (used' := fun q => used q ∨ q ∈ ownsC (.row t) (.ref id0)) (id := cid s c) (blk := .row t xs false) (m := μ id0) hs rfl (fun _ => hbr')
          (fun b c hm => ⟨id0, _, c, ho2, .inr (by simp [ownsC]), hb, rfl, hm⟩) (fun _ h => .inl h) (fun _ h => .inl h) ⟨s, c, rfl, hc, .inr rfl⟩
        obtain ⟨blk, hb', h1, hv⟩ := hr
        rw [hb] at hb'
        cases hb'
        refine ⟨_, h2, s2, ⟨_, updH_same .., h1, fun t' xs' fz he => ?_⟩, fun id hne => updH_ne _ _ hne⟩
        cases he
        rw [updM_same]
        exact hv t xs false rfl
      · rename_i hno
        exfalso
        cases hq : st.heap id0 with
        | none => rw [hq] at hd; cases hd
        | some b =>
          rw [hq] at hd
          cases b with
          | row u xs fz =>
            cases fz with
            | false => exact hno u xs hq
            | true => cases hd
          | box cs => cases hd
          | dead => cases hd
    · cases hd

theorem ownsCs_mem {ks : List CK} {cs : List C} : ∀ {id : Nat}, id ∈ ownsCs ks cs → id ∈ ownsCs ks cs := fun h => h

/-- The cells of a box, one after the other. -/
theorem encCs_ok (r : RelM W0 O μ st a w) {ow : List Nat} (hown : ∀ id, id ∈ ow → ∃ blk, st.heap id = some blk ∧ blk.own = true) {s : Nat} :
    ∀ (ks : List CK) (cells : List C) (x : (ckTy ks).den) (vs : List Value) (c : Nat) (done used : Nat → Prop) (e : St) (μ' : Mu), Enc st μ (AvO O μ ow) a w done used e μ' → decCs st.heap ow ks cells = some x →
      CsRep w (Av O μ st.heap) μ st.heap cells vs → c + ks.length ≤ 64 → (∀ j, c ≤ j → j < 64 → e.heap (cid s j) = none) → (∀ id, id ∈ ownsCs ks cells → id ∈ ow ∧ ¬ used id) → (ownsCs ks cells).Nodup →
      ∃ μ2, Enc st μ (AvO O μ ow) a w (fun q => done q ∨ q = s) (fun q => used q ∨ q ∈ ownsCs ks cells) { e with heap := updsH e.heap (encCs s c ks x).2 } μ2 ∧
        Step w w (AvO O μ ow) (AvO O μ ow) μ' μ2 e.heap (updsH e.heap (encCs s c ks x).2) ∧ CsRep w (AvO O μ ow) μ2 (updsH e.heap (encCs s c ks x).2) (encCs s c ks x).1 vs ∧
        (∀ id, (∀ j, c ≤ j → j < 64 → id ≠ cid s j) → (updsH e.heap (encCs s c ks x).2) id = e.heap id)
  | [], [], x, vs, c, done, used, e, μ', h, hd, hr, _, _, _, _ => by
    cases vs with
    | nil =>
      refine ⟨μ', ⟨h.tmps, h.blks, fun id blk b cc hb hm => ?_, h.inj, fun id blk hb => ?_, h.n⟩, ext_step fun id blk hb => ⟨hb, rfl⟩, trivial, fun _ _ => rfl⟩
      · obtain ⟨id0, blk0, c0, h2, h3⟩ := h.srcs id blk b cc hb hm
        exact ⟨id0, blk0, c0, .inl h2, h3⟩
      · obtain ⟨s', c', h1, h2, h3⟩ := h.dom id blk hb
        exact ⟨s', c', h1, h2, .inl h3⟩
    | cons v vs => exact hr.elim
  | k :: ks, cell :: cells, x, vs, c, done, used, e, μ', h, hd, hr, hlen, hfree, how, hnd => by
    cases vs with
    | nil => exact hr.elim
    | cons v vs =>
    simp only [decCs] at hd
    split at hd
    · rename_i x1 h1
      split at hd
      · rename_i x2 h2
        cases hd
        simp only [ownsCs, app_eq] at how hnd
        rw [List.nodup_append] at hnd
        have hlen' : c + (ks.length + 1) ≤ 64 := hlen
        obtain ⟨μ1, e1, s1, r1, f1⟩ := encC_ok r hown h (s := s) (c := c) (hfree c (Nat.le_refl _) (by omega)) (by omega) h1 hr.1 (fun id hid => how id (List.mem_append_left _ hid))
        obtain ⟨μ2, e2, s2, r2, f2⟩ := encCs_ok r hown ks cells x2 vs (c + 1) _ _ _ μ1 e1 h2 hr.2 (by omega) (fun j hj hj2 => by
            show (updsH e.heap (encC s c k x1).2) (cid s j) = none
            rw [f1 _ (fun he => by have := cid_inj he hj2 (by omega); omega)]
            exact hfree j (by omega) hj2)
          (fun id hid => ⟨(how id (List.mem_append_right _ hid)).1, fun hu => hu.elim (how id (List.mem_append_right _ hid)).2 (fun hq => hnd.2.2 id hq id hid rfl)⟩) hnd.2.1
        have hup : updsH e.heap (encCs s c (k :: ks) (x1, x2)).2 = updsH (updsH e.heap (encC s c k x1).2) (encCs s (c + 1) ks x2).2 := by
          simp only [encCs, app_eq]
          exact updsH_append _ _ _
        refine ⟨μ2, ?_, ?_, ?_, fun id hne => ?_⟩
        · rw [hup]
          refine ⟨e2.tmps, e2.blks, fun id blk b cc hb hm => ?_, e2.inj, fun id blk hb => ?_, e2.n⟩
          · obtain ⟨id0, blk0, c0, h2, h3⟩ := e2.srcs id blk b cc hb hm
            refine ⟨id0, blk0, c0, ?_, h3⟩
            simp only [ownsCs, app_eq, List.mem_append]
            rcases h2 with (h2 | h2) | h2
            · exact .inl h2
            · exact .inr (.inl h2)
            · exact .inr (.inr h2)
          · obtain ⟨s', c', h1, h2, h3⟩ := e2.dom id blk hb
            refine ⟨s', c', h1, h2, ?_⟩
            rcases h3 with (h3 | h3) | h3
            · exact .inl h3
            · exact .inr h3
            · exact .inr h3
        · rw [hup]
          refine ⟨fun _ _ _ => rfl, fun _ h => .inl h, fun id blk hb => ?_⟩
          obtain ⟨b1, hb1, c1, m1⟩ := s1.blk id blk hb
          obtain ⟨b2, hb2, c2, m2⟩ := s2.blk id b1 hb1
          exact ⟨b2, hb2, compat_trans c1 c2, m2.trans m1⟩
        · rw [hup]
          exact ⟨s2.crep r1, r2⟩
        · rw [hup, f2 id (fun j hj hj2 => hne j (by omega) hj2)]
          exact f1 id (hne c (Nat.le_refl _) (by omega))
      · cases hd
    · cases hd
  | [], _ :: _, _, _, _, _, _, _, _, _, hd, _, _, _, _, _ => by simp [decCs] at hd
  | _ :: _, [], _, _, _, _, _, _, _, _, hd, _, _, _, _, _ => by simp [decCs] at hd
where
  compat_trans {b0 b1 b2 : Blk} (h : compat b0 b1) (k : compat b1 b2) : compat b0 b2 := by
    cases b2 with
    | row t xs fz =>
      obtain ⟨xs1, fz1, rfl, h1⟩ := k
      obtain ⟨xs0, fz0, rfl, h0⟩ := h
      exact ⟨xs0, fz0, rfl, h0.trans h1⟩
    | box cs => trivial
    | dead => trivial
end
end Go.VM
