import Derived.Test.YticbohfmkiafiaaVM3
namespace Go.VM
open Go.RowKit
theorem beq_ref (n : Nat) : Nat.beq n n = true := by simp
theorem beq_of_ne {n m : Nat} (h : n ≠ m) : Nat.beq n m = false := by
  cases hb : Nat.beq n m
  · rfl
  · exact absurd (Nat.eq_of_beq_eq_true hb) h
theorem updH_same (h : Heap) (i : Nat) (b : Blk) : updH h i b i = some b := by simp [updH]
theorem updH_ne (h : Heap) {i j : Nat} (b : Blk) (hne : j ≠ i) : updH h i b j = h j := by simp [updH, beq_of_ne hne]
theorem updT_same (f : Nat → V) (i : Nat) (b : V) : updT f i b i = b := by simp [updT]
theorem updT_ne (f : Nat → V) {i j : Nat} (b : V) (hne : j ≠ i) : updT f i b j = f j := by simp [updT, beq_of_ne hne]
noncomputable def updM (μ : Mu) (i : Nat) (p : Option (Nat × Nat)) : Mu := fun j => if j = i then p else μ j
theorem updM_same (μ : Mu) (i : Nat) (p : Option (Nat × Nat)) : updM μ i p i = p := by simp [updM]
theorem updM_ne (μ : Mu) {i j : Nat} (p : Option (Nat × Nat)) (hne : j ≠ i) : updM μ i p j = μ j := by simp [updM, hne]
theorem memN_iff (n : Nat) : ∀ l : List Nat, memN n l = true ↔ n ∈ l
  | [] => by simp [memN]
  | m :: r => by simp [memN, memN_iff n r]
theorem BRep.lt {w : World} {A : Nat → Prop} {μ : Mu} {h : Heap} {b c : Nat} {blk : Blk} (k : BRep w A μ h (some (b, c)) blk) (hd : blk ≠ .dead) : b < w.heap.size := by
  cases blk with
  | box _ cs =>
    obtain ⟨b', c', cur, he, hb, _⟩ := k
    cases he
    exact (Array.getElem?_eq_some_iff.1 hb).1
  | row t xs fz =>
    obtain ⟨_, ⟨e, cur, fr, hb, _⟩, _⟩ := k
    exact (Array.getElem?_eq_some_iff.1 hb).1
  | dead => exact absurd rfl hd
theorem own_ne_dead {blk : Blk} (h : blk.own = true) : blk ≠ .dead := by rintro rfl; simp [Blk.own] at h
section
variable {W0 : World} {O : Out} {μ μ' : Mu} {st : St} {a : Act} {w w' : World} {h' : Heap}
theorem RelM.go [Dr] (r : RelM W0 O μ st a w) (s : Step w w' (Av O μ st.heap) (Av O μ' h') μ μ' st.heap h')
    (blks : ∀ id blk, h' id = some blk → BRep w' (Av O μ' h') μ' h' (μ' id) blk)
    (inj : ∀ id id' blk blk' b c c', h' id = some blk → h' id' = some blk' → blk.own = true → blk'.own = true → μ' id = some (b, c) → μ' id' = some (b, c') → id = id')
    (fresh : ∀ id blk b c, h' id = some blk → blk.own = true → μ' id = some (b, c) → W0.heap.size ≤ b ∨ O.i b)
    (below : BelowX O.i W0 w') : RelM W0 O μ' { st with heap := h' } a w' :=
  ⟨fun t => s.vrep (r.tmps t), blks, inj, fresh, below, r.outer, r.size, r.keep, r.defers, r.glob.frame s.mem s.av⟩
theorem BelowX.then [Dr] {I : Nat → Prop} {w0 w w' : World} (h : BelowX I w0 w) (k : BelowD w.heap.size w w') : BelowX I w0 w' :=
  h.trans (BelowX.of (I := fun _ => False) k) (fun _ _ h => h.elim)
theorem RelM.le [Dr] (r : RelM W0 O μ st a w) : W0.heap.size ≤ w.heap.size := r.below.size
theorem RelM.world [Dr] (r : RelM W0 O μ st a w) (hb : BelowD w.heap.size w w') :
    Step w w' (Av O μ st.heap) (Av O μ st.heap) μ μ st.heap st.heap ∧ RelM W0 O μ st a w' := by
  have s : Step w w' (Av O μ st.heap) (Av O μ st.heap) μ μ st.heap st.heap :=
    ⟨fun b _ hlt => hb.block b hlt, fun b h => .inl h, fun id blk h => ⟨blk, h, by cases blk <;> simp [compat], rfl⟩⟩
  exact ⟨s, r.go s (fun id blk h => s.brep (fun b c _ hlt => hb.block b hlt) (r.blks id blk h)) r.inj r.fresh (r.below.then hb)⟩
theorem RelM.new [Dr] (r : RelM W0 O μ st a w) {id b c : Nat} {blk : Blk} (hid : st.heap id = none) (hw : BelowD w.heap.size w w') (hb : w.heap.size ≤ b)
    (hB : Step w w' (Av O μ st.heap) (Av O (updM μ id (some (b, c))) (updH st.heap id blk)) μ (updM μ id (some (b, c))) st.heap (updH st.heap id blk) →
      BRep w' (Av O (updM μ id (some (b, c))) (updH st.heap id blk)) (updM μ id (some (b, c))) (updH st.heap id blk) (some (b, c)) blk) :
    Step w w' (Av O μ st.heap) (Av O (updM μ id (some (b, c))) (updH st.heap id blk)) μ (updM μ id (some (b, c))) st.heap (updH st.heap id blk) ∧
      RelM W0 O (updM μ id (some (b, c))) { st with heap := updH st.heap id blk } a w' := by
  have hne : ∀ j blk', st.heap j = some blk' → j ≠ id := fun j blk' h e => by rw [e, hid] at h; cases h
  have s : Step w w' (Av O μ st.heap) (Av O (updM μ id (some (b, c))) (updH st.heap id blk)) μ (updM μ id (some (b, c))) st.heap (updH st.heap id blk) := by
    refine ⟨fun b _ hlt => hw.block b hlt, fun b' h => ?_, fun j blk' h => ⟨blk', by rw [updH_ne _ _ (hne j blk' h), h], by cases blk' <;> simp [compat], updM_ne _ _ (hne j blk' h)⟩⟩
    rcases h with h | ⟨j, blk', c', hj, ho, hm⟩
    · exact .inl (.inl h)
    · by_cases hji : j = id
      · subst hji
        rw [updM_same] at hm
        cases hm
        exact .inr hb
      · rw [updH_ne _ _ hji] at hj
        rw [updM_ne _ _ hji] at hm
        exact .inl (.inr ⟨j, blk', c', hj, ho, hm⟩)
  have old : ∀ j blk' b' c', j ≠ id → updH st.heap id blk j = some blk' → blk'.own = true → updM μ id (some (b, c)) j = some (b', c') → b' < w.heap.size := by
    intro j blk' b' c' hji hj ho hm
    rw [updH_ne _ _ hji] at hj
    rw [updM_ne _ _ hji] at hm
    have := r.blks j blk' hj
    rw [hm] at this
    exact this.lt (own_ne_dead ho)
  refine ⟨s, r.go s (fun j blk' hj => ?_) (fun j j' bj bj' b' c1 c2 hj hj' ho ho' hm hm' => ?_) (fun j blk' b' c' hj ho hm => ?_) (r.below.then hw)⟩
  · by_cases hji : j = id
    · subst hji
      rw [updH_same] at hj
      cases hj
      rw [updM_same]
      exact hB s
    · rw [updM_ne _ _ hji]
      rw [updH_ne _ _ hji] at hj
      exact s.brep (fun b c _ hlt => hw.block b hlt) (r.blks j blk' hj)
  · by_cases hji : j = id
    · by_cases hji' : j' = id
      · rw [hji, hji']
      · have h1 := old j' bj' b' c2 hji' hj' ho' hm'
        rw [hji, updM_same] at hm
        cases hm
        omega
    · by_cases hji' : j' = id
      · have h1 := old j bj b' c1 hji hj ho hm
        rw [hji', updM_same] at hm'
        cases hm'
        omega
      · rw [updH_ne _ _ hji] at hj
        rw [updM_ne _ _ hji] at hm
        rw [updH_ne _ _ hji'] at hj'
        rw [updM_ne _ _ hji'] at hm'
        exact r.inj j j' bj bj' b' c1 c2 hj hj' ho ho' hm hm'
  · by_cases hji : j = id
    · subst hji
      rw [updM_same] at hm
      cases hm
      exact .inl (Nat.le_trans r.le hb)
    · rw [updH_ne _ _ hji] at hj
      rw [updM_ne _ _ hji] at hm
      exact r.fresh j blk' b' c' hj ho hm
theorem RelM.mod [Dr] (r : RelM W0 O μ st a w) {id b c : Nat} {blk blk' : Blk} (hid : st.heap id = some blk) (ho : blk.own = true) (hm : μ id = some (b, c)) (hc : compat blk blk') (ho' : blk'.own = true)
    (hw : ∀ k, k ≠ b → w'.heap[k]? = w.heap[k]?) (hsz : w'.heap.size = w.heap.size) (hos : w'.os = w.os) (htp : w'.tape = w.tape) (hou : w'.output = w.output) (hdr : w.drawn ≤ w'.drawn)
    (hB : Step w w' (Av O μ st.heap) (Av O μ (updH st.heap id blk')) μ μ st.heap (updH st.heap id blk') →
      BRep w' (Av O μ (updH st.heap id blk')) μ (updH st.heap id blk') (some (b, c)) blk') :
    Step w w' (Av O μ st.heap) (Av O μ (updH st.heap id blk')) μ μ st.heap (updH st.heap id blk') ∧ RelM W0 O μ { st with heap := updH st.heap id blk' } a w' := by
  have hAb : Av O μ st.heap b := .inr ⟨id, blk, c, hid, ho, hm⟩
  have back : ∀ j blk1, updH st.heap id blk' j = some blk1 → blk1.own = true → ∃ blk2, st.heap j = some blk2 ∧ blk2.own = true := by
    intro j blk1 hj ho1
    by_cases hji : j = id
    · subst hji; exact ⟨blk, hid, ho⟩
    · rw [updH_ne _ _ hji] at hj; exact ⟨blk1, hj, ho1⟩
  have s : Step w w' (Av O μ st.heap) (Av O μ (updH st.heap id blk')) μ μ st.heap (updH st.heap id blk') := by
    refine ⟨fun k hA hlt => hw k (fun e => hA (e ▸ hAb)), fun b' h => ?_, fun j blk1 h => ?_⟩
    · rcases h with h | ⟨j, blk1, c', hj, ho1, hm1⟩
      · exact .inl (.inl h)
      · obtain ⟨blk2, h2, ho2⟩ := back j blk1 hj ho1
        exact .inl (.inr ⟨j, blk2, c', h2, ho2, hm1⟩)
    · by_cases hji : j = id
      · subst hji
        rw [hid] at h
        cases h
        exact ⟨blk', updH_same .., hc, rfl⟩
      · exact ⟨blk1, by rw [updH_ne _ _ hji, h], by cases blk1 <;> simp [compat], rfl⟩
  have hbelow : BelowX O.i W0 w' := by
    refine ⟨hos.trans r.below.os, htp.trans r.below.tape, hou.trans r.below.output, by rw [hsz]; exact r.below.size, fun k hk hI => ?_, fun d => Nat.le_trans (r.below.drawn d) hdr⟩
    rw [hw k (fun e => by subst e; exact (r.fresh id blk k c hid ho hm).elim (fun h => by omega) hI)]
    exact r.below.block k hk hI
  refine ⟨s, r.go s (fun j blk1 hj => ?_) (fun j j' bj bj' b' c1 c2 hj hj' o1 o2 h1 h2 => ?_) (fun j blk1 b' c' hj o1 h1 => ?_) hbelow⟩
  · by_cases hji : j = id
    · subst hji
      rw [updH_same] at hj
      cases hj
      rw [hm]
      exact hB s
    · rw [updH_ne _ _ hji] at hj
      have hbr := r.blks j blk1 hj
      by_cases hd : blk1 = .dead
      · subst hd; trivial
      refine s.brep (fun b1 c1 hm1 hlt => hw b1 ?_) hbr
      rintro rfl
      cases blk1 with
      | dead => exact absurd rfl hd
      | box _ cs => exact hji (r.inj j id _ blk b1 c1 c hj hid rfl ho hm1 hm)
      | row t xs fz =>
        cases fz with
        | false => exact hji (r.inj j id _ blk b1 c1 c hj hid rfl ho hm1 hm)
        | true =>
          rw [hm1] at hbr
          exact hbr.2.2 rfl hAb
  · obtain ⟨b1, hb1, o1'⟩ := back j bj hj o1
    obtain ⟨b2, hb2, o2'⟩ := back j' bj' hj' o2
    exact r.inj j j' b1 b2 b' c1 c2 hb1 hb2 o1' o2' h1 h2
  · obtain ⟨b1, hb1, o1'⟩ := back j blk1 hj o1
    exact r.fresh j b1 b' c' hb1 o1' h1
noncomputable def fzBlk : Option Blk → Option Blk
  | some (.row t xs _) => some (.row t xs true)
  | b => b
noncomputable def isRow : Option Blk → Bool
  | some (.row _ _ _) => true
  | _ => false
theorem freezes_get (h : Heap) : ∀ (ids : List Nat) (h0 : Heap) (id : Nat), updsH h0 (freezes h ids) id = bif memN id ids && isRow (h id) then fzBlk (h id) else h0 id
  | [], h0, id => by simp [freezes, updsH, memN]
  | x :: l, h0, id => by
    have step : ∀ h1 : Heap, (bif memN id l && isRow (h id) then fzBlk (h id) else h1 id) = updsH h1 (freezes h l) id := fun h1 => (freezes_get h l h1 id).symm
    simp only [freezes]
    split
    · rename_i t xs fz hx
      simp only [updsH]
      rw [freezes_get h l]
      by_cases hxi : id = x
      · subst hxi
        simp only [memN, beq_ref, Bool.true_or, hx, isRow, fzBlk, updH_same, Bool.true_and, cond_true, Bool.and_true]
        cases memN id l <;> rfl
      · rw [updH_ne _ _ hxi]
        simp [memN, beq_of_ne hxi]
    · rename_i hx
      rw [freezes_get h l]
      by_cases hxi : id = x
      · subst hxi
        have : isRow (h id) = false := by
          cases hh : h id with
          | none => rfl
          | some b =>
            cases b with
            | row t xs fz => exact absurd hh (hx t xs fz)
            | _ => rfl
        simp [this]
      · simp [memN, beq_of_ne hxi]
theorem freezes_here (h : Heap) (ids : List Nat) (id : Nat) : updsH h (freezes h ids) id = bif memN id ids then fzBlk (h id) else h id := by
  rw [freezes_get]
  cases hm : memN id ids
  · rfl
  · cases hh : h id with
    | none => rfl
    | some b => cases b <;> rfl
theorem fz_cases (h : Heap) (ids : List Nat) (id : Nat) {blk' : Blk} (hb : updsH h (freezes h ids) id = some blk') :
    ∃ blk, h id = some blk ∧ (blk' = blk ∨ ∃ t xs fz, blk = .row t xs fz ∧ blk' = .row t xs true ∧ memN id ids = true) := by
  rw [freezes_here] at hb
  cases hm : memN id ids
  · rw [hm] at hb; exact ⟨blk', hb, .inl rfl⟩
  · rw [hm] at hb
    simp only [cond_true] at hb
    cases hh : h id with
    | none => rw [hh] at hb; cases hb
    | some b =>
      rw [hh] at hb
      cases b with
      | row t xs fz => simp only [fzBlk] at hb; cases hb; exact ⟨_, rfl, .inr ⟨t, xs, fz, rfl, rfl, rfl⟩⟩
      | box _ cs => simp only [fzBlk] at hb; cases hb; exact ⟨_, rfl, .inl rfl⟩
      | dead => simp only [fzBlk] at hb; cases hb; exact ⟨_, rfl, .inl rfl⟩
theorem RelM.fz [Dr] (r : RelM W0 O μ st a w) (ids : List Nat) :
    Step w w (Av O μ st.heap) (Av O μ (updsH st.heap (freezes st.heap ids))) μ μ st.heap (updsH st.heap (freezes st.heap ids)) ∧
      RelM W0 O μ { st with heap := updsH st.heap (freezes st.heap ids) } a w ∧
      (∀ id, memN id ids = true → ∀ b c, μ id = some (b, c) → (∃ t xs fz, st.heap id = some (.row t xs fz)) → ¬ Av O μ (updsH st.heap (freezes st.heap ids)) b) ∧
      (∀ b, Av O μ (updsH st.heap (freezes st.heap ids)) b → Av O μ st.heap b) := by
  have back : ∀ j blk1, updsH st.heap (freezes st.heap ids) j = some blk1 → blk1.own = true → st.heap j = some blk1 := by
    intro j blk1 hj ho1
    obtain ⟨blk, hb, h | ⟨t, xs, fz, _, rfl, _⟩⟩ := fz_cases _ _ _ hj
    · rw [hb, h]
    · simp [Blk.own] at ho1
  have hav : ∀ b', Av O μ (updsH st.heap (freezes st.heap ids)) b' → Av O μ st.heap b' := by
    rintro b' (h | ⟨j, blk1, c', hj, ho1, hm1⟩)
    · exact .inl h
    · exact .inr ⟨j, blk1, c', back j blk1 hj ho1, ho1, hm1⟩
  have hnot : ∀ id, memN id ids = true → ∀ b c, μ id = some (b, c) → (∃ t xs fz, st.heap id = some (.row t xs fz)) → ¬ Av O μ (updsH st.heap (freezes st.heap ids)) b := by
    rintro id hmem b c hm ⟨t, xs, fz, hid⟩ hA
    have hfz : updsH st.heap (freezes st.heap ids) id = some (.row t xs true) := by rw [freezes_here, hmem, hid]; rfl
    cases fz with
    | true =>
      have hbr := r.blks id _ hid
      rw [hm] at hbr
      exact hbr.2.2 rfl (hav _ hA)
    | false =>
      rcases hA with h | ⟨j, blk1, c', hj, ho1, hm1⟩
      · have h1 := r.outer b h
        exact (r.fresh id _ b c hid rfl hm).elim (fun h => by omega) h1.2
      · have hj0 := back j blk1 hj ho1
        have := r.inj j id blk1 _ b c' c hj0 hid ho1 rfl hm1 hm
        subst this
        rw [hfz] at hj
        cases hj
        simp [Blk.own] at ho1
  have s : Step w w (Av O μ st.heap) (Av O μ (updsH st.heap (freezes st.heap ids))) μ μ st.heap (updsH st.heap (freezes st.heap ids)) := by
    refine ⟨fun _ _ _ => rfl, fun b' h => .inl (hav b' h), fun j blk1 h => ?_⟩
    rw [freezes_here, h]
    cases hm : memN j ids
    · exact ⟨blk1, rfl, by cases blk1 <;> simp [compat], rfl⟩
    · cases blk1 with
      | row t xs fz => exact ⟨.row t xs true, rfl, ⟨xs, fz, rfl, rfl⟩, rfl⟩
      | box _ cs => exact ⟨_, rfl, trivial, rfl⟩
      | dead => exact ⟨_, rfl, trivial, rfl⟩
  refine ⟨s, r.go s (fun j blk1 hj => ?_) (fun j j' bj bj' b' c1 c2 hj hj' o1 o2 h1 h2 => ?_) (fun j blk1 b' c' hj o1 h1 => ?_) r.below, hnot, hav⟩
  · obtain ⟨blk, hb, h | ⟨t, xs, fz, rfl, rfl, hmem⟩⟩ := fz_cases _ _ _ hj
    · subst h
      exact s.brep (fun _ _ _ _ => rfl) (r.blks j blk1 hb)
    · have hbr := s.brep (fun _ _ _ _ => rfl) (r.blks j _ hb)
      obtain ⟨hz, hbr⟩ := hbr
      refine ⟨hz, ?_⟩
      cases hm : μ j with
      | none => rw [hm] at hbr; exact hbr
      | some p =>
        obtain ⟨b, c⟩ := p
        rw [hm] at hbr
        obtain ⟨⟨e, cur, fr, h1, h2, h3, h4, h5, h6⟩, _⟩ := hbr
        exact ⟨⟨e, cur, fr, h1, h2, h3, h4, ⟨by simp, h5.2⟩, h6⟩, fun _ => hnot j hmem b c hm ⟨t, xs, fz, hb⟩⟩
  · exact r.inj j j' bj bj' b' c1 c2 (back j bj hj o1) (back j' bj' hj' o2) o1 o2 h1 h2
  · exact r.fresh j blk1 b' c' (back j blk1 hj o1) o1 h1
theorem RelM.grow [Dr] (r : RelM W0 O μ st a w) {id0 id b c : Nat} {blk0 blk : Blk} (h0 : st.heap id0 = some blk0) (o0 : blk0.own = true) (hid : st.heap id = none)
    (hw : ∀ k, k < w.heap.size → (∀ c, μ id0 ≠ some (k, c)) → w'.heap[k]? = w.heap[k]?) (hsz : w.heap.size ≤ w'.heap.size) (hos : w'.os = w.os) (htp : w'.tape = w.tape) (hou : w'.output = w.output) (hdr : w.drawn ≤ w'.drawn)
    (hb : w.heap.size ≤ b ∨ ∃ c0, μ id0 = some (b, c0))
    (hB : Step w w' (Av O μ st.heap) (Av O (updM μ id (some (b, c))) (updH (updH st.heap id0 .dead) id blk)) μ (updM μ id (some (b, c))) st.heap (updH (updH st.heap id0 .dead) id blk) →
      BRep w' (Av O (updM μ id (some (b, c))) (updH (updH st.heap id0 .dead) id blk)) (updM μ id (some (b, c))) (updH (updH st.heap id0 .dead) id blk) (some (b, c)) blk) :
    Step w w' (Av O μ st.heap) (Av O (updM μ id (some (b, c))) (updH (updH st.heap id0 .dead) id blk)) μ (updM μ id (some (b, c))) st.heap (updH (updH st.heap id0 .dead) id blk) ∧
      RelM W0 O (updM μ id (some (b, c))) { st with heap := updH (updH st.heap id0 .dead) id blk } a w' := by
  have hne : ∀ j blk', st.heap j = some blk' → j ≠ id := fun j blk' h e => by rw [e, hid] at h; cases h
  have h00 : id0 ≠ id := hne id0 blk0 h0
  -- an own block of the new state, other than the new one, was one of the old state, and is not id0
  have back : ∀ j blk1, j ≠ id → updH (updH st.heap id0 .dead) id blk j = some blk1 → blk1.own = true → st.heap j = some blk1 ∧ j ≠ id0 := by
    intro j blk1 hji hj ho1
    rw [updH_ne _ _ hji] at hj
    by_cases hj0 : j = id0
    · subst hj0
      rw [updH_same] at hj
      cases hj
      simp [Blk.own] at ho1
    · rw [updH_ne _ _ hj0] at hj
      exact ⟨hj, hj0⟩
  have s : Step w w' (Av O μ st.heap) (Av O (updM μ id (some (b, c))) (updH (updH st.heap id0 .dead) id blk)) μ (updM μ id (some (b, c))) st.heap (updH (updH st.heap id0 .dead) id blk) := by
    refine ⟨fun k hA hlt => hw k hlt (fun c0 he => hA (.inr ⟨id0, blk0, c0, h0, o0, he⟩)), fun b' h => ?_, fun j blk1 h => ?_⟩
    · rcases h with h | ⟨j, blk1, c', hj, ho1, hm1⟩
      · exact .inl (.inl h)
      · by_cases hji : j = id
        · subst hji
          rw [updM_same] at hm1
          cases hm1
          rcases hb with hb | ⟨c0, hb⟩
          · exact .inr hb
          · exact .inl (.inr ⟨id0, blk0, c0, h0, o0, hb⟩)
        · rw [updM_ne _ _ hji] at hm1
          obtain ⟨hj', _⟩ := back j blk1 hji hj ho1
          exact .inl (.inr ⟨j, blk1, c', hj', ho1, hm1⟩)
    · have hji := hne j blk1 h
      rw [updH_ne _ _ hji, updM_ne _ _ hji]
      by_cases hj0 : j = id0
      · subst hj0
        exact ⟨.dead, updH_same .., trivial, rfl⟩
      · exact ⟨blk1, by rw [updH_ne _ _ hj0, h], by cases blk1 <;> simp [compat], rfl⟩
  have hlt0 : ∀ j blk1 b' c', st.heap j = some blk1 → blk1.own = true → μ j = some (b', c') → b' < w.heap.size := by
    intro j blk1 b' c' hj ho1 hm1
    have := r.blks j blk1 hj
    rw [hm1] at this
    exact this.lt (own_ne_dead ho1)
  have hbelow : BelowX O.i W0 w' := by
    refine ⟨hos.trans r.below.os, htp.trans r.below.tape, hou.trans r.below.output, Nat.le_trans r.below.size hsz, fun k hk hI => ?_, fun d => Nat.le_trans (r.below.drawn d) hdr⟩
    rw [hw k (Nat.lt_of_lt_of_le hk r.le) (fun c0 he => (r.fresh id0 blk0 k c0 h0 o0 he).elim (fun h => by omega) hI)]
    exact r.below.block k hk hI
  refine ⟨s, r.go s (fun j blk1 hj => ?_) (fun j j' bj bj' b' c1 c2 hj hj' o1 o2 h1 h2 => ?_) (fun j blk1 b' c' hj o1 h1 => ?_) hbelow⟩
  · by_cases hji : j = id
    · subst hji
      rw [updH_same] at hj
      cases hj
      rw [updM_same]
      exact hB s
    · rw [updM_ne _ _ hji]
      rw [updH_ne _ _ hji] at hj
      by_cases hj0 : j = id0
      · subst hj0
        rw [updH_same] at hj
        cases hj
        trivial
      · rw [updH_ne _ _ hj0] at hj
        have hbr := r.blks j blk1 hj
        by_cases hd : blk1 = .dead
        · subst hd; trivial
        refine s.brep (fun b1 c1 hm1 hlt => hw b1 hlt ?_) hbr
        rintro c0 he
        cases blk1 with
        | dead => exact absurd rfl hd
        | box _ cs => exact hj0 (r.inj j id0 _ blk0 b1 c1 c0 hj h0 rfl o0 hm1 he)
        | row t xs fz =>
          cases fz with
          | false => exact hj0 (r.inj j id0 _ blk0 b1 c1 c0 hj h0 rfl o0 hm1 he)
          | true =>
            rw [hm1] at hbr
            exact hbr.2.2 rfl (.inr ⟨id0, blk0, c0, h0, o0, he⟩)
  · have two : ∀ j bj c1, j ≠ id → updH (updH st.heap id0 .dead) id blk j = some bj → bj.own = true → updM μ id (some (b, c)) j = some (b, c1) → False := by
      intro j bj c1 hji hj ho hm
      obtain ⟨hj', hj0⟩ := back j bj hji hj ho
      rw [updM_ne _ _ hji] at hm
      rcases hb with hb | ⟨c0, hb⟩
      · have := hlt0 j bj b c1 hj' ho hm
        omega
      · exact hj0 (r.inj j id0 bj blk0 b c1 c0 hj' h0 ho o0 hm hb)
    by_cases hji : j = id
    · by_cases hji' : j' = id
      · rw [hji, hji']
      · rw [hji, updM_same] at h1
        cases h1
        exact (two j' bj' c2 hji' hj' o2 h2).elim
    · by_cases hji' : j' = id
      · rw [hji', updM_same] at h2
        cases h2
        exact (two j bj c1 hji hj o1 h1).elim
      · obtain ⟨hb1, _⟩ := back j bj hji hj o1
        obtain ⟨hb2, _⟩ := back j' bj' hji' hj' o2
        rw [updM_ne _ _ hji] at h1
        rw [updM_ne _ _ hji'] at h2
        exact r.inj j j' bj bj' b' c1 c2 hb1 hb2 o1 o2 h1 h2
  · by_cases hji : j = id
    · subst hji
      rw [updM_same] at h1
      cases h1
      rcases hb with hb | ⟨c0, hb⟩
      · exact .inl (Nat.le_trans r.le hb)
      · exact r.fresh id0 blk0 b c0 h0 o0 hb
    · obtain ⟨hb1, _⟩ := back j blk1 hji hj o1
      rw [updM_ne _ _ hji] at h1
      exact r.fresh j blk1 b' c' hb1 o1 h1
end
end Go.VM
