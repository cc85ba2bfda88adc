import Derived.Test.YticbohfmkiafiaaVM17
namespace Go.VM
open Go.RowKit
noncomputable def Ext (h h' : Heap) : Prop := ∀ i, h i ≠ none → h' i = h i
theorem implode_ids {h : Heap} : ∀ {t : Ty} {cs : List C} {x : t.den} {r : List C} {l : List Nat}, implode h t cs = some (x, r, l) → ∀ i ∈ l, h i ≠ none
  | .unit, _, _, _, _, hi => by cases hi; simp
  | .int _, cs, _, _, _, hi => by
    simp only [implode] at hi
    rw [takeVal_ids hi]; simp
  | .bool, cs, _, _, _, hi => by
    simp only [implode] at hi
    rw [takeVal_ids hi]; simp
  | .str, cs, _, _, _, hi => by
    simp only [implode] at hi
    rw [takeVal_ids hi]; simp
  | .err, cs, _, _, _, hi => by
    simp only [implode] at hi
    rw [takeVal_ids hi]; simp
  | .pair a b, cs, x, r, l, hi => by
    simp only [implode] at hi
    split at hi
    · rename_i x1 r1 l1 h1
      split at hi
      · rename_i x2 r2 l2 h2
        simp only [Option.some.injEq, Prod.mk.injEq] at hi
        obtain ⟨rfl, rfl, rfl⟩ := hi
        rw [app_eq]
        intro i hi
        rcases List.mem_append.1 hi with hi | hi
        · exact implode_ids h1 i hi
        · exact implode_ids h2 i hi
      · cases hi
    · cases hi
  | .sl t, cs, x, r, l, hi => by
    simp only [implode] at hi
    cases hkm : t.mk with
    | true =>
      rw [hkm] at hi
      intro i him
      obtain ⟨_, _, _, hb⟩ := takeMk_rows hi i him
      rw [hb]; simp
    | false =>
    rw [hkm] at hi
    simp only [cond_false] at hi
    unfold takeSl at hi
    split at hi
    · split at hi
      · simp only [Option.some.injEq, Prod.mk.injEq] at hi
        obtain ⟨rfl, rfl, rfl⟩ := hi
        simp
      · cases hi
    · simp only [Option.some.injEq, Prod.mk.injEq] at hi
      obtain ⟨rfl, rfl, rfl⟩ := hi
      simp
    · split at hi
      · rename_i hb
        split at hi
        · simp only [Option.some.injEq, Prod.mk.injEq] at hi
          obtain ⟨rfl, rfl, rfl⟩ := hi
          simp [hb]
        · cases hi
      · cases hi
    · split at hi
      · rename_i hb
        split at hi
        · simp only [Option.some.injEq, Prod.mk.injEq] at hi
          obtain ⟨rfl, rfl, rfl⟩ := hi
          simp [hb]
        · cases hi
      · cases hi
    · split at hi
      · rename_i hb
        have hi := (cond_some hi).2
        split at hi
        · simp only [Option.some.injEq, Prod.mk.injEq] at hi
          obtain ⟨rfl, rfl, rfl⟩ := hi
          simp [hb]
        · cases hi
      · cases hi
    · cases hi
where
  takeVal_ids {t : Ty} {cs : List C} {x : t.den} {r : List C} {l : List Nat} (hi : takeVal t cs = some (x, r, l)) : l = [] := by
    unfold takeVal at hi
    split at hi
    · split at hi
      · simp only [Option.some.injEq, Prod.mk.injEq] at hi
        exact hi.2.2.symm
      · cases hi
    · cases hi
theorem decK_ext {h h' : Heap} (he : Ext h h') {ow : List Nat} : ∀ {k : CK} {self : Option Nat} {cs : List C} {x : k.ty.den}, decK h ow self k cs = some x →
    decK h' ow self k cs = some x ∧ ownsK h' k cs = ownsK h k cs ∧ takesK h' k cs = takesK h k cs ∧ ∀ i ∈ takesK h k cs, h i ≠ none
  | .val t, self, cs, x, hd => by
    rw [decK_val] at hd
    split at hd
    · rename_i x' ids hi
      have hids := implode_ids hi
      have hi' := implode_frame (h' := h') hi (fun i hm => he i (hids i hm))
      rw [decK_val, takesK_val, takesK_val, hi', hi]
      exact ⟨hd, rfl, rfl, hids⟩
    · cases hd
  | .row t, self, cs, x, hd => by
    obtain ⟨c, rfl, hd2⟩ := row_some hd
    refine ⟨?_, by cases c <;> rfl, rfl, fun i hi => by cases hi⟩
    rw [decK_row]
    show decRow h' t c = some x
    cases c with
    | nils => exact hd2
    | ref id =>
      simp only [decRow] at hd2 ⊢
      cases hb : h id with
      | none => rw [hb] at hd2; cases hd2
      | some b => rw [he id (by rw [hb]; simp), hb]; rw [hb] at hd2; exact hd2
    | sub id n =>
      simp only [decRow] at hd2 ⊢
      cases hb : h id with
      | none => rw [hb] at hd2; cases hd2
      | some b => rw [he id (by rw [hb]; simp), hb]; rw [hb] at hd2; exact hd2
    | _ => cases hd2
  | .skip, self, cs, x, hd => ⟨hd, rfl, rfl, fun i hi => by cases hi⟩
  | .nilp, self, cs, x, hd => ⟨hd, rfl, rfl, fun i hi => by cases hi⟩
  | .slf, self, cs, x, hd => ⟨hd, rfl, rfl, fun i hi => by cases hi⟩
  | .fn _, self, cs, x, hd => ⟨hd, rfl, rfl, fun i hi => by cases hi⟩
  | .view _, self, cs, x, hd => ⟨hd, rfl, rfl, fun i hi => by cases hi⟩
  | .nil, self, cs, x, hd => ⟨hd, rfl, rfl, fun i hi => by cases hi⟩
  | .box e k, self, cs, x, hd => by
    rw [decK_box] at hd
    split at hd
    · rename_i id off
      have hc := (cond_some hd).1
      have hd2 := (cond_some hd).2
      cases hb : h id with
      | none => rw [hb] at hd2; cases hd2
      | some bb =>
        rw [hb] at hd2
        cases bb with
        | box e' ds =>
          have hce := (cond_some hd2).1
          have hd2 := (cond_some hd2).2
          have hb' : h' id = some (.box e' ds) := by rw [he id (by rw [hb]; simp), hb]
          obtain ⟨a1, a2, a3, a4⟩ := decK_ext he hd2
          rw [decK_box, ownsK_box, ownsK_box, takesK_box, takesK_box]
          simp only [hc, hce, cond_true, hb, hb']
          exact ⟨a1, by rw [a2], a3, a4⟩
        | _ => cases hd2
    · cases hd
  | .clo g k, self, cs, x, hd => by
    rw [decK_clo] at hd
    split at hd
    · rename_i g' ids
      have hc := (cond_some hd).1
      obtain ⟨h1, h2, h3, h4⟩ := decK_ext he (cond_some hd).2
      rw [decK_clo]
      simp only [hc, cond_true]
      exact ⟨h1, h2, h3, h4⟩
    · cases hd
  | .cons k ks, self, cs, x, hd => by
    rw [decK_cons] at hd
    split at hd
    · rename_i x1 h1
      split at hd
      · rename_i x2 h2
        obtain ⟨a1, a2, a3, a4⟩ := decK_ext he h1
        obtain ⟨b1, b2, b3, b4⟩ := decK_ext he h2
        rw [decK_cons, ownsK_cons, ownsK_cons, takesK_cons, takesK_cons, a1, a2, a3]
        simp only
        rw [b1, b2, b3]
        refine ⟨hd, rfl, rfl, fun i hi => ?_⟩
        rw [app_eq] at hi
        rcases List.mem_append.1 hi with hi | hi
        · exact a4 i hi
        · exact b4 i hi
      · cases hd
    · cases hd
theorem decLs_ext {h h' : Heap} (he : Ext h h') {args : List V} {ow : List Nat} : ∀ {l : List CK} {n : Nat} {x : (lTy (lay n l)).den}, decLs (argSt h args) ow (lay n l) = some x →
    decLs (argSt h' args) ow (lay n l) = some x ∧ ownsLs (argSt h' args) (lay n l) = ownsLs (argSt h args) (lay n l) ∧ takesLs (argSt h' args) (lay n l) = takesLs (argSt h args) (lay n l) ∧ ∀ i ∈ takesLs (argSt h args) (lay n l), h i ≠ none
  | [], n, x, hd => ⟨hd, rfl, rfl, fun i hi => by cases hi⟩
  | k :: l, n, x, hd => by
    simp only [lay, decLs, ownsLs, takesLs] at hd ⊢
    split at hd
    · rename_i x1 h1
      split at hd
      · rename_i x2 h2
        obtain ⟨b1, b2, b3, b4⟩ := decLs_ext he h2
        have ha : decL (argSt h' args) ow n (.obj k) = some x1 ∧ ownsL (argSt h' args) n (.obj k) = ownsL (argSt h args) n (.obj k) ∧ takesL (argSt h' args) n (.obj k) = takesL (argSt h args) n (.obj k) ∧ ∀ i ∈ takesL (argSt h args) n (.obj k), h i ≠ none := by
          simp only [decL, ownsL, takesL] at h1 ⊢
          have e : (argSt h' args).tmp n = (argSt h args).tmp n := rfl
          rw [e]
          split at h1
          · rename_i cs hcs
            exact decK_ext he h1
          · cases h1
        rw [ha.1, ha.2.1, ha.2.2.1]
        simp only
        rw [b1, b2, b3]
        refine ⟨hd, rfl, rfl, fun i hi => ?_⟩
        rw [app_eq] at hi
        rcases List.mem_append.1 hi with hi | hi
        · exact ha.2.2.2 i hi
        · exact b4 i hi
      · cases hd
    · cases hd
theorem dec_ext {h h' : Heap} (he : Ext h h') {args : List V} {l : List CK} {x : (lTy (lay 0 l)).den} (hd : dec (lay 0 l) (argSt h args) = some x) :
    dec (lay 0 l) (argSt h' args) = some x ∧ ownsLs (argSt h' args) (lay 0 l) = ownsLs (argSt h args) (lay 0 l) ∧ takesLs (argSt h' args) (lay 0 l) = takesLs (argSt h args) (lay 0 l) ∧ ∀ i ∈ takesLs (argSt h args) (lay 0 l), h i ≠ none := by
  unfold dec at hd ⊢
  have hc := (cond_some hd).1
  obtain ⟨b1, b2, b3, b4⟩ := decLs_ext he (cond_some hd).2
  rw [b2]
  refine ⟨?_, rfl, b3, b4⟩
  have e : (argSt h' args).n = (argSt h args).n := rfl
  rw [e, hc]
  exact b1
theorem freezes_ext {h h' : Heap} (he : Ext h h') : ∀ {l : List Nat}, (∀ i ∈ l, h i ≠ none) → freezes h' l = freezes h l
  | [], _ => rfl
  | i :: l, hl => by
    simp only [freezes]
    rw [he i (hl i (by simp)), freezes_ext he (fun j hj => hl j (List.mem_cons_of_mem _ hj))]
theorem call_ext {E : Env} {h h' : Heap} (he : Ext h h') {id f : Nat} {args : List V} {v : V} {u : Upd} (h1 : ∃ s, E.C f = [s]) (hk : opCall E id h none f args mkp = some (v, u)) (hu : ∀ p ∈ u, h p.1 = none → h' p.1 = none) :
    opCall E id h' none f args mkp = some (v, u) := by
  obtain ⟨s, hs⟩ := h1
  unfold opCall at hk ⊢
  rw [hs] at hk ⊢
  have ho : oneSig none [s] = true := rfl
  rw [ho] at hk ⊢
  simp only [cond_true, callSigs] at hk ⊢
  split at hk
  · rename_i x hx
    obtain ⟨d1, d2, d3, d4⟩ := dec_ext he hx
    rw [d1]
    simp only
    unfold callSig at hk ⊢
    rw [d2, d3]
    have hc := (cond_some hk).1
    have hk := (cond_some hk).2
    rw [hc]
    simp only [cond_true]
    cases hy : s.F x with
    | none => rw [hy] at hk; cases hk
    | some y =>
      rw [hy] at hk
      simp only [Option.bind_some] at hk ⊢
      obtain ⟨lo, z, hmem, hco, hback⟩ := outK_mem (K' := callOut id h' s.lent args (somes (ownsLs (argSt h args) (lay 0 s.ins))) (takesLs (argSt h args) (lay 0 s.ins)) mkp) hk
      refine hback ?_
      unfold callOut at hco ⊢
      have hcc := (cond_some hco).1
      have hco := (cond_some hco).2
      simp only [Bool.and_eq_true] at hcc
      obtain ⟨hfree, hrest⟩ := hcc
      simp only [mkp, Option.some.injEq, Prod.mk.injEq] at hco
      obtain ⟨rfl, rfl⟩ := hco
      dsimp only
      rw [freeUpd_frame (h := h) (h' := h') (fun p hp => ?_), hfree, freezes_ext he d4]
      · simp only [Bool.and_eq_true, Bool.true_and] at hrest ⊢
        rw [hrest.1, hrest.2.1, hrest.2.2]
        rfl
      · have hp' := hu p (by rw [app_eq, app_eq]; exact List.mem_append_right _ (List.mem_append_right _ hp))
        cases hb : h p.1 with
        | none => exact hp' hb
        | some b => rw [he p.1 (by rw [hb]; simp), hb]
  · cases hk
noncomputable def SimB (a b : Option Blk) : Prop := a = b ∨ ∃ t xs f f', a = some (.row t xs f) ∧ b = some (.row t xs f')
theorem SimB.symm {a b : Option Blk} : SimB a b → SimB b a
  | .inl h => .inl h.symm
  | .inr ⟨t, xs, f, f', h1, h2⟩ => .inr ⟨t, xs, f', f, h2, h1⟩
theorem encK_unfrozen (g : Nat → Nat) : ∀ (k : CK) (self : Option Nat) (i : Nat) (x : k.ty.den), ∀ p ∈ (encK g self i k x).2, frozenB p.2 = false
  | .val t, _, _, _ => fun p hp => by cases hp
  | .row t, _, _, _ => fun p hp => by
    simp only [encK, List.mem_cons, List.not_mem_nil, or_false] at hp
    subst hp; rfl
  | .skip, _, _, _ => fun p hp => by cases hp
  | .nilp, _, _, _ => fun p hp => by cases hp
  | .slf, _, _, _ => fun p hp => by cases hp
  | .fn _, _, _, _ => fun p hp => by cases hp
  | .view _, _, _, _ => fun p hp => by cases hp
  | .box _ k, _, i, x => fun p hp => by
    simp only [encK, List.mem_cons] at hp
    rcases hp with rfl | hp
    · rfl
    · exact encK_unfrozen g k _ _ _ p hp
  | .clo _ k, _, i, x => encK_unfrozen g k none i x
  | .nil, _, _, _ => fun p hp => by cases hp
  | .cons k ks, self, i, x => fun p hp => by
    simp only [encK, app_eq] at hp
    rcases List.mem_append.1 hp with hp | hp
    · exact encK_unfrozen g k self i x.1 p hp
    · exact encK_unfrozen g ks self _ x.2 p hp
theorem encLs_unfrozen (g : Nat → Nat) : ∀ (l : Layout) (tmp : Nat → V) (i : Nat) (x : (lTy l).den), ∀ p ∈ (encLs g tmp i l x).2, frozenB p.2 = false
  | [], _, _, _ => fun p hp => by cases hp
  | (s, .obj k) :: r, tmp, i, x => fun p hp => by
    simp only [encLs, app_eq] at hp
    rcases List.mem_append.1 hp with hp | hp
    · exact encK_unfrozen g k none i x.1 p hp
    · exact encLs_unfrozen g r _ _ x.2 p hp
  | (s, .same s') :: r, tmp, i, x => fun p hp => by
    simp only [encLs, app_eq] at hp
    rcases List.mem_append.1 hp with hp | hp
    · cases hp
    · exact encLs_unfrozen g r _ _ x.2 p hp
  | (s, .win s' z) :: r, tmp, i, x => fun p hp => by
    simp only [encLs, app_eq] at hp
    rcases List.mem_append.1 hp with hp | hp
    · cases hp
    · exact encLs_unfrozen g r _ _ x.2 p hp
  | (s, .fld s' z) :: r, tmp, i, x => fun p hp => by
    simp only [encLs, app_eq] at hp
    rcases List.mem_append.1 hp with hp | hp
    · cases hp
    · exact encLs_unfrozen g r _ _ x.2 p hp
  | (s, .cs f ss) :: r, tmp, i, x => fun p hp => by
    simp only [encLs, app_eq] at hp
    rcases List.mem_append.1 hp with hp | hp
    · cases hp
    · exact encLs_unfrozen g r _ _ x.2 p hp
theorem freezes_mem {h : Heap} : ∀ {l : List Nat}, ∀ p ∈ freezes h l, ∃ t xs f, h p.1 = some (.row t xs f) ∧ p.2 = .row t xs true
  | [], p, hp => by cases hp
  | i :: l, p, hp => by
    simp only [freezes] at hp
    split at hp
    · rename_i t xs f hb
      rcases List.mem_cons.1 hp with rfl | hp
      · exact ⟨t, xs, f, hb, rfl⟩
      · exact freezes_mem p hp
    · exact freezes_mem p hp
theorem kills_mem : ∀ {l : List Nat}, ∀ p ∈ kills l, frozenB p.2 = false
  | [], p, hp => by cases hp
  | i :: l, p, hp => by
    simp only [kills, List.mem_cons] at hp
    rcases hp with rfl | hp
    · rfl
    · exact kills_mem p hp
theorem callSig_frozen {h : Heap} {id : Nat} {args : List V} {v : V} {u : Upd} {s : Sig} {x : (lTy (lay 0 s.ins)).den} (hk : callSig id h none args mkp s x = some (v, u)) : ∀ p ∈ u, frozenB p.2 = true → ∃ t xs f, h p.1 = some (.row t xs f) ∧ p.2 = .row t xs true := by
  unfold callSig at hk
  have hk := (cond_some hk).2
  cases hy : s.F x with
  | none => rw [hy] at hk; cases hk
  | some y =>
    rw [hy] at hk
    simp only [Option.bind_some] at hk
    obtain ⟨lo, z, hmem, hco, _⟩ := outK_mem (K' := fun _ _ => none) hk
    unfold callOut at hco
    have hco := (cond_some hco).2
    simp only [mkp, Option.some.injEq, Prod.mk.injEq] at hco
    obtain ⟨rfl, rfl⟩ := hco
    intro p hp hf
    rw [app_eq, app_eq] at hp
    rcases List.mem_append.1 hp with hp | hp
    · cases hl : lFlat (lay 0 lo)
      · rw [hl] at hp; exact freezes_mem p hp
      · rw [hl] at hp; cases hp
    · rcases List.mem_append.1 hp with hp | hp
      · rw [kills_mem p hp] at hf; cases hf
      · rw [encLs_unfrozen _ _ _ _ _ p hp] at hf; cases hf
theorem call_frozen {E : Env} {h : Heap} {id f : Nat} {args : List V} {v : V} {u : Upd} (hk : opCall E id h none f args mkp = some (v, u)) : ∀ p ∈ u, frozenB p.2 = true → ∃ t xs f, h p.1 = some (.row t xs f) ∧ p.2 = .row t xs true := by
  unfold opCall at hk
  have hk := (cond_some hk).2
  have key : ∀ (l : List Sig), callSigs id h none args mkp l = some (v, u) → ∀ p ∈ u, frozenB p.2 = true → ∃ t xs f, h p.1 = some (.row t xs f) ∧ p.2 = .row t xs true := by
    intro l
    induction l with
    | nil => intro hk; cases hk
    | cons s l ih =>
      intro hk
      simp only [callSigs] at hk
      split at hk
      · exact callSig_frozen hk
      · exact ih hk
  exact key _ hk
end Go.VM
