import Derived.Test.YticbohfmkiafiaaVM13
namespace Go.VM
open Go.RowKit
noncomputable def shapeK (k : CK) (cs : List Value) (v : Value) : Prop := if k.isAgg = true then v = .agg cs.toArray else cs = [v]
noncomputable def FldAt (w : World) (off : Nat) (v v' : Value) : Prop := ∃ b e cur v0, v' = .pointer (some ⟨b, 0, none⟩) ∧ w.heap[b]? = some (.cells cur e (0, 0)) ∧ cur.toList[off]? = some v0 ∧ (v = v0 ∨ ∃ ad ad', v = .slice ad 0 0 ∧ v0 = .slice ad' 0 0)
noncomputable def CloAt (g : Nat) (v : Value) (us : List Value) : Prop := v = .func (.func g) #[] us.toArray ∧ ∀ u ∈ us, ∃ b, u = .pointer (some ⟨b, 0, none⟩)
noncomputable def LRepL (w : World) (A : Nat → Prop) (val : Nat → Value) : (l : Layout) → (lTy l).den → List Hd → Prop
  | [], _, hs => hs = []
  | (s, .obj k) :: r, x, hs => ∃ cs h0 h1, hs = h0 ++ h1 ∧ shapeK k cs (val s) ∧ ORep w A none k x.1 cs h0 ∧ LRepL w A val r x.2 h1
  | (s, .same s') :: r, x, hs => (val s = val s' ∨ ∃ ad ad', val s = .slice ad 0 0 ∧ val s' = .slice ad' 0 0) ∧ LRepL w A val r x.2 hs
  | (s, .win s' z) :: r, x, hs => (∃ ad c', val s = .slice ad (Int.toNat x.1.2) c' ∧ Int.toNat x.1.2 ≤ c' ∧ (0 < Int.toNat x.1.2 → ∃ b N c, val s' = .slice (some ⟨b, 0, none⟩) N c ∧ Int.toNat x.1.1 + Int.toNat x.1.2 ≤ N ∧ ad = some ⟨b, Int.toNat x.1.1 * z, none⟩)) ∧ LRepL w A val r x.2 hs
  | (s, .fld s' off) :: r, x, hs => FldAt w off (val s) (val s') ∧ LRepL w A val r x.2 hs
  | (s, .cs g ss) :: r, x, hs => CloAt g (val s) (ss.map val) ∧ LRepL w A val r x.2 hs
theorem LRepL.len {w : World} {A : Nat → Prop} {val : Nat → Value} : ∀ {l : Layout} {x : (lTy l).den} {hs : List Hd}, LRepL w A val l x hs → hs.length = lWd l
  | [], _, _, h => by rw [show _ = [] from h]; rfl
  | (s, .obj k) :: r, _, _, h => by
    obtain ⟨cs, h0, h1, rfl, _, ho, hr⟩ := h
    rw [List.length_append, ho.len.2, LRepL.len hr]
    rfl
  | (s, .same s') :: r, _, _, h => by
    rw [LRepL.len h.2]
    simp [lWd, LK.wd]
  | (s, .win s' z) :: r, _, _, h => by
    rw [LRepL.len h.2]
    simp [lWd, LK.wd]
  | (s, .fld s' z) :: r, _, _, h => by
    rw [LRepL.len h.2]
    simp [lWd, LK.wd]
  | (s, .cs g ss) :: r, _, _, h => by
    rw [LRepL.len h.2]
    simp [lWd, LK.wd]
theorem LRepL.mono {w : World} {A A' : Nat → Prop} (hA : ∀ b, A' b → A b) {val : Nat → Value} : ∀ {l : Layout} {x : (lTy l).den} {hs : List Hd}, LRepL w A val l x hs → LRepL w A' val l x hs
  | [], _, _, h => h
  | (s, .obj k) :: r, _, _, h => by
    obtain ⟨cs, h0, h1, hh, hs, ho, hr⟩ := h
    exact ⟨cs, h0, h1, hh, hs, ho.mono hA, LRepL.mono hA hr⟩
  | (s, .same s') :: r, _, _, h => ⟨h.1, LRepL.mono hA h.2⟩
  | (s, .win s' z) :: r, _, _, h => ⟨h.1, LRepL.mono hA h.2⟩
  | (s, .fld s' z) :: r, _, _, h => ⟨h.1, LRepL.mono hA h.2⟩
  | (s, .cs g ss) :: r, _, _, h => ⟨h.1, LRepL.mono hA h.2⟩
theorem LRepL.flat {w : World} {A A' : Nat → Prop} {val : Nat → Value} : ∀ {l : Layout} {x : (lTy l).den} {hs : List Hd}, lFlat l = true → LRepL w A val l x hs → LRepL w A' val l x hs
  | [], _, _, _, h => h
  | (s, .obj k) :: r, _, _, hf, h => by
    simp only [lFlat, LK.flat, Bool.and_eq_true] at hf
    obtain ⟨cs, h0, h1, hh, hs, ho, hr⟩ := h
    exact ⟨cs, h0, h1, hh, hs, ho.flat hf.1, LRepL.flat hf.2 hr⟩
  | (s, .same s') :: r, _, _, hf, h => by
    simp only [lFlat, LK.flat, Bool.and_eq_true] at hf
    exact ⟨h.1, LRepL.flat hf.2 h.2⟩
  | (s, .win s' z) :: r, _, _, hf, h => by
    simp only [lFlat, LK.flat, Bool.and_eq_true] at hf
    exact ⟨h.1, LRepL.flat hf.2 h.2⟩
  | (s, .fld s' z) :: r, _, _, hf, h => by
    simp only [lFlat, LK.flat, Bool.and_eq_true] at hf
    exact ⟨h.1, LRepL.flat hf.2 h.2⟩
  | (s, .cs g ss) :: r, _, _, hf, h => by
    simp only [lFlat, LK.flat, Bool.and_eq_true] at hf
    exact ⟨h.1, LRepL.flat hf.2 h.2⟩
noncomputable def Refs (l : Layout) (s s' : Nat) : Prop := (s, LK.same s') ∈ l ∨ (∃ z, (s, LK.win s' z) ∈ l) ∨ (∃ z, (s, LK.fld s' z) ∈ l) ∨ ∃ g ss, (s, LK.cs g ss) ∈ l ∧ s' ∈ ss
theorem Refs.cons {l : Layout} {s s' : Nat} {p : Nat × LK} : Refs l s s' → Refs (p :: l) s s'
  | .inl h => .inl (List.mem_cons_of_mem _ h)
  | .inr (.inl ⟨z, h⟩) => .inr (.inl ⟨z, List.mem_cons_of_mem _ h⟩)
  | .inr (.inr (.inl ⟨z, h⟩)) => .inr (.inr (.inl ⟨z, List.mem_cons_of_mem _ h⟩))
  | .inr (.inr (.inr ⟨g, ss, h, h2⟩)) => .inr (.inr (.inr ⟨g, ss, List.mem_cons_of_mem _ h, h2⟩))
theorem LRepL.vals {w : World} {A : Nat → Prop} {val val' : Nat → Value} : ∀ {l : Layout} {x : (lTy l).den} {hs : List Hd}, (∀ s, s ∈ slotsB l → val' s = val s) → (∀ s s', Refs l s s' → val' s' = val s') → LRepL w A val l x hs → LRepL w A val' l x hs
  | [], _, _, _, _, h => h
  | (s, .obj k) :: r, _, _, hv, hs', h => by
    obtain ⟨cs, h0, h1, hh, hs, ho, hr⟩ := h
    exact ⟨cs, h0, h1, hh, by rw [hv s (by simp [slotsB])]; exact hs, ho, LRepL.vals (fun q hq => hv q (by simp [slotsB, hq])) (fun a b hab => hs' a b hab.cons) hr⟩
  | (s, .same s') :: r, _, _, hv, hs', h => by
    refine ⟨?_, LRepL.vals (fun q hq => hv q (by simp [slotsB, hq])) (fun a b hab => hs' a b hab.cons) h.2⟩
    rw [hv s (by simp [slotsB]), hs' s s' (by simp [Refs])]
    exact h.1
  | (s, .win s' z) :: r, _, _, hv, hs', h => by
    refine ⟨?_, LRepL.vals (fun q hq => hv q (by simp [slotsB, hq])) (fun a b hab => hs' a b hab.cons) h.2⟩
    rw [hv s (by simp [slotsB]), hs' s s' (by simp [Refs])]
    exact h.1
  | (s, .fld s' z) :: r, _, _, hv, hs', h => by
    refine ⟨?_, LRepL.vals (fun q hq => hv q (by simp [slotsB, hq])) (fun a b hab => hs' a b hab.cons) h.2⟩
    rw [hv s (by simp [slotsB]), hs' s s' (by simp [Refs])]
    exact h.1
  | (s, .cs g ss) :: r, _, _, hv, hs', h => by
    refine ⟨?_, LRepL.vals (fun q hq => hv q (by simp [slotsB, hq])) (fun a b hab => hs' a b hab.cons) h.2⟩
    have e : ss.map val' = ss.map val := List.map_congr_left fun q hq => hs' s q (.inr (.inr (.inr ⟨g, ss, by simp, hq⟩)))
    rw [hv s (by simp [slotsB]), e]
    exact h.1
section
variable {w : World} {A A2 : Nat → Prop} {μ : Mu} {h : Heap} {val : Nat → Value}
theorem kV_rep {k : CK} {cells : List C} {cs : List Value} {v : Value} (hc : CsRep w A μ h cells cs) (hs : shapeK k cs v) : VRep w A μ h (kV k cells) v := by
  unfold kV
  unfold shapeK at hs
  cases hk : k.isAgg
  · rw [hk] at hs
    rw [if_neg (by simp)] at hs
    subst hs
    simp only [cond_false]
    match cells, hc with
    | [c], hc => exact VRep.of_c hc.1
    | [], hc => exact hc.elim
    | _ :: _ :: _, hc => exact hc.2.elim
  · rw [hk] at hs
    rw [if_pos rfl] at hs
    subst hs
    exact ⟨_, rfl, hc⟩
theorem cellsK_rep {k : CK} {x : V} {v : Value} {cs : List C} (hx : VRep w A μ h x v) (hc : x.cellsK k = some cs) : ∃ vs, CsRep w A μ h cs vs ∧ shapeK k vs v := by
  cases x with
  | c c =>
    by_cases hu : c = .undef
    · subst hu; simp [V.cellsK] at hc
    · have hk := VRep.to_c hu hx
      have : k.isAgg = false ∧ cs = [c] := by
        cases c <;> simp_all [V.cellsK] <;> (cases ht : k.isAgg <;> simp_all)
      obtain ⟨ht, rfl⟩ := this
      exact ⟨[v], ⟨hk, trivial⟩, by simp [shapeK, ht]⟩
  | agg l =>
    simp only [V.cellsK] at hc
    obtain ⟨ht, hc⟩ := cond_some hc
    cases hc
    obtain ⟨vs, rfl, hr⟩ := hx
    exact ⟨vs.toList, hr, by simp [shapeK, ht]⟩
  | tup l => simp [V.cellsK] at hc
theorem encLs_keys (g : Nat → Nat) : ∀ (l : Layout) (tmp : Nat → V) (i : Nat) (x : (lTy l).den), keys (encLs g tmp i l x).2 = (List.range' i (lWd l)).map g
  | [], _, _, _ => rfl
  | (s, .obj k) :: r, tmp, i, x => by
    have h0 := encK_keys g k none i x.1
    have h1 := encLs_keys g r (updT tmp s (encL g tmp i (.obj k) x.1).1) (i + k.wd) x.2
    show keys (app (encK g none i k x.1).2 (encLs g (updT tmp s (encL g tmp i (.obj k) x.1).1) (i + k.wd) r x.2).2) = (List.range' i (k.wd + lWd r)).map g
    rw [app_eq]
    simp only [keys, List.map_append] at h0 h1 ⊢
    rw [h0, h1, ← List.map_append, List.range'_append_1]
  | (s, .same s') :: r, tmp, i, x => by
    have h1 := encLs_keys g r (updT tmp s (sameE (tmp s'))) i x.2
    show keys (encLs g (updT tmp s (sameE (tmp s'))) i r x.2).2 = (List.range' i (0 + lWd r)).map g
    rw [Nat.zero_add]
    exact h1
  | (s, .win s' z) :: r, tmp, i, x => by
    have h1 := encLs_keys g r (updT tmp s (winE (Int.toNat x.1.1) (Int.toNat x.1.2) z (tmp s'))) i x.2
    show keys (encLs g (updT tmp s (winE (Int.toNat x.1.1) (Int.toNat x.1.2) z (tmp s'))) i r x.2).2 = (List.range' i (0 + lWd r)).map g
    rw [Nat.zero_add]
    exact h1
  | (s, .fld s' z) :: r, tmp, i, x => by
    have h1 := encLs_keys g r (updT tmp s (.c .undef)) i x.2
    show keys (encLs g (updT tmp s (.c .undef)) i r x.2).2 = (List.range' i (0 + lWd r)).map g
    rw [Nat.zero_add]
    exact h1
  | (s, .cs f ss) :: r, tmp, i, x => by
    have h1 := encLs_keys g r (updT tmp s (cloE tmp f ss)) i x.2
    show keys (encLs g (updT tmp s (cloE tmp f ss)) i r x.2).2 = (List.range' i (0 + lWd r)).map g
    rw [Nat.zero_add]
    exact h1
noncomputable def Good (μ : Mu) : V → Prop
  | .c .nils => False
  | .c (.sub _ _) => False
  | .c (.ref id) => ∀ b c, μ id = some (b, c) → 0 < c
  | _ => True
theorem Good.same {V0 : V} {ad ad' : Option Addr} (hg : Good μ V0) (hv : VRep w A μ h V0 (.slice ad' 0 0)) : VRep w A μ h (sameE V0) (.slice ad 0 0) := by
  cases V0 with
  | agg cs => obtain ⟨_, hq, _⟩ := hv; cases hq
  | tup l => obtain ⟨_, hq, _⟩ := hv; cases hq
  | c c =>
    cases c with
    | undef => trivial
    | nils => exact hg.elim
    | sub id n => exact hg.elim
    | win id lo n z =>
      obtain ⟨blk, ad0, c', hb, he, hn, hr⟩ := hv
      cases he
      exact ⟨blk, ad, 0, hb, rfl, hn, fun _ _ _ _ _ h => absurd h (Nat.lt_irrefl 0)⟩
    | val t x =>
      have hv : FRep w A t x [.slice ad' 0 0] := hv
      cases t with
      | int k => exact absurd (show [Value.slice ad' 0 0] = [Value.int k x] from hv) (by simp)
      | bool => exact absurd (show [Value.slice ad' 0 0] = [Value.bool x] from hv) (by simp)
      | str => exact absurd (show [Value.slice ad' 0 0] = [Value.string x] from hv) (by simp)
      | err =>
        obtain ⟨v, he, _, hx⟩ := hv
        simp at he
        subst he
        split at hx
        · cases hx
        · obtain ⟨_, _, hx⟩ := hx; cases hx
      | unit => exact absurd (show [Value.slice ad' 0 0] = [] from hv) (by simp)
      | pair a b => trivial
      | sl t =>
        obtain ⟨ad2, cap, he, hl, hm, _, hx⟩ := hv
        simp at he
        obtain ⟨_, hlen, hcap⟩ := he
        show VRep w A μ h (bif t.mk then .c .undef else .c (.val (.sl t) x)) _
        cases hkm : t.mk with
        | true => trivial
        | false =>
        show FRep w A (.sl t) x [.slice ad 0 0]
        refine ⟨ad, 0, by rw [← hlen], by rw [← hlen]; exact Nat.le_refl _, hm, fun h => absurd (hkm.symm.trans h) (by decide), fun i y hi => ?_⟩
        have : i < List.length (α := t.den) x := (List.getElem?_eq_some_iff.1 hi).1
        rw [← hlen] at this
        exact absurd this (Nat.not_lt_zero _)
    | ref id =>
      obtain ⟨blk, hb, _, hr⟩ := hv
      refine ⟨blk, hb, rfl, fun t xs fz he => ?_⟩
      have := hr t xs fz he
      cases hm : μ id with
      | none => rw [hm] at this; exact ⟨this.1, ad, rfl⟩
      | some p =>
        obtain ⟨b, c⟩ := p
        rw [hm] at this
        have h0 := hg b c hm
        have : Value.slice ad' 0 0 = .slice (some ⟨b, 0, none⟩) xs.length c := this
        simp at this
        omega
    | nilp => cases (show Value.slice ad' 0 0 = .pointer none from hv)
    | ptr id off => obtain ⟨_, _, _, _, _, hq⟩ := hv; cases hq
    | eptr id i off => obtain ⟨_, _, ⟨_, hq⟩, _⟩ := hv; cases hq
    | fptr t x off => obtain ⟨_, _, hq, _⟩ := hv; cases hq
    | fn f => cases (show Value.slice ad' 0 0 = .func (.func f) #[] #[] from hv)
    | slf id => rcases hv with hq | ⟨_, _, _, _, _, hq⟩ <;> cases hq
    | clo g ids => obtain ⟨_, hq, _⟩ := hv; cases hq
    | anyb => obtain ⟨_, hq⟩ := hv; cases hq
theorem sameE_rep {V0 : V} {v : Value} (hv : VRep w A μ h V0 v) : VRep w A μ h (sameE V0) v := by
  unfold sameE
  split
  · trivial
  · rename_i t x
    cases t.mk
    · exact hv
    · trivial
  · exact hv
theorem sameE_good {V0 : V} (hg : Good μ V0) : Good μ (sameE V0) := by
  unfold sameE
  split
  · trivial
  · rename_i t x
    cases t.mk
    · exact hg
    · trivial
  · exact hg
theorem encK_good {g : Nat → Nat} {k : CK} {self sb : Option Nat} {i : Nat} {x : k.ty.den} {cs : List Value} {hs : List Hd} (ho : ORep w A sb k x cs hs) (hm : ∀ (j : Nat) (m : Hd), hs[j]? = some m → μ (g (i + j)) = m) : Good μ (kV k (encK g self i k x).1) := by
  cases k with
  | row t =>
    obtain ⟨m, v, rfl, rfl, hv, hz, hr⟩ := ho
    have hm0 : μ (g i) = m := hm 0 m rfl
    show Good μ (.c (.ref (g i)))
    intro b c hbc
    rw [hm0] at hbc
    subst hbc
    obtain ⟨_, _, _, _, _, ⟨hc, _⟩, _⟩ := hr
    exact hc
  | val t =>
    show Good μ (kV (.val t) (explode t x))
    unfold kV
    cases hk : (CK.val t).isAgg
    · simp only [cond_false]
      have : ∀ (t : Ty) (x : t.den), t.isAgg = false → ∃ y, explode t x = [.val t y] := by
        intro t x ht
        cases t <;> first | exact ⟨_, rfl⟩ | simp [Ty.isAgg] at ht
      obtain ⟨y, hy⟩ := this t x hk
      rw [hy]
      trivial
    · trivial
  | skip => trivial
  | nilp => trivial
  | slf => cases self <;> trivial
  | fn f => trivial
  | view t => trivial
  | box _ k => trivial
  | clo f k => trivial
  | nil => trivial
  | cons k ks => trivial
theorem winE_rep {lo n z : Nat} {x : V} {v v' : Value} (hx : VRep w A2 μ h x v') (hB : ∃ ad c', v = .slice ad n c' ∧ n ≤ c' ∧ (0 < n → ∃ b N c, v' = .slice (some ⟨b, 0, none⟩) N c ∧ lo + n ≤ N ∧ ad = some ⟨b, lo * z, none⟩)) : VRep w A2 μ h (winE lo n z x) v := by
  unfold winE
  split
  · rename_i id
    obtain ⟨ad, c', rfl, hn, hp⟩ := hB
    obtain ⟨blk, hb, _, hr⟩ := VRep.to_c (by simp) hx
    refine VRep.of_c (c := .win id lo n z) ⟨blk, ad, c', hb, rfl, hn, fun t xs fz he _ h0 => ?_⟩
    obtain ⟨b, N, c, hv, hle, hadd⟩ := hp h0
    have hd := hr t xs fz he
    rw [hv] at hd
    cases hm : μ id with
    | none =>
      rw [hm] at hd
      obtain ⟨h1, ad2, h2⟩ := hd
      cases h2
      omega
    | some p =>
      obtain ⟨b2, c2⟩ := p
      rw [hm] at hd
      have hd : Value.slice (some ⟨b, 0, none⟩) N c = .slice (some ⟨b2, 0, none⟩) xs.length c2 := hd
      simp only [Value.slice.injEq, Option.some.injEq, Addr.mk.injEq, and_true, true_and] at hd
      obtain ⟨rfl, rfl, rfl⟩ := hd
      exact ⟨hle, b, c, rfl, hadd⟩
  · trivial
theorem winE_good {lo n z : Nat} {x : V} : Good μ (winE lo n z x) := by
  unfold winE
  split <;> trivial
theorem ptrIds_rep {tmp : Nat → V} (ht : ∀ t, VRep w A μ h (tmp t) (val t)) : ∀ {ss ids : List Nat}, ptrIds tmp ss = some ids → All2 (fun id u => ∃ blk b c, h id = some blk ∧ μ id = some (b, c) ∧ u = .pointer (some ⟨b, 0, none⟩)) ids (ss.map val)
  | [], ids, hk => by
    simp only [ptrIds, Option.some.injEq] at hk
    subst hk
    trivial
  | s :: ss, ids, hk => by
    simp only [ptrIds] at hk
    split at hk
    · rename_i i hi
      split at hk
      · rename_i l hl
        cases hk
        have h1 := ht s
        rw [hi] at h1
        exact ⟨VRep.to_c (by simp) h1, ptrIds_rep ht hl⟩
      · cases hk
    · cases hk
theorem cloE_rep {tmp : Nat → V} (ht : ∀ t, VRep w A μ h (tmp t) (val t)) {f : Nat} {ss : List Nat} {v : Value} (hc : CloAt f v (ss.map val)) : VRep w A μ h (cloE tmp f ss) v ∧ Good μ (cloE tmp f ss) := by
  unfold cloE
  cases hk : ptrIds tmp ss with
  | none => exact ⟨trivial, trivial⟩
  | some ids => exact ⟨VRep.of_c (c := .clo f ids) ⟨ss.map val, hc.1, ptrIds_rep ht hk⟩, trivial⟩
theorem eqNs_eq : ∀ {l m : List Nat}, eqNs l m = true → l = m
  | [], [], _ => rfl
  | x :: l, y :: m, h => by
    simp only [eqNs, Bool.and_eq_true] at h
    rw [Nat.eq_of_beq_eq_true h.1, eqNs_eq h.2]
  | [], _ :: _, h => by cases h
  | _ :: _, [], h => by cases h
theorem all2_ptr_eq : ∀ {ids : List Nat} {us vs : List Value}, All2 (fun id u => ∃ blk b c, h id = some blk ∧ μ id = some (b, c) ∧ u = .pointer (some ⟨b, 0, none⟩)) ids us → All2 (fun id u => ∃ blk b c, h id = some blk ∧ μ id = some (b, c) ∧ u = .pointer (some ⟨b, 0, none⟩)) ids vs → us = vs ∧ ∀ u ∈ us, ∃ b, u = Value.pointer (some ⟨b, 0, none⟩)
  | [], [], [], _, _ => ⟨rfl, by simp⟩
  | id :: ids, u :: us, v :: vs, h1, h2 => by
    obtain ⟨_, b, c, _, m1, e1⟩ := h1.1
    obtain ⟨_, b', c', _, m2, e2⟩ := h2.1
    rw [m1] at m2
    cases m2
    obtain ⟨e3, k⟩ := all2_ptr_eq h1.2 h2.2
    refine ⟨by rw [e1, e2, e3], fun x hx => ?_⟩
    rcases List.mem_cons.1 hx with rfl | hx
    · exact ⟨b, e1⟩
    · exact k x hx
  | [], _ :: _, _, h1, _ => h1.elim
  | _ :: _, [], _, h1, _ => h1.elim
  | [], [], _ :: _, _, h2 => h2.elim
  | _ :: _, _ :: _, [], _, h2 => h2.elim
theorem cloV_rep {tmp : Nat → V} (ht : ∀ t, VRep w A μ h (tmp t) (val t)) {f : Nat} {ss : List Nat} {x : V} {v : Value} (hx : VRep w A μ h x v) (hc : cloV tmp f ss x = true) : CloAt f v (ss.map val) := by
  unfold cloV at hc
  split at hc
  · rename_i g' ids
    rw [Bool.and_eq_true] at hc
    have hg := Nat.eq_of_beq_eq_true hc.1
    subst hg
    have h2 := hc.2
    split at h2
    · rename_i l hl
      have e := eqNs_eq h2
      subst e
      obtain ⟨us, rfl, hall⟩ := VRep.to_c (by simp) hx
      obtain ⟨e, k⟩ := all2_ptr_eq hall (ptrIds_rep ht hl)
      rw [← e]
      exact ⟨rfl, k⟩
    · cases h2
  · cases hc
theorem LRepL.enc {g : Nat → Nat} (hA : ∀ b, A2 b → A b) : ∀ {l : Layout} {tmp : Nat → V} {i : Nat} {x : (lTy l).den} {hs : List Hd}, LRepL w A val l x hs → (∀ p ∈ (encLs g tmp i l x).2, h p.1 = some p.2) →
    (∀ (j : Nat) (m : Hd), hs[j]? = some m → μ (g (i + j)) = m) → (∀ t, VRep w A2 μ h (tmp t) (val t) ∧ Good μ (tmp t)) →
    (∀ t, VRep w A2 μ h ((encLs g tmp i l x).1 t) (val t)) ∧ ∀ p ∈ (encLs g tmp i l x).2, p.2.own = true ∧ BRep w A2 μ h (μ p.1) p.2
  | [], tmp, i, x, hs, hl, hh, hm, ht => ⟨fun t => (ht t).1, fun p hp => by cases hp⟩
  | (s, .obj k) :: r, tmp, i, x, hs, hl, hh, hm, ht => by
    obtain ⟨cs, h0, h1, rfl, hsh, ho, hr⟩ := hl
    have hh : ∀ p ∈ app (encK g none i k x.1).2 (encLs g (updT tmp s (kV k (encK g none i k x.1).1)) (i + k.wd) r x.2).2, h p.1 = some p.2 := hh
    rw [app_eq] at hh
    simp only [List.mem_append] at hh
    have hm0 : ∀ (j : Nat) (m : Hd), h0[j]? = some m → μ (g (i + j)) = m := fun j m hj => hm j m (by rw [List.getElem?_append_left (List.getElem?_eq_some_iff.1 hj).1]; exact hj)
    obtain ⟨a1, a2⟩ := ho.enc hA (g := g) (self := none) (i := i) (fun p hp => hh p (.inl hp)) hm0 (fun id hid => by cases hid) (fun _ => rfl)
    obtain ⟨b1, b2⟩ := LRepL.enc hA (g := g) (tmp := updT tmp s (kV k (encK g none i k x.1).1)) (i := i + k.wd) hr (fun p hp => hh p (.inr hp))
      (fun j m hj => by
        rw [Nat.add_assoc]
        refine hm (k.wd + j) m ?_
        rw [← ho.len.2, List.getElem?_append_right (by omega)]
        simpa using hj)
      (fun t => by
        by_cases hts : t = s
        · subst hts
          rw [updT_same]
          exact ⟨kV_rep a1 hsh, encK_good ho hm0⟩
        · rw [updT_ne _ _ hts]
          exact ht t)
    refine ⟨b1, fun p hp => ?_⟩
    have hp : p ∈ app (encK g none i k x.1).2 (encLs g (updT tmp s (kV k (encK g none i k x.1).1)) (i + k.wd) r x.2).2 := hp
    rw [app_eq, List.mem_append] at hp
    exact hp.elim (a2 p) (b2 p)
  | (s, .same s') :: r, tmp, i, x, hs, hl, hh, hm, ht => by
    obtain ⟨hsame, hr⟩ := hl
    refine LRepL.enc hA (g := g) (tmp := updT tmp s (sameE (tmp s'))) (i := i) hr hh hm (fun t => ?_)
    by_cases hts : t = s
    · subst hts
      rw [updT_same]
      refine ⟨?_, sameE_good (ht s').2⟩
      rcases hsame with he | ⟨ad, ad', he, he'⟩
      · rw [he]; exact sameE_rep (ht s').1
      · rw [he]
        exact (ht s').2.same (by rw [← he']; exact (ht s').1)
    · rw [updT_ne _ _ hts]
      exact ht t
  | (s, .win s' z) :: r, tmp, i, x, hs, hl, hh, hm, ht => by
    obtain ⟨hwin, hr⟩ := hl
    refine LRepL.enc hA (g := g) (tmp := updT tmp s (winE (Int.toNat x.1.1) (Int.toNat x.1.2) z (tmp s'))) (i := i) hr hh hm (fun t => ?_)
    by_cases hts : t = s
    · subst hts
      rw [updT_same]
      exact ⟨winE_rep (ht s').1 hwin, winE_good⟩
    · rw [updT_ne _ _ hts]
      exact ht t
  | (s, .fld s' z) :: r, tmp, i, x, hs, hl, hh, hm, ht => by
    obtain ⟨hf, hr⟩ := hl
    refine LRepL.enc hA (g := g) (tmp := updT tmp s (.c .undef)) (i := i) hr hh hm (fun t => ?_)
    by_cases hts : t = s
    · subst hts
      rw [updT_same]
      exact ⟨trivial, trivial⟩
    · rw [updT_ne _ _ hts]
      exact ht t
  | (s, .cs f ss) :: r, tmp, i, x, hs, hl, hh, hm, ht => by
    obtain ⟨hf, hr⟩ := hl
    refine LRepL.enc hA (g := g) (tmp := updT tmp s (cloE tmp f ss)) (i := i) hr hh hm (fun t => ?_)
    by_cases hts : t = s
    · subst hts
      rw [updT_same]
      exact cloE_rep (fun t => (ht t).1) hf
    · rw [updT_ne _ _ hts]
      exact ht t
theorem nth_get? {α : Type} : ∀ (l : List α) (n : Nat), nth l n = l[n]?
  | [], _ => by simp [nth]
  | x :: l, 0 => by simp [nth]
  | x :: l, n + 1 => by simp [nth, nth_get? l n]
theorem CsRep.nth {w : World} {A : Nat → Prop} {μ : Mu} {h : Heap} : ∀ {cs : List C} {vs : List Value} {n : Nat} {c : C}, CsRep w A μ h cs vs → cs[n]? = some c → ∃ v, vs[n]? = some v ∧ CRep w A μ h c v
  | [], _, _, _, _, hc => by simp at hc
  | c0 :: cs, v0 :: vs, 0, c, hk, hc => by
    simp at hc; subst hc
    exact ⟨v0, by simp, hk.1⟩
  | c0 :: cs, v0 :: vs, n + 1, c, hk, hc => by
    obtain ⟨v, h1, h2⟩ := CsRep.nth (cs := cs) (vs := vs) (n := n) hk.2 (by simpa using hc)
    exact ⟨v, by simpa using h1, h2⟩
  | c0 :: cs, [], _, _, hk, _ => hk.elim
theorem fldC_some (hB : ∀ id blk, h id = some blk → BRep w A μ h (μ id) blk) {x : V} {v' : Value} {off j : Nat} (hx : VRep w A μ h x v') (hf : fldC h x off = .c (.ref j)) :
    ∃ b e cur v0, v' = .pointer (some ⟨b, 0, none⟩) ∧ w.heap[b]? = some (.cells cur e (0, 0)) ∧ cur.toList[off]? = some v0 ∧ CRep w A μ h (.ref j) v0 ∧ ∃ t xs fz, h j = some (.row t xs fz) := by
  unfold fldC at hf
  split at hf
  · rename_i b0
    split at hf
    · rename_i te cs hb
      split at hf
      · rename_i j' hn
        cases hr : isRowB (h j')
        · rw [hr] at hf; cases hf
        · rw [hr] at hf
          cases hf
          obtain ⟨blk, b, c, h1, m1, rfl⟩ := VRep.to_c (by simp) hx
          obtain ⟨b2, c2, cur, m2, hw, hcs, _⟩ := hB b0 _ hb
          rw [m1] at m2
          cases m2
          rw [nth_get?] at hn
          obtain ⟨v0, g1, g2⟩ := hcs.nth hn
          refine ⟨b, te, cur, v0, rfl, hw, g1, g2, ?_⟩
          unfold isRowB at hr
          split at hr
          · rename_i t xs fz hj; exact ⟨t, xs, fz, hj⟩
          · cases hr
      · cases hf
    · cases hf
  · cases hf
theorem ref_same (hB : ∀ id blk, h id = some blk → BRep w A μ h (μ id) blk) {j : Nat} {v v0 : Value} (hr : ∃ t xs fz, h j = some (.row t xs fz)) (h0 : CRep w A μ h (.ref j) v0) (hv : v = v0 ∨ ∃ ad ad', v = .slice ad 0 0 ∧ v0 = .slice ad' 0 0) : CRep w A μ h (.ref j) v := by
  rcases hv with rfl | ⟨ad, ad', rfl, rfl⟩
  · exact h0
  · obtain ⟨t, xs, fz, hj⟩ := hr
    obtain ⟨blk, h1, h2, h3⟩ := h0
    refine ⟨blk, h1, rfl, fun t' xs' fz' e => ?_⟩
    have h3 := h3 t' xs' fz' e
    rw [hj] at h1
    cases h1
    cases e
    have hb := hB j _ hj
    cases hm : μ j with
    | none =>
      rw [hm] at h3
      obtain ⟨g1, _, _⟩ := h3
      exact ⟨g1, ad, rfl⟩
    | some p =>
      obtain ⟨b, c⟩ := p
      rw [hm] at h3 hb
      obtain ⟨_, ⟨e, cur, fr, _, _, ⟨hc, _⟩, _⟩, _⟩ := hb
      have h3 : Value.slice ad' 0 0 = .slice (some ⟨b, 0, none⟩) xs.length c := h3
      injection h3 with _ _ e3
      omega
theorem fill_rep {w : World} {A A' : Nat → Prop} {μ : Mu} {h : Heap} {val : Nat → Value} (hB : ∀ id blk, h id = some blk → BRep w A μ h (μ id) blk) : ∀ {l : Layout} {x : (lTy l).den} {hs : List Hd} {tmp : Nat → V}, LRepL w A' val l x hs → (∀ t, VRep w A μ h (tmp t) (val t)) → ∀ t, VRep w A μ h (fillF h l tmp t) (val t)
  | [], _, _, _, _, ht => ht
  | (s, .obj k) :: r, _, _, _, hl, ht => by
    obtain ⟨_, _, _, _, _, _, hr⟩ := hl
    exact fill_rep (l := r) hB hr ht
  | (s, .same s') :: r, _, _, _, hl, ht => fill_rep (l := r) hB hl.2 ht
  | (s, .win s' z) :: r, _, _, _, hl, ht => fill_rep (l := r) hB hl.2 ht
  | (s, .cs g ss) :: r, _, _, _, hl, ht => fill_rep (l := r) hB hl.2 ht
  | (s, .fld s' off) :: r, _, _, tmp, hl, ht => by
    obtain ⟨⟨b, e, cur, v0, hv', hw, hc, hv⟩, hr⟩ := hl
    refine fill_rep (l := r) hB (tmp := updT tmp s (fldC h (tmp s') off)) hr (fun t => ?_)
    by_cases hts : t = s
    · subst hts
      rw [updT_same]
      cases hf : fldC h (tmp s') off with
      | c c =>
        cases c with
        | ref j =>
          obtain ⟨b2, e2, cur2, v2, g1, g2, g3, g4, g5⟩ := fldC_some hB (ht s') hf
          rw [hv'] at g1
          cases g1
          rw [hw] at g2
          cases g2
          rw [hc] at g3
          cases g3
          exact VRep.of_c (ref_same hB g5 g4 hv)
        | undef => trivial
        | _ =>
          exfalso
          unfold fldC at hf
          repeat' split at hf
          all_goals first | (cases hf; done) | (rename_i j' _; cases hq : isRowB (h j') <;> rw [hq] at hf <;> cases hf)
      | _ =>
        exfalso
        unfold fldC at hf
        repeat' split at hf
        all_goals first | (cases hf; done) | (rename_i j' _; cases hq : isRowB (h j') <;> rw [hq] at hf <;> cases hf)
    · rw [updT_ne _ _ hts]
      exact ht t
theorem fldV_rep (hB : ∀ id blk, h id = some blk → BRep w A μ h (μ id) blk) {x y : V} {v v' : Value} {off : Nat} (hs : fldV h x y off = true) (hx : VRep w A μ h x v) (hy : VRep w A μ h y v') : FldAt w off v v' := by
  unfold fldV at hs
  split at hs
  · rename_i i j hj
    have hij := Nat.eq_of_beq_eq_true hs
    subst hij
    obtain ⟨b, e, cur, v0, g1, g2, g3, g4, t, xs, fz, hrow⟩ := fldC_some hB hy hj
    refine ⟨b, e, cur, v0, g1, g2, g3, ?_⟩
    obtain ⟨blk, hb1, _, k1⟩ := VRep.to_c (by simp) hx
    obtain ⟨blk2, hb2, _, k2⟩ := g4
    rw [hrow] at hb1 hb2
    cases hb1
    cases hb2
    have k1 := k1 _ _ _ rfl
    have k2 := k2 _ _ _ rfl
    cases hm : μ i with
    | none =>
      rw [hm] at k1 k2
      obtain ⟨_, ad, rfl⟩ := k1
      obtain ⟨_, ad', rfl⟩ := k2
      exact .inr ⟨ad, ad', rfl, rfl⟩
    | some p =>
      obtain ⟨b, c⟩ := p
      rw [hm] at k1 k2
      have k1 : v = _ := k1
      have k2 : v0 = _ := k2
      rw [k1, k2]
      exact .inl rfl
  · cases hs
theorem winV_rep {x y : V} {v v' : Value} {z : Nat} {p : Int × Int} (hB : ∀ id blk, h id = some blk → BRep w A μ h (μ id) blk) (hs : winV h z x y = some p) (hx : VRep w A μ h x v) (hy : VRep w A μ h y v') :
    ∃ ad c', v = .slice ad (Int.toNat p.2) c' ∧ Int.toNat p.2 ≤ c' ∧ (0 < Int.toNat p.2 → ∃ b N c, v' = .slice (some ⟨b, 0, none⟩) N c ∧ Int.toNat p.1 + Int.toNat p.2 ≤ N ∧ ad = some ⟨b, Int.toNat p.1 * z, none⟩) := by
  unfold winV at hs
  split at hs
  · rename_i i lo n z' j
    have hc := (cond_some hs).1
    have hs2 := (cond_some hs).2
    simp only [Bool.and_eq_true] at hc
    have hij := Nat.eq_of_beq_eq_true hc.1
    have hz := Nat.eq_of_beq_eq_true hc.2.2
    subst hij
    subst hz
    cases hs2
    simp only [Int.toNat_natCast]
    obtain ⟨blk, ad, c', hb, rfl, hn, hr⟩ := VRep.to_c (by simp) hx
    refine ⟨ad, c', rfl, hn, fun h0 => ?_⟩
    have hrow := hc.2.1
    unfold rowSz at hrow
    split at hrow
    · rename_i t xs fz hb2
      have ht := Nat.eq_of_beq_eq_true hrow
      rw [hb2] at hb
      cases hb
      obtain ⟨hle, b, c, hm, hadd⟩ := hr t xs fz rfl ht h0
      obtain ⟨blk2, hb3, _, k2⟩ := VRep.to_c (by simp) hy
      rw [hb2] at hb3
      cases hb3
      have k2 := k2 t xs fz rfl
      rw [hm] at k2
      exact ⟨b, xs.length, c, k2, hle, hadd⟩
    · cases hrow
  · cases hs
theorem sameV_rep {x y : V} {v v' : Value} (hB : ∀ id blk, h id = some blk → BRep w A μ h (μ id) blk) (hs : sameV h x y = true) (hx : VRep w A μ h x v) (hy : VRep w A μ h y v') : v = v' ∨ ∃ ad ad', v = .slice ad 0 0 ∧ v' = .slice ad' 0 0 := by
  unfold sameV at hs
  split at hs
  · rename_i i j
    simp only [Bool.and_eq_true] at hs
    have hij := Nat.eq_of_beq_eq_true hs.1
    subst hij
    have hrow := hs.2
    unfold isRowB at hrow
    split at hrow
    · rename_i t xs fz hb
      obtain ⟨blk, hb1, _, k1⟩ := VRep.to_c (by simp) hx
      obtain ⟨blk2, hb2, _, k2⟩ := VRep.to_c (by simp) hy
      rw [hb] at hb1 hb2
      cases hb1
      cases hb2
      have k1 := k1 _ _ _ rfl
      have k2 := k2 _ _ _ rfl
      cases hm : μ i with
      | none =>
        rw [hm] at k1 k2
        obtain ⟨_, ad, rfl⟩ := k1
        obtain ⟨_, ad', rfl⟩ := k2
        exact .inr ⟨ad, ad', rfl, rfl⟩
      | some p =>
        obtain ⟨b, c⟩ := p
        rw [hm] at k1 k2
        have k1 : v = _ := k1
        have k2 : v' = _ := k2
        rw [k1, k2]
        exact .inl rfl
    · cases hrow
  · rename_i i j
    have hij := Nat.eq_of_beq_eq_true hs
    subst hij
    obtain ⟨blk, b, c, hb1, m1, k1⟩ := VRep.to_c (by simp) hx
    obtain ⟨blk2, b2, c2, hb2, m2, k2⟩ := VRep.to_c (by simp) hy
    rw [m1] at m2
    cases m2
    rw [k1, k2]
    exact .inl rfl
  · cases hs
theorem decLs_rep {st : St} (hB : ∀ id blk, st.heap id = some blk → BRep w A μ st.heap (μ id) blk) {A' : Nat → Prop} (hA : ∀ b, A' b → A b) (ht : ∀ t, VRep w A μ st.heap (st.tmp t) (val t)) {ow : List Nat} :
    ∀ {l : Layout} {x : (lTy l).den}, decLs st ow l = some x → (∀ id, id ∈ takesLs st l → ∀ b c, μ id = some (b, c) → ¬ A' b) → LRepL w A' val l x (isHd μ (ownsLs st l))
  | [], x, _, _ => rfl
  | (s, k) :: r, x, hd, hids => by
    simp only [decLs] at hd
    split at hd
    · rename_i x1 h1
      split at hd
      · rename_i x2 h2
        cases hd
        simp only [takesLs, app_eq, List.mem_append] at hids
        have hr := decLs_rep hB hA ht h2 (fun id hid => hids id (.inr hid))
        cases k with
        | obj k =>
          simp only [decL] at h1
          split at h1
          · rename_i cs hcs
            obtain ⟨vs, hc, hsh⟩ := cellsK_rep (ht s) hcs
            have ho := decK_rep hB hA (sb := none) h1 hc (fun id he => by cases he) (fun id hid => hids id (.inl (by simp only [takesL, hcs]; exact hid)))
            exact ⟨vs, _, _, by simp only [ownsLs, ownsL, hcs, app_eq, isHd_app], hsh, ho, hr⟩
          · cases h1
        | same s' =>
          simp only [decL] at h1
          exact ⟨sameV_rep hB (cond_some h1).1 (ht s) (ht s'), hr⟩
        | win s' z => exact ⟨winV_rep hB h1 (ht s) (ht s'), hr⟩
        | fld s' z =>
          simp only [decL] at h1
          exact ⟨fldV_rep hB (cond_some h1).1 (ht s) (ht s'), hr⟩
        | cs g ss =>
          simp only [decL] at h1
          exact ⟨cloV_rep ht (ht s) (cond_some h1).1, hr⟩
      · cases hd
    · cases hd
theorem decLs_own {st : St} {ow : List Nat} : ∀ {l : Layout} {x : (lTy l).den}, decLs st ow l = some x →
    (∀ id, id ∈ somes (ownsLs st l) → ∃ blk, st.heap id = some blk ∧ blk.own = true) ∧ ∀ id, id ∈ takesLs st l → id ∉ ow ∧ ∃ u xs fz, st.heap id = some (.row u xs fz)
  | [], x, _ => ⟨fun id hid => by simp [ownsLs, somes] at hid, fun id hid => by simp [takesLs] at hid⟩
  | (s, k) :: r, x, hd => by
    simp only [decLs] at hd
    split at hd
    · rename_i x1 h1
      split at hd
      · rename_i x2 h2
        cases hd
        obtain ⟨b1, b2⟩ := decLs_own h2
        have ha : (∀ id, id ∈ somes (ownsL st s k) → ∃ blk, st.heap id = some blk ∧ blk.own = true) ∧ ∀ id, id ∈ takesL st s k → id ∉ ow ∧ ∃ u xs fz, st.heap id = some (.row u xs fz) := by
          cases k with
          | obj k =>
            simp only [decL] at h1
            split at h1
            · rename_i cs hcs
              obtain ⟨a1, a2⟩ := decK_own h1
              exact ⟨fun id hid => a1 id (by simpa only [ownsL, hcs] using hid), fun id hid => a2 id (by simpa only [takesL, hcs] using hid)⟩
            · cases h1
          | same s' => exact ⟨fun id hid => by simp [ownsL, somes] at hid, fun id hid => by simp [takesL] at hid⟩
          | win s' z => exact ⟨fun id hid => by simp [ownsL, somes] at hid, fun id hid => by simp [takesL] at hid⟩
          | fld s' z => exact ⟨fun id hid => by simp [ownsL, somes] at hid, fun id hid => by simp [takesL] at hid⟩
          | cs g ss => exact ⟨fun id hid => by simp [ownsL, somes] at hid, fun id hid => by simp [takesL] at hid⟩
        refine ⟨fun id hid => ?_, fun id hid => ?_⟩
        · simp only [ownsLs, app_eq, somes_app, List.mem_append] at hid
          exact hid.elim (ha.1 id) (b1 id)
        · simp only [takesLs, app_eq, List.mem_append] at hid
          exact hid.elim (ha.2 id) (b2 id)
      · cases hd
    · cases hd
theorem nodup_get : ∀ {is : List (Option Nat)} {i j k : Nat}, (somes is).Nodup → is[i]? = some (some k) → is[j]? = some (some k) → i = j
  | [], i, j, k, _, h, _ => by simp at h
  | none :: is, 0, j, k, _, h, _ => by simp at h
  | none :: is, i + 1, 0, k, _, _, h => by simp at h
  | none :: is, i + 1, j + 1, k, hd, h, h' => congrArg (· + 1) (nodup_get (is := is) (i := i) (j := j) (k := k) hd (by simpa using h) (by simpa using h'))
  | some x :: is, 0, 0, k, _, _, _ => rfl
  | some x :: is, 0, j + 1, k, hd, h, h' => by
    simp at h h'
    subst h
    simp only [somes, List.nodup_cons] at hd
    exact absurd (mem_somes.2 (List.mem_of_getElem? h')) hd.1
  | some x :: is, i + 1, 0, k, hd, h, h' => by
    simp at h h'
    subst h'
    simp only [somes, List.nodup_cons] at hd
    exact absurd (mem_somes.2 (List.mem_of_getElem? h)) hd.1
  | some x :: is, i + 1, j + 1, k, hd, h, h' => by
    simp only [somes, List.nodup_cons] at hd
    exact congrArg (· + 1) (nodup_get (is := is) (i := i) (j := j) (k := k) hd.2 (by simpa using h) (by simpa using h'))
theorem isHd_get {μ : Mu} {is : List (Option Nat)} {i : Nat} {p : Nat × Nat} (h : (isHd μ is)[i]? = some (some p)) : ∃ k, is[i]? = some (some k) ∧ μ k = some p := by
  unfold isHd at h
  rw [List.getElem?_map] at h
  cases hi : is[i]? with
  | none => rw [hi] at h; cases h
  | some o =>
    rw [hi] at h
    cases o with
    | none => simp at h
    | some k => exact ⟨k, rfl, by simpa using h⟩
end
section
variable {W0 : World} {O : Out} {μ : Mu} {st : St} {a : Act} {w : World}
noncomputable def AvO (O : Nat → Prop) (hs : List Hd) (b : Nat) : Prop := O b ∨ inHd hs b
theorem own_heads [Dr] (r : RelM W0 O μ st a w) {is : List (Option Nat)} (hown : ∀ id, id ∈ somes is → ∃ blk, st.heap id = some blk ∧ blk.own = true) {b : Nat} (h : inHd (isHd μ is) b) : ∃ id blk c, id ∈ somes is ∧ st.heap id = some blk ∧ blk.own = true ∧ μ id = some (b, c) := by
  obtain ⟨c, hc⟩ := h
  obtain ⟨i, hi⟩ := List.getElem?_of_mem hc
  obtain ⟨k, h1, h2⟩ := isHd_get hi
  have hk := mem_somes.2 (List.mem_of_getElem? h1)
  obtain ⟨blk, hb, ho⟩ := hown k hk
  exact ⟨k, blk, c, hk, hb, ho, h2⟩
theorem heads_dist [Dr] (r : RelM W0 O μ st a w) {is : List (Option Nat)} (hown : ∀ id, id ∈ somes is → ∃ blk, st.heap id = some blk ∧ blk.own = true) (hn : (somes is).Nodup) : DistH (isHd μ is) := by
  intro i j b c c' hi hj
  obtain ⟨k, h1, h2⟩ := isHd_get hi
  obtain ⟨k', h1', h2'⟩ := isHd_get hj
  obtain ⟨blk, hb, ho⟩ := hown k (mem_somes.2 (List.mem_of_getElem? h1))
  obtain ⟨blk', hb', ho'⟩ := hown k' (mem_somes.2 (List.mem_of_getElem? h1'))
  have := r.inj k k' blk blk' b c c' hb hb' ho ho' h2 h2'
  subst this
  exact nodup_get hn h1 h1'
theorem takes_away [Dr] (r : RelM W0 O μ st a w) {is : List (Option Nat)} (hown : ∀ id, id ∈ somes is → ∃ blk, st.heap id = some blk ∧ blk.own = true) {id : Nat} {u : Ty} {xs : List u.den} {fz : Bool} (hb : st.heap id = some (.row u xs fz)) (hni : id ∉ somes is) :
    ∀ b c, μ id = some (b, c) → ¬ AvO O (isHd μ is) b := by
  intro b c hm hav
  rcases hav with hO | hin
  · cases fz with
    | true =>
      have := r.blks id _ hb
      rw [hm] at this
      exact this.2.2 rfl (.inl hO)
    | false => exact (r.fresh id _ b c hb rfl hm).elim (fun h => by have := (r.outer b hO).1; omega) (r.outer b hO).2
  · obtain ⟨id', blk', c', hid', hb', ho', hm'⟩ := own_heads r hown hin
    cases fz with
    | true =>
      have := r.blks id _ hb
      rw [hm] at this
      exact this.2.2 rfl (.inr ⟨id', blk', c', hb', ho', hm'⟩)
    | false =>
      have := r.inj id id' _ blk' b c c' hb hb' rfl ho' hm hm'
      subst this
      exact hni hid'
theorem dec_parts {l : Layout} {x : (lTy l).den} (hd : dec l st = some x) : (somes (ownsLs st l)).Nodup ∧ (slotsB l).Nodup ∧ decLs st (somes (ownsLs st l)) l = some x := by
  unfold dec at hd
  have hc := (cond_some hd).1
  simp only [Bool.and_eq_true] at hc
  exact ⟨nodupB_spec hc.1.1, nodupB_spec hc.1.2, (cond_some hd).2⟩
theorem RelM.out [Dr] (r : RelM W0 O μ st a w) {l : Layout} {x : (lTy l).den} (hd : dec l st = some x) :
    LRepL w (AvO O (isHd μ (ownsLs st l))) (fun t => a.tmps.getD t undef) l x (isHd μ (ownsLs st l)) ∧ DistH (isHd μ (ownsLs st l)) ∧
      ∀ b, inHd (isHd μ (ownsLs st l)) b → ∃ id blk c, id ∈ somes (ownsLs st l) ∧ st.heap id = some blk ∧ blk.own = true ∧ μ id = some (b, c) := by
  obtain ⟨hn, _, hd2⟩ := dec_parts hd
  obtain ⟨hown, htk⟩ := decLs_own hd2
  refine ⟨decLs_rep r.blks (fun b hb => ?_) r.tmps hd2 (fun id hid => ?_), heads_dist r hown hn, fun b hb => own_heads r hown hb⟩
  · rcases hb with hb | hb
    · exact .inl hb
    · obtain ⟨id, blk, c, _, h1, h2, h3⟩ := own_heads r hown hb
      exact .inr ⟨id, blk, c, h1, h2, h3⟩
  · obtain ⟨h1, u, xs, fz, h2⟩ := htk id hid
    exact takes_away r hown h2 h1
theorem LRepL.rel [Dr] {n : Fr} {l : Layout} {x : (lTy l).den} {hs : List Hd} (hl : LRepL w (AvO O hs) (fun t => a.tmps.getD t undef) l x hs) (hdist : DistH hs) (hfresh : ∀ b, inHd hs b → W0.heap.size ≤ b ∨ O.i b) (hbelow : BelowX O.i W0 w)
    (houter : ∀ b, O b → b < W0.heap.size ∧ ¬ O.i b) (hsize : a.tmps.size = n.n) (hkeep : ∀ p ∈ n.pr, a.tmps.getD p undef = O.g p) (hdef : a.defers = []) (hglob : GRep n.gl w (AvO O hs)) : Rel W0 O (VM.enc n l x) a w := by
  have hk : keys (encLs idN noTmp 0 l x).2 = List.range' 0 (lWd l) := by
    rw [encLs_keys]
    show (List.range' 0 (lWd l)).map (fun i => i) = _
    simp
  have hnd : (keys (encLs idN noTmp 0 l x).2).Nodup := by rw [hk]; exact List.nodup_range'
  let μ' : Mu := fun id => (hs[id]?).getD none
  have hget : ∀ id blk, (VM.enc n l x).heap id = some blk → (id, blk) ∈ (encLs idN noTmp 0 l x).2 := by
    intro id blk hb
    rcases updsH_some hb with h1 | ⟨_, h2⟩
    · exact h1
    · cases h2
  have hlen := hl.len
  have hmu : ∀ (id : Nat) (b c : Nat), μ' id = some (b, c) → hs[id]? = some (some (b, c)) := by
    intro id b c hm
    have hm : (hs[id]?).getD none = some (b, c) := hm
    cases hq : hs[id]? with
    | none => rw [hq] at hm; cases hm
    | some m => rw [hq] at hm; cases hm; rfl
  have hAv : ∀ b, Av O μ' (VM.enc n l x).heap b → AvO O hs b := by
    rintro b (hb | ⟨id, blk, c, h1, h2, h3⟩)
    · exact .inl hb
    · exact .inr ⟨c, List.mem_of_getElem? (hmu id b c h3)⟩
  obtain ⟨h1, h2⟩ := LRepL.enc (μ := μ') (h := (VM.enc n l x).heap) (g := idN) (tmp := noTmp) (i := 0) hAv hl (fun p hp => updsH_mem hnd hp) (fun j m hj => by simp [μ', idN, hj]) (fun t => ⟨trivial, trivial⟩)
  refine ⟨μ', fill_rep (h := (VM.enc n l x).heap) (fun id blk hb => (h2 _ (hget id blk hb)).2) hl h1, fun id blk hb => (h2 _ (hget id blk hb)).2, fun id id' blk blk' b c c' hb hb' _ _ hm hm' => hdist id id' b c c' (hmu _ _ _ hm) (hmu _ _ _ hm'), fun id blk b c hb _ hm => hfresh b ⟨c, List.mem_of_getElem? (hmu _ _ _ hm)⟩, hbelow, houter, hsize, hkeep, hdef, hglob.mono hAv⟩
theorem Rel.canon [Dr] (r : Rel W0 O st a w) {l : Layout} {x : (lTy l).den} (hd : dec l st = some x) : Rel W0 O (enc st.n l x) a w := by
  obtain ⟨μ, r⟩ := r
  obtain ⟨h1, h2, h3⟩ := r.out hd
  refine h1.rel h2 (fun b hb => ?_) r.below r.outer r.size r.keep r.defers (r.glob.mono fun b hb => hb.elim .inl fun hb => by
    obtain ⟨id, blk, c, _, h4, h5, h6⟩ := h3 b hb
    exact .inr ⟨id, blk, c, h4, h5, h6⟩)
  obtain ⟨id, blk, c, _, h4, h5, h6⟩ := h3 b hb
  exact r.fresh id blk b c h4 h5 h6
end
end Go.VM
