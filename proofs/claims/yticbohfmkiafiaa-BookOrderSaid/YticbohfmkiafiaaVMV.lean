import Derived.Test.YticbohfmkiafiaaVMQ
namespace Go.VM
open Go.RowKit
noncomputable def viewBox (h : Heap) (t : Ty) : V → Option t.den
  | .c (.fptr u x off) => bif Nat.beq off 0 then castTo t (t := u) x else none
  | .c (.ptr id off) => bif Nat.beq off 0 then (match h id with
    | some (.box _ cs) => (match implode h t cs with
      | some (x, [], _) => some x
      | _ => none)
    | _ => none) else none
  | _ => none
noncomputable def viewArg (h : Heap) : (k : CK) → V → Option k.ty.den
  | .val t, v => match v.cellsK (.val t) with
    | some cs => (match implode h t cs with
      | some (x, [], _) => some x
      | _ => none)
    | none => none
  | .view t, v => viewBox h t v
  | _, _ => none
noncomputable def viewArgs (h : Heap) : (l : List CK) → (n : Nat) → List V → Option (lTy (lay n l)).den
  | [], _, [] => some ()
  | k :: l, n, v :: vs => match viewArg h k v with
    | some x => match viewArgs h l (n + 1) vs with
      | some y => some (x, y)
      | none => none
    | none => none
  | _, _, _ => none
noncomputable def vrun {R : Type} (ins l : List CK) (F : (lTy (lay 0 ins)).den → Option (SumL [l])) (h : Heap) (args : List V) (K : V → Option R) : Option R :=
  bif lFlat (lay 0 l) && Nat.beq (wds l) 0 then
    match viewArgs h ins 0 args with
    | some x => (F x).bind fun y => K (tupV (firstVs (encLs idN noTmp 0 (lay 0 l) y).1 0 (len' l)))
    | none => none
  else none
theorem vrun_nat {R : Type} {ins l : List CK} {F : (lTy (lay 0 ins)).den → Option (SumL [l])} {h : Heap} {args : List V} {K : V → Option R} : vrun ins l F h args K = (vrun ins l F h args some).bind K := by
  unfold vrun
  cases lFlat (lay 0 l) && Nat.beq (wds l) 0
  · rfl
  · simp only [cond_true]
    cases viewArgs h ins 0 args with
    | none => rfl
    | some x =>
      simp only
      cases F x <;> rfl
theorem viewArgs_more {h h' : Heap} (k : More h h') : ∀ {l : List CK} {n : Nat} {args : List V} {x : (lTy (lay n l)).den}, viewArgs h l n args = some x → viewArgs h' l n args = some x
  | [], n, [], x, hk => hk
  | c :: l, n, v :: vs, x, hk => by
    have one : ∀ {c : CK} {y : c.ty.den}, viewArg h c v = some y → viewArg h' c v = some y := by
      have imp : ∀ {t : Ty} {cs : List C} {y : t.den}, (match implode h t cs with | some (x, [], _) => some x | _ => none) = some y → (match implode h' t cs with | some (x, [], _) => some x | _ => none) = some y := by
        intro t cs y hy
        split at hy
        · rename_i x' ids hi
          have := implode_frame hi (h' := h') (fun i hi2 => by
            cases hb : h i with
            | none => exact absurd hb (implode_ids hi i hi2)
            | some bl => exact k i bl hb)
          rw [this]
          exact hy
        · cases hy
      intro c y hy
      cases c with
      | val t =>
        have hy : (match v.cellsK (.val t) with
          | some cs => (match implode h t cs with
            | some (x, [], _) => some x
            | _ => none)
          | none => none) = some y := hy
        show (match v.cellsK (.val t) with
          | some cs => (match implode h' t cs with
            | some (x, [], _) => some x
            | _ => none)
          | none => none) = some y
        cases hc : v.cellsK (.val t) with
        | none => rw [hc] at hy; cases hy
        | some cs => rw [hc] at hy; exact imp hy
      | view t =>
        have hy : viewBox h t v = some y := hy
        show viewBox h' t v = some y
        unfold viewBox at hy ⊢
        split at hy
        · exact hy
        · rename_i bid off _
          obtain ⟨ho, hy⟩ := cond_some hy
          rw [ho]
          simp only [cond_true]
          cases hb : h bid with
          | none => rw [hb] at hy; cases hy
          | some bl =>
            rw [hb] at hy
            rw [k bid bl hb]
            cases bl with
            | box _ cs => exact imp hy
            | row _ _ _ => cases hy
            | dead => cases hy
        · cases hy
      | row t => exact nomatch (show (none : Option (CK.row t).ty.den) = some y from hy)
      | skip => exact nomatch (show (none : Option Unit) = some y from hy)
      | nilp => exact nomatch (show (none : Option Unit) = some y from hy)
      | slf => exact nomatch (show (none : Option Unit) = some y from hy)
      | fn f => exact nomatch (show (none : Option Unit) = some y from hy)
      | box _ c => exact nomatch (show (none : Option c.ty.den) = some y from hy)
      | clo f c => exact nomatch (show (none : Option c.ty.den) = some y from hy)
      | nil => exact nomatch (show (none : Option Unit) = some y from hy)
      | cons c d => exact nomatch (show (none : Option (CK.cons c d).ty.den) = some y from hy)
    simp only [viewArgs] at hk ⊢
    split at hk
    · rename_i y hy
      rw [one hy]
      split at hk
      · rename_i z hz
        rw [viewArgs_more k hz]
        exact hk
      · cases hk
    · cases hk
  | [], _, _ :: _, _, hk => by cases hk
  | _ :: _, _, [], _, hk => by cases hk
theorem vrun_frame {ins l : List CK} {F : (lTy (lay 0 ins)).den → Option (SumL [l])} (h : Heap) (e : Nat) (args : List V) (v : V) (id : Nat) (b : Blk) (hn : h id = none) (hid : ∀ e' d, e ≤ e' → id ≠ nid e' d 0) (hk : vrun ins l F h args some = some v) : vrun ins l F (updH h id b) args some = some v := by
  unfold vrun at hk ⊢
  obtain ⟨hc, hk⟩ := cond_some hk
  rw [hc]
  simp only [cond_true]
  split at hk
  · rename_i x hx
    rw [viewArgs_more (h' := updH h id b) (fun i y hy => by rw [updH_ne _ _ (fun e => by rw [e, hn] at hy; cases hy)]; exact hy) hx]
    exact hk
  · cases hk
noncomputable def mkV (ins l : List CK) (F : (lTy (lay 0 ins)).den → Option (SumL [l])) : QFun := ⟨fun h _ args K => vrun ins l F h args K, fun _ _ _ _ => vrun_nat, vrun_frame⟩
section
variable {P : Program} {W0 : World} {O : Out} {μ : Mu} {st : St} {a : Act} {w : World}
abbrev A00 : Nat → Prop := AvO (fun _ => False) []
theorem A00_no {b : Nat} (h : A00 b) : False := by
  rcases h with h | ⟨_, h⟩
  · exact h
  · cases h
theorem viewArg_rep [Dr] (r : RelM W0 O μ st a w) {v : V} {cv : Value} (hv : VRep w (Av O μ st.heap) μ st.heap v cv) : ∀ {k : CK} {x : k.ty.den}, viewArg st.heap k v = some x → ∃ cs, shapeK k cs cv ∧ ORep w A00 none k x cs []
  | .val t, x, hk => by
    have hk : (match v.cellsK (.val t) with
      | some cs => (match implode st.heap t cs with
        | some (x, [], _) => some x
        | _ => none)
      | none => none) = some x := hk
    split at hk
    · rename_i cs hcs
      split at hk
      · rename_i x' ids hi
        cases hk
        obtain ⟨vs, hc, hs⟩ := cellsK_rep hv hcs
        exact ⟨vs, hs, rfl, implode_all (A' := A00) (fun b hb => (A00_no hb).elim) r.blks hi hc (fun id _ b c _ hb => A00_no hb)⟩
      · cases hk
    · cases hk
  | .row t, x, hk => nomatch (show (none : Option (CK.row t).ty.den) = some x from hk)
  | .skip, x, hk => nomatch (show (none : Option Unit) = some x from hk)
  | .nilp, x, hk => nomatch (show (none : Option Unit) = some x from hk)
  | .slf, x, hk => nomatch (show (none : Option Unit) = some x from hk)
  | .fn _, x, hk => nomatch (show (none : Option Unit) = some x from hk)
  | .box _ k, x, hk => nomatch (show (none : Option k.ty.den) = some x from hk)
  | .clo _ k, x, hk => nomatch (show (none : Option k.ty.den) = some x from hk)
  | .nil, x, hk => nomatch (show (none : Option Unit) = some x from hk)
  | .cons k ks, x, hk => nomatch (show (none : Option (CK.cons k ks).ty.den) = some x from hk)
  | .view t, x, hk => by
    have hk : viewBox st.heap t v = some x := hk
    unfold viewBox at hk
    split at hk
    · rename_i u y off
      obtain ⟨ho, hk⟩ := cond_some hk
      have ho := Nat.eq_of_beq_eq_true ho
      subst ho
      obtain ⟨rfl, rfl⟩ := castTo_some hk
      obtain ⟨ad, cs, he, hf, hx⟩ := VRep.to_c (by simp) hv
      rw [Addr_add_zero] at he
      exact ⟨[cv], rfl, rfl, ad, cs, by rw [he], hf.mono (fun b hb => (A00_no hb).elim), fun j z hz => ⟨A00_no, (hx j z hz).2⟩⟩
    · rename_i bid off
      obtain ⟨ho, hk⟩ := cond_some hk
      have ho := Nat.eq_of_beq_eq_true ho
      subst ho
      split at hk
      · rename_i cs hb
        split at hk
        · rename_i x' ids hi
          cases hk
          obtain ⟨blk, b, c, hb', hm, he⟩ := VRep.to_c (by simp) hv
          obtain ⟨b2, c2, cur, hm2, hg, hcs, _⟩ := r.blks _ _ hb
          rw [hm] at hm2
          cases hm2
          refine ⟨[cv], rfl, rfl, ⟨b, 0, none⟩, cur.toList, by rw [he], implode_all (A' := A00) (fun b hb => (A00_no hb).elim) r.blks hi hcs (fun id _ b c _ hb => A00_no hb), fun j z hz => ⟨A00_no, ?_⟩⟩
          have hz : cur[j]? = some z := by simpa using hz
          have hadd : (⟨b, 0, none⟩ : Addr).add j = ⟨b, j, none⟩ := by
            unfold Addr.add
            split
            · rename_i h0; rw [h0]
            · simp
          rw [hadd]
          simp only [World.cell?, hg]
          exact hz
        · cases hk
      · cases hk
    · cases hk
theorem viewArgs_rep [Dr] (r : RelM W0 O μ st a w) {val : Nat → Value} : ∀ {l : List CK} {n : Nat} {args : List V} {cargs : List Value} {x : (lTy (lay n l)).den}, All2 (VRep w (Av O μ st.heap) μ st.heap) args cargs → (∀ (j : Nat) v, cargs[j]? = some v → val (n + j) = v) →
    viewArgs st.heap l n args = some x → LRepL w A00 val (lay n l) x [] ∧ cargs.length = l.length
  | [], n, [], [], x, _, _, _ => ⟨rfl, rfl⟩
  | k :: l, n, v :: vs, cv :: cvs, x, hv, hval, hk => by
    simp only [viewArgs] at hk
    split at hk
    · rename_i x1 h1
      split at hk
      · rename_i x2 h2
        cases hk
        obtain ⟨cs, hs, ho⟩ := viewArg_rep r hv.1 h1
        obtain ⟨hr, hl⟩ := viewArgs_rep r (n := n + 1) (val := val) hv.2 (fun j v' hj => by rw [show n + 1 + j = n + (j + 1) by omega]; exact hval (j + 1) v' (by simpa using hj)) h2
        refine ⟨⟨cs, [], [], rfl, ?_, ho, hr⟩, by simp [hl]⟩
        have := hval 0 cv rfl
        rw [Nat.add_zero] at this
        rw [this]
        exact hs
      · cases hk
    · cases hk
  | [], _, _ :: _, _, _, _, _, hk => by cases hk
  | _ :: _, _, [], _, _, _, _, hk => by cases hk
  | _, _, [], _ :: _, _, hv, _, _ => hv.elim
  | _, _, _ :: _, [], _, hv, _, _ => hv.elim
theorem v_ok [Dr] {G : GTab} {f : Nat} {ins l : List CK} {F : (lTy (lay 0 ins)).den → Option (SumL [l])} (hF : FnOK P G f ⟨ins, [], [l], F⟩) : QOK P G f (mkV ins l F) := by
  refine ⟨hF.enter, fun {W0 O μ st a w} r hG {ep args cargs} hargs {v} hk => ?_⟩
  have hk : vrun ins l F st.heap args some = some v := hk
  unfold vrun at hk
  obtain ⟨hc, hk⟩ := cond_some hk
  rw [Bool.and_eq_true] at hc
  have hwd := Nat.eq_of_beq_eq_true hc.2
  split at hk
  · rename_i x hx
    cases hy : F x with
    | none => rw [hy] at hk; cases hk
    | some y =>
      rw [hy] at hk
      simp only [Option.bind_some, Option.some.injEq] at hk
      subst hk
      obtain ⟨hrep, hlen⟩ := viewArgs_rep r (val := nthV cargs) hargs (fun j v hj => by unfold nthV; rw [Nat.zero_add, List.getD_eq_getElem?_getD, hj]; rfl) hx
      refine (hF.calls x y hy w (fun _ => False) cargs [] hlen (fun b hb => hb.elim) hrep (fun i j b c c' h => by simp at h) (fun b hb => by obtain ⟨c, hc⟩ := hb; cases hc) ?_).mono ?_
      · rw [← hG]
        exact r.glob.mono fun b hb => (A00_no hb).elim
      · rintro e w' ⟨vs, hs', rfl, hvl, hw, hfr, hdi, hl2⟩
        have hl2 : LRepL w' (AvO (fun _ => False) hs') (nthV (vs ++ [])) (lay 0 l) y hs' := hl2
        have hvl : vs.length = l.length := by simpa using hvl
        have hs0 : hs' = [] := by
          have := hl2.len
          rw [lWd_lay, hwd] at this
          exact List.eq_nil_of_length_eq_zero this
        subst hs0
        have hl3 : LRepL w' (Av O μ st.heap) (nthV (vs ++ [])) (lay 0 l) y [] := hl2.flat hc.1
        have hu : (encLs idN noTmp 0 (lay 0 l) y).2 = [] := by
          refine List.eq_nil_of_length_eq_zero ((encLs_len idN (lay 0 l) noTmp 0 y).trans ?_)
          rw [lWd_lay, hwd]
        obtain ⟨e1, _⟩ := LRepL.enc (μ := μ) (h := st.heap) (A2 := Av O μ st.heap) (g := idN) (tmp := noTmp) (i := 0) (fun _ hb => hb) hl3 (fun p hp => by rw [hu] at hp; cases hp) (fun j m hj => by simp at hj) (fun t => ⟨trivial, trivial⟩)
        refine ⟨tupVal vs, rfl, ⟨hw.below (fun b hb => by obtain ⟨c, hc⟩ := hb; cases hc), hw.drawn⟩, ?_⟩
        rw [len_eq, ← hvl]
        refine tupV_rep (firstVs_rep vs 0 fun j vv hj => ?_)
        have := e1 (0 + j)
        have hv2 : nthV (vs ++ []) (0 + j) = vv := by
          unfold nthV
          rw [Nat.zero_add, List.append_nil, List.getD_eq_getElem?_getD, hj]
          rfl
        rw [hv2] at this
        exact this
  · cases hk
noncomputable def frzK : CK → Bool
  | .val _ => true
  | .row t => !t.mk
  | .nil => true
  | .cons k ks => frzK k && frzK ks
  | _ => false
theorem frzK_agg : ∀ {k : CK}, frzK k = true → k ≠ .nil → k.isAgg = (CK.val k.ty).isAgg
  | .val _, _, _ => rfl
  | .row _, _, _ => rfl
  | .nil, _, h => absurd rfl h
  | .cons _ _, _, _ => rfl
  | .view _, h, _ => by cases h
  | .box _ _, h, _ => by cases h
  | .clo _ _, h, _ => by cases h
  | .skip, h, _ => by cases h
  | .nilp, h, _ => by cases h
  | .slf, h, _ => by cases h
  | .fn _, h, _ => by cases h
theorem orep_frep {w : World} {A : Nat → Prop} : ∀ {k : CK} {sb : Option Nat} {x : k.ty.den} {cs : List Value} {hs : List Hd}, frzK k = true → (∀ b, inHd hs b → ¬ A b) → ORep w A sb k x cs hs → FRep w A k.ty x cs
  | .val t, _, _, _, _, _, _, ⟨_, hf⟩ => hf
  | .row t, _, _, _, _, hk, hb, ⟨m, v, hh, hc, hv, hz, hr⟩ => by
    subst hh hc
    have hkm : t.mk = false := by
      unfold frzK at hk
      rwa [Bool.not_eq_true'] at hk
    refine row_frep hkm (μ := fun _ => none) (h := noHeap) (m := m) (fz := false) (A := A) ⟨hz, ?_⟩ hv (fun _ h => h) (fun b c hm => hb b ⟨c, by rw [hm]; exact List.mem_singleton.2 rfl⟩)
    cases m with
    | none => exact hr
    | some p => exact ⟨hr, fun h => by cases h⟩
  | .nil, _, _, _, _, _, _, ⟨_, hc⟩ => hc
  | .cons k ks, _, _, _, _, hk, hb, ⟨c0, c1, h0, h1, hc, hh, r0, r1⟩ => by
    rw [frzK, Bool.and_eq_true] at hk
    subst hh
    exact ⟨c0, c1, hc, orep_frep hk.1 (fun b hb0 => hb b (by obtain ⟨c, hc⟩ := hb0; exact ⟨c, List.mem_append.2 (.inl hc)⟩)) r0, orep_frep hk.2 (fun b hb0 => hb b (by obtain ⟨c, hc⟩ := hb0; exact ⟨c, List.mem_append.2 (.inr hc)⟩)) r1⟩
  | .view _, _, _, _, _, h, _, _ => by cases h
  | .box _ _, _, _, _, _, h, _, _ => by cases h
  | .clo _ _, _, _, _, _, h, _, _ => by cases h
  | .skip, _, _, _, _, h, _, _ => by cases h
  | .nilp, _, _, _, _, h, _, _ => by cases h
  | .slf, _, _, _, _, h, _, _ => by cases h
  | .fn _, _, _, _, _, h, _, _ => by cases h
noncomputable def notNil : CK → Bool
  | .nil => false
  | _ => true
noncomputable def asVal (k : CK) (y : SumL [[k]]) : (lTy (lay 0 [.val k.ty])).den := y
noncomputable def wrun {R : Type} (ins : List CK) (k : CK) (F : (lTy (lay 0 ins)).den → Option (SumL [[k]])) (h : Heap) (args : List V) (K : V → Option R) : Option R :=
  bif frzK k && k.flat && notNil k then
    match viewArgs h ins 0 args with
    | some x => (F x).bind fun y => K (tupV (firstVs (encLs idN noTmp 0 (lay 0 [.val k.ty]) (asVal k y)).1 0 1))
    | none => none
  else none
theorem wrun_nat {R : Type} {ins : List CK} {k : CK} {F : (lTy (lay 0 ins)).den → Option (SumL [[k]])} {h : Heap} {args : List V} {K : V → Option R} : wrun ins k F h args K = (wrun ins k F h args some).bind K := by
  unfold wrun
  cases frzK k && k.flat && notNil k
  · rfl
  · simp only [cond_true]
    cases viewArgs h ins 0 args with
    | none => rfl
    | some x =>
      simp only
      cases F x <;> rfl
theorem wrun_frame {ins : List CK} {k : CK} {F : (lTy (lay 0 ins)).den → Option (SumL [[k]])} (h : Heap) (e : Nat) (args : List V) (v : V) (id : Nat) (b : Blk) (hn : h id = none) (hid : ∀ e' d, e ≤ e' → id ≠ nid e' d 0) (hk : wrun ins k F h args some = some v) : wrun ins k F (updH h id b) args some = some v := by
  unfold wrun at hk ⊢
  obtain ⟨hc, hk⟩ := cond_some hk
  rw [hc]
  simp only [cond_true]
  split at hk
  · rename_i x hx
    rw [viewArgs_more (h' := updH h id b) (fun i y hy => by rw [updH_ne _ _ (fun e => by rw [e, hn] at hy; cases hy)]; exact hy) hx]
    exact hk
  · cases hk
noncomputable def mkW (ins : List CK) (k : CK) (F : (lTy (lay 0 ins)).den → Option (SumL [[k]])) : QFun := ⟨fun h _ args K => wrun ins k F h args K, fun _ _ _ _ => wrun_nat, wrun_frame⟩
theorem w_ok [Dr] {G : GTab} {f : Nat} {ins : List CK} {k : CK} {F : (lTy (lay 0 ins)).den → Option (SumL [[k]])} (hF : FnOK P G f ⟨ins, [], [[k]], F⟩) : QOK P G f (mkW ins k F) := by
  refine ⟨hF.enter, fun {W0 O μ st a w} r hG {ep args cargs} hargs {v} hk => ?_⟩
  have hk : wrun ins k F st.heap args some = some v := hk
  unfold wrun at hk
  obtain ⟨hc, hk⟩ := cond_some hk
  rw [Bool.and_eq_true, Bool.and_eq_true] at hc
  obtain ⟨⟨hfz, hfl⟩, hnn⟩ := hc
  have hnn : k ≠ .nil := by rintro rfl; cases hnn
  split at hk
  · rename_i x hx
    cases hy : F x with
    | none => rw [hy] at hk; cases hk
    | some y =>
      rw [hy] at hk
      simp only [Option.bind_some, Option.some.injEq] at hk
      subst hk
      obtain ⟨hrep, hlen⟩ := viewArgs_rep r (val := nthV cargs) hargs (fun j v hj => by unfold nthV; rw [Nat.zero_add, List.getD_eq_getElem?_getD, hj]; rfl) hx
      refine (hF.calls x y hy w (fun _ => False) cargs [] hlen (fun b hb => hb.elim) hrep (fun i j b c c' h => by simp at h) (fun b hb => by obtain ⟨c, hc⟩ := hb; cases hc) ?_).mono ?_
      · rw [← hG]
        exact r.glob.mono fun b hb => (A00_no hb).elim
      · rintro e w' ⟨vs, hs', rfl, hvl, hw, hfr, hdi, hl2⟩
        have hvl : vs.length = 1 := by simpa using hvl
        obtain ⟨cs, k0, k1, hh, hsh, ho, hnil⟩ : ∃ cs k0 k1, hs' = k0 ++ k1 ∧ shapeK k cs (nthV (vs ++ []) 0) ∧ ORep w' (AvO (fun _ => False) hs') none k y.1 cs k0 ∧ k1 = [] := hl2
        have hav : ∀ b, inHd k0 b → ¬ Av O μ st.heap b := by
          intro b hb0 hb1
          have hin : inHd hs' b := by obtain ⟨c, hc⟩ := hb0; exact ⟨c, by rw [hh]; exact List.mem_append.2 (.inl hc)⟩
          rcases hfr b hin with h | h
          · rcases hb1 with hb1 | ⟨id, blk, c, h1, h2, h3⟩
            · have := (r.outer b hb1).1
              have := r.below.size
              omega
            · have hbk := r.blks id blk h1
              rw [h3] at hbk
              have : b < w.heap.size := by
                cases blk with
                | box _ cs =>
                  obtain ⟨b', c', cur, e1, e2, _⟩ := hbk
                  cases e1
                  exact (Array.getElem?_eq_some_iff.1 e2).1
                | row t xs fz =>
                  obtain ⟨_, ⟨e, cur, fr, e2, _⟩, _⟩ := hbk
                  exact (Array.getElem?_eq_some_iff.1 e2).1
                | dead => cases h2
              omega
          · obtain ⟨c, hc⟩ := h; cases hc
        have hf : FRep w' (Av O μ st.heap) k.ty y.1 cs := orep_frep hfz hav (ORep.flat hfl ho)
        have hl3 : LRepL w' (Av O μ st.heap) (nthV (vs ++ [])) (lay 0 [.val k.ty]) (asVal k y) [] := by
          refine ⟨cs, [], [], rfl, ?_, ⟨rfl, hf⟩, rfl⟩
          unfold shapeK at hsh ⊢
          rw [← frzK_agg hfz hnn]
          exact hsh
        have hu : (encLs idN noTmp 0 (lay 0 [.val k.ty]) (asVal k y)).2 = [] := rfl
        obtain ⟨e1, _⟩ := LRepL.enc (μ := μ) (h := st.heap) (A2 := Av O μ st.heap) (g := idN) (tmp := noTmp) (i := 0) (fun _ hb => hb) hl3 (fun p hp => by rw [hu] at hp; cases hp) (fun j m hj => by simp at hj) (fun t => ⟨trivial, trivial⟩)
        refine ⟨tupVal vs, rfl, ⟨hw.below (fun b hb => by obtain ⟨c, hc⟩ := hb; cases hc), hw.drawn⟩, ?_⟩
        rw [← hvl]
        refine tupV_rep (firstVs_rep vs 0 fun j vv hj => ?_)
        have := e1 (0 + j)
        have hv2 : nthV (vs ++ []) (0 + j) = vv := by
          unfold nthV
          rw [Nat.zero_add, List.append_nil, List.getD_eq_getElem?_getD, hj]
          rfl
        rw [hv2] at this
        exact this
  · cases hk
end
end Go.VM
