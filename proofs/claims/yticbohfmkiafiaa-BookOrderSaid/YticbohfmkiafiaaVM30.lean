import Derived.Test.YticbohfmkiafiaaVM29
namespace Go.VM
open Go.RowKit Go.Shelf Go.Lib Go.Proofs
variable {P : Program} {ρ : Ren} {G : GTab}
noncomputable def insL {α : Type} (xs : List α) (i : Int) (ys : List α) : List α := xs.take i.toNat ++ ys ++ xs.drop i.toNat
theorem setCells_row {w : World} {b o : Nat} {t : TypeId} {cur : Array Value} {vs : List Value} (hg : w.heap[b]? = some (.cells cur t (0, 0))) (hl : o + vs.length ≤ cur.size) (h1 : ∀ v ∈ vs, v.oneCell' = true) :
    w.setCells b o vs = w.setRow b (cur.toList.take o ++ vs ++ cur.toList.drop (o + vs.length)).toArray := by
  have e1 := run_storeCells_cells (P := default) b o vs 0 w (fun j hj => by
    simp only [World.cell?, Nat.zero_add, Nat.add_zero, hg]
    rw [Array.getElem?_eq_getElem (by omega)]; rfl) (fun j hj => by simp [World.frozen?, hg]) h1
  have e2 := run_storeCells_at default b o t vs 0 cur w hg (by simpa using hl) h1
  simp only [Nat.add_zero] at e1 e2
  rw [e1] at e2
  simpa using e2
theorem ins_list {α : Type} (A D vs : List α) (p q N : Nat) (hq : vs.length = q) (hp : p ≤ N) (hN : N + q ≤ A.length) (hD : D.length = N - p) :
    let c1 := A.take (p + q) ++ D ++ A.drop (p + q + D.length)
    c1.take p ++ vs ++ c1.drop (p + vs.length) = A.take p ++ vs ++ D ++ A.drop (N + q) := by
  intro c1
  have h1 : c1.take p = A.take p := by
    show (A.take (p + q) ++ D ++ A.drop (p + q + D.length)).take p = _
    rw [List.append_assoc, List.take_append_of_le_length (by rw [List.length_take]; omega), List.take_take, Nat.min_eq_left (by omega)]
  have h2 : c1.drop (p + vs.length) = D ++ A.drop (N + q) := by
    show (A.take (p + q) ++ D ++ A.drop (p + q + D.length)).drop (p + vs.length) = _
    have hl : (A.take (p + q)).length = p + vs.length := by rw [List.length_take]; omega
    rw [List.append_assoc, ← hl, List.drop_left, show p + q + D.length = N + q by omega]
  rw [h1, h2, List.append_assoc (A.take p ++ vs)]
theorem ins_list2 {α : Type} (A D vs : List α) (p q N : Nat) (hq : vs.length = q) (hp : p ≤ N) (hN : N + q ≤ A.length) (hD : D.length = N - p) :
    let c1 := A.take p ++ vs ++ A.drop (p + vs.length)
    c1.take (p + q) ++ D ++ c1.drop (p + q + D.length) = A.take p ++ vs ++ D ++ A.drop (N + q) := by
  intro c1
  have hl : (A.take p ++ vs).length = p + q := by rw [List.length_append, List.length_take]; omega
  have h1 : c1.take (p + q) = A.take p ++ vs := by
    show (A.take p ++ vs ++ A.drop (p + vs.length)).take (p + q) = _
    rw [← hl, List.take_left]
  have h2 : c1.drop (p + q + D.length) = A.drop (N + q) := by
    show (A.take p ++ vs ++ A.drop (p + vs.length)).drop (p + q + D.length) = _
    rw [← hl, List.drop_append, List.drop_of_length_le (by omega), List.nil_append, List.drop_drop]
    congr 1
    omega
  rw [h1, h2]
theorem shape_of {w : World} {b : Nat} {cur : Array Value} {e : TypeId} {fr : Nat × Nat} (h : w.heap[b]? = some (.cells cur e fr)) : w.shape? b = some (e, cur.size) := by simp [World.shape?, h]
noncomputable def insF (t : Ty) (k : Nat) (xs : List t.den) (i : Int) (ys : List t.den) : Option ((Ty.sl t).den × Unit) :=
  bif decide (0 ≤ i) && (decide (i ≤ (xs.length : Int)) && (!nilB ys && decide ((xs.length + ys.length) * k ≤ roomN))) then some (insL xs i ys, ()) else none
theorem insert_ok [Dr] {t : Ty} {i0 : TypeInfo} {zv : Value} (L : InsLays P ρ t.sz i0 zv) (hE : ElemTy P (ρ.t 24) (ρ.t 9) i0 t)
    (enter : ∀ (args : Array Value) (w : World), (callFunc (ρ.f 22) args).run P w = .ok (.enter (ρ.f 22) args) w) :
    FnOK P G (ρ.f 22) ⟨[.row t, .val (.int .i64), .row t], [], [[.row t]], fun x => insF t i0.bytes x.1 x.2.1 x.2.2.1⟩ := by
  refine ⟨enter, fun x y hy w A args hs hlen hA hrep hdist hdis hgl => ?_⟩
  have hc := (cond_some hy).1
  have hy := (cond_some hy).2
  cases hy
  obtain ⟨(xs : List t.den), (iv : Int), (ys : List t.den), _⟩ := x
  simp only [Bool.and_eq_true, decide_eq_true_eq] at hc
  obtain ⟨h0i, hin, hne, hroom⟩ := hc
  obtain ⟨i, rfl⟩ : ∃ i : Nat, iv = (i : Int) := ⟨iv.toNat, by omega⟩
  have hin : i ≤ xs.length := by omega
  have hroom : (xs.length + ys.length) * i0.bytes ≤ 140737488355328 := hroom
  have hm : 0 < ys.length := by
    cases ys with
    | nil => simp [nilB] at hne
    | cons _ _ => simp
  obtain ⟨cs0, k0, k1, rfl, hsh, ⟨m1, v, rfl, rfl, hv, hz, hr⟩, cs1, k10, k11, hh, hsh1, ⟨hq1, hf1⟩, cs2, k20, k21, hh2, hsh2, ⟨m2, v2, rfl, rfl, hv2, _, hr2⟩, hnil⟩ := hrep
  have hlen : args.length = 3 := hlen
  obtain ⟨a0, a1, a2, rfl⟩ : ∃ v0 v1 v2, args = [v0, v1, v2] := by
    match args, hlen with
    | [a, b, c], _ => exact ⟨a, b, c, rfl⟩
  have e0 : [v] = [a0] := hsh
  simp only [List.cons.injEq, and_true] at e0
  subst e0
  have e1 : cs1 = [a1] := hsh1
  have e1' : cs1 = [.int .i64 (i : Int)] := hf1
  rw [e1] at e1'
  simp only [List.cons.injEq, and_true] at e1'
  subst e1'
  have e2 : [v2] = [a2] := hsh2
  simp only [List.cons.injEq, and_true] at e2
  subst e2
  have hk1 : k1 = [m2] := by rw [hh, hq1, hh2, show k21 = [] from hnil]; rfl
  subst hk1
  clear hlen hsh hsh1 hsh2 hf1 e1 hh hh2 hnil hq1
  -- the row that is laid in
  cases m2 with
  | none =>
    exfalso
    have hr2 : ys = [] := hr2
    rw [hr2] at hm
    simp at hm
  | some p2 =>
  obtain ⟨vb, vc⟩ := p2
  have hv2 : v2 = _ := hv2
  subst hv2
  obtain ⟨e2, cur2, fr2, hg2, hcs2, ⟨hc20, hl2⟩, hmx2, hfr2, hxx2⟩ := hr2
  have hfr2 := hfr2.1 rfl
  subst hfr2
  have hle2 : ys.length * t.sz ≤ cur2.size := by rw [hcs2]; exact Nat.mul_le_mul_right _ hl2
  have hEl2 := elems_of_rowAt hxx2 hle2
  generalize hvs : cur2.toList.take (ys.length * t.sz) = vs at hEl2
  have hvcell : ∀ j u, vs[j]? = some u → w.cell? ⟨vb, j, none⟩ = some u := by
    intro j u hj
    rw [← hvs, List.getElem?_take] at hj
    split at hj
    · simp [World.cell?, hg2]; simpa using hj
    · cases hj
  have hv1 := hEl2.oneCell
  have hsrc : Src P t.sz (ρ.t 24) (.slice (some ⟨vb, 0, none⟩) ys.length vc) ys.length vs w := Src.ofSlice w L.t24 ⟨vb, 0, none⟩ ys.length vc vs hEl2.1 (fun j u hj => by rw [Addr.add_lit, Nat.zero_add]; exact hvcell j u hj) hv1
  have hvw : vb < w.heap.size := (Array.getElem?_eq_some_iff.1 hg2).1
  -- the end of all roads
  have fin : ∀ (w' : World) (b' cap' : Nat) (e' : TypeId) (cells rest : List Value), BelowX (inHd ([m1] ++ [some (vb, vc)])) w w' → (w.heap.size ≤ b' ∨ inHd ([m1] ++ [some (vb, vc)]) b') → w'.heap[b']? = some (.cells (cells ++ rest).toArray e' (0, 0)) →
      (cells ++ rest).length = cap' * t.sz → 0 < cap' → xs.length + ys.length ≤ cap' → cap' ≤ maxLen → tagOk t e' → Elems w (AvO A ([m1] ++ [some (vb, vc)])) t (insL xs (i : Int) ys) cells →
      OutRep (fun l z => ∃ vs' hs', Ending.returned (.slice (some ⟨b', 0, none⟩) (xs.length + ys.length) cap') = .returned (tupVal vs') ∧ vs'.length + ([] : List Nat).length = l.length ∧ BelowX (inHd ([m1] ++ [some (vb, vc)])) w w' ∧ (∀ b, inHd hs' b → w.heap.size ≤ b ∨ inHd ([m1] ++ [some (vb, vc)]) b) ∧ DistH hs' ∧
        LRepL w' (AvO A hs') (nthV (vs' ++ ([] : List Nat).map (nthV [v, .int .i64 (i : Int), .slice (some ⟨vb, 0, none⟩) ys.length vc]))) (lay 0 l) z hs') [[.row t]] (insL xs (i : Int) ys, ()) := by
    intro w' b' cap' e' cells rest hbx hb' hg' hlen' hc0' hle' hmx' htg' hel'
    have hil : (insL xs (i : Int) ys).length = xs.length + ys.length := by
      simp [insL]; omega
    refine ⟨[.slice (some ⟨b', 0, none⟩) (xs.length + ys.length) cap'], [some (b', cap')], rfl, rfl, hbx, fun b hb => ?_, ?_, ?_⟩
    · obtain ⟨c, hc⟩ := hb
      simp only [List.mem_singleton, Option.some.injEq, Prod.mk.injEq] at hc
      rw [hc.1]; exact hb'
    · intro p q b c c' hp hq
      have hp' := (List.getElem?_eq_some_iff.1 hp).1
      have hq' := (List.getElem?_eq_some_iff.1 hq).1
      simp only [List.length_singleton] at hp' hq'
      omega
    · refine ⟨[_], [some (b', cap')], [], rfl, rfl, ⟨some (b', cap'), _, rfl, rfl, ?_, hz, ?_⟩, rfl⟩
      · show Value.slice _ _ _ = Value.slice _ _ _
        rw [hil]
      · refine rowAt_of (cs := cells) (rest := rest) (hel'.frame (fun b hb hlt => hbx.block b hlt (fun h => hb (.inr h))) (fun b hb => ?_)) hg' hlen' hc0' (by rw [hil]; exact hle') hmx' htg'
        rcases hb with hb | ⟨c, hc⟩
        · exact .inl (.inl hb)
        · simp only [List.mem_singleton, Option.some.injEq, Prod.mk.injEq] at hc
          rw [hc.1]
          exact hb'.elim .inr (fun h => .inl (.inr h))
  have hBR : BRep w (AvO A ([m1] ++ [some (vb, vc)])) (fun _ => none) (fun _ => none) m1 (.row t xs false) := by
    refine ⟨hz, ?_⟩
    cases m1 with
    | none => exact hr
    | some p => exact ⟨hr, fun h => by cases h⟩
  have hinsn : i = xs.length → insL xs (i : Int) ys = xs ++ ys := by
    intro h; subst h; simp [insL]
  by_cases hie : i = xs.length
  · -- at the end
    subst hie
    rw [hinsn rfl] at fin ⊢
    have hcore := fun ty => append_core hE hsrc hBR hv hroom ty
    obtain ⟨ad, c, rfl, hnc⟩ : ∃ ad c, v = .slice ad xs.length c ∧ xs.length ≤ c := by
      cases m1 with
      | none =>
        obtain ⟨h0, ad, rfl⟩ := hv
        have h0 : xs.length = 0 := h0
        exact ⟨ad, 0, by rw [h0], by omega⟩
      | some p =>
        obtain ⟨b, c⟩ := p
        obtain ⟨_, _, _, _, _, ⟨_, hl⟩, _⟩ := hr
        exact ⟨_, _, hv, hl⟩
    rcases append_core hE hsrc hBR hv hroom (ρ.t 24) with ⟨_, h0, _⟩ | ⟨b, cap, cur, e0, rfl, hg, hcs, hc0, hcm, htg, hrm, hEl, hrun⟩ | ⟨cap, olds, hEl, hc0, hrm, hcm, zs, hzs, hrun⟩
    · omega
    · refine (ins_end L ad xs.length c (some ⟨vb, 0, none⟩) ys.length vc w _ _ hm hnc hrun).mono ?_
      rintro e w' ⟨rfl, rfl⟩
      have hle : xs.length * t.sz + ys.length * t.sz ≤ cur.size := by rw [hcs, ← Nat.add_mul]; exact Nat.mul_le_mul_right _ hrm
      refine fin _ b cap e0 (cur.toList.take (xs.length * t.sz) ++ vs) (cur.toList.drop (xs.length * t.sz + vs.length)) ⟨rfl, rfl, rfl, by rw [setRow_size]; exact Nat.le_refl _, fun k hk hni => setRow_other w b k _ (fun h => hni ⟨cap, by rw [h]; simp⟩), fun _ => Nat.le_refl _⟩
        (.inr ⟨cap, by simp⟩) (setRow_heap w b cur _ e0 _ hg) ?_ hc0 hrm hcm htg (Elems.append hEl hEl2)
      have hk1 : (cur.toList.take (xs.length * t.sz)).length = xs.length * t.sz := by rw [List.length_take, Array.length_toList]; exact Nat.min_eq_left (Nat.le_trans (Nat.le_add_right _ _) hle)
      have hk2 : (cur.toList.drop (xs.length * t.sz + vs.length)).length = cur.size - (xs.length * t.sz + vs.length) := by rw [List.length_drop, Array.length_toList]
      have hk3 : vs.length = ys.length * t.sz := hEl2.1
      rw [List.length_append, List.length_append, hk1, hk2, hk3, ← hcs]
      omega
    · refine (ins_end L ad xs.length c (some ⟨vb, 0, none⟩) ys.length vc w _ _ hm hnc hrun).mono ?_
      rintro e w' ⟨rfl, rfl⟩
      refine fin _ w.heap.size cap (ρ.t 9) (olds ++ vs) zs (BelowX.of (drew_alloc_below w _)) (.inl (Nat.le_refl _)) (by show (w.drew.heap.push _)[w.heap.size]? = _; exact Array.getElem?_push_size) ?_ hc0 hrm hcm hE.tag (Elems.append hEl hEl2)
      have h1 : (xs.length + ys.length) * t.sz ≤ cap * t.sz := Nat.mul_le_mul_right _ hrm
      have h2 : (cap - (xs.length + ys.length)) * t.sz = cap * t.sz - (xs.length + ys.length) * t.sz := Nat.sub_mul ..
      have hk3 : vs.length = ys.length * t.sz := hEl2.1
      have hk4 : olds.length = xs.length * t.sz := hEl.1
      have hk5 : (xs.length + ys.length) * t.sz = xs.length * t.sz + ys.length * t.sz := Nat.add_mul ..
      rw [hk5] at h1 h2
      rw [List.length_append, List.length_append, hk4, hk3, hzs]
      refine Eq.trans (congrArg (xs.length * t.sz + ys.length * t.sz + ·) h2) ?_
      omega
  · have hi : i < xs.length := by omega
    cases m1 with
    | none =>
      have hr : xs = [] := hr
      rw [hr] at hi
      simp at hi
    | some p =>
    obtain ⟨b, c⟩ := p
    have hv : v = _ := hv
    subst hv
    obtain ⟨e0, cur, fr, hg, hcs, ⟨hc0, hl⟩, hmx, hfr, hxx⟩ := hr
    have htg := hfr.2
    have hfr := hfr.1 rfl
    subst hfr
    have hle : xs.length * t.sz ≤ cur.size := by rw [hcs]; exact Nat.mul_le_mul_right _ hl
    have hEl := elems_of_rowAt hxx hle
    generalize hcse : cur.toList.take (xs.length * t.sz) = cs at hEl
    have hccell : ∀ j u, cs[j]? = some u → w.cell? ⟨b, j, none⟩ = some u := by
      intro j u hj
      rw [← hcse, List.getElem?_take] at hj
      split at hj
      · simp [World.cell?, hg]; simpa using hj
      · cases hj
    have hc1 := hEl.oneCell
    have hbw : b < w.heap.size := (Array.getElem?_eq_some_iff.1 hg).1
    have hvb : vb ≠ b := by
      intro h
      have := hdist 0 1 b c vc (by simp) (by simp [h])
      omega
    have e1 : i * t.sz ≤ xs.length * t.sz := Nat.mul_le_mul_right _ (by omega)
    have hN : cs.length = xs.length * t.sz := hEl.1
    have hV : vs.length = ys.length * t.sz := hEl2.1
    have hD1 : ∀ u ∈ cs.drop (i * t.sz), u.oneCell' = true := fun u hu => hc1 u (List.mem_of_mem_drop hu)
    have hDl : (cs.drop (i * t.sz)).length = xs.length * t.sz - i * t.sz := by rw [List.length_drop, hN]
    have hElZ : Elems w (AvO A ([some (b, c)] ++ [some (vb, vc)])) t (insL xs (i : Int) ys) (cs.take (i * t.sz) ++ vs ++ cs.drop (i * t.sz)) := by
      have h1 : insL xs (i : Int) ys = xs.take i ++ ys ++ xs.drop i := by simp [insL]
      rw [h1]
      exact Elems.append (Elems.append (hEl.take (by omega)) hEl2) (hEl.drop (by omega))
    have hZl : (cs.take (i * t.sz) ++ vs ++ cs.drop (i * t.sz)).length = xs.length * t.sz + ys.length * t.sz := by
      rw [List.length_append, List.length_append, List.length_take, hV, hDl, hN, Nat.min_eq_left e1]
      omega
    by_cases hroom2 : xs.length + ys.length ≤ c
    · have hle2' : xs.length * t.sz + ys.length * t.sz ≤ cur.size := by rw [hcs, ← Nat.add_mul]; exact Nat.mul_le_mul_right _ hroom2
      have hcz : cur.size ≠ 0 := by
        have := Nat.le_mul_of_pos_right (ys.length) hz
        omega
      refine (ins_shift L b xs.length c i vb ys.length vc cs vs w hi hm hroom2 (by unfold maxLen at hmx; omega) hvb hN hV hccell
        (fun j hj => by
          rw [Nat.add_mul] at hj
          simp only [World.cell?, hg]
          rw [Array.getElem?_eq_getElem (by omega)]; rfl)
        (fun j hj => by simp [World.frozen?, hg]) hvcell hc1 hv1 e2 e0 cur2.size cur.size (shape_of hg2) (shape_of hg) hcz (by simp [World.frozen?, hg2]) (by simp [World.frozen?, hg2])).mono ?_
      rintro e w' ⟨rfl, rfl⟩
      have hgd : w.drew.heap[b]? = some (.cells cur e0 (0, 0)) := hg
      have hs1 := setCells_row (o := i * t.sz + ys.length * t.sz) hgd (by rw [hDl]; omega) hD1
      have hg1 := setRow_heap w.drew b cur (cur.toList.take (i * t.sz + ys.length * t.sz) ++ cs.drop (i * t.sz) ++ cur.toList.drop (i * t.sz + ys.length * t.sz + (cs.drop (i * t.sz)).length)).toArray e0 _ hgd
      have hc1l : (cur.toList.take (i * t.sz + ys.length * t.sz) ++ cs.drop (i * t.sz) ++ cur.toList.drop (i * t.sz + ys.length * t.sz + (cs.drop (i * t.sz)).length)).length = cur.size := by
        have ha : (cur.toList.take (i * t.sz + ys.length * t.sz)).length = i * t.sz + ys.length * t.sz := by rw [List.length_take, Array.length_toList]; exact Nat.min_eq_left (Nat.le_trans (Nat.add_le_add_right e1 _) hle2')
        have hb : (cur.toList.drop (i * t.sz + ys.length * t.sz + (cs.drop (i * t.sz)).length)).length = cur.size - (i * t.sz + ys.length * t.sz + (cs.drop (i * t.sz)).length) := by rw [List.length_drop, Array.length_toList]
        rw [List.length_append, List.length_append, ha, hb, hDl]
        omega
      have hs2 := setCells_row (o := i * t.sz) (vs := vs) hg1 (by
        rw [List.size_toArray, hc1l, hV]
        omega) hv1
      rw [hs1, hs2]
      have hlist := ins_list cur.toList (cs.drop (i * t.sz)) vs (i * t.sz) (ys.length * t.sz) (xs.length * t.sz) hV e1 (by rw [Array.length_toList]; exact hle2') hDl
      have hA0 : cur.toList.take (i * t.sz) = cs.take (i * t.sz) := by rw [← hcse, List.take_take, Nat.min_eq_left e1]
      rw [hA0] at hlist
      refine fin _ b c e0 (cs.take (i * t.sz) ++ vs ++ cs.drop (i * t.sz)) (cur.toList.drop (xs.length * t.sz + ys.length * t.sz)) ⟨rfl, rfl, rfl, by rw [setRow_size, setRow_size]; exact Nat.le_refl _, fun k hk hni => ?_, fun _ => Nat.le_succ _⟩
        (.inr ⟨c, by simp⟩) ?_ ?_ hc0 hroom2 hmx htg hElZ
      · have hne : k ≠ b := fun h => hni ⟨c, by rw [h]; simp⟩
        rw [setRow_other _ b k _ hne, setRow_other _ b k _ hne]
        rfl
      · rw [setRow_heap _ b _ _ e0 _ hg1]
        rw [show (List.toArray (cur.toList.take (i * t.sz + ys.length * t.sz) ++ cs.drop (i * t.sz) ++ cur.toList.drop (i * t.sz + ys.length * t.sz + (cs.drop (i * t.sz)).length))).toList = _ from rfl, hlist]
      · rw [List.length_append, hZl, ← hcs]
        have hk : (cur.toList.drop (xs.length * t.sz + ys.length * t.sz)).length = cur.size - (xs.length * t.sz + ys.length * t.sz) := by rw [List.length_drop, Array.length_toList]
        refine Eq.trans (congrArg (xs.length * t.sz + ys.length * t.sz + ·) hk) ?_
        omega
    · have hroom3 : c < xs.length + ys.length := by omega
      obtain ⟨z0, hz0, hzs, _⟩ := hE.zero
      have hz0 : z0 = zv := by
        have := L.iz.symm.trans hz0
        simpa using this.symm
      subst hz0
      refine (ins_grow L hzs b xs.length c i vb ys.length vc cs vs w hi hm hl hroom3 hroom hN hV hccell hvcell hc1 hv1 hbw hvw).mono ?_
      rintro e w' ⟨rfl, rfl⟩
      generalize hG : grownCap w (xs.length + ys.length) c (ρ.t 9) = GC
      have hGn : xs.length + ys.length ≤ GC := by rw [← hG]; exact grownCap_ge w _ _ _
      have hGm : GC ≤ maxLen := by
        rw [← hG]
        have hby : xs.length + ys.length ≤ 140737488355328 := by
          have := Nat.le_mul_of_pos_right (xs.length + ys.length) L.ib
          omega
        exact grownCap_le_maxLen w (xs.length + ys.length) c (ρ.t 9) (by unfold maxLen; omega)
      generalize hROW : (cs.take (i * t.sz)).toArray ++ Builtin.zeroCells z0.cells (xs.length + ys.length - i) ++ Builtin.zeroCells z0.cells (GC - (xs.length + ys.length)) = ROW
      have hCl : (cs.take (i * t.sz)).length = i * t.sz := by rw [List.length_take, hN, Nat.min_eq_left e1]
      have hRl : ROW.size = GC * t.sz := by
        rw [← hROW]
        have h1 : (xs.length + ys.length - i) * t.sz = (xs.length + ys.length) * t.sz - i * t.sz := Nat.sub_mul ..
        have h2 : (GC - (xs.length + ys.length)) * t.sz = GC * t.sz - (xs.length + ys.length) * t.sz := Nat.sub_mul ..
        have h3 : (xs.length + ys.length) * t.sz ≤ GC * t.sz := Nat.mul_le_mul_right _ hGn
        have h4 : (xs.length + ys.length) * t.sz = xs.length * t.sz + ys.length * t.sz := Nat.add_mul ..
        rw [Array.size_append, Array.size_append, size_zeroCells, size_zeroCells, hzs, h1, h2, List.size_toArray, hCl]
        omega
      have hR0 : ROW.toList.take (i * t.sz) = cs.take (i * t.sz) := by
        rw [← hROW, Array.toList_append, Array.toList_append, List.append_assoc]
        rw [show (cs.take (i * t.sz)).toArray.toList = cs.take (i * t.sz) from rfl]
        conv => lhs; arg 1; rw [← hCl]
        exact List.take_left
      have hle3 : xs.length * t.sz + ys.length * t.sz ≤ ROW.size := by
        rw [hRl, ← Nat.add_mul]
        exact Nat.mul_le_mul_right _ hGn
      generalize hW1 : (w.alloc (.cells ROW (ρ.t 9))).drew = W1
      have hWo : ∀ k, k < w.heap.size → W1.heap[k]? = w.heap[k]? := fun k hk => by
        rw [← hW1]
        show (w.heap.push _)[k]? = _
        rw [Array.getElem?_push, if_neg (by omega)]
      have hWn : W1.heap[w.heap.size]? = some (.cells ROW (ρ.t 9) (0, 0)) := by
        rw [← hW1]
        show (w.heap.push _)[w.heap.size]? = _
        exact Array.getElem?_push_size
      have hWs : W1.heap.size = w.heap.size + 1 := by
        rw [← hW1]
        show (w.heap.push _).size = _
        exact Array.size_push ..
      have hWe : W1.os = w.os ∧ W1.tape = w.tape ∧ W1.output = w.output ∧ W1.drawn = w.drawn + 1 := by rw [← hW1]; exact ⟨rfl, rfl, rfl, rfl⟩
      have hs1 := setCells_row (o := i * t.sz) (vs := vs) hWn (by rw [hV]; omega) hv1
      have hg1 := setRow_heap W1 w.heap.size ROW (ROW.toList.take (i * t.sz) ++ vs ++ ROW.toList.drop (i * t.sz + vs.length)).toArray (ρ.t 9) _ hWn
      have hc1l : (ROW.toList.take (i * t.sz) ++ vs ++ ROW.toList.drop (i * t.sz + vs.length)).length = ROW.size := by
        have hb : (ROW.toList.drop (i * t.sz + vs.length)).length = ROW.size - (i * t.sz + vs.length) := by rw [List.length_drop, Array.length_toList]
        rw [List.length_append, List.length_append, hR0, hCl, hb, hV]
        omega
      have hg1d : (W1.setRow w.heap.size (ROW.toList.take (i * t.sz) ++ vs ++ ROW.toList.drop (i * t.sz + vs.length)).toArray).drew.heap[w.heap.size]? = _ := hg1
      have hs2 := setCells_row (o := i * t.sz + ys.length * t.sz) (vs := cs.drop (i * t.sz)) hg1d (by
        rw [List.size_toArray, hc1l, hDl]
        omega) hD1
      rw [hs1, hs2]
      have hlist := ins_list2 ROW.toList (cs.drop (i * t.sz)) vs (i * t.sz) (ys.length * t.sz) (xs.length * t.sz) hV e1 (by rw [Array.length_toList]; exact hle3) hDl
      rw [hR0] at hlist
      refine fin _ w.heap.size GC (ρ.t 9) (cs.take (i * t.sz) ++ vs ++ cs.drop (i * t.sz)) (ROW.toList.drop (xs.length * t.sz + ys.length * t.sz)) ⟨hWe.1, hWe.2.1, hWe.2.2.1, ?_, fun k hk hni => ?_, fun _ => ?_⟩
        (.inl (Nat.le_refl _)) ?_ ?_ (by omega) hGn hGm hE.tag hElZ
      · rw [setRow_size]
        show w.heap.size ≤ (W1.setRow _ _).heap.size
        rw [setRow_size, hWs]
        omega
      · rw [setRow_other _ w.heap.size k _ (by omega)]
        show (W1.setRow _ _).heap[k]? = _
        rw [setRow_other _ w.heap.size k _ (by omega), hWo k hk]
      · show w.drawn ≤ W1.drawn + 1
        rw [hWe.2.2.2]
        omega
      · rw [setRow_heap _ w.heap.size _ _ (ρ.t 9) _ hg1d]
        rw [hR0, show (List.toArray (cs.take (i * t.sz) ++ vs ++ ROW.toList.drop (i * t.sz + vs.length))).toList = _ from rfl, hlist]
      · rw [List.length_append, hZl, ← hRl]
        have hk : (ROW.toList.drop (xs.length * t.sz + ys.length * t.sz)).length = ROW.size - (xs.length * t.sz + ys.length * t.sz) := by rw [List.length_drop, Array.length_toList]
        refine Eq.trans (congrArg (xs.length * t.sz + ys.length * t.sz + ·) hk) ?_
        omega
structure InsL0 (P : Program) (ρ : Ren) : Prop where
  mixed : P.follows .mixedOrders = true
  f22 : Bears P (ρ.f 22) (Body2.n22 ρ)
  f29 : OvlLays P ρ
  t0 : P.underlying (ρ.t 0) = some (TypeDesc.tuple #[])
  a0 : ∀ w, (isAgg (ρ.t 0)).run P w = .ok false w
  z0 : ∀ w, (Go.sizeOf (ρ.t 0)).run P w = .ok 1 w
  v0 : ∀ w, (zeroValue (ρ.t 0)).run P w = .ok (Value.tuple #[]) w
  t3 : P.underlying (ρ.t 3) = some (TypeDesc.int IntKind.i64)
  a3 : ∀ w, (isAgg (ρ.t 3)).run P w = .ok false w
  z3 : ∀ w, (Go.sizeOf (ρ.t 3)).run P w = .ok 1 w
  v3 : ∀ w, (zeroValue (ρ.t 3)).run P w = .ok (Value.int IntKind.i64 0) w
  t4 : P.underlying (ρ.t 4) = some (TypeDesc.bool)
  a4 : ∀ w, (isAgg (ρ.t 4)).run P w = .ok false w
  z4 : ∀ w, (Go.sizeOf (ρ.t 4)).run P w = .ok 1 w
  v4 : ∀ w, (zeroValue (ρ.t 4)).run P w = .ok (Value.bool false) w
  t24 : P.underlying (ρ.t 24) = some (TypeDesc.slice (ρ.t 9))
  a24 : ∀ w, (isAgg (ρ.t 24)).run P w = .ok false w
  z24 : ∀ w, (Go.sizeOf (ρ.t 24)).run P w = .ok 1 w
  v24 : ∀ w, (zeroValue (ρ.t 24)).run P w = .ok (Value.slice none 0 0) w
theorem insertT_ok [Dr] {t : Ty} {k : Nat} (L : InsL0 P ρ) (z9 : ∀ w, (Go.sizeOf (ρ.t 9)).run P w = .ok t.sz w) (hE : (elemTy P (ρ.t 24)).map (fun x => (x.1, x.2.2, x.2.1.bytes)) = some (ρ.t 9, t, k))
    (enter : ∀ (args : Array Value) (w : World), (callFunc (ρ.f 22) args).run P w = .ok (.enter (ρ.f 22) args) w) :
    FnOK P G (ρ.f 22) ⟨[.row t, .val (.int .i64), .row t], [], [[.row t]], fun x => insF t k x.1 x.2.1 x.2.2.1⟩ := by
  obtain ⟨⟨e, i0, u⟩, h1, h2⟩ := Option.map_eq_some_iff.1 hE
  simp only [Prod.mk.injEq] at h2
  obtain ⟨rfl, rfl, rfl⟩ := h2
  have hE := elemTy_some h1
  obtain ⟨zv, hz, _⟩ := hE.zero
  exact insert_ok (zv := zv) { L with z9 := z9, i9 := hE.info, iz := hz, is := hE.size, zp := hE.pos, ib := hE.bytes0 } hE enter
end Go.VM
