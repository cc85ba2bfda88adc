import Derived.Test.YticbohfmkiafiaaVM8
import Derived.Great.FillDense
namespace Go.VM
open Go.RowKit
noncomputable def OpOK [Dr] (P : Program) (W0 : World) (O : Out) (st : St) (a : Act) (w : World) (o : Oper) (v : V) (u : Upd) : Prop :=
  ∀ (next : Act → World → Prop) (Q : Exit → Act → World → Prop),
    (∀ cv w' μ', RelM W0 O μ' { st with heap := updsH st.heap u } a w' → VRep w' (Av O μ' (updsH st.heap u)) μ' (updsH st.heap u) v cv → next (a.put o.dst cv) w') → o.wp P a w next Q
section
variable {P : Program} {W0 : World} {O : Out} {μ : Mu} {st : St} {a : Act} {w : World} {o : Oper} {v : V} {u : Upd}
theorem OpOK.value [Dr] {cv : Value} {w' : World} {μ' : Mu} (hrun : (execOp a.eval o).run P w = .ok (.value cv) w') (hr : RelM W0 O μ' { st with heap := updsH st.heap u } a w')
    (hv : VRep w' (Av O μ' (updsH st.heap u)) μ' (updsH st.heap u) v cv) : OpOK P W0 O st a w o v u := by
  intro next Q hn
  unfold Oper.wp
  rw [hrun]
  exact hn cv w' μ' hr hv
theorem OpOK.skip [Dr] {w' : World} {μ' : Mu} (hrun : (execOp a.eval o).run P w = .ok .skip w') (hr : RelM W0 O μ' { st with heap := updsH st.heap u } a w') : OpOK P W0 O st a w o (.c .undef) u := by
  intro next Q hn
  unfold Oper.wp
  rw [hrun]
  exact hn undef w' μ' hr trivial
theorem OpOK.pure [Dr] {cv : Value} (r : RelM W0 O μ st a w) (hrun : (execOp a.eval o).run P w = .ok (.value cv) w) (hv : VRep w (Av O μ st.heap) μ st.heap v cv) : OpOK P W0 O st a w o v [] :=
  OpOK.value (μ' := μ) hrun r hv
theorem RelM.ev [Dr] (r : RelM W0 O μ st a w) (x : Operand) : VRep w (Av O μ st.heap) μ st.heap (st.ev x) (a.eval x) := by
  cases x with
  | tmp t => exact r.tmps t
  | const v => exact absV_rep v
  | global g =>
    have key : ∀ gl : GTab, GRep gl w (Av O μ st.heap) → VRep w (Av O μ st.heap) μ st.heap (findG gl g) (.pointer (some ⟨g, 0, none⟩)) := by
      intro gl
      induction gl with
      | nil => intro _; trivial
      | cons p gl ih =>
        intro hg
        unfold findG
        cases hb : Nat.beq p.g g
        · exact ih fun q hq => hg q (List.mem_cons_of_mem _ hq)
        · obtain rfl := Nat.eq_of_beq_eq_true hb
          obtain ⟨cs, hf, _, hc⟩ := hg p (by simp)
          refine VRep.of_c (c := .fptr p.t p.x 0) ⟨⟨p.g, 0, none⟩, cs, rfl, hf, fun j u hu => ?_⟩
          obtain ⟨h1, h2⟩ := hc j u hu
          refine ⟨h1, ?_⟩
          have e : (Addr.add ⟨p.g, 0, none⟩ j) = ⟨p.g, j, none⟩ := by
            simp [Addr.add]
            exact fun h => h.symm
          rw [e]; exact h2
    exact key st.n.gl r.glob
  | func f => exact VRep.of_c (c := .fn f) rfl
theorem alloc_below [Dr] (w : World) (ob : Obj) : BelowD w.heap.size w (w.alloc ob) := (BelowD.refl _ _).alloc (Nat.le_refl _) ob
theorem alloc_ok [Dr] (r : RelM W0 O μ st a w) {elem : TypeId} {i : TypeInfo} {z : Value} {id : Nat} (ho : o.op = .alloc elem) (hi : P.info? elem = some i) (hz : i.zero = some z) (h1 : oneB z.cells.toList = true)
    (hid : st.heap id = none) : OpOK P W0 O st a w o (.c (.ptr id 0)) [(id, .box elem (absCs z.cells.toList))] := by
  have hnew := (alloc_below w (.cells z.cells elem))
  obtain ⟨s, r'⟩ := r.new (b := w.heap.size) (c := 0) (blk := .box elem (absCs z.cells.toList)) hid hnew (Nat.le_refl _) (fun s => ⟨w.heap.size, 0, z.cells, rfl, heap_alloc_new w _, absCs_rep _ h1, rfl⟩)
  refine OpOK.value (cv := .pointer (some ⟨w.heap.size, 0, none⟩)) (w' := w.alloc (.cells z.cells elem)) ?_ r' (VRep.of_c (c := .ptr id 0) ⟨_, w.heap.size, 0, updH_same .., updM_same .., rfl⟩)
  simp [execOp, ho, Instr.alloc, zeroValue, typeInfo, hi, hz, newVar, newRow]
theorem box_ok [Dr] (r : RelM W0 O μ st a w) {elem : TypeId} {x : Operand} {cs : List C} {id : Nat} (ho : o.op = .box elem x) (hx : (st.ev x).cells = some cs) (hid : st.heap id = none) :
    OpOK P W0 O st a w o (.c (.ptr id 0)) [(id, .box elem cs)] := by
  have hcs := cells_rep (r.ev x) hx
  have hnew := (alloc_below w (.cells (a.eval x).cells elem))
  obtain ⟨s, r'⟩ := r.new (b := w.heap.size) (c := 0) (blk := .box elem cs) hid hnew (Nat.le_refl _) (fun s => ⟨w.heap.size, 0, _, rfl, heap_alloc_new w _, s.csrep hcs, rfl⟩)
  refine OpOK.value (cv := .pointer (some ⟨w.heap.size, 0, none⟩)) (w' := w.alloc (.cells (a.eval x).cells elem)) ?_ r' (VRep.of_c (c := .ptr id 0) ⟨_, w.heap.size, 0, updH_same .., updM_same .., rfl⟩)
  simp [execOp, ho, Instr.box, newVar, newRow]
theorem foldl_over (off : Nat) (l : List Value) (cs : Array Value) (hle : off + l.length ≤ cs.size) :
    ((l.zipIdx).foldl (fun cs (x : Value × Nat) => cs.setIfInBounds (off + x.2) x.1) cs).toList = over off l cs.toList := by
  obtain ⟨h1, h2⟩ := Great.foldl_set off l 0 cs
  rw [over_eq _ _ _ (by simp; omega)]
  apply List.ext_getElem?
  intro k
  rw [Array.getElem?_toList, h2 k]
  simp only [Nat.add_zero]
  by_cases ha : off ≤ k ∧ k < off + l.length ∧ k < cs.size
  · rw [if_pos ha]
    rw [List.append_assoc, List.getElem?_append_right (by simp; omega)]
    rw [List.getElem?_append_left (by simp; omega)]
    congr 1
    simp
    omega
  · rw [if_neg ha]
    by_cases hk : k < off
    · rw [List.append_assoc, List.getElem?_append_left (by simp; omega)]
      simp [hk]
    · rw [List.append_assoc, List.getElem?_append_right (by simp; omega), List.getElem?_append_right (by simp; omega)]
      simp
      congr 1
      omega
theorem over_len {α : Type} (n : Nat) (m l : List α) (h : n + m.length ≤ l.length) : (over n m l).length = l.length := by
  rw [over_eq _ _ _ (by omega)]
  simp
  omega
theorem over_get {α : Type} (n : Nat) (m l : List α) (k : Nat) (h : n + m.length ≤ l.length) : (over n m l)[k]? = if n ≤ k ∧ k < n + m.length then m[k - n]? else l[k]? := by
  rw [over_eq _ _ _ (by omega)]
  by_cases ha : n ≤ k ∧ k < n + m.length
  · rw [if_pos ha, List.append_assoc, List.getElem?_append_right (by simp; omega), List.getElem?_append_left (by simp; omega)]
    congr 1
    simp
    omega
  · rw [if_neg ha]
    by_cases hk : k < n
    · rw [List.append_assoc, List.getElem?_append_left (by simp; omega)]
      simp [hk]
    · rw [List.append_assoc, List.getElem?_append_right (by simp; omega), List.getElem?_append_right (by simp; omega)]
      simp
      congr 1
      omega
theorem updsH_append : ∀ (l m : Upd) (h : Heap), updsH h (l ++ m) = updsH (updsH h l) m
  | [], m, h => rfl
  | (i, b) :: l, m, h => by simp only [List.cons_append, updsH]; exact updsH_append l m _
theorem over_rep {w : World} {A : Nat → Prop} {μ : Mu} {h : Heap} {n : Nat} {cs ds : List C} {vs us : List Value} (hc : CsRep w A μ h cs vs) (hd : CsRep w A μ h ds us) (hle : n ≤ ds.length) :
    CsRep w A μ h (over n cs ds) (over n vs us) := by
  have h1 := All2.len hc
  have h2 := All2.len hd
  rw [over_eq _ _ _ hle, over_eq _ _ _ (by omega), h1]
  exact All2.append (All2.append (All2.take _ hd) hc) (All2.drop _ hd)
theorem fill_sound {h : Heap} {A : Nat → Prop} (place : Nat → Option (Nat × Nat)) : ∀ (parts : List (Nat × V)) (pv : List (Nat × Value)) (cs cs' : List C) (vs : Array Value),
    All2 (fun p q => p.1 = q.1 ∧ VRep w A μ h p.2 q.2) parts pv → fillC place cs parts = some cs' → CsRep w A μ h cs vs.toList →
      ∃ vs', Instr.fill place vs pv = some vs' ∧ CsRep w A μ h cs' vs'.toList
  | [], [], cs, cs', vs, _, hf, hr => by
    simp only [fillC] at hf; cases hf; exact ⟨vs, rfl, hr⟩
  | (i, x) :: parts, (j, y) :: pv, cs, cs', vs, hp, hf, hr => by
    obtain ⟨⟨hij, hv⟩, hp⟩ := hp
    simp only at hij hv
    subst hij
    simp only [fillC] at hf
    split at hf
    · rename_i off size hpl
      split at hf
      · rename_i vc hvc
        have hc := (cond_some hf).1
        have hf2 := (cond_some hf).2
        clear hf
        simp only [Bool.and_eq_true] at hc
        have hs : vc.length = size := by rw [← len_eq]; exact Nat.eq_of_beq_eq_true hc.1
        have hle : off + size ≤ cs.length := by rw [← len_eq]; exact Nat.le_of_ble_eq_true hc.2
        have hcv := cells_rep hv hvc
        have hl1 := All2.len hcv
        have hl2 := All2.len hr
        simp at hl1 hl2
        obtain ⟨vs', hfill, hr'⟩ := fill_sound place parts pv (over off vc cs) cs' (((y.cells.toList.zipIdx).foldl (fun cs (x : Value × Nat) => cs.setIfInBounds (off + x.2) x.1) vs)) hp hf2 (by
          rw [foldl_over _ _ _ (by simp; omega)]
          exact over_rep hcv hr (by omega))
        refine ⟨vs', ?_, hr'⟩
        unfold Instr.fill
        simp only [hpl]
        rw [if_neg (by simp; omega)]
        rw [← hfill]
        congr 1
        rw [← Array.foldl_toList, Array.toList_zipIdx]
      · cases hf
    · cases hf
  | [], _ :: _, _, _, _, hp, _, _ => hp.elim
  | _ :: _, [], _, _, _, hp, _, _ => hp.elim
theorem places_eq : ∀ (fs : List Field) (l : List (Nat × Nat)), placesOf P fs = some l → fs.mapM (fun f => (P.info? f.type).map fun i => (f.offset, i.size)) = some l
  | [], l, h => by simp [placesOf] at h; simp [h]
  | f :: fs, l, h => by
    unfold placesOf at h
    split at h
    · rename_i i hi
      split at h
      · rename_i l' hl
        cases h
        simp [List.mapM_cons, hi, places_eq fs l' hl]
      · cases h
    · cases h
theorem evPs_rep [Dr] (r : RelM W0 O μ st a w) : ∀ (l : List (Nat × Operand)), All2 (fun (p : Nat × V) (q : Nat × Value) => p.1 = q.1 ∧ VRep w (Av O μ st.heap) μ st.heap p.2 q.2) (evPs st l) (l.map fun p => (p.1, a.eval p.2))
  | [] => trivial
  | (i, x) :: l => ⟨⟨rfl, r.ev x⟩, evPs_rep r l⟩
theorem build_ok [Dr] (r : RelM W0 O μ st a w) {t : TypeId} {parts : Array (Nat × Operand)} (ho : o.op = .build t parts) (hk : opBuild P t (evPs st parts.toList) some = some v) : OpOK P W0 O st a w o v [] := by
  unfold opBuild at hk
  split at hk
  · rename_i i hi
    split at hk
    · rename_i z hz
      have h1 := (cond_none hk).1
      have hk2 := (cond_none hk).2
      clear hk
      have h1 : oneB z.cells.toList = true := by simpa using h1
      have hzr := absCs_rep (w := w) (A := Av O μ st.heap) (μ := μ) (h := st.heap) z.cells.toList h1
      have hps := evPs_rep r parts.toList
      have fin : ∀ (place : Nat → Option (Nat × Nat)) (cs : List C), fillC place (absCs z.cells.toList) (evPs st parts.toList) = some cs →
          (∀ vs, Instr.fill place z.cells (parts.toList.map fun p => (p.1, a.eval p.2)) = some vs → P.built t (parts.map fun (i, x) => (i, a.eval x)).toList = some vs) →
          OpOK P W0 O st a w o (.agg cs) [] := by
        intro place cs hf hb
        obtain ⟨vs, hfill, hr⟩ := fill_sound place _ _ _ cs z.cells hps hf hzr
        refine OpOK.pure r (cv := .agg vs) ?_ ⟨vs, rfl, hr⟩
        simp only [execOp, ho, Sem.run_bind, run_build w t _ vs (hb vs hfill), Result.andThen_ok, Sem.run_pure]
      have hmap : (parts.map fun (i, x) => (i, a.eval x)).toList = parts.toList.map fun p => (p.1, a.eval p.2) := by simp
      split at hk2
      · rename_i fs hu
        split at hk2
        · rename_i l hl
          split at hk2
          · rename_i cs hf
            cases hk2
            refine fin (nth l) cs hf (fun vs hvs => ?_)
            have hpl := places_eq fs.toList l hl
            rw [hmap]
            simp only [Program.built, hi, hu, hz, hpl]
            rw [← hvs]
            congr 1
            funext i
            rw [nth_eq]
            simp
          · cases hk2
        · cases hk2
      · rename_i n e hu
        split at hk2
        · rename_i ie hie
          split at hk2
          · rename_i cs hf
            cases hk2
            refine fin (fun i => some (i * ie.size, ie.size)) cs hf (fun vs hvs => ?_)
            rw [hmap]
            simp only [Program.built, hi, hu, hz, hie]
            exact hvs
          · cases hk2
        · cases hk2
      · cases hk2
    · cases hk
  · cases hk
theorem setRow_size (w : World) (g : Nat) (cs : Array Value) : (w.setRow g cs).heap.size = w.heap.size := by simp [World.setRow]
theorem run_storeVar {t0 t : TypeId} {g off : Nat} {cur : Array Value} {v : Value} {i : TypeInfo} (hi : P.info? t = some i) (hg : w.heap[g]? = some (.cells cur t0 (0, 0))) (hs : v.cells.size = i.size)
    (hle : off + i.size ≤ cur.size) (h1 : ∀ u ∈ v.cells.toList, u.oneCell' = true) :
    (storeVar t ⟨g, off, none⟩ v).run P w = .ok () (w.setRow g (over off v.cells.toList cur.toList).toArray) := by
  have hst := run_storeCells_at P g off t0 v.cells.toList 0 cur w hg (by simp; omega) h1
  simp only [Nat.add_zero] at hst
  rw [over_eq _ _ _ (by simp; omega)]
  simp [storeVar, sizeOf, typeInfo, hi, hs, hst]
theorem getElem_set_list {α : Type} (xs : List α) (i j : Nat) (x y : α) (h : (xs.set i x)[j]? = some y) (hi : i < xs.length) : (j = i ∧ y = x) ∨ (j ≠ i ∧ xs[j]? = some y) := by
  rw [List.getElem?_set] at h
  split at h
  · rename_i e
    simp [hi] at h
    exact .inl ⟨e.symm, h.symm⟩
  · rename_i e
    exact .inr ⟨fun e' => e e'.symm, h⟩
theorem rowFor_some {h : Heap} {v : Ty} {vc : List C} {j : Nat} {y : List v.den} (k : rowFor h v vc = some (j, y)) : ∃ fz, vc = [.ref j] ∧ h j = some (.row v y fz) := by
  unfold rowFor at k
  split at k
  · split at k
    · rename_i u xs fz hb
      split at k
      · rename_i z hz
        simp only [Option.some.injEq, Prod.mk.injEq] at k
        obtain ⟨rfl, rfl⟩ := k
        obtain ⟨e, rfl⟩ := castTo_some hz
        cases e
        exact ⟨fz, rfl, hb⟩
      · cases k
    · cases k
  · cases k
theorem store_ok [Dr] (r : RelM W0 O μ st a w) {t : TypeId} {x y : Operand} (ho : o.op = .store t x y) {mk : Bool} (hk : opStore P mk st.heap t (st.ev x) (st.ev y) some = some u) :
    OpOK P W0 O st a w o (.c .undef) u := by
  have hx := r.ev x
  have hy := r.ev y
  unfold opStore at hk
  split at hk
  · rename_i i vc hi hvc
    have hs := Nat.eq_of_beq_eq_true (cond_some hk).1
    have hk2 := (cond_some hk).2
    clear hk
    rw [len_eq] at hs
    have hcv := cells_rep hy hvc
    have hl := All2.len hcv
    simp at hl
    have run : ∀ ad w', (storeVar t ad (a.eval y)).run P w = .ok () w' → a.eval x = .pointer (some ad) → (execOp a.eval o).run P w = .ok .skip w' := by
      intro ad w' h1 h2
      simp [execOp, ho, Instr.storeAt, h2, Instr.sureAddr, h1]
    split at hk2
    · rename_i id off hex
      rw [hex] at hx
      split at hk2
      · rename_i te cs hb
        have hc := (cond_some hk2).1
        have hk3 := (cond_some hk2).2
        clear hk2
        have hle : off + i.size ≤ cs.length := by rw [← len_eq]; exact Nat.le_of_ble_eq_true hc
        obtain ⟨blk, b, c, hb', hm, hxv⟩ := VRep.to_c (by simp) hx
        rw [hb] at hb'
        cases hb'
        have hbr := r.blks id _ hb
        obtain ⟨b', c', cur, hm', hg, hcs, hc0⟩ := hbr
        rw [hm] at hm'
        cases hm'
        have hlc := All2.len hcs
        simp at hlc
        have hst := run_storeVar (P := P) (v := a.eval y) hi hg (by omega) (by omega : off + i.size ≤ cur.size) hcv.one
        have plain : u = [(id, .box te (over off vc cs))] → OpOK P W0 O st a w o (.c .undef) u := by
          rintro rfl
          obtain ⟨s, r'⟩ := r.mod (blk' := .box te (over off vc cs)) (w' := w.setRow b (over off (a.eval y).cells.toList cur.toList).toArray) hb rfl hm trivial rfl
            (fun k hk => setRow_other w b k _ hk) (setRow_size ..) rfl rfl rfl (Nat.le_refl _)
            (fun s => ⟨b, c, _, rfl, setRow_heap w b cur _ te _ hg, by
              simpa using s.csrep (over_rep hcv hcs (by omega)), hc0⟩)
          exact OpOK.skip (run _ _ hst hxv) r'
        split at hk3
        · exact plain (Option.some.inj hk3).symm
        · rename_i v hmk
          split at hk3
          · exact plain (Option.some.inj hk3).symm
          · rename_i j ys hrow
            have hmn := (cond_none hk3).1
            have hk4 := (cond_none hk3).2
            clear hk3
            cases hk4
            rw [Bool.or_eq_false_iff] at hmn
            obtain ⟨hkv, hnil⟩ := hmn
            obtain ⟨fz, rfl, hbj⟩ := rowFor_some hrow
            have hji : id ≠ j := by rintro rfl; rw [hb] at hbj; cases hbj
            obtain ⟨s1, r1, hnot, hav⟩ := r.fz [j]
            have hb1 : updsH st.heap (freezes st.heap [j]) id = some (.box te cs) := by
              rw [freezes_here, (show memN id [j] = false from by
                cases hq : memN id [j] with
                | false => rfl
                | true => exact absurd (List.mem_singleton.1 ((memN_iff _ _).1 hq)) hji)]
              exact hb
            obtain ⟨b1, c1, cur1, hm1, hg1, hcs1, _⟩ := r1.blks id _ hb1
            rw [hm] at hm1
            cases hm1
            rw [hg] at hg1
            cases hg1
            -- the row, as data
            obtain ⟨yv, hyv⟩ : ∃ yv, (a.eval y).cells.toList = [yv] := by
              have := hl
              cases hq : (a.eval y).cells.toList with
              | nil => rw [hq] at hcv; exact hcv.elim
              | cons q l => cases l with
                | nil => exact ⟨q, rfl⟩
                | cons q2 l => rw [hq] at hcv; exact hcv.2.elim
            have hcv' := hcv
            rw [hyv] at hcv'
            obtain ⟨blk, hb2, _, hv⟩ := hcv'.1
            rw [hbj] at hb2
            cases hb2
            have hf := frep_mk (row_frep hkv (A' := Av O μ (updsH st.heap (freezes st.heap [j]))) (r.blks j _ hbj) (hv v ys fz rfl) hav (fun b c hm => hnot j (by simp [memN]) b c hm ⟨v, ys, fz, hbj⟩)) (by
              intro h0
              cases ys with
              | nil => cases hnil
              | cons a l => cases h0)
            have hcv2 : CsRep w (Av O μ (updsH st.heap (freezes st.heap [j]))) μ (updsH st.heap (freezes st.heap [j])) [markC v ys] (a.eval y).cells.toList := by
              rw [hyv]
              exact ⟨hf, trivial⟩
            obtain ⟨s, r'⟩ := r1.mod (blk' := .box te (over off [markC v ys] cs)) (w' := w.setRow b (over off (a.eval y).cells.toList cur.toList).toArray) hb1 rfl hm trivial rfl
              (fun k hk => setRow_other w b k _ hk) (setRow_size ..) rfl rfl rfl (Nat.le_refl _)
              (fun s => ⟨b, c, _, rfl, setRow_heap w b cur _ te _ hg, by
                simpa using s.csrep (over_rep hcv2 hcs1 (by simp at hs; omega)), hc0⟩)
            have hup : updsH st.heap (app (freezes st.heap [j]) [(id, .box te (over off [markC v ys] cs))]) = updH (updsH st.heap (freezes st.heap [j])) id (.box te (over off [markC v ys] cs)) := by
              rw [app_eq, updsH_append]; rfl
            refine OpOK.skip (run _ _ hst hxv) (μ' := μ) ?_
            rw [hup]
            exact r'
      · cases hk2
    · rename_i id j off hex
      rw [hex] at hx
      split at hk2
      · rename_i uu xs hb
        have hc := (cond_some hk2).1
        have hk3 := (cond_some hk2).2
        clear hk2
        have hle : off + i.size ≤ uu.sz := Nat.le_of_ble_eq_true hc
        split at hk3
        · rename_i yv ids him
          have hmem := (cond_none hk3).1
          have hk4 := (cond_none hk3).2
          clear hk3
          cases hk4
          -- first the rows that are taken in are frozen
          obtain ⟨s1, r1, hnot, hav⟩ := r.fz ids
          obtain ⟨blk, hb', _, hrr⟩ := VRep.to_c (by simp) hx
          rw [hb] at hb'
          cases hb'
          obtain ⟨h0, h1, b, c, hm, hxv⟩ := hrr uu xs false rfl
          have hb1 : updsH st.heap (freezes st.heap ids) id = some (.row uu xs false) := by
            rw [freezes_here, hmem]; exact hb
          have hbr := r.blks id _ hb
          have hbr1 := r1.blks id _ hb1
          rw [hm] at hbr hbr1
          obtain ⟨hz, ⟨e, cur, fr, hg, hsz, hlx, hmx, hfr, hxx⟩, _⟩ := hbr
          have htg := hfr.2
          have hfr := hfr.1 rfl
          subst hfr
          obtain ⟨hz1, ⟨e1, cur1, fr1, hg1, hsz1, hlx1, hmx1, hfr1, hxx1⟩, _⟩ := hbr1
          rw [hg] at hg1
          cases hg1
          have hjn : j.toNat < xs.length := by omega
          obtain ⟨ec, hec, hcell⟩ := hxx j.toNat _ (rd_get uu.dflt xs j h0 h1)
          have hecl := FRep.len hec
          have hnew : FRep w (Av O μ (updsH st.heap (freezes st.heap ids))) uu yv (over off (a.eval y).cells.toList ec) := by
            refine implode_all (A' := Av O μ (updsH st.heap (freezes st.heap ids))) hav r.blks him (over_rep hcv (explode_rep hec) (by rw [explode_len]; omega)) (fun id' hid' b' c' hm' => ?_)
            exact hnot id' ((memN_iff _ _).2 hid') b' c' hm' (implode_rows him id' hid')
          have hcl : j.toNat * uu.sz + uu.sz ≤ cur.size := by
            have h2 : (j.toNat + 1) * uu.sz ≤ c * uu.sz := Nat.mul_le_mul_right _ (by omega)
            rw [Nat.add_mul, Nat.one_mul] at h2
            omega
          have hst := run_storeVar (P := P) (off := j.toNat * uu.sz + off) (v := a.eval y) hi hg (by omega) (by omega) hcv.one
          obtain ⟨s2, r2⟩ := r1.mod (blk' := .row uu (xs.set j.toNat yv) false) (w' := w.setRow b (over (j.toNat * uu.sz + off) (a.eval y).cells.toList cur.toList).toArray) hb1 rfl hm
            ⟨xs, false, rfl, by simp⟩ rfl (fun k hk => setRow_other w b k _ hk) (setRow_size ..) rfl rfl rfl (Nat.le_refl _) (fun s => by
            refine ⟨hz, ⟨e, _, (0, 0), setRow_heap w b cur _ e _ hg, ?_, ?_, hmx, ⟨fun _ => rfl, htg⟩, ?_⟩, by simp⟩
            · rw [List.size_toArray, over_len _ _ _ (by simp; omega)]; simpa using hsz
            · simpa using hlx
            · intro i' x' hx'
              have hget : ∀ k, (over (j.toNat * uu.sz + off) (a.eval y).cells.toList cur.toList).toArray[k]? = if j.toNat * uu.sz + off ≤ k ∧ k < j.toNat * uu.sz + off + i.size then (a.eval y).cells.toList[k - (j.toNat * uu.sz + off)]? else cur[k]? := by
                intro k
                rw [List.getElem?_toArray, over_get _ _ _ _ (by simp; omega)]
                simp only [Array.length_toList, Array.getElem?_toList]
                rw [show (a.eval y).cells.size = i.size by omega]
              rcases getElem_set_list xs j.toNat i' yv x' hx' hjn with ⟨rfl, rfl⟩ | ⟨hne, hx'⟩
              · refine ⟨_, s.frep hnew, fun k q hk => ?_⟩
                rw [over_get _ _ _ _ (by simp; omega)] at hk
                rw [hget]
                simp only [Array.length_toList] at hk
                by_cases hin : off ≤ k ∧ k < off + i.size
                · rw [if_pos (by omega)] at hk
                  rw [if_pos (by omega)]
                  rw [← hk]
                  congr 1
                  omega
                · rw [if_neg (by omega)] at hk
                  rw [if_neg (by omega)]
                  exact hcell k q hk
              · obtain ⟨ec', hec', hcell'⟩ := hxx i' x' hx'
                refine ⟨ec', s.frep (s1.frep hec'), fun k q hk => ?_⟩
                have hkl : k < uu.sz := by
                  have := (List.getElem?_eq_some_iff.1 hk).1
                  rw [FRep.len hec'] at this
                  exact this
                rw [hget, if_neg ?_]
                · exact hcell' k q hk
                · rcases Nat.lt_or_gt_of_ne hne with h | h
                  · have h2 : (i' + 1) * uu.sz ≤ j.toNat * uu.sz := Nat.mul_le_mul_right _ h
                    rw [Nat.add_mul, Nat.one_mul] at h2
                    omega
                  · have h2 : (j.toNat + 1) * uu.sz ≤ i' * uu.sz := Nat.mul_le_mul_right _ h
                    rw [Nat.add_mul, Nat.one_mul] at h2
                    omega)
          have hup : updsH st.heap (app (freezes st.heap ids) [(id, .row uu (xs.set j.toNat yv) false)]) = updH (updsH st.heap (freezes st.heap ids)) id (.row uu (xs.set j.toNat yv) false) := by
            rw [app_eq, updsH_append]; rfl
          refine OpOK.skip (run _ _ hst hxv) (μ' := μ) ?_
          rw [hup]
          exact r2
        · cases hk3
      · cases hk2
    · cases hk2
  · cases hk
end
end Go.VM
