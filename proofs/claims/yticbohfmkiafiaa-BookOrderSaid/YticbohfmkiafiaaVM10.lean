import Derived.Test.YticbohfmkiafiaaVM9
import Derived.Great.BuildSlice
namespace Go.VM
open Go.RowKit
section
variable {P : Program} {W0 : World} {O : Out} {μ : Mu} {st : St} {a : Act} {w : World} {o : Oper} {v : V} {u : Upd}
theorem zeroB_frep {A : Nat → Prop} : ∀ {t : Ty} {l r : List Value}, zeroB t l = some r → ∃ l0, l = l0 ++ r ∧ FRep w A t t.dflt l0
  | .unit, l, r, h => by simp [zeroB] at h; subst h; exact ⟨[], rfl, rfl⟩
  | .pair a b, l, r, h => by
    simp only [zeroB] at h
    split at h
    · rename_i r1 h1
      obtain ⟨l0, rfl, f0⟩ := zeroB_frep h1
      obtain ⟨l1, rfl, f1⟩ := zeroB_frep h
      exact ⟨l0 ++ l1, by simp, l0, l1, rfl, f0, f1⟩
    · cases h
  | .int k, l, r, h => by
    simp only [zeroB] at h
    unfold zInt at h
    split at h
    · obtain ⟨hc, h2⟩ := cond_some h
      cases h2
      simp only [Bool.and_eq_true, decide_eq_true_eq] at hc
      obtain ⟨rfl, rfl⟩ := hc
      exact ⟨[_], rfl, rfl⟩
    · cases h
  | .bool, l, r, h => by
    simp only [zeroB] at h
    unfold zBool at h
    split at h
    · rename_i b r'
      cases b
      · cases h
        exact ⟨[Value.bool false], rfl, rfl⟩
      · cases h
    · cases h
  | .str, l, r, h => by
    simp only [zeroB] at h
    unfold zStr at h
    split at h
    · rename_i s r'
      obtain ⟨hc, h2⟩ := cond_some h
      cases h2
      have hs : s = ByteArray.empty := by
        have := Nat.eq_of_beq_eq_true hc
        simpa using this
      subst hs
      exact ⟨[Value.string ByteArray.empty], rfl, rfl⟩
    · cases h
  | .err, l, r, h => by
    simp only [zeroB] at h
    unfold zErr at h
    split at h
    · cases h
      exact ⟨[Value.nilIface], rfl, _, rfl, rfl, rfl⟩
    · cases h
  | .sl t, l, r, h => by
    simp only [zeroB] at h
    unfold zSl at h
    split at h
    · cases h
      exact ⟨[Value.slice none 0 0], rfl, none, 0, rfl, Nat.le_refl _, by simp [maxLen, Ty.dflt], fun _ _ => ⟨rfl, rfl⟩, fun i x hi => by simp [Ty.dflt] at hi⟩
    · cases h
structure ElemTy (P : Program) (t e : TypeId) (i : TypeInfo) (y : Ty) : Prop where
  und : P.underlying t = some (.slice e)
  info : P.info? e = some i
  size : i.size = y.sz
  pos : 0 < y.sz
  bytes : i.bytes ≤ 65536
  bytes0 : 0 < i.bytes
  zero : ∃ z, i.zero = some z ∧ z.cells.size = y.sz ∧ ∀ w A, FRep w A y y.dflt z.cells.toList
  tag : tagOk y e
theorem elemTy_some {t e : TypeId} {i : TypeInfo} {y : Ty} (h : elemTy P t = some (e, i, y)) : ElemTy P t e i y := by
  unfold elemTy at h
  split at h
  · rename_i e' hu
    split at h
    · rename_i i' hi
      split at h
      · rename_i u' hy
        have hc := (cond_some h).1
        have h2 := (cond_some h).2
        clear h
        have htag := (cond_some h2).1
        have h2 := (cond_some h2).2
        split at h2
        · rename_i z hz
          split at h2
          · rename_i hzb
            cases h2
            simp only [Bool.and_eq_true] at hc
            have hs := Nat.eq_of_beq_eq_true hc.1.1
            have h0 : i.size ≠ 0 := fun e => by simp [e] at hc
            have hb := Nat.le_of_ble_eq_true hc.2.1
            have hb0 : 0 < i.bytes := by
              rcases Nat.eq_zero_or_pos i.bytes with h | h
              · rw [h] at hc; simp at hc
              · exact h
            have hf : ∀ w A, FRep w A y y.dflt z.cells.toList := by
              intro w A
              obtain ⟨l0, hl, hf⟩ := zeroB_frep (w := w) (A := A) hzb
              rw [List.append_nil] at hl
              rw [hl]
              exact hf
            refine ⟨hu, hi, hs, by omega, hb, hb0, ⟨z, hz, ?_, hf⟩, tagOk_none (by simpa using htag)⟩
            have := FRep.len (hf default (fun _ => False))
            simpa using this
          · cases h2
        · cases h2
      · cases h
    · cases h
  · cases h
noncomputable def Elems (w : World) (A : Nat → Prop) (t : Ty) (xs : List t.den) (cs : List Value) : Prop :=
  cs.length = xs.length * t.sz ∧ ∀ i x, xs[i]? = some x → ∃ ec : List Value, FRep w A t x ec ∧ ∀ j y, ec[j]? = some y → cs[i * t.sz + j]? = some y
theorem Elems.nil {A : Nat → Prop} (t : Ty) : Elems w A t [] [] := ⟨by simp, fun i x h => by simp at h⟩
theorem Elems.frame {w w' : World} {A A' : Nat → Prop} (h1 : ∀ b, ¬ A b → b < w.heap.size → w'.heap[b]? = w.heap[b]?) (h2 : ∀ b, A' b → A b ∨ w.heap.size ≤ b) {t : Ty} {xs : List t.den} {cs : List Value}
    (h : Elems w A t xs cs) : Elems w' A' t xs cs :=
  ⟨h.1, fun i x hi => let ⟨ec, hf, hc⟩ := h.2 i x hi; ⟨ec, FRep.frame h1 h2 hf, hc⟩⟩
theorem Elems.step {w w' : World} {A A' : Nat → Prop} {μ μ' : Mu} {h h' : Heap} (s : Step w w' A A' μ μ' h h') {t : Ty} {xs : List t.den} {cs : List Value} (k : Elems w A t xs cs) : Elems w' A' t xs cs :=
  Elems.frame s.mem s.av k
theorem Elems.append {A : Nat → Prop} {t : Ty} {xs ys : List t.den} {cs ds : List Value} (h : Elems w A t xs cs) (k : Elems w A t ys ds) : Elems w A t (xs ++ ys) (cs ++ ds) := by
  refine ⟨by simp [h.1, k.1, Nat.add_mul], fun i x hi => ?_⟩
  rw [List.getElem?_append] at hi
  split at hi
  · rename_i hlt
    obtain ⟨ec, hf, hc⟩ := h.2 i x hi
    refine ⟨ec, hf, fun j y hj => ?_⟩
    have := hc j y hj
    rw [List.getElem?_append_left (List.getElem?_eq_some_iff.1 this).1]
    exact this
  · rename_i hge
    obtain ⟨ec, hf, hc⟩ := k.2 (i - xs.length) x hi
    refine ⟨ec, hf, fun j y hj => ?_⟩
    have := hc j y hj
    have hle : xs.length * t.sz ≤ i * t.sz := Nat.mul_le_mul_right _ (by omega)
    rw [List.getElem?_append_right (by rw [h.1]; omega), h.1]
    rw [← this]
    congr 1
    rw [Nat.sub_mul]
    omega
theorem Elems.one {A : Nat → Prop} {t : Ty} {x : t.den} {cs : List Value} (h : FRep w A t x cs) : Elems w A t [x] cs := by
  refine ⟨by simp [FRep.len h], fun i y hi => ?_⟩
  cases i with
  | zero => simp at hi; subst hi; exact ⟨cs, h, fun j y hj => by simpa using hj⟩
  | succ i => simp at hi
theorem Elems.oneCell {A : Nat → Prop} {t : Ty} {xs : List t.den} {cs : List Value} (h : Elems w A t xs cs) : ∀ y ∈ cs, y.oneCell' = true := by
  intro y hy
  obtain ⟨k, hk⟩ := List.getElem?_of_mem hy
  have hlt : k < xs.length * t.sz := by rw [← h.1]; exact (List.getElem?_eq_some_iff.1 hk).1
  have hs : 0 < t.sz := by
    rcases Nat.eq_zero_or_pos t.sz with h0 | h0
    · rw [h0] at hlt; simp at hlt
    · exact h0
  have hi : k / t.sz < xs.length := Nat.div_lt_of_lt_mul (by rw [Nat.mul_comm]; exact hlt)
  obtain ⟨ec, hf, hc⟩ := h.2 (k / t.sz) _ (List.getElem?_eq_getElem hi)
  have hj : k % t.sz < ec.length := by rw [FRep.len hf]; exact Nat.mod_lt _ hs
  have := hc (k % t.sz) _ (List.getElem?_eq_getElem hj)
  rw [show k / t.sz * t.sz + k % t.sz = k by rw [Nat.mul_comm]; exact Nat.div_add_mod k t.sz, hk] at this
  cases this
  exact FRep.one hf _ (List.getElem_mem hj)
theorem rowAt_of {A : Nat → Prop} {t : Ty} {xs : List t.den} {cs rest : List Value} {fz : Bool} {b cap : Nat} {e : TypeId} (hel : Elems w A t xs cs) (hg : w.heap[b]? = some (.cells (cs ++ rest).toArray e (0, 0)))
    (hsz : (cs ++ rest).length = cap * t.sz) (hc0 : 0 < cap) (hle : xs.length ≤ cap) (hm : cap ≤ maxLen) (htg : tagOk t e) : RowAt w A t xs fz b cap := by
  refine ⟨e, _, (0, 0), hg, by simpa using hsz, ⟨hc0, hle⟩, hm, ⟨fun _ => rfl, htg⟩, fun i x hi => ?_⟩
  obtain ⟨ec, hf, hc⟩ := hel.2 i x hi
  refine ⟨ec, hf, fun j y hj => ?_⟩
  have := hc j y hj
  rw [List.getElem?_toArray, List.getElem?_append_left (List.getElem?_eq_some_iff.1 this).1]
  exact this
theorem elems_of_rowAt {A : Nat → Prop} {t : Ty} {xs : List t.den} {cur : Array Value} (hx : ∀ i x, xs[i]? = some x → ∃ ec : List Value, FRep w A t x ec ∧ ∀ j y, ec[j]? = some y → cur[i * t.sz + j]? = some y)
    (hsz : xs.length * t.sz ≤ cur.size) : Elems w A t xs (cur.toList.take (xs.length * t.sz)) := by
  refine ⟨by simp; omega, fun i x hi => ?_⟩
  obtain ⟨ec, hf, hc⟩ := hx i x hi
  refine ⟨ec, hf, fun j y hj => ?_⟩
  have hjl : j < t.sz := by rw [← FRep.len hf]; exact (List.getElem?_eq_some_iff.1 hj).1
  have hil : i < xs.length := (List.getElem?_eq_some_iff.1 hi).1
  have h2 : (i + 1) * t.sz ≤ xs.length * t.sz := Nat.mul_le_mul_right _ hil
  rw [Nat.add_mul, Nat.one_mul] at h2
  rw [List.getElem?_take, if_pos (by omega), Array.getElem?_toList]
  exact hc j y hj
theorem Elems.part {A : Nat → Prop} {t : Ty} {xs : List t.den} {cs : List Value} (h : Elems w A t xs cs) {lo n : Nat} (hle : lo + n ≤ xs.length) : Elems w A t ((xs.drop lo).take n) ((cs.drop (lo * t.sz)).take (n * t.sz)) := by
  have h1 : (lo + n) * t.sz ≤ xs.length * t.sz := Nat.mul_le_mul_right _ hle
  rw [Nat.add_mul] at h1
  refine ⟨by rw [List.length_take, List.length_drop, List.length_take, List.length_drop, h.1]; rw [Nat.min_eq_left (by omega), Nat.min_eq_left (by omega)], fun i x hi => ?_⟩
  rw [List.getElem?_take] at hi
  split at hi
  · rename_i hin
    rw [List.getElem?_drop] at hi
    obtain ⟨ec, hf, hc⟩ := h.2 (lo + i) x hi
    refine ⟨ec, hf, fun j y hj => ?_⟩
    have hjl : j < t.sz := by rw [← FRep.len hf]; exact (List.getElem?_eq_some_iff.1 hj).1
    have h2 : (i + 1) * t.sz ≤ n * t.sz := Nat.mul_le_mul_right _ hin
    rw [Nat.add_mul, Nat.one_mul] at h2
    rw [List.getElem?_take, if_pos (by omega), List.getElem?_drop, ← hc j y hj, Nat.add_mul]
    congr 1
    omega
  · cases hi
theorem Elems.take {A : Nat → Prop} {t : Ty} {xs : List t.den} {cs : List Value} (h : Elems w A t xs cs) {n : Nat} (hle : n ≤ xs.length) : Elems w A t (xs.take n) (cs.take (n * t.sz)) := by
  have := h.part (lo := 0) (n := n) (by omega)
  simpa using this
theorem Elems.drop {A : Nat → Prop} {t : Ty} {xs : List t.den} {cs : List Value} (h : Elems w A t xs cs) {n : Nat} (hle : n ≤ xs.length) : Elems w A t (xs.drop n) (cs.drop (n * t.sz)) := by
  have := h.part (lo := n) (n := xs.length - n) (by omega)
  rw [List.take_of_length_le (by simp), List.take_of_length_le (by rw [List.length_drop, h.1, Nat.sub_mul]; exact Nat.le_refl _)] at this
  exact this
theorem elems_of_frep {A : Nat → Prop} {t : Ty} {xs : List t.den} {ad : Addr} (hx : ∀ (i : Nat) (x : t.den), xs[i]? = some x → ∃ (a : Addr) (ec : List Value), some ad = some a ∧ FRep w A t x ec ∧
    ∀ j u, ec[j]? = some u → ¬ A a.block ∧ w.cell? (a.add (i * t.sz + j)) = some u) :
    ∃ cs, Elems w A t xs cs ∧ ∀ j y, cs[j]? = some y → w.cell? (ad.add j) = some y := by
  refine ⟨(List.range (xs.length * t.sz)).map fun k => (w.cell? (ad.add k)).getD undef, ⟨by simp, fun i x hi => ?_⟩, fun j y hj => ?_⟩
  · obtain ⟨a', ec, ha, hf, hc⟩ := hx i x hi
    cases ha
    refine ⟨ec, hf, fun j y hj => ?_⟩
    have hjl : j < t.sz := by rw [← FRep.len hf]; exact (List.getElem?_eq_some_iff.1 hj).1
    have hil : i < xs.length := (List.getElem?_eq_some_iff.1 hi).1
    have h2 : (i + 1) * t.sz ≤ xs.length * t.sz := Nat.mul_le_mul_right _ hil
    rw [Nat.add_mul, Nat.one_mul] at h2
    rw [List.getElem?_map, List.getElem?_range (by omega)]
    simp [(hc j y hj).2]
  · have hjl : j < xs.length * t.sz := by
      have := (List.getElem?_eq_some_iff.1 hj).1
      simpa using this
    have hs : 0 < t.sz := by
      rcases Nat.eq_zero_or_pos t.sz with h0 | h0
      · rw [h0] at hjl; simp at hjl
      · exact h0
    have hi : j / t.sz < xs.length := Nat.div_lt_of_lt_mul (by rw [Nat.mul_comm]; exact hjl)
    obtain ⟨a', ec, ha, hf, hc⟩ := hx (j / t.sz) _ (List.getElem?_eq_getElem hi)
    cases ha
    have hjm : j % t.sz < ec.length := by rw [FRep.len hf]; exact Nat.mod_lt _ hs
    have := (hc (j % t.sz) _ (List.getElem?_eq_getElem hjm)).2
    rw [show j / t.sz * t.sz + j % t.sz = j by rw [Nat.mul_comm]; exact Nat.div_add_mod j t.sz] at this
    rw [List.getElem?_map, List.getElem?_range hjl] at hj
    simp [this] at hj
    rw [this, hj]
theorem RelM.newNil [Dr] (r : RelM W0 O μ st a w) {id : Nat} {t : Ty} (hz : 0 < t.sz) (hid : st.heap id = none) :
    Step w w (Av O μ st.heap) (Av O (updM μ id none) (updH st.heap id (.row t [] false))) μ (updM μ id none) st.heap (updH st.heap id (.row t [] false)) ∧
      RelM W0 O (updM μ id none) { st with heap := updH st.heap id (.row t [] false) } a w := by
  have hne : ∀ j blk', st.heap j = some blk' → j ≠ id := fun j blk' h e => by rw [e, hid] at h; cases h
  have back : ∀ j blk1 b c, updH st.heap id (.row t [] false) j = some blk1 → updM μ id none j = some (b, c) → st.heap j = some blk1 ∧ μ j = some (b, c) := by
    intro j blk1 b c hj hm
    by_cases hji : j = id
    · subst hji
      rw [updM_same] at hm
      cases hm
    · rw [updH_ne _ _ hji] at hj
      rw [updM_ne _ _ hji] at hm
      exact ⟨hj, hm⟩
  have s : Step w w (Av O μ st.heap) (Av O (updM μ id none) (updH st.heap id (.row t [] false))) μ (updM μ id none) st.heap (updH st.heap id (.row t [] false)) := by
    refine ⟨fun _ _ _ => rfl, fun b h => ?_, fun j blk1 h => ⟨blk1, by rw [updH_ne _ _ (hne j blk1 h), h], by cases blk1 <;> simp [compat], updM_ne _ _ (hne j blk1 h)⟩⟩
    rcases h with h | ⟨j, blk1, c, hj, ho, hm⟩
    · exact .inl (.inl h)
    · obtain ⟨h1, h2⟩ := back j blk1 b c hj hm
      exact .inl (.inr ⟨j, blk1, c, h1, ho, h2⟩)
  refine ⟨s, r.go s (fun j blk1 hj => ?_) (fun j j' bj bj' b c1 c2 hj hj' o1 o2 h1 h2 => ?_) (fun j blk1 b c hj o1 h1 => ?_) r.below⟩
  · by_cases hji : j = id
    · subst hji
      rw [updH_same] at hj
      cases hj
      rw [updM_same]
      exact ⟨hz, rfl⟩
    · rw [updH_ne _ _ hji] at hj
      rw [updM_ne _ _ hji]
      exact s.brep (fun _ _ _ _ => rfl) (r.blks j blk1 hj)
  · obtain ⟨a1, a2⟩ := back j bj b c1 hj h1
    obtain ⟨b1, b2⟩ := back j' bj' b c2 hj' h2
    exact r.inj j j' bj bj' b c1 c2 a1 b1 o1 o2 a2 b2
  · obtain ⟨a1, a2⟩ := back j blk1 b c hj h1
    exact r.fresh j blk1 b c a1 o1 a2
theorem OpOK.empty [Dr] (r : RelM W0 O μ st a w) {id : Nat} {t : Ty} (hz : 0 < t.sz) (hid : st.heap id = none) {cv : Value} {w' : World} (hw : BelowD w.heap.size w w') (hrun : (execOp a.eval o).run P w = .ok (.value cv) w')
    {ad : Option Addr} (hcv : cv = .slice ad 0 0) : OpOK P W0 O st a w o (.c (.ref id)) [(id, .row t ([] : List t.den) false)] := by
  obtain ⟨_, r1⟩ := r.world hw
  obtain ⟨s, r2⟩ := r1.newNil (t := t) hz hid
  refine OpOK.value (μ' := updM μ id none) hrun r2 (VRep.of_c (c := .ref id) ⟨_, updH_same .., by rw [hcv]; rfl, fun t' xs fz he => ?_⟩)
  cases he
  rw [updM_same]
  exact ⟨rfl, ad, hcv⟩
theorem makeSlice_ok [Dr] (r : RelM W0 O μ st a w) {t : TypeId} {l c : Operand} {id : Nat} (ho : o.op = .makeSlice t l c) (hk : opMakeSlice P id st.heap t (st.ev l) (st.ev c) mkp = some (v, u)) :
    OpOK P W0 O st a w o v u := by
  have hl := r.ev l
  have hc := r.ev c
  unfold opMakeSlice at hk
  split at hk
  · rename_i e i y kl ln kc cn hel hle hce
    rw [hle] at hl
    rw [hce] at hc
    have hl := vrep_int hl
    have hc := vrep_int hc
    obtain ⟨hu, hi, hs, hpos, hby, hby0, ⟨z, hz, hzs, hzf⟩, htg⟩ := elemTy_some hel
    split at hk
    · rename_i hid
      have hcc := (cond_some hk).1
      have hk2 := (cond_some hk).2
      clear hk
      simp only [Bool.and_eq_true, decide_eq_true_eq] at hcc
      obtain ⟨⟨h0, h1, h2⟩, h3⟩ := hcc
      simp only [mkp, Option.some.injEq, Prod.mk.injEq] at hk2
      obtain ⟨rfl, rfl⟩ := hk2
      have hrun := run_make (P := P) w t e i z hu hi hz kl kc ln cn h0 h1 h2 h3
      have hnew := alloc_below w (.cells (madeCells z.cells (cn.toNat * i.size)) e)
      have hcell : ∀ k, k < cn.toNat * i.size → (madeCells z.cells (cn.toNat * i.size))[k]? = z.cells[k % y.sz]? := by
        intro k hk
        have : k % y.sz < z.cells.size := by rw [hzs]; exact Nat.mod_lt _ hpos
        have h5 : (madeCells z.cells (cn.toNat * i.size))[k]? = some (z.cells[k % z.cells.size]!) := by simp [madeCells, hk]
        rw [h5, hzs, getElem!_pos z.cells (k % y.sz) this, Array.getElem?_eq_getElem this]
      have hex : (execOp a.eval o).run P w = .ok (.value (.slice (some ⟨w.heap.size, 0, none⟩) ln.toNat cn.toNat)) (w.alloc (.cells (madeCells z.cells (cn.toNat * i.size)) e)) := by
        simp only [execOp, ho, hl, hc, Sem.run_bind, hrun, Result.andThen_ok, Sem.run_pure]
      rcases Nat.eq_zero_or_pos cn.toNat with hc0 | hc0
      · have hln : ln.toNat = 0 := Nat.le_zero.1 (by rw [← hc0]; exact toNat_le h1)
        rw [hln]
        exact OpOK.empty r hpos hid hnew hex (by rw [hln, hc0])
      obtain ⟨s, r'⟩ := r.new (b := w.heap.size) (c := cn.toNat) (blk := .row y (List.replicate ln.toNat y.dflt) false) hid hnew (Nat.le_refl _) (fun s => by
        refine ⟨hpos, ⟨e, _, (0, 0), heap_alloc_new w _, by rw [size_madeCells, hs], ⟨hc0, by rw [List.length_replicate]; exact toNat_le h1⟩, maxLen_of h3, ⟨fun _ => rfl, htg⟩, fun k x hx => ?_⟩, by simp⟩
        have hxd : x = y.dflt ∧ k < ln.toNat := by
          rw [List.getElem?_replicate] at hx
          split at hx
          · cases hx; exact ⟨rfl, by assumption⟩
          · cases hx
        obtain ⟨rfl, hkl⟩ := hxd
        refine ⟨z.cells.toList, hzf _ _, fun j q hj => ?_⟩
        have hjl : j < y.sz := by rw [← hzs]; simpa using (List.getElem?_eq_some_iff.1 hj).1
        have hkc : k < cn.toNat := Nat.lt_of_lt_of_le hkl (toNat_le h1)
        have h2' : (k + 1) * y.sz ≤ cn.toNat * y.sz := Nat.mul_le_mul_right _ hkc
        rw [Nat.add_mul, Nat.one_mul] at h2'
        rw [hcell _ (by rw [hs]; omega)]
        rw [show (k * y.sz + j) % y.sz = j by rw [Nat.mul_comm, Nat.mul_add_mod]; exact Nat.mod_eq_of_lt hjl]
        rw [← Array.getElem?_toList]
        exact hj)
      refine OpOK.value (cv := .slice (some ⟨w.heap.size, 0, none⟩) ln.toNat cn.toNat) (w' := w.alloc (.cells (madeCells z.cells (cn.toNat * i.size)) e)) ?_ r'
        (VRep.of_c (c := .ref id) ⟨_, updH_same .., rfl, fun t' xs fz he => ?_⟩)
      · exact hex
      · cases he
        rw [updM_same]
        simp [HdV]
    · cases hk
  · cases hk
where
  toNat_le {x y : Int} (h : x ≤ y) : x.toNat ≤ y.toNat := by omega
  maxLen_of {c : Int} (h : c ≤ 9223372036854775807) : c.toNat ≤ maxLen := by unfold maxLen; omega
theorem litRow_sound {h : Heap} {A A' : Nat → Prop} (hA : ∀ b, A' b → A b) (hB : ∀ id blk, h id = some blk → BRep w A μ h (μ id) blk) {y : Ty} :
    ∀ (parts : List (Nat × V)) (m : Nat) (xs : List y.den) (ids : List Nat) (pv : List (Nat × Value)), litRow h y m parts = some (xs, ids) →
      All2 (fun p q => p.1 = q.1 ∧ VRep w A μ h p.2 q.2) parts pv → (∀ id, id ∈ ids → ∀ b c, μ id = some (b, c) → ¬ A' b) →
      ∃ vs : List Value, pv = (vs.zipIdx m).map (fun x => (x.2, x.1)) ∧ vs.length = xs.length ∧ (∀ v ∈ vs, v.cells.size = y.sz) ∧ ∀ (i : Nat) (x : y.den), xs[i]? = some x → ∃ v : Value, vs[i]? = some v ∧ FRep w A' y x v.cells.toList
  | [], m, xs, ids, [], hl, _, _ => by
    simp only [litRow, Option.some.injEq, Prod.mk.injEq] at hl
    obtain ⟨rfl, _⟩ := hl
    exact ⟨[], rfl, rfl, by simp, fun i x hi => by simp at hi⟩
  | (i, x) :: parts, m, xs, ids, (j, v) :: pv, hl, hp, hids => by
    obtain ⟨⟨hij, hv⟩, hp⟩ := hp
    simp only at hij hv
    subst hij
    simp only [litRow] at hl
    have him := Nat.eq_of_beq_eq_true (cond_some hl).1
    have hl2 := (cond_some hl).2
    clear hl
    subst him
    split at hl2
    · rename_i vc hvc
      split at hl2
      · rename_i x1 l1 h1
        split at hl2
        · rename_i xs2 l2 h2
          simp only [Option.some.injEq, Prod.mk.injEq] at hl2
          obtain ⟨rfl, rfl⟩ := hl2
          rw [app_eq] at hids
          obtain ⟨vs, rfl, hlen, hsz, hx⟩ := litRow_sound hA hB parts (i + 1) xs2 l2 pv h2 hp (fun id hid => hids id (List.mem_append_right _ hid))
          have hf := implode_all hA hB h1 (cells_rep hv hvc) (fun id hid => hids id (List.mem_append_left _ hid))
          refine ⟨v :: vs, by simp [List.zipIdx_cons], by simp [hlen], ?_, ?_⟩
          · intro q hq
            rcases List.mem_cons.1 hq with rfl | hq
            · simpa using FRep.len hf
            · exact hsz q hq
          · intro k q hk
            cases k with
            | zero => simp at hk; subst hk; exact ⟨v, by simp, hf⟩
            | succ k => simp at hk; simpa using hx k q hk
        · cases hl2
      · cases hl2
    · cases hl2
  | [], _, _, _, _ :: _, _, hp, _ => hp.elim
  | _ :: _, _, _, _, [], _, hp, _ => hp.elim
theorem litRow_rows {h : Heap} {y : Ty} : ∀ (parts : List (Nat × V)) (m : Nat) (xs : List y.den) (ids : List Nat), litRow h y m parts = some (xs, ids) → ∀ id, id ∈ ids → ∃ u xs fz, h id = some (.row u xs fz)
  | [], m, xs, ids, hl => by
    simp only [litRow, Option.some.injEq, Prod.mk.injEq] at hl
    obtain ⟨_, rfl⟩ := hl
    simp
  | (i, x) :: parts, m, xs, ids, hl => by
    simp only [litRow] at hl
    have hl2 := (cond_some hl).2
    clear hl
    split at hl2
    · split at hl2
      · rename_i x1 l1 h1
        split at hl2
        · rename_i xs2 l2 h2
          simp only [Option.some.injEq, Prod.mk.injEq] at hl2
          obtain ⟨rfl, rfl⟩ := hl2
          rw [app_eq]
          intro id hid
          rcases List.mem_append.1 hid with hid | hid
          · exact implode_rows h1 id hid
          · exact litRow_rows parts _ _ _ h2 id hid
        · cases hl2
      · cases hl2
    · cases hl2
theorem run_buildSlice0 (w : World) (t e : TypeId) (parts : Array (Nat × Value)) (ie : TypeInfo) (hu : P.underlying t = some (.slice e)) (hie : P.info? e = some ie) (hp : parts.toList = []) :
    (Instr.buildSlice t 0 parts).run P w = .ok (.slice (some ⟨w.heap.size, 0, none⟩) 0 0) (w.alloc (.cells #[] e)) := by
  simp [Instr.buildSlice, run_underlying hu, sizeOf, typeInfo, hie, hp, newRow, Instr.fill, Array.range_zero']
theorem run_lit (w : World) (t e : TypeId) (i : TypeInfo) (y : Ty) (hel : ElemTy P t e i y) (n : Nat) (hn : n * i.size ≤ 16777216) (vs : List Value) (hvs : vs.length = n) (hsz : ∀ v ∈ vs, v.cells.size = y.sz) (parts : Array (Nat × Value))
    (hp : parts.toList = (vs.zipIdx 0).map fun x => (x.2, x.1)) :
    ∃ cells : Array Value, (Instr.buildSlice t n parts).run P w = .ok (.slice (some ⟨w.heap.size, 0, none⟩) n n) (w.alloc (.cells cells e)) ∧ cells.size = n * y.sz ∧
      ∀ k v, vs[k]? = some v → ∀ j q, v.cells.toList[j]? = some q → cells[k * y.sz + j]? = some q := by
  obtain ⟨hu, hi, hs, hpos, hby, hby0, ⟨z, hz, hzs, hzf⟩, _⟩ := hel
  cases n with
  | zero =>
    have : vs = [] := List.eq_nil_of_length_eq_zero hvs
    subst this
    exact ⟨#[], run_buildSlice0 w t e parts i hu hi (by simpa using hp), by simp, fun k v hk => by simp at hk⟩
  | succ n =>
    obtain ⟨r, hr, hrs, hrk⟩ := Great.fill_dense (s := i.size) (by omega) vs 0 ((Array.range ((n + 1) * i.size)).map (z.cells[· % z.cells.size]!)) (fun v hv => by rw [hsz v hv, hs]) (by simp [hvs])
    have hpos' : ¬ (n + 1) * i.size = 0 := by
      intro h0
      rcases Nat.mul_eq_zero.1 h0 with h | h <;> omega
    refine ⟨r, run_buildSlice w t e (n + 1) parts r i z hu hi hz (by omega) hpos' (by rw [hp]; exact hr), by rw [hrs, ← hs]; simp, fun k v hk j q hj => ?_⟩
    have hjl : j < y.sz := by
      have := (List.getElem?_eq_some_iff.1 hj).1
      rw [Array.length_toList, hsz v (List.mem_of_getElem? hk)] at this
      exact this
    have hkl : k < n + 1 := by
      have := (List.getElem?_eq_some_iff.1 hk).1
      omega
    have h2 : (k + 1) * y.sz ≤ (n + 1) * y.sz := Nat.mul_le_mul_right _ hkl
    rw [Nat.add_mul, Nat.one_mul] at h2
    rw [hrk, hs, Nat.zero_mul, Nat.zero_add, hvs, if_pos (by omega)]
    rw [show (k * y.sz + j) / y.sz - 0 = k by
      rw [Nat.sub_zero, Nat.mul_comm, Nat.mul_add_div hpos, Nat.div_eq_of_lt hjl, Nat.add_zero]]
    rw [show (k * y.sz + j) % y.sz = j by rw [Nat.mul_comm, Nat.mul_add_mod]; exact Nat.mod_eq_of_lt hjl]
    rw [hk]
    simpa using hj
theorem buildSlice_ok [Dr] (r : RelM W0 O μ st a w) {t : TypeId} {n : Nat} {parts : Array (Nat × Operand)} {id : Nat} {lim : Option Nat} (ho : o.op = .buildSlice t n parts)
    (hk : opBuildSlice P id st.heap lim t n (evPs st parts.toList) mkp = some (v, u)) : OpOK P W0 O st a w o v u := by
  unfold opBuildSlice at hk
  split at hk
  · rename_i e i y hel hid
    have hc := (cond_some hk).1
    have hk2 := (cond_some hk).2
    clear hk
    simp only [Bool.and_eq_true] at hc
    have hn := Nat.eq_of_beq_eq_true hc.1
    have hn2 := Nat.le_of_ble_eq_true hc.2
    have hE := elemTy_some hel
    split at hk2
    · rename_i xs ids hlit
      have hk3 : mkp (V.c (.ref id)) (app (freezes st.heap ids) [(id, Blk.row y xs false)]) = some (v, u) := by
        split at hk2
        · cases hk2
        · exact hk2
      clear hk2
      simp only [mkp, Option.some.injEq, Prod.mk.injEq] at hk3
      obtain ⟨rfl, rfl⟩ := hk3
      obtain ⟨s1, r1, hnot, hav⟩ := r.fz ids
      have hps := evPs_rep r parts.toList
      obtain ⟨vs, hpv, hlen, hsz, hx⟩ := litRow_sound (A' := Av O μ (updsH st.heap (freezes st.heap ids))) hav r.blks _ 0 xs ids _ hlit hps
        (fun id' hid' b c hm => hnot id' ((memN_iff _ _).2 hid') b c hm (litRow_rows _ _ _ _ hlit id' hid'))
      have hlp := All2.len hps
      have hvl : vs.length = n := by
        rw [len_eq] at hn
        have : (parts.toList.map fun p => (p.1, a.eval p.2)).length = vs.length := by rw [hpv]; simp
        omega
      obtain ⟨cells, hrun, hcs, hcell⟩ := run_lit (P := P) w t e i y hE n hn2 vs hvl hsz (parts.map fun (i, x) => (i, a.eval x)) (by rw [← hpv]; simp)
      have hid1 : (updsH st.heap (freezes st.heap ids)) id = none := by
        rw [freezes_here, hid]
        cases memN id ids <;> rfl
      have hnew := alloc_below w (.cells cells e)
      have hex : (execOp a.eval o).run P w = .ok (.value (.slice (some ⟨w.heap.size, 0, none⟩) n n)) (w.alloc (.cells cells e)) := by
        simp only [execOp, ho, Sem.run_bind, hrun, Result.andThen_ok, Sem.run_pure]
      rcases Nat.eq_zero_or_pos n with hn0 | hn0
      · have hxs : xs = [] := List.eq_nil_of_length_eq_zero (by omega)
        have hids : ids = [] := by
          have hp : evPs st parts.toList = [] := List.eq_nil_of_length_eq_zero (by rw [← len_eq, ← hn]; exact hn0)
          rw [hp] at hlit
          simp only [litRow, Option.some.injEq, Prod.mk.injEq] at hlit
          exact hlit.2.symm
        subst hxs
        subst hids
        exact OpOK.empty r hE.pos hid hnew hex (by rw [hn0])
      obtain ⟨s, r'⟩ := r1.new (b := w.heap.size) (c := n) (blk := .row y xs false) hid1 hnew (Nat.le_refl _) (fun s => by
        refine ⟨hE.pos, ⟨e, cells, (0, 0), heap_alloc_new w _, hcs, ⟨hn0, by omega⟩, ?_, ⟨fun _ => rfl, hE.tag⟩, fun k x hk => ?_⟩, by simp⟩
        · have : n ≤ n * i.size := Nat.le_mul_of_pos_right _ (by have := hE.size; have := hE.pos; omega)
          unfold maxLen
          omega
        · obtain ⟨v, hv, hf⟩ := hx k x hk
          exact ⟨v.cells.toList, s.frep hf, fun j q hj => hcell k v hv j q hj⟩)
      have hup : updsH st.heap (app (freezes st.heap ids) [(id, Blk.row y xs false)]) = updH (updsH st.heap (freezes st.heap ids)) id (Blk.row y xs false) := by
        rw [app_eq, updsH_append]; rfl
      refine OpOK.value (cv := .slice (some ⟨w.heap.size, 0, none⟩) n n) (w' := w.alloc (.cells cells e)) (μ' := updM μ id (some (w.heap.size, n))) ?_ (by rw [hup]; exact r') ?_
      · exact hex
      · rw [hup]
        refine VRep.of_c (c := .ref id) ⟨_, updH_same .., rfl, fun t' xs' fz he => ?_⟩
        cases he
        rw [updM_same]
        simp [HdV]
        omega
    · cases hk2
  · cases hk
theorem sliceOf_get {α : Type} (xs : List α) (l h : Int) (i : Nat) (x : α) (hx : (sliceOf xs l h)[i]? = some x) : xs[l.toNat + i]? = some x := by
  unfold sliceOf at hx
  rw [List.getElem?_drop, List.getElem?_take] at hx
  split at hx
  · exact hx
  · cases hx
theorem sliceOf_len {α : Type} (xs : List α) (l h : Int) (h0 : 0 ≤ l) (h1 : l ≤ h) (h2 : h ≤ (xs.length : Int)) : (sliceOf xs l h).length = h.toNat - l.toNat := by
  unfold sliceOf
  simp
  omega
theorem sizeM_some {P : Program} {e : TypeId} {u : Ty} (h : sizeM P e u = true) : sizeB P e u = true ∧ u.mk = false := by
  unfold sizeM at h
  rw [Bool.and_eq_true, Bool.not_eq_true'] at h
  exact h
theorem frep_slice {A : Nat → Prop} {t : Ty} (hkm : t.mk = false) {xs : List t.den} {ad : Option Addr} {n cap : Nat} (hf : FRep w A (.sl t) xs [.slice ad n cap]) (l h : Int) (h0 : 0 ≤ l) (h1 : l ≤ h) (h2 : h ≤ (xs.length : Int)) :
    n = xs.length ∧ FRep w A (.sl t) (sliceOf xs l h) [.slice (if cap = l.toNat then ad else ad.map (·.add (l.toNat * t.sz))) (h.toNat - l.toNat) (cap - l.toNat)] := by
  obtain ⟨ad', cap', he, hl, hm, _, hx⟩ := hf
  simp at he
  obtain ⟨rfl, rfl, rfl⟩ := he
  have hlen := sliceOf_len xs l h h0 h1 h2
  have hl' : List.length (α := t.den) xs ≤ cap := hl
  have hm' : List.length (α := t.den) xs ≤ maxLen := hm
  have key : ∀ hn : Nat, hn ≤ List.length (α := t.den) xs → h.toNat = hn → h.toNat - l.toNat ≤ cap - l.toNat ∧ h.toNat - l.toNat ≤ maxLen := by intro hn hle he; omega
  obtain ⟨k1, k2⟩ := key h.toNat (by omega) rfl
  refine ⟨rfl, _, _, by rw [show List.length (α := t.den) (sliceOf xs l h) = h.toNat - l.toNat from hlen], by rw [show List.length (α := t.den) (sliceOf xs l h) = h.toNat - l.toNat from hlen]; exact k1,
    by rw [show List.length (α := t.den) (sliceOf xs l h) = h.toNat - l.toNat from hlen]; exact k2, fun h => absurd (hkm.symm.trans h) (by decide), fun i x hi => ?_⟩
  have hil : i < h.toNat - l.toNat := by rw [← hlen]; exact (List.getElem?_eq_some_iff.1 hi).1
  obtain ⟨a, ec, rfl, hf, hc⟩ := hx (l.toNat + i) x (sliceOf_get xs l h i x hi)
  have hne : ¬ cap = l.toNat := by omega
  refine ⟨a.add (l.toNat * t.sz), ec, by rw [if_neg hne]; rfl, hf, fun j u hj => ?_⟩
  rw [add_add, add_block]
  have := hc j u hj
  rw [Nat.add_mul, Nat.add_assoc] at this
  exact this
end
end Go.VM
