import Derived.Test.YticbohfmkiafiaaVM10
import Derived.Laws.BytesString
namespace Go.VM
open Go.RowKit
section
variable {P : Program} {W0 : World} {O : Out} {μ : Mu} {st : St} {a : Act} {w : World} {o : Oper} {v : V} {u : Upd}
theorem RelM.kill [Dr] (r : RelM W0 O μ st a w) {id0 : Nat} {blk0 : Blk} (h0 : st.heap id0 = some blk0) :
    Step w w (Av O μ st.heap) (Av O μ (updH st.heap id0 .dead)) μ μ st.heap (updH st.heap id0 .dead) ∧ RelM W0 O μ { st with heap := updH st.heap id0 .dead } a w := by
  have back : ∀ j blk1, updH st.heap id0 .dead j = some blk1 → blk1.own = true → st.heap j = some blk1 := by
    intro j blk1 hj ho
    by_cases hj0 : j = id0
    · subst hj0
      rw [updH_same] at hj
      cases hj
      simp [Blk.own] at ho
    · rw [updH_ne _ _ hj0] at hj; exact hj
  have s : Step w w (Av O μ st.heap) (Av O μ (updH st.heap id0 .dead)) μ μ st.heap (updH st.heap id0 .dead) := by
    refine ⟨fun _ _ _ => rfl, fun b h => ?_, fun j blk1 h => ?_⟩
    · rcases h with h | ⟨j, blk1, c, hj, ho, hm⟩
      · exact .inl (.inl h)
      · exact .inl (.inr ⟨j, blk1, c, back j blk1 hj ho, ho, hm⟩)
    · by_cases hj0 : j = id0
      · subst hj0
        exact ⟨.dead, updH_same .., trivial, rfl⟩
      · exact ⟨blk1, by rw [updH_ne _ _ hj0, h], by cases blk1 <;> simp [compat], rfl⟩
  refine ⟨s, r.go s (fun j blk1 hj => ?_) (fun j j' bj bj' b c1 c2 hj hj' o1 o2 h1 h2 => r.inj j j' bj bj' b c1 c2 (back j bj hj o1) (back j' bj' hj' o2) o1 o2 h1 h2)
    (fun j blk1 b c hj o1 h1 => r.fresh j blk1 b c (back j blk1 hj o1) o1 h1) r.below⟩
  by_cases hj0 : j = id0
  · subst hj0
    rw [updH_same] at hj
    cases hj
    trivial
  · rw [updH_ne _ _ hj0] at hj
    exact s.brep (fun _ _ _ _ => rfl) (r.blks j blk1 hj)
theorem bytes_run {A : Nat → Prop} {xs : List Int} {xv : Value} {src dst e : TypeId} (h1 : P.underlying dst = some .string) (h2 : P.underlying src = some (.slice e)) (h3 : P.underlying e = some (.int .u8)) (hf : FRep w A (.sl (.int .u8)) xs [xv]) :
    (convert src dst xv).run P w = .ok (.string (bytesOf xs)) w := by
  obtain ⟨ad, cap, hv, hl, hm, _, hxx⟩ := hf
  simp at hv
  subst hv
  rw [run_convert_bytes_string w src dst e ad _ _ h2 h3 h1]
  cases ad with
  | none =>
    have hys : xs = [] := by
      cases xs with
      | nil => rfl
      | cons z zs =>
        obtain ⟨a, ec, h0, _⟩ := hxx 0 z rfl
        cases h0
    subst hys
    simp [Conv.bytesToString, Sem.run_pure, bytesOf]
  | some ad =>
    obtain ⟨cs, hE, hc⟩ := elems_of_frep hxx
    have hcs : cs = xs.map (Value.int .u8) := by
      apply List.ext_getElem?
      intro j
      rw [List.getElem?_map]
      cases hj : xs[j]? with
      | none =>
        have : cs.length ≤ j := by rw [hE.1]; have := List.getElem?_eq_none_iff.1 hj; simpa [Ty.sz] using this
        simp [List.getElem?_eq_none this]
      | some x =>
        obtain ⟨ec, h4, h5⟩ := hE.2 j x hj
        have h4 : ec = [.int .u8 x] := h4
        subst h4
        have := h5 0 _ rfl
        simpa [Ty.sz] using this
    have hr := run_loadCells_list (P := P) w ad cs hc
    rw [hcs] at hr
    rw [List.length_map] at hr
    exact run_bytesToString w ad _ _ xs hr
theorem convS_sound {A : Nat → Prop} {h : Heap} {lim : Option Nat} (hB : ∀ id blk, h id = some blk → BRep w A μ h (μ id) blk) {src dst : TypeId} {x v : V} {xv : Value} (hk : convS P (rdH h lim) src dst x some = some v) (hx : VRep w A μ h x xv) :
    ∃ cv, (convert src dst xv).run P w = .ok cv w ∧ VRep w A μ h v cv := by
  unfold convS at hk
  split at hk
  · rename_i e h1 h2
    split at hk
    · rename_i h3
      split at hk
      · cases hk
        have hxv : xv = .slice none 0 0 := VRep.to_c (by simp) hx
        subst hxv
        refine ⟨_, ?_, rep_str ..⟩
        rw [run_convert_bytes_string w src dst e none _ _ h2 h3 h1]
        simp [Conv.bytesToString, Sem.run_pure, bytesOf]
      · rename_i xs
        cases hk
        exact ⟨_, bytes_run h1 h2 h3 (VRep.to_c (by simp) hx), rep_str ..⟩
      · rename_i id
        split at hk
        · rename_i xs fz hb
          cases hk
          have hb := rdH_some hb
          obtain ⟨blk, hb1, _, k1⟩ := VRep.to_c (by simp) hx
          rw [hb] at hb1
          cases hb1
          exact ⟨_, bytes_run h1 h2 h3 (row_frep rfl (A' := fun _ => False) (hB id _ hb) (k1 _ _ _ rfl) (fun _ h => h.elim) (fun _ _ _ h => h)), rep_str ..⟩
        · cases hk
      · cases hk
    · cases hk
  · cases hk
theorem readSl_sound {A : Nat → Prop} {h : Heap} (hB : ∀ id blk, h id = some blk → BRep w A μ h (μ id) blk) {t2 e2 : TypeId} (hu : P.underlying t2 = some (.slice e2)) {y : Ty} {x : V} {xv : Value} {ys : List y.den}
    (hk : readSl h y x = some ys) (hx : VRep w A μ h x xv) : ∃ news, Src P y.sz t2 xv ys.length news w ∧ Elems w A y ys news := by
  have ofF : ∀ {A' : Nat → Prop} {v : Value}, (∃ ad cap, [v] = [.slice ad (List.length (α := y.den) ys) cap] ∧ (List.length (α := y.den) ys) ≤ cap ∧ (List.length (α := y.den) ys) ≤ maxLen ∧
      ∀ (i : Nat) (x : y.den), (ys : List y.den)[i]? = some x → ∃ (a : Addr) (ec : List Value), ad = some a ∧ FRep w A' y x ec ∧ ∀ j u, ec[j]? = some u → ¬ A' a.block ∧ w.cell? (a.add (i * y.sz + j)) = some u) → ∃ news, Src P y.sz t2 v ys.length news w ∧ Elems w A' y ys news := by
    intro A' v hf
    obtain ⟨ad, cap, hv, hl, hm, hxx⟩ := hf
    simp at hv
    subst hv
    cases ad with
    | none =>
      have hys : ys = [] := by
        cases ys with
        | nil => rfl
        | cons z zs =>
          obtain ⟨a, ec, h0, _⟩ := hxx 0 z rfl
          cases h0
      subst hys
      exact ⟨[], Src.ofNil w hu cap, Elems.nil y⟩
    | some ad =>
      obtain ⟨cs, hE, hc⟩ := elems_of_frep hxx
      exact ⟨cs, Src.ofSlice w hu ad _ cap cs hE.1 hc hE.oneCell, hE⟩
  have ofRow : ∀ {m : Option (Nat × Nat)} {fz : Bool}, BRep w A μ h m (.row y ys fz) → HdV m ys.length xv → ∃ news, Src P y.sz t2 xv ys.length news w ∧ Elems w A y ys news := by
    intro m fz hbr hv
    -- its cells; its elements keep away from A
    have hf := row_core (A' := fun _ => False) hbr hv (fun _ h => h.elim) (fun _ _ _ h => h)
    obtain ⟨news, hs, hE⟩ := ofF hf
    obtain ⟨hz, hbr⟩ := hbr
    cases m with
    | none =>
      have : ys = [] := hbr
      subst this
      exact ⟨news, hs, by
        have : news = [] := List.eq_nil_of_length_eq_zero (by rw [hE.1]; simp)
        rw [this]; exact Elems.nil y⟩
    | some p =>
      obtain ⟨b, c⟩ := p
      have hv : xv = _ := hv
      subst hv
      obtain ⟨⟨e, cur, fr, hg, hsz, ⟨_, hl⟩, hmx, _, hxx⟩, _⟩ := hbr
      have hle : ys.length * y.sz ≤ cur.size := by rw [hsz]; exact Nat.mul_le_mul_right _ hl
      have hE2 := elems_of_rowAt hxx hle
      refine ⟨cur.toList.take (ys.length * y.sz), ?_, hE2⟩
      exact Src.ofSlice w hu ⟨b, 0, none⟩ _ c _ hE2.1 (fun j q hj => by
        rw [add_lit]
        rw [List.getElem?_take] at hj
        split at hj
        · simp [World.cell?, hg]; simpa using hj
        · cases hj) hE2.oneCell
  unfold readSl at hk
  split at hk
  · cases hk
    rw [show xv = .slice none 0 0 from VRep.to_c (by simp) hx]
    exact ⟨[], Src.ofNil w hu 0, Elems.nil y⟩
  · rename_i t xs
    obtain ⟨e, rfl⟩ := castTo_some hk
    subst e
    obtain ⟨ad, cap, h1, h2, h3, _, h4⟩ := VRep.to_c (by simp) hx
    exact ofF ⟨ad, cap, h1, h2, h3, h4⟩
  · rename_i id
    split at hk
    · rename_i t xs fz hb
      obtain ⟨e, rfl⟩ := castTo_some hk
      cases e
      obtain ⟨blk, hb', _, hr⟩ := VRep.to_c (by simp) hx
      rw [hb] at hb'
      cases hb'
      exact ofRow (hB id _ hb) (hr _ xs fz rfl)
    · cases hk
  · rename_i id n
    split at hk
    · rename_i t xs fz hb
      obtain ⟨e, rfl⟩ := castTo_some hk
      cases e
      obtain ⟨blk, hb', _, hr⟩ := VRep.to_c (by simp) hx
      rw [hb] at hb'
      cases hb'
      obtain ⟨hn, hv⟩ := hr _ xs fz rfl
      exact ofRow ((hB id _ hb).first n) (by rw [first_len hn]; exact hv)
    · cases hk
  · rename_i id lo n z
    split at hk
    · rename_i t xs fz hb
      have hcz := Nat.eq_of_beq_eq_true (cond_some hk).1
      have hk := (cond_some hk).2
      obtain ⟨e, rfl⟩ := castTo_some hk
      cases e
      obtain ⟨blk, ad, c', hb', rfl, hn, hr⟩ := VRep.to_c (by simp) hx
      rw [hb] at hb'
      cases hb'
      by_cases h0 : 0 < n
      · obtain ⟨hle, b, c, hm, rfl⟩ := hr _ xs fz rfl hcz h0
        have hbr := hB id _ hb
        rw [hm] at hbr
        obtain ⟨_, ⟨e, cur, fr, hg, hsz, ⟨_, hl⟩, hmx, _, hxx⟩, _⟩ := hbr
        have hE2 := (elems_of_rowAt hxx (by rw [hsz]; exact Nat.mul_le_mul_right _ hl)).part hle
        have hlen : List.length (α := y.den) ((xs.drop lo).take n) = n := by rw [List.length_take, List.length_drop]; omega
        refine ⟨_, ?_, hE2⟩
        have hnl := hE2.1
        show Src P y.sz t2 _ (List.length (α := y.den) ((xs.drop lo).take n)) _ w
        rw [hlen]
        refine Src.ofSlice w hu ⟨b, lo * z, none⟩ n c' _ (by rw [hnl, hlen]) (fun j q hj => ?_) hE2.oneCell
        rw [add_lit, ← hcz]
        rw [List.getElem?_take] at hj
        split at hj
        · rw [List.getElem?_drop, List.getElem?_take] at hj
          split at hj
          · simp [World.cell?, hg]; simpa using hj
          · cases hj
        · cases hj
      · have : n = 0 := by omega
        subst this
        refine ⟨[], ?_, by simp; exact Elems.nil y⟩
        show Src P y.sz t2 _ (List.length (α := y.den) ((xs.drop lo).take 0)) _ w
        rw [List.take_zero]
        cases ad with
        | none => exact Src.ofNil w hu c'
        | some ad => exact Src.ofSlice w hu ad 0 c' [] (by simp) (fun j u h => by simp at h) (fun u h => by cases h)
    · cases hk
  · cases hk
theorem append_core {A : Nat → Prop} {h : Heap} {t t2 e : TypeId} {i : TypeInfo} {y : Ty} (hE : ElemTy P t e i y) {xv : Value} {n : Nat} {news : List Value} (hs : Src P y.sz t2 xv n news w) {m : Option (Nat × Nat)} {xs : List y.den} {dv : Value}
    (hbr : BRep w A μ h m (.row y xs false)) (hdv : HdV m xs.length dv) (hroom : (xs.length + n) * i.bytes ≤ 140737488355328) (ty : TypeId) :
    (m = none ∧ n = 0 ∧ ∃ ad, (Builtin.append_ #[t, t2] ty #[dv, xv]).run P w = .ok (.slice ad 0 0) w) ∨
    (∃ b cap cur e0, m = some (b, cap) ∧ w.heap[b]? = some (.cells cur e0 (0, 0)) ∧ cur.size = cap * y.sz ∧ 0 < cap ∧ cap ≤ maxLen ∧ tagOk y e0 ∧ xs.length + n ≤ cap ∧ Elems w A y xs (cur.toList.take (xs.length * y.sz)) ∧
      (Builtin.append_ #[t, t2] ty #[dv, xv]).run P w = .ok (.slice (some ⟨b, 0, none⟩) (xs.length + n) cap) (w.setRow b (cur.toList.take (xs.length * y.sz) ++ news ++ cur.toList.drop (xs.length * y.sz + news.length)).toArray)) ∨
    (∃ cap olds, Elems w A y xs olds ∧ 0 < cap ∧ xs.length + n ≤ cap ∧ cap ≤ maxLen ∧ ∃ zs : List Value, zs.length = (cap - (xs.length + n)) * y.sz ∧
      (Builtin.append_ #[t, t2] ty #[dv, xv]).run P w = .ok (.slice (some ⟨w.heap.size, 0, none⟩) (xs.length + n) cap) (w.drew.alloc (.cells (olds ++ news ++ zs).toArray e))) := by
  obtain ⟨hu, hi, hsz, hpos, hbytes, hby0, ⟨z, hz, hzs, hzf⟩, htge⟩ := hE
  have hby : xs.length + n ≤ 9223372036854775807 := by
    have := Nat.le_mul_of_pos_right (xs.length + n) hby0
    omega
  rw [← hsz] at hs
  have grown : ∀ (base : Option Addr) (sCap : Nat) (olds : List Value), xs.length ≤ sCap → sCap < xs.length + n → Elems w A y xs olds →
      (Builtin.firstCells i.size xs.length (.slice base xs.length sCap)).run P w.drew = .ok olds.toArray w.drew →
      ∃ cap olds, Elems w A y xs olds ∧ 0 < cap ∧ xs.length + n ≤ cap ∧ cap ≤ maxLen ∧ ∃ zs : List Value, zs.length = (cap - (xs.length + n)) * y.sz ∧
        (Builtin.append_ #[t, t2] ty #[.slice base xs.length sCap, xv]).run P w = .ok (.slice (some ⟨w.heap.size, 0, none⟩) (xs.length + n) cap) (w.drew.alloc (.cells (olds ++ news ++ zs).toArray e)) := by
    intro base sCap olds hle hg hEl hold
    have hrun := run_append_grow_src (P := P) w t t2 ty e i z hu hi hz base xs.length sCap olds hold xv n news hs hg (by omega) (growslice_fits hg hroom)
    have hcap : xs.length + n ≤ grownCap w (xs.length + n) sCap e ∧ grownCap w (xs.length + n) sCap e ≤ maxLen := by
      have hm : w.tape w.drawn (.appendCap (xs.length + n) sCap e) % (2 ^ 63 - (xs.length + n)) < 2 ^ 63 - (xs.length + n) := Nat.mod_lt _ (by omega)
      simp only [grownCap, Question.cut]
      unfold maxLen
      omega
    refine ⟨_, olds, hEl, by omega, hcap.1, hcap.2, (Builtin.zeroCells z.cells (grownCap w (xs.length + n) sCap e - (xs.length + n))).toList, by simp [size_zeroCells, hzs], ?_⟩
    rw [hrun]
    congr 3
    apply Array.ext'
    simp
  obtain ⟨_, hbr⟩ := hbr
  cases m with
  | none =>
    have hx : xs = [] := hbr
    subst hx
    obtain ⟨_, ad, rfl⟩ := hdv
    by_cases hn : n = 0
    · left
      refine ⟨rfl, hn, ad, ?_⟩
      subst hn
      have hnil : news = [] := List.eq_nil_of_length_eq_zero (by rw [hs.newsLen]; simp)
      have hc := hs.cells
      rw [hnil] at hc
      rcases hs.kind with ⟨e', hk⟩ | hk <;>
        simp [Builtin.append_, run_underlying hu, run_underlying hk, sizeOf, typeInfo, hi, hs.len, hc] <;> cases ad <;> simp [storeCells]
    · right; right
      cases ad with
      | none => exact grown none 0 [] (by simp) (by simp; omega) (Elems.nil y) (run_firstCells_none _ _ _ _ _)
      | some ad => exact grown (some ad) 0 [] (by simp) (by simp; omega) (Elems.nil y) (run_firstCells_some (P := P) w.drew i.size 0 ad 0 0 [] (by simp) (fun j q hj => by simp at hj))
  | some p =>
    obtain ⟨b, cap⟩ := p
    obtain ⟨⟨e0, cur, fr, hg, hcs, ⟨hc0, hl⟩, hmx, hfr, hxx⟩, _⟩ := hbr
    have hdv : dv = _ := hdv
    subst hdv
    have htg := hfr.2
    have hfr := hfr.1 rfl
    subst hfr
    have hle : xs.length * y.sz ≤ cur.size := by rw [hcs]; exact Nat.mul_le_mul_right _ hl
    have hEl := elems_of_rowAt hxx hle
    by_cases hroom2 : xs.length + n ≤ cap
    · right; left
      refine ⟨b, cap, cur, e0, rfl, hg, hcs, hc0, hmx, htg, hroom2, hEl, ?_⟩
      have hnl : news.length = n * y.sz := by rw [hs.newsLen, hsz]
      have hfit : xs.length * y.sz + news.length ≤ cur.size := by
        rw [hnl, hcs, ← Nat.add_mul]
        exact Nat.mul_le_mul_right _ hroom2
      have hst := run_storeCells_at P b (xs.length * y.sz) e0 news 0 cur w hg (by simpa using hfit) hs.one
      simp only [Nat.add_zero] at hst
      rw [← hsz] at hst ⊢
      rcases hs.kind with ⟨e', hk⟩ | hk <;>
        simp [Builtin.append_, run_underlying hu, run_underlying hk, sizeOf, typeInfo, hi, hs.len, hroom2, hs.cells, Addr.add_lit, hst]
    · right; right
      refine grown (some ⟨b, 0, none⟩) cap (cur.toList.take (xs.length * y.sz)) hl (by omega) hEl ?_
      refine run_firstCells_some (P := P) w.drew i.size xs.length ⟨b, 0, none⟩ xs.length cap _ (by rw [hEl.1, hsz]) (fun j q hj => ?_)
      rw [add_lit]
      rw [List.getElem?_take] at hj
      split at hj
      · have : w.drew.heap = w.heap := rfl
        simp [World.cell?, this, hg]; simpa using hj
      · cases hj
theorem drew_alloc_below [Dr] (w : World) (ob : Obj) : BelowD w.heap.size w (w.drew.alloc ob) := ((BelowD.refl _ _).drew).alloc (Nat.le_refl _) ob
theorem append_own [Dr] (r : RelM W0 O μ st a w) {t t2 e : TypeId} {i : TypeInfo} {yy : Ty} {ys xs0 xsf : List yy.den} {news : List Value} {dv xv : Value} {rid id : Nat}
    (exec : ∀ cv w', (Builtin.append_ #[t, t2] o.type #[dv, xv]).run P w = .ok cv w' → (execOp a.eval o).run P w = .ok (.value cv) w')
    (hE : ElemTy P t e i yy) (hid : st.heap id = none) (hsrc : Src P yy.sz t2 xv ys.length news w) (hEl : Elems w (Av O μ st.heap) yy ys news) (hb : st.heap rid = some (.row yy xsf false))
    (hbr : BRep w (Av O μ st.heap) μ st.heap (μ rid) (.row yy xs0 false)) (hdv : HdV (μ rid) xs0.length dv)
    (hk : (bif decide ((xs0.length + ys.length) * i.bytes ≤ roomN) then mkp (V.c (.ref id)) [(rid, Blk.dead), (id, Blk.row yy (xs0 ++ ys) false)] else none) = some (v, u)) : OpOK P W0 O st a w o v u := by
  have hnl : news.length = ys.length * yy.sz := hEl.1
  have hc := (cond_some hk).1
  have hk2 := (cond_some hk).2
  clear hk
  simp only [mkp, Option.some.injEq, Prod.mk.injEq] at hk2
  obtain ⟨rfl, rfl⟩ := hk2
  have hroom : (xs0.length + ys.length) * i.bytes ≤ 140737488355328 := of_decide_eq_true hc
  have hne : id ≠ rid := fun h => by rw [h, hb] at hid; cases hid
  obtain ⟨sk, rk⟩ := r.kill hb
  have hidk : updH st.heap rid .dead id = none := by rw [updH_ne _ _ hne]; exact hid
  have huu : updsH st.heap [(rid, Blk.dead), (id, Blk.row yy (xs0 ++ ys) false)] = updH (updH st.heap rid .dead) id (.row yy (xs0 ++ ys) false) := rfl
  rcases append_core (P := P) hE hsrc hbr hdv hroom o.type with ⟨hm, hn, ad, hrun⟩ | ⟨b, cap, cur, e0, hm, hg, hcs, hc0, hcm, htg, hcl, hEo, hrun⟩ | ⟨cap, olds, hEo, hc0, hcl, hcm, zs, hzs, hrun⟩
  · have hys0 : ys = [] := List.eq_nil_of_length_eq_zero hn
    have hxs0 : xs0 = [] := by rw [hm] at hbr; exact hbr.2
    subst hys0
    subst hxs0
    obtain ⟨s, r'⟩ := rk.newNil (t := yy) hE.pos hidk
    refine OpOK.value (exec _ _ hrun) r' (VRep.of_c (c := .ref id) ⟨_, updH_same .., rfl, fun t' xs' fz he => ?_⟩)
    cases he
    rw [updM_same]
    exact ⟨rfl, ad, rfl⟩
  · have hlt := hEo.1
    have hfit : xs0.length * yy.sz + news.length ≤ cur.size := by
      rw [hnl, hcs, ← Nat.add_mul]
      exact Nat.mul_le_mul_right _ hcl
    have hlall : (cur.toList.take (xs0.length * yy.sz) ++ news ++ cur.toList.drop (xs0.length * yy.sz + news.length)).length = cap * yy.sz := by
      simp
      omega
    obtain ⟨s, r'⟩ := r.grow (w' := w.setRow b (cur.toList.take (xs0.length * yy.sz) ++ news ++ cur.toList.drop (xs0.length * yy.sz + news.length)).toArray) (b := b) (c := cap) (blk := .row yy (xs0 ++ ys) false) hb rfl hid
      (fun k _ hk => setRow_other w b k _ (fun h => hk cap (by rw [hm, h]))) (by rw [setRow_size]; exact Nat.le_refl _) rfl rfl rfl (Nat.le_refl _) (.inr ⟨cap, hm⟩)
      (fun s => ⟨hE.pos, rowAt_of (cs := cur.toList.take (xs0.length * yy.sz) ++ news) (rest := cur.toList.drop (xs0.length * yy.sz + news.length)) (Elems.append (hEo.step s) (hEl.step s)) (setRow_heap w b cur _ e0 _ hg) hlall hc0 (by simpa using hcl) hcm htg, by simp⟩)
    refine OpOK.value (exec _ _ hrun) r' (VRep.of_c (c := .ref id) ⟨_, updH_same .., rfl, fun t' xs' fz he => ?_⟩)
    cases he
    rw [updM_same]
    simp [HdV]
  · have hlz : (olds ++ news ++ zs).length = cap * yy.sz := by
      simp only [List.length_append, hnl, hzs, hEo.1]
      rw [← Nat.add_mul, ← Nat.add_mul]
      congr 1
      omega
    obtain ⟨s, r'⟩ := rk.new (b := w.heap.size) (c := cap) (blk := .row yy (xs0 ++ ys) false) hidk (drew_alloc_below w (.cells (olds ++ news ++ zs).toArray e)) (Nat.le_refl _)
      (fun s => ⟨hE.pos, rowAt_of (cs := olds ++ news) (rest := zs) (Elems.append ((hEo.step sk).step s) ((hEl.step sk).step s)) (heap_alloc_new w.drew _) hlz hc0 (by simpa using hcl) hcm hE.tag, by simp⟩)
    refine OpOK.value (exec _ _ hrun) r' (VRep.of_c (c := .ref id) ⟨_, updH_same .., rfl, fun t' xs' fz he => ?_⟩)
    cases he
    rw [updM_same]
    simp [HdV]
theorem splice [Dr] (r : RelM W0 O μ st a w) {id b cap n : Nat} {y : Ty} {xs mid : List y.den} {news : List Value} {e0 : TypeId} {cur : Array Value} (hb : st.heap id = some (.row y xs false)) (hm : μ id = some (b, cap))
    (hg : w.heap[b]? = some (.cells cur e0 (0, 0))) (hcs : cur.size = cap * y.sz) (hc0 : 0 < cap) (hl : xs.length ≤ cap) (hmx : cap ≤ maxLen) (htg : tagOk y e0) (hz : 0 < y.sz) (hE : Elems w (Av O μ st.heap) y xs (cur.toList.take (xs.length * y.sz)))
    (hmid : Elems w (Av O μ st.heap) y mid news) (hle : n + mid.length ≤ xs.length) :
    ∃ s, RelM W0 O μ { st with heap := updsH st.heap [(id, .row y (xs.take n ++ (mid ++ xs.drop (n + mid.length))) false)] } a (w.setRow b (cur.toList.take (n * y.sz) ++ news ++ cur.toList.drop (n * y.sz + news.length)).toArray) ∧
      (s : Step w (w.setRow b (cur.toList.take (n * y.sz) ++ news ++ cur.toList.drop (n * y.sz + news.length)).toArray) (Av O μ st.heap) (Av O μ (updH st.heap id (.row y (xs.take n ++ (mid ++ xs.drop (n + mid.length))) false))) μ μ st.heap (updH st.heap id (.row y (xs.take n ++ (mid ++ xs.drop (n + mid.length))) false))) = s := by
  have hnl := hmid.1
  have hbound : n * y.sz + news.length ≤ xs.length * y.sz := by rw [hnl, ← Nat.add_mul]; exact Nat.mul_le_mul_right _ hle
  have hcb : xs.length * y.sz ≤ cur.size := by rw [hcs]; exact Nat.mul_le_mul_right _ hl
  have e1 := (hE.take (n := n) (by omega)).append (hmid.append (hE.drop (n := n + mid.length) hle))
  have hlen : (xs.take n ++ (mid ++ xs.drop (n + mid.length))).length = xs.length := by simp; omega
  have hcells : (cur.toList.take (n * y.sz) ++ news ++ cur.toList.drop (n * y.sz + news.length)) = ((cur.toList.take (xs.length * y.sz)).take (n * y.sz) ++ (news ++ (cur.toList.take (xs.length * y.sz)).drop ((n + mid.length) * y.sz))) ++ cur.toList.drop (xs.length * y.sz) := by
    rw [List.take_take, Nat.min_eq_left (by omega), Nat.add_mul, ← hnl, List.append_assoc, List.append_assoc, List.append_assoc]
    congr 2
    rw [List.drop_take]
    have : cur.toList.drop (xs.length * y.sz) = (cur.toList.drop (n * y.sz + news.length)).drop (xs.length * y.sz - (n * y.sz + news.length)) := by rw [List.drop_drop]; congr 1; omega
    rw [this, List.take_append_drop]
  obtain ⟨s, r'⟩ := r.mod (blk' := .row y (xs.take n ++ (mid ++ xs.drop (n + mid.length))) false) (w' := w.setRow b (cur.toList.take (n * y.sz) ++ news ++ cur.toList.drop (n * y.sz + news.length)).toArray) hb rfl hm
    ⟨xs, false, rfl, hlen.symm⟩ rfl (fun k hk => setRow_other w b k _ hk) (setRow_size ..) rfl rfl rfl (Nat.le_refl _) (fun s => by
      refine ⟨hz, rowAt_of (e := e0) (cs := (cur.toList.take (xs.length * y.sz)).take (n * y.sz) ++ (news ++ (cur.toList.take (xs.length * y.sz)).drop ((n + mid.length) * y.sz))) (rest := cur.toList.drop (xs.length * y.sz)) (e1.step s) ?_ ?_ hc0 (by rw [hlen]; exact hl) hmx htg, by simp⟩
      · rw [← hcells]; exact setRow_heap w b cur _ e0 _ hg
      · rw [← hcells]; simp; omega)
  exact ⟨s, r', rfl⟩
theorem append_self [Dr] (r : RelM W0 O μ st a w) {t t2 e : TypeId} {i : TypeInfo} {yy : Ty} {ys xsf : List yy.den} {news : List Value} {dv xv : Value} {rid n : Nat}
    (exec : ∀ cv w', (Builtin.append_ #[t, t2] o.type #[dv, xv]).run P w = .ok cv w' → (execOp a.eval o).run P w = .ok (.value cv) w')
    (hE : ElemTy P t e i yy) (hsrc : Src P yy.sz t2 xv ys.length news w) (hEl : Elems w (Av O μ st.heap) yy ys news) (hb : st.heap rid = some (.row yy xsf false)) (hn : n ≤ xsf.length) (hdv : HdV (μ rid) n dv)
    (hk : (bif decide (n + ys.length ≤ xsf.length) && decide (0 < xsf.length) then mkp (V.c (.sub rid (n + ys.length))) [(rid, Blk.row yy (xsf.take n ++ (ys ++ xsf.drop (n + ys.length))) false)] else none) = some (v, u)) : OpOK P W0 O st a w o v u := by
  have hc := (cond_some hk).1
  have hk2 := (cond_some hk).2
  clear hk
  simp only [mkp, Option.some.injEq, Prod.mk.injEq] at hk2
  obtain ⟨rfl, rfl⟩ := hk2
  simp only [Bool.and_eq_true, decide_eq_true_eq] at hc
  obtain ⟨hle, hpos⟩ := hc
  obtain ⟨hu, hi, hsz, hsp, hbytes, hby0, ⟨z, hz, hzs, hzf⟩, _⟩ := hE
  have hbr := r.blks rid _ hb
  cases hm : μ rid with
  | none =>
    rw [hm] at hbr
    have : xsf = [] := hbr.2
    rw [this] at hpos
    exact absurd hpos (by simp)
  | some p =>
    obtain ⟨b, cap⟩ := p
    rw [hm] at hbr hdv
    have hdv : dv = _ := hdv
    subst hdv
    obtain ⟨_, ⟨e0, cur, fr, hg, hcs, ⟨hc0, hl⟩, hmx, hfr, hxx⟩, _⟩ := hbr
    have htg := hfr.2
    have hfr := hfr.1 rfl
    subst hfr
    have hcb : xsf.length * yy.sz ≤ cur.size := by rw [hcs]; exact Nat.mul_le_mul_right _ hl
    have hE1 := elems_of_rowAt hxx hcb
    have hnl : news.length = ys.length * yy.sz := hEl.1
    have hfit : n * yy.sz + news.length ≤ cur.size := by
      rw [hnl, ← Nat.add_mul]
      exact Nat.le_trans (Nat.mul_le_mul_right _ hle) hcb
    obtain ⟨s, r', _⟩ := splice r hb hm hg hcs hc0 hl hmx htg hsp hE1 hEl hle
    have hst := run_storeCells_at P b (n * yy.sz) e0 news 0 cur w hg (by simpa using hfit) hsrc.one
    simp only [Nat.add_zero] at hst
    have hroom : n + ys.length ≤ cap := by omega
    have hrun : (Builtin.append_ #[t, t2] o.type #[.slice (some ⟨b, 0, none⟩) n cap, xv]).run P w = .ok (.slice (some ⟨b, 0, none⟩) (n + ys.length) cap) (w.setRow b (cur.toList.take (n * yy.sz) ++ news ++ cur.toList.drop (n * yy.sz + news.length)).toArray) := by
      rw [← hsz] at hst hsrc ⊢
      rcases hsrc.kind with ⟨e', hk⟩ | hk <;>
        simp [Builtin.append_, run_underlying hu, run_underlying hk, sizeOf, typeInfo, hi, hsrc.len, hroom, hsrc.cells, Addr.add_lit, hst]
    refine OpOK.value (exec _ _ hrun) r' (VRep.of_c (c := .sub rid (n + ys.length)) ⟨_, updH_same .., rfl, fun t' xs' fz he => ?_⟩)
    cases he
    rw [hm]
    exact ⟨by simp; omega, rfl⟩
theorem unitN_sz : ∀ n, (unitN n).sz = 0
  | 0 => rfl
  | n + 1 => by show 0 + (unitN n).sz = 0; rw [unitN_sz n]
theorem unitN_rep {w : World} {A : Nat → Prop} : ∀ (n : Nat) (x : (unitN n).den), FRep w A (unitN n) x []
  | 0, _ => rfl
  | n + 1, x => ⟨[], [], rfl, rfl, unitN_rep n x.2⟩
theorem unitN_tag : ∀ n, unitsN (unitN n) = some n
  | 0 => rfl
  | n + 1 => by show (match unitsN (unitN n) with | some k => some (k + 1) | none => none) = _; rw [unitN_tag n]
theorem byt_tag (e : Nat) : tagOf (byt e) = some e := by
  show (match unitsN (unitN (e + 1)) with | some (n + 1) => some n | _ => none) = _
  rw [unitN_tag]
theorem byt_sz (e : Nat) : (byt e).sz = 1 := by
  show 1 + (unitN (e + 1)).sz = 1
  rw [unitN_sz]
theorem byt_rep {w : World} {A : Nat → Prop} (e : Nat) (x : (byt e).den) : FRep w A (byt e) x [.int .u8 x.1] := ⟨[.int .u8 x.1], [], rfl, rfl, unitN_rep _ _⟩
theorem ElemTy.byt {t e : TypeId} {i : TypeInfo} (h : ElemTy P t e i (.int .u8)) : ElemTy P t e i (byt e) := by
  obtain ⟨hu, hi, hs, hpos, hby, hby0, ⟨z, hz, hzs, hzf⟩, _⟩ := h
  refine ⟨hu, hi, by rw [hs, byt_sz]; rfl, by rw [byt_sz]; decide, hby, hby0, ⟨z, hz, by rw [hzs, byt_sz]; rfl, fun w A => ?_⟩, fun e' h' => ?_⟩
  · have h0 : z.cells.toList = [.int .u8 0] := hzf w A
    rw [h0]
    exact byt_rep e _
  · rw [byt_tag] at h'
    exact Option.some.inj h'
theorem strL_len (e : Nat) (s : ByteArray) : List.length (α := (byt e).den) (strL e s) = s.size := by
  exact (List.length_map ..).trans (Array.length_toList ..)
theorem strL_elems {w : World} {A : Nat → Prop} (e : Nat) (s : ByteArray) : Elems w A (byt e) (strL e s) (byteCells s) := by
  refine ⟨by rw [strL_len, byt_sz, byteCells_length, Nat.mul_one], fun i x hi => ?_⟩
  have hi : (s.data.toList[i]?).map (fun b => (((b.toNat : Int), unitV (e + 1)) : (byt e).den)) = some x := by rw [← List.getElem?_map]; exact hi
  cases hb : s.data.toList[i]? with
  | none => rw [hb] at hi; cases hi
  | some b =>
    rw [hb] at hi
    simp only [Option.map_some, Option.some.injEq] at hi
    subst hi
    refine ⟨_, byt_rep e _, fun j u hj => ?_⟩
    match j, hj with
    | 0, hj =>
      simp only [List.getElem?_cons_zero, Option.some.injEq] at hj
      subst hj
      unfold byteCells
      rw [byt_sz, Nat.mul_one, Nat.add_zero, List.getElem?_map, hb]
      rfl
    | j + 1, hj => simp at hj
theorem appStr_ok [Dr] (r : RelM W0 O μ st a w) {t t2 e : TypeId} {i : TypeInfo} {yy : Ty} {x y : Operand} {id : Nat} (hE : ElemTy P t e i yy) (hid : st.heap id = none)
    (exec : ∀ cv w', (Builtin.append_ #[t, t2] o.type #[a.eval x, a.eval y]).run P w = .ok cv w' → (execOp a.eval o).run P w = .ok (.value cv) w')
    (hk : appStr P id st.heap t2 e i yy (st.ev x) (st.ev y) mkp = some (v, u)) : OpOK P W0 O st a w o v u := by
  have hx := r.ev x
  have hy := r.ev y
  unfold appStr at hk
  split at hk
  · rename_i r0 s hst hxe hye
    rw [hxe] at hx
    rw [hye] at hy
    split at hk
    · rename_i u' xs hb
      split at hk
      · rename_i xs' hz
        obtain ⟨e', rfl⟩ := castTo_some hz
        cases e'
        obtain ⟨blk, hb', _, hv⟩ := VRep.to_c (by simp) hx
        rw [hb] at hb'
        cases hb'
        have hys : a.eval y = .string s := by
          have h1 : FRep w (Av O μ st.heap) .str s [a.eval y] := VRep.to_c (by simp) hy
          have h2 : [a.eval y] = [.string s] := h1
          simpa using h2
        rw [hys] at exec
        have hsrc : Src P (byt e).sz t2 (.string s) (List.length (α := (byt e).den) (strL e s)) (byteCells s) w := by
          rw [byt_sz, strL_len]; exact Src.ofString w hst s
        exact append_own r exec hE.byt hid hsrc (strL_elems e s) hb (r.blks r0 _ hb) (hv _ xs false rfl) (by rw [strL_len]; exact hk)
      · cases hk
    · cases hk
  · cases hk
theorem append_ok [Dr] (r : RelM W0 O μ st a w) {t t2 : TypeId} {x y : Operand} {id : Nat} {c : Call} (ho : o.op = .call c) (hcal : c.callee = .builtin .append) (hat : c.argTypes.toList = [t, t2]) (har : c.args.toList = [x, y])
    (hk : opAppend P id st.heap t t2 (st.ev x) (st.ev y) mkp = some (v, u)) : OpOK P W0 O st a w o v u := by
  have hx := r.ev x
  have hy := r.ev y
  have hat' : c.argTypes = #[t, t2] := by rw [← Array.toArray_toList (xs := c.argTypes), hat]
  have har' : c.args = #[x, y] := by rw [← Array.toArray_toList (xs := c.args), har]
  have exec : ∀ cv w', (Builtin.append_ #[t, t2] o.type #[a.eval x, a.eval y]).run P w = .ok cv w' → (execOp a.eval o).run P w = .ok (.value cv) w' := by
    intro cv w' h
    simp [execOp, ho, resolve, hcal, hat', har', invoke, builtin, h]
  unfold opAppend at hk
  split at hk
  · rename_i e i yy p hel hel2 hid
    have hE := elemTy_some hel
    obtain ⟨e2, i2, y2⟩ := p
    have hE2 := elemTy_some hel2
    split at hk
    · rename_i ys hys
      obtain ⟨news, hsrc, hEl⟩ := readSl_sound (P := P) r.blks hE2.und hys hy
      have hnl : news.length = ys.length * yy.sz := hEl.1
      split at hk
      · rename_i hxe
        rw [hxe] at hx
        have hxv : a.eval x = .slice none 0 0 := VRep.to_c (by simp) hx
        have hc := (cond_some hk).1
        have hk2 := (cond_some hk).2
        clear hk
        simp only [mkp, Option.some.injEq, Prod.mk.injEq] at hk2
        obtain ⟨rfl, rfl⟩ := hk2
        have hroom : ys.length * i.bytes ≤ 140737488355328 := of_decide_eq_true hc
        rw [hxv] at exec
        have hbr : BRep w (Av O μ st.heap) μ st.heap none (.row yy [] false) := ⟨hE.pos, rfl⟩
        rcases append_core (P := P) hE hsrc hbr (dv := .slice none 0 0) ⟨rfl, none, rfl⟩ (by simpa using hroom) o.type with ⟨_, hn, ad, hrun⟩ | ⟨b, cap, cur, e0, hm, _⟩ | ⟨cap, olds, hEo, hc0, hcl, hcm, zs, hzs, hrun⟩
        · have hys0 : ys = [] := List.eq_nil_of_length_eq_zero hn
          subst hys0
          obtain ⟨s, r'⟩ := r.newNil (t := yy) hE.pos hid
          refine OpOK.value (exec _ _ hrun) r' (VRep.of_c (c := .ref id) ⟨_, updH_same .., rfl, fun t' xs' fz he => ?_⟩)
          cases he
          rw [updM_same]
          exact ⟨rfl, ad, rfl⟩
        · cases hm
        · have hold0 : olds = [] := List.eq_nil_of_length_eq_zero (by rw [hEo.1]; simp)
          subst hold0
          have hlz : ([] ++ news ++ zs).length = cap * yy.sz := by
            simp only [List.nil_append, List.length_append, hnl, hzs, List.length_nil, Nat.zero_add]
            rw [← Nat.add_mul]
            congr 1
            simp at hcl
            omega
          obtain ⟨s, r'⟩ := r.new (b := w.heap.size) (c := cap) (blk := .row yy ys false) hid (drew_alloc_below w (.cells ([] ++ news ++ zs).toArray e)) (Nat.le_refl _)
            (fun s => ⟨hE.pos, rowAt_of (cs := news) (rest := zs) (hEl.step s) (heap_alloc_new w.drew _) (by simpa using hlz) hc0 (by simpa using hcl) hcm hE.tag, by simp⟩)
          refine OpOK.value (exec _ _ hrun) r' (VRep.of_c (c := .ref id) ⟨_, updH_same .., rfl, fun t' xs' fz he => ?_⟩)
          cases he
          rw [updM_same]
          simp [HdV]
      · rename_i rid hxe
        rw [hxe] at hx
        split at hk
        · rename_i y' xs0 hb
          split at hk
          · rename_i xs hcast
            obtain ⟨ety, rfl⟩ := castTo_some hcast
            cases ety
            obtain ⟨blk, hb', _, hr⟩ := VRep.to_c (by simp) hx
            rw [hb] at hb'
            cases hb'
            exact append_own r exec hE hid hsrc hEl hb (r.blks rid _ hb) (hr yy xs0 false rfl) hk
          · cases hk
        · cases hk
      · rename_i rid n hxe
        rw [hxe] at hx
        split at hk
        · rename_i y' xs0 hb
          split at hk
          · rename_i xs hcast
            obtain ⟨ety, rfl⟩ := castTo_some hcast
            cases ety
            obtain ⟨blk, hb', _, hr⟩ := VRep.to_c (by simp) hx
            rw [hb] at hb'
            cases hb'
            obtain ⟨hn, hv⟩ := hr yy xs0 false rfl
            cases hw : winOf rid (st.ev y)
            · rw [hw] at hk
              exact append_own r exec hE hid hsrc hEl hb ((r.blks rid _ hb).first n) (by rw [first_len hn]; exact hv) hk
            · rw [hw] at hk
              exact append_self r exec hE hsrc hEl hb hn hv hk
          · cases hk
        · cases hk
      · cases hk
    · cases hk
  · rename_i e i yy hel _ hid
    exact appStr_ok r (elemTy_some hel) hid exec hk
  · cases hk
theorem clear_ok [Dr] (r : RelM W0 O μ st a w) {t : TypeId} {x : Operand} {c : Call} (ho : o.op = .call c) (hcal : c.callee = .builtin .clear) (hat : c.argTypes.toList = [t]) (har : c.args.toList = [x])
    (hk : opClear P st.heap t (st.ev x) some = some u) : OpOK P W0 O st a w o (.c .undef) u := by
  have hx := r.ev x
  have hat' : c.argTypes = #[t] := by rw [← Array.toArray_toList (xs := c.argTypes), hat]
  have har' : c.args = #[x] := by rw [← Array.toArray_toList (xs := c.args), har]
  have exec : ∀ cv w', (Builtin.clear_ #[t] o.type #[a.eval x]).run P w = .ok cv w' → (execOp a.eval o).run P w = .ok (.value cv) w' := by
    intro cv w' h
    simp [execOp, ho, resolve, hcal, hat', har', invoke, builtin, h]
  unfold opClear at hk
  split at hk
  · rename_i e i yy id lo n z hel hxe
    have hE := elemTy_some hel
    rw [hxe] at hx
    split at hk
    · rename_i u' xs0 hb
      split at hk
      · rename_i xs hcast
        obtain ⟨ety, rfl⟩ := castTo_some hcast
        cases ety
        have hc := (cond_some hk).1
        have hk2 := (cond_some hk).2
        clear hk
        cases hk2
        rw [Bool.and_eq_true] at hc
        have hcz := Nat.eq_of_beq_eq_true hc.1
        have hle : lo + n ≤ xs0.length := Nat.le_of_ble_eq_true hc.2
        obtain ⟨hu, hi, hsz, hsp, hbytes, hby0, ⟨zv, hz, hzs, hzf⟩, _⟩ := hE
        obtain ⟨blk, ad, c', hb', hv, hn, hr⟩ := VRep.to_c (by simp) hx
        rw [hb] at hb'
        cases hb'
        rw [hv] at exec
        by_cases h0 : 0 < n
        · obtain ⟨_, b, cap, hm, rfl⟩ := hr yy xs0 false rfl hcz h0
          have hbr := r.blks id _ hb
          rw [hm] at hbr
          obtain ⟨_, ⟨e0, cur, fr, hg, hcs, ⟨hc0, hl⟩, hmx, hfr, hxx⟩, _⟩ := hbr
          have htg := hfr.2
          have hfr := hfr.1 rfl
          subst hfr
          have hcb : xs0.length * yy.sz ≤ cur.size := by rw [hcs]; exact Nat.mul_le_mul_right _ hl
          have hE1 := elems_of_rowAt hxx hcb
          have hzc : (Builtin.zeroCells zv.cells n).toList.length = n * yy.sz := by simp [size_zeroCells, hzs]
          have hmid : Elems w (Av O μ st.heap) yy (List.replicate n yy.dflt) (Builtin.zeroCells zv.cells n).toList := by
            refine ⟨by rw [hzc]; simp, fun k x' hk' => ?_⟩
            rw [List.getElem?_replicate] at hk'
            split at hk'
            · rename_i hkn
              cases hk'
              refine ⟨zv.cells.toList, hzf _ _, fun j q hj => ?_⟩
              have hjl : j < yy.sz := by rw [← hzs]; simpa using (List.getElem?_eq_some_iff.1 hj).1
              have h2 : (k + 1) * yy.sz ≤ n * yy.sz := Nat.mul_le_mul_right _ hkn
              rw [Nat.add_mul, Nat.one_mul] at h2
              have hlt : k * yy.sz + j < n * zv.cells.size := by rw [hzs]; omega
              have hm0 : (k * yy.sz + j) % zv.cells.size = j := by rw [hzs, Nat.mul_comm, Nat.mul_add_mod]; exact Nat.mod_eq_of_lt hjl
              have hjc : j < zv.cells.size := by rw [hzs]; exact hjl
              rw [Array.getElem?_toList]
              have h5 : (Builtin.zeroCells zv.cells n)[k * yy.sz + j]? = some (zv.cells[(k * yy.sz + j) % zv.cells.size]!) := by simp [Builtin.zeroCells, hlt]
              rw [h5, hm0, getElem!_pos zv.cells j hjc, ← Array.getElem?_eq_getElem hjc, ← Array.getElem?_toList]
              exact hj
            · cases hk'
          have hle' : lo + (List.replicate n yy.dflt).length ≤ xs0.length := by simpa using hle
          obtain ⟨s, r', _⟩ := splice r hb hm hg hcs hc0 hl hmx htg hsp hE1 hmid hle'
          have hfit : lo * yy.sz + (Builtin.zeroCells zv.cells n).toList.length ≤ cur.size := by
            rw [hzc, ← Nat.add_mul]
            exact Nat.le_trans (Nat.mul_le_mul_right _ hle) hcb
          have hst := run_storeCells_at P b (lo * yy.sz) e0 (Builtin.zeroCells zv.cells n).toList 0 cur w hg (by simpa using hfit) hmid.oneCell
          simp only [Nat.add_zero] at hst
          rw [List.length_replicate] at r'
          refine OpOK.value (cv := .tuple #[]) (exec _ _ ?_) r' trivial
          obtain ⟨m, rfl⟩ : ∃ m, n = m + 1 := ⟨n - 1, by omega⟩
          rw [← hcz]
          simp [Builtin.clear_, run_underlying hu, zeroValue, typeInfo, hi, hz, hst]
        · have : n = 0 := by omega
          subst this
          have he : xs0.take lo ++ (List.replicate 0 yy.dflt ++ xs0.drop (lo + 0)) = xs0 := by simp
          rw [he]
          have hupd : updsH st.heap [(id, Blk.row yy xs0 false)] = st.heap := by
            funext j
            show updH st.heap id _ j = _
            by_cases hj : j = id
            · subst hj; rw [updH_same, hb]
            · rw [updH_ne _ _ hj]
          refine OpOK.value (cv := .tuple #[]) (μ' := μ) (exec _ w ?_) (by rw [hupd]; exact r) trivial
          cases ad <;> simp [Builtin.clear_, run_underlying hu]
      · cases hk
    · cases hk
  · cases hk
end
end Go.VM
