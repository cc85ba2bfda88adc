import Derived.Test.YticbohfmkiafiaaVM11
namespace Go.VM
open Go.RowKit
section
variable {P : Program} {W0 : World} {O : Out} {μ : Mu} {st : St} {a : Act} {w : World} {o : Oper} {v : V} {u : Upd}
theorem run_bound (x : Int) (k : IntKind) (y : Nat) (code : BoundsCode) (h0 : 0 ≤ x) (h1 : x ≤ (y : Int)) : (Instr.sliceBound (.int k x) y code).run P w = .ok x.toNat w := by
  simp [Instr.sliceBound, asIntOf, h0, h1]
theorem run_bounds (isSl : Bool) (len cap : Nat) (lo hi : Option Value) (l h : Int) (hlo : (lo = none ∧ l = 0) ∨ ∃ k, lo = some (.int k l)) (hhi : (hi = none ∧ h = (len : Int)) ∨ ∃ k, hi = some (.int k h))
    (h0 : 0 ≤ l) (h1 : l ≤ h) (h2 : h ≤ (cap : Int)) : (Instr.sliceBounds isSl len cap lo hi none).run P w = .ok (l.toNat, h.toNat, cap) w := by
  have hl : l ≤ (h.toNat : Int) := by omega
  rcases hlo with ⟨rfl, rfl⟩ | ⟨k, rfl⟩ <;> rcases hhi with ⟨rfl, rfl⟩ | ⟨k', rfl⟩
  · simp [Instr.sliceBounds]
  · simp [Instr.sliceBounds, run_bound h k' cap _ (by omega) h2]
  · simp [Instr.sliceBounds]
    rw [run_bound l k len _ h0 (by omega)]
    simp
  · simp [Instr.sliceBounds, run_bound h k' cap _ (by omega) h2]
    rw [run_bound l k h.toNat _ h0 hl]
    simp
theorem bndLo_rep [Dr] (r : RelM W0 O μ st a w) {lo : Option Operand} {l : Int} (h : bndLo (lo.map st.ev) = some l) : (lo.map a.eval = none ∧ l = 0) ∨ ∃ k, lo.map a.eval = some (.int k l) := by
  cases lo with
  | none => simp [bndLo] at h; exact .inl ⟨rfl, h.symm⟩
  | some x =>
    simp only [Option.map_some, bndLo] at h
    split at h
    · rename_i he; cases he
    · rename_i k i he
      simp only [Option.some.injEq] at he
      cases h
      have := r.ev x
      rw [he] at this
      exact .inr ⟨k, by rw [Option.map_some, vrep_int this]⟩
    · cases h
theorem bndHi_rep [Dr] (r : RelM W0 O μ st a w) {n : Int} {hi : Option Operand} {l : Int} (h : bndHi n (hi.map st.ev) = some l) : (hi.map a.eval = none ∧ l = n) ∨ ∃ k, hi.map a.eval = some (.int k l) := by
  cases hi with
  | none => simp [bndHi] at h; exact .inl ⟨rfl, h.symm⟩
  | some x =>
    simp only [Option.map_some, bndHi] at h
    split at h
    · rename_i he; cases he
    · rename_i k i he
      simp only [Option.some.injEq] at he
      cases h
      have := r.ev x
      rw [he] at this
      exact .inr ⟨k, by rw [Option.map_some, vrep_int this]⟩
    · cases h
theorem sizeB_some {e : TypeId} {y : Ty} (h : sizeB P e y = true) : ∃ i, P.info? e = some i ∧ i.size = y.sz := by
  unfold sizeB at h
  split at h
  · rename_i i hi; exact ⟨i, hi, Nat.eq_of_beq_eq_true h⟩
  · cases h
theorem sliceRow_ok [Dr] (r : RelM W0 O μ st a w) {t e : TypeId} {xv : Value} {lo hi : Option Operand} {id : Nat} {y : Ty} {xs ys : List y.den} {fz fz0 : Bool} (hu : P.underlying t = some (.slice e)) (hb : st.heap id = some (.row y xs fz0))
    (exec : ∀ cv, (Instr.sliceAt t xv (lo.map a.eval) (hi.map a.eval) none).run P w = .ok cv w → (execOp a.eval o).run P w = .ok (.value cv) w)
    (hys : ∀ {w' : World} {A : Nat → Prop} {μ' : Mu} {h' : Heap} {m : Option (Nat × Nat)} {fz' : Bool}, BRep w' A μ' h' m (.row y xs fz') → BRep w' A μ' h' m (.row y ys fz')) (hle : ys.length ≤ xs.length) (hxv : HdV (μ id) ys.length xv)
    (hk : sliceRow P e id y xs ys fz (lo.map st.ev) (hi.map st.ev) mkp = some (v, u)) : OpOK P W0 O st a w o v u := by
  unfold sliceRow at hk
  split at hk
  · rename_i l h hl hh
    cases fz
    · simp only [cond_false] at hk
      have hc := (cond_some hk).1
      have hk2 := (cond_some hk).2
      clear hk
      simp only [Bool.and_eq_true, decide_eq_true_eq] at hc
      obtain ⟨hsz, hc⟩ := hc
      obtain ⟨i, hi', hs⟩ := sizeB_some hsz
      have hhn : h.toNat ≤ xs.length := by omega
      have hbr := r.blks id _ hb
      cases hq : (lo.map st.ev).isSome
      · rw [hq] at hk2
        simp only [cond_false, mkp, Option.some.injEq, Prod.mk.injEq] at hk2
        obtain ⟨rfl, rfl⟩ := hk2
        have hlo : lo = none := by
          cases lo with
          | none => rfl
          | some x => simp at hq
        subst hlo
        have hl0 : l = 0 := by simpa [bndLo] using hl.symm
        subst hl0
        cases hm : μ id with
        | none =>
          rw [hm] at hbr hxv
          have hx0 : xs = [] := hbr.2
          have hy0 : ys = [] := List.eq_nil_of_length_eq_zero (by rw [hx0] at hle; simpa using hle)
          obtain ⟨_, ad, rfl⟩ := hxv
          have hh0 : h.toNat = 0 := by rw [hx0] at hhn; simpa using hhn
          have hbn := run_bounds (P := P) (w := w) true 0 0 _ _ 0 h (bndLo_rep r hl) (by have := bndHi_rep r hh; rw [hy0] at this; exact this) (Int.le_refl _) hc.2.1 (by rw [hx0] at hc; exact hc.2.2)
          simp only [Option.map_none] at hbn
          refine OpOK.pure r (exec (.slice ad 0 0) ?_) (VRep.of_c (c := .sub id h.toNat) ⟨_, hb, rfl, fun t' xs' fz' he => ?_⟩)
          · simp [Instr.sliceAt, run_underlying hu, Instr.slice, hbn, sizeOf, typeInfo, hi', hh0]
          · cases he
            rw [hm]
            exact ⟨hhn, hh0, ad, rfl⟩
        | some p =>
          obtain ⟨b, c⟩ := p
          rw [hm] at hbr hxv
          have hxv : xv = _ := hxv
          subst hxv
          obtain ⟨_, ⟨_, _, _, _, _, ⟨hc0, hcap⟩, _⟩, _⟩ := hbr
          have hbn := run_bounds (P := P) (w := w) true ys.length c _ _ 0 h (bndLo_rep r hl) (bndHi_rep r hh) (Int.le_refl _) hc.2.1 (Int.le_trans hc.2.2 (Int.ofNat_le.2 hcap))
          simp only [Option.map_none] at hbn
          refine OpOK.pure r (exec (.slice (some ⟨b, 0, none⟩) h.toNat c) ?_) (VRep.of_c (c := .sub id h.toNat) ⟨_, hb, rfl, fun t' xs' fz' he => ?_⟩)
          · simp [Instr.sliceAt, run_underlying hu, Instr.slice, hbn, sizeOf, typeInfo, hi', Addr.add]
          · cases he
            rw [hm]
            exact ⟨hhn, rfl⟩
      · rw [hq] at hk2
        simp only [cond_true, mkp, Option.some.injEq, Prod.mk.injEq] at hk2
        obtain ⟨rfl, rfl⟩ := hk2
        cases hm : μ id with
        | none =>
          rw [hm] at hbr hxv
          have hx0 : xs = [] := hbr.2
          have hy0 : ys = [] := List.eq_nil_of_length_eq_zero (by rw [hx0] at hle; simpa using hle)
          obtain ⟨_, ad, rfl⟩ := hxv
          have hh0 : h.toNat = 0 := by rw [hx0] at hhn; simpa using hhn
          have hl0 : l.toNat = 0 := by omega
          have hd0 : (h - l).toNat = 0 := by omega
          have hbn := run_bounds (P := P) (w := w) true 0 0 _ _ l h (bndLo_rep r hl) (by have := bndHi_rep r hh; rw [hy0] at this; exact this) hc.1 hc.2.1 (by rw [hx0] at hc; exact hc.2.2)
          refine OpOK.pure r (exec (.slice ad 0 0) ?_) (VRep.of_c (c := .win id l.toNat (h - l).toNat y.sz) ⟨_, ad, 0, hb, by rw [hd0], by omega, fun t' xs' fz' he _ hpos => by omega⟩)
          simp [Instr.sliceAt, run_underlying hu, Instr.slice, hbn, sizeOf, typeInfo, hi', hh0, hl0]
        | some p =>
          obtain ⟨b, c⟩ := p
          rw [hm] at hbr hxv
          have hxv : xv = _ := hxv
          subst hxv
          obtain ⟨_, ⟨_, _, _, _, _, ⟨hc0, hcap⟩, _⟩, _⟩ := hbr
          have hbn := run_bounds (P := P) (w := w) true ys.length c _ _ l h (bndLo_rep r hl) (bndHi_rep r hh) hc.1 hc.2.1 (Int.le_trans hc.2.2 (Int.ofNat_le.2 hcap))
          have hd : (h - l).toNat = h.toNat - l.toNat := by omega
          have hlc : l.toNat ≤ c := by omega
          refine OpOK.pure r (exec (.slice (if c = l.toNat then some ⟨b, 0, none⟩ else some (Addr.add ⟨b, 0, none⟩ (l.toNat * y.sz))) (h.toNat - l.toNat) (c - l.toNat)) ?_) (VRep.of_c (c := .win id l.toNat (h - l).toNat y.sz) ⟨_, _, c - l.toNat, hb, by rw [hd], by omega, fun t' xs' fz' he _ hpos => ?_⟩)
          · simp [Instr.sliceAt, run_underlying hu, Instr.slice, hbn, sizeOf, typeInfo, hi', hs]
          · cases he
            refine ⟨by omega, b, c, hm, ?_⟩
            rw [if_neg (by omega), add_lit]
            simp
    · simp only [cond_true] at hk
      have hc := (cond_some hk).1
      have hk2 := (cond_some hk).2
      clear hk
      simp only [Bool.and_eq_true, decide_eq_true_eq] at hc
      obtain ⟨hsz, hc⟩ := hc
      obtain ⟨hsz, hkm⟩ := sizeM_some hsz
      obtain ⟨i, hi', hs⟩ := sizeB_some hsz
      simp only [mkp, Option.some.injEq, Prod.mk.injEq] at hk2
      obtain ⟨rfl, rfl⟩ := hk2
      obtain ⟨s1, r1, hnot, hav⟩ := r.fz [id]
      have hfu : freezes st.heap [id] = [(id, .row y xs true)] := by simp [freezes, hb]
      rw [hfu] at r1 hnot hav s1
      have hfr := row_frep hkm (A' := Av O μ (updsH st.heap [(id, .row y xs true)])) (hys (r.blks id _ hb)) hxv hav (fun b c hm => hnot id (by simp [memN]) b c hm ⟨y, xs, fz0, hb⟩)
      have hfin : ∀ (ad : Option Addr) (cap : Nat), xv = .slice ad ys.length cap → OpOK P W0 O st a w o (.c (.val (.sl y) (sliceOf ys l h))) [(id, .row y xs true)] := by
        intro ad cap he
        rw [he] at hfr exec
        have hcap : ys.length ≤ cap := by
          obtain ⟨ad', cap', hv', hl', _⟩ := hfr
          simp at hv'
          rw [hv'.2]
          exact hl'
        obtain ⟨_, hf⟩ := frep_slice hkm hfr l h hc.1 hc.2.1 hc.2.2
        have hbn := run_bounds (P := P) (w := w) true ys.length cap _ _ l h (bndLo_rep r hl) (bndHi_rep r hh) hc.1 hc.2.1 (Int.le_trans hc.2.2 (Int.ofNat_le.2 hcap))
        refine OpOK.value (exec _ ?_) r1 (VRep.of_c (c := .val (.sl y) (sliceOf ys l h)) hf)
        simp [Instr.sliceAt, run_underlying hu, Instr.slice, hbn, sizeOf, typeInfo, hi', hs]
      cases hm : μ id with
      | none =>
        rw [hm] at hxv
        obtain ⟨hy0, ad, he⟩ := hxv
        exact hfin ad 0 (by rw [hy0, he])
      | some p =>
        obtain ⟨b, c⟩ := p
        rw [hm] at hxv
        exact hfin (some ⟨b, 0, none⟩) c hxv
  · cases hk
theorem slice3_ok [Dr] (r : RelM W0 O μ st a w) {t : TypeId} {x m : Operand} {lo hi : Option Operand} {id : Nat} {y : Ty} {e : TypeId} {i : TypeInfo} (ho : o.op = .slice t x lo hi (some m)) (hE : ElemTy P t e i y) (hid : st.heap id = none)
    (hz : zeroB2 (lo.map st.ev) (hi.map st.ev) (st.ev m) = true) (hs : slB st.heap (st.ev x) = true) : OpOK P W0 O st a w o (.c (.ref id)) [(id, .row y ([] : List y.den) false)] := by
  unfold zeroB2 at hz
  split at hz
  · rename_i k a1 k' b1 h1 h2 h3
    simp only [Bool.and_eq_true, decide_eq_true_eq] at hz
    obtain ⟨rfl, rfl⟩ := hz
    have hlo : lo = none := by cases lo with | none => rfl | some _ => simp at h1
    subst hlo
    obtain ⟨hx2, rfl, he2⟩ : ∃ hx2, hi = some hx2 ∧ st.ev hx2 = .c (.val (.int k) (0 : Int)) := by
      cases hi with
      | none => simp at h2
      | some z => exact ⟨z, rfl, by simpa using h2⟩
    have hv2 := r.ev hx2
    rw [he2] at hv2
    have hv2 := vrep_int hv2
    have hv3 := r.ev m
    rw [h3] at hv3
    have hv3 := vrep_int hv3
    have hx := r.ev x
    have ofHd : ∀ {m : Option (Nat × Nat)} {n : Nat} {q : Value}, HdV m n q → ∃ ad n c, q = .slice ad n c := by
      intro m n q hq
      cases m with
      | none => obtain ⟨_, ad, rfl⟩ := hq; exact ⟨_, _, _, rfl⟩
      | some p => obtain ⟨b, c⟩ := p; exact ⟨_, _, _, hq⟩
    have hsl : ∃ ad n c, a.eval x = .slice ad n c := by
      unfold slB at hs
      split at hs
      · rename_i u xs hq
        rw [hq] at hx
        obtain ⟨ad, cap, hv, _⟩ := VRep.to_c (by simp) hx
        exact ⟨ad, _, cap, by simpa using hv⟩
      · rename_i hq
        rw [hq] at hx
        exact ⟨none, 0, 0, VRep.to_c (by simp) hx⟩
      · rename_i id' hq
        rw [hq] at hx
        obtain ⟨blk, hb, h1, hr⟩ := VRep.to_c (by simp) hx
        rw [hb] at hs
        cases blk <;> first | cases hs | skip
        exact ofHd (hr _ _ _ rfl)
      · rename_i id' n hq
        rw [hq] at hx
        obtain ⟨blk, hb, h1, hr⟩ := VRep.to_c (by simp) hx
        rw [hb] at hs
        cases blk <;> first | cases hs | skip
        exact ofHd (hr _ _ _ rfl).2
      · rename_i id' lo' n' z' hq
        rw [hq] at hx
        obtain ⟨blk, ad, c', _, hv, _⟩ := VRep.to_c (by simp) hx
        exact ⟨ad, _, c', hv⟩
      · cases hs
    obtain ⟨ad, n, c, hxv⟩ := hsl
    have hrun : (Instr.sliceAt t (.slice ad n c) none (some (.int k 0)) (some (.int k' 0))).run P w = .ok (.slice ad 0 0) w := by
      have b1 := run_bound (P := P) (w := w) 0 k' c .slice3Acap (Int.le_refl _) (by omega)
      have b2 := run_bound (P := P) (w := w) 0 k 0 .slice3B (Int.le_refl _) (by omega)
      simp [Instr.sliceAt, run_underlying hE.und, Instr.slice, Instr.sliceBounds, b1, b2, sizeOf, typeInfo, hE.info]
    refine OpOK.empty r hE.pos hid (BelowD.refl _ _) (cv := .slice ad 0 0) ?_ rfl
    simp [execOp, ho, hxv, hv2, hv3, hrun]
  · cases hz
theorem slLen_rep [Dr] (r : RelM W0 O μ st a w) {x : V} {xv : Value} {n : Nat} (hx : VRep w (Av O μ st.heap) μ st.heap x xv) (h : slLen st.heap x = some n) : ∃ ad c, xv = .slice ad n c ∧ n ≤ c := by
  have ofHd : ∀ {id : Nat} {y : Ty} {xs : List y.den} {fz : Bool} {k : Nat} {q : Value}, st.heap id = some (.row y xs fz) → k ≤ xs.length → HdV (μ id) k q → ∃ ad c, q = .slice ad k c ∧ k ≤ c := by
    intro id y xs fz k q hb hk hq
    have hbr := r.blks id _ hb
    cases hm : μ id with
    | none => rw [hm] at hq; obtain ⟨rfl, ad, rfl⟩ := hq; exact ⟨ad, 0, rfl, Nat.le_refl _⟩
    | some p =>
      obtain ⟨b, c⟩ := p
      rw [hm] at hq hbr
      obtain ⟨_, ⟨_, _, _, _, _, ⟨_, hcap⟩, _⟩, _⟩ := hbr
      exact ⟨_, c, hq, Nat.le_trans hk hcap⟩
  unfold slLen at h
  split at h
  · cases h
    obtain ⟨ad, cap, hv, hle, _⟩ := VRep.to_c (by simp) hx
    exact ⟨ad, cap, by simpa using hv, hle⟩
  · cases h
    exact ⟨none, 0, VRep.to_c (by simp) hx, Nat.le_refl _⟩
  · rename_i id
    split at h
    · rename_i y xs fz hb
      cases h
      obtain ⟨blk, hb', _, hr⟩ := VRep.to_c (by simp) hx
      rw [hb] at hb'
      cases hb'
      exact ofHd hb (Nat.le_refl _) (hr y xs fz rfl)
    · cases h
  · rename_i id k
    have hrow := (cond_some h).1
    have h := (cond_some h).2
    cases h
    unfold isRowB at hrow
    split at hrow
    · rename_i y xs fz hb
      obtain ⟨blk, hb', _, hr⟩ := VRep.to_c (by simp) hx
      rw [hb] at hb'
      cases hb'
      obtain ⟨hn, hv⟩ := hr y xs fz rfl
      exact ofHd hb hn hv
    · cases hrow
  · cases h
    obtain ⟨blk, ad, c', _, hv, hn, _⟩ := VRep.to_c (by simp) hx
    exact ⟨ad, c', hv, hn⟩
  · cases h
theorem slice3b_ok [Dr] (r : RelM W0 O μ st a w) {t e : TypeId} {x m : Operand} {lo hi : Option Operand} {i : TypeInfo} (ho : o.op = .slice t x lo hi (some m)) (hu : P.underlying t = some (.slice e)) (hi' : P.info? e = some i)
    (hk : slice3 st.heap (st.ev x) (lo.map st.ev) (hi.map st.ev) (st.ev m) mkp = some (v, u)) : OpOK P W0 O st a w o v u := by
  unfold slice3 at hk
  split at hk
  · rename_i n l kb b kc c hn hl hh hc
    have hcc := (cond_some hk).1
    have hk2 := (cond_some hk).2
    clear hk
    simp only [Bool.and_eq_true, decide_eq_true_eq] at hcc
    simp only [mkp, Option.some.injEq, Prod.mk.injEq] at hk2
    obtain ⟨rfl, rfl⟩ := hk2
    obtain ⟨ad, cap, hxv, hcap⟩ := slLen_rep r (r.ev x) hn
    obtain ⟨hx2, rfl, he2⟩ : ∃ hx2, hi = some hx2 ∧ st.ev hx2 = .c (.val (.int kb) b) := by
      cases hi with
      | none => simp at hh
      | some z => exact ⟨z, rfl, by simpa using hh⟩
    have hv2 := r.ev hx2
    rw [he2] at hv2
    have hv2 := vrep_int hv2
    have hv3 := r.ev m
    rw [hc] at hv3
    have hv3 := vrep_int hv3
    obtain ⟨h1, h2, h3, h4⟩ := hcc
    have key : ∀ (l b c : Int), 0 ≤ l → l ≤ b → b ≤ c → c ≤ (n : Int) → ((lo.map a.eval = none ∧ l = 0) ∨ ∃ k, lo.map a.eval = some (.int k l)) →
        ∃ p, (Instr.sliceBounds true n cap (lo.map a.eval) (some (.int kb b)) (some (.int kc c))).run P w = .ok p w := by
      intro l b c h1 h2 h3 h4 hlo
      have b1 := run_bound (P := P) (w := w) c kc cap .slice3Acap (by omega) (by omega)
      have b2 := run_bound (P := P) (w := w) b kb c.toNat .slice3B (by omega) (by omega)
      rcases hlo with ⟨e1, _⟩ | ⟨k, e1⟩
      · rw [e1]; exact ⟨_, by simp [Instr.sliceBounds, b1, b2]; rfl⟩
      · have b3 := run_bound (P := P) (w := w) l k b.toNat .slice3C (by omega) (by omega)
        rw [e1]; exact ⟨_, by simp [Instr.sliceBounds, b1, b2, b3]; rfl⟩
    obtain ⟨⟨p1, p2, p3⟩, hp⟩ := key l b c h1 h2 h3 h4 (bndLo_rep r hl)
    refine OpOK.pure r (cv := .slice (if p3 = p1 then ad else ad.map (·.add (p1 * i.size))) (p2 - p1) (p3 - p1)) ?_ trivial
    simp [execOp, ho, hxv, hv2, hv3, Instr.sliceAt, Instr.slice, run_underlying hu, hp, sizeOf, typeInfo, hi']
  · cases hk
theorem slice_ok [Dr] (r : RelM W0 O μ st a w) {t : TypeId} {x : Operand} {lo hi mx : Option Operand} {id : Nat} {lim : Option Nat} (ho : o.op = .slice t x lo hi mx)
    (hk : opSlice P id st.heap lim t (st.ev x) (lo.map st.ev) (hi.map st.ev) (mx.map st.ev) mkp = some (v, u)) : OpOK P W0 O st a w o v u := by
  have hx := r.ev x
  unfold opSlice at hk
  split at hk
  · rename_i m hmx
    obtain ⟨mo, rfl, rfl⟩ : ∃ mo, mx = some mo ∧ st.ev mo = m := by
      cases mx with
      | none => cases hmx
      | some q => exact ⟨q, rfl, by simpa using hmx⟩
    split at hk
    · rename_i e i y hel hid
      cases hzz : zeroB2 (lo.map st.ev) (hi.map st.ev) (st.ev mo) && slB st.heap (st.ev x)
      · rw [hzz] at hk
        exact slice3b_ok r ho (elemTy_some hel).und (elemTy_some hel).info hk
      · rw [hzz] at hk
        simp only [cond_true, mkp, Option.some.injEq, Prod.mk.injEq] at hk
        obtain ⟨rfl, rfl⟩ := hk
        rw [Bool.and_eq_true] at hzz
        exact slice3_ok r ho (elemTy_some hel) hid hzz.1 hzz.2
    · cases hk
  · rename_i hmx
    have hmx : mx = none := by cases mx <;> simp_all
    subst hmx
    have exec : ∀ cv, (Instr.sliceAt t (a.eval x) (lo.map a.eval) (hi.map a.eval) none).run P w = .ok cv w → (execOp a.eval o).run P w = .ok (.value cv) w := by
      intro cv h
      simp [execOp, ho, h]
    split at hk
    · rename_i s hu hex
      rw [hex] at hx
      have hxv := vrep_str hx
      split at hk
      · rename_i l h hl hh
        have hc := (cond_some hk).1
        have hk2 := (cond_some hk).2
        clear hk
        simp only [Bool.and_eq_true, decide_eq_true_eq] at hc
        simp only [mkp, Option.some.injEq, Prod.mk.injEq] at hk2
        obtain ⟨rfl, rfl⟩ := hk2
        have hb := run_bounds (P := P) (w := w) false s.size s.size _ _ l h (bndLo_rep r hl) (bndHi_rep r hh) hc.1 hc.2.1 hc.2.2
        refine OpOK.pure r (exec (.string (s.extract l.toNat h.toNat)) ?_) (rep_str _)
        simp [Instr.sliceAt, run_underlying hu, Instr.slice, hxv, hb]
      · cases hk
    · rename_i e y xs hu hex
      rw [hex] at hx
      split at hk
      · rename_i l h hl hh
        have hc := (cond_some hk).1
        have hk2 := (cond_some hk).2
        clear hk
        simp only [Bool.and_eq_true, decide_eq_true_eq] at hc
        simp only [mkp, Option.some.injEq, Prod.mk.injEq] at hk2
        obtain ⟨rfl, rfl⟩ := hk2
        obtain ⟨hsz, hc⟩ := hc
        obtain ⟨hsz, hkm⟩ := sizeM_some hsz
        obtain ⟨i, hi, hs⟩ := sizeB_some hsz
        have hxr := VRep.to_c (by simp) hx
        obtain ⟨ad, cap, hv, hcap, hrest⟩ := hxr
        simp at hv
        obtain ⟨hn, hf⟩ := frep_slice hkm (w := w) (A := Av O μ st.heap) (ad := ad) (cap := cap) ⟨ad, cap, rfl, hcap, hrest⟩ l h hc.1 hc.2.1 hc.2.2
        have hb := run_bounds (P := P) (w := w) true (List.length (α := y.den) xs) cap _ _ l h (bndLo_rep r hl) (bndHi_rep r hh) hc.1 hc.2.1 (Int.le_trans hc.2.2 (Int.ofNat_le.2 hcap))
        refine OpOK.pure r (exec _ ?_) (VRep.of_c (c := .val (.sl y) (sliceOf xs l h)) hf)
        simp [Instr.sliceAt, run_underlying hu, Instr.slice, hv, hb, sizeOf, typeInfo, hi, hs]
      · cases hk
    · rename_i e id' hu hex
      rw [hex] at hx
      split at hk
      · split at hk
        · rename_i y xs fz hb
          obtain ⟨blk, hb', _, hr⟩ := VRep.to_c (by simp) hx
          rw [hb] at hb'
          cases hb'
          exact sliceRow_ok r hu hb exec (fun h => h) (Nat.le_refl _) (hr y xs fz rfl) hk
        · cases hk
      · split at hk
        · rename_i y xs fz hb
          have hb := rdH_some hb
          obtain ⟨blk, hb', _, hr⟩ := VRep.to_c (by simp) hx
          rw [hb] at hb'
          cases hb'
          unfold sliceRowL at hk
          cases fz
          · exact sliceRow_ok r hu hb exec (fun h => h) (Nat.le_refl _) (hr y xs false rfl) hk
          · cases hk
        · cases hk
    · rename_i e id' n hu hex
      rw [hex] at hx
      split at hk
      · split at hk
        · rename_i y xs fz hb
          obtain ⟨blk, hb', _, hr⟩ := VRep.to_c (by simp) hx
          rw [hb] at hb'
          cases hb'
          obtain ⟨hn, hv⟩ := hr y xs fz rfl
          exact sliceRow_ok r hu hb exec (fun h => h.first n) (by rw [first_len hn]; exact hn) (by rw [first_len hn]; exact hv) hk
        · cases hk
      · split at hk
        · rename_i y xs fz hb
          have hb := rdH_some hb
          obtain ⟨blk, hb', _, hr⟩ := VRep.to_c (by simp) hx
          rw [hb] at hb'
          cases hb'
          obtain ⟨hn, hv⟩ := hr y xs fz rfl
          unfold sliceRowL at hk
          cases fz
          · exact sliceRow_ok r hu hb exec (fun h => h.first n) (by rw [first_len hn]; exact hn) (by rw [first_len hn]; exact hv) hk
          · cases hk
        · cases hk
    · rename_i e hu hex
      rw [hex] at hx
      split at hk
      · rename_i l h hl hh
        have hc := (cond_some hk).1
        have hk2 := (cond_some hk).2
        clear hk
        simp only [Bool.and_eq_true, decide_eq_true_eq] at hc
        simp only [mkp, Option.some.injEq, Prod.mk.injEq] at hk2
        obtain ⟨rfl, rfl⟩ := hk2
        obtain ⟨hie, rfl, rfl⟩ := hc
        have hxv : a.eval x = .slice none 0 0 := VRep.to_c (by simp) hx
        have hbn := run_bounds (P := P) (w := w) true 0 0 _ _ 0 0 (bndLo_rep r hl) (bndHi_rep r hh) (Int.le_refl _) (Int.le_refl _) (Int.le_refl _)
        cases hi : P.info? e with
        | none => rw [hi] at hie; cases hie
        | some i =>
          refine OpOK.pure r (exec (.slice none 0 0) ?_) (VRep.of_c (c := .nils) rfl)
          simp [Instr.sliceAt, run_underlying hu, Instr.slice, hxv, hbn, sizeOf, typeInfo, hi]
      · cases hk
    · cases hk
theorem evs_rep [Dr] (r : RelM W0 O μ st a w) : ∀ (l : List Operand), All2 (VRep w (Av O μ st.heap) μ st.heap) (evs st l) (l.map a.eval)
  | [] => trivial
  | x :: l => ⟨r.ev x, evs_rep r l⟩
theorem minGo_sound {A : Nat → Prop} {h : Heap} : ∀ (l : List V) (vs : List Value) (x v : V) (xv : Value), minK.go x l = some v → VRep w A μ h x xv → All2 (VRep w A μ h) l vs →
    ∃ cv, (vs.foldlM Builtin.min2 xv).run P w = .ok cv w ∧ VRep w A μ h v cv
  | [], [], x, v, xv, hk, hx, _ => by
    simp only [minK.go, Option.some.injEq] at hk
    subst hk
    exact ⟨xv, by simp, hx⟩
  | y :: l, yv :: vs, x, v, xv, hk, hx, hl => by
    simp only [minK.go] at hk
    split at hk
    · rename_i k p k' q
      rw [vrep_int hx]
      obtain ⟨hy, hl⟩ := hl
      rw [vrep_int hy]
      obtain ⟨cv, hrun, hv⟩ := minGo_sound l vs _ v (.int k (if q < p then q else p)) hk (rep_int _ _) hl
      exact ⟨cv, by simp [List.foldlM_cons, Builtin.min2, hrun], hv⟩
    · cases hk
  | [], _ :: _, _, _, _, _, _, hl => hl.elim
  | _ :: _, [], _, _, _, _, _, hl => hl.elim
theorem maxGo_sound {A : Nat → Prop} {h : Heap} : ∀ (l : List V) (vs : List Value) (x v : V) (xv : Value), maxK.go x l = some v → VRep w A μ h x xv → All2 (VRep w A μ h) l vs →
    ∃ cv, (vs.foldlM Builtin.max2 xv).run P w = .ok cv w ∧ VRep w A μ h v cv
  | [], [], x, v, xv, hk, hx, _ => by
    simp only [maxK.go, Option.some.injEq] at hk
    subst hk
    exact ⟨xv, by simp, hx⟩
  | y :: l, yv :: vs, x, v, xv, hk, hx, hl => by
    simp only [maxK.go] at hk
    split at hk
    · rename_i k p k' q
      rw [vrep_int hx]
      obtain ⟨hy, hl⟩ := hl
      rw [vrep_int hy]
      obtain ⟨cv, hrun, hv⟩ := maxGo_sound l vs _ v (.int k (if q > p then q else p)) hk (rep_int _ _) hl
      exact ⟨cv, by simp [List.foldlM_cons, Builtin.max2] at hrun ⊢; exact hrun, hv⟩
    · cases hk
  | [], _ :: _, _, _, _, _, _, hl => hl.elim
  | _ :: _, [], _, _, _, _, _, hl => hl.elim
theorem min_ok [Dr] (r : RelM W0 O μ st a w) {c : Call} (ho : o.op = .call c) (hcal : c.callee = .builtin .min) (hk : minK (evs st c.args.toList) = some v) : OpOK P W0 O st a w o v [] := by
  have hl := evs_rep r c.args.toList
  have hm : (c.args.map a.eval).toList = c.args.toList.map a.eval := by simp
  cases hargs : c.args.toList with
  | nil => rw [hargs] at hk; simp [minK, evs] at hk
  | cons x l =>
    rw [hargs] at hk hl hm
    obtain ⟨cv, hrun, hv⟩ := minGo_sound (P := P) _ _ _ v _ hk hl.1 hl.2
    refine OpOK.pure r (cv := cv) ?_ hv
    simp [execOp, ho, resolve, hcal, invoke, builtin, Builtin.min_, hargs, hrun]
theorem max_ok [Dr] (r : RelM W0 O μ st a w) {c : Call} (ho : o.op = .call c) (hcal : c.callee = .builtin .max) (hk : maxK (evs st c.args.toList) = some v) : OpOK P W0 O st a w o v [] := by
  have hl := evs_rep r c.args.toList
  cases hargs : c.args.toList with
  | nil => rw [hargs] at hk; simp [maxK, evs] at hk
  | cons x l =>
    rw [hargs] at hk hl
    obtain ⟨cv, hrun, hv⟩ := maxGo_sound (P := P) _ _ _ v _ hk hl.1 hl.2
    refine OpOK.pure r (cv := cv) ?_ hv
    simp [execOp, ho, resolve, hcal, invoke, builtin, Builtin.max_, hargs, hrun]
end
end Go.VM
