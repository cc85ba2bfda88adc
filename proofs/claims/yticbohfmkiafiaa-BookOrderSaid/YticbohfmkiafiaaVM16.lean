import Derived.Test.YticbohfmkiafiaaVM15
namespace Go.VM
open Go.RowKit
noncomputable def tupVal (vs : List Value) : Value := match vs with | [v] => v | vs => .tuple vs.toArray
noncomputable def nthV (l : List Value) : Nat → Value := fun i => l.getD i undef
noncomputable def OutRep (Φ : (l : List CK) → (lTy (lay 0 l)).den → Prop) : (ls : List (List CK)) → SumL ls → Prop
  | [], x => nomatch x
  | [l], x => Φ l x
  | l :: _ :: _, .inl x => Φ l x
  | _ :: l' :: r, .inr x => OutRep Φ (l' :: r) x
structure FnOK [Dr] (P : Program) (G : GTab) (f : Nat) (s : Sig) : Prop where
  enter : ∀ (args : Array Value) (w : World), (callFunc f args).run P w = .ok (.enter f args) w
  calls : ∀ (x : (lTy (lay 0 s.ins)).den) (y : SumL s.outs), s.F x = some y → ∀ (w : World) (A : Nat → Prop) (args : List Value) (hs : List Hd), args.length = s.ins.length → (∀ b, A b → b < w.heap.size) →
    LRepL w (AvO A hs) (nthV args) (lay 0 s.ins) x hs → DistH hs → (∀ b, inHd hs b → b < w.heap.size ∧ ¬ A b) → GRep G w (AvO A hs) →
    Calls P f args.toArray w (fun e w' => OutRep (fun l z => ∃ vs hs', e = .returned (tupVal vs) ∧ vs.length + s.lent.length = l.length ∧ BelowX (inHd hs) w w' ∧ (∀ b, inHd hs' b → w.heap.size ≤ b ∨ inHd hs b) ∧ DistH hs' ∧
      LRepL w' (AvO A hs') (nthV (vs ++ s.lent.map (nthV args))) (lay 0 l) z hs') s.outs y)
structure QOK [Dr] (P : Program) (G : GTab) (f : Nat) (q : QFun) : Prop where
  enter : ∀ (args : Array Value) (w : World), (callFunc f args).run P w = .ok (.enter f args) w
  calls : ∀ {W0 : World} {O : Out} {μ : Mu} {st : St} {a : Act} {w : World}, RelM W0 O μ st a w → st.n.gl = G → ∀ {ep : Nat} {args : List V} {cargs : List Value}, All2 (VRep w (Av O μ st.heap) μ st.heap) args cargs → ∀ {v : V},
    q.run st.heap ep args some = some v → Calls P f cargs.toArray w (fun e w' => ∃ cv, e = .returned cv ∧ BelowD w.heap.size w w' ∧ VRep w' (Av O μ st.heap) μ st.heap v cv)
noncomputable def EnvOK [Dr] (E : Env) : Prop := (∀ f s, s ∈ E.C f → FnOK E.P E.G f s) ∧ ∀ f q, E.Q f = some q → QOK E.P E.G f q
section
variable {w w' : World} {A A' : Nat → Prop} {μ : Mu} {h : Heap}
theorem encK_len (g : Nat → Nat) (k : CK) (self : Option Nat) (i : Nat) (x : k.ty.den) : (encK g self i k x).2.length = k.wd := by
  have := congrArg List.length (encK_keys g k self i x)
  simpa [keys] using this
noncomputable def RootRel (μ : Mu) (h : Heap) (id : Nat) (blk' : Blk) (m : Hd) : Prop :=
  rootOk (h id) blk' = true → m = μ id ∧ ∀ t xs fz, h id = some (.row t xs fz) → ∀ t' ys fz', blk' = .row t' ys fz' → xs.length = ys.length
theorem rootsK_ok (hB : ∀ id blk, h id = some blk → BRep w A μ h (μ id) blk) {g : Nat → Nat} : ∀ {k : CK} {self sb : Option Nat} {i : Nat} {cells : List C} {vs : List Value} {x : k.ty.den} {hs : List Hd}, CsRep w A μ h cells vs → ORep w' A' sb k x vs hs →
    ∀ j id, (j, id) ∈ rootsK i k cells → (∃ blk, h id = some blk ∧ blk.own = true) → ∃ (blk' : Blk) (m : Hd), i ≤ j ∧ (encK g self i k x).2[j - i]? = some (g j, blk') ∧ hs[j - i]? = some m ∧ RootRel μ h id blk' m
  | .row t, self, sb, i, cells, vs, xs, hs, hc, ho, j, id, hj, hown => by
    obtain ⟨m, v, rfl, rfl, hv, hz, hr⟩ := ho
    match cells, hc, hj with
    | [.ref id0], hc, hj =>
      have hj : (j, id) ∈ [(i, id0)] := hj
      simp only [List.mem_singleton, Prod.mk.injEq] at hj
      obtain ⟨rfl, rfl⟩ := hj
      obtain ⟨blk, hb, ho⟩ := hown
      obtain ⟨blk2, hb2, _, hrr⟩ := hc.1
      rw [hb] at hb2
      cases hb2
      refine ⟨.row t xs false, m, Nat.le_refl _, by rw [Nat.sub_self]; rfl, by simp, fun hro => ?_⟩
      rw [hb] at hro
      cases blk with
      | dead => cases hro
      | box _ cs => cases hro
      | row u ys fz =>
        have hv0 := hrr u ys fz rfl
        have key : m = μ id ∧ ys.length = List.length (α := t.den) xs := by
          have hbr := (hB id _ hb).2
          cases hm : μ id with
          | none =>
            rw [hm] at hv0
            obtain ⟨hl0, ad, rfl⟩ := hv0
            cases m with
            | none => exact ⟨rfl, by rw [hl0, hv.1]⟩
            | some p =>
              obtain ⟨b, c⟩ := p
              obtain ⟨_, _, _, _, _, ⟨hc0, _⟩, _⟩ := hr
              have : Value.slice ad 0 0 = .slice (some ⟨b, 0, none⟩) (List.length (α := t.den) xs) c := hv
              simp at this
              omega
          | some p =>
            obtain ⟨b, c⟩ := p
            rw [hm] at hv0 hbr
            have hv0 : v = .slice (some ⟨b, 0, none⟩) ys.length c := hv0
            obtain ⟨⟨_, _, _, _, _, ⟨hc0, _⟩, _⟩, _⟩ := hbr
            cases m with
            | none =>
              obtain ⟨_, ad, he⟩ := hv
              rw [he] at hv0
              simp at hv0
              omega
            | some p' =>
              obtain ⟨b', c'⟩ := p'
              have hv : v = .slice (some ⟨b', 0, none⟩) (List.length (α := t.den) xs) c' := hv
              rw [hv] at hv0
              simp at hv0
              obtain ⟨rfl, h1, rfl⟩ := hv0
              exact ⟨rfl, h1.symm⟩
        refine ⟨key.1, fun t1 xs1 fz1 he t2 ys2 fz2 he2 => ?_⟩
        rw [hb] at he
        cases he
        cases he2
        exact key.2
    | [], _, hj => cases hj
    | _ :: _ :: _, hc, _ => exact hc.2.elim
    | [.undef], _, hj => cases hj
    | [.val _ _], _, hj => cases hj
    | [.nils], _, hj => cases hj
    | [.nilp], _, hj => cases hj
    | [.ptr _ _], _, hj => cases hj
    | [.eptr _ _ _], _, hj => cases hj
    | [.fptr _ _ _], _, hj => cases hj
    | [.fn _], _, hj => cases hj
    | [.sub _ _], _, hj => cases hj
    | [.win _ _ _ _], _, hj => cases hj
    | [.slf _], _, hj => cases hj
    | [.clo _ _], _, hj => cases hj
    | [.anyb], _, hj => cases hj
  | .box e k, self, sb, i, cells, vs, x, hs, hc, ho, j, id, hj, hown => by
    obtain ⟨b, cur, hs', rfl, rfl, hg, hr⟩ := ho
    match cells, hc, hj with
    | [.ptr id0 off], hc, hj =>
      have hj : (j, id) ∈ [(i, id0)] := hj
      simp only [List.mem_singleton, Prod.mk.injEq] at hj
      obtain ⟨rfl, rfl⟩ := hj
      obtain ⟨blk, hb, ho⟩ := hown
      obtain ⟨blk2, b2, c2, hb2, hm, hv⟩ := hc.1
      rw [hb] at hb2
      cases hb2
      simp at hv
      obtain ⟨rfl, _⟩ := hv
      refine ⟨.box e (encK g (some (g j)) (j + 1) k x).1, some (b, 0), Nat.le_refl _, by rw [Nat.sub_self]; rfl, by simp, fun hro => ⟨?_, fun t xs fz he t' ys fz' he' => by cases he'⟩⟩
      have hbr := hB id _ hb
      rw [hm] at hbr
      rw [hb] at hro
      cases blk with
      | dead => cases hro
      | box _ cs => obtain ⟨b3, c3, _, he, _, _, rfl⟩ := hbr; cases he; exact hm.symm
      | row u ys fz => cases hro
    | [], _, hj => cases hj
    | _ :: _ :: _, hc, _ => exact hc.2.elim
    | [.undef], _, hj => cases hj
    | [.val _ _], _, hj => cases hj
    | [.nils], _, hj => cases hj
    | [.nilp], _, hj => cases hj
    | [.ref _], _, hj => cases hj
    | [.eptr _ _ _], _, hj => cases hj
    | [.fptr _ _ _], _, hj => cases hj
    | [.fn _], _, hj => cases hj
    | [.sub _ _], _, hj => cases hj
    | [.win _ _ _ _], _, hj => cases hj
    | [.slf _], _, hj => cases hj
    | [.clo _ _], _, hj => cases hj
    | [.anyb], _, hj => cases hj
  | .clo f k, self, sb, i, cells, vs, x, hs, hc, ho, j, id, hj, hown => by
    obtain ⟨hbx, us, rfl, hr⟩ := ho
    match cells, hc, hj with
    | [.clo f' ids], hc, hj =>
      obtain ⟨us', he, hall⟩ := hc.1
      simp at he
      obtain ⟨_, rfl⟩ := he
      exact rootsK_ok hB (self := none) (ptrs_rep.2 hall) hr j id hj hown
    | [], _, hj => cases hj
    | _ :: _ :: _, hc, _ => exact hc.2.elim
    | [.undef], _, hj => cases hj
    | [.val _ _], _, hj => cases hj
    | [.nils], _, hj => cases hj
    | [.nilp], _, hj => cases hj
    | [.ptr _ _], _, hj => cases hj
    | [.ref _], _, hj => cases hj
    | [.eptr _ _ _], _, hj => cases hj
    | [.fptr _ _ _], _, hj => cases hj
    | [.fn _], _, hj => cases hj
    | [.sub _ _], _, hj => cases hj
    | [.win _ _ _ _], _, hj => cases hj
    | [.slf _], _, hj => cases hj
    | [.anyb], _, hj => cases hj
  | .cons k ks, self, sb, i, cells, vs, x, hs, hc, ho, j, id, hj, hown => by
    obtain ⟨c0, c1, h0, h1, rfl, rfl, r0, r1⟩ := ho
    have hj : (j, id) ∈ app (rootsK i k (first k.sz cells)) (rootsK (i + k.wd) ks (cut k.sz cells)) := hj
    rw [app_eq, List.mem_append, first_eq, cut_eq] at hj
    have hl0 := (ORep.len r0).1
    have t1 := All2.take k.sz hc
    have t2 := All2.drop k.sz hc
    rw [show (c0 ++ c1).take k.sz = c0 by rw [← hl0]; simp] at t1
    rw [show (c0 ++ c1).drop k.sz = c1 by rw [← hl0]; simp] at t2
    rcases hj with hj | hj
    · obtain ⟨blk', m, h1', h2', h3', h4'⟩ := rootsK_ok hB (g := g) (self := self) t1 r0 j id hj hown
      refine ⟨blk', m, h1', ?_, ?_, h4'⟩
      · show (app (encK g self i k x.1).2 (encK g self (i + k.wd) ks x.2).2)[j - i]? = _
        rw [app_eq, List.getElem?_append_left (List.getElem?_eq_some_iff.1 h2').1]
        exact h2'
      · rw [List.getElem?_append_left (List.getElem?_eq_some_iff.1 h3').1]
        exact h3'
    · obtain ⟨blk', m, h1', h2', h3', h4'⟩ := rootsK_ok hB (g := g) (self := self) t2 r1 j id hj hown
      refine ⟨blk', m, by omega, ?_, ?_, h4'⟩
      · show (app (encK g self i k x.1).2 (encK g self (i + k.wd) ks x.2).2)[j - i]? = _
        rw [app_eq, List.getElem?_append_right (by rw [encK_len]; omega), encK_len]
        rw [show j - i - k.wd = j - (i + k.wd) by omega]
        exact h2'
      · rw [List.getElem?_append_right (by rw [(ORep.len r0).2]; omega), (ORep.len r0).2]
        rw [show j - i - k.wd = j - (i + k.wd) by omega]
        exact h3'
  | .val t, _, _, _, _, _, _, _, _, _, _, _, hj, _ => by cases hj
  | .skip, _, _, _, _, _, _, _, _, _, _, _, hj, _ => by cases hj
  | .nilp, _, _, _, _, _, _, _, _, _, _, _, hj, _ => by cases hj
  | .slf, _, _, _, _, _, _, _, _, _, _, _, hj, _ => by cases hj
  | .fn f, _, _, _, _, _, _, _, _, _, _, _, hj, _ => by cases hj
  | .view _, _, _, _, _, _, _, _, _, _, _, _, hj, _ => by cases hj
  | .nil, _, _, _, _, _, _, _, _, _, _, _, hj, _ => by cases hj
theorem encLs_len (g : Nat → Nat) (l : Layout) (tmp : Nat → V) (i : Nat) (x : (lTy l).den) : (encLs g tmp i l x).2.length = lWd l := by
  have := congrArg List.length (encLs_keys g l tmp i x)
  simpa [keys] using this
theorem lWd_lay : ∀ (l : List CK) (n : Nat), lWd (lay n l) = wds l
  | [], _ => rfl
  | k :: l, n => by simp only [lay, lWd, wds, LK.wd, lWd_lay l (n + 1)]
theorem enc_right (g : Nat → Nat) (tmp : Nat → V) (n i : Nat) (k : CK) (ks : List CK) (x1 : k.ty.den) (x2 : (lTy (lay (n + 1) ks)).den) (j : Nat) (hj : i + k.wd ≤ j) :
    (encLs g tmp i (lay n (k :: ks)) (x1, x2)).2[j - i]? = (encLs g (updT tmp n (encL g tmp i (.obj k) x1).1) (i + k.wd) (lay (n + 1) ks) x2).2[j - (i + k.wd)]? := by
  show (app (encK g none i k x1).2 (encLs g (updT tmp n (encL g tmp i (.obj k) x1).1) (i + k.wd) (lay (n + 1) ks) x2).2)[j - i]? = _
  rw [app_eq, List.getElem?_append_right (by rw [encK_len]; omega), encK_len, show j - i - k.wd = j - (i + k.wd) by omega]
theorem enc_left (g : Nat → Nat) (tmp : Nat → V) (n i : Nat) (k : CK) (ks : List CK) (x1 : k.ty.den) (x2 : (lTy (lay (n + 1) ks)).den) (j : Nat) (hj : j < k.wd) :
    (encLs g tmp i (lay n (k :: ks)) (x1, x2)).2[j]? = (encK g none i k x1).2[j]? := by
  show (app (encK g none i k x1).2 (encLs g (updT tmp n (encL g tmp i (.obj k) x1).1) (i + k.wd) (lay (n + 1) ks) x2).2)[j]? = _
  rw [app_eq, List.getElem?_append_left (by rw [encK_len]; exact hj)]
theorem rootsLs_ok (hB : ∀ id blk, h id = some blk → BRep w A μ h (μ id) blk) {g : Nat → Nat} {val : Nat → Value} : ∀ (l : List CK) (n m i : Nat) (tmp : Nat → V) (x : (lTy (lay n l)).den) (hs : List Hd) (vs : List V), LRepL w' A' val (lay n l) x hs →
    (∀ q v, vs[q]? = some v → VRep w A μ h v (val (n + m + q))) →
    ∀ j id, (j, id) ∈ rootsLs (i + wds (first m l)) (cut m l) vs → (∃ blk, h id = some blk ∧ blk.own = true) →
      ∃ (blk' : Blk) (mm : Hd), i ≤ j ∧ (encLs g tmp i (lay n l) x).2[j - i]? = some (g j, blk') ∧ hs[j - i]? = some mm ∧ RootRel μ h id blk' mm
  | [], n, m, i, tmp, x, hs, vs, _, _, j, id, hj, _ => by
    have : cut m ([] : List CK) = [] := by cases m <;> rfl
    rw [this] at hj
    cases hj
  | k :: ks, n, m, i, tmp, x, hs, vs, hl, hv, j, id, hj, hown => by
    obtain ⟨cs, h0, h1, rfl, hsh, ho, hr⟩ := hl
    have right : ∀ (m' : Nat) (vs' : List V), (∀ q v, vs'[q]? = some v → VRep w A μ h v (val (n + 1 + m' + q))) → (j, id) ∈ rootsLs (i + k.wd + wds (first m' ks)) (cut m' ks) vs' →
        ∃ (blk' : Blk) (mm : Hd), i ≤ j ∧ (encLs g tmp i (lay n (k :: ks)) x).2[j - i]? = some (g j, blk') ∧ (h0 ++ h1)[j - i]? = some mm ∧ RootRel μ h id blk' mm := by
      intro m' vs' hv' hj'
      obtain ⟨blk', mm, a1, a2, a3, a4⟩ := rootsLs_ok hB (g := g) ks (n + 1) m' (i + k.wd) (updT tmp n (encL g tmp i (.obj k) x.1).1) x.2 h1 vs' hr hv' j id hj' hown
      refine ⟨blk', mm, by omega, ?_, ?_, a4⟩
      · exact (enc_right g tmp n i k ks x.1 x.2 j a1).trans a2
      · rw [List.getElem?_append_right (by rw [ho.len.2]; omega), ho.len.2, show j - i - k.wd = j - (i + k.wd) by omega]
        exact a3
    cases m with
    | succ m =>
      refine right m vs (fun q v hq => ?_) ?_
      · rw [show n + 1 + m + q = n + (m + 1) + q by omega]
        exact hv q v hq
      · have hj : (j, id) ∈ rootsLs (i + (k.wd + wds (first m ks))) (cut m ks) vs := hj
        rw [show i + k.wd + wds (first m ks) = i + (k.wd + wds (first m ks)) by omega]
        exact hj
    | zero =>
      cases vs with
      | nil => cases hj
      | cons v vs =>
        have hj : (j, id) ∈ app (match v.cellsK k with | some cs => rootsK (i + 0) k cs | none => []) (rootsLs (i + 0 + k.wd) ks vs) := hj
        rw [app_eq, List.mem_append, Nat.add_zero] at hj
        rcases hj with hj | hj
        · split at hj
          · rename_i cells hcells
            have hvv := hv 0 v (by simp)
            obtain ⟨us, hc, hsh2⟩ := cellsK_rep hvv hcells
            have hus : us = cs := by
              have hsh2 : shapeK k us (val n) := hsh2
              unfold shapeK at hsh hsh2
              split at hsh
              · rename_i hk
                rw [if_pos hk] at hsh2
                rw [hsh] at hsh2
                simpa using hsh2.symm
              · rename_i hk
                rw [if_neg hk] at hsh2
                rw [hsh, hsh2]
            subst hus
            obtain ⟨blk', mm, a1, a2, a3, a4⟩ := rootsK_ok hB (g := g) (self := none) hc ho j id hj hown
            refine ⟨blk', mm, a1, ?_, ?_, a4⟩
            · exact (enc_left g tmp n i k ks x.1 x.2 (j - i) (by rw [← encK_len g k none i x.1]; exact (List.getElem?_eq_some_iff.1 a2).1)).trans a2
            · rw [List.getElem?_append_left (List.getElem?_eq_some_iff.1 a3).1]
              exact a3
          · cases hj
        · refine right 0 vs (fun q u hq => ?_) ?_
          · have := hv (q + 1) u (by simpa using hq)
            rw [show n + 1 + 0 + q = n + 0 + (q + 1) by omega]
            exact this
          · show (j, id) ∈ rootsLs (i + k.wd + 0) ks vs
            rw [Nat.add_zero]
            exact hj
end
section
variable {W0 : World} {O : Out} {μ : Mu} {st : St} {a : Act} {w w' : World}
theorem kills_get : ∀ (l : List Nat) (h : Heap) (id : Nat), updsH h (kills l) id = if id ∈ l then some .dead else h id
  | [], h, id => by simp [kills, updsH]
  | x :: l, h, id => by
    simp only [kills, updsH, List.mem_cons]
    rw [kills_get l _ id]
    by_cases hl : id ∈ l
    · simp [hl]
    · by_cases hx : id = x
      · subst hx; simp [hl, updH_same]
      · simp [hl, hx, updH_ne _ _ hx]
theorem RelM.import [Dr] (r : RelM W0 O μ st a w) {is : List (Option Nat)} (hown : ∀ id, id ∈ somes is → ∃ blk, st.heap id = some blk ∧ blk.own = true) (hw : BelowX (inHd (isHd μ is)) w w')
    {l : Layout} {y : (lTy l).den} {hs' : List Hd} {A2 : Nat → Prop} {val : Nat → Value} {g : Nat → Nat} (hl : LRepL w' A2 val l y hs') (hd : DistH hs') (hfr : ∀ b, inHd hs' b → w.heap.size ≤ b ∨ inHd (isHd μ is) b)
    (hA : ∀ b, (O b ∨ (∃ id blk c, st.heap id = some blk ∧ blk.own = true ∧ id ∉ somes is ∧ μ id = some (b, c)) ∨ inHd hs' b) → A2 b)
    (hnd : (keys (encLs g noTmp 0 l y).2).Nodup)
    (hfree : ∀ (j id : Nat) (blk' : Blk), (encLs g noTmp 0 l y).2[j]? = some (id, blk') → st.heap id = none ∨ (id ∈ somes is ∧ ∃ blk, st.heap id = some blk ∧ compat blk blk' ∧ hs'[j]? = some (μ id))) :
    ∃ μ2, RelM W0 O μ2 { st with heap := updsH (updsH st.heap (kills (somes is))) (encLs g noTmp 0 l y).2 } a w' ∧
      ∀ t, VRep w' (Av O μ2 (updsH (updsH st.heap (kills (somes is))) (encLs g noTmp 0 l y).2)) μ2 (updsH (updsH st.heap (kills (somes is))) (encLs g noTmp 0 l y).2) ((encLs g noTmp 0 l y).1 t) (val t) := by
  classical
  generalize hu : (encLs g noTmp 0 l y).2 = u at *
  have hlen : u.length = hs'.length := by rw [← hu, encLs_len, hl.len]
  have hkeys : keys u = (List.range' 0 (lWd l)).map g := by rw [← hu]; exact encLs_keys ..
  let h2 : Heap := updsH (updsH st.heap (kills (somes is))) u
  have inj_key : ∀ (j j' id : Nat), (keys u)[j]? = some id → (keys u)[j']? = some id → j = j' := by
    intro j j' id h1 h1'
    exact (List.getElem?_inj (List.getElem?_eq_some_iff.1 h1).1 hnd).1 (by rw [h1, h1'])
  let μ2 : Mu := fun id => if h : ∃ j : Nat, (keys u)[j]? = some id then (hs'[Classical.choose h]?).getD none else μ id
  have mu_key : ∀ (j id : Nat), (keys u)[j]? = some id → μ2 id = (hs'[j]?).getD none := by
    intro j id hj
    have hex : ∃ j : Nat, (keys u)[j]? = some id := ⟨j, hj⟩
    have : Classical.choose hex = j := inj_key _ _ id (Classical.choose_spec hex) hj
    show (if h : ∃ j : Nat, (keys u)[j]? = some id then (hs'[Classical.choose h]?).getD none else μ id) = _
    rw [dif_pos hex, this]
  have mu_old : ∀ id, id ∉ keys u → μ2 id = μ id := by
    intro id hid
    show (if h : ∃ j : Nat, (keys u)[j]? = some id then (hs'[Classical.choose h]?).getD none else μ id) = _
    rw [dif_neg]
    rintro ⟨j, hj⟩
    exact hid (List.mem_of_getElem? hj)
  have key_of : ∀ (j : Nat) (p : Nat × Blk), u[j]? = some p → (keys u)[j]? = some p.1 := by
    intro j p hj
    simp [keys, hj]
  have of_key : ∀ id, id ∈ keys u → ∃ (j : Nat) (blk' : Blk), u[j]? = some (id, blk') ∧ h2 id = some blk' ∧ μ2 id = (hs'[j]?).getD none ∧ (id, blk') ∈ u := by
    intro id hid
    obtain ⟨j, hj⟩ := List.getElem?_of_mem hid
    have hj' := hj
    simp only [keys, List.getElem?_map, Option.map_eq_some_iff] at hj'
    obtain ⟨⟨id', blk'⟩, h1, h2'⟩ := hj'
    simp only at h2'
    subst h2'
    exact ⟨j, blk', h1, updsH_mem hnd (List.mem_of_getElem? h1), mu_key j _ hj, List.mem_of_getElem? h1⟩
  have h2_old : ∀ id, id ∉ keys u → h2 id = if id ∈ somes is then some .dead else st.heap id := by
    intro id hid
    show updsH (updsH st.heap (kills (somes is))) u id = _
    rw [updsH_out hid, kills_get]
  have lt : ∀ id blk b c, st.heap id = some blk → blk.own = true → μ id = some (b, c) → b < w.heap.size := by
    intro id blk b c h ho hm
    have := r.blks id blk h
    rw [hm] at this
    exact this.lt (own_ne_dead ho)
  -- an own thing of the new state
  have own2 : ∀ id blk b c, h2 id = some blk → blk.own = true → μ2 id = some (b, c) →
      (∃ j : Nat, (keys u)[j]? = some id ∧ hs'[j]? = some (some (b, c))) ∨ (id ∉ keys u ∧ id ∉ somes is ∧ st.heap id = some blk ∧ μ id = some (b, c)) := by
    intro id blk b c hb ho hm
    by_cases hk : id ∈ keys u
    · left
      obtain ⟨j, blk', h1, _, h3, _⟩ := of_key id hk
      rw [h3] at hm
      refine ⟨j, key_of j _ h1, ?_⟩
      cases hq : hs'[j]? with
      | none => rw [hq] at hm; cases hm
      | some m => rw [hq] at hm; cases hm; rfl
    · right
      rw [h2_old id hk] at hb
      split at hb
      · cases hb; simp [Blk.own] at ho
      · rename_i hni
        exact ⟨hk, hni, hb, by rw [← mu_old id hk]; exact hm⟩
  have sub : ∀ b, Av O μ2 h2 b → O b ∨ (∃ id blk c, st.heap id = some blk ∧ blk.own = true ∧ id ∉ somes is ∧ μ id = some (b, c)) ∨ inHd hs' b := by
    rintro b (hb | ⟨id, blk, c, h1, h2', h3⟩)
    · exact .inl hb
    · rcases own2 id blk b c h1 h2' h3 with ⟨j, _, hj⟩ | ⟨_, hni, hb, hm⟩
      · exact .inr (.inr ⟨c, List.mem_of_getElem? hj⟩)
      · exact .inr (.inl ⟨id, blk, c, hb, h2', hni, hm⟩)
  have hAv : ∀ b, Av O μ2 h2 b → A2 b := fun b hb => hA b (sub b hb)
  have cross : ∀ (b c id : Nat) (blk : Blk) (c' : Nat), some (b, c) ∈ hs' → id ∉ somes is → st.heap id = some blk → blk.own = true → μ id = some (b, c') → False := by
    intro b c id blk c' h1 h2' h3 h4 h5
    rcases hfr b ⟨c, h1⟩ with h6 | h6
    · have := lt id blk b c' h3 h4 h5
      omega
    · obtain ⟨id0, blk0, c0, k0, k1, k2, k3⟩ := own_heads r hown h6
      have := r.inj id id0 blk blk0 b c' c0 h3 k1 h4 k2 h5 k3
      subst this
      exact h2' k0
  have lent_av : ∀ b, inHd (isHd μ is) b → Av O μ st.heap b := by
    intro b hb
    obtain ⟨id, blk, c, _, h1, h2', h3⟩ := own_heads r hown hb
    exact .inr ⟨id, blk, c, h1, h2', h3⟩
  have s : Step w w' (Av O μ st.heap) (Av O μ2 h2) μ μ2 st.heap h2 := by
    refine ⟨fun b hb hlt => hw.block b hlt (fun hi => hb (lent_av b hi)), fun b hb => ?_, fun id blk hb => ?_⟩
    · rcases sub b hb with h1 | ⟨id, blk, c, h1, h2', _, h3⟩ | h1
      · exact .inl (.inl h1)
      · exact .inl (.inr ⟨id, blk, c, h1, h2', h3⟩)
      · exact (hfr b h1).elim .inr (fun h => .inl (lent_av b h))
    · by_cases hk : id ∈ keys u
      · obtain ⟨j, blk', h1, h2', h3, _⟩ := of_key id hk
        rcases hfree j id blk' h1 with hn | ⟨_, blk0, hb0, hc, hm⟩
        · rw [hn] at hb; cases hb
        · rw [hb] at hb0
          cases hb0
          exact ⟨blk', h2', hc, by rw [h3, hm]; rfl⟩
      · rw [h2_old id hk, mu_old id hk]
        split
        · exact ⟨.dead, rfl, trivial, rfl⟩
        · exact ⟨blk, hb, by cases blk <;> simp [compat], rfl⟩
  obtain ⟨e1, e2⟩ := LRepL.enc (μ := μ2) (h := h2) (g := g) (tmp := noTmp) (i := 0) hAv hl (fun p hp => by rw [hu] at hp; exact updsH_mem hnd hp)
    (fun j m hj => by
      have hjl : j < lWd l := by rw [← hl.len]; exact (List.getElem?_eq_some_iff.1 hj).1
      rw [Nat.zero_add, mu_key j (g j) (by rw [hkeys]; simp [hjl]), hj]
      rfl) (fun t => ⟨trivial, trivial⟩)
  rw [hu] at e2
  refine ⟨μ2, r.go s (fun id blk hb => ?_) (fun id id' blk blk' b c c' hb hb' ho ho' hm hm' => ?_) (fun id blk b c hb ho hm => ?_) (r.below.trans hw (fun b hlt hb => ?_)), e1⟩
  · by_cases hk : id ∈ keys u
    · obtain ⟨j, blk', h1, h2', h3, h4⟩ := of_key id hk
      have hb : h2 id = some blk := hb
      rw [h2'] at hb
      cases hb
      exact (e2 _ h4).2
    · have hb : h2 id = some blk := hb
      rw [h2_old id hk] at hb
      rw [mu_old id hk]
      split at hb
      · cases hb; trivial
      · rename_i hni
        have hbr := r.blks id blk hb
        by_cases hdd : blk = .dead
        · subst hdd; trivial
        refine s.brep (fun b c hm hlt => hw.block b hlt (fun hin => ?_)) hbr
        obtain ⟨id0, blk0, c0, k0, k1, k2, k3⟩ := own_heads r hown hin
        have clash : blk.own = true → False := fun ho => by
          have := r.inj id id0 blk blk0 b c c0 hb k1 ho k2 hm k3
          subst this
          exact hni k0
        cases blk with
        | dead => exact hdd rfl
        | box _ cs => exact clash rfl
        | row t xs fz =>
          cases fz with
          | false => exact clash rfl
          | true =>
            rw [hm] at hbr
            exact hbr.2.2 rfl (lent_av b hin)
  · rcases own2 id blk b c hb ho hm with ⟨j, hj, hj2⟩ | ⟨k1, k2, k3, k4⟩ <;> rcases own2 id' blk' b c' hb' ho' hm' with ⟨j', hj', hj2'⟩ | ⟨k1', k2', k3', k4'⟩
    · have := hd j j' b c c' hj2 hj2'
      subst this
      rw [hj] at hj'
      cases hj'
      rfl
    · exact (cross b c id' blk' c' (List.mem_of_getElem? hj2) k2' k3' ho' k4').elim
    · exact (cross b c' id blk c (List.mem_of_getElem? hj2') k2 k3 ho k4).elim
    · exact r.inj id id' blk blk' b c c' k3 k3' ho ho' k4 k4'
  · rcases own2 id blk b c hb ho hm with ⟨j, _, hj⟩ | ⟨_, _, k3, k4⟩
    · rcases hfr b ⟨c, List.mem_of_getElem? hj⟩ with h1 | h1
      · exact .inl (Nat.le_trans r.le h1)
      · obtain ⟨id0, blk0, c0, _, q1, q2, q3⟩ := own_heads r hown h1
        exact r.fresh id0 blk0 b c0 q1 q2 q3
    · exact r.fresh id blk b c k3 ho k4
  · obtain ⟨id0, blk0, c0, _, q1, q2, q3⟩ := own_heads r hown hb
    exact (r.fresh id0 blk0 b c0 q1 q2 q3).elim (fun h => by omega) id
theorem resV_rep {A : Nat → Prop} {h : Heap} {x : V} {v : Value} (hx : VRep w A μ h x v) : SRep w A μ h (resV x) v := by
  cases x with
  | c c =>
    by_cases hu : c = .undef
    · subst hu; trivial
    · exact SRep.of_c (VRep.to_c hu hx)
  | agg cs => exact hx
  | tup l => trivial
theorem firstVs_rep {A : Nat → Prop} {h : Heap} {f : Nat → V} : ∀ (vs : List Value) (i : Nat), (∀ j v, vs[j]? = some v → VRep w A μ h (f (i + j)) v) → All2 (SRep w A μ h) (firstVs f i vs.length) vs
  | [], _, _ => trivial
  | v :: vs, i, hv => ⟨resV_rep (hv 0 v (by simp)), firstVs_rep vs (i + 1) (fun j u hj => by rw [show i + 1 + j = i + (j + 1) by omega]; exact hv (j + 1) u (by simpa using hj))⟩
theorem tupV_rep {A2 : Nat → Prop} {μ' : Mu} {h' : Heap} {l : List (C ⊕ List C)} {vs : List Value} (h : All2 (SRep w' A2 μ' h') l vs) : VRep w' A2 μ' h' (tupV l) (tupVal vs) := by
  match l, vs, h with
  | [], [], _ => exact ⟨_, rfl, trivial⟩
  | [.inl c], [v], h =>
    by_cases hu : c = .undef
    · subst hu; trivial
    · exact VRep.of_c (SRep.to_c hu h.1)
  | [.inr cs], [v], h => exact h.1
  | x :: y :: l, v :: u :: vs, h =>
    have e : tupV (x :: y :: l) = .tup (x :: y :: l) := by cases x <;> rfl
    rw [e]
    exact ⟨_, rfl, by simpa using h⟩
  | _ :: _ :: _, [_], h => exact h.2.elim
  | [_], _ :: _ :: _, h => exact h.2.elim
  | [], _ :: _, h => exact h.elim
  | _ :: _, [], h => exact h.elim
theorem outK_some {R : Type} {K : (l : List CK) → (lTy (lay 0 l)).den → Option R} {Φ : (l : List CK) → (lTy (lay 0 l)).den → Prop} {res : R} : ∀ {ls : List (List CK)} {y : SumL ls}, outK K ls y = some res → OutRep Φ ls y → ∃ l z, K l z = some res ∧ Φ l z
  | [], y, _, _ => nomatch y
  | [l], y, hk, ho => ⟨l, y, hk, ho⟩
  | l :: _ :: _, .inl y, hk, ho => ⟨l, y, hk, ho⟩
  | _ :: l' :: r, .inr y, hk, ho => outK_some (ls := l' :: r) hk ho
theorem freeUpd_spec {h : Heap} {roots : List (Nat × Nat)} : ∀ {u : Upd} {n : Nat}, freeUpd h roots n u = true → ∀ j p, u[j]? = some p → (∃ x, assoc (n + j) roots = some x ∧ rootOk (h p.1) p.2 = true) ∨ (assoc (n + j) roots = none ∧ h p.1 = none)
  | [], _, _, j, p, hp => by simp at hp
  | (i, b) :: u, n, hf, j, p, hp => by
    simp only [freeUpd, Bool.and_eq_true] at hf
    cases j with
    | zero =>
      simp at hp
      subst hp
      have h1 := hf.1
      rw [Nat.add_zero]
      cases hm : assoc n roots with
      | none =>
        rw [hm] at h1
        right
        refine ⟨rfl, ?_⟩
        show h i = none
        cases hi : h i with
        | none => rfl
        | some b => rw [hi] at h1; cases h1
      | some x =>
        rw [hm] at h1
        exact .inl ⟨x, rfl, h1⟩
    | succ j =>
      have := freeUpd_spec hf.2 j p (by simpa using hp)
      rw [show n + (j + 1) = n + 1 + j by omega]
      exact this
theorem assoc_mem {j x : Nat} : ∀ {l : List (Nat × Nat)}, assoc j l = some x → (j, x) ∈ l
  | [], h => by cases h
  | (i, y) :: l, h => by
    simp only [assoc] at h
    cases hb : Nat.beq j i
    · rw [hb] at h
      exact List.mem_cons_of_mem _ (assoc_mem h)
    · rw [hb] at h
      cases h
      have := Nat.eq_of_beq_eq_true hb
      subst this
      simp
theorem keysU_eq : ∀ u : Upd, keysU u = keys u
  | [] => rfl
  | (i, b) :: u => by simp only [keysU, keys, List.map_cons, keysU_eq u]
theorem allMem_spec : ∀ {l m : List Nat}, allMem l m = true → ∀ x ∈ l, x ∈ m
  | [], _, _, x, hx => by cases hx
  | y :: l, m, h, x, hx => by
    simp only [allMem, Bool.and_eq_true] at h
    rcases List.mem_cons.1 hx with rfl | hx
    · exact (memN_iff _ _).1 h.1
    · exact allMem_spec h.2 x hx
theorem mem_sndN' {j id : Nat} : ∀ {l : List (Nat × Nat)}, (j, id) ∈ l → id ∈ sndN l
  | (j', x) :: l, h => by
    simp only [sndN, List.mem_cons]
    rcases List.mem_cons.1 h with h | h
    · cases h; exact .inl rfl
    · exact .inr (mem_sndN' h)
theorem pick_get {α : Type} (d : α) (l : List α) : ∀ (ps : List Nat) (q : Nat) (v : α), (pick d l ps)[q]? = some v → ∃ p, ps[q]? = some p ∧ v = l.getD p d
  | [], q, v, h => by simp [pick] at h
  | p :: ps, 0, v, h => by
    simp only [pick, List.getElem?_cons_zero, Option.some.injEq] at h
    refine ⟨p, by simp, ?_⟩
    rw [← h, nth_eq, List.getD_eq_getElem?_getD]
    cases l[p]? <;> rfl
  | p :: ps, q + 1, v, h => by
    simp only [pick, List.getElem?_cons_succ] at h
    obtain ⟨p', h1, h2⟩ := pick_get d l ps q v h
    exact ⟨p', by simpa using h1, h2⟩
theorem listV_rep {A : Nat → Prop} {h : Heap} {args : List V} {cargs : List Value} (hargs : All2 (VRep w A μ h) args cargs) (t : Nat) : VRep w A μ h (listV args t) (nthV cargs t) := by
  unfold listV nthV
  rw [nth_eq]
  cases hq : args[t]? with
  | none => trivial
  | some v =>
    obtain ⟨c, hc, hv⟩ := All2.get hargs hq
    rw [List.getD_eq_getElem?_getD, hc]
    exact hv
theorem call_ok [Dr] {E : Env} (hE : EnvOK E) (hG : st.n.gl = E.G) (r : RelM W0 O μ st a w) {o : Oper} {v : V} {u : Upd} {args : List V} {cargs : List Value} (hargs : All2 (VRep w (Av O μ st.heap) μ st.heap) args cargs) {fid id : Nat} {lim : Option Nat}
    (exec : (∀ (args : Array Value) (w : World), (callFunc fid args).run E.P w = .ok (.enter fid args) w) → (execOp a.eval o).run E.P w = .ok (.enter fid cargs.toArray) w)
    (hk : opCall E id st.heap lim fid args mkp = some (v, u)) : OpOK E.P W0 O st a w o v u := by
  -- the signature that fits
  have find : ∀ ss : List Sig, callSigs id st.heap lim args mkp ss = some (v, u) → ∃ s ∈ ss, ∃ x, dec (lay 0 s.ins) (argSt st.heap args) = some x ∧ callSig id st.heap lim args mkp s x = some (v, u) := by
    intro ss
    induction ss with
    | nil => intro h; cases h
    | cons s ss ih =>
      intro h
      simp only [callSigs] at h
      split at h
      · rename_i x hx
        exact ⟨s, by simp, x, hx, h⟩
      · obtain ⟨s', h1, h2⟩ := ih h
        exact ⟨s', by simp [h1], h2⟩
  obtain ⟨s, hs, x, hx, hk⟩ := find _ (cond_some hk).2
  have hfn := hE.1 fid s hs
  unfold callSig at hk
  have hc := (cond_some hk).1
  have hk := (cond_some hk).2
  rw [Bool.and_eq_true] at hc
  have hlen : args.length = s.ins.length := by
    have := Nat.eq_of_beq_eq_true hc.1
    rwa [len_eq, len_eq] at this
  generalize hisd : ownsLs (argSt st.heap args) (lay 0 s.ins) = is at *
  generalize hfzd : takesLs (argSt st.heap args) (lay 0 s.ins) = fz at *
  obtain ⟨hnd, _, hd2⟩ := dec_parts hx
  rw [hisd] at hnd hd2
  obtain ⟨hown, htk⟩ := decLs_own hd2
  rw [hisd] at hown
  rw [hfzd] at htk
  have hown : ∀ id, id ∈ somes is → ∃ blk, st.heap id = some blk ∧ blk.own = true := hown
  have htk : ∀ id, id ∈ fz → id ∉ somes is ∧ ∃ u xs f, st.heap id = some (.row u xs f) := htk
  cases hy : s.F x with
  | none => rw [hy] at hk; cases hk
  | some y =>
  rw [hy] at hk
  simp only [Option.bind_some] at hk
  -- the state in which what is taken in is frozen
  obtain ⟨s1, r1, hnot, hav⟩ := r.fz fz
  have hdist := heads_dist r hown hnd
  have lent_own : ∀ b, inHd (isHd μ is) b → ∃ id blk c, id ∈ somes is ∧ st.heap id = some blk ∧ blk.own = true ∧ μ id = some (b, c) := fun b hb => own_heads r hown hb
  let A : Nat → Prop := fun b => Av O μ (updsH st.heap (freezes st.heap fz)) b ∧ ¬ inHd (isHd μ is) b
  have hl : LRepL w (AvO A (isHd μ is)) (nthV cargs) (lay 0 s.ins) x (isHd μ is) := by
    have := decLs_rep (st := argSt st.heap args) (w := w) (A := Av O μ st.heap) (μ := μ) (val := nthV cargs) r.blks (A' := AvO A (isHd μ is)) (fun b hb => ?_) (listV_rep hargs) hd2 (fun id hid b c hm hav2 => ?_)
    · rw [hisd] at this; exact this
    · rcases hb with hb | hb
      · exact hav b hb.1
      · obtain ⟨id', blk, c, _, h1, h2, h3⟩ := lent_own b hb
        exact .inr ⟨id', blk, c, h1, h2, h3⟩
    · rw [hfzd] at hid
      obtain ⟨hni, uu, xs, f, hb⟩ := htk id hid
      rcases hav2 with h1 | h1
      · exact hnot id ((memN_iff _ _).2 hid) b c hm ⟨uu, xs, f, hb⟩ h1.1
      · exact takes_away r hown hb hni b c hm (.inr h1)
  have hAlt : ∀ b, A b → b < w.heap.size := by
    rintro b ⟨hb, _⟩
    rcases hav b hb with h | ⟨id', blk, c, hi, ho, hm⟩
    · exact Nat.lt_of_lt_of_le (r.outer b h).1 r.le
    · have := r.blks id' blk hi
      rw [hm] at this
      exact this.lt (own_ne_dead ho)
  have hdis : ∀ b, inHd (isHd μ is) b → b < w.heap.size ∧ ¬ A b := by
    intro b hb
    refine ⟨?_, fun h => h.2 hb⟩
    obtain ⟨id', blk, c, _, hi, ho, hm⟩ := lent_own b hb
    have := r.blks id' blk hi
    rw [hm] at this
    exact this.lt (own_ne_dead ho)
  have hcl : cargs.length = s.ins.length := by rw [← All2.len hargs, hlen]
  intro next Q hn
  unfold Oper.wp
  rw [exec hfn.enter]
  have hgl : GRep E.G w (AvO A (isHd μ is)) := by
    rw [← hG]
    refine r.glob.mono fun b hb => ?_
    rcases hb with hb | hb
    · exact hav b hb.1
    · obtain ⟨id', blk, c, _, h1, h2, h3⟩ := lent_own b hb
      exact .inr ⟨id', blk, c, h1, h2, h3⟩
  refine (hfn.calls x y hy w A cargs _ hcl hAlt hl hdist hdis hgl).mono ?_
  intro e w' hout
  obtain ⟨l, z, hco, vs, hs', rfl, hvl, hw, hfr, hdi, hrep⟩ := outK_some hk hout
  unfold callOut at hco
  have hc2 := (cond_some hco).1
  have hco := (cond_some hco).2
  simp only [mkp, Option.some.injEq, Prod.mk.injEq] at hco
  obtain ⟨rfl, rfl⟩ := hco
  simp only [Bool.and_eq_true] at hc2
  obtain ⟨hfree, hnodup, hmem, hlel⟩ := hc2
  generalize hgd : named id (rootsLs (wds (first (len' l - len' s.lent) l)) (cut (len' l - len' s.lent) l) (pick (.c .undef) args s.lent)) = g at *
  generalize hrd : rootsLs (wds (first (len' l - len' s.lent) l)) (cut (len' l - len' s.lent) l) (pick (.c .undef) args s.lent) = roots at *
  have hm : len' l - len' s.lent = vs.length := by rw [len_eq, len_eq]; omega
  rw [hm] at hrd
  have hkn : (keys (encLs g noTmp 0 (lay 0 l) z).2).Nodup := by rw [← keysU_eq]; exact nodupB_spec hnodup
  have hval : ∀ q vv, (pick (.c .undef) args s.lent)[q]? = some vv → VRep w (Av O μ st.heap) μ st.heap vv (nthV (vs ++ s.lent.map (nthV cargs)) (0 + vs.length + q)) := by
    intro q vv hq
    obtain ⟨p, hp1, hp2⟩ := pick_get _ _ _ _ _ hq
    have hval : nthV (vs ++ s.lent.map (nthV cargs)) (0 + vs.length + q) = nthV cargs p := by
      unfold nthV
      rw [Nat.zero_add, List.getD_eq_getElem?_getD, List.getElem?_append_right (by omega), Nat.add_sub_cancel_left, List.getElem?_map, hp1]
      rfl
    rw [hval, hp2]
    have := listV_rep hargs p
    unfold listV at this
    rw [nth_eq] at this
    rw [List.getD_eq_getElem?_getD]
    cases hap : args[p]? with
    | none => trivial
    | some vp => rw [hap] at this; exact this
  have hkeys : keys (encLs g noTmp 0 (lay 0 l) z).2 = (List.range' 0 (lWd (lay 0 l))).map g := encLs_keys ..
  -- each name: free, or one that was lent
  have hfree2 : ∀ (h0 : Heap), (∀ id', st.heap id' = none → h0 id' = none) → (∀ id', id' ∈ somes is → h0 id' = st.heap id') →
      ∀ (j id' : Nat) (blk' : Blk), (encLs g noTmp 0 (lay 0 l) z).2[j]? = some (id', blk') → h0 id' = none ∨ (id' ∈ somes is ∧ ∃ blk, h0 id' = some blk ∧ compat blk blk' ∧ hs'[j]? = some (μ id')) := by
    intro h0 hnone hsame j id' blk' hj
    rcases freeUpd_spec hfree j _ hj with ⟨x0, hx0, hro⟩ | ⟨_, hn0⟩
    · right
      rw [Nat.zero_add] at hx0
      have hjl : j < lWd (lay 0 l) := by rw [← encLs_len g (lay 0 l) noTmp 0 z]; exact (List.getElem?_eq_some_iff.1 hj).1
      have hid : id' = g j := by
        have h1 : (keys (encLs g noTmp 0 (lay 0 l) z).2)[j]? = some id' := by simp [keys, hj]
        rw [hkeys] at h1
        simp [hjl] at h1
        exact h1.symm
      have hgx : g j = x0 := by rw [← hgd]; simp only [named, hx0]
      rw [hgx] at hid
      have hj : (encLs g noTmp 0 (lay 0 l) z).2[j]? = some (x0, blk') := by rw [← hid]; exact hj
      have hro : rootOk (st.heap x0) blk' = true := by rw [← hid]; exact hro
      rw [hid]
      have hjr := assoc_mem hx0
      have hin := allMem_spec hmem x0 (mem_sndN' hjr)
      obtain ⟨blk, hb, hob⟩ := hown x0 hin
      obtain ⟨blk2, mm, _, h2, h3, h4⟩ := rootsLs_ok (g := g) (h := st.heap) r.blks l 0 vs.length 0 noTmp z hs' (pick (.c .undef) args s.lent) hrep hval j x0 (by rw [Nat.zero_add, hrd]; exact hjr) ⟨blk, hb, hob⟩
      rw [Nat.sub_zero] at h2 h3
      have hb2 : blk2 = blk' := by rw [hj] at h2; simp at h2; exact h2.2.symm
      subst hb2
      obtain ⟨hmm, hlens⟩ := h4 hro
      refine ⟨hin, blk, by rw [hsame x0 hin]; exact hb, ?_, by rw [h3, hmm]⟩
      have hro : rootOk (st.heap x0) blk2 = true := hro
      rw [hb] at hro
      cases blk2 with
      | box _ cs => trivial
      | dead => cases blk <;> cases hro
      | row t' ys fz' =>
        cases blk with
        | box _ cs => cases hro
        | dead => cases hro
        | row t xs fz0 =>
          have hte : t = t' := by
            simp only [rootOk] at hro
            cases hq : Ty.eq t t' with
            | none => rw [hq] at hro; cases hro
            | some e => exact e.down
          subst hte
          exact ⟨xs, fz0, rfl, hlens t xs fz0 hb t ys fz' rfl⟩
    · exact .inl (hnone id' hn0)
  have fin : ∀ (h0 : Heap) (r0 : RelM W0 O μ { st with heap := h0 } a w), (∀ id', st.heap id' = none → h0 id' = none) → (∀ id', id' ∈ somes is → h0 id' = st.heap id') → ∀ (A2 : Nat → Prop), LRepL w' A2 (nthV (vs ++ s.lent.map (nthV cargs))) (lay 0 l) z hs' →
      (∀ b, (O b ∨ (∃ id blk c, h0 id = some blk ∧ blk.own = true ∧ id ∉ somes is ∧ μ id = some (b, c)) ∨ inHd hs' b) → A2 b) →
      ∃ μ2, RelM W0 O μ2 { st with heap := updsH h0 (app (kills (somes is)) (encLs g noTmp 0 (lay 0 l) z).2) } a w' ∧
        VRep w' (Av O μ2 (updsH h0 (app (kills (somes is)) (encLs g noTmp 0 (lay 0 l) z).2))) μ2 (updsH h0 (app (kills (somes is)) (encLs g noTmp 0 (lay 0 l) z).2)) (tupV (firstVs (encLs g noTmp 0 (lay 0 l) z).1 0 vs.length)) (tupVal vs) := by
    intro h0 r0 hnone hsame A2 hl2 hA2
    obtain ⟨μ2, r2, hv2⟩ := r0.import (is := is) (fun id' hid => by rw [show ({ st with heap := h0 } : St).heap = h0 from rfl, hsame id' hid]; exact hown id' hid) hw hl2 hdi hfr hA2 hkn (hfree2 h0 hnone hsame)
    rw [app_eq, updsH_append]
    refine ⟨μ2, r2, tupV_rep (firstVs_rep vs 0 (fun j vv hj => ?_))⟩
    have := hv2 (0 + j)
    have hval2 : nthV (vs ++ s.lent.map (nthV cargs)) (0 + j) = vv := by
      unfold nthV
      rw [Nat.zero_add, List.getD_eq_getElem?_getD, List.getElem?_append_left (List.getElem?_eq_some_iff.1 hj).1, hj]
      rfl
    rw [hval2] at this
    exact this
  cases hfl : lFlat (lay 0 l)
  · have hA2 : ∀ b, (O b ∨ (∃ id blk c, (updsH st.heap (freezes st.heap fz)) id = some blk ∧ blk.own = true ∧ id ∉ somes is ∧ μ id = some (b, c)) ∨ inHd hs' b) → AvO A hs' b := by
      rintro b (hb | ⟨id', blk, c, h1, h2, h3, h4⟩ | hb)
      · refine .inl ⟨.inl hb, fun hin => ?_⟩
        obtain ⟨id0, blk0, c0, _, k1, k2, k3⟩ := lent_own b hin
        exact (r.fresh id0 blk0 b c0 k1 k2 k3).elim (fun h => by have := (r.outer b hb).1; omega) (r.outer b hb).2
      · refine .inl ⟨.inr ⟨id', blk, c, h1, h2, h4⟩, fun hin => ?_⟩
        obtain ⟨id0, blk0, c0, k0, k1, k2, k3⟩ := lent_own b hin
        have h1' : (updsH st.heap (freezes st.heap fz)) id0 = some blk0 := by
          rw [freezes_here]
          cases hmm : memN id0 fz
          · exact k1
          · exact absurd k0 (htk id0 ((memN_iff _ _).1 hmm)).1
        have := r1.inj id' id0 blk blk0 b c c0 h1 h1' h2 k2 h4 k3
        subst this
        exact h3 k0
      · exact .inr hb
    obtain ⟨μ2, r2, hv2⟩ := fin (updsH st.heap (freezes st.heap fz)) r1 (fun id' hn0 => by rw [freezes_here, hn0]; cases memN id' fz <;> rfl)
      (fun id' hin => by
        rw [freezes_here]
        cases hmm : memN id' fz
        · rfl
        · exact absurd hin (htk id' ((memN_iff _ _).1 hmm)).1) _ hrep hA2
    refine hn (tupVal vs) w' μ2 ?_ ?_
    · rw [hfl]; simp only [cond_false]; rw [app_eq, updsH_append]; exact r2
    · rw [hfl, hm]; simp only [cond_false]; rw [app_eq, updsH_append]; exact hv2
  · obtain ⟨μ2, r2, hv2⟩ := fin st.heap r (fun _ h => h) (fun _ _ => rfl) (fun _ => True) (hrep.flat hfl) (fun _ _ => trivial)
    refine hn (tupVal vs) w' μ2 ?_ ?_
    · rw [hfl]; simp only [cond_true]; exact r2
    · rw [hfl, hm]; simp only [cond_true]; exact hv2
end
end Go.VM
