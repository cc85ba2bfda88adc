import Derived.Test.YticbohfmkiafiaaVM4
namespace Go.VM
open Go.RowKit
theorem add_add (a : Addr) (i j : Nat) : (a.add i).add j = a.add (i + j) := by
  unfold Addr.add
  by_cases hi : i = 0
  · simp [hi]
  · by_cases hj : j = 0
    · simp [hi, hj]
    · simp [hi, hj, Nat.add_assoc]
theorem add_block (a : Addr) (i : Nat) : (a.add i).block = a.block := by unfold Addr.add; split <;> rfl
theorem add_lit (b o n : Nat) : Addr.add ⟨b, o, none⟩ n = ⟨b, o + n, none⟩ := by
  unfold Addr.add; split <;> simp_all
theorem one_cells {v : Value} (h : v.oneCell' = true) : v.cells = #[v] := by
  cases v <;> simp_all [Value.oneCell', Value.cells]
section
variable {P : Program} {w : World} {A : Nat → Prop} {μ : Mu} {h : Heap}
theorem absC_rep (v : Value) (h1 : v.oneCell' = true) : CRep w A μ h (absC v) v := by
  unfold absC
  split <;> first | rfl | exact h1 | exact ⟨_, rfl, h1, by simp⟩
theorem absCs_rep : ∀ (l : List Value), oneB l = true → CsRep w A μ h (absCs l) l
  | [], _ => trivial
  | v :: r, k => by
    simp [oneB] at k
    exact ⟨absC_rep v k.1, absCs_rep r k.2⟩
theorem absV_rep (v : Value) : VRep w A μ h (absV v) v := by
  unfold absV
  split
  · exact VRep.of_c (c := .fn _) rfl
  · by_cases hv : v.oneCell' = true
    · exact VRep.of_c (absC_rep v hv)
    · have : absC v = .undef := by cases v <;> first | rfl | (simp [Value.oneCell'] at hv; done)
      rw [this]; trivial
theorem cells_rep {x : V} {v : Value} {cs : List C} (k : VRep w A μ h x v) (hc : x.cells = some cs) : CsRep w A μ h cs v.cells.toList := by
  cases x with
  | c c =>
    by_cases hu : c = .undef
    · subst hu; simp [V.cells] at hc
    · have hk := VRep.to_c hu k
      have : cs = [c] := by cases c <;> simp_all [V.cells]
      subst this
      rw [one_cells hk.one]
      exact ⟨hk, trivial⟩
  | agg l =>
    simp [V.cells] at hc
    subst hc
    obtain ⟨vs, rfl, hr⟩ := k
    exact hr
  | tup l => simp [V.cells] at hc
theorem CsRep.one {cs : List C} {vs : List Value} (k : CsRep w A μ h cs vs) : ∀ u ∈ vs, u.oneCell' = true := by
  intro u hu
  obtain ⟨i, hi⟩ := List.getElem?_of_mem hu
  obtain ⟨c, _, hc⟩ := All2.get' k hi
  exact hc.one
theorem explode_rep : ∀ {t : Ty} {x : t.den} {cs : List Value}, FRep w A t x cs → CsRep w A μ h (explode t x) cs
  | .int k, x, cs, hr => by
    rw [show cs = [Value.int k x] from hr]; exact ⟨show FRep w A (.int k) x [Value.int k x] from rfl, trivial⟩
  | .bool, x, cs, hr => by
    rw [show cs = [Value.bool x] from hr]; exact ⟨show FRep w A .bool x [Value.bool x] from rfl, trivial⟩
  | .str, x, cs, hr => by
    rw [show cs = [Value.string x] from hr]; exact ⟨show FRep w A .str x [Value.string x] from rfl, trivial⟩
  | .unit, x, cs, hr => by
    rw [show cs = [] from hr]; trivial
  | .pair a b, x, cs, hr => by
    obtain ⟨c0, c1, rfl, h0, h1⟩ := hr
    simp only [explode, app_eq]
    exact All2.append (explode_rep h0) (explode_rep h1)
  | .err, x, cs, hr => by
    obtain ⟨v, rfl, h⟩ := hr
    exact ⟨⟨v, rfl, h⟩, trivial⟩
  | .sl t, x, cs, hr => by
    obtain ⟨ad, cap, rfl, hl⟩ := hr
    exact ⟨⟨ad, cap, rfl, hl⟩, trivial⟩
theorem explode_len : ∀ (t : Ty) (x : t.den), (explode t x).length = t.sz
  | .int k, x => rfl
  | .bool, x => rfl
  | .str, x => rfl
  | .err, x => rfl
  | .unit, x => rfl
  | .pair a b, x => by simp [explode, app_eq, explode_len a, explode_len b, Ty.sz]
  | .sl t, x => rfl
theorem castTo_some {t u : Ty} {x : t.den} {y : u.den} (k : castTo u x = some y) : ∃ e : t = u, y = e ▸ x := by
  unfold castTo at k
  split at k
  · rename_i e _; cases k; exact ⟨e.down, rfl⟩
  · cases k
theorem row_core {t : Ty} {xs : List t.den} {fz : Bool} {m : Option (Nat × Nat)} {A' : Nat → Prop} {v : Value} (k : BRep w A μ h m (.row t xs fz)) (hv : HdV m xs.length v) (hA : ∀ b, A' b → A b)
    (hb : ∀ b c, m = some (b, c) → ¬ A' b) : ∃ ad cap, [v] = [.slice ad (List.length (α := t.den) xs) cap] ∧ (List.length (α := t.den) xs) ≤ cap ∧ (List.length (α := t.den) xs) ≤ maxLen ∧
      ∀ (i : Nat) (x : t.den), (xs : List t.den)[i]? = some x → ∃ (a : Addr) (ec : List Value), ad = some a ∧ FRep w A' t x ec ∧ ∀ j u, ec[j]? = some u → ¬ A' a.block ∧ w.cell? (a.add (i * t.sz + j)) = some u := by
  obtain ⟨hz, k⟩ := k
  cases m with
  | none =>
    have : xs = [] := k
    subst this
    obtain ⟨_, ad, rfl⟩ := hv
    exact ⟨ad, 0, rfl, Nat.le_refl _, by simp [maxLen], fun i x hi => by simp at hi⟩
  | some p =>
    obtain ⟨b, c⟩ := p
    obtain ⟨⟨e, cur, fr, hg, hs, ⟨hc0, hl⟩, hm, _, hx⟩, _⟩ := k
    rw [show v = .slice (some ⟨b, 0, none⟩) xs.length c from hv]
    refine ⟨some ⟨b, 0, none⟩, c, rfl, hl, Nat.le_trans hl hm, fun i x hi => ?_⟩
    obtain ⟨ec, hec, hu⟩ := hx i x hi
    refine ⟨⟨b, 0, none⟩, ec, rfl, FRep.mono hA hec, fun j u hj => ⟨hb b c rfl, ?_⟩⟩
    have := hu j u hj
    rw [add_lit]
    simp [World.cell?, hg, this]
theorem row_frep {t : Ty} (hkm : t.mk = false) {xs : List t.den} {fz : Bool} {m : Option (Nat × Nat)} {A' : Nat → Prop} {v : Value} (k : BRep w A μ h m (.row t xs fz)) (hv : HdV m xs.length v) (hA : ∀ b, A' b → A b)
    (hb : ∀ b c, m = some (b, c) → ¬ A' b) : FRep w A' (.sl t) xs [v] := by
  obtain ⟨ad, cap, h1, h2, h3, h4⟩ := row_core k hv hA hb
  exact ⟨ad, cap, h1, h2, h3, fun h => absurd (hkm.symm.trans h) (by decide), h4⟩
theorem takeVal_rep {A' : Nat → Prop} (hA : ∀ b, A' b → A b) {t : Ty} {cs : List C} {x : t.den} {rest : List C} {ids : List Nat} {vs : List Value} (hi : takeVal t cs = some (x, rest, ids))
    (hr : CsRep w A μ h cs vs) : ∃ v0 v1, vs = v0 ++ v1 ∧ FRep w A' t x v0 ∧ CsRep w A μ h rest v1 := by
  unfold takeVal at hi
  split at hi
  · rename_i u y r
    split at hi
    · rename_i z hz
      simp only [Option.some.injEq, Prod.mk.injEq] at hi
      obtain ⟨rfl, rfl, rfl⟩ := hi
      obtain ⟨rfl, rfl⟩ := castTo_some hz
      cases vs with
      | nil => exact hr.elim
      | cons v vs => exact ⟨[v], vs, rfl, FRep.mono hA hr.1, hr.2⟩
    · cases hi
  · cases hi
theorem BRep.first {t : Ty} {xs : List t.den} {fz : Bool} {m : Option (Nat × Nat)} (n : Nat) (k : BRep w A μ h m (.row t xs fz)) : BRep w A μ h m (.row t (first n xs) fz) := by
  obtain ⟨hz, k⟩ := k
  refine ⟨hz, ?_⟩
  rw [first_eq]
  cases m with
  | none => have : xs = [] := k; subst this; simp
  | some p =>
    obtain ⟨b, c⟩ := p
    obtain ⟨⟨e, cur, fr, hg, hs, ⟨hc0, hl⟩, hm, hf, hx⟩, hA⟩ := k
    refine ⟨⟨e, cur, fr, hg, hs, ⟨hc0, by rw [List.length_take]; omega⟩, hm, hf, fun i x hi => hx i x ?_⟩, hA⟩
    rw [List.getElem?_take] at hi
    split at hi
    · exact hi
    · cases hi
theorem first_len {α : Type} {n : Nat} {xs : List α} (h : n ≤ xs.length) : (first n xs).length = n := by rw [first_eq, List.length_take]; omega
theorem cond_some' {α : Type} {b : Bool} {x : Option α} {y : α} (h : (bif b then x else none) = some y) : b = true ∧ x = some y := by
  cases b
  · cases h
  · exact ⟨rfl, h⟩
theorem win_frep {t : Ty} (hkm : t.mk = false) {xs : List t.den} {fz : Bool} {m : Option (Nat × Nat)} {A' : Nat → Prop} {lo n z c' : Nat} {ad : Option Addr} (k : BRep w A μ h m (.row t xs fz)) (hz : t.sz = z) (hn : n ≤ c')
    (hv : 0 < n → lo + n ≤ xs.length ∧ ∃ b c, m = some (b, c) ∧ ad = some ⟨b, lo * z, none⟩) (hA : ∀ b, A' b → A b) (hb : ∀ b c, m = some (b, c) → ¬ A' b) : FRep w A' (.sl t) ((xs.drop lo).take n) [.slice ad n c'] := by
  by_cases h0 : 0 < n
  · obtain ⟨hle, b, c, rfl, rfl⟩ := hv h0
    obtain ⟨_, ⟨e, cur, fr, hg, hs, ⟨hc0, hl⟩, hm, _, hx⟩, _⟩ := k
    have hlen : List.length (α := t.den) ((xs.drop lo).take n) = n := by rw [List.length_take, List.length_drop]; omega
    refine ⟨some ⟨b, lo * z, none⟩, c', by rw [hlen], by rw [hlen]; exact hn, by rw [hlen]; omega, fun h => absurd (hkm.symm.trans h) (by decide), fun i x hi => ?_⟩
    rw [List.getElem?_take] at hi
    split at hi
    · rw [List.getElem?_drop] at hi
      obtain ⟨ec, hec, hu⟩ := hx (lo + i) x hi
      refine ⟨⟨b, lo * z, none⟩, ec, rfl, FRep.mono hA hec, fun j u hj => ⟨hb b c rfl, ?_⟩⟩
      have h1 := hu j u hj
      have e1 : (⟨b, lo * z, none⟩ : Addr).add (i * t.sz + j) = ⟨b, (lo + i) * t.sz + j, none⟩ := by
        rw [Nat.add_mul, ← hz]
        unfold Addr.add
        split
        · simp; omega
        · simp; omega
      rw [e1]
      simp [World.cell?, hg, h1]
    · cases hi
  · have : n = 0 := by omega
    subst this
    exact ⟨ad, c', by simp, by simp, by simp [maxLen], fun h => absurd (hkm.symm.trans h) (by decide), fun i x hi => by simp at hi⟩
theorem frep_mk {A' : Nat → Prop} {u : Ty} {xs : List u.den} {v : Value} (k : FRep w A' (.sl u) xs [v]) (h0 : List.length (α := u.den) xs ≠ 0) : FRep w A' (.sl (.pair .unit u)) (List.map (fun z : u.den => ((), z)) xs) [v] := by
  obtain ⟨ad, cap, hv, hl, hm, _, hx⟩ := k
  have e : List.length (α := (Ty.pair .unit u).den) (List.map (fun z : u.den => ((), z)) xs) = List.length (α := u.den) xs := List.length_map ..
  refine ⟨ad, cap, by rw [e]; exact hv, by rw [e]; exact hl, by rw [e]; exact hm, fun _ h => absurd (e ▸ h) h0, fun i x hi => ?_⟩
  have hi : (List.map (fun z : u.den => ((), z)) xs)[i]? = some x := hi
  rw [List.getElem?_map] at hi
  cases hxi : (xs : List u.den)[i]? with
  | none => rw [hxi] at hi; cases hi
  | some y =>
    rw [hxi] at hi
    have hi : ((), y) = x := by simpa using hi
    subst hi
    obtain ⟨a, ec, ha, hf, hc⟩ := hx i y hxi
    refine ⟨a, ec, ha, ⟨[], ec, rfl, rfl, hf⟩, fun j q hq => ?_⟩
    have := hc j q hq
    rw [show (Ty.pair .unit u).sz = u.sz from Nat.zero_add _]
    exact this
theorem takeMk_rep {A' : Nat → Prop} (hA : ∀ b, A' b → A b) (hB : ∀ id blk, h id = some blk → BRep w A μ h (μ id) blk) {t : Ty} {cs : List C} {x : (Ty.sl t).den} {rest : List C} {ids : List Nat} {vs : List Value} (hi : takeMk h t cs = some (x, rest, ids))
    (hr : CsRep w A μ h cs vs) (hids : ∀ id, id ∈ ids → ∀ b c, μ id = some (b, c) → ¬ A' b) : ∃ v0 v1, vs = v0 ++ v1 ∧ FRep w A' (.sl t) x v0 ∧ CsRep w A μ h rest v1 := by
  unfold takeMk at hi
  split at hi
  · rename_i u y r
    split at hi
    · rename_i z hz
      simp only [Option.some.injEq, Prod.mk.injEq] at hi
      obtain ⟨rfl, rfl, rfl⟩ := hi
      obtain ⟨rfl, rfl⟩ := castTo_some hz
      cases vs with
      | nil => exact hr.elim
      | cons v vs => exact ⟨[v], vs, rfl, FRep.mono hA hr.1, hr.2⟩
    · cases hi
  · simp only [Option.some.injEq, Prod.mk.injEq] at hi
    obtain ⟨rfl, rfl, rfl⟩ := hi
    cases vs with
    | nil => exact hr.elim
    | cons v vs =>
      refine ⟨[v], vs, rfl, ?_, hr.2⟩
      rw [show v = .slice none 0 0 from hr.1]
      exact ⟨none, 0, rfl, Nat.le_refl _, by simp [maxLen], fun _ _ => ⟨rfl, rfl⟩, fun i x hi => by simp at hi⟩
  · rename_i v id r
    split at hi
    · rename_i u xs fz hb
      split at hi
      · rename_i y hz
        cases hkv : v.mk with
        | true => rw [hkv] at hi; cases hi
        | false =>
        cases hn : nilB (α := v.den) y with
        | true => rw [hkv, hn] at hi; cases hi
        | false =>
        rw [hkv, hn] at hi
        simp only [Bool.or_self, cond_false, Option.some.injEq, Prod.mk.injEq] at hi
        obtain ⟨rfl, rfl, rfl⟩ := hi
        obtain ⟨e, rfl⟩ := castTo_some hz
        cases e
        cases vs with
        | nil => exact hr.elim
        | cons q vs =>
          obtain ⟨blk, hb', _, hv⟩ := hr.1
          rw [hb] at hb'
          cases hb'
          exact ⟨[q], vs, rfl, frep_mk (row_frep hkv (hB id _ hb) (hv _ xs fz rfl) hA (fun b c hm => hids id (by simp) b c hm)) (by intro h0; cases xs with | nil => cases hn | cons a l => cases h0), hr.2⟩
      · cases hi
    · cases hi
  · cases hi
theorem implode_rep {A' : Nat → Prop} (hA : ∀ b, A' b → A b) (hB : ∀ id blk, h id = some blk → BRep w A μ h (μ id) blk) :
    ∀ {t : Ty} {cs : List C} {x : t.den} {rest : List C} {ids : List Nat} {vs : List Value}, implode h t cs = some (x, rest, ids) → CsRep w A μ h cs vs →
      (∀ id, id ∈ ids → ∀ b c, μ id = some (b, c) → ¬ A' b) → ∃ v0 v1, vs = v0 ++ v1 ∧ FRep w A' t x v0 ∧ CsRep w A μ h rest v1
  | .unit, cs, x, rest, ids, vs, hi, hr, hids => by
    simp only [implode, Option.some.injEq, Prod.mk.injEq] at hi
    obtain ⟨_, rfl, _⟩ := hi
    exact ⟨[], vs, rfl, rfl, hr⟩
  | .pair a b, cs, x, rest, ids, vs, hi, hr, hids => by
    simp only [implode] at hi
    split at hi
    · rename_i x1 r1 l1 h1
      split at hi
      · rename_i x2 r2 l2 h2
        simp only [Option.some.injEq, Prod.mk.injEq] at hi
        obtain ⟨rfl, rfl, rfl⟩ := hi
        rw [app_eq] at hids
        obtain ⟨v0, v1, rfl, hf, hr1⟩ := implode_rep hA hB h1 hr (fun id hid => hids id (List.mem_append_left _ hid))
        obtain ⟨v2, v3, rfl, hf2, hr2⟩ := implode_rep hA hB h2 hr1 (fun id hid => hids id (List.mem_append_right _ hid))
        exact ⟨v0 ++ v2, v3, by simp, ⟨v0, v2, rfl, hf, hf2⟩, hr2⟩
      · cases hi
    · cases hi
  | .int k, cs, x, rest, ids, vs, hi, hr, hids => takeVal_rep hA hi hr
  | .bool, cs, x, rest, ids, vs, hi, hr, hids => takeVal_rep hA hi hr
  | .str, cs, x, rest, ids, vs, hi, hr, hids => takeVal_rep hA hi hr
  | .err, cs, x, rest, ids, vs, hi, hr, hids => takeVal_rep hA hi hr
  | .sl t, cs, x, rest, ids, vs, hi, hr, hids => by
    simp only [implode] at hi
    cases hkm : t.mk with
    | true =>
      rw [hkm] at hi
      exact takeMk_rep hA hB hi hr hids
    | false =>
    rw [hkm] at hi
    simp only [cond_false] at hi
    unfold takeSl at hi
    split at hi
    · rename_i u y r
      split at hi
      · rename_i z hz
        simp only [Option.some.injEq, Prod.mk.injEq] at hi
        obtain ⟨rfl, rfl, rfl⟩ := hi
        obtain ⟨rfl, rfl⟩ := castTo_some hz
        cases vs with
        | nil => exact hr.elim
        | cons v vs => exact ⟨[v], vs, rfl, FRep.mono hA hr.1, hr.2⟩
      · cases hi
    · simp only [Option.some.injEq, Prod.mk.injEq] at hi
      obtain ⟨rfl, rfl, rfl⟩ := hi
      cases vs with
      | nil => exact hr.elim
      | cons v vs =>
        refine ⟨[v], vs, rfl, ?_, hr.2⟩
        rw [show v = .slice none 0 0 from hr.1]
        exact ⟨none, 0, rfl, Nat.le_refl _, by simp [maxLen], fun _ _ => ⟨rfl, rfl⟩, fun i x hi => by simp at hi⟩
    · rename_i id r
      split at hi
      · rename_i u xs fz hb
        split at hi
        · rename_i z hz
          simp only [Option.some.injEq, Prod.mk.injEq] at hi
          obtain ⟨rfl, rfl, rfl⟩ := hi
          obtain ⟨e, rfl⟩ := castTo_some hz
          cases e
          cases vs with
          | nil => exact hr.elim
          | cons v vs =>
            obtain ⟨blk, hb', _, hv⟩ := hr.1
            rw [hb] at hb'
            cases hb'
            exact ⟨[v], vs, rfl, row_frep hkm (hB id _ hb) (hv _ xs fz rfl) hA (fun b c hm => hids id (by simp) b c hm), hr.2⟩
        · cases hi
      · cases hi
    · rename_i id n r
      split at hi
      · rename_i u xs fz hb
        split at hi
        · rename_i z hz
          simp only [Option.some.injEq, Prod.mk.injEq] at hi
          obtain ⟨rfl, rfl, rfl⟩ := hi
          obtain ⟨e, rfl⟩ := castTo_some hz
          cases e
          cases vs with
          | nil => exact hr.elim
          | cons v vs =>
            obtain ⟨blk, hb', _, hv⟩ := hr.1
            rw [hb] at hb'
            cases hb'
            obtain ⟨hn, hv⟩ := hv _ xs fz rfl
            exact ⟨[v], vs, rfl, row_frep hkm ((hB id _ hb).first n) (by rw [first_len hn]; exact hv) hA (fun b c hm => hids id (by simp) b c hm), hr.2⟩
        · cases hi
      · cases hi
    · rename_i id lo n z r
      split at hi
      · rename_i u xs fz hb
        have hcz := Nat.eq_of_beq_eq_true (cond_some' hi).1
        have hi := (cond_some' hi).2
        split at hi
        · rename_i y hz
          simp only [Option.some.injEq, Prod.mk.injEq] at hi
          obtain ⟨rfl, rfl, rfl⟩ := hi
          obtain ⟨e, rfl⟩ := castTo_some hz
          cases e
          cases vs with
          | nil => exact hr.elim
          | cons v vs =>
            obtain ⟨blk, ad, c', hb', rfl, hn, hv⟩ := hr.1
            rw [hb] at hb'
            cases hb'
            exact ⟨[_], vs, rfl, win_frep hkm (hB id _ hb) hcz hn (hv _ xs fz rfl hcz) hA (fun b c hm => hids id (by simp) b c hm), hr.2⟩
        · cases hi
      · cases hi
    · cases hi
theorem takeMk_rows {t : Ty} {cs : List C} {x : (Ty.sl t).den} {rest : List C} {ids : List Nat} (hi : takeMk h t cs = some (x, rest, ids)) : ∀ id, id ∈ ids → ∃ u xs fz, h id = some (.row u xs fz) := by
  unfold takeMk at hi
  split at hi
  · split at hi <;> cases hi
    simp
  · cases hi; simp
  · rename_i v id r
    split at hi
    · rename_i u xs fz hb
      split at hi
      · rename_i y hz
        cases hn : v.mk || nilB (α := v.den) y with
        | true => rw [hn] at hi; cases hi
        | false =>
          rw [hn] at hi
          cases hi
          intro id' hid'
          rw [List.mem_singleton.1 hid']
          exact ⟨_, _, _, hb⟩
      · cases hi
    · cases hi
  · cases hi
theorem implode_rows : ∀ {t : Ty} {cs : List C} {x : t.den} {rest : List C} {ids : List Nat}, implode h t cs = some (x, rest, ids) → ∀ id, id ∈ ids → ∃ u xs fz, h id = some (.row u xs fz)
  | .unit, cs, x, rest, ids, hi => by
    simp only [implode, Option.some.injEq, Prod.mk.injEq] at hi
    obtain ⟨_, _, rfl⟩ := hi
    simp
  | .pair a b, cs, x, rest, ids, hi => by
    simp only [implode] at hi
    split at hi
    · rename_i x1 r1 l1 h1
      split at hi
      · rename_i x2 r2 l2 h2
        simp only [Option.some.injEq, Prod.mk.injEq] at hi
        obtain ⟨rfl, rfl, rfl⟩ := hi
        rw [app_eq]
        intro id hid
        rcases List.mem_append.1 hid with hid | hid
        · exact implode_rows h1 id hid
        · exact implode_rows h2 id hid
      · cases hi
    · cases hi
  | .int k, cs, x, rest, ids, hi => by
    simp only [implode, takeVal] at hi
    split at hi <;> try (cases hi; done)
    split at hi <;> cases hi
    simp
  | .bool, cs, x, rest, ids, hi => by
    simp only [implode, takeVal] at hi
    split at hi <;> try (cases hi; done)
    split at hi <;> cases hi
    simp
  | .str, cs, x, rest, ids, hi => by
    simp only [implode, takeVal] at hi
    split at hi <;> try (cases hi; done)
    split at hi <;> cases hi
    simp
  | .err, cs, x, rest, ids, hi => by
    simp only [implode, takeVal] at hi
    split at hi <;> try (cases hi; done)
    split at hi <;> cases hi
    simp
  | .sl t, cs, x, rest, ids, hi => by
    simp only [implode] at hi
    cases hkm : t.mk with
    | true =>
      rw [hkm] at hi
      exact takeMk_rows hi
    | false =>
    rw [hkm] at hi
    simp only [cond_false] at hi
    unfold takeSl at hi
    split at hi
    · split at hi <;> cases hi
      simp
    · cases hi; simp
    · split at hi
      · rename_i id r u xs fz hb
        split at hi <;> cases hi
        intro id' hid'
        rw [List.mem_singleton.1 hid']
        exact ⟨_, _, _, hb⟩
      · cases hi
    · split at hi
      · rename_i id n r u xs fz hb
        split at hi <;> cases hi
        intro id' hid'
        rw [List.mem_singleton.1 hid']
        exact ⟨_, _, _, hb⟩
      · cases hi
    · split at hi
      · rename_i id lo n z r u xs fz hb
        have hi := (cond_some' hi).2
        split at hi <;> cases hi
        intro id' hid'
        rw [List.mem_singleton.1 hid']
        exact ⟨_, _, _, hb⟩
      · cases hi
    · cases hi
theorem implode_all {A' : Nat → Prop} (hA : ∀ b, A' b → A b) (hB : ∀ id blk, h id = some blk → BRep w A μ h (μ id) blk) {t : Ty} {cs : List C} {x : t.den} {ids : List Nat} {vs : List Value}
    (hi : implode h t cs = some (x, [], ids)) (hr : CsRep w A μ h cs vs) (hids : ∀ id, id ∈ ids → ∀ b c, μ id = some (b, c) → ¬ A' b) : FRep w A' t x vs := by
  obtain ⟨v0, v1, rfl, hf, hr1⟩ := implode_rep hA hB hi hr hids
  cases v1 with
  | nil => simpa using hf
  | cons v r => exact hr1.elim
theorem run_isAgg {t : TypeId} {d : TypeDesc} (hu : P.underlying t = some d) : (isAgg t).run P w = .ok (aggD d) w := by
  simp only [isAgg, Sem.run_bind, run_underlying hu, Result.andThen_ok]
  cases d <;> rfl
theorem loadCs_sound {t : TypeId} {off : Nat} {cs : List C} {v : V} {vs : List Value} (hl : loadCs P t off cs some = some v) (hr : CsRep w A μ h cs vs) (ad : Addr)
    (hcell : ∀ j u, vs[j]? = some u → w.cell? (ad.add j) = some u) : ∃ cv, (loadVar t (ad.add off)).run P w = .ok cv w ∧ VRep w A μ h v cv := by
  unfold loadCs at hl
  split at hl
  · rename_i i d hi hu
    cases hd : aggD d
    · rw [hd] at hl
      simp only [cond_false] at hl
      split at hl
      · rename_i c hc
        cases hl
        rw [nth_eq] at hc
        obtain ⟨u, hu', hcu⟩ := All2.get hr hc
        refine ⟨u, ?_, VRep.of_c hcu⟩
        simp [loadVar, run_isAgg hu, hd, run_load, hcell off u hu']
      · cases hl
    · rw [hd] at hl
      simp only [cond_true] at hl
      cases hb : Nat.ble (off + i.size) (len' cs)
      · rw [hb] at hl; cases hl
      · rw [hb] at hl
        simp only [cond_true] at hl
        cases hl
        have hle : off + i.size ≤ cs.length := by rw [← len_eq]; exact Nat.le_of_ble_eq_true hb
        have hlen : ((vs.drop off).take i.size).length = i.size := by
          have := All2.len hr
          simp; omega
        have hrun := run_loadCells_list (P := P) w (ad.add off) ((vs.drop off).take i.size) (fun j u hj => by
          rw [add_add]
          apply hcell
          rw [List.getElem?_take] at hj
          split at hj
          · simpa using hj
          · cases hj)
        rw [hlen] at hrun
        refine ⟨.agg ((vs.drop off).take i.size).toArray, ?_, ⟨_, rfl, ?_⟩⟩
        · simp [loadVar, run_isAgg hu, hd, sizeOf, typeInfo, hi, hrun]
        · rw [first_eq, cut_eq]
          exact All2.take _ (All2.drop _ hr)
  · cases hl
theorem rdH_some {lim : Option Nat} {id : Nat} {blk : Blk} (k : rdH h lim id = some blk) : h id = some blk := by
  unfold rdH at k
  split at k
  · exact k
  · rename_i l
    cases hb : Nat.blt id l
    · rw [hb] at k; cases k
    · rw [hb] at k; exact k
theorem rd_get {α : Type} (d : α) (xs : List α) (i : Int) (h0 : 0 ≤ i) (h1 : i < (xs.length : Int)) : xs[i.toNat]? = some (rd d xs i) := by
  have : i.toNat < xs.length := by omega
  simp [rd, List.getElem?_eq_getElem this]
theorem opLoad_sound (hB : ∀ id blk, h id = some blk → BRep w A μ h (μ id) blk) {lim : Option Nat} {t : TypeId} {x v : V} {xv : Value}
    (hl : opLoad P h lim t x some = some v) (hx : VRep w A μ h x xv) : ∃ cv, (Instr.loadAt t xv).run P w = .ok cv w ∧ VRep w A μ h v cv := by
  unfold opLoad at hl
  split at hl
  · rename_i id off
    split at hl
    · rename_i cs hb
      have hb := rdH_some hb
      obtain ⟨blk, b, c, hb', hm, rfl⟩ := VRep.to_c (by simp) hx
      have hbr := hB id _ hb
      obtain ⟨b', c', cur, hm', hg, hcs, _⟩ := hbr
      rw [hm] at hm'
      cases hm'
      obtain ⟨cv, hrun, hv⟩ := loadCs_sound hl hcs ⟨b, 0, none⟩ (fun j u hj => by rw [add_lit]; simp [World.cell?, hg]; simpa using hj)
      rw [add_lit] at hrun
      refine ⟨cv, ?_, hv⟩
      simpa [Instr.loadAt, Instr.sureAddr] using hrun
    · cases hl
  · rename_i id i off
    split at hl
    · rename_i u xs fz hb
      have hb := rdH_some hb
      obtain ⟨blk, hb', _, hk⟩ := VRep.to_c (by simp) hx
      rw [hb] at hb'
      cases hb'
      obtain ⟨h0, h1, b, c, hm, rfl⟩ := hk u xs fz rfl
      have hbr := hB id _ hb
      rw [hm] at hbr
      obtain ⟨hz, ⟨e, cur, fr, hg, hs, hl', hmx, hf, hxx⟩, _⟩ := hbr
      obtain ⟨ec, hec, hu⟩ := hxx i.toNat _ (rd_get u.dflt xs i h0 h1)
      obtain ⟨cv, hrun, hv⟩ := loadCs_sound (A := A) (μ := μ) (h := h) hl (explode_rep hec) ⟨b, i.toNat * u.sz, none⟩ (fun j y hj => by
        rw [add_lit]
        simp [World.cell?, hg, hu j y hj])
      rw [add_lit] at hrun
      refine ⟨cv, ?_, hv⟩
      simpa [Instr.loadAt, Instr.sureAddr] using hrun
    · cases hl
  · rename_i u y off
    obtain ⟨a, cs, rfl, hf, hc⟩ := VRep.to_c (by simp) hx
    obtain ⟨cv, hrun, hv⟩ := loadCs_sound (A := A) (μ := μ) (h := h) hl (explode_rep hf) a (fun j y hj => (hc j y hj).2)
    refine ⟨cv, ?_, hv⟩
    simpa [Instr.loadAt, Instr.sureAddr] using hrun
  · cases hl
end
end Go.VM
