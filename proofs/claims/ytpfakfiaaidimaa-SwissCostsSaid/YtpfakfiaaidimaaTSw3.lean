/- Swiss pairings: the search finds the pairing that costs least. -/
import Derived.Test.YtpfakfiaaidimaaTSw2
namespace Go.Proofs.Ytpfakfiaaidimaa.G
open Go.VM Go.Proofs
abbrev SS := List PL × List Int × List (Unit × Int) × Int × Unit
def bl (b : List (Unit × Int)) : List Int := b.map (fun x => x.2)
theorem bl_map (v : List Int) : bl (List.map (fun z : Int => ((), z)) v) = v := by
  unfold bl
  rw [List.map_map]
  exact List.map_id v
theorem ext_gv {v u : List Int} (h : v.length = u.length) (h2 : ∀ a, a < v.length → gv v a = gv u a) : v = u := by
  refine List.ext_getElem h (fun a h3 h4 => ?_)
  have := h2 a h3
  unfold gv rd at this
  simp only [Int.toNat_natCast, List.getD_eq_getElem?_getD, List.getElem?_eq_getElem h3, List.getElem?_eq_getElem h4, Option.getD_some] at this
  exact this
theorem back2 {v : List Int} {i j : Nat} (hi : i < v.length) (hj : j < v.length) (h1 : gv v i = -2) (h2 : gv v j = -2) (x y : Int) : (((v.set i x).set j y).set i (-2)).set j (-2) = v := by
  refine ext_gv (by simp) (fun a ha => ?_)
  rw [gv_set _ _ _ (by simp; omega), gv_set _ _ _ (by simp; omega), gv_set _ _ _ (by simp; omega), gv_set _ _ _ (by omega)]
  split
  · rename_i e; rw [e, h2]
  · split
    · rename_i e; rw [e, h1]
    · rfl
theorem back1 {v : List Int} {i : Nat} (hi : i < v.length) (h1 : gv v i = -2) (x : Int) : (v.set i x).set i (-2) = v := by
  refine ext_gv (by simp) (fun a ha => ?_)
  rw [gv_set _ _ _ (by simp; omega), gv_set _ _ _ (by omega)]
  split
  · rename_i e; rw [e, h1]
  · rfl
def Par (l : List PL) (v : List Int) : Prop := (cn l v (-2) + cn l v (-1)) % 2 = (l.length : Int) % 2
/-- The best pairing so far, and what it costs. -/
def Bst (l : List PL) (b : List (Unit × Int)) (w : Int) : Prop := b = [] ∨ (Full l (bl b) ∧ 2 * w = cst l (bl b) ∧ Par l (bl b))
def Cov (l : List PL) (b : List (Unit × Int)) (w : Int) (v : List Int) : Prop := b ≠ [] ∧ 2 * w ≤ cst l v
def Mo (b : List (Unit × Int)) (w : Int) (b' : List (Unit × Int)) (w' : Int) : Prop := b ≠ [] → b' ≠ [] ∧ w' ≤ w
theorem Mo.trans {b b1 b2 : List (Unit × Int)} {w w1 w2 : Int} (h1 : Mo b w b1 w1) (h2 : Mo b1 w1 b2 w2) : Mo b w b2 w2 := fun h => by
  obtain ⟨a1, a2⟩ := h1 h
  obtain ⟨a3, a4⟩ := h2 a1
  exact ⟨a3, by omega⟩
theorem Cov.mo {l : List PL} {b b' : List (Unit × Int)} {w w' : Int} {v : List Int} (h : Cov l b w v) (m : Mo b w b' w') : Cov l b' w' v := by
  obtain ⟨a1, a2⟩ := m h.1
  exact ⟨a1, by have := h.2; omega⟩
theorem scan2 (k : Nat) (rec : SS → Int → Option (SS × Unit)) (l : List PL) (hn : l.length ≤ 8) (p : List Int) (hp : p.length = l.length) (z : List (Unit × Int) × Int × Unit) (W : Int) : ∀ (j i : Nat), i ≤ l.length → l.length < i + j → (∀ a, a < i → gv p a ≠ -2) →
    ∃ m, m ≤ l.length ∧ l15_2 k rec j (l, p, z) W i = some ((l, p, z), W, (m : Int), ()) ∧ (∀ a, a < m → gv p a ≠ -2) ∧ (m < l.length → gv p m = -2)
  | 0, i, h, h', _ => by omega
  | j + 1, i, h, h', ha => by
    rw [l15_2]
    dsimp only
    by_cases hi : i < l.length
    · rw [bt1 (show (i : Int) < (l.length : Int) by omega), bt2 ⟨by omega, by omega⟩]
      by_cases e : gv p i = -2
      · rw [beq1 (show rd (0 : Int) p (i : Int) = -2 from e)]
        exact ⟨i, h, rfl, ha, fun _ => e⟩
      · rw [bne1 (show rd (0 : Int) p (i : Int) ≠ -2 from e), w1 hi (by omega)]
        exact scan2 k rec l hn p hp z W j (i + 1) (by omega) (by omega) (fun a h1 => by
          by_cases e2 : a = i
          · subst e2; exact e
          · exact ha a (by omega))
    · rw [bf1 (show ¬ (i : Int) < (l.length : Int) by omega)]
      exact ⟨i, h, rfl, ha, fun h => absurd h hi⟩
theorem free4 (k : Nat) (l : List PL) (hn : l.length ≤ 8) (p : List Int) (hp : p.length = l.length) (z : List (Unit × Int) × Int × Unit) : ∀ (j i : Nat), i ≤ p.length → p.length < i + j →
    (l21_4 k j (l, p, z) () p.length i = some (.inl ((l, p, z), ())) ∧ ∀ a, i ≤ a → a < p.length → gv p a ≠ -1) ∨
    (l21_4 k j (l, p, z) () p.length i = some (.inr ((l, p, z), false, ())) ∧ ∃ a, a < p.length ∧ gv p a = -1)
  | 0, i, h, h' => by omega
  | j + 1, i, h, h' => by
    rw [l21_4]
    dsimp only
    by_cases hi : i < p.length
    · rw [bt1 (show (i : Int) < (p.length : Int) by omega), bt2 ⟨by omega, by omega⟩]
      by_cases e : gv p i = -1
      · rw [be1 (show rd (0 : Int) p (i : Int) = -1 from e)]
        exact .inr ⟨rfl, i, hi, e⟩
      · rw [bn1 (show rd (0 : Int) p (i : Int) ≠ -1 from e), w1 hi (by omega)]
        rcases free4 k l hn p hp z j (i + 1) (by omega) (by omega) with ⟨h1, h2⟩ | h1
        · exact .inl ⟨h1, all_step e h2⟩
        · exact .inr h1
    · rw [bf1 (show ¬ (i : Int) < (p.length : Int) by omega)]
      exact .inl ⟨rfl, fun a h1 h2 => by omega⟩
theorem free_eq (l : List PL) (hn : l.length ≤ 8) (p : List Int) (hp : p.length = l.length) (z : List (Unit × Int) × Int × Unit) : ∃ r, f21 9000 (l, p, z) = some (r, (l, p, z), ()) ∧ (r = true ↔ l.length % 2 = 1 ∧ ∀ a, a < l.length → gv p a ≠ -1) := by
  unfold f21
  dsimp only
  have ht : (l.length : Int).tmod 2 = (l.length : Int) % 2 := Int.tmod_eq_emod_of_nonneg (by omega)
  by_cases he : l.length % 2 = 1
  · rw [bn1 (by omega)]
    rcases free4 9000 l hn p hp z 9000 0 (by omega) (by omega) with ⟨h1, h2⟩ | ⟨h1, a, h2, h3⟩
    · rw [show ((0 : Nat) : Int) = 0 from rfl] at h1
      rw [h1]
      exact ⟨true, rfl, fun _ => ⟨he, fun a ha => h2 a (Nat.zero_le _) (by omega)⟩, fun _ => rfl⟩
    · rw [show ((0 : Nat) : Int) = 0 from rfl] at h1
      rw [h1]
      exact ⟨false, rfl, fun h => absurd h (by decide), fun h => absurd h3 (h.2 a (by omega))⟩
  · rw [be1 (by omega)]
    exact ⟨false, rfl, fun h => absurd h (by decide), fun h => absurd h.1 he⟩
/-- What a call answers. -/
def TryR (l : List PL) (p : List Int) (b : List (Unit × Int)) (w : Int) (v : Option (SS × Unit)) : Prop :=
  ∃ b' w', v = some ((l, p, b', w', ()), ()) ∧ Bst l b' w' ∧ Mo b w b' w' ∧ ∀ v, Full l v → Ex l p v → Cov l b' w' v
section
variable {l : List PL}
theorem Full.at {v : List Int} (h : Full l v) {i : Nat} (hi : i < l.length) {a : Nat} (ha : gv v i = (a : Int)) : a < l.length ∧ a ≠ i ∧ gv v a = (i : Int) ∧ ¬ met l i a := by
  rcases h.1.ok i hi with e | ⟨e, _⟩ | ⟨j, hj, e, e2, e3, e4⟩
  · omega
  · omega
  · have : j = a := by omega
    subst this
    exact ⟨hj, e2, e3, e4⟩
theorem PW.at {v : List Int} (h : PW l v) {i : Nat} (hi : i < l.length) {a : Nat} (ha : gv v i = (a : Int)) : gv v a = (i : Int) := by
  rcases h.ok i hi with e | ⟨e, _⟩ | ⟨j, hj, e, e2, e3, e4⟩
  · omega
  · omega
  · have : j = a := by omega
    subst this
    exact e3
theorem try7 (hl : SwOK l) (d : Int) (rec : SS → Int → Option (SS × Unit)) (hrec : ∀ p b w W, PW l p → Par l p → Bst l b w → 2 * W = cst l p → cn l p (-2) < d → TryR l p b w (rec (l, p, b, w, ()) W))
    (p : List Int) (hp : PW l p) (hpar : Par l p) (W : Int) (hW : 2 * W = cst l p) (hd : cn l p (-2) < d + 1) (i : Nat) (hi : i < l.length) (hpi : gv p i = -2) : ∀ (j a : Nat) (b : List (Unit × Int)) (w : Int), i < a → a ≤ l.length → l.length < a + j → Bst l b w →
    ∃ b' w', l15_7 9000 rec j (l, p, b, w, ()) W i a = some ((l, p, b', w', ()), W, (i : Int), ()) ∧ Bst l b' w' ∧ Mo b w b' w' ∧ ∀ v, Full l v → Ex l p v → ∀ c : Nat, a ≤ c → gv v i = (c : Int) → Cov l b' w' v
  | 0, a, b, w, _, h, h', _ => by omega
  | j + 1, a, b, w, hia, h, h', hb => by
    have hlen := hp.len
    have hn := hl.n8
    rw [l15_7]
    dsimp only
    by_cases ha : a < l.length
    rotate_left
    · rw [bf1 (show ¬ (a : Int) < (l.length : Int) by omega)]
      exact ⟨b, w, rfl, hb, fun h => ⟨h, Int.le_refl _⟩, fun v hv _ c hc hvi => by have := (hv.at hi hvi).1; omega⟩
    rw [bt1 (show (a : Int) < (l.length : Int) by omega), bt2 ⟨by omega, by omega⟩]
    -- the case that a is passed over
    have skip : (∀ v, Full l v → Ex l p v → gv v i ≠ (a : Int)) → ∃ b' w', l15_7 9000 rec j (l, p, b, w, ()) W i (w64 ((a : Int) + 1)) = some ((l, p, b', w', ()), W, (i : Int), ()) ∧ Bst l b' w' ∧ Mo b w b' w' ∧ ∀ v, Full l v → Ex l p v → ∀ c : Nat, a ≤ c → gv v i = (c : Int) → Cov l b' w' v := by
      intro hno
      rw [w1 ha (by omega)]
      obtain ⟨b', w', q1, q2, q3, q4⟩ := try7 hl d rec hrec p hp hpar W hW hd i hi hpi j (a + 1) b w (by omega) (by omega) (by omega) hb
      refine ⟨b', w', q1, q2, q3, fun v hv he c hc hvi => ?_⟩
      by_cases e : c = a
      · subst e; exact absurd hvi (hno v hv he)
      · exact q4 v hv he c (by omega) hvi
    by_cases e1 : gv p a = -2
    rotate_left
    · rw [bn1 (show rd (0 : Int) p (a : Int) ≠ -2 from e1)]
      refine skip (fun v hv he hvi => ?_)
      have h1 := (hv.at hi hvi).2.2.1
      rw [he a ha e1] at h1
      have := hp.at ha h1
      omega
    rw [be1 (show rd (0 : Int) p (a : Int) = -2 from e1), times_eq l i hi a (hl.pl i hi).2.2.1]
    simp only [Option.bind_some]
    by_cases e2 : (opp l i).count (a : Int) = 0
    rotate_left
    · rw [bn1 (by omega)]
      refine skip (fun v hv he hvi => ?_)
      exact (hv.at hi hvi).2.2.2 (List.count_pos_iff.1 (by omega))
    have hm : ¬ met l i a := fun hm => by
      have := List.count_pos_iff.2 hm
      omega
    rw [be1 (by omega), bt2 ⟨by omega, by omega⟩, bt2 ⟨by omega, by rw [List.length_set]; omega⟩, cost_eq hl hi ha]
    simp only [Option.bind_some, Int.toNat_natCast]
    have hne : i ≠ a := by omega
    have hcst := pair_cst (l := l) hlen hi ha hne hpi e1
    have hbd := cst_bound hl hp
    have hcb := cc_bound hl hi ha
    obtain ⟨c1, c2⟩ := pair_cn (l := l) hlen hi ha hne hpi e1
    have hp2 := pair_ok hl hp hi ha hne hpi e1 hm
    rw [ws (by omega)]
    obtain ⟨b1, w1', q1, q2, q3, q4⟩ := hrec ((p.set i a).set a i) b w (W + cc l i a) hp2 (by unfold Par at hpar ⊢; rw [c1, c2]; omega) hb (by rw [hcst]; omega) (by rw [c1]; omega)
    rw [q1]
    simp only [Option.bind_some]
    rw [bt2 ⟨by omega, by rw [List.length_set, List.length_set]; omega⟩, bt2 ⟨by omega, by rw [List.length_set, List.length_set, List.length_set]; omega⟩, back2 (by omega) (by omega) hpi e1, w1 ha (by omega)]
    obtain ⟨b', w', r1, r2, r3, r4⟩ := try7 hl d rec hrec p hp hpar W hW hd i hi hpi j (a + 1) b1 w1' (by omega) (by omega) (by omega) q2
    refine ⟨b', w', r1, r2, q3.trans r3, fun v hv he c hc hvi => ?_⟩
    by_cases e : c = a
    · subst e
      refine (q4 v hv (fun x hx hx2 => ?_)).mo r3
      rw [pair_gv (l := l) hlen hi ha] at hx2 ⊢
      by_cases x1 : x = c
      · subst x1; rw [if_pos rfl]; exact (hv.at hi hvi).2.2.1
      · rw [if_neg x1] at hx2 ⊢
        by_cases x2 : x = i
        · subst x2; rw [if_pos rfl]; exact hvi
        · rw [if_neg x2] at hx2 ⊢; exact he x hx hx2
    · exact r4 v hv he c (by omega) hvi
theorem try_ok (hl : SwOK l) : ∀ (d : Nat) (p : List Int) (b : List (Unit × Int)) (w W : Int), PW l p → Par l p → Bst l b w → 2 * W = cst l p → cn l p (-2) < d → TryR l p b w (f15_at 9000 d (l, p, b, w, ()) W)
  | 0, p, b, w, W, hp, _, _, _, hd => by
    have := (S_bound (f := fun i => if gv p i = -2 then 1 else 0) (n := l.length) 1 (fun i _ => by split <;> omega)).1
    unfold cn at hd
    omega
  | d + 1, p, b, w, W, hp, hpar, hB, hW, hd => by
    have hrec : ∀ p b w W, PW l p → Par l p → Bst l b w → 2 * W = cst l p → cn l p (-2) < (d : Int) → TryR l p b w (f15_at 9000 d (l, p, b, w, ()) W) := fun p b w W h1 h2 h3 h4 h5 => try_ok hl d p b w W h1 h2 h3 h4 h5
    have hlen := hp.len
    have hn := hl.n8
    have hn2 := hl.n2
    have hbd := cst_bound hl hp
    rw [f15_at]
    generalize f15_at 9000 d = rec at hrec ⊢
    unfold f15_body
    dsimp only
    obtain ⟨m, hm, hscan, hs1, hs2⟩ := scan2 9000 rec l hn p hlen (b, w, ()) W 9000 0 (by omega) (by omega) (fun a h => by omega)
    rw [show ((0 : Nat) : Int) = 0 from rfl] at hscan
    rw [hscan]
    simp only [Option.bind_some]
    -- what stands behind the first look
    suffices key : (b = [] ∨ W < w) → TryR l p b w (bif (m : Int) == (l.length : Int) then
        bif decide ((([] : List Int).length + p.length) * 8 ≤ roomN) then
          bif nilB ([] ++ p) then none else some ((l, p, List.map (fun z : Int => ((), z)) ([] ++ p), W, ()), ())
        else none
      else
        (l15_7 9000 rec 9000 (l, p, b, w, ()) W m (w64 (m + 1))).bind fun o2 =>
        bif decide (0 ≤ o2.2.2.1) && decide (o2.2.2.1 < (o2.1.1.length : Int)) then
          bif !(rd D0 o2.1.1 o2.2.2.1).2.2.2.1 then
            (f21 9000 o2.1).bind fun r3 =>
            bif r3.1 then
              bif decide (0 ≤ o2.2.2.1) && decide (o2.2.2.1 < (r3.2.1.2.1.length : Int)) then
                (f22 9000 r3.2.1.1 o2.2.2.1).bind fun r4 =>
                (rec (r3.2.1.1, r3.2.1.2.1.set o2.2.2.1.toNat (-1), r3.2.1.2.2) (w64 (o2.2.1 + r4.1))).bind fun r5 =>
                bif decide (0 ≤ o2.2.2.1) && decide (o2.2.2.1 < (r5.1.2.1.length : Int)) then
                  some ((r5.1.1, r5.1.2.1.set o2.2.2.1.toNat (-2), r5.1.2.2), ())
                else none
              else none
            else some r3.2
          else some (o2.1, ())
        else none) by
      cases b with
      | nil => exact key (.inl rfl)
      | cons x r =>
        show TryR l p (x :: r) w (bif decide (W ≥ w) then _ else _)
        by_cases hw : W ≥ w
        · rw [bt1 hw]
          refine ⟨x :: r, w, rfl, hB, fun h => ⟨h, Int.le_refl _⟩, fun v hv he => ⟨by simp, ?_⟩⟩
          have := cst_ext hl hp hv.1 he
          omega
        · rw [bf1 hw]
          exact key (.inr (by omega))
    intro hbw
    by_cases hmn : m = l.length
    · subst hmn
      rw [be1 rfl, bt1 (by unfold roomN; simp; omega), List.nil_append]
      have hne : nilB p = false := by
        cases p with
        | nil => simp at hlen; omega
        | cons => rfl
      rw [hne]
      have hpn : p ≠ [] := by rintro rfl; simp at hlen; omega
      refine ⟨_, W, rfl, .inr ?_, fun h => ⟨by simpa using hpn, ?_⟩, fun v hv he => ⟨by simpa using hpn, ?_⟩⟩
      · rw [bl_map]; exact ⟨⟨hp, hs1⟩, hW, hpar⟩
      · rcases hbw with h1 | h1
        · exact absurd h1 h
        · omega
      · rw [hW, cst_same (l := l) (fun i hi => he i hi (hs1 i hi))]; exact Int.le_refl _
    have hml : m < l.length := by omega
    have hpm := hs2 hml
    rw [bn1 (by omega), w1 hml (by omega)]
    obtain ⟨b1, w1', q1, q2, q3, q4⟩ := try7 hl d rec hrec p hp hpar W hW (by omega) m hml hpm 9000 (m + 1) b w (by omega) (by omega) (by omega) hB
    rw [q1]
    simp only [Option.bind_some]
    rw [bt2 ⟨by omega, by omega⟩]
    -- whom m has: nobody (a bye), or one behind
    have cases2 : ∀ v, Full l v → Ex l p v → Cov l b1 w1' v ∨ (gv v m = -1 ∧ hb l m = false ∧ l.length % 2 = 1 ∧ ∀ a, a < l.length → gv p a ≠ -1) := by
      intro v hv he
      rcases hv.1.ok m hml with e | ⟨e, e2, e3⟩ | ⟨c, hc, e, e2, e3, _⟩
      · exact absurd e (hv.2 m hml)
      · refine .inr ⟨e, e2, e3, fun a ha ha2 => ?_⟩
        have h1 := he a ha (by omega)
        have h2 := hv.1.one a m ha hml (by omega) e
        subst h2
        omega
      · refine .inl (q4 v hv he c ?_ e)
        by_cases hcm : c < m
        · exfalso
          have h1 := he c hc (hs1 c hcm)
          rw [e3] at h1
          have := hp.at hc h1.symm
          omega
        · omega
    cases hbm : hb l m with
    | true =>
      rw [show (rd D0 l (m : Int)).2.2.2.1 = true from hbm]
      simp only [Bool.not_true, cond_false]
      refine ⟨b1, w1', rfl, q2, q3, fun v hv he => ?_⟩
      rcases cases2 v hv he with h1 | ⟨_, h1, _⟩
      · exact h1
      · rw [hbm] at h1; cases h1
    | false =>
      rw [show (rd D0 l (m : Int)).2.2.2.1 = false from hbm]
      simp only [Bool.not_false, cond_true]
      obtain ⟨r, hf, hfr⟩ := free_eq l hn p hlen (b1, w1', ())
      rw [hf]
      simp only [Option.bind_some]
      cases r with
      | false =>
        simp only [cond_false]
        refine ⟨b1, w1', rfl, q2, q3, fun v hv he => ?_⟩
        rcases cases2 v hv he with h1 | ⟨_, _, h1, h2⟩
        · exact h1
        · exact absurd (hfr.2 ⟨h1, h2⟩) (by decide)
      | true =>
        obtain ⟨f1, f2⟩ := hfr.1 rfl
        simp only [cond_true]
        rw [bt2 ⟨by omega, by omega⟩, bye_eq hl hml]
        simp only [Option.bind_some, Int.toNat_natCast]
        have hbb := bb_bound hl hml
        have hcst := bye_cst (l := l) hlen hml hpm
        obtain ⟨c1, c2⟩ := bye_cn (l := l) hlen hml hpm
        rw [ws (by omega)]
        obtain ⟨b2, w2', r1, r2, r3, r4⟩ := hrec (p.set m (-1)) b1 w1' (W + bb l m) (bye_ok hp hml hpm f2 hbm f1) (by unfold Par at hpar ⊢; rw [c1, c2]; omega) q2 (by rw [hcst]; omega) (by rw [c1]; omega)
        rw [r1]
        simp only [Option.bind_some]
        rw [bt2 ⟨by omega, by simp; omega⟩, back1 (by omega) hpm]
        refine ⟨b2, w2', rfl, r2, q3.trans r3, fun v hv he => ?_⟩
        rcases cases2 v hv he with h1 | ⟨h1, _⟩
        · exact h1.mo r3
        · refine r4 v hv (fun x hx hx2 => ?_)
          rw [gv_set _ _ _ (by omega)] at hx2 ⊢
          by_cases x1 : x = m
          · subst x1; rw [if_pos rfl]; exact h1
          · rw [if_neg x1] at hx2 ⊢; exact he x hx hx2
end
end Go.Proofs.Ytpfakfiaaidimaa.G
