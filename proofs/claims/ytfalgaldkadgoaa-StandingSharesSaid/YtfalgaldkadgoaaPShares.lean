/- Prizes: all that places get is distributed; who shares a place gets the same, up to one. -/
import Derived.Test.YtfalgaldkadgoaaPSums
namespace Go.Proofs.Ytfalgaldkadgoaa.G
open Go.VM Go.Proofs

def PrOK (l : List Int) : Prop := ∀ m : Nat, m < l.length → 0 ≤ rd 0 l m ∧ rd 0 l m ≤ 100000000
theorem prz_l (R : List RW) (p : List Int) (l : List Int) : ∀ (j i : Nat), i ≤ l.length → l.length < i + j → l.length ≤ 1000 →
    (l39_4 100 j R p l l.length i = some (.inl (R, p, ())) ∧ ∀ m : Nat, i ≤ m → m < l.length → 0 ≤ rd 0 l m ∧ rd 0 l m ≤ 100000000) ∨ l39_4 100 j R p l l.length i = some (.inr ([], 4, ()))
  | 0, i, h, h', _ => by omega
  | j + 1, i, h, h', hs => by
    rw [l39_4]
    by_cases hi : i < l.length
    · rw [bt1 (show (i : Int) < l.length by omega), bt2 (show (0 : Int) ≤ i ∧ (i : Int) < l.length by omega), ws (n := (i : Int) + 1) (by omega)]
      by_cases c1 : rd 0 l (i : Int) < 0
      · rw [bt1 c1]; exact .inr rfl
      · by_cases c2 : rd 0 l (i : Int) > 100000000
        · rw [bf1 c1, bt1 c2]; exact .inr rfl
        · rw [bf1 c1, bf1 c2]
          exact (prz_l R p l j (i + 1) (by omega) (by omega) hs).imp (fun h => ⟨h.1, all_step ⟨by omega, by omega⟩ h.2⟩) id
    · rw [bf1 (show ¬ (i : Int) < l.length by omega)]
      exact .inl ⟨rfl, fun m h1 h2 => by omega⟩
theorem prc_l (S R : List RW) (p : List Int) (hlen : S.length = R.length) (hl : R.length ≤ 32) (hR : ∀ p, p < S.length → Done S R p) : ∀ (j i : Nat), i ≤ R.length → R.length < i + j →
    l39_10 100 j R p R R.length i = some (.inl (R, p, ()))
  | 0, i, h, h' => by omega
  | j + 1, i, h, h' => by
    rw [l39_10]
    by_cases hi : i < R.length
    · obtain ⟨f, t, a1, a2, a3⟩ := hR i (by omega)
      have e : rd W0 R (i : Int) = at' R i := rfl
      have f1 := a3.1
      have f2 := a3.2.1
      have f3 := a3.2.2.1
      obtain ⟨f', t', b1, b2, b3⟩ := hR f (by omega)
      have u := a3.uniq b3 (Nat.le_refl _) (by omega)
      have e' : rd W0 R (f : Int) = at' R f := rfl
      rw [bt1 (show (i : Int) < R.length by omega), bt2 (show (0 : Int) ≤ i ∧ (i : Int) < R.length by omega), ws (n := (i : Int) + 1) (by omega)]
      simp only [e, a1, a2]
      rw [bf1 (by omega), bf1 (by omega), bf1 (by omega), bf1 (by omega), show w64 ((f : Int) + 1 - 1) = (f : Int) by rw [ws (by omega)]; omega, bt2 (by omega), bt2 (by omega)]
      simp only [e', b1, b2]
      rw [show (((f' : Int) + 1) != (f : Int) + 1) = false by simp; omega, show (((t' : Int) + 1) != (t : Int) + 1) = false by simp; omega]
      simp only [cond_false]
      rw [show ((i : Int) + 1) = ((i + 1 : Nat) : Int) by omega]
      exact prc_l S R p hlen hl hR j (i + 1) (by omega) (by omega)
    · rw [bf1 (show ¬ (i : Int) < R.length by omega)]

/-- The prizes of the first places. -/
def Wp (p : List Int) (i : Nat) : Int := (p.take i).sum
theorem Wp_succ (p : List Int) (i : Nat) : Wp p (i + 1) = Wp p i + p.getD i 0 := by
  unfold Wp
  by_cases h : i < p.length
  · rw [List.take_succ_eq_append_getElem h, List.sum_append]; simp [h]
  · rw [List.take_of_length_le (by omega), List.take_of_length_le (by omega)]; simp [show p.length ≤ i by omega]
theorem Wp_mono (p : List Int) (hp : PrOK p) : ∀ (d i : Nat), 0 ≤ Wp p (i + d) - Wp p i ∧ Wp p (i + d) - Wp p i ≤ 100000000 * d
  | 0, i => by simp
  | d + 1, i => by
    have ih := Wp_mono p hp d i
    rw [show i + (d + 1) = (i + d) + 1 by omega, Wp_succ]
    have : 0 ≤ p.getD (i + d) 0 ∧ p.getD (i + d) 0 ≤ 100000000 := by
      by_cases h : i + d < p.length
      · have e : rd 0 p ((i + d : Nat) : Int) = p.getD (i + d) 0 := by unfold rd; rw [Int.toNat_natCast]
        have := hp (i + d) h
        rw [e] at this; exact this
      · simp [show p.length ≤ i + d by omega]
    omega
theorem sumup_l (p : List Int) (hp : PrOK p) (hl : p.length ≤ 30) (out : List Int) (i : Int) (r : RW) (R : List RW) (a b : Int) (t : Nat) (ht : r.2.2.2.2.1 = t + 1) (ht2 : t < 40) (f : Nat) : ∀ (j k : Nat) (s : Int), f ≤ k → k ≤ t + 1 → t + 1 < k + j → s = Wp p k - Wp p f →
    l39_21 100 j p out i r s k R a b = some (p, out, i, r, Wp p (t + 1) - Wp p f, R, a, b, ())
  | 0, k, s, h1, h2, h3, h4 => by omega
  | j + 1, k, s, h1, h2, h3, h4 => by
    rw [l39_21, ht]
    by_cases c : k < t + 1
    · rw [bt1 (show (k : Int) < (t : Int) + 1 by omega)]
      by_cases d : k < p.length
      · rw [bt1 (show (k : Int) < p.length by omega), bt2 (by omega), ws (n := (k : Int) + 1) (by omega), show ((k : Int) + 1) = ((k + 1 : Nat) : Int) by omega]
        have e : rd 0 p (k : Int) = p.getD k 0 := by unfold rd; simp
        have h5 := Wp_mono p hp (k + 1 - f) f
        rw [show f + (k + 1 - f) = k + 1 by omega, Wp_succ] at h5
        refine sumup_l p hp hl out i r R a b t ht ht2 f j (k + 1) _ (by omega) (by omega) (by omega) ?_
        rw [h4, e, ws (by omega), Wp_succ]; omega
      · rw [bf1 (show ¬ (k : Int) < p.length by omega)]
        have : Wp p (t + 1) = Wp p k := by unfold Wp; rw [List.take_of_length_le (by omega), List.take_of_length_le (by omega)]
        rw [this, h4]
    · rw [bf1 (show ¬ (k : Int) < (t : Int) + 1 by omega)]
      have : k = t + 1 := by omega
      rw [← this, h4]
/-- What row i gets: those who share have the quotient, the first ones one more. -/
def Gets (p : List Int) (i f t : Nat) : Int := (Wp p (t + 1) - Wp p f) / (t + 1 - f : Nat) + if ((i - f : Nat) : Int) < (Wp p (t + 1) - Wp p f) % (t + 1 - f : Nat) then 1 else 0
theorem out_l (S R : List RW) (p : List Int) (hp : PrOK p) (hpl : p.length ≤ 30) (hlen : S.length = R.length) (hl : R.length ≤ 32) (hR : ∀ p, p < S.length → Done S R p) : ∀ (j i : Nat) (o : List Int), i ≤ R.length → R.length < i + j → o.length = R.length →
    (∀ q f t, q < i → FT S q f t → o.getD q 0 = Gets p q f t) →
    ∃ o', l39_17 100 j p o R R.length i = some (o', ()) ∧ o'.length = R.length ∧ ∀ q f t, q < R.length → FT S q f t → o'.getD q 0 = Gets p q f t
  | 0, i, o, h, h', _, _ => by omega
  | j + 1, i, o, h, h', ho, hg => by
    rw [l39_17]
    by_cases hi : i < R.length
    · obtain ⟨f, t, a1, a2, a3⟩ := hR i (by omega)
      have e : rd W0 R (i : Int) = at' R i := rfl
      have f1 := a3.1
      have f2 := a3.2.1
      have f3 := a3.2.2.1
      rw [bt1 (show (i : Int) < R.length by omega), bt2 (show (0 : Int) ≤ i ∧ (i : Int) < R.length by omega)]
      simp only [e, a1]
      rw [show w64 ((f : Int) + 1 - 1) = (f : Int) by rw [ws (by omega)]; omega]
      rw [sumup_l p hp hpl o i (at' R i) R R.length i t a2 (by omega) f 100 f 0 (Nat.le_refl _) (by omega) (by omega) (by omega)]
      simp only [Option.bind_some, a1, a2]
      have hb := Wp_mono p hp (t + 1 - f) f
      rw [show f + (t + 1 - f) = t + 1 by omega] at hb
      have em : w64 (w64 ((t : Int) + 1 - ((f : Int) + 1)) + 1) = ((t + 1 - f : Nat) : Int) := by rw [ws (n := (t : Int) + 1 - ((f : Int) + 1)) (by omega), ws (by omega)]; omega
      have ei : w64 (w64 ((i : Int) - ((f : Int) + 1)) + 1) = ((i - f : Nat) : Int) := by rw [ws (n := (i : Int) - ((f : Int) + 1)) (by omega), ws (by omega)]; omega
      rw [em, ei]
      generalize hm : t + 1 - f = m at *
      generalize hw : Wp p (t + 1) - Wp p f = w at *
      have hm1 : 1 ≤ m := by omega
      have q0 := Int.ediv_nonneg (a := w) (b := (m : Int)) hb.1 (by omega)
      have q1 := Int.ediv_le_self (a := w) (m : Int) hb.1
      have e1 : w64 (w.tdiv (m : Int)) = w / (m : Int) := by rw [Int.tdiv_eq_ediv_of_nonneg hb.1]; exact ws (by omega)
      have e2 : w.tmod (m : Int) = w % (m : Int) := Int.tmod_eq_emod_of_nonneg hb.1
      rw [e1, e2, bf1 (by omega), bt2 (by omega), bf1 (by omega)]
      simp only [List.length_set, Int.toNat_natCast]
      have new : ∀ v : Int, v = Gets p i f t → ∀ q f t, q < i + 1 → FT S q f t → (o.set i v).getD q 0 = Gets p q f t := by
        intro v hv q g2 t2 hq hft
        rw [getD_set _ _ _ _ (by omega)]
        by_cases c : i = q
        · subst c
          have := a3.uniq hft f1 f2
          rw [if_pos rfl, hv, this.1, this.2]
        · rw [if_neg c]; exact hg q g2 t2 (by omega) hft
      by_cases c : ((i - f : Nat) : Int) < w % (m : Int)
      · rw [bt1 c, bt2 (by omega), bt2 (by omega), ws (n := (i : Int) + 1) (by omega)]
        have e3 : rd 0 (o.set i (w / (m : Int))) (i : Int) = w / (m : Int) := by unfold rd; rw [Int.toNat_natCast, getD_set _ _ _ _ (by omega), if_pos rfl]
        rw [e3, List.set_set, ws (n := w / (m : Int) + 1) (by omega)]
        exact out_l S R p hp hpl hlen hl hR j (i + 1) _ (by omega) (by omega) (by simpa using ho) (new _ (by unfold Gets; rw [hm, hw, if_pos c]))
      · rw [bf1 c, ws (n := (i : Int) + 1) (by omega)]
        exact out_l S R p hp hpl hlen hl hR j (i + 1) _ (by omega) (by omega) (by simpa using ho) (new _ (by unfold Gets; rw [hm, hw, if_neg c]; omega))
    · rw [bf1 (show ¬ (i : Int) < R.length by omega)]
      exact ⟨o, rfl, ho, fun q f t hq hft => hg q f t (by omega) hft⟩
theorem prizes_tot (S R : List RW) (p : List Int) (hpl : p.length ≤ 30) (hlen : S.length = R.length) (hl : R.length ≤ 32) (hR : ∀ p, p < S.length → Done S R p) :
    f39 100 R p = some ([], 4, ()) ∨ (PrOK p ∧ ∃ o, f39 100 R p = some (o, 0, ()) ∧ o.length = R.length ∧ ∀ q f t, q < R.length → FT S q f t → o.getD q 0 = Gets p q f t) := by
  unfold f39
  rw [bf1 (show ¬ (R.length : Int) > 32 by omega), bf1 (show ¬ (p.length : Int) > 32 by omega)]
  rcases prz_l R p p 100 0 (by omega) (by omega) (by omega) with ⟨h, h1⟩ | h
  · rw [show ((0 : Nat) : Int) = 0 from rfl] at h
    have hp : PrOK p := fun m hm => h1 m (by omega) hm
    refine .inr ⟨hp, ?_⟩
    rw [h]
    simp only [Option.bind_some, Sum.elim_inl]
    have h2 := prc_l S R p hlen hl hR 100 0 (by omega) (by omega)
    rw [show ((0 : Nat) : Int) = 0 from rfl] at h2
    rw [h2]
    simp only [Option.bind_some, Sum.elim_inl]
    rw [decide_eq_true (show (0 : Int) ≤ R.length by omega), decide_eq_true (show (R.length : Int) ≤ R.length by omega), decide_eq_true (show ((8 : Nat) : Int) * R.length ≤ 281474976710656 by omega), decide_eq_true (show (R.length : Int) ≤ 9223372036854775807 by omega)]
    simp only [Bool.and_self, cond_true, Int.toNat_natCast]
    obtain ⟨o', e1, e2, e3⟩ := out_l S R p hp hpl hlen hl hR 100 0 (List.replicate R.length 0) (by omega) (by omega) (by simp) (fun q f t hq => by omega)
    rw [show ((0 : Nat) : Int) = 0 from rfl] at e1
    rw [e1]
    exact ⟨o', rfl, e2, e3⟩
  · rw [show ((0 : Nat) : Int) = 0 from rfl] at h
    rw [h]
    exact .inl rfl
theorem zero_part (x q M : Int) (h : 0 ≤ M) : x = x + (((0 : Nat) : Int) * q + min ((0 : Nat) : Int) M) := by
  simp; omega
/-- What the first rows of those who share get together. -/
theorem part (w : Int) (m k : Nat) (hm : 0 < m) (hk : k < m) (hw : 0 ≤ w) (x : Int) (hx : x = k * (w / m) + min (k : Int) (w % m)) : x + (w / m + if (k : Int) < w % m then 1 else 0) = (k + 1 : Nat) * (w / m) + min ((k + 1 : Nat) : Int) (w % m) := by
  have : (((k + 1 : Nat) : Int)) * (w / m) = k * (w / m) + w / m := by rw [Int.natCast_add, Int.add_mul]; simp
  rw [this, hx]
  split <;> omega
theorem whole (w : Int) (m : Nat) (hm : 0 < m) : (m : Int) * (w / m) + min (m : Int) (w % m) = w := by
  have h1 := Int.emod_lt_of_pos w (show (0 : Int) < m by omega)
  have h2 := Int.mul_ediv_add_emod w m
  omega
theorem share_l (S R : List RW) (p o : List Int) (hp : PrOK p) (hpl : p.length ≤ 30) (hlen : S.length = R.length) (hl : R.length ≤ 32) (hR : ∀ p, p < S.length → Done S R p) (ho : o.length = R.length) (hg : ∀ q f t, q < R.length → FT S q f t → o.getD q 0 = Gets p q f t) :
    ∀ (j i : Nat) (x : Int), i ≤ R.length → R.length < i + j → (i < R.length → ∀ f t, FT S i f t → x = Wp p f + ((i - f : Nat) * ((Wp p (t + 1) - Wp p f) / (t + 1 - f : Nat)) + min ((i - f : Nat) : Int) ((Wp p (t + 1) - Wp p f) % (t + 1 - f : Nat)))) → (i = R.length → x = Wp p i) →
    l14_14 100 j p R o (w64 (Wp p i)) (w64 x) R.length i = some (.inl (w64 (Wp p R.length), w64 (Wp p R.length), ()))
  | 0, i, x, h, h', _, _ => by omega
  | j + 1, i, x, h, h', hx, hx2 => by
    rw [l14_14]
    by_cases hi : i < R.length
    · obtain ⟨f, t, a1, a2, a3⟩ := hR i (by omega)
      have f1 := a3.1
      have f2 := a3.2.1
      have f3 := a3.2.2.1
      have hb := Wp_mono p hp (t + 1 - f) f
      rw [show f + (t + 1 - f) = t + 1 by omega] at hb
      have hgi := hg i f t hi a3
      have nx : w64 (w64 x + rd 0 o (i : Int)) = w64 (x + o.getD i 0) := by rw [w_add]; unfold rd; simp
      have ih := share_l S R p o hp hpl hlen hl hR ho hg j (i + 1) (x + o.getD i 0) (by omega) (by omega)
      have hpart := part (Wp p (t + 1) - Wp p f) (t + 1 - f) (i - f) (by omega) (by omega) hb.1 _ rfl
      have hxx := hx hi f t a3
      have hsum : x + o.getD i 0 = Wp p f + (((i - f) + 1 : Nat) * ((Wp p (t + 1) - Wp p f) / (t + 1 - f : Nat)) + min (((i - f) + 1 : Nat) : Int) ((Wp p (t + 1) - Wp p f) % (t + 1 - f : Nat))) := by
        rw [hgi]; unfold Gets; omega
      have hfull : i = t → x + o.getD i 0 = Wp p (t + 1) := by
        intro e
        have := whole (Wp p (t + 1) - Wp p f) (t + 1 - f) (by omega)
        rw [hsum, show (i - f) + 1 = t + 1 - f by omega]; omega
      replace ih := ih (fun h2 f' t' ft' => by
        by_cases c : f' ≤ i
        · have u := ft'.uniq a3 c (by have := ft'.2.1; omega)
          rw [u.1, u.2, hsum, show i + 1 - f = (i - f) + 1 by omega]
        · have g1 := ft'.1
          have : f' = i + 1 := by omega
          subst this
          have ht : i = t := by
            refine Nat.le_antisymm f2 (Nat.le_of_not_lt fun c2 => ?_)
            have k1 := a3.2.2.2.1 (i + 1) (by omega) (by omega)
            exact ft'.2.2.2.2.1 (by omega) k1.symm
          rw [hfull ht, show i + 1 - (i + 1) = 0 by omega, ← ht]
          have k0 := Int.emod_nonneg (Wp p (t' + 1) - Wp p (i + 1)) (b := ((t' + 1 - (i + 1) : Nat) : Int)) (by have := ft'.2.1; omega)
          exact zero_part _ _ _ k0) (fun h2 => by rw [hfull (by omega)]; congr 1; omega)
      rw [show (((i + 1 : Nat)) : Int) = (i : Int) + 1 by omega, ← nx] at ih
      have pw : i < p.length → w64 (w64 (Wp p i) + rd 0 p (i : Int)) = w64 (Wp p (i + 1)) := fun _ => by rw [w_add, Wp_succ]; unfold rd; simp
      have pn : ¬ i < p.length → w64 (Wp p i) = w64 (Wp p (i + 1)) := fun h => by rw [Wp_succ]; simp [show p.length ≤ i by omega]
      -- neighbours
      have nb : 0 < i → (rd W0 R (i : Int)).2.2.2.1 = (rd W0 R ((i - 1 : Nat) : Int)).2.2.2.1 → ¬ (rd 0 o (i : Int) > rd 0 o ((i - 1 : Nat) : Int)) ∧ ¬ (rd 0 o (i : Int) < w64 (rd 0 o ((i - 1 : Nat) : Int) - 1)) := by
        intro h0 hq
        obtain ⟨f', t', b1, b2, b3⟩ := hR (i - 1) (by omega)
        have q1 : f = f' := by
          have z1 : (at' R i).2.2.2.1 = (at' R (i - 1)).2.2.2.1 := hq
          rw [a1, b1] at z1; omega
        subst q1
        have g1 := b3.1
        have u := a3.uniq b3 (by omega) (by omega)
        have hg1 := hg (i - 1) f t (by omega) (u.2 ▸ b3)
        have r1 : rd 0 o (i : Int) = o.getD i 0 := by unfold rd; simp
        have r2 : rd 0 o ((i - 1 : Nat) : Int) = o.getD (i - 1) 0 := by unfold rd; simp
        have q0 := Int.ediv_nonneg (a := Wp p (t + 1) - Wp p f) (b := ((t + 1 - f : Nat) : Int)) hb.1 (by omega)
        have q1 := Int.ediv_le_self (a := Wp p (t + 1) - Wp p f) ((t + 1 - f : Nat) : Int) hb.1
        rw [r1, r2, hgi, hg1]
        unfold Gets
        generalize (Wp p (t + 1) - Wp p f) / ((t + 1 - f : Nat) : Int) = Q at *
        generalize (Wp p (t + 1) - Wp p f) % ((t + 1 - f : Nat) : Int) = M at *
        rw [ws (by split <;> omega)]
        constructor <;> (split <;> split <;> omega)
      have fin : ∀ y, y = w64 (Wp p (i + 1)) → (bif decide (0 ≤ (i : Int)) && decide ((i : Int) < (o.length : Int)) then
          bif decide ((i : Int) > 0) then
            bif decide (0 ≤ (i : Int)) && decide ((i : Int) < (R.length : Int)) then
              bif decide (0 ≤ (w64 ((i : Int) - 1))) && decide ((w64 ((i : Int) - 1)) < (R.length : Int)) then
                bif (rd W0 R (i : Int)).2.2.2.1 == (rd W0 R (w64 ((i : Int) - 1))).2.2.2.1 then
                  bif decide (0 ≤ (i : Int)) && decide ((i : Int) < (o.length : Int)) then
                    bif decide (0 ≤ (w64 ((i : Int) - 1))) && decide ((w64 ((i : Int) - 1)) < (o.length : Int)) then
                      bif decide ((rd 0 o (i : Int)) > (rd 0 o (w64 ((i : Int) - 1)))) then
                        some (.inr (false, ()))
                      else
                      bif decide (0 ≤ (i : Int)) && decide ((i : Int) < (o.length : Int)) then
                        bif decide (0 ≤ (w64 ((i : Int) - 1))) && decide ((w64 ((i : Int) - 1)) < (o.length : Int)) then
                          bif decide ((rd 0 o (i : Int)) < (w64 ((rd 0 o (w64 ((i : Int) - 1))) - 1))) then
                            some (.inr (false, ()))
                          else
                            l14_14 100 j p R o y (w64 (w64 x + (rd 0 o (i : Int)))) R.length (w64 ((i : Int) + 1))
                        else
                          none
                      else
                        none
                    else
                      none
                  else
                    none
                else
                  l14_14 100 j p R o y (w64 (w64 x + (rd 0 o (i : Int)))) R.length (w64 ((i : Int) + 1))
              else
                none
            else
              none
          else
            l14_14 100 j p R o y (w64 (w64 x + (rd 0 o (i : Int)))) R.length (w64 ((i : Int) + 1))
        else
          (none : Option ((Int × Int × Unit) ⊕ (Bool × Unit)))) = some (.inl (w64 (Wp p R.length), w64 (Wp p R.length), ())) := by
        intro y hy
        subst hy
        rw [ws (n := (i : Int) + 1) (by omega), bt2 (show (0 : Int) ≤ i ∧ (i : Int) < o.length by omega)]
        by_cases d : 0 < i
        · rw [bt1 (show (i : Int) > 0 by omega), show w64 ((i : Int) - 1) = ((i - 1 : Nat) : Int) by rw [ws (by omega)]; omega, bt2 (by omega), bt2 (by omega)]
          by_cases q : (rd W0 R (i : Int)).2.2.2.1 = (rd W0 R ((i - 1 : Nat) : Int)).2.2.2.1
          · have := nb d q
            rw [show ((rd W0 R (i : Int)).2.2.2.1 == (rd W0 R ((i - 1 : Nat) : Int)).2.2.2.1) = true by rw [q]; exact beq_self_eq_true _]
            simp only [cond_true]
            rw [bt2 (by omega), bt2 (by omega), bf1 this.1, bt2 (by omega), bt2 (by omega), bf1 this.2]
            exact ih
          · rw [show ((rd W0 R (i : Int)).2.2.2.1 == (rd W0 R ((i - 1 : Nat) : Int)).2.2.2.1) = false by simpa using q]
            exact ih
        · rw [bf1 (show ¬ (i : Int) > 0 by omega)]
          exact ih
      rw [bt1 (show (i : Int) < R.length by omega)]
      by_cases c : i < p.length
      · rw [bt1 (show (i : Int) < p.length by omega), bt2 (show (0 : Int) ≤ i ∧ (i : Int) < p.length by omega)]
        exact fin _ (pw c)
      · rw [bf1 (show ¬ (i : Int) < p.length by omega)]
        exact fin _ (pn c)
    · rw [bf1 (show ¬ (i : Int) < R.length by omega)]
      have : i = R.length := by omega
      rw [hx2 this, this]
theorem shares_pure (n : Int) (l : List GM) (p : List Int) : f14 100 n l p = some (true, ()) := by
  unfold f14
  rw [one_tab]
  simp only [Option.bind_some, Bool.not_true, cond_false]
  obtain ⟨c1, c2, c3⟩ := cutL l 60
  rw [show ((60 : Nat) : Int) = 60 from rfl] at c1 c2 c3
  obtain ⟨d1, d2, d3⟩ := cutL p 30
  rw [show ((30 : Nat) : Int) = 30 from rfl] at d1 d2 d3
  rw [bt2 ⟨c2, c3⟩, bt2 ⟨d2, d3⟩, c1, d1]
  have hl : (l.take 60).length ≤ 60 := by simp; omega
  have hpl : (p.take 30).length ≤ 30 := by simp; omega
  generalize l.take 60 = l at hl
  generalize p.take 30 = p at hpl
  rcases table_tot n l hl with ⟨e, he, h⟩ | ⟨h1, h2, R, S, h, h3, h4, h5, h6, h7⟩
  · rw [h]
    simp only [Option.bind_some]
    rw [show (e != 0) = true by simpa using he]
    rfl
  · rw [h]
    simp only [Option.bind_some, show ((0 : Int) != 0) = false from rfl, cond_false]
    have hR : ∀ p, p < S.length → Done S R p := fun p hp => (h7 p hp).2
    rcases prizes_tot S R p hpl h4 (by omega) hR with h | ⟨hp, o, h, ho, hg⟩
    · rw [h]; rfl
    · rw [h]
      simp only [Option.bind_some, show ((0 : Int) != 0) = false from rfl, cond_false]
      rw [show ((o.length : Int) != n) = false by simp; omega]
      simp only [cond_false]
      have := share_l S R p o hp hpl h4 (by omega) hR ho hg 100 0 0 (by omega) (by omega) (fun hi f t ft => by
        have := ft.1
        have : f = 0 := by omega
        subst this
        have k0 := Int.emod_nonneg (Wp p (t + 1) - Wp p 0) (b := ((t + 1 - 0 : Nat) : Int)) (by omega)
        have e0 : Wp p 0 = 0 := by unfold Wp; simp
        have := zero_part (Wp p 0) ((Wp p (t + 1) - Wp p 0) / ((t + 1 - 0 : Nat) : Int)) _ k0
        rw [← this, e0]) (fun h => by omega)
      rw [show Wp p 0 = 0 by unfold Wp; simp, show w64 0 = 0 by rw [ws (by omega)], show ((0 : Nat) : Int) = 0 from rfl, ← ho] at this
      rw [this]
      simp
end Go.Proofs.Ytfalgaldkadgoaa.G
