/- PatternMore: a pattern with fewer conditions is found wherever the pattern is. -/
import Derived.Test.YtphgopfhobockaaPAt
import Derived.Test.YtphgopfhobockaaTPath
namespace Go.Proofs.Ytphgopfhobockaa.G
open Go.VM Go.Proofs
open Classical in
noncomputable def AtB (r : RU) (x : XP) (q : PO) (s : Nat) : Bool := decide (AtOK r x q s)
theorem rd_zeroP (p : PO) (qs : List PO) : rd P00 (p :: qs) ((0 : Nat) : Int) = p := rfl
theorem at_eq (r : RU) (x : XP) (q : PO) (s : Nat) (hx : XOK r x) (hq : POK r q) (hs : s < q.1.length) : f61 9000 r x q (s : Int) = some (AtB r x q s, ()) := by
  classical
  unfold AtB
  rcases at_spec r x q s hx hq hs with ⟨h1, h2⟩ | ⟨h1, h2⟩
  · rw [h1, decide_eq_true h2]
  · rw [h1, decide_eq_false h2]
/-- The hits of a position, from a square on. -/
noncomputable def rowH (r : RU) (x : XP) (q : PO) (ply : Int) : Nat → Nat → List MV
  | _, 0 => []
  | s, n + 1 => (if AtB r x q s = true then [((0 : Int), ply, (s : Int), ())] else []) ++ rowH r x q ply (s + 1) n
theorem rowH_len (r : RU) (x : XP) (q : PO) (ply : Int) : ∀ (n s : Nat), (rowH r x q ply s n).length ≤ n
  | 0, s => by simp [rowH]
  | n + 1, s => by
    have := rowH_len r x q ply n (s + 1)
    rw [rowH]
    split <;> simp <;> omega
section
variable {r : RU}
theorem hit22 (x : XP) (hx : XOK r x) (q : PO) (hq : POK r q) (a : List MV) (ply : Int) (ga : List (List MV)) (s47 s48 s57 : Int) : ∀ (j i : Nat) (out : List MV), i ≤ q.1.length → q.1.length < i + j → out.length + (q.1.length - i) ≤ 4000 →
    l32_22 9000 j r x out 0 a q ply ga s47 s48 s57 ply (q.1.length : Int) i = some (r, x, out ++ rowH r x q ply i (q.1.length - i), 0, a, q, ply, ga, s47, s48, s57, ply, ())
  | 0, i, out, h, h', _ => by omega
  | j + 1, i, out, h, h', ho => by
    have hl := hq.len64
    rw [l32_22]
    by_cases hi : i < q.1.length
    · have e : ((i : Int) + 1) = ((i + 1 : Nat) : Int) := by omega
      rw [bt1 (show (i : Int) < q.1.length by omega), at_eq r x q i hx hq hi]
      simp only [Option.bind_some]
      rw [ws (by omega), e, show q.1.length - i = (q.1.length - (i + 1)) + 1 by omega, rowH]
      cases hb : AtB r x q i
      · simp only [cond_false, if_neg Bool.false_ne_true, List.nil_append]
        exact hit22 x hx q hq a ply ga s47 s48 s57 j (i + 1) out (by omega) (by omega) (by omega)
      · simp only [cond_true, if_true]
        rw [bt1 (by simp; unfold roomN; omega), hit22 x hx q hq a ply ga s47 s48 s57 j (i + 1) _ (by omega) (by omega) (by simp; omega)]
        simp
    · rw [bf1 (show ¬ (i : Int) < q.1.length by omega), show q.1.length - i = 0 by omega, rowH, List.append_nil]
/-- The hits of the positions from one on. -/
noncomputable def allH (r : RU) (x : XP) : List PO → Nat → List MV
  | [], _ => []
  | q :: l, ply => rowH r x q (ply : Int) 0 q.1.length ++ allH r x l (ply + 1)
theorem allH_len (x : XP) (B : Nat) : ∀ (l : List PO) (ply : Nat), (∀ q ∈ l, q.1.length ≤ B) → (allH r x l ply).length ≤ B * l.length
  | [], _, _ => by simp [allH]
  | q :: l, ply, h => by
    have h1 := rowH_len r x q (ply : Int) q.1.length 0
    have h2 := allH_len x B l (ply + 1) (fun z hz => h z (List.mem_cons_of_mem _ hz))
    have h3 := h q (by simp)
    rw [allH, List.length_append, List.length_cons, Nat.mul_add, Nat.mul_one]
    omega
theorem hit19 (x : XP) (hx : XOK r x) {a : List MV} {p : PO} {qs : List PO} (hp : POK r p) (h : Path r p a qs) (ha : a.length ≤ 40) (ga : List (List MV)) (s47 s48 : Int) : ∀ (j i : Nat) (out : List MV), i ≤ a.length + 1 → a.length + 1 < i + j → out.length ≤ 64 * i →
    l32_19 9000 j r x out 0 a (rd P00 (p :: qs) ((min i a.length : Nat) : Int)) ga s47 s48 ((a.length + 1 : Nat) : Int) i = some (r, x, out ++ allH r x ((p :: qs).drop i) i, ga, s47, s48, ())
  | 0, i, out, h1, h2, _ => by omega
  | j + 1, i, out, h1, h2, ho => by
    have hlen := h.len
    have hall : ∀ q ∈ p :: qs, POK r q := by
      intro q hq
      rcases List.mem_cons.1 hq with rfl | hq
      · exact hp
      · exact h.pok q hq
    rw [l32_19]
    by_cases hi : i < a.length + 1
    · have e : ((i : Int) + 1) = ((i + 1 : Nat) : Int) := by omega
      have em : min i a.length = i := by omega
      rw [bt1 (show (i : Int) < ((a.length + 1 : Nat) : Int) by omega), em]
      have hq := hall _ (rd_memL P00 (p :: qs) i (by simp; omega))
      have hl := hq.len64
      have h22 := hit22 x hx _ hq a (i : Int) ga s47 s48 ((a.length + 1 : Nat) : Int) 9000 0 out (by omega) (by omega) (by omega)
      rw [show ((0 : Nat) : Int) = 0 from rfl, Nat.sub_zero] at h22
      rw [h22]
      simp only [Option.bind_some]
      rw [ws (by omega), e, drop_rd P00 (p :: qs) i (by simp; omega), allH]
      have hrl := rowH_len r x (rd P00 (p :: qs) (i : Int)) (i : Int) (rd P00 (p :: qs) (i : Int)).1.length 0
      by_cases hi2 : i < a.length
      · rw [bt1 (show (i : Int) < a.length by omega), bt2 ⟨by omega, by omega⟩, show rd ((0, 0, 0, ()) : MV) a (i : Int) = rd M0 a (i : Int) from rfl, path_get h i hi2]
        simp only [Option.bind_some]
        have e3 : (i + 1 : Nat) = min (i + 1) a.length := by omega
        have := hit19 x hx hp h ha ga s47 s48 j (i + 1) (out ++ rowH r x (rd P00 (p :: qs) (i : Int)) (i : Int) 0 (rd P00 (p :: qs) (i : Int)).1.length) (by omega) (by omega) (by simp; omega)
        rw [← e3] at this
        rw [this, List.append_assoc]
      · rw [bf1 (show ¬ (i : Int) < a.length by omega)]
        have e3 : min (i + 1) a.length = i := by omega
        have := hit19 x hx hp h ha ga s47 s48 j (i + 1) (out ++ rowH r x (rd P00 (p :: qs) (i : Int)) (i : Int) 0 (rd P00 (p :: qs) (i : Int)).1.length) (by omega) (by omega) (by simp; omega)
        rw [e3] at this
        rw [this, List.append_assoc]
    · rw [bf1 (show ¬ (i : Int) < ((a.length + 1 : Nat) : Int) by omega), List.drop_eq_nil_of_le (by simp; omega)]
      simp [allH]
/-- **Where a pattern is in one game.** -/
theorem find_tot (r : RU) (x : XP) (a : List MV) (ha : a.length ≤ 40) (hg : r.2.2.2.2.1.length ≤ 20) : (∃ e, e ≠ 0 ∧ f32 9000 r x [a] = some ([], e, ())) ∨
    (Rz r ∧ XOK r x ∧ ∃ l : List PO, (∀ q ∈ l, POK r q) ∧ ∀ y, XOK r y → f32 9000 r y [a] = some (allH r y l 0, 0, ()) ∧ (allH r y l 0).length ≤ 1000) := by
  obtain ⟨e, he, hok⟩ := pat_tot r x
  by_cases h0 : e = 0
  rotate_left
  · left
    refine ⟨e, h0, ?_⟩
    unfold f32
    rw [he]
    simp only [Option.bind_some]
    rw [bne1 h0]
  obtain ⟨hz, hx⟩ := hok h0
  have find : ∀ y, XOK r y → f32 9000 r y [a] = ((l32_7 9000 9000 [a] r y [a] 1 0).bind fun w28 => Sum.elim (fun y2 => (l32_15 9000 9000 y2.2.1 y2.2.2.1 [] y2.1 (y2.1.length : Int) 0).bind fun o3 => bif decide ((o3.1.length : Int) > 1000) then some ([], 9, ()) else some (o3.1, 0, ())) (fun y4 => some y4) w28) := by
    intro y hy
    unfold f32
    rw [pat_ok hz hy]
    simp only [Option.bind_some]
    rw [beq1 rfl, bf1 (by simp)]
    rfl
  have e1 : w64 (0 + 1) = 1 := by decide
  rcases run_tot r a (by omega) with ⟨_, g, xx, hpl, hgo, hp, _, hrun⟩ | ⟨⟨e, he, hrun⟩, _⟩
  · right
    obtain ⟨_, qs, hs, hpath⟩ := hgo
    rw [hp] at hpath
    have hf := fresh_pok hz.ok
    have hall : ∀ q ∈ fresh r :: qs, POK r q := by
      intro q hq
      rcases List.mem_cons.1 hq with rfl | hq
      · exact hf
      · exact hpath.pok q hq
    refine ⟨hz, hx, fresh r :: qs, hall, fun y hy => ?_⟩
    have hlen := hpath.len
    have hbound : (allH r y (fresh r :: qs) 0).length ≤ 1000 := by
      have := allH_len (r := r) y 20 (fresh r :: qs) 0 (fun q hq => by
        have h1 := (hall q hq).len
        have h2 := hz.ok.len
        omega)
      simp only [List.length_cons] at this
      omega
    refine ⟨?_, hbound⟩
    rw [find y hy, l32_7, bt1 (by decide), bt2 ⟨by decide, by simp⟩]
    rw [show rd ([] : List MV) [a] 0 = a from rfl, hrun]
    simp only [Option.bind_some]
    rw [beq1 rfl, e1, l32_7, bf1 (by decide)]
    simp only [Option.bind_some, Sum.elim_inl]
    rw [l32_15, bt1 (by simp), bt2 ⟨by decide, by simp⟩, fresh_eq hz.ok]
    simp only [Option.bind_some]
    rw [show rd ([] : List MV) [a] 0 = a from rfl, ws (n := (a.length : Int) + 1) (by omega)]
    have h19 := hit19 y hy hf hpath ha [a] (([a] : List (List MV)).length : Int) 0 9000 0 [] (by omega) (by omega) (by simp)
    rw [show ((a.length + 1 : Nat) : Int) = (a.length : Int) + 1 by omega, show ((0 : Nat) : Int) = 0 from rfl, show ((min 0 a.length : Nat) : Int) = ((0 : Nat) : Int) by simp, rd_zeroP] at h19
    rw [h19]
    simp only [Option.bind_some]
    rw [e1, l32_15, bf1 (by simp)]
    simp only [Option.bind_some, List.nil_append, List.drop_zero]
    rw [bf1 (by omega)]
  · left
    refine ⟨e, he, ?_⟩
    rw [find x hx, l32_7, bt1 (by decide), bt2 ⟨by decide, by simp⟩]
    rw [show rd ([] : List MV) [a] 0 = a from rfl, hrun]
    simp only [Option.bind_some]
    rw [bne1 he]
    rfl
/-! ### Fewer conditions -/
theorem rowH_sub {x y : XP} {q : PO} (ply : Int) : ∀ (n s : Nat), (∀ s', s ≤ s' → s' < s + n → AtOK r x q s' → AtOK r y q s') → (rowH r x q ply s n).Sublist (rowH r y q ply s n)
  | 0, s, _ => by simp [rowH]
  | n + 1, s, h => by
    rw [rowH, rowH]
    refine List.Sublist.append ?_ (rowH_sub ply n (s + 1) (fun s' h1 h2 => h s' (by omega) (by omega)))
    by_cases h1 : AtB r x q s = true
    · have h2 : AtB r y q s = true := by
        unfold AtB at h1 ⊢
        classical
        exact decide_eq_true (h s (by omega) (by omega) (of_decide_eq_true h1))
      rw [if_pos h1, if_pos h2]
      exact List.Sublist.refl _
    · rw [if_neg h1]
      exact List.nil_sublist _
theorem allH_sub {x y : XP} : ∀ (l : List PO) (ply : Nat), (∀ q ∈ l, ∀ s, s < q.1.length → AtOK r x q s → AtOK r y q s) → (allH r x l ply).Sublist (allH r y l ply)
  | [], _, _ => by simp [allH]
  | q :: l, ply, h => by
    rw [allH, allH]
    exact List.Sublist.append (rowH_sub _ _ 0 (fun s _ hs => h q (by simp) s (by omega))) (allH_sub l (ply + 1) (fun z hz => h z (List.mem_cons_of_mem _ hz)))
theorem fits_any (c : Int) : f88 9000 c (-1) = some (true, ()) := by
  unfold f88
  rw [be1 rfl]
theorem rd_setN (l : List Int) (i m : Nat) (v : Int) : rd 0 (l.set i v) (m : Int) = if i = m ∧ m < l.length then v else rd 0 l (m : Int) := by
  unfold rd
  rw [Int.toNat_natCast, List.getD_eq_getElem?_getD, List.getD_eq_getElem?_getD, List.getElem?_set]
  by_cases h : i = m
  · subst h
    by_cases h2 : i < l.length
    · simp [h2]
    · simp [h2]
  · simp [h]
theorem any_at {x : XP} {q : PO} {s i : Nat} (h : AtOK r x q s) : AtOK r (x.1, x.2.1, x.2.2.1.set i (-1), x.2.2.2) q s := by
  obtain ⟨h1, h2, h3⟩ := h
  refine ⟨h1, h2, fun m hm => ?_⟩
  have hm : m < x.2.2.1.length := by simpa using hm
  show f88 9000 _ (rd 0 (x.2.2.1.set i (-1)) (m : Int)) = _
  rw [rd_setN]
  split
  · exact fits_any _
  · exact h3 m hm
theorem any_xok {x : XP} {i : Nat} (h : XOK r x) : XOK r (x.1, x.2.1, x.2.2.1.set i (-1), x.2.2.2) := by
  refine ⟨h.w1, h.h1, h.w, h.h, by simpa using h.len, fun m hm => ?_, h.turn⟩
  have hm : m < x.2.2.1.length := by simpa using hm
  show -3 ≤ rd 0 (x.2.2.1.set i (-1)) (m : Int) ∧ rd 0 (x.2.2.1.set i (-1)) (m : Int) ≤ _
  rw [rd_setN]
  split
  · omega
  · exact h.cells m hm
end
theorem mv_test (x y : MV) : ((x.1 == y.1) && ((x.2.1 == y.2.1) && ((x.2.2.1 == y.2.2.1) && true))) = decide (x = y) := by
  obtain ⟨a, b, c, _⟩ := x
  obtain ⟨d, e, f, _⟩ := y
  by_cases h1 : a = d <;> by_cases h2 : b = e <;> by_cases h3 : c = f <;> simp [h1, h2, h3]
/-- A list that lies within another one, in order, is met in full. -/
theorem greedy16 (a b : List MV) (f : Int) (ha : a.length ≤ 1000) (hb : b.length ≤ 1000) : ∀ (j i k : Nat), i ≤ b.length → b.length < i + j → k ≤ a.length → (a.drop k).Sublist (b.drop i) → l8_16 9000 j a f (k : Int) b b.length i = some (a, f, (a.length : Int), ())
  | 0, i, k, h, h', _, _ => by omega
  | j + 1, i, k, h, h', hk, hs => by
    rw [l8_16]
    by_cases hi : i < b.length
    · have e : ((i : Int) + 1) = ((i + 1 : Nat) : Int) := by omega
      have e2 : ((k : Int) + 1) = ((k + 1 : Nat) : Int) := by omega
      rw [bt1 (show (i : Int) < b.length by omega), bt2 ⟨by omega, by omega⟩, ws (n := (i : Int) + 1) (by omega), ws (n := (k : Int) + 1) (by omega), e, e2]
      rw [drop_rd M0 b i hi] at hs
      by_cases hka : k < a.length
      · rw [bt1 (show (k : Int) < a.length by omega), bt2 ⟨by omega, by omega⟩]
        rw [show rd ((0, 0, 0, ()) : MV) a (k : Int) = rd M0 a (k : Int) from rfl, show rd ((0, 0, 0, ()) : MV) b (i : Int) = rd M0 b (i : Int) from rfl, mv_test]
        rw [drop_rd M0 a k hka] at hs
        by_cases hq : rd M0 a (k : Int) = rd M0 b (i : Int)
        · rw [decide_eq_true hq, cond_true]
          rw [hq] at hs
          exact greedy16 a b f ha hb j (i + 1) (k + 1) (by omega) (by omega) (by omega) (List.cons_sublist_cons.1 hs)
        · rw [decide_eq_false hq, cond_false]
          refine greedy16 a b f ha hb j (i + 1) k (by omega) (by omega) hk ?_
          rw [drop_rd M0 a k hka]
          generalize rd M0 a (k : Int) = u at hs hq ⊢
          generalize rd M0 b (i : Int) = v at hs hq
          cases hs with
          | cons _ h => exact h
          | cons_cons _ h => exact absurd rfl hq
      · rw [bf1 (show ¬ (k : Int) < a.length by omega)]
        refine greedy16 a b f ha hb j (i + 1) k (by omega) (by omega) hk ?_
        rw [List.drop_eq_nil_of_le (by omega)]
        exact List.nil_sublist _
    · rw [bf1 (show ¬ (i : Int) < b.length by omega)]
      rw [List.drop_eq_nil_of_le (show b.length ≤ i by omega)] at hs
      have := List.eq_nil_of_sublist_nil hs
      have hl : a.length ≤ k := List.drop_eq_nil_iff.1 this
      rw [show k = a.length by omega]
/-- **PatternMore**: a pattern with fewer conditions is found wherever the pattern is. -/
theorem more_pure (r : RU) (x : XP) (l : List MV) (at_ : Int) : f8 9000 r x l at_ = some (true, ()) := by
  unfold f8
  rw [patterns_pure]
  simp only [Option.bind_some, Bool.not_true, cond_false]
  rw [cut40]
  simp only [Option.bind_some]
  generalize hq : l.take 40 = a
  have hl : a.length ≤ 40 := by rw [← hq]; simp; omega
  unfold f12
  simp only [Option.bind_some]
  cases hgr : decide ((r.2.2.2.2.1.length : Int) > 20)
  rotate_left
  · rfl
  have hgr := of_decide_eq_false hgr
  simp only [cond_false]
  rcases find_tot r x a hl (by omega) with ⟨e, he, hf⟩ | ⟨hz, hx, ps, hps, hf⟩
  · rw [hf]
    simp only [Option.bind_some]
    rw [bne1 he]
    rfl
  obtain ⟨hfx, hbx⟩ := hf x hx
  rw [hfx]
  simp only [Option.bind_some]
  have hsq := hx.sq hz.ok
  have hlx := hx.len
  rw [beq1 rfl, bt1 (by simp; unfold roomN; omega)]
  simp only [List.nil_append]
  have fin : ∀ y : XP, XOK r y → (∀ q s, AtOK r x q s → AtOK r y q s) → ((f32 9000 r y [a]).bind fun r5 => (l8_16 9000 9000 (allH r x ps 0) r5.2.1 0 r5.1 (r5.1.length : Int) 0).bind fun o6 => bif o6.2.1 == 0 then some (o6.2.2.1 == (o6.1.length : Int), ()) else some (false, ())) = some (true, ()) := by
    intro y hy hxy
    obtain ⟨hfy, hby⟩ := hf y hy
    rw [hfy]
    simp only [Option.bind_some]
    have := greedy16 (allH r x ps 0) (allH r y ps 0) 0 hbx hby 9000 0 0 (by omega) (by omega) (by omega) (by
      rw [List.drop_zero, List.drop_zero]
      exact allH_sub ps 0 (fun q _ s _ h => hxy q s h))
    rw [show ((0 : Nat) : Int) = 0 from rfl] at this
    rw [this]
    simp only [Option.bind_some]
    rw [be1 rfl, beq_self_eq_true]
  by_cases h1 : at_ ≥ 0
  · rw [bt1 h1]
    by_cases h2 : at_ < (x.2.2.1.length : Int)
    · rw [bt1 h2, bt2 ⟨by omega, h2⟩]
      exact fin _ (any_xok hx) (fun q s h => any_at h)
    · rw [bf1 h2]
      exact fin _ hx (fun q s h => h)
  · rw [bf1 h1]
    exact fin _ hx (fun q s h => h)
end Go.Proofs.Ytphgopfhobockaa.G
