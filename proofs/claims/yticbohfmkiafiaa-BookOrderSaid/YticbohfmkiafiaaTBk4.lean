import Derived.Test.YticbohfmkiafiaaTBk3
namespace Go.Proofs.Yticbohfmkiafiaa.G
open Go.VM Go.Proofs
section
variable {r : RU}
theorem mix_tot (k : Nat) (n : Int) : ∃ v, f61 k n = some (v, ()) := ⟨_, rfl⟩
theorem sq_tot (k : Nat) (s c : Int) : ∃ v, f37 k s c = some (v, ()) := by
  unfold f37
  by_cases h : c = 0
  · rw [be1 h]; exact ⟨_, rfl⟩
  · rw [bn1 h]
    obtain ⟨v, hv⟩ := mix_tot k (w64 ((w64 (16 * s)) + c))
    rw [hv]; exact ⟨_, rfl⟩
theorem held_tot (k : Nat) (a b c : Int) : ∃ v, f38 k a b c = some (v, ()) := by
  unfold f38
  obtain ⟨v, hv⟩ := mix_tot k (w64 ((w64 (2000 + (w64 (8 * a)))) + b))
  rw [hv]; exact ⟨_, rfl⟩
theorem of3 (p : PO) (l : List Int) (hl : l.length ≤ 1000) : ∀ (j i : Nat) (s : Int), i ≤ l.length → l.length < i + j → ∃ v, l23_3 9000 j p s l l.length i = some (p, v, ())
  | 0, i, _, _, h => by omega
  | j + 1, i, s, h, h' => by
    rw [l23_3]
    by_cases hi : i < l.length
    · have e : w64 ((i : Int) + 1) = ((i + 1 : Nat) : Int) := by rw [ws (by omega)]; omega
      rw [bt1 (show (i : Int) < l.length by omega), bt2 ⟨by omega, by omega⟩]
      obtain ⟨v, hv⟩ := sq_tot 9000 (i : Int) (rd (0 : Int) l (i : Int))
      rw [hv]
      simp only [Option.bind_some]
      rw [e]
      exact of3 p l hl j (i + 1) _ (by omega) (by omega)
    · rw [bf1 (show ¬ (i : Int) < l.length by omega)]
      exact ⟨_, rfl⟩
theorem of11 (a : Int) (hh : List Int × List Int × Unit) (s : Int) (l : List Int) (hl : l.length ≤ 1000) : ∀ (j i : Nat) (k : Int), i ≤ l.length → l.length < i + j → ∃ v, l23_11 9000 j k a hh s l l.length i = some (v, hh, s, ())
  | 0, i, _, _, h => by omega
  | j + 1, i, k, h, h' => by
    rw [l23_11]
    by_cases hi : i < l.length
    · have e : w64 ((i : Int) + 1) = ((i + 1 : Nat) : Int) := by rw [ws (by omega)]; omega
      rw [bt1 (show (i : Int) < l.length by omega), bt2 ⟨by omega, by omega⟩]
      obtain ⟨v, hv⟩ := held_tot 9000 a (i : Int) (rd (0 : Int) l (i : Int))
      rw [hv]
      simp only [Option.bind_some]
      rw [e]
      exact of11 a hh s l hl j (i + 1) _ (by omega) (by omega)
    · rw [bf1 (show ¬ (i : Int) < l.length by omega)]
      exact ⟨_, rfl⟩
theorem of8 (hh : List Int × List Int × Unit) (h1 : hh.1.length ≤ 1000) (h2 : hh.2.1.length ≤ 1000) (k : Int) : ∃ v, l23_8 9000 9000 k hh 0 = some (v, ()) := by
  have w1 : w64 (0 + 1) = 1 := by decide
  have w2 : w64 (1 + 1) = 2 := by decide
  obtain ⟨v1, e1⟩ := of11 0 hh 0 hh.1 h1 9000 0 k (by omega) (by omega)
  rw [show ((0 : Nat) : Int) = 0 from rfl] at e1
  obtain ⟨v2, e2⟩ := of11 1 hh 1 hh.2.1 h2 9000 0 v1 (by omega) (by omega)
  rw [show ((0 : Nat) : Int) = 0 from rfl] at e2
  rw [l23_8, bt1 (by decide), be1 rfl, e1]
  simp only [Option.bind_some]
  rw [w1, l23_8, bt1 (by decide), bn1 (by decide), be1 rfl, e2]
  simp only [Option.bind_some]
  rw [w2, l23_8, bf1 (by decide)]
  exact ⟨_, rfl⟩
theorem of_tot {p : PO} (hp : POK r p) : ∃ v, f23 9000 p = some (v, ()) := by
  obtain ⟨hc, ha, hb⟩ := hp.lens
  unfold f23 f36
  obtain ⟨v0, e0⟩ := mix_tot 9000 3000
  rw [e0]
  simp only [Option.bind_some]
  obtain ⟨v1, e1⟩ := of3 p p.1 (by omega) 9000 0 (IntKind.u64.wrap ((IntKind.u64.wrap p.2.2.1) * v0)) (by omega) (by omega)
  rw [show ((0 : Nat) : Int) = 0 from rfl] at e1
  rw [e1]
  simp only [Option.bind_some]
  obtain ⟨v2, e2⟩ := of8 p.2.1 (by omega) (by omega) v1
  rw [e2]
  exact ⟨_, rfl⟩
noncomputable def zk (p : PO) : Int := (match f23 9000 p with | some v => v.1 | none => 0)
theorem zk_eq {p : PO} (hp : POK r p) : f23 9000 p = some (zk p, ()) := by
  obtain ⟨v, hv⟩ := of_tot hp
  unfold zk
  rw [hv]
noncomputable def ents (w : Int) : PO → List MV → List PO → List BE
  | p, m :: ms, q :: qs => (zk p, m, w, ()) :: ents w q ms qs
  | _, _, _ => []
theorem ents_ok {w : Int} (hw : 1 ≤ w ∧ w ≤ 1000000) : ∀ (p : PO) (ms : List MV) (qs : List PO), ∀ x ∈ ents w p ms qs, WtOK x
  | p, m :: ms, q :: qs, x, hx => by
    rcases List.mem_cons.1 hx with rfl | hx
    · exact hw
    · exact ents_ok hw q ms qs x hx
  | p, [], _, x, hx => by cases hx
  | p, m :: ms, [], x, hx => by cases hx
theorem ents_len (w : Int) : ∀ (p : PO) (ms : List MV) (qs : List PO), (ents w p ms qs).length ≤ ms.length
  | p, m :: ms, q :: qs => by rw [ents, List.length_cons, List.length_cons]; have := ents_len w q ms qs; omega
  | p, [], _ => by simp [ents]
  | p, m :: ms, [] => by simp [ents]
theorem Path.take : ∀ (n : Nat) {ms : List MV} {p : PO} {qs : List PO}, Path r p ms qs → Path r p (ms.take n) (qs.take n)
  | 0, ms, p, qs, _ => by rw [List.take_zero, List.take_zero]; exact rfl
  | n + 1, [], p, qs, h => by have h : qs = [] := h; subst h; exact rfl
  | n + 1, m :: ms, p, qs, ⟨q, qs', h, g1, g2, g3, g4, h'⟩ => by
    subst h
    exact ⟨q, qs'.take n, rfl, g1, g2, g3, g4, Path.take n h'⟩
theorem add12 {w : Int} (hw : 1 ≤ w ∧ w ≤ 1000000) (ms : List MV) (hl : ms.length ≤ 1000) : ∀ (j i : Nat) (xs : List BE) (p : PO) (qs : List PO), i ≤ ms.length → ms.length < i + j → BOK xs → xs.length + (ms.length - i) ≤ 3000 → POK r p → Path r p (ms.drop i) qs →
    l10_12 9000 j w r xs p ms ms.length i = some (putsL xs (ents w p (ms.drop i) qs), ())
  | 0, i, _, _, _, _, h, _, _, _, _ => by omega
  | j + 1, i, xs, p, qs, h, h', hx, hlx, hp, hpa => by
    rw [l10_12]
    by_cases hi : i < ms.length
    · have e : w64 ((i : Int) + 1) = ((i + 1 : Nat) : Int) := by rw [ws (by omega)]; omega
      have hd := drop_rd M0 ms i hi
      rw [hd] at hpa
      obtain ⟨q, qs', rfl, hdo, _, hq, _, hpa'⟩ := hpa
      have hm : WtOK ((zk p, rd M0 ms (i : Int), w, ()) : BE) := hw
      rw [bt1 (show (i : Int) < ms.length by omega), bt2 ⟨by omega, by omega⟩, zk_eq hp]
      simp only [Option.bind_some]
      rw [show rd ((0, 0, 0, ()) : MV) ms (i : Int) = rd M0 ms (i : Int) from rfl, put_eq hx.asc hx.w (by omega) hm]
      simp only [Option.bind_some]
      rw [hdo]
      simp only [Option.bind_some]
      have hpl := putL_len ((zk p, rd M0 ms (i : Int), w, ()) : BE) xs
      rw [e, add12 hw ms hl j (i + 1) _ q qs' (by omega) (by omega) (putL_ok hm hx) (by omega) hq hpa', hd]
      rfl
    · rw [bf1 (show ¬ (i : Int) < ms.length by omega)]
      rw [List.drop_eq_nil_of_le (by omega)] at hpa ⊢
      rfl
structure AddOK (r : RU) (l : List MV) (plies w : Int) (qs : List PO) : Prop where
  rz : Rz r
  run : ∃ g : GM, ∃ x, Plays (g0 r) l g ∧ GOK r g ∧ g.2.2.1 = l ∧ f19 9000 r l = some (g.now, x, 0, ())
  path : Path r (fresh r) l qs
  plies : 0 ≤ plies
  w : 1 ≤ w ∧ w ≤ 1000000
def nOf (l : List MV) (plies : Int) : Nat := min l.length plies.toNat
theorem add_eq {l : List MV} {plies w : Int} {qs : List PO} (h : AddOK r l plies w qs) (hl : l.length ≤ 400) {xs : List BE} (hx : Good xs) (hlx : xs.length + l.length ≤ 1000) :
    f10 9000 r xs l plies w = some (putsL xs (ents w (fresh r) (l.take (nOf l plies)) (qs.take (nOf l plies))), 0, ()) := by
  obtain ⟨g, x, _, _, _, hrun⟩ := h.run
  have hp := h.plies
  have hw := h.w
  unfold f10
  rw [hx.chk]
  simp only [Option.bind_some]
  rw [beq1 rfl, hrun]
  simp only [Option.bind_some]
  rw [beq1 rfl, bf1 (by omega), bf1 (by omega), bf1 (by omega), clone_book xs (by omega)]
  simp only [Option.bind_some]
  rw [fresh_eq h.rz.ok]
  simp only [Option.bind_some]
  have hn : (if (l.length : Int) < plies then (l.length : Int) else plies) = (nOf l plies : Int) := by unfold nOf; split <;> omega
  have hn2 : nOf l plies ≤ l.length := by unfold nOf; omega
  rw [hn, bt2 ⟨by omega, by omega⟩]
  have hs : sliceOf l 0 (nOf l plies : Int) = l.take (nOf l plies) := by
    unfold sliceOf
    rw [show (0 : Int).toNat = 0 from rfl, List.drop_zero, Int.toNat_natCast]
  rw [hs]
  have hlt : (l.take (nOf l plies)).length ≤ l.length := by rw [List.length_take]; omega
  have := add12 hw (l.take (nOf l plies)) (by omega) 9000 0 xs (fresh r) (qs.take (nOf l plies)) (by omega) (by omega) hx.bok (by omega) (fresh_pok h.rz.ok) (by rw [List.drop_zero]; exact h.path.take _)
  rw [show ((0 : Nat) : Int) = 0 from rfl, List.drop_zero] at this
  rw [this]
  simp only [Option.bind_some]
  have h1 := (putsL_all hx.bok (ents_ok hw (fresh r) (l.take (nOf l plies)) (qs.take (nOf l plies)))).2.1
  have h2 := ents_len w (fresh r) (l.take (nOf l plies)) (qs.take (nOf l plies))
  rw [bf1 (by omega)]
theorem good_nil : Good [] := ⟨by simp, fun x hx => (by cases hx), trivial⟩
end
end Go.Proofs.Yticbohfmkiafiaa.G
