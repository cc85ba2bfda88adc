import Derived.Test.YticbohfmkiafiaaTDo
namespace Go.Proofs.Yticbohfmkiafiaa.G
open Go.VM Go.Proofs
abbrev GM := RU × List PO × List MV × Unit
abbrev P00 : PO := ([], ([], [], ()), 0, 0, ())
section
variable {r : RU}
def hand0 (r : RU) : List Int := r.2.2.2.1.map (fun x => x.2.1)
def fresh (r : RU) : PO := (r.2.2.2.2.1, (hand0 r, hand0 r, ()), 0, 0, ())
theorem hand0_len (r : RU) : (hand0 r).length = r.2.2.2.1.length := by simp [hand0]
theorem hand0_drop (r : RU) (i : Nat) (h : i < r.2.2.2.1.length) : (hand0 r).drop i = (rd ((0, 0, 0, [], ()) : PC) r.2.2.2.1 (i : Int)).2.1 :: (hand0 r).drop (i + 1) := by
  rw [List.drop_eq_getElem_cons (by rw [hand0_len]; exact h)]
  congr 1
  simp [hand0, rd, List.getD_eq_getElem?_getD, List.getElem?_eq_getElem h]
theorem fresh6a (hn : r.2.2.2.1.length ≤ 6) (s2 : PO) (s11 : Int) : ∀ (j i : Nat) (s3 : PO), i ≤ r.2.2.2.1.length → r.2.2.2.1.length < i + j → s3.2.1.1.length ≤ i →
    l21_6 9000 j r s2 s3 0 s11 r.2.2.2.1 (r.2.2.2.1.length : Int) i = some (r, s2, (s3.1, (s3.2.1.1 ++ (hand0 r).drop i, s3.2.1.2), s3.2.2), s11, ())
  | 0, i, s3, h, h', _ => by omega
  | j + 1, i, s3, h, h', hs => by
    rw [l21_6]
    by_cases hi : i < r.2.2.2.1.length
    · have e : ((i : Int) + 1) = ((i + 1 : Nat) : Int) := by omega
      rw [bt1 (show (i : Int) < r.2.2.2.1.length by omega), bt2 ⟨by omega, by omega⟩, be1 rfl, bt1 (by simp; unfold roomN; omega), be1 rfl, ws (by omega), e,
        fresh6a hn s2 s11 j (i + 1) _ (by omega) (by omega) (by simp; omega), hand0_drop r i hi]
      simp
    · rw [bf1 (show ¬ (i : Int) < r.2.2.2.1.length by omega), List.drop_eq_nil_of_le (by rw [hand0_len]; omega)]
      simp
theorem fresh6b (hn : r.2.2.2.1.length ≤ 6) (s2 : PO) (s11 : Int) : ∀ (j i : Nat) (s3 : PO), i ≤ r.2.2.2.1.length → r.2.2.2.1.length < i + j → s3.2.1.2.1.length ≤ i →
    l21_6 9000 j r s2 s3 1 s11 r.2.2.2.1 (r.2.2.2.1.length : Int) i = some (r, s2, (s3.1, (s3.2.1.1, s3.2.1.2.1 ++ (hand0 r).drop i, ()), s3.2.2), s11, ())
  | 0, i, s3, h, h', _ => by omega
  | j + 1, i, s3, h, h', hs => by
    rw [l21_6]
    by_cases hi : i < r.2.2.2.1.length
    · have e : ((i : Int) + 1) = ((i + 1 : Nat) : Int) := by omega
      rw [bt1 (show (i : Int) < r.2.2.2.1.length by omega), bt2 ⟨by omega, by omega⟩, bn1 (by decide), be1 rfl, bt1 (by simp; unfold roomN; omega), bn1 (by decide), be1 rfl, ws (by omega), e,
        fresh6b hn s2 s11 j (i + 1) _ (by omega) (by omega) (by simp; omega), hand0_drop r i hi]
      simp
    · rw [bf1 (show ¬ (i : Int) < r.2.2.2.1.length by omega), List.drop_eq_nil_of_le (by rw [hand0_len]; omega)]
      simp
theorem ROK.start64 (hr : ROK r) : 1 ≤ r.2.2.2.2.1.length ∧ r.2.2.2.2.1.length ≤ 64 := by
  have := hr.sq; have := hr.len; omega
theorem fresh_eq (hr : ROK r) : f21 9000 r = some (fresh r, ()) := by
  have hl := hr.start64
  have hn := hr.n6
  have e1 : w64 (0 + 1) = 1 := by decide
  have e2 : w64 (1 + 1) = 2 := by decide
  unfold f21
  rw [clone_eq _ _ (by omega)]
  simp only [Option.bind_some]
  rw [l21_3, bt1 (by decide)]
  have h1 := fresh6a hn P00 0 9000 0 (r.2.2.2.2.1, ([], [], ()), 0, 0, ()) (by omega) (by omega) (by simp)
  rw [show ((0 : Nat) : Int) = 0 from rfl] at h1
  rw [h1]
  simp only [Option.bind_some, e1]
  rw [l21_3, bt1 (by decide)]
  have h2 := fresh6b hn P00 1 9000 0 (r.2.2.2.2.1, ([] ++ (hand0 r).drop 0, [], ()), 0, 0, ()) (by omega) (by omega) (by simp)
  rw [show ((0 : Nat) : Int) = 0 from rfl] at h2
  rw [h2]
  simp only [Option.bind_some, e2]
  rw [l21_3, bf1 (by decide)]
  simp [fresh]
theorem rd_hand0 {m : Nat} (h : m < r.2.2.2.1.length) : rd 0 (hand0 r) (m : Int) = (rd ((0, 0, 0, [], ()) : PC) r.2.2.2.1 (m : Int)).2.1 := by
  simp [hand0, rd, List.getD_eq_getElem?_getD, List.getElem?_eq_getElem h]
theorem fresh_pok (hr : ROK r) : POK r (fresh r) := by
  have hh : HandOK (hand0 r) := by
    intro m hm
    rw [hand0_len] at hm
    rw [rd_hand0 hm]
    obtain ⟨_, _, h1, h2, _⟩ := hr.pcs m hm
    exact ⟨h1, Int.le_trans h2 (by decide)⟩
  exact ⟨hr, hr.len, hand0_len r, hand0_len r, hr.cells, hh, hh, .inl rfl, by show (0 : Int) ≤ 0 ∧ (0 : Int) ≤ 200; omega⟩
theorem begin_eq (hz : Rz r) : f53 9000 r = some (fresh r, 0, ()) := by
  unfold f53
  rw [show f64 9000 r = some (0, ()) from hz]
  simp only [Option.bind_some]
  rw [beq1 rfl, fresh_eq hz.ok]
  rfl
theorem copy4 (hr : ROK r) (s2 : RU) : ∀ (j i : Nat) (l : List PC), i ≤ r.2.2.2.1.length → r.2.2.2.1.length < i + j → l.length = r.2.2.2.1.length → l.take i = r.2.2.2.1.take i →
    l54_4 9000 j r s2 (r.1, r.2.1, r.2.2.1, l, r.2.2.2.2) r.2.2.2.1 (r.2.2.2.1.length : Int) i = some (r, s2, (r.1, r.2.1, r.2.2.1, r.2.2.2.1, r.2.2.2.2), ())
  | 0, i, l, h, h', _, _ => by omega
  | j + 1, i, l, h, h', hl, ht => by
    rw [l54_4]
    dsimp only
    have hn := hr.n6
    by_cases hi : i < r.2.2.2.1.length
    · have e : ((i : Int) + 1) = ((i + 1 : Nat) : Int) := by omega
      obtain ⟨_, _, _, _, _, _, hw, _⟩ := hr.pcs i hi
      have hw : (rd ((0, 0, 0, [], ()) : PC) r.2.2.2.1 (i : Int)).2.2.2.1.length ≤ 16 := hw
      rw [bt1 (show (i : Int) < r.2.2.2.1.length by omega), bt2 ⟨by omega, by omega⟩, bt1 (by unfold roomN; omega), bt2 ⟨by omega, by omega⟩, ws (by omega), e]
      rw [show ((i : Nat) : Int).toNat = i from rfl]
      refine copy4 hr s2 j (i + 1) _ (by omega) (by omega) (by simp [hl]) ?_
      rw [List.take_add_one, List.take_add_one, List.take_set_of_le (Nat.le_refl i), ht]
      congr 1
      rw [List.getElem?_set_self (by omega)]
      simp [rd, List.getD_eq_getElem?_getD, List.getElem?_eq_getElem hi]
    · rw [bf1 (show ¬ (i : Int) < r.2.2.2.1.length by omega)]
      have hi' : i = r.2.2.2.1.length := by omega
      subst hi'
      rw [List.take_of_length_le (by omega), List.take_of_length_le (Nat.le_refl _)] at ht
      rw [ht]
theorem rcopy_eq (hr : ROK r) : f54 9000 r = some (r, ()) := by
  have hn := hr.n6
  have hl := hr.start64
  have he := hr.e6
  unfold f54
  rw [decide_eq_true (show (0 : Int) ≤ r.2.2.2.1.length by omega), decide_eq_true (show (r.2.2.2.1.length : Int) ≤ r.2.2.2.1.length by omega), decide_eq_true (show ((48 : Nat) : Int) * r.2.2.2.1.length ≤ 281474976710656 by omega), decide_eq_true (show (r.2.2.2.1.length : Int) ≤ 9223372036854775807 by omega)]
  simp only [Bool.and_self, cond_true]
  have := copy4 hr ((⟨#[]⟩ : ByteArray), 0, 0, [], [], false, false, [], 0, 0, 0, ()) 9000 0 (List.replicate (r.2.2.2.1.length : Int).toNat ((0, 0, 0, [], ()) : PC)) (by omega) (by omega) (by simp) (by simp)
  rw [show ((0 : Nat) : Int) = 0 from rfl] at this
  rw [this]
  simp only [Option.bind_some]
  rw [bt1 (by unfold roomN; omega), bt1 (by unfold roomN; omega)]
theorem eqi4 (a b : List Int) (ha : a.length ≤ 1000) (hab : a.length = b.length) : ∀ (j i : Nat), i ≤ a.length → a.length < i + j →
    l88_4 9000 j a b a.length i = (if a.drop i = b.drop i then some (.inl ()) else some (.inr (false, ())))
  | 0, i, h, h' => by omega
  | j + 1, i, h, h' => by
    rw [l88_4]
    by_cases hi : i < a.length
    · have e : ((i : Int) + 1) = ((i + 1 : Nat) : Int) := by omega
      rw [bt1 (show (i : Int) < a.length by omega), bt2 ⟨by omega, by omega⟩, bt2 ⟨by omega, by omega⟩, ws (by omega), e]
      rw [drop_rd 0 a i hi, drop_rd 0 b i (by omega)]
      by_cases hq : rd 0 a (i : Int) = rd 0 b (i : Int)
      · rw [beq1 hq, eqi4 a b ha hab j (i + 1) (by omega) (by omega)]
        simp [hq]
      · rw [bne1 hq]
        simp [hq]
    · rw [bf1 (show ¬ (i : Int) < a.length by omega), List.drop_eq_nil_of_le (by omega), List.drop_eq_nil_of_le (by omega), if_pos rfl]
theorem eqi_eq (a b : List Int) (ha : a.length ≤ 1000) : f88 9000 a b = some (decide (a = b), ()) := by
  unfold f88
  by_cases hab : a.length = b.length
  · rw [beq1 (by omega)]
    have := eqi4 a b ha hab 9000 0 (by omega) (by omega)
    rw [show ((0 : Nat) : Int) = 0 from rfl] at this
    rw [this, List.drop_zero, List.drop_zero]
    by_cases h : a = b
    · rw [if_pos h, decide_eq_true h]; rfl
    · rw [if_neg h, decide_eq_false h]; rfl
  · rw [bne1 (by omega), decide_eq_false (fun h => hab (by rw [h]))]
def SameP (p q : PO) : Prop := p.2.2.1 = q.2.2.1 ∧ p.1 = q.1 ∧ p.2.1.1 = q.2.1.1 ∧ p.2.1.2.1 = q.2.1.2.1
instance (p q : PO) : Decidable (SameP p q) := by unfold SameP; infer_instance
theorem POK.lens {p : PO} (hp : POK r p) : p.1.length ≤ 64 ∧ p.2.1.1.length ≤ 6 ∧ p.2.1.2.1.length ≤ 6 := by
  have := hp.len64; have := hp.ru.n6; have := hp.a; have := hp.b; omega
theorem same_eq {p q : PO} (hp : POK r p) : f71 9000 p q = some (decide (SameP p q), ()) := by
  obtain ⟨h1, h2, h3⟩ := hp.lens
  unfold f71
  by_cases ht : p.2.2.1 = q.2.2.1
  · rw [be1 ht, eqi_eq _ _ (by omega)]
    simp only [Option.bind_some]
    by_cases hc : p.1 = q.1
    · rw [decide_eq_true hc, cond_true, eqi_eq _ _ (by omega)]
      simp only [Option.bind_some]
      by_cases ha : p.2.1.1 = q.2.1.1
      · rw [decide_eq_true ha, cond_true, eqi_eq _ _ (by omega)]
        simp [SameP, ht, hc, ha]
      · rw [decide_eq_false ha, cond_false, decide_eq_false (fun h => ha h.2.2.1)]
    · rw [decide_eq_false hc, cond_false, decide_eq_false (fun h => hc h.2.1)]
  · rw [bn1 ht, decide_eq_false (fun h => ht h.1)]
def Path (r : RU) : PO → List MV → List PO → Prop
  | _, [], qs => qs = []
  | p, m :: ms, qs => ∃ q qs', qs = q :: qs' ∧ f24 9000 r p m = some (q, ()) ∧ MvOK r p m ∧ POK r q ∧ (∃ g, f28 9000 r p = some (g, ()) ∧ f29 9000 g m = some (true, ())) ∧ Path r q ms qs'
theorem Path.len : ∀ {ms : List MV} {p : PO} {qs : List PO}, Path r p ms qs → qs.length = ms.length
  | [], _, _, h => by rw [show _ = _ from h]; rfl
  | m :: ms, _, _, ⟨q, qs', h, _, _, _, _, h'⟩ => by rw [h, List.length_cons, List.length_cons, Path.len h']
theorem Path.pok : ∀ {ms : List MV} {p : PO} {qs : List PO}, Path r p ms qs → ∀ q ∈ qs, POK r q
  | [], _, _, h => by rw [show _ = _ from h]; intro q hq; cases hq
  | m :: ms, _, _, ⟨q, qs', h, _, _, hk, _, h'⟩ => by
    rw [h]
    intro x hx
    rcases List.mem_cons.1 hx with rfl | hx
    · exact hk
    · exact Path.pok h' x hx
theorem getLastD_mem {α : Type} (d : α) (l : List α) (h : l ≠ []) : l.getLastD d ∈ l := by
  rw [List.getLastD_eq_getLast?, List.getLast?_eq_some_getLast h]
  exact List.getLast_mem h
theorem Path.last {ms : List MV} {p : PO} {qs : List PO} (hp : POK r p) (h : Path r p ms qs) : POK r (qs.getLastD p) := by
  by_cases hq : qs = []
  · subst hq; exact hp
  · exact h.pok _ (getLastD_mem p qs hq)
theorem Path.snoc : ∀ {ms : List MV} {p : PO} {qs : List PO} {m : MV} {q : PO}, Path r p ms qs → f24 9000 r (qs.getLastD p) m = some (q, ()) → MvOK r (qs.getLastD p) m → POK r q → (∃ g, f28 9000 r (qs.getLastD p) = some (g, ()) ∧ f29 9000 g m = some (true, ())) → Path r p (ms ++ [m]) (qs ++ [q])
  | [], p, qs, m, q, h, h1, h2, h3, h4 => by
    have h : qs = [] := h
    subst h
    exact ⟨q, [], rfl, h1, h2, h3, h4, rfl⟩
  | x :: ms, p, qs, m, q, ⟨y, qs', h, g1, g2, g3, g4, h'⟩, h1, h2, h3, h4 => by
    subst h
    rw [List.getLastD_cons] at h1 h2 h4
    exact ⟨y, qs' ++ [q], rfl, g1, g2, g3, g4, Path.snoc h' h1 h2 h3 h4⟩
def GOK (r : RU) (g : GM) : Prop := g.1 = r ∧ ∃ qs, g.2.1 = fresh r :: qs ∧ Path r (fresh r) g.2.2.1 qs
def GM.now (g : GM) : PO := g.2.1.getLastD P00
theorem GOK.len {g : GM} (h : GOK r g) : g.2.1.length = g.2.2.1.length + 1 := by
  obtain ⟨_, qs, h1, h2⟩ := h
  rw [h1, List.length_cons, h2.len]
theorem rd_lastD {α : Type} (d : α) : ∀ (l : List α), l ≠ [] → rd d l ((l.length - 1 : Nat) : Int) = l.getLastD d := by
  intro l hl
  unfold rd
  rw [Int.toNat_natCast, List.getD_eq_getElem?_getD, List.getLastD_eq_getLast?, List.getLast?_eq_getElem?]
theorem GOK.now_eq {g : GM} (hr : ROK r) (h : GOK r g) (hl : g.2.2.1.length ≤ 400) : f56 9000 g = some (g.now, ()) ∧ POK r g.now := by
  have hlen := h.len
  obtain ⟨_, qs, h1, h2⟩ := h
  have e1 : w64 ((g.2.1.length : Int) - 1) = ((g.2.1.length - 1 : Nat) : Int) := by rw [ws (by omega)]; omega
  constructor
  · unfold f56
    rw [e1, bt2 ⟨by omega, by omega⟩, show rd (([], ([], [], ()), 0, 0, ()) : PO) g.2.1 ((g.2.1.length - 1 : Nat) : Int) = g.now from rd_lastD P00 g.2.1 (by rw [h1]; simp)]
  · unfold GM.now
    rw [h1, List.getLastD_cons]
    exact h2.last (fresh_pok hr)
theorem GOK.all {g : GM} (hr : ROK r) (h : GOK r g) : ∀ q ∈ g.2.1, POK r q := by
  obtain ⟨_, qs, h1, h2⟩ := h
  rw [h1]
  intro q hq
  rcases List.mem_cons.1 hq with rfl | hq
  · exact fresh_pok hr
  · exact h2.pok q hq
theorem rd_memL {α : Type} (d : α) (l : List α) (i : Nat) (h : i < l.length) : rd d l (i : Int) ∈ l := by
  unfold rd
  rw [Int.toNat_natCast, List.getD_eq_getElem?_getD, List.getElem?_eq_getElem h]
  exact List.getElem_mem h
theorem count3 {g : GM} (hr : ROK r) (h : GOK r g) (hl : g.2.2.1.length ≤ 400) : ∀ (j i : Nat) (n : Int), i ≤ g.2.1.length → g.2.1.length < i + j → 0 ≤ n ∧ n ≤ i → ∃ m, l58_3 9000 j g n g.2.1 g.2.1.length i = some (m, ())
  | 0, i, n, h1, h', _ => by omega
  | j + 1, i, n, h1, h', hn => by
    rw [l58_3]
    have hlen := h.len
    by_cases hi : i < g.2.1.length
    · have e : ((i : Int) + 1) = ((i + 1 : Nat) : Int) := by omega
      rw [bt1 (show (i : Int) < g.2.1.length by omega), bt2 ⟨by omega, by omega⟩, (h.now_eq hr hl).1]
      simp only [Option.bind_some]
      rw [same_eq (h.all hr _ (rd_memL P00 g.2.1 i hi))]
      simp only [Option.bind_some]
      rw [ws (n := (i : Int) + 1) (by omega), ws (n := n + 1) (by omega), e]
      cases decide (SameP (rd P00 g.2.1 (i : Int)) g.now)
      · exact count3 hr h hl j (i + 1) n (by omega) (by omega) (by omega)
      · exact count3 hr h hl j (i + 1) (n + 1) (by omega) (by omega) (by omega)
    · rw [bf1 (show ¬ (i : Int) < g.2.1.length by omega)]
      exact ⟨n, rfl⟩
theorem count_tot {g : GM} (hr : ROK r) (h : GOK r g) (hl : g.2.2.1.length ≤ 400) : ∃ m, f58 9000 g = some (m, ()) := by
  have hlen := h.len
  obtain ⟨m, hm⟩ := count3 hr h hl 9000 0 0 (by omega) (by omega) (by omega)
  rw [show ((0 : Nat) : Int) = 0 from rfl] at hm
  exact ⟨m, by unfold f58; rw [hm]; rfl⟩
theorem result_tot {g : GM} (hr : ROK r) (h : GOK r g) (hl : g.2.2.1.length ≤ 400) : ∃ e x, f57 9000 r g.now = some (e, ()) ∧ f33 9000 g = some (x, ()) ∧ (x = e ∨ (e = 0 ∧ x = 3)) := by
  obtain ⟨hn, hp⟩ := h.now_eq hr hl
  obtain ⟨e, he⟩ := res_tot hp
  have hg := h.1
  suffices hs : ∃ x, f33 9000 g = some (x, ()) ∧ (x = e ∨ (e = 0 ∧ x = 3)) by
    obtain ⟨x, h1, h2⟩ := hs
    exact ⟨e, x, he, h1, h2⟩
  unfold f33
  rw [hn]
  simp only [Option.bind_some]
  rw [hg, he]
  simp only [Option.bind_some]
  by_cases h0 : e = 0
  · rw [be1 h0]
    cases decide (r.2.2.2.2.2.2.2.2.2.2.1 > 0)
    · exact ⟨e, rfl, .inl rfl⟩
    · obtain ⟨m, hm⟩ := count_tot hr h hl
      rw [hm]
      simp only [Option.bind_some, cond_true]
      cases decide (m ≥ r.2.2.2.2.2.2.2.2.2.2.1)
      · exact ⟨e, rfl, .inl rfl⟩
      · exact ⟨3, rfl, .inr ⟨h0, rfl⟩⟩
  · rw [bn1 h0]
    exact ⟨e, rfl, .inl rfl⟩
theorem after_tot (hz : Rz r) {p : PO} (hp : POK r p) (m : MV) : f55 9000 r p m = some (P00, 13, ()) ∨
    ∃ q, f55 9000 r p m = some (q, 0, ()) ∧ f24 9000 r p m = some (q, ()) ∧ MvOK r p m ∧ POK r q ∧ ∃ g, f28 9000 r p = some (g, ()) ∧ f29 9000 g m = some (true, ()) := by
  unfold f55 f68
  rw [place_ok hz hp]
  simp only [Option.bind_some]
  obtain ⟨g, hg, hg1, hg2⟩ := gen_tot hp
  rw [beq1 rfl, hg]
  simp only [Option.bind_some]
  obtain ⟨b, hb, hb2⟩ := has_tot g m hg1
  rw [hb]
  simp only [Option.bind_some]
  rw [beq1 rfl]
  cases b
  · exact .inl rfl
  · have hm := hg2 m (hb2 rfl)
    obtain ⟨q, hq, hq2⟩ := do_tot hp m hm
    simp only [Bool.not_true, cond_false]
    rw [hq]
    exact .inr ⟨q, rfl, rfl, hm, hq2, g, rfl, hb⟩
theorem play_tot (hz : Rz r) {g : GM} (h : GOK r g) (hl : g.2.2.1.length ≤ 400) (m : MV) : (∃ e, e ≠ 0 ∧ f31 9000 g m = some (e, g, ())) ∨
    ∃ q, f31 9000 g m = some (0, (r, g.2.1 ++ [q], g.2.2.1 ++ [m], ()), ()) ∧ GOK r (r, g.2.1 ++ [q], g.2.2.1 ++ [m], ()) ∧ g.2.2.1.length < 400 ∧ f33 9000 g = some (0, ()) ∧ f24 9000 r g.now m = some (q, ()) ∧ MvOK r g.now m := by
  have hr := hz.ok
  have hlen := h.len
  obtain ⟨hn, hp⟩ := h.now_eq hr hl
  obtain ⟨e, x, _, hx, _⟩ := result_tot hr h hl
  have hg := h.1
  unfold f31
  rw [hx]
  simp only [Option.bind_some]
  by_cases h0 : x = 0
  rotate_left
  · rw [bne1 h0]
    exact .inl ⟨14, by decide, rfl⟩
  rw [beq1 h0]
  have hn2 := hn
  unfold f56 at hn2
  have e1 : w64 ((g.2.1.length : Int) - 1) = ((g.2.1.length - 1 : Nat) : Int) := by rw [ws (by omega)]; omega
  rw [e1, bt2 ⟨by omega, by omega⟩] at hn2
  have hnow : rd (([], ([], [], ()), 0, 0, ()) : PO) g.2.1 ((g.2.1.length - 1 : Nat) : Int) = g.now := by simpa using hn2
  rw [e1, bt2 ⟨by omega, by omega⟩, hnow, hg]
  rcases after_tot hz hp m with ha | ⟨q, ha, hd, hm, hq, hgen⟩
  · rw [ha]
    simp only [Option.bind_some]
    rw [bne1 (by decide)]
    exact .inl ⟨13, by decide, rfl⟩
  · rw [ha]
    simp only [Option.bind_some]
    rw [beq1 rfl]
    by_cases h4 : (g.2.2.1.length : Int) = 400
    · rw [be1 h4]
      exact .inl ⟨9, by decide, rfl⟩
    · rw [bn1 h4, bt1 (by simp; unfold roomN; omega), bt1 (by simp; unfold roomN; omega)]
      refine .inr ⟨q, rfl, ?_, by omega, by rw [h0], hd, hm⟩
      obtain ⟨_, qs, h1, h2⟩ := h
      have hnow2 : g.now = qs.getLastD (fresh r) := by unfold GM.now; rw [h1, List.getLastD_cons]
      rw [hnow2] at hd hm hgen
      exact ⟨rfl, qs ++ [q], by simp [h1], Path.snoc h2 hd hm hq hgen⟩
def Plays : GM → List MV → GM → Prop
  | g, [], g' => g = g'
  | g, m :: ms, g' => ∃ g1, f31 9000 g m = some (0, g1, ()) ∧ Plays g1 ms g'
theorem Plays.cut : ∀ {a b : List MV} {g g' : GM}, Plays g (a ++ b) g' → ∃ g1, Plays g a g1 ∧ Plays g1 b g'
  | [], b, g, g', h => ⟨g, rfl, h⟩
  | m :: a, b, g, g', ⟨g1, h1, h2⟩ => by
    obtain ⟨g2, h3, h4⟩ := Plays.cut h2
    exact ⟨g2, ⟨g1, h1, h3⟩, h4⟩
theorem Plays.ok (hz : Rz r) : ∀ {ms : List MV} {g g' : GM}, Plays g ms g' → GOK r g → g.2.2.1.length + ms.length ≤ 400 → GOK r g' ∧ g'.2.2.1 = g.2.2.1 ++ ms
  | [], g, g', h, hg, _ => by rw [← show g = g' from h]; exact ⟨hg, by simp⟩
  | m :: ms, g, g', ⟨g1, h1, h2⟩, hg, hl => by
    simp only [List.length_cons] at hl
    rcases play_tot hz hg (by omega) m with ⟨e, he, hp⟩ | ⟨q, hp, hok, _⟩
    · rw [h1] at hp
      simp only [Option.some.injEq, Prod.mk.injEq] at hp
      exact absurd hp.1.symm he
    · rw [h1] at hp
      simp only [Option.some.injEq, Prod.mk.injEq, true_and, and_true] at hp
      subst hp
      obtain ⟨k1, k2⟩ := Plays.ok hz h2 hok (by simp; omega)
      exact ⟨k1, by rw [k2]; simp⟩
def g0 (r : RU) : GM := (r, [fresh r], [], ())
theorem g0_ok (r : RU) : GOK r (g0 r) := ⟨rfl, [], rfl, rfl⟩
theorem new_eq (hz : Rz r) : f30 9000 r = some (.inl (g0 r, 0, ())) := by
  unfold f30
  rw [begin_eq hz]
  simp only [Option.bind_some]
  rw [beq1 rfl, rcopy_eq hz.ok]
  rfl
theorem new_tot (r : RU) : (Rz r ∧ f30 9000 r = some (.inl (g0 r, 0, ()))) ∨ ∃ e, e ≠ 0 ∧ f30 9000 r = some (.inr ((), e, ())) := by
  obtain ⟨e, he, hok⟩ := rules_tot r
  by_cases h0 : e = 0
  · subst h0
    have hz : Rz r := he
    exact .inl ⟨hz, new_eq hz⟩
  · refine .inr ⟨e, h0, ?_⟩
    unfold f30 f53
    rw [he]
    simp only [Option.bind_some]
    rw [bne1 h0]
    simp only [Option.bind_some]
    rw [bne1 h0]
theorem pos_eq (hr : ROK r) {g : GM} (h : GOK r g) (hl : g.2.2.1.length ≤ 400) : f32 9000 g = some (g.now, ()) := by
  obtain ⟨hn, hp⟩ := h.now_eq hr hl
  unfold f32
  rw [hn]
  simp only [Option.bind_some]
  rw [copy_eq hp]
  rfl
end
end Go.Proofs.Yticbohfmkiafiaa.G
namespace Go.Proofs.Yticbohfmkiafiaa.G
open Go.VM Go.Proofs
section
variable {r : RU}
theorem run5 (hz : Rz r) (l : List MV) (s4 : PO) (hll : l.length ≤ 400) : ∀ (j i : Nat) (g : GM), i ≤ l.length → l.length < i + j → GOK r g → g.2.2.1.length + (l.length - i) ≤ 400 →
    (∃ g', Plays g (l.drop i) g' ∧ l19_5 9000 j s4 g l l.length i = some (.inl (s4, g', ()))) ∨ ((∃ e, e ≠ 0 ∧ l19_5 9000 j s4 g l l.length i = some (.inr (P00, 0, e, ()))) ∧ ¬ ∃ g', Plays g (l.drop i) g')
  | 0, i, g, h, h', _, _ => by omega
  | j + 1, i, g, h, h', hg, hl => by
    rw [l19_5]
    by_cases hi : i < l.length
    · have e : ((i : Int) + 1) = ((i + 1 : Nat) : Int) := by omega
      rw [bt1 (show (i : Int) < l.length by omega), bt2 ⟨by omega, by omega⟩, drop_rd M0 l i hi]
      rw [show rd ((0, 0, 0, ()) : MV) l (i : Int) = rd M0 l (i : Int) from rfl]
      rcases play_tot hz hg (by omega) (rd M0 l (i : Int)) with ⟨e2, he, hp⟩ | ⟨q, hp, hok, _⟩
      · rw [hp]
        simp only [Option.bind_some]
        rw [bne1 he]
        refine .inr ⟨⟨e2, he, rfl⟩, ?_⟩
        rintro ⟨g', g1, h1, _⟩
        rw [hp] at h1
        simp only [Option.some.injEq, Prod.mk.injEq] at h1
        exact he h1.1
      · rw [hp]
        simp only [Option.bind_some]
        rw [beq1 rfl, ws (by omega), e]
        rcases run5 hz l s4 hll j (i + 1) _ (by omega) (by omega) hok (by simp; omega) with ⟨g', h1, h2⟩ | ⟨⟨e2, he, h1⟩, h2⟩
        · exact .inl ⟨g', ⟨_, hp, h1⟩, h2⟩
        · refine .inr ⟨⟨e2, he, h1⟩, ?_⟩
          rintro ⟨g', g1, h3, h4⟩
          rw [hp] at h3
          simp only [Option.some.injEq, Prod.mk.injEq, true_and, and_true] at h3
          subst h3
          exact h2 ⟨g', h4⟩
    · rw [bf1 (show ¬ (i : Int) < l.length by omega), List.drop_eq_nil_of_le (by omega)]
      exact .inl ⟨g, rfl, rfl⟩
theorem run_tot (r : RU) (l : List MV) (hl : l.length ≤ 400) : (Rz r ∧ ∃ g x, Plays (g0 r) l g ∧ GOK r g ∧ g.2.2.1 = l ∧ f33 9000 g = some (x, ()) ∧ f19 9000 r l = some (g.now, x, 0, ())) ∨
    ((∃ e, e ≠ 0 ∧ f19 9000 r l = some (P00, 0, e, ())) ∧ ¬ (Rz r ∧ ∃ g, Plays (g0 r) l g)) := by
  unfold f19
  rcases new_tot r with ⟨hz, hn⟩ | ⟨e, he, hn⟩
  · rw [hn]
    simp only [Option.bind_some, Sum.elim_inl]
    rw [beq1 rfl]
    have := run5 hz l P00 hl 9000 0 (g0 r) (by omega) (by omega) (g0_ok r) (by show 0 + (l.length - 0) ≤ 400; omega)
    rw [show ((0 : Nat) : Int) = 0 from rfl, List.drop_zero] at this
    rcases this with ⟨g, h1, h2⟩ | ⟨⟨e, he, h1⟩, h2⟩
    · obtain ⟨k1, k2⟩ := Plays.ok hz h1 (g0_ok r) (by show 0 + l.length ≤ 400; omega)
      have k2 : g.2.2.1 = l := by rw [k2]; rfl
      rw [h2]
      simp only [Option.bind_some, Sum.elim_inl]
      rw [pos_eq hz.ok k1 (by rw [k2]; exact hl)]
      simp only [Option.bind_some]
      obtain ⟨_, x, _, hx, _⟩ := result_tot hz.ok k1 (by rw [k2]; exact hl)
      rw [hx]
      exact .inl ⟨hz, g, x, h1, k1, k2, hx, rfl⟩
    · rw [h1]
      exact .inr ⟨⟨e, he, rfl⟩, fun h => h2 h.2⟩
  · rw [hn]
    simp only [Option.bind_some, Sum.elim_inr]
    rw [bne1 he]
    refine .inr ⟨⟨e, he, rfl⟩, fun h => ?_⟩
    have := new_eq h.1
    rw [hn] at this
    cases this
end
end Go.Proofs.Yticbohfmkiafiaa.G
