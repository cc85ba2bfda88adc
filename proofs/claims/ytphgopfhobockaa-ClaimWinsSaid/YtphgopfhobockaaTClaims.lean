/- Quiet moves, and how often a position occurs. -/
import Derived.Test.YtphgopfhobockaaTPath
namespace Go.Proofs.Ytphgopfhobockaa.G
open Go.VM Go.Proofs

/-! ### What a move does to the number of pieces -/
def nz : List Int → Int
  | [] => 0
  | x :: l => (if x = 0 then 0 else 1) + nz l
def sm : List Int → Int
  | [] => 0
  | x :: l => x + sm l
theorem rd_zero (x : Int) (l : List Int) : rd 0 (x :: l) ((0 : Nat) : Int) = x := rfl
theorem rd_succ (x : Int) (l : List Int) (i : Nat) : rd 0 (x :: l) ((i + 1 : Nat) : Int) = rd 0 l (i : Int) := by simp [rd]
theorem nz_set : ∀ (l : List Int) (i : Nat) (v : Int), i < l.length → nz (l.set i v) = nz l - (if rd 0 l (i : Int) = 0 then 0 else 1) + (if v = 0 then 0 else 1)
  | [], i, v, h => by simp at h
  | x :: l, 0, v, h => by rw [rd_zero]; simp only [List.set_cons_zero, nz]; omega
  | x :: l, i + 1, v, h => by
    rw [rd_succ]
    simp only [List.set_cons_succ, nz]
    rw [nz_set l i v (by simpa using h)]
    omega
theorem sm_set : ∀ (l : List Int) (i : Nat) (v : Int), i < l.length → sm (l.set i v) = sm l - rd 0 l (i : Int) + v
  | [], i, v, h => by simp at h
  | x :: l, 0, v, h => by rw [rd_zero]; simp only [List.set_cons_zero, sm]; omega
  | x :: l, i + 1, v, h => by
    rw [rd_succ]
    simp only [List.set_cons_succ, sm]
    rw [sm_set l i v (by simpa using h)]
    omega
theorem rd_set (l : List Int) (i k : Nat) (v : Int) (h : i ≠ k) : rd 0 (l.set i v) (k : Int) = rd 0 l (k : Int) := by
  simp [rd, List.getD_eq_getElem?_getD, List.getElem?_set_ne h]
def phi (p : PO) : Int := 2 * (sm p.2.1.1 + sm p.2.1.2.1) + nz p.1
theorem phi_same {p q : PO} (h : SameP p q) : phi p = phi q := by
  obtain ⟨_, h1, h2, h3⟩ := h
  unfold phi
  rw [h1, h2, h3]
section
variable {r : RU} {p : PO}
/-- **A move**: quiet, and the pieces stay; or not, and there are fewer. -/
theorem phi_step (hk : r.2.2.2.2.2.2.1 = false) (hp : POK r p) (m : MV) (hm : MvOK r p m) : (phi (doP r p m) < phi p ∧ (doP r p m).2.2.2.1 = 0) ∨ (phi (doP r p m) = phi p ∧ (doP r p m).2.2.2.1 = min (p.2.2.2.1 + 1) 200) := by
  have hl := hp.len64
  have ha := hp.a
  have hb := hp.b
  have htu := hp.turn
  obtain ⟨t0, t1, k0, k1, hcase⟩ := hm
  obtain ⟨t, ht⟩ := Int.eq_ofNat_of_zero_le t0
  obtain ⟨k, hkk⟩ := Int.eq_ofNat_of_zero_le k0
  have hcz : 2 * m.2.2.1 + p.2.2.1 + 1 ≠ 0 := by omega
  rcases hcase with ⟨hd, hh, c0⟩ | ⟨g0, g1, f1, f2, f3, _⟩
  · left
    have hd' : m.1 < 0 := by omega
    constructor
    · unfold phi doP doCells doHand
      simp only [hd', if_true]
      rw [ht] at c0 t1 ⊢
      rw [Int.toNat_natCast, nz_set _ _ _ (by omega), c0, if_pos rfl, if_neg hcz, hkk, Int.toNat_natCast]
      rw [hkk] at hh k1
      rcases hp.turn with h | h
      · have eh : hnd p = p.2.1.1 := by unfold hnd; rw [h]; rfl
        rw [if_pos h, if_pos h, eh, sm_set _ _ _ (by omega)]
        omega
      · have eh : hnd p = p.2.1.2.1 := by unfold hnd; rw [h]; rfl
        rw [if_neg (by omega), if_neg (by omega), eh, sm_set _ _ _ (by omega)]
        omega
    · show doQuiet p m = 0
      unfold doQuiet
      rw [if_pos (.inl hd')]
  · have hd' : ¬ m.1 < 0 := by omega
    obtain ⟨f, hf⟩ := Int.eq_ofNat_of_zero_le g0
    have hne : f ≠ t := by
      intro e
      rw [ht, ← e, ← hf] at f3
      rcases f3 with h | h
      · omega
      · omega
    have hands : phi (doP r p m) = 2 * (sm p.2.1.1 + sm p.2.1.2.1) + nz (doCells p m) := by
      have e : doHand r p m = hnd p := by
        unfold doHand
        rw [if_neg hd', if_neg (by rw [hk]; simp)]
      unfold phi doP
      rw [e]
      rcases hp.turn with h | h
      · have eh : hnd p = p.2.1.1 := by unfold hnd; rw [h]; rfl
        rw [if_pos h, if_pos h, eh]
      · have eh : hnd p = p.2.1.2.1 := by unfold hnd; rw [h]; rfl
        rw [if_neg (by omega), if_neg (by omega), eh]
    have cells : nz (doCells p m) = nz p.1 - (if rd 0 p.1 m.2.1 = 0 then 0 else 1) := by
      unfold doCells
      rw [if_neg hd', ht, hf, Int.toNat_natCast, Int.toNat_natCast]
      rw [ht] at t1
      rw [hf] at g1 f1
      rw [nz_set _ _ _ (by simp; omega), rd_set _ _ _ _ hne, nz_set _ _ _ (by omega), if_neg hcz, if_pos rfl, if_neg (by omega)]
      omega
    by_cases c0 : rd 0 p.1 m.2.1 = 0
    · right
      constructor
      · rw [hands, cells, if_pos c0]; unfold phi; omega
      · show doQuiet p m = _
        unfold doQuiet
        rw [if_neg (by rintro (h | h) <;> omega)]
    · left
      constructor
      · rw [hands, cells, if_neg c0]; unfold phi; omega
      · show doQuiet p m = 0
        unfold doQuiet
        rw [if_pos (.inr c0)]
theorem quiet_step (hp : POK r p) (m : MV) : (doP r p m).2.2.2.1 = 0 ∨ (doP r p m).2.2.2.1 = min (p.2.2.2.1 + 1) 200 := by
  show doQuiet p m = 0 ∨ doQuiet p m = _
  unfold doQuiet
  split
  · exact .inl rfl
  · exact .inr rfl

/-- Along a path. -/
theorem path_phi (hk : r.2.2.2.2.2.2.1 = false) : ∀ {ms : List MV} {p : PO} {qs : List PO}, POK r p → Path r p ms qs → p.2.2.2.1 + ms.length ≤ 200 →
    phi (qs.getLastD p) ≤ phi p ∧ (phi (qs.getLastD p) = phi p → (qs.getLastD p).2.2.2.1 = p.2.2.2.1 + ms.length) ∧ ((qs.getLastD p).2.2.1 = p.2.2.1 → ms.length % 2 = 0) ∧ ((qs.getLastD p).2.2.1 ≠ p.2.2.1 → ms.length % 2 = 1)
  | [], p, qs, hp, h, _ => by
    rw [show qs = [] from h]
    refine ⟨Int.le_refl _, fun _ => by simp, fun _ => rfl, fun h => absurd rfl h⟩
  | m :: ms, p, qs, hp, ⟨q, qs', hq, hd, hm, hqk, _, h⟩, hl => by
    subst hq
    rw [List.getLastD_cons]
    rw [do_eq hp m hm] at hd
    have hd : doP r p m = q := by simpa using hd
    have hs := phi_step hk hp m hm
    rw [hd] at hs
    have hqt : q.2.2.1 = 1 - p.2.2.1 := by rw [← hd]; rfl
    have hpq := hp.quiet
    have hp2 := hp.turn
    simp only [List.length_cons] at hl ⊢
    obtain ⟨a1, a2, a3, a4⟩ := path_phi hk hqk h (by rcases hs with h | h <;> omega)
    have hzt : (qs'.getLastD q).2.2.1 = 0 ∨ (qs'.getLastD q).2.2.1 = 1 := (h.last hqk).turn
    refine ⟨by rcases hs with h | h <;> omega, fun he => ?_, fun he => ?_, fun he => ?_⟩
    · rcases hs with h | h
      · omega
      · have := a2 (by omega)
        omega
    · have := a4 (by omega)
      omega
    · have := a3 (by omega)
      omega
/-- How often a position occurs. -/
def cnt (z : PO) : List PO → Nat
  | [] => 0
  | x :: l => (if SameP x z then 1 else 0) + cnt z l
theorem path_cnt (hk : r.2.2.2.2.2.2.1 = false) : ∀ {ms : List MV} {p : PO} {qs : List PO}, POK r p → Path r p ms qs → p.2.2.2.1 + ms.length ≤ 200 →
    (cnt (qs.getLastD p) (p :: qs) : Int) ≤ 1 + (min (qs.getLastD p).2.2.2.1 ms.length) / 2
  | [], p, qs, hp, h, _ => by
    rw [show qs = [] from h]
    have := hp.quiet
    have e : SameP p p := ⟨rfl, rfl, rfl, rfl⟩
    have h1 : cnt p [p] = 1 := by rw [cnt, cnt, if_pos e]
    rw [List.getLastD_nil, h1, List.length_nil]
    omega
  | m :: ms, p, qs, hp, hh, hl => by
    have hph := path_phi hk hp hh hl
    obtain ⟨q, qs', hq, hd, hm, hqk, _, h⟩ := hh
    subst hq
    rw [List.getLastD_cons] at hph ⊢
    rw [do_eq hp m hm] at hd
    have hd : doP r p m = q := by simpa using hd
    have hs := phi_step hk hp m hm
    rw [hd] at hs
    have hpq := hp.quiet
    simp only [List.length_cons] at hl hph ⊢
    have ih := path_cnt hk hqk h (by rcases hs with h | h <;> omega)
    have hzq := (h.last hqk).quiet
    rw [cnt]
    by_cases he : SameP p (qs'.getLastD q)
    · rw [if_pos he]
      have h1 := hph.2.1 (phi_same he).symm
      have h2 := hph.2.2.1 he.1.symm
      omega
    · rw [if_neg he]
      omega
theorem cnt_pos (z : PO) : ∀ (l : List PO), z ∈ l → 1 ≤ cnt z l
  | [], h => by cases h
  | x :: l, h => by
    rw [cnt]
    rcases List.mem_cons.1 h with rfl | h
    · rw [if_pos ⟨rfl, rfl, rfl, rfl⟩]; omega
    · have := cnt_pos z l h; omega
theorem path_quiet : ∀ {ms : List MV} {p : PO} {qs : List PO}, POK r p → Path r p ms qs → (qs.getLastD p).2.2.2.1 ≤ p.2.2.2.1 + ms.length
  | [], p, qs, hp, h => by rw [show qs = [] from h]; simp
  | m :: ms, p, qs, hp, ⟨q, qs', hq, hd, hm, hqk, _, h⟩ => by
    subst hq
    rw [List.getLastD_cons]
    rw [do_eq hp m hm] at hd
    have hd : doP r p m = q := by simpa using hd
    have hs := quiet_step hp m
    rw [hd] at hs
    have hpq := hp.quiet
    have := path_quiet hqk h
    simp only [List.length_cons]
    rcases hs with h | h <;> omega

/-! ### Repeats -/
theorem rep6 {ms : List MV} {qs : List PO} (h : Path r p ms qs) (hm : ms.length ≤ 400) : ∀ (j i : Nat), i ≤ ms.length → ms.length < i + j →
    l25_6 9000 j ms r ((p :: qs).take (i + 1)) ms ms.length i = some (ms, p :: qs, ())
  | 0, i, h1, h2 => by omega
  | j + 1, i, h1, h2 => by
    have hl := h.len
    rw [l25_6]
    by_cases hi : i < ms.length
    · have e : ((i : Int) + 1) = ((i + 1 : Nat) : Int) := by omega
      have elen : ((p :: qs).take (i + 1)).length = i + 1 := by simp; omega
      rw [bt1 (show (i : Int) < ms.length by omega), bt2 ⟨by omega, by omega⟩, bt2 ⟨by omega, by rw [elen]; omega⟩]
      rw [show rd (([], ([], [], ()), 0, 0, ()) : PO) ((p :: qs).take (i + 1)) (i : Int) = rd P00 ((p :: qs).take (i + 1)) (i : Int) from rfl, rd_take _ _ _ _ (by omega), show rd ((0, 0, 0, ()) : MV) ms (i : Int) = rd M0 ms (i : Int) from rfl, path_get h i hi]
      simp only [Option.bind_some]
      rw [bt1 (by rw [elen]; simp; unfold roomN; omega), ws (by omega), e, ← take_rd P00 (p :: qs) (i + 1) (by simp; omega)]
      exact rep6 h hm j (i + 1) (by omega) (by omega)
    · rw [bf1 (show ¬ (i : Int) < ms.length by omega), List.take_of_length_le (by simp; omega)]
theorem rep12 {ms : List MV} {l : List PO} (z : PO) (hz : rd P00 l (ms.length : Int) = z) (hl : ms.length < l.length) (hk : ∀ x ∈ l, POK r x) (h4 : l.length ≤ 401) : ∀ (j i : Nat) (n : Nat), i ≤ l.length → l.length < i + j → n ≤ i →
    l25_12 9000 j ms l (n : Int) () l.length i = some (((n + cnt z (l.drop i) : Nat) : Int), ())
  | 0, i, n, h1, h2, _ => by omega
  | j + 1, i, n, h1, h2, hn => by
    rw [l25_12]
    by_cases hi : i < l.length
    · have e : ((i : Int) + 1) = ((i + 1 : Nat) : Int) := by omega
      have e2 : ((n : Int) + 1) = ((n + 1 : Nat) : Int) := by omega
      rw [bt1 (show (i : Int) < l.length by omega), bt2 ⟨by omega, by omega⟩, bt2 ⟨by omega, by omega⟩]
      rw [show rd (([], ([], [], ()), 0, 0, ()) : PO) l (ms.length : Int) = z from hz, show rd (([], ([], [], ()), 0, 0, ()) : PO) l (i : Int) = rd P00 l (i : Int) from rfl, same_eq (hk _ (rd_memL P00 l i hi))]
      simp only [Option.bind_some]
      rw [ws (n := (n : Int) + 1) (by omega), ws (n := (i : Int) + 1) (by omega), e, e2, drop_rd P00 l i hi, cnt]
      by_cases hs : SameP (rd P00 l (i : Int)) z
      · rw [decide_eq_true hs, cond_true, rep12 z hz hl hk h4 j (i + 1) (n + 1) (by omega) (by omega) (by omega), if_pos hs]
        congr 3; omega
      · rw [decide_eq_false hs, cond_false, rep12 z hz hl hk h4 j (i + 1) n (by omega) (by omega) (by omega), if_neg hs]
        congr 3; omega
    · rw [bf1 (show ¬ (i : Int) < l.length by omega), List.drop_eq_nil_of_le (by omega)]
      simp [cnt]
theorem repeats_eq (hz : Rz r) {l : List MV} (hl : l.length ≤ 400) {g : GM} {x : Int} (hg : GOK r g) (hp : g.2.2.1 = l) (hrun : f29 9000 r l = some (g.now, x, 0, ())) : f25 9000 r l = some ((cnt g.now g.2.1 : Int), 0, ()) := by
  have hlen := hg.len
  have hall := hg.all hz.ok
  unfold f25
  rw [hrun]
  simp only [Option.bind_some]
  rw [beq1 rfl, fresh_eq hz.ok]
  simp only [Option.bind_some]
  obtain ⟨_, qs, h1, h2⟩ := hg
  rw [hp] at h2 hlen
  have h6 := rep6 h2 hl 9000 0 (by omega) (by omega)
  rw [show ((0 : Nat) : Int) = 0 from rfl] at h6
  have h6 : l25_6 9000 9000 l r [fresh r] l (l.length : Int) 0 = some (l, fresh r :: qs, ()) := h6
  rw [h6]
  simp only [Option.bind_some]
  have hzz : rd P00 g.2.1 (l.length : Int) = g.now := by
    have := rd_lastD P00 g.2.1 (by rw [h1]; simp)
    rw [hlen, Nat.add_sub_cancel] at this
    exact this
  have h12 := rep12 (r := r) (ms := l) g.now hzz (by omega) hall (by omega) 9000 0 0 (by omega) (by omega) (by omega)
  rw [show ((0 : Nat) : Int) = 0 from rfl, h1, List.drop_zero] at h12
  rw [h12, h1]
  simp
end
theorem claims_eq : f22 9000 = some (true, ()) := by
  obtain ⟨t, ht, hz⟩ := tic_rz
  unfold f22
  rw [ht]
  simp only [Option.bind_some]
  rcases run_tot t [] (by simp) with ⟨_, g, x, hpl, hg, hp, _, hrun⟩ | ⟨_, hn⟩
  · rw [repeats_eq hz (by simp) hg hp hrun]
    have e : g0 t = g := hpl
    subst e
    simp only [Option.bind_some]
    rw [be1 rfl]
    have : cnt (g0 t).now (g0 t).2.1 = 1 := by
      have e : (g0 t).2.1 = [(g0 t).now] := rfl
      rw [e, cnt, cnt, if_pos ⟨rfl, rfl, rfl, rfl⟩]
    rw [this]
    rfl
  · exact absurd ⟨hz, g0 t, rfl⟩ hn
end Go.Proofs.Ytphgopfhobockaa.G
