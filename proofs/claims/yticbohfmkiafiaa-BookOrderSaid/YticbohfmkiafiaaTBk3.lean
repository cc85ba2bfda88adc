import Derived.Test.YticbohfmkiafiaaTRunR
namespace Go.Proofs.Yticbohfmkiafiaa.G
open Go.VM Go.Proofs
abbrev BE := Int × MV × Int × Unit
abbrev B0 : BE := (0, (0, 0, 0, ()), 0, ())
abbrev BK := Int × MV
def kE (x : BE) : BK := (x.1, x.2.1)
def ltK (a b : BK) : Prop := a.1 < b.1 ∨ a.1 = b.1 ∧ (a.2.1 < b.2.1 ∨ a.2.1 = b.2.1 ∧ (a.2.2.1 < b.2.2.1 ∨ a.2.2.1 = b.2.2.1 ∧ a.2.2.2.1 < b.2.2.2.1))
theorem ltK_irr (a : BK) : ¬ ltK a a := by unfold ltK; omega
theorem ltK_tr {a b c : BK} (h : ltK a b) (h' : ltK b c) : ltK a c := by unfold ltK at *; omega
theorem ltK_tot {a b : BK} (h : ¬ ltK a b) (h' : ¬ ltK b a) : a = b := by
  obtain ⟨a, a1, a2, a3, _⟩ := a; obtain ⟨b, b1, b2, b3, _⟩ := b
  unfold ltK at *
  simp only at h h'
  have : a = b ∧ a1 = b1 ∧ a2 = b2 ∧ a3 = b3 := by omega
  obtain ⟨rfl, rfl, rfl, rfl⟩ := this
  rfl
theorem cmpU_eq (k : Nat) (a b : Int) : f43 k a b = some (cmpI a b, ()) := by
  have h0 : f62 k a = some (false, ()) := by simp [f62]
  have h1 : f62 k b = some (false, ()) := by simp [f62]
  unfold f43 cmpI
  rw [h0, h1]
  by_cases h : a < b <;> by_cases h' : b < a <;> simp [h, h']
theorem or4_eq (k : Nat) (a b c d : Int) : f42 (k + 6) [a, b, c, d] = some (bif a != 0 then a else bif b != 0 then b else bif c != 0 then c else d, ()) := by
  unfold f42
  have e0 : rd (0 : Int) [a, b, c, d] 0 = a := rfl
  have e1 : rd (0 : Int) [a, b, c, d] 1 = b := rfl
  have e2 : rd (0 : Int) [a, b, c, d] 2 = c := rfl
  have e3 : rd (0 : Int) [a, b, c, d] 3 = d := rfl
  have w1 : w64 1 = 1 := by decide
  have w2 : w64 2 = 2 := by decide
  have w3 : w64 3 = 3 := by decide
  have w4 : w64 4 = 4 := by decide
  cases ha : (a != 0) <;> cases hb : (b != 0) <;> cases hc : (c != 0) <;> cases hd : (d != 0) <;> simp [l42_3, ha, hb, hc, hd, e0, e1, e2, e3, w1, w2, w3, w4]
  have := bne_eq_false_iff_eq.1 hd
  exact this.symm
def cmpE (x y : BE) : Int := bif cmpI x.1 y.1 != 0 then cmpI x.1 y.1 else bif cmpI x.2.1.1 y.2.1.1 != 0 then cmpI x.2.1.1 y.2.1.1 else bif cmpI x.2.1.2.1 y.2.1.2.1 != 0 then cmpI x.2.1.2.1 y.2.1.2.1 else cmpI x.2.1.2.2.1 y.2.1.2.2.1
theorem cmpE_eq' (k : Nat) (x y : BE) : f26 (k + 6) x y = some (cmpE x y, ()) := by
  unfold f26 cmpE
  simp only [cmpU_eq, cmpI_eq, Option.bind_some, or4_eq]
theorem cmpE_eq (x y : BE) : f26 9000 x y = some (cmpE x y, ()) := by
  obtain ⟨k, hk⟩ : ∃ k, (9000 : Nat) = k + 6 := ⟨9000 - 6, rfl⟩
  rw [hk]; exact cmpE_eq' k x y
theorem cmpE_lt (x y : BE) : cmpE x y < 0 ↔ ltK (kE x) (kE y) := by
  have e : ∀ a b : Int, cmpI a b = if a < b then -1 else if b < a then 1 else 0 := fun a b => by
    unfold cmpI; by_cases h : a < b <;> by_cases h' : b < a <;> simp [h, h']
  obtain ⟨a, ⟨a1, a2, a3, _⟩, _⟩ := x; obtain ⟨b, ⟨b1, b2, b3, _⟩, _⟩ := y
  unfold cmpE ltK kE
  simp only [e]
  rcases Int.lt_trichotomy a b with h | h | h
  · simp [h]
  · subst h
    rcases Int.lt_trichotomy a1 b1 with h | h | h
    · simp [h]
    · subst h
      rcases Int.lt_trichotomy a2 b2 with h | h | h
      · simp [h]
      · subst h
        rcases Int.lt_trichotomy a3 b3 with h | h | h
        · simp [h]
        · subst h; simp
        · have h2 : ¬ a3 < b3 := by omega
          simp [h, h2]
      · have h2 : ¬ a2 < b2 := by omega
        have h3 : ¬ a2 = b2 := by omega
        simp [h, h2, h3]
    · have h2 : ¬ a1 < b1 := by omega
      have h3 : ¬ a1 = b1 := by omega
      simp [h, h2, h3]
  · have h2 : ¬ a < b := by omega
    have h3 : ¬ a = b := by omega
    simp [h, h2, h3]
theorem cmpE_neg (x y : BE) : cmpE x y = - cmpE y x := by
  have e : ∀ a b : Int, cmpI a b = - cmpI b a := fun a b => by
    unfold cmpI
    rcases Int.lt_trichotomy a b with h | h | h
    · have h2 : ¬ b < a := by omega
      simp [h, h2]
    · subst h; simp
    · have h2 : ¬ a < b := by omega
      simp [h, h2]
  have z : ∀ a : Int, ((-a) != 0) = (a != 0) := fun a => by
    by_cases h : a = 0
    · subst h; rfl
    · have h2 : -a ≠ 0 := by omega
      rw [bne_iff_ne.2 h2, bne_iff_ne.2 h]
  have f : ∀ a b c d : Int, (bif -a != 0 then -a else bif -b != 0 then -b else bif -c != 0 then -c else -d) = -(bif a != 0 then a else bif b != 0 then b else bif c != 0 then c else d) := fun a b c d => by
    rw [z a, z b, z c]
    cases (a != 0) <;> cases (b != 0) <;> cases (c != 0) <;> rfl
  unfold cmpE
  rw [e x.1 y.1, e x.2.1.1 y.2.1.1, e x.2.1.2.1 y.2.1.2.1, e x.2.1.2.2.1 y.2.1.2.2.1]
  exact f _ _ _ _
theorem cmpE_gt (x y : BE) : 0 < cmpE x y ↔ ltK (kE y) (kE x) := by
  rw [← cmpE_lt, cmpE_neg x y]; omega
theorem cmpE_0 (x y : BE) : cmpE x y = 0 ↔ kE x = kE y := by
  constructor
  · intro h
    exact ltK_tot (fun hh => by have := (cmpE_lt x y).2 hh; omega) (fun hh => by have := (cmpE_gt x y).2 hh; omega)
  · intro h
    have h1 : ¬ cmpE x y < 0 := fun hh => ltK_irr _ (h ▸ (cmpE_lt x y).1 hh)
    have h2 : ¬ 0 < cmpE x y := fun hh => ltK_irr _ (h ▸ (cmpE_gt x y).1 hh)
    omega
def Asc : List BE → Prop
  | [] => True
  | x :: r => (∀ y ∈ r, ltK (kE x) (kE y)) ∧ Asc r
theorem asc2 {x y : BE} {r : List BE} : Asc (x :: y :: r) ↔ ltK (kE x) (kE y) ∧ Asc (y :: r) := by
  constructor
  · intro h; exact ⟨h.1 y (by simp), h.2⟩
  · intro h
    refine ⟨fun z hz => ?_, h.2⟩
    rcases List.mem_cons.1 hz with rfl | hz
    · exact h.1
    · exact ltK_tr h.1 (h.2.1 z hz)
def WtOK (x : BE) : Prop := 1 ≤ x.2.2.1 ∧ x.2.2.1 ≤ 1000000
structure Good (xs : List BE) : Prop where
  len : xs.length ≤ 1000
  w : ∀ x ∈ xs, WtOK x
  asc : Asc xs
theorem chk (xs : List BE) (hl : xs.length ≤ 1000) : ∀ (j i : Nat), i ≤ xs.length → xs.length < i + j →
    (((∀ x ∈ xs.drop i, WtOK x) ∧ Asc (xs.drop (i - 1))) ∧ l18_4 9000 j xs xs xs.length i = some (.inl ())) ∨
    ((∃ e, e ≠ 0 ∧ l18_4 9000 j xs xs xs.length i = some (.inr (e, ()))) ∧ ¬ ((∀ x ∈ xs.drop i, WtOK x) ∧ Asc (xs.drop (i - 1))))
  | 0, i, h, h' => by omega
  | j + 1, i, h, h' => by
    rw [l18_4]
    by_cases hi : i < xs.length
    · have e : w64 ((i : Int) + 1) = ((i + 1 : Nat) : Int) := by rw [ws (by omega)]; omega
      rw [bt1 (show (i : Int) < xs.length by omega), bt2 ⟨by omega, by omega⟩]
      have hd := drop_rd B0 xs i hi
      rw [show rd ((0, (0, 0, 0, ()), 0, ()) : BE) xs (i : Int) = rd B0 xs (i : Int) from rfl]
      by_cases c1 : (rd B0 xs (i : Int)).2.2.1 < 1
      · rw [bt1 c1]
        refine .inr ⟨⟨4, by decide, rfl⟩, fun hh => ?_⟩
        have := (hh.1 (rd B0 xs (i : Int)) (by rw [hd]; simp)).1
        omega
      rw [bf1 c1]
      by_cases c2 : (rd B0 xs (i : Int)).2.2.1 > 1000000
      · rw [bt1 c2]
        refine .inr ⟨⟨4, by decide, rfl⟩, fun hh => ?_⟩
        have := (hh.1 (rd B0 xs (i : Int)) (by rw [hd]; simp)).2
        omega
      rw [bf1 c2]
      have hw : WtOK (rd B0 xs (i : Int)) := ⟨by omega, by omega⟩
      by_cases c3 : (i : Int) > 0
      · have e1 : w64 ((i : Int) - 1) = ((i - 1 : Nat) : Int) := by rw [ws (by omega)]; omega
        rw [bt1 c3, e1, bt2 ⟨by omega, by omega⟩, show rd ((0, (0, 0, 0, ()), 0, ()) : BE) xs ((i - 1 : Nat) : Int) = rd B0 xs ((i - 1 : Nat) : Int) from rfl, cmpE_eq]
        simp only [Option.bind_some]
        have hd1 := drop_rd B0 xs (i - 1) (by omega)
        rw [show i - 1 + 1 = i by omega, hd] at hd1
        by_cases c4 : cmpE (rd B0 xs ((i - 1 : Nat) : Int)) (rd B0 xs (i : Int)) ≥ 0
        · rw [bt1 c4]
          refine .inr ⟨⟨3, by decide, rfl⟩, fun hh => ?_⟩
          have := (asc2.1 (hd1 ▸ hh.2)).1
          have := (cmpE_lt _ _).2 this
          omega
        · rw [bf1 c4, e]
          have hlt := (cmpE_lt (rd B0 xs ((i - 1 : Nat) : Int)) (rd B0 xs (i : Int))).1 (by omega)
          rcases chk xs hl j (i + 1) (by omega) (by omega) with ⟨hh, hr⟩ | ⟨hr, hh⟩
          · refine .inl ⟨⟨fun x hx => ?_, ?_⟩, hr⟩
            · rw [hd] at hx
              rcases List.mem_cons.1 hx with rfl | hx
              · exact hw
              · exact hh.1 x hx
            · rw [hd1]
              have h2 := hh.2
              rw [show i + 1 - 1 = i by omega, hd] at h2
              exact asc2.2 ⟨hlt, h2⟩
          · refine .inr ⟨hr, fun h3 => hh ⟨fun x hx => h3.1 x (by rw [hd]; exact List.mem_cons_of_mem _ hx), ?_⟩⟩
            rw [show i + 1 - 1 = i by omega, hd]
            exact (asc2.1 (hd1 ▸ h3.2)).2
      · rw [bf1 c3, e]
        have h0 : i = 0 := by omega
        subst h0
        rcases chk xs hl j 1 (by omega) (by omega) with ⟨hh, hr⟩ | ⟨hr, hh⟩
        · refine .inl ⟨⟨fun x hx => ?_, hh.2⟩, hr⟩
          rw [hd] at hx
          rcases List.mem_cons.1 hx with rfl | hx
          · exact hw
          · exact hh.1 x hx
        · exact .inr ⟨hr, fun h3 => hh ⟨fun x hx => h3.1 x (by rw [hd]; exact List.mem_cons_of_mem _ hx), h3.2⟩⟩
    · rw [bf1 (show ¬ (i : Int) < xs.length by omega)]
      refine .inl ⟨⟨fun x hx => ?_, ?_⟩, rfl⟩
      · rw [List.drop_eq_nil_of_le (by omega)] at hx; cases hx
      · have hie : i = xs.length := by omega
        subst hie
        rcases Nat.eq_zero_or_pos xs.length with h0 | h0
        · rw [List.length_eq_zero_iff.1 h0]; trivial
        · rw [drop_rd B0 xs _ (by omega), show xs.length - 1 + 1 = xs.length by omega, List.drop_length]
          exact ⟨fun y hy => (by cases hy), trivial⟩
theorem check_book (xs : List BE) : (Good xs ∧ f18 9000 xs = some (0, ())) ∨ ((∃ e, e ≠ 0 ∧ f18 9000 xs = some (e, ())) ∧ ¬ Good xs) := by
  unfold f18
  by_cases hl : (xs.length : Int) > 1000
  · rw [bt1 hl]
    exact .inr ⟨⟨2, by decide, rfl⟩, fun h => by have := h.len; omega⟩
  rw [bf1 hl]
  rcases chk xs (by omega) 9000 0 (by omega) (by omega) with ⟨hh, hr⟩ | ⟨⟨e, he, hr⟩, hh⟩
  · rw [show ((0 : Nat) : Int) = 0 from rfl] at hr
    rw [hr]
    exact .inl ⟨⟨by omega, by simpa using hh.1, by simpa using hh.2⟩, rfl⟩
  · rw [show ((0 : Nat) : Int) = 0 from rfl] at hr
    rw [hr]
    exact .inr ⟨⟨e, he, rfl⟩, fun h => hh ⟨by simpa using h.w, by simpa using h.asc⟩⟩
theorem Good.chk {xs : List BE} (h : Good xs) : f18 9000 xs = some (0, ()) := by
  rcases check_book xs with h' | h'
  · exact h'.2
  · exact absurd h h'.2
end Go.Proofs.Yticbohfmkiafiaa.G
namespace Go.Proofs.Yticbohfmkiafiaa.G
open Go.VM Go.Proofs
theorem mid_eq {lo hi : Nat} (h : lo ≤ 10000) (h' : hi ≤ 10000) : w64 ((IntKind.u64.wrap (w64 ((lo : Int) + (hi : Int)))).fdiv (2 ^ (min (1 : Int).toNat 64))) = (((lo + hi) / 2 : Nat) : Int) := by
  rw [ws (n := (lo : Int) + (hi : Int)) (by omega)]
  have h1 : IntKind.u64.wrap ((lo : Int) + (hi : Int)) = (lo : Int) + (hi : Int) := by
    have : IntKind.u64.wrap ((lo : Int) + (hi : Int)) = ((lo : Int) + (hi : Int)) % 18446744073709551616 := by
      simp [IntKind.wrap, IntKind.signed, IntKind.bits]
    rw [this]; omega
  rw [h1, show ((2 : Int) ^ (min (1 : Int).toNat 64)) = 2 from by decide, Int.fdiv_eq_ediv_of_nonneg _ (by omega), ws (by omega)]
  omega
theorem Asc.get : ∀ {xs : List BE}, Asc xs → ∀ {a b : Nat} {x y : BE}, a < b → xs[a]? = some x → xs[b]? = some y → ltK (kE x) (kE y)
  | [], _, a, _, _, _, _, hx, _ => by rw [List.getElem?_nil] at hx; cases hx
  | z :: r, h, 0, 0, x, y, hab, hx, hy => by omega
  | z :: r, h, 0, b + 1, x, y, _, hx, hy => by
    rw [List.getElem?_cons_zero] at hx
    rw [List.getElem?_cons_succ] at hy
    cases hx
    exact h.1 y (List.mem_of_getElem? hy)
  | z :: r, h, a + 1, 0, x, y, hab, hx, hy => by omega
  | z :: r, h, a + 1, b + 1, x, y, hab, hx, hy => by
    rw [List.getElem?_cons_succ] at hx hy
    exact Asc.get h.2 (by omega) hx hy
theorem rdB {xs : List BE} {i : Nat} (h : i < xs.length) : xs[i]? = some (rd B0 xs (i : Int)) := by
  unfold rd
  simp [List.getD_eq_getElem?_getD, List.getElem?_eq_getElem h]
def At (xs : List BE) (e : BE) (p : Nat) : Prop := p ≤ xs.length ∧ (∀ t x, t < p → xs[t]? = some x → ltK (kE x) (kE e)) ∧ (∀ t x, p ≤ t → xs[t]? = some x → ¬ ltK (kE x) (kE e))
theorem bs3 {xs : List BE} (ha : Asc xs) (hl : xs.length ≤ 5000) (e : BE) (n : Int) : ∀ (j lo hi : Nat), lo ≤ hi → hi ≤ xs.length → hi - lo < j →
    (∀ t x, t < lo → xs[t]? = some x → ltK (kE x) (kE e)) → (∀ t x, hi ≤ t → xs[t]? = some x → ¬ ltK (kE x) (kE e)) →
    ∃ p, At xs e p ∧ l25_3 9000 j xs () e n lo hi = some (xs, (), e, n, (p : Int), ())
  | 0, lo, hi, _, _, h, _, _ => by omega
  | j + 1, lo, hi, h1, h2, h3, h4, h5 => by
    rw [l25_3]
    by_cases hlt : lo < hi
    · rw [bt1 (show (lo : Int) < hi by omega), mid_eq (by omega) (by omega), bt2 ⟨by omega, by omega⟩, show rd ((0, (0, 0, 0, ()), 0, ()) : BE) xs (((lo + hi) / 2 : Nat) : Int) = rd B0 xs (((lo + hi) / 2 : Nat) : Int) from rfl, cmpE_eq]
      simp only [Option.bind_some]
      have hm := rdB (xs := xs) (i := (lo + hi) / 2) (by omega)
      by_cases c : cmpE (rd B0 xs (((lo + hi) / 2 : Nat) : Int)) e < 0
      · rw [bt1 c, show w64 ((((lo + hi) / 2 : Nat) : Int) + 1) = (((lo + hi) / 2 + 1 : Nat) : Int) by rw [ws (by omega)]; omega]
        have hk := (cmpE_lt _ _).1 c
        refine bs3 ha hl e n j ((lo + hi) / 2 + 1) hi (by omega) h2 (by omega) (fun t x ht hx => ?_) h5
        by_cases hte : t = (lo + hi) / 2
        · subst hte; rw [hm] at hx; cases hx; exact hk
        · exact ltK_tr (ha.get (show t < (lo + hi) / 2 by omega) hx hm) hk
      · rw [bf1 c]
        have hk : ¬ ltK _ (kE e) := fun hh => c ((cmpE_lt _ _).2 hh)
        refine bs3 ha hl e n j lo ((lo + hi) / 2) (by omega) (by omega) (by omega) h4 (fun t x ht hx => ?_)
        by_cases hte : t = (lo + hi) / 2
        · subst hte; rw [hm] at hx; cases hx; exact hk
        · exact fun hh => hk (ltK_tr (ha.get (show (lo + hi) / 2 < t by omega) hm hx) hh)
    · rw [bf1 (show ¬ (lo : Int) < hi by omega)]
      have : hi = lo := by omega
      subst this
      exact ⟨hi, ⟨h2, h4, h5⟩, rfl⟩
theorem bs_eq {xs : List BE} (ha : Asc xs) (hl : xs.length ≤ 5000) (e : BE) : ∃ p, At xs e p ∧ f25 9000 xs e = some ((p : Int), decide (p < xs.length ∧ kE (rd B0 xs (p : Int)) = kE e), xs, ()) := by
  obtain ⟨p, hp, h⟩ := bs3 ha hl e xs.length 9000 0 xs.length (by omega) (Nat.le_refl _) (by omega) (fun t x ht => by omega) (fun t x ht hx => by have := (List.getElem?_eq_some_iff.1 hx).1; omega)
  refine ⟨p, hp, ?_⟩
  unfold f25
  rw [show ((0 : Nat) : Int) = 0 from rfl] at h
  rw [h]
  simp only [Option.bind_some]
  by_cases c : p < xs.length
  · rw [bt1 (show (p : Int) < xs.length by omega), bt2 ⟨by omega, by omega⟩, show rd ((0, (0, 0, 0, ()), 0, ()) : BE) xs (p : Int) = rd B0 xs (p : Int) from rfl, cmpE_eq]
    simp only [Option.bind_some]
    congr 3
    by_cases c2 : kE (rd B0 xs (p : Int)) = kE e
    · rw [(cmpE_0 _ _).2 c2, decide_eq_true ⟨c, c2⟩]; rfl
    · rw [decide_eq_false (fun hh => c2 hh.2)]
      exact beq_eq_false_iff_ne.2 (fun hh => c2 ((cmpE_0 _ _).1 hh))
  · rw [bf1 (show ¬ (p : Int) < xs.length by omega), decide_eq_false (fun hh => c hh.1)]
def mW (a b : Int) : Int := if 1000000 < a + b then 1000000 else a + b
open Classical in
noncomputable def putL : List BE → BE → List BE
  | [], e => [e]
  | x :: r, e => if ltK (kE x) (kE e) then x :: putL r e else if kE x = kE e then (x.1, x.2.1, mW x.2.2.1 e.2.2.1, ()) :: r else e :: x :: r
theorem putL_split (e : BE) : ∀ (xs : List BE) (p : Nat), At xs e p → putL xs e = if p < xs.length ∧ kE (rd B0 xs (p : Int)) = kE e then xs.set p ((rd B0 xs (p : Int)).1, (rd B0 xs (p : Int)).2.1, mW (rd B0 xs (p : Int)).2.2.1 e.2.2.1, ()) else xs.take p ++ [e] ++ xs.drop p
  | [], p, h => by
    have : p = 0 := by have := h.1; simpa using this
    subst this
    simp [putL]
  | x :: r, 0, h => by
    have h0 : ¬ ltK (kE x) (kE e) := h.2.2 0 x (Nat.le_refl _) rfl
    rw [putL, if_neg h0]
    have e0 : rd B0 (x :: r) ((0 : Nat) : Int) = x := rfl
    rw [e0]
    by_cases c : kE x = kE e
    · rw [if_pos c, if_pos ⟨by simp, c⟩]; rfl
    · rw [if_neg c, if_neg (fun hh => c hh.2)]; rfl
  | x :: r, p + 1, h => by
    have h0 : ltK (kE x) (kE e) := h.2.1 0 x (by omega) rfl
    have h1 : At r e p := ⟨by have := h.1; rw [List.length_cons] at this; omega, fun t y ht hy => h.2.1 (t + 1) y (by omega) (by simpa using hy), fun t y ht hy => h.2.2 (t + 1) y (by omega) (by simpa using hy)⟩
    have e0 : rd B0 (x :: r) ((p + 1 : Nat) : Int) = rd B0 r (p : Int) := by rfl
    rw [putL, if_pos h0, putL_split e r p h1, e0]
    by_cases c : p < r.length ∧ kE (rd B0 r (p : Int)) = kE e
    · rw [if_pos c, if_pos ⟨by simp; omega, c.2⟩]; rfl
    · rw [if_neg c, if_neg (fun hh => c ⟨by have := hh.1; rw [List.length_cons] at this; omega, hh.2⟩)]; rfl
theorem put_eq {xs : List BE} (ha : Asc xs) (hw : ∀ x ∈ xs, WtOK x) (hl : xs.length ≤ 4000) {e : BE} (he : WtOK e) : f22 9000 xs e = some (putL xs e, ()) := by
  obtain ⟨p, hp, h⟩ := bs_eq ha (by omega) e
  unfold f22
  rw [h]
  simp only [Option.bind_some]
  have hs := putL_split e xs p hp
  by_cases c : p < xs.length ∧ kE (rd B0 xs (p : Int)) = kE e
  · rw [bt1 c, bt2 ⟨by omega, by omega⟩, bt2 ⟨by omega, by omega⟩, hs, if_pos c, show rd ((0, (0, 0, 0, ()), 0, ()) : BE) xs (p : Int) = rd B0 xs (p : Int) from rfl]
    have hx := hw _ (List.mem_of_getElem? (rdB c.1))
    rw [ws (by have := hx.1; have := hx.2; have := he.1; have := he.2; omega)]
    rfl
  · rw [bf1 c, hs, if_neg c]
    have hp1 := hp.1
    unfold f35 insF
    rw [decide_eq_true (show 0 ≤ (p : Int) by omega), decide_eq_true (show (p : Int) ≤ (xs.length : Int) by omega), decide_eq_true (show (xs.length + [e].length) * 40 ≤ roomN by simp only [List.length_singleton, roomN]; omega)]
    simp only [nilB, Bool.not_false, Bool.and_self, cond_true, Option.bind_some, insL, Int.toNat_natCast]
end Go.Proofs.Yticbohfmkiafiaa.G
namespace Go.Proofs.Yticbohfmkiafiaa.G
open Go.VM Go.Proofs
structure BOK (xs : List BE) : Prop where
  w : ∀ x ∈ xs, WtOK x
  asc : Asc xs
theorem BOK.nil : BOK [] := ⟨fun x hx => (by cases hx), trivial⟩
theorem Good.bok {xs : List BE} (h : Good xs) : BOK xs := ⟨h.w, h.asc⟩
theorem BOK.tail {x : BE} {r : List BE} (h : BOK (x :: r)) : BOK r := ⟨fun y hy => h.w y (List.mem_cons_of_mem _ hy), h.asc.2⟩
def W : List BE → BK → Int
  | [], _ => 0
  | x :: r, q => (if kE x = q then x.2.2.1 else 0) + W r q
theorem W_nn : ∀ {xs : List BE}, (∀ x ∈ xs, WtOK x) → ∀ q, 0 ≤ W xs q
  | [], _, _ => Int.le_refl _
  | x :: r, h, q => by
    have h1 := W_nn (xs := r) (fun y hy => h y (List.mem_cons_of_mem _ hy)) q
    have h2 := (h x (List.mem_cons_self ..)).1
    rw [W]
    split <;> omega
theorem W_zero : ∀ {xs : List BE} {q : BK}, (∀ x ∈ xs, kE x ≠ q) → W xs q = 0
  | [], _, _ => rfl
  | x :: r, q, h => by
    rw [W, if_neg (h x (List.mem_cons_self ..)), W_zero (fun y hy => h y (List.mem_cons_of_mem _ hy))]
    rfl
theorem W_above {r : List BE} {q : BK} (h : ∀ y ∈ r, ltK q (kE y)) : W r q = 0 := W_zero (fun y hy e => ltK_irr q (e ▸ h y hy))
theorem W_head {x : BE} {r : List BE} (h : Asc (x :: r)) : W r (kE x) = 0 := W_above h.1
theorem W_le : ∀ {xs : List BE}, BOK xs → ∀ q, W xs q ≤ 1000000
  | [], _, _ => by rw [W]; omega
  | x :: r, h, q => by
    have h1 := W_le h.tail q
    have h2 := (h.w x (List.mem_cons_self ..)).2
    rw [W]
    split
    · rename_i e
      rw [← e, W_head h.asc]; omega
    · omega
theorem putL_mem {x e : BE} : ∀ {xs : List BE}, x ∈ putL xs e → kE x = kE e ∨ x ∈ xs
  | [], h => by rw [putL, List.mem_singleton] at h; exact .inl (by rw [h])
  | y :: r, h => by
    rw [putL] at h
    split at h
    · rcases List.mem_cons.1 h with rfl | h
      · exact .inr (List.mem_cons_self ..)
      · exact (putL_mem h).imp id (List.mem_cons_of_mem _)
    · split at h
      · rename_i hk
        rcases List.mem_cons.1 h with rfl | h
        · exact .inl hk
        · exact .inr (List.mem_cons_of_mem _ h)
      · rcases List.mem_cons.1 h with rfl | h
        · exact .inl rfl
        · exact .inr h
theorem mW_ok {a b : Int} (h : 1 ≤ a) (h' : 1 ≤ b) : 1 ≤ mW a b ∧ mW a b ≤ 1000000 := by unfold mW; split <;> omega
theorem putL_ok {e : BE} (he : WtOK e) : ∀ {xs : List BE}, BOK xs → BOK (putL xs e)
  | [], _ => ⟨fun x hx => by rw [putL, List.mem_singleton] at hx; rw [hx]; exact he, ⟨fun y hy => (by cases hy), trivial⟩⟩
  | y :: r, h => by
    rw [putL]
    split
    · rename_i hlt
      have ih := putL_ok he h.tail
      refine ⟨fun x hx => ?_, fun z hz => ?_, ih.asc⟩
      · rcases List.mem_cons.1 hx with rfl | hx
        · exact h.w _ (List.mem_cons_self ..)
        · exact ih.w x hx
      · rcases putL_mem hz with hk | hz
        · rw [hk]; exact hlt
        · exact h.asc.1 z hz
    · split
      · rename_i _ hk
        refine ⟨fun x hx => ?_, fun z hz => h.asc.1 z hz, h.asc.2⟩
        rcases List.mem_cons.1 hx with rfl | hx
        · exact mW_ok (h.w y (List.mem_cons_self ..)).1 he.1
        · exact h.w x (List.mem_cons_of_mem _ hx)
      · rename_i h1 h2
        have hlt : ltK (kE e) (kE y) := Classical.byContradiction (fun hn => h2 (ltK_tot h1 hn))
        refine ⟨fun x hx => ?_, fun z hz => ?_, h.asc⟩
        · rcases List.mem_cons.1 hx with rfl | hx
          · exact he
          · exact h.w x hx
        · rcases List.mem_cons.1 hz with rfl | hz
          · exact hlt
          · exact ltK_tr hlt (h.asc.1 z hz)
theorem putL_len (e : BE) : ∀ (xs : List BE), (putL xs e).length ≤ xs.length + 1
  | [] => by simp [putL]
  | y :: r => by
    rw [putL]
    split
    · have := putL_len e r; simp only [List.length_cons]; omega
    · split <;> simp
theorem putL_W {e : BE} (he : WtOK e) (q : BK) : ∀ {xs : List BE}, BOK xs → W (putL xs e) q = if kE e = q then mW (W xs q) e.2.2.1 else W xs q
  | [], _ => by
    have := he.2
    rw [putL, W, W, W]
    split
    · unfold mW; rw [if_neg (by omega)]; omega
    · rfl
  | y :: r, h => by
    have hy := h.w y (List.mem_cons_self ..)
    rw [putL]
    split
    · rename_i hlt
      rw [W, putL_W he q h.tail]
      by_cases c : kE e = q
      · rw [if_pos c, if_pos c, W, if_neg (fun hh => ltK_irr q (by rw [hh, c] at hlt; exact hlt))]
        rw [Int.zero_add, Int.zero_add]
      · rw [if_neg c, if_neg c, W]
    · split
      · rename_i _ hk
        rw [W, W]
        by_cases c : kE e = q
        · have hz : W r q = 0 := by rw [← c, ← hk]; exact W_head h.asc
          have e1 : kE ((y.1, y.2.1, mW y.2.2.1 e.2.2.1, ()) : BE) = q := by rw [← c, ← hk]; rfl
          rw [if_pos e1, if_pos c, if_pos (hk.trans c), hz]
          show mW y.2.2.1 e.2.2.1 + 0 = mW (y.2.2.1 + 0) e.2.2.1
          rw [Int.add_zero, Int.add_zero]
        · have e1 : ¬ kE ((y.1, y.2.1, mW y.2.2.1 e.2.2.1, ()) : BE) = q := fun hh => c (hk.symm.trans hh)
          rw [if_neg e1, if_neg c, if_neg (fun hh => c (hk.symm.trans hh))]
      · rename_i h1 h2
        have hlt : ltK (kE e) (kE y) := Classical.byContradiction (fun hn => h2 (ltK_tot h1 hn))
        rw [W]
        by_cases c : kE e = q
        · have hz : W (y :: r) q = 0 := by
            rw [← c]
            refine W_above (fun z hz => ?_)
            rcases List.mem_cons.1 hz with rfl | hz
            · exact hlt
            · exact ltK_tr hlt (h.asc.1 z hz)
          have := he.2
          rw [if_pos c, if_pos c, hz]
          unfold mW
          rw [if_neg (by omega)]; omega
        · rw [if_neg c, if_neg c, Int.zero_add]
noncomputable def putsL (xs es : List BE) : List BE := es.foldl putL xs
theorem putsL_all : ∀ {es xs : List BE}, BOK xs → (∀ x ∈ es, WtOK x) → BOK (putsL xs es) ∧ (putsL xs es).length ≤ xs.length + es.length ∧ ∀ q, W (putsL xs es) q = min (W xs q + W es q) 1000000
  | [], xs, h, _ => ⟨h, by simp [putsL], fun q => by
    have := W_le h q
    show W xs q = min (W xs q + 0) 1000000
    omega⟩
  | e :: es, xs, h, hw => by
    have he := hw e (List.mem_cons_self ..)
    have hw' : ∀ x ∈ es, WtOK x := fun x hx => hw x (List.mem_cons_of_mem _ hx)
    obtain ⟨k1, k2, k3⟩ := putsL_all (putL_ok he h) hw'
    have hl := putL_len e xs
    refine ⟨k1, ?_, fun q => ?_⟩
    · show (putsL (putL xs e) es).length ≤ _
      rw [List.length_cons]; omega
    · show W (putsL (putL xs e) es) q = _
      have hn := W_nn hw' q
      rw [k3 q, putL_W he q h, W]
      by_cases c : kE e = q
      · rw [if_pos c, if_pos c]
        unfold mW
        split <;> omega
      · rw [if_neg c, if_neg c, Int.zero_add]
theorem book_ext : ∀ {xs ys : List BE}, BOK xs → BOK ys → (∀ q, W xs q = W ys q) → xs = ys
  | [], [], _, _, _ => rfl
  | [], y :: r, _, h, e => by
    have h1 := e (kE y)
    have h2 := (h.w y (List.mem_cons_self ..)).1
    rw [W, W, if_pos rfl, W_head h.asc] at h1
    omega
  | x :: r, [], h, _, e => by
    have h1 : (if kE x = kE x then x.2.2.1 else 0) + W r (kE x) = 0 := e (kE x)
    have h2 := (h.w x (List.mem_cons_self ..)).1
    rw [if_pos rfl, W_head h.asc] at h1
    omega
  | x :: r, y :: s, h, h', e => by
    have hx := (h.w x (List.mem_cons_self ..)).1
    have hy := (h'.w y (List.mem_cons_self ..)).1
    have ex := e (kE x)
    have ey := e (kE y)
    have n1 : ¬ ltK (kE x) (kE y) := fun hlt => by
      have hz : W (y :: s) (kE x) = 0 := W_above (fun z hz => by
        rcases List.mem_cons.1 hz with rfl | hz
        · exact hlt
        · exact ltK_tr hlt (h'.asc.1 z hz))
      rw [hz, W, if_pos rfl, W_head h.asc] at ex
      omega
    have n2 : ¬ ltK (kE y) (kE x) := fun hlt => by
      have hz : W (x :: r) (kE y) = 0 := W_above (fun z hz => by
        rcases List.mem_cons.1 hz with rfl | hz
        · exact hlt
        · exact ltK_tr hlt (h.asc.1 z hz))
      rw [hz, W, if_pos rfl, W_head h'.asc] at ey
      omega
    have hk := ltK_tot n1 n2
    have hz' : W s (kE x) = 0 := by rw [hk]; exact W_head h'.asc
    rw [W, W, if_pos rfl, if_pos hk.symm, W_head h.asc, hz'] at ex
    have hxy : x = y := by
      obtain ⟨a, b, c, _⟩ := x; obtain ⟨a', b', c', _⟩ := y
      simp only [kE, Prod.mk.injEq] at hk
      have hc : c = c' := by simpa using ex
      rw [hk.1, hk.2, hc]
    subst hxy
    rw [book_ext h.tail h'.tail (fun q => by
      have := e q
      rw [W, W] at this
      omega)]
theorem mg10 (ys : List BE) (hy : ∀ x ∈ ys, WtOK x) (hl : ys.length ≤ 1000) : ∀ (j i : Nat) (xs : List BE), i ≤ ys.length → ys.length < i + j → BOK xs → xs.length + (ys.length - i) ≤ 3000 →
    l11_10 9000 j xs ys ys.length i = some (putsL xs (ys.drop i), ())
  | 0, i, _, _, h, _, _ => by omega
  | j + 1, i, xs, h, h', hx, hlx => by
    rw [l11_10]
    by_cases hi : i < ys.length
    · have e : w64 ((i : Int) + 1) = ((i + 1 : Nat) : Int) := by rw [ws (by omega)]; omega
      have hd := drop_rd B0 ys i hi
      have hm : WtOK (rd B0 ys (i : Int)) := hy _ (List.mem_of_getElem? (rdB hi))
      rw [bt1 (show (i : Int) < ys.length by omega), bt2 ⟨by omega, by omega⟩, show rd ((0, (0, 0, 0, ()), 0, ()) : BE) ys (i : Int) = rd B0 ys (i : Int) from rfl, put_eq hx.asc hx.w (by omega) hm]
      simp only [Option.bind_some]
      have hpl := putL_len (rd B0 ys (i : Int)) xs
      rw [e, mg10 ys hy hl j (i + 1) _ (by omega) (by omega) (putL_ok hm hx) (by omega), hd]
      rfl
    · rw [bf1 (show ¬ (i : Int) < ys.length by omega), List.drop_eq_nil_of_le (by omega)]
      rfl
theorem clone_book (xs : List BE) (h : xs.length ≤ 5000) : f20 9000 xs = some (xs, ()) := by
  unfold f20
  have hb : (([] : List BE).length + xs.length) * 40 ≤ roomN := by simp only [List.length_nil, roomN]; omega
  rw [bt1 hb]
  cases xs with
  | nil => show both _ _ = _; unfold both; exact if_pos rfl
  | cons x r => rfl
theorem merge_eq {xs ys : List BE} (hx : Good xs) (hy : Good ys) (hl : xs.length + ys.length ≤ 1000) : f11 9000 xs ys = some (putsL xs ys, 0, ()) := by
  unfold f11
  rw [show rd ([] : List BE) [xs, ys] 0 = xs from rfl, show rd ([] : List BE) [xs, ys] 1 = ys from rfl, hx.chk, hy.chk]
  simp only [Option.bind_some]
  rw [beq1 rfl, beq1 rfl, clone_book xs (by omega)]
  simp only [Option.bind_some]
  have := mg10 ys hy.w (by omega) 9000 0 xs (by omega) (by omega) hx.bok (by omega)
  rw [show ((0 : Nat) : Int) = 0 from rfl, List.drop_zero] at this
  rw [this]
  simp only [Option.bind_some]
  have := (putsL_all hx.bok hy.w).2.1
  rw [bf1 (by omega)]
theorem merge_err {xs ys : List BE} (h : ¬ (Good xs ∧ Good ys)) : ∃ e, e ≠ 0 ∧ f11 9000 xs ys = some ([], e, ()) := by
  unfold f11
  rw [show rd ([] : List BE) [xs, ys] 0 = xs from rfl, show rd ([] : List BE) [xs, ys] 1 = ys from rfl]
  rcases check_book xs with ⟨hx, h1⟩ | ⟨⟨e, he, h1⟩, _⟩
  · rw [h1]
    simp only [Option.bind_some]
    rw [beq1 rfl]
    rcases check_book ys with ⟨hy, h2⟩ | ⟨⟨e, he, h2⟩, _⟩
    · exact absurd ⟨hx, hy⟩ h
    · rw [h2]
      simp only [Option.bind_some]
      rw [bne1 he]
      exact ⟨e, he, rfl⟩
  · rw [h1]
    simp only [Option.bind_some]
    rw [bne1 he]
    exact ⟨e, he, rfl⟩
theorem same4 (xs : List BE) (hl : xs.length ≤ 5000) : ∀ (j i : Nat), i ≤ xs.length → xs.length < i + j → l12_4 9000 j xs xs xs.length i = some (.inl ())
  | 0, i, _, h => by omega
  | j + 1, i, h, h' => by
    rw [l12_4]
    by_cases hi : i < xs.length
    · have e : w64 ((i : Int) + 1) = ((i + 1 : Nat) : Int) := by rw [ws (by omega)]; omega
      rw [bt1 (show (i : Int) < xs.length by omega), bt2 ⟨by omega, by omega⟩, bt2 ⟨by omega, by omega⟩]
      simp only [beq_self_eq_true, Bool.and_self, Bool.not_true, cond_false]
      rw [e]
      exact same4 xs hl j (i + 1) (by omega) (by omega)
    · rw [bf1 (show ¬ (i : Int) < xs.length by omega)]
theorem same_book (xs : List BE) (hl : xs.length ≤ 5000) : f12 9000 xs xs = some (true, ()) := by
  unfold f12
  rw [beq1 rfl]
  have := same4 xs hl 9000 0 (by omega) (by omega)
  rw [show ((0 : Nat) : Int) = 0 from rfl] at this
  rw [this]
  rfl
end Go.Proofs.Yticbohfmkiafiaa.G
