/- JournalGrows, as a plain fact. -/
import Derived.Test.YtfalgaldkadgoaaGJournal
namespace Go.Proofs.Ytfalgaldkadgoaa.G
open Go.VM Go.Proofs

theorem wj {n : Int} (h : -9223372036854775808 ≤ n ∧ n ≤ 9223372036854775807) : w64 n = n := by
  unfold w64; rw [IntKind.wrap_i64]; omega
abbrev JE := ByteArray × Int × Unit
abbrev J0 : JE := ((⟨#[]⟩ : ByteArray), 0, ())
theorem rd_at {α : Type} (d x : α) (p r : List α) : rd d (p ++ x :: r) p.length = x := by
  unfold rd; simp

theorem l42_tot (s : ByteArray) : ∀ (j i : Nat) (a : Int), i ≤ s.size → s.size < i + j → s.size ≤ 1000000 → ∃ h, l42_3 300 j s a s.size i = some (s, h, ())
  | 0, i, a, h, h', _ => by omega
  | j + 1, i, a, h, h', hs => by
    rw [l42_3]
    by_cases hi : i < s.size
    · rw [decide_eq_true (show (i : Int) < s.size by omega), decide_eq_true (show (0 : Int) ≤ i by omega), wj (by omega)]
      simp only [cond_true, Bool.and_self]
      exact l42_tot s j (i + 1) _ (by omega) (by omega) hs
    · rw [decide_eq_false (show ¬ (i : Int) < s.size by omega)]
      exact ⟨a, rfl⟩
noncomputable def sm (b : Int) (s : ByteArray) : Int := ((f42 300 b s).getD (0, ())).1
theorem f42_sm (b : Int) (s : ByteArray) (h : s.size ≤ 200) : f42 300 b s = some (sm b s, ()) := by
  unfold sm
  have : ∃ x, f42 300 b s = some (x, ()) := by
    unfold f42
    obtain ⟨h, e⟩ := l42_tot s 300 0 (bitsOp .xor .u64 b 14695981039346656037) (by omega) (by omega) (by omega)
    rw [show ((0 : Nat) : Int) = 0 from rfl] at e
    rw [e]
    exact ⟨_, rfl⟩
  obtain ⟨x, e⟩ := this
  rw [e]; rfl

theorem l41_tot (s : ByteArray) : ∀ (j i : Nat), i ≤ s.size → s.size < i + j → s.size ≤ 1000000 → l41_4 300 j s s.size i = some (.inl ()) ∨ ∃ e, l41_4 300 j s s.size i = some (.inr (e, ())) ∧ e ≠ 0
  | 0, i, h, h', _ => by omega
  | j + 1, i, h, h', hs => by
    rw [l41_4]
    by_cases hi : i < s.size
    · rw [decide_eq_true (show (i : Int) < s.size by omega), decide_eq_true (show (0 : Int) ≤ i by omega), wj (by omega)]
      simp only [cond_true, Bool.and_self]
      cases decide ((bt s i) < 32)
      · cases decide ((bt s i) > 126)
        · exact l41_tot s j (i + 1) (by omega) (by omega) hs
        · exact .inr ⟨3, rfl, by decide⟩
      · exact .inr ⟨3, rfl, by decide⟩
    · rw [decide_eq_false (show ¬ (i : Int) < s.size by omega)]
      exact .inl rfl
theorem f41_tot (s : ByteArray) : (f41 300 s = some (0, ()) ∧ s.size ≤ 200) ∨ ∃ e, f41 300 s = some (e, ()) ∧ e ≠ 0 := by
  unfold f41
  by_cases h : s.size > 200
  · rw [decide_eq_true (show (s.size : Int) > 200 by omega)]; exact .inr ⟨2, rfl, by decide⟩
  · rw [decide_eq_false (show ¬ (s.size : Int) > 200 by omega)]
    simp only [cond_false]
    have := l41_tot s 300 0 (by omega) (by omega) (by omega)
    rw [show ((0 : Nat) : Int) = 0 from rfl] at this
    rcases this with e | ⟨e, h1, h2⟩
    · rw [e]; exact .inl ⟨rfl, by omega⟩
    · rw [h1]; exact .inr ⟨e, rfl, h2⟩

/-- Entries behind a checksum, all right. -/
def ch : Int → List JE → Prop
  | _, [] => True
  | b, (s, h, ()) :: r => s.size ≤ 200 ∧ f41 300 s = some (0, ()) ∧ h = sm b s ∧ ch h r
def lst : Int → List JE → Int
  | b, [] => b
  | _, (_, h, ()) :: r => lst h r
theorem ch_app : ∀ (l : List JE) (b : Int) (s : ByteArray), ch b l → s.size ≤ 200 → f41 300 s = some (0, ()) → ch b (l ++ [(s, sm (lst b l) s, ())])
  | [], b, s, _, h1, h2 => ⟨h1, h2, rfl, trivial⟩
  | (t, h, ()) :: r, b, s, hc, h1, h2 => ⟨hc.1, hc.2.1, hc.2.2.1, ch_app r h s hc.2.2.2 h1 h2⟩
theorem lst_last : ∀ (l : List JE) (b : Int) (x : JE), lst b (l ++ [x]) = x.2.1
  | [], b, (_, h, ()) => rfl
  | (t, h, ()) :: r, b, x => lst_last r h x

theorem l19_ch : ∀ (suf pre : List JE) (b : Int) (j : Nat), ch b suf → suf.length < j → (pre ++ suf).length ≤ 1000 → l19_3 300 j (pre ++ suf) b (pre ++ suf) (pre ++ suf).length pre.length = some (.inl (pre ++ suf, ()))
  | [], pre, b, 0, _, h, _ => by simp at h
  | [], pre, b, j + 1, _, h, _ => by
    rw [l19_3, decide_eq_false (by simp)]; rfl
  | (s, h, ()) :: r, pre, b, 0, _, hj, _ => by simp at hj
  | (s, h, ()) :: r, pre, b, j + 1, hc, hj, hl => by
    have hl' : pre.length + (r.length + 1) ≤ 1000 := by simpa using hl
    rw [l19_3]
    have e1 : decide ((pre.length : Int) < ((pre ++ (s, h, ()) :: r).length : Int)) = true := decide_eq_true (by simp; omega)
    rw [e1, decide_eq_true (show (0 : Int) ≤ pre.length by omega), rd_at]
    obtain ⟨c1, c2, c3, c4⟩ := hc
    simp only [cond_true, Bool.and_self, f42_sm b s c1, Option.bind_some, c2]
    rw [beq_eq_false_iff_ne.2 (show ¬ ((pre.length : Int) = 1000) by omega), wj (by omega)]
    have e2 : (h != sm b s) = false := by rw [c3]; simp
    rw [e2]
    simp only [cond_false, show ((0 : Int) != 0) = false from rfl]
    have ih := l19_ch r (pre ++ [(s, h, ())]) h j c4 (by simp at hj; omega) (by simp; omega)
    rw [← c3]
    simpa using ih
theorem f19_ch {l : List JE} (h : ch 0 l) (hl : l.length ≤ 250) : f19 300 l = some ((l.length : Int), ()) := by
  unfold f19
  have := l19_ch l [] 0 300 h (by omega) (by simp; omega)
  simp only [List.nil_append, List.length_nil] at this
  rw [show ((0 : Nat) : Int) = 0 from rfl] at this
  rw [this]; rfl
theorem f40_ch {l : List JE} (h : ch 0 l) (hl : l.length ≤ 250) : f40 300 l = some (0, ()) := by
  unfold f40
  rw [decide_eq_false (show ¬ (l.length : Int) > 1000 by omega), f19_ch h hl]
  simp only [cond_false, Option.bind_some, beq_self_eq_true, cond_true]
theorem f17_ch {l : List JE} (h : ch 0 l) (hl : l.length ≤ 250) (s : ByteArray) : (∃ e, f17 300 l s = some ([], e, ()) ∧ e ≠ 0) ∨
    (f17 300 l s = some (l ++ [(s, sm (lst 0 l) s, ())], 0, ()) ∧ ch 0 (l ++ [(s, sm (lst 0 l) s, ())])) := by
  unfold f17
  simp only [f40_ch h hl, Option.bind_some, show ((0 : Int) != 0) = false from rfl, cond_false]
  rcases f41_tot s with ⟨e1, e2⟩ | ⟨e, e1, e2⟩
  · right
    refine ⟨?_, ch_app l 0 s h e2 e1⟩
    simp only [e1, Option.bind_some, show ((0 : Int) != 0) = false from rfl, cond_false]
    rw [beq_eq_false_iff_ne.2 (show ¬ ((l.length : Int) = 1000) by omega)]
    simp only [cond_false, List.nil_append, List.length_nil, List.length_singleton, Nat.zero_add]
    have q1 : decide (l.length * 24 ≤ roomN) = true := decide_eq_true (by unfold roomN; omega)
    have q2 : decide ((l.length + 1) * 24 ≤ roomN) = true := decide_eq_true (by unfold roomN; omega)
    rw [q1]
    simp only [f42_sm _ s e2, Option.bind_some, q2, cond_true]
    rcases List.eq_nil_or_concat l with rfl | ⟨l', x, rfl⟩
    · rfl
    · rw [List.concat_eq_append] at *
      have n1 : ((l' ++ [x]).length : Int) = (l'.length : Int) + 1 := by simp
      rw [n1, decide_eq_true (by omega), wj (by omega), decide_eq_true (by omega), decide_eq_true (by omega)]
      rw [show (l'.length : Int) + 1 - 1 = (l'.length : Int) by omega, rd_at, lst_last]
      rfl
  · left
    refine ⟨e, ?_, e2⟩
    simp only [e1, Option.bind_some, bne_iff_ne.2 e2, cond_true]

theorem l16_ch (ts : List ByteArray) (ht : ts.length ≤ 20) : ∀ (j i : Nat) (l : List JE), i ≤ ts.length → ts.length < i + j → ch 0 l → l.length ≤ i → ∃ l', l16_3 300 j l ts ts.length i = some (l', ()) ∧ ch 0 l' ∧ l'.length ≤ 20
  | 0, i, l, h, h', _, _ => by omega
  | j + 1, i, l, h, h', hc, hl => by
    rw [l16_3]
    by_cases hi : i < ts.length
    · rw [decide_eq_true (show (i : Int) < ts.length by omega), decide_eq_true (show (0 : Int) ≤ i by omega), wj (by omega)]
      simp only [cond_true, Bool.and_self]
      rcases f17_ch hc (by omega) (rd (⟨#[]⟩ : ByteArray) ts i) with ⟨e, e1, e2⟩ | ⟨e1, e2⟩
      · simp only [e1, Option.bind_some, beq_eq_false_iff_ne.2 e2, cond_false]
        exact l16_ch ts ht j (i + 1) l (by omega) (by omega) hc (by omega)
      · simp only [e1, Option.bind_some, show ((0 : Int) == 0) = true from rfl, cond_true]
        exact l16_ch ts ht j (i + 1) _ (by omega) (by omega) e2 (by simp; omega)
    · rw [decide_eq_false (show ¬ (i : Int) < ts.length by omega)]
      exact ⟨l, rfl, hc, by omega⟩
theorem f16_ch (ts : List ByteArray) : ∃ l, f16 300 ts = some (l, ()) ∧ ch 0 l ∧ l.length ≤ 20 := by
  unfold f16
  have hm : (if 20 < (ts.length : Int) then 20 else (ts.length : Int)) = ((min 20 ts.length : Nat) : Int) := by split <;> omega
  rw [hm, decide_eq_true (by omega), decide_eq_true (by omega)]
  simp only [Bool.and_self, cond_true]
  have hl : (sliceOf ts 0 ((min 20 ts.length : Nat) : Int)).length = min 20 ts.length := by unfold sliceOf; simp
  obtain ⟨l', h1, h2, h3⟩ := l16_ch (sliceOf ts 0 ((min 20 ts.length : Nat) : Int)) (by omega) 300 0 [] (by omega) (by omega) trivial (by simp)
  rw [show ((0 : Nat) : Int) = 0 from rfl] at h1
  rw [h1]
  exact ⟨l', rfl, h2, h3⟩

theorem ba_beq (a b : ByteArray) : (a == b) = true ↔ a = b := by
  obtain ⟨a⟩ := a
  obtain ⟨b⟩ := b
  show (a == b) = true ↔ _
  rw [beq_iff_eq]
  simp
theorem je_eq (p q : JE) : ((p.1 == q.1) && ((p.2.1 == q.2.1) && true)) = true ↔ p = q := by
  obtain ⟨a, b, ⟨⟩⟩ := p
  obtain ⟨c, d, ⟨⟩⟩ := q
  simp [ba_beq]
theorem l18_spec (x m : List JE) (hx : m.length ≤ x.length) (hb : x.length ≤ 250) : ∀ (j i : Nat), i ≤ m.length → m.length < i + j →
    (l18_4 300 j x m m.length i = some (.inl ()) ∧ ∀ n, i ≤ n → n < m.length → rd J0 x n = rd J0 m n) ∨ (l18_4 300 j x m m.length i = some (.inr (false, ())) ∧ ∃ n, n < m.length ∧ rd J0 x n ≠ rd J0 m n)
  | 0, i, h, h' => by omega
  | j + 1, i, h, h' => by
    rw [l18_4]
    by_cases hi : i < m.length
    · rw [decide_eq_true (show (i : Int) < m.length by omega), decide_eq_true (show (0 : Int) ≤ i by omega), decide_eq_true (show (i : Int) < x.length by omega), wj (by omega)]
      simp only [cond_true, Bool.and_self]
      cases hc : (((rd J0 x i).1 == (rd J0 m i).1) && (((rd J0 x i).2.1 == (rd J0 m i).2.1) && true))
      · right
        refine ⟨rfl, i, hi, fun e => ?_⟩
        rw [(je_eq _ _).2 e] at hc
        cases hc
      · have he := (je_eq _ _).1 hc
        rcases l18_spec x m hx hb j (i + 1) (by omega) (by omega) with ⟨e1, e2⟩ | ⟨e1, e2⟩
        · left
          refine ⟨e1, fun n hn hn' => ?_⟩
          by_cases hni : n = i
          · subst hni; exact he
          · exact e2 n (by omega) hn'
        · exact .inr ⟨e1, e2⟩
    · rw [decide_eq_false (show ¬ (i : Int) < m.length by omega)]
      exact .inl ⟨rfl, fun n h1 h2 => by omega⟩
theorem f18_spec (x m : List JE) (hx : m.length ≤ x.length) (hb : x.length ≤ 250) : (f18 300 x m = some (true, ()) ∧ ∀ n, n < m.length → rd J0 x n = rd J0 m n) ∨ (f18 300 x m = some (false, ()) ∧ ∃ n, n < m.length ∧ rd J0 x n ≠ rd J0 m n) := by
  unfold f18
  rw [decide_eq_false (show ¬ (m.length : Int) > x.length by omega)]
  simp only [cond_false]
  have := l18_spec x m hx hb 300 0 (by omega) (by omega)
  rw [show ((0 : Nat) : Int) = 0 from rfl] at this
  rcases this with ⟨e1, e2⟩ | ⟨e1, e2⟩
  · left; rw [e1]; exact ⟨rfl, fun n h => e2 n (by omega) h⟩
  · right; rw [e1]; exact ⟨rfl, e2⟩
theorem rd_pre {α : Type} (d : α) (l t : List α) (n : Nat) (h : n < l.length) : rd d (l ++ t) n = rd d l n := by
  unfold rd; simp [List.getD_eq_getElem?_getD, List.getElem?_append_left h]
theorem f15_pure : f15 300 = some (true, ()) := by kernel_rfl

theorem f3_pure (ts : List ByteArray) (a b : ByteArray) : f3 300 ts a b = some (true, ()) := by
  unfold f3
  obtain ⟨l, e, hc, hl⟩ := f16_ch ts
  simp only [f15_pure, e, Option.bind_some, Bool.not_true, cond_false]
  rcases f17_ch hc (by omega) a with ⟨ea, a1, a2⟩ | ⟨a1, a2⟩
  · rcases f17_ch hc (by omega) b with ⟨eb, b1, b2⟩ | ⟨b1, b2⟩
    · simp only [a1, b1, Option.bind_some, bne_iff_ne.2 a2, cond_true, List.length_nil]; rfl
    · simp only [a1, b1, Option.bind_some, bne_iff_ne.2 a2, cond_true, List.length_nil]; rfl
  · rcases f17_ch hc (by omega) b with ⟨eb, b1, b2⟩ | ⟨b1, b2⟩
    · simp only [a1, b1, Option.bind_some, bne_iff_ne.2 b2, cond_true, List.length_nil, show ((0 : Int) != 0) = false from rfl, cond_false]; rfl
    · simp only [a1, b1, Option.bind_some, show ((0 : Int) != 0) = false from rfl, cond_false]
      have ext : ∀ x : JE, f18 300 (l ++ [x]) l = some (true, ()) := by
        intro x
        rcases f18_spec (l ++ [x]) l (by simp) (by simp; omega) with ⟨h, _⟩ | ⟨_, n, hn, hne⟩
        · exact h
        · exact absurd (rd_pre J0 l [x] n hn) hne
      simp only [ext, Option.bind_some, cond_true]
      have key : f18 300 (l ++ [(a, sm (lst 0 l) a, ())]) (l ++ [(b, sm (lst 0 l) b, ())]) = some (a.toList == b.toList, ()) := by
        by_cases hab : a = b
        · subst hab
          rcases f18_spec (l ++ [(a, sm (lst 0 l) a, ())]) (l ++ [(a, sm (lst 0 l) a, ())]) (by simp) (by simp; omega) with ⟨h, _⟩ | ⟨_, n, _, hne⟩
          · rw [h]; simp
          · exact absurd rfl hne
        · have hne : (a.toList == b.toList) = false := by
            refine beq_eq_false_iff_ne.2 fun h => hab ?_
            rw [ByteArray.toList_eq, ByteArray.toList_eq] at h
            cases a; cases b
            simp at h
            rw [h]
          rw [hne]
          rcases f18_spec (l ++ [(a, sm (lst 0 l) a, ())]) (l ++ [(b, sm (lst 0 l) b, ())]) (by simp) (by simp; omega) with ⟨_, h⟩ | ⟨h, _⟩
          · have := h l.length (by simp)
            rw [rd_at, rd_at] at this
            simp at this
            exact absurd this.1 hab
          · exact h
      simp only [key, Option.bind_some, beq_self_eq_true, cond_true, f19_ch a2 (by simp; omega)]
end Go.Proofs.Ytfalgaldkadgoaa.G
