/- Searches: counts, scores, who wins by force. -/
import Derived.Test.YtnjjioeehbanjaaTBoard
namespace Go.Proofs.Ytnjjioeehbanjaa.G
open Go.VM Go.Proofs
section
variable {r : RU} {p : PO}
theorem zof3 (p : PO) (l : List Int) (hl : l.length ≤ 1000) : ∀ (j i : Nat) (s : Int), i ≤ l.length → l.length < i + j → ∃ v, l48_3 9000 j p s l l.length i = some (p, v, ())
  | 0, i, s, h, h' => by omega
  | j + 1, i, s, h, h' => by
    rw [l48_3]
    by_cases hi : i < l.length
    · have e : ((i : Int) + 1) = ((i + 1 : Nat) : Int) := by omega
      rw [bt1 (show (i : Int) < l.length by omega), bt2 ⟨by omega, by omega⟩, zs_eq, Option.bind_some, ws (by omega), e]
      exact zof3 p l hl j (i + 1) _ (by omega) (by omega)
    · rw [bf1 (show ¬ (i : Int) < l.length by omega)]
      exact ⟨_, rfl⟩
theorem zof11 (s6 : Int) (hh : List Int × List Int × Unit) (n : Int) (l : List Int) (hl : l.length ≤ 1000) : ∀ (j i : Nat) (s : Int), i ≤ l.length → l.length < i + j → ∃ v, l48_11 9000 j s s6 hh n l l.length i = some (v, hh, n, ())
  | 0, i, s, h, h' => by omega
  | j + 1, i, s, h, h' => by
    rw [l48_11]
    by_cases hi : i < l.length
    · have e : ((i : Int) + 1) = ((i + 1 : Nat) : Int) := by omega
      rw [bt1 (show (i : Int) < l.length by omega), bt2 ⟨by omega, by omega⟩, zh_eq, Option.bind_some, ws (by omega), e]
      exact zof11 s6 hh n l hl j (i + 1) _ (by omega) (by omega)
    · rw [bf1 (show ¬ (i : Int) < l.length by omega)]
      exact ⟨_, rfl⟩
theorem POK.lens' (hp : POK r p) : p.1.length ≤ 64 ∧ p.2.1.1.length ≤ 6 ∧ p.2.1.2.1.length ≤ 6 := by
  have := hp.len64
  have := hp.ru.n6
  have := hp.a
  have := hp.b
  omega
theorem rd_memL {α : Type} (d : α) (l : List α) (i : Nat) (h : i < l.length) : rd d l (i : Int) ∈ l := by
  unfold rd
  rw [Int.toNat_natCast, List.getD_eq_getElem?_getD, List.getElem?_eq_getElem h, Option.getD_some]
  exact List.getElem_mem h
theorem zof_tot (hp : POK r p) : ∃ v, f48 9000 p = some (v, ()) := by
  obtain ⟨l1, l2, l3⟩ := hp.lens'
  have e1 : w64 (0 + 1) = 1 := by decide
  have e2 : w64 (1 + 1) = 2 := by decide
  unfold f48
  rw [zt_eq, Option.bind_some]
  obtain ⟨v, hv⟩ := zof3 p p.1 (by omega) 9000 0 (zt p.2.2.1) (by omega) (by omega)
  rw [show ((0 : Nat) : Int) = 0 from rfl] at hv
  rw [hv, Option.bind_some]
  obtain ⟨a, ha⟩ := zof11 0 p.2.1 0 p.2.1.1 (by omega) 9000 0 v (by omega) (by omega)
  obtain ⟨b, hb⟩ := zof11 1 p.2.1 1 p.2.1.2.1 (by omega) 9000 0 a (by omega) (by omega)
  rw [show ((0 : Nat) : Int) = 0 from rfl] at ha hb
  have h8 : l48_8 9000 9000 v p.2.1 0 = some (b, ()) := by
    rw [l48_8, bt1 (by decide), be1 rfl, ha, Option.bind_some, e1, l48_8, bt1 (by decide), bn1 (by decide), be1 rfl, hb, Option.bind_some, e2, l48_8, bf1 (by decide)]
  rw [h8, Option.bind_some]
  exact ⟨_, rfl⟩
theorem bnew_tot (hz : Rz r) (hp : POK r p) : ∃ v, f41 9000 r p = some (.inl ((r, p, v, [], ()), 0, ())) := by
  unfold f41
  rw [place_ok hz hp, Option.bind_some, beq1 rfl, rcopy_eq hz.ok, Option.bind_some, copy_eq hp, Option.bind_some]
  obtain ⟨v, hv⟩ := zof_tot hp
  rw [hv, Option.bind_some]
  exact ⟨v, rfl⟩
theorem bres_tot (hp : POK r p) (key : Int) (d : List UN) : ∃ e, f49 9000 (r, p, key, d, ()) = some (e, (r, p, key, d, ()), ()) := by
  unfold f49
  obtain ⟨e, he⟩ := res_tot hp
  dsimp only
  rw [he, Option.bind_some]
  exact ⟨e, rfl⟩
theorem bmoves_tot (hp : POK r p) (key : Int) (d : List UN) : ∃ l, f52 9000 (r, p, key, d, ()) = some (l, (r, p, key, d, ()), ()) ∧ l.length ≤ 8000 ∧ ∀ m ∈ l, MvOK r p m := by
  unfold f52
  obtain ⟨e, he⟩ := bres_tot hp key d
  rw [he, Option.bind_some]
  dsimp only
  cases e != 0
  · rw [cond_false]
    obtain ⟨g, hg, h1, h2⟩ := gen_tot hp
    rw [hg, Option.bind_some]
    exact ⟨g, rfl, h1, h2⟩
  · rw [cond_true]
    exact ⟨[], rfl, by simp, by simp⟩
/-! ### Counts -/
abbrev CN := Int × Unit
theorem cnt6 {rec : CN → BD → Int → Option (Int × CN × BD × Unit)} (hp : POK r p) (key : Int) (d : List UN) (hd : d.length ≤ 50) (x : Int)
    (H : ∀ (p' : PO) (key' : Int) (d' : List UN) (c : CN), POK r p' → d'.length = d.length + 1 → ∃ n c', rec c (r, p', key', d', ()) (w64 (x - 1)) = some (n, c', (r, p', key', d', ()), ())) (l : List MV) (hl : l.length ≤ 8000) (hm : ∀ m ∈ l, MvOK r p m) :
    ∀ (j i : Nat) (c : CN) (n : Int), i ≤ l.length → l.length < i + j → (∃ c' n', l57_6 9000 rec j c (r, p, key, d, ()) x n l l.length i = some (.inl (c', (r, p, key, d, ()), n', ()))) ∨ (∃ c' n', l57_6 9000 rec j c (r, p, key, d, ()) x n l l.length i = some (.inr (c', (r, p, key, d, ()), n', ())))
  | 0, i, c, n, h, h' => by omega
  | j + 1, i, c, n, h, h' => by
    rw [l57_6]
    by_cases hi : i < l.length
    · have e : ((i : Int) + 1) = ((i + 1 : Nat) : Int) := by omega
      rw [bt1 (show (i : Int) < l.length by omega), bt2 ⟨by omega, by omega⟩]
      obtain ⟨p', key', u, h1, h2, h3⟩ := make_tot hp _ (hm _ (rd_memL ((0, 0, 0, ()) : MV) l i hi)) key d hd
      rw [h1, Option.bind_some]
      dsimp only
      obtain ⟨n2, c2, h4⟩ := H p' key' (d ++ [u]) c h2 (by simp)
      rw [h4, Option.bind_some]
      dsimp only
      rw [h3, Option.bind_some]
      dsimp only
      by_cases hc : c2.1 < 0
      · rw [bt1 hc]
        exact .inr ⟨_, _, rfl⟩
      · rw [bf1 hc, ws (n := (i : Int) + 1) (by omega), e]
        exact cnt6 hp key d hd x H l hl hm j (i + 1) _ _ (by omega) (by omega)
    · rw [bf1 (show ¬ (i : Int) < l.length by omega)]
      exact .inl ⟨_, _, rfl⟩
theorem count_tot : ∀ (D : Nat) (x : Int) (p : PO) (key : Int) (d : List UN) (c : CN), POK r p → 0 ≤ x → x < D → d.length + x ≤ 40 → ∃ n c', f57_at 9000 D c (r, p, key, d, ()) x = some (n, c', (r, p, key, d, ()), ())
  | 0, x, p, key, d, c, hp, h0, h1, h2 => by omega
  | D + 1, x, p, key, d, c, hp, h0, h1, h2 => by
    rw [f57_at]
    unfold f57_body
    by_cases hc : w64 (c.1 - 1) < 0
    · rw [bt1 hc]; exact ⟨_, _, rfl⟩
    rw [bf1 hc]
    by_cases hx : x = 0
    · rw [be1 hx]; exact ⟨_, _, rfl⟩
    rw [bn1 hx]
    obtain ⟨l, hl, hl1, hl2⟩ := bmoves_tot hp key d
    rw [hl, Option.bind_some]
    dsimp only
    have hw : w64 (x - 1) = x - 1 := ws (by omega)
    have := cnt6 (rec := f57_at 9000 D) hp key d (by omega) x (fun p' key' d' c hp' hd' => by rw [hw]; exact count_tot D (x - 1) p' key' d' c hp' (by omega) (by omega) (by omega)) l hl1 hl2 9000 0 (w64 (c.1 - 1), ()) 0 (by omega) (by omega)
    rw [show ((0 : Nat) : Int) = 0 from rfl] at this
    rcases this with ⟨c', n', h⟩ | ⟨c', n', h⟩
    · rw [h, Option.bind_some, Sum.elim_inl]; exact ⟨_, _, rfl⟩
    · rw [h, Option.bind_some, Sum.elim_inr]; exact ⟨_, _, rfl⟩
theorem tree_tot (hz : Rz r) (hp : POK r p) (x : Int) : ∃ n e, f45 9000 r p x = some (n, e, ()) ∧ (e = 0 → 0 ≤ x ∧ x ≤ 12) := by
  unfold f45 f56
  obtain ⟨v, hv⟩ := bnew_tot hz hp
  rw [hv, Option.bind_some, Sum.elim_inl]
  dsimp only
  rw [beq1 rfl]
  by_cases h0 : x < 0
  · rw [bt1 h0, Option.bind_some, Sum.elim_inr]
    dsimp only
    rw [bne1 (by decide)]
    exact ⟨_, _, rfl, fun h => by simp at h⟩
  rw [bf1 h0]
  by_cases h1 : x > 12
  · rw [bt1 h1, Option.bind_some, Sum.elim_inr]
    dsimp only
    rw [bne1 (by decide)]
    exact ⟨_, _, rfl, fun h => by simp at h⟩
  rw [bf1 h1, Option.bind_some, Sum.elim_inl]
  dsimp only
  rw [beq1 rfl]
  obtain ⟨n, c, h⟩ := count_tot 9000 x p v [] (50000, ()) hp (by omega) (by omega) (by simp; omega)
  rw [show f57 9000 (50000, ()) (r, p, v, [], ()) x = some (n, c, (r, p, v, [], ()), ()) from h, Option.bind_some]
  dsimp only
  cases decide (c.1 < 0)
  · exact ⟨_, _, rfl, fun _ => ⟨by omega, by omega⟩⟩
  · exact ⟨_, _, rfl, fun h => by simp at h⟩
/-! ### Scores -/
theorem near_tot (x : Int) : ∃ v, f54 9000 x = some (v, ()) := by
  unfold f54
  cases decide (x > 0)
  · cases decide (x < 0)
    · exact ⟨_, rfl⟩
    · exact ⟨_, rfl⟩
  · exact ⟨_, rfl⟩
theorem escore_tot (x t : Int) : ∃ v, f50 9000 x t = some (v, ()) := by
  unfold f50 f62
  rw [Option.bind_some]
  dsimp only
  cases x == w64 (1 + t)
  · rw [cond_false, Option.bind_some]
    dsimp only
    cases x == w64 (1 + w64 (1 - t))
    · exact ⟨_, rfl⟩
    · exact ⟨_, rfl⟩
  · exact ⟨_, rfl⟩
theorem val8 {rec : BD → Int → Option (Int × BD × Unit)} (hp : POK r p) (key : Int) (d : List UN) (hd : d.length ≤ 50) (x : Int)
    (H : ∀ (p' : PO) (key' : Int) (d' : List UN), POK r p' → d'.length = d.length + 1 → ∃ n, rec (r, p', key', d', ()) (w64 (x - 1)) = some (n, (r, p', key', d', ()), ())) (l : List MV) (hl : l.length ≤ 8000) (hm : ∀ m ∈ l, MvOK r p m) :
    ∀ (j i : Nat) (n : Int), i ≤ l.length → l.length < i + j → ∃ n', l42_8 9000 rec j (r, p, key, d, ()) x n l l.length i = some ((r, p, key, d, ()), n', ())
  | 0, i, n, h, h' => by omega
  | j + 1, i, n, h, h' => by
    rw [l42_8]
    by_cases hi : i < l.length
    · have e : ((i : Int) + 1) = ((i + 1 : Nat) : Int) := by omega
      rw [bt1 (show (i : Int) < l.length by omega), bt2 ⟨by omega, by omega⟩]
      obtain ⟨p', key', u, h1, h2, h3⟩ := make_tot hp _ (hm _ (rd_memL ((0, 0, 0, ()) : MV) l i hi)) key d hd
      rw [h1, Option.bind_some]
      dsimp only
      obtain ⟨n2, h4⟩ := H p' key' (d ++ [u]) h2 (by simp)
      rw [h4, Option.bind_some]
      dsimp only
      obtain ⟨v, hv⟩ := near_tot (w64 (0 - n2))
      rw [hv, Option.bind_some, h3, Option.bind_some]
      dsimp only
      rw [ws (n := (i : Int) + 1) (by omega), e]
      exact val8 hp key d hd x H l hl hm j (i + 1) _ (by omega) (by omega)
    · rw [bf1 (show ¬ (i : Int) < l.length by omega)]
      exact ⟨_, rfl⟩
theorem value_tot : ∀ (D : Nat) (x : Int) (p : PO) (key : Int) (d : List UN), POK r p → 0 ≤ x → x < D → d.length + x ≤ 40 → ∃ n, f42_at 9000 D (r, p, key, d, ()) x = some (n, (r, p, key, d, ()), ())
  | 0, x, p, key, d, hp, h0, h1, h2 => by omega
  | D + 1, x, p, key, d, hp, h0, h1, h2 => by
    rw [f42_at]
    unfold f42_body
    obtain ⟨e, he⟩ := bres_tot hp key d
    rw [he, Option.bind_some]
    dsimp only
    cases e != 0
    rotate_left
    · rw [cond_true]
      obtain ⟨v, hv⟩ := escore_tot e p.2.2.1
      rw [hv, Option.bind_some]
      exact ⟨v, rfl⟩
    rw [cond_false]
    by_cases hx : x = 0
    · rw [be1 hx]; exact ⟨_, rfl⟩
    rw [bn1 hx]
    obtain ⟨l, hl, hl1, hl2⟩ := bmoves_tot hp key d
    rw [hl, Option.bind_some]
    dsimp only
    have hw : w64 (x - 1) = x - 1 := ws (by omega)
    have := val8 (rec := f42_at 9000 D) hp key d (by omega) x (fun p' key' d' hp' hd' => by rw [hw]; exact value_tot D (x - 1) p' key' d' hp' (by omega) (by omega) (by omega)) l hl1 hl2 9000 0 (-1000) (by omega) (by omega)
    rw [show ((0 : Nat) : Int) = 0 from rfl] at this
    obtain ⟨n', h⟩ := this
    rw [h, Option.bind_some]
    exact ⟨_, rfl⟩
theorem score_tot (hz : Rz r) (hp : POK r p) (x : Int) : ∃ n e, f31 9000 r p x = some (n, e, ()) := by
  unfold f31 f40
  obtain ⟨n, e, h, hx⟩ := tree_tot hz hp x
  rw [h, Option.bind_some, Option.bind_some]
  dsimp only
  by_cases h0 : e = 0
  rotate_left
  · rw [bne1 h0]; exact ⟨_, _, rfl⟩
  rw [beq1 h0]
  obtain ⟨v, hv⟩ := bnew_tot hz hp
  rw [hv, Option.bind_some, Sum.elim_inl]
  dsimp only
  obtain ⟨x0, x1⟩ := hx h0
  obtain ⟨n', h'⟩ := value_tot 9000 x p v [] hp x0 (by omega) (by simp; omega)
  rw [show f42 9000 (r, p, v, [], ()) x = some (n', (r, p, v, [], ()), ()) from h', Option.bind_some]
  exact ⟨_, _, rfl⟩
/-- Who wins by force: there is an answer. -/
theorem wins_tot (r : RU) (x : Int) : ∃ w e, f18 9000 r x = some (w, e, ()) := by
  unfold f18
  obtain ⟨e, he, _⟩ := rules_tot r
  by_cases h0 : e = 0
  rotate_left
  · unfold f30
    rw [he, Option.bind_some]
    dsimp only
    rw [bne1 h0, Option.bind_some]
    dsimp only
    rw [bne1 h0]
    exact ⟨_, _, rfl⟩
  have hz : Rz r := by unfold Rz; rw [he, h0]
  rw [begin_eq hz, Option.bind_some]
  dsimp only
  rw [beq1 rfl]
  obtain ⟨n, e, h⟩ := score_tot hz (fresh_pok hz.ok) x
  rw [h, Option.bind_some]
  dsimp only
  by_cases h1 : e = 0
  rotate_left
  · rw [bne1 h1]; exact ⟨_, _, rfl⟩
  rw [beq1 h1]
  cases decide (n > 0)
  · cases decide (n < 0)
    · exact ⟨_, _, rfl⟩
    · exact ⟨_, _, rfl⟩
  · exact ⟨_, _, rfl⟩
end
end Go.Proofs.Ytnjjioeehbanjaa.G
