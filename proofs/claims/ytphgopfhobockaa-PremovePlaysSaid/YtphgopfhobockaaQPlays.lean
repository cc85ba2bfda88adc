/- Announced moves that are made: legal one after the other. -/
import Derived.Test.YtphgopfhobockaaQDo
namespace Go.Proofs.Ytphgopfhobockaa.G
open Go.VM Go.Proofs
section
variable {r : RU} {p : PO}
theorem idx77 (p : PO) (l : List PM) (hl : l.length ≤ 50) : ∀ (j i : Nat), i ≤ l.length → l.length < i + j →
    l77_2 9000 j l (p, ()) l.length i = some (.inl ((p, ()), ())) ∨ ∃ m : Nat, m < l.length ∧ l77_2 9000 j l (p, ()) l.length i = some (.inr ((p, ()), (m : Int), ()))
  | 0, i, h, h' => by omega
  | j + 1, i, h, h' => by
    rw [l77_2]
    by_cases hi : i < l.length
    · have e : ((i : Int) + 1) = ((i + 1 : Nat) : Int) := by omega
      rw [bt1 (show (i : Int) < l.length by omega), bt2 ⟨by omega, by omega⟩, ws (by omega), e]
      unfold f78
      simp only [Option.bind_some]
      cases (rd ((0, (0, 0, 0, ()), ()) : PM) l (i : Int)).1 == p.2.2.1
      · exact idx77 p l hl j (i + 1) (by omega) (by omega)
      · exact .inr ⟨i, hi, rfl⟩
    · rw [bf1 (show ¬ (i : Int) < l.length by omega)]
      exact .inl rfl
theorem del81 (l : List PM) (hl : l.length ≤ 50) (i : Nat) (hi : i < l.length) : ∃ rest, f81 9000 l (i : Int) ((i : Int) + 1) = some (rest, ()) ∧ rest.length + 1 = l.length := by
  unfold f81
  have e1 : ((i : Int) + 1).toNat = i + 1 := by omega
  have e2 : (i : Int).toNat = i := by omega
  have e3 : ((l.length : Int) - ((i : Int) + 1)).toNat = l.length - (i + 1) := by omega
  have e4 : ((l.drop (i + 1)).take (l.length - (i + 1))).length = l.length - (i + 1) := by simp
  rw [e1, e2, e3, e4]
  have e5 : (((i + (l.length - (i + 1)) : Nat) : Int)).toNat = i + (l.length - (i + 1)) := by omega
  have e6 : (l.take i ++ ((l.drop (i + 1)).take (l.length - (i + 1)) ++ l.drop (i + (l.length - (i + 1))))).length = l.length := by
    simp; omega
  rw [e5, e6]
  rw [decide_eq_true (show (0 : Int) ≤ i by omega), decide_eq_true (show (i : Int) ≤ (i : Int) + 1 by omega), decide_eq_true (show (i : Int) + 1 ≤ l.length by omega), decide_eq_true (show (l.length : Int) ≤ l.length by omega)]
  rw [decide_eq_true (show (i : Int) ≤ l.length by omega), decide_eq_true (show (0 : Int) ≤ (i : Int) + 1 by omega), decide_eq_true (show i + (l.length - (i + 1)) ≤ l.length by omega), decide_eq_true (show 0 < l.length by omega)]
  rw [decide_eq_true (show (0 : Int) ≤ ((i + (l.length - (i + 1)) : Nat) : Int) by omega), decide_eq_true (show ((i + (l.length - (i + 1)) : Nat) : Int) ≤ l.length by omega)]
  rw [show Nat.ble (i + (l.length - (i + 1)) + ((l.length : Int) - ((i + (l.length - (i + 1)) : Nat) : Int)).toNat) l.length = true from Nat.ble_eq_true_of_le (by omega)]
  simp only [Bool.and_self, cond_true]
  rw [bn1 (show (i : Int) ≠ (i : Int) + 1 by omega)]
  refine ⟨_, rfl, ?_⟩
  rw [first_eq, List.length_take, List.length_append, List.length_take, e6]
  simp only [List.length_append, List.length_replicate, List.length_drop]
  omega
/-- What Next says. -/
theorem next_tot (hz : Rz r) (hp : POK r p) (l : List PM) (hl : l.length ≤ 50) : ∃ m ok rest e, f44 9000 r p l = some (m, ok, rest, e, ()) ∧
    (ok = false → rest.length ≤ l.length ∧ mine rest p.2.2.1 = []) ∧
    (ok = true → rest.length + 1 = l.length ∧ ∃ g, f42 9000 r p = some (g, ()) ∧ f80 9000 g m = some (true, ()) ∧ MvOK r p m) := by
  have clear : ∃ c e, f18 9000 l p.2.2.1 = some (c, e, ()) ∧ c.length ≤ l.length ∧ mine c p.2.2.1 = [] := by
    rcases clear_eq l p.2.2.1 hl with ⟨e, _, h⟩ | h
    · exact ⟨[], e, h, by simp, rfl⟩
    · exact ⟨_, _, h, others_len .., mine_others ..⟩
  obtain ⟨c, ce, hc, hc1, hc2⟩ := clear
  unfold f44
  rw [place_ok hz hp]
  simp only [Option.bind_some]
  rw [beq1 rfl]
  obtain ⟨e, he⟩ := chk_tot l hl
  rw [he]
  simp only [Option.bind_some]
  by_cases h0 : e = 0
  rotate_left
  · rw [bne1 h0]
    exact ⟨_, _, _, _, rfl, fun _ => ⟨by simp, rfl⟩, fun h => by cases h⟩
  rw [beq1 h0]
  have h77 : f77 9000 l (p, ()) = some (-1, (p, ()), ()) ∨ ∃ m : Nat, m < l.length ∧ f77 9000 l (p, ()) = some ((m : Int), (p, ()), ()) := by
    unfold f77
    rcases idx77 p l hl 9000 0 (by omega) (by omega) with h | ⟨m, hm, h⟩ <;> rw [show ((0 : Nat) : Int) = 0 from rfl] at h <;> rw [h]
    · exact .inl rfl
    · exact .inr ⟨m, hm, rfl⟩
  rcases h77 with h | ⟨i, hi, h⟩
  · rw [h]
    simp only [Option.bind_some]
    rw [bt1 (by decide), hc]
    exact ⟨_, _, _, _, rfl, fun _ => ⟨hc1, hc2⟩, fun h => by cases h⟩
  · rw [h]
    simp only [Option.bind_some]
    rw [bf1 (show ¬ (i : Int) < 0 by omega)]
    obtain ⟨re, hre⟩ := res_tot hp
    rw [hre]
    simp only [Option.bind_some]
    by_cases h1 : re = 0
    rotate_left
    · rw [bne1 h1, hc]
      exact ⟨_, _, _, _, rfl, fun _ => ⟨hc1, hc2⟩, fun h => by cases h⟩
    rw [beq1 h1]
    obtain ⟨g, hg, hg1, hg2⟩ := gen_tot hp
    rw [hg]
    simp only [Option.bind_some]
    rw [bt2 ⟨by omega, by omega⟩]
    obtain ⟨b, hb, hb2⟩ := has_tot g (rd ((0, (0, 0, 0, ()), ()) : PM) l (i : Int)).2.1 hg1
    rw [hb]
    simp only [Option.bind_some]
    cases b
    · simp only [Bool.not_false, cond_true]
      rw [hc]
      exact ⟨_, _, _, _, rfl, fun _ => ⟨hc1, hc2⟩, fun h => by cases h⟩
    · simp only [Bool.not_true, cond_false]
      rw [bt2 ⟨by omega, by omega⟩, clone47 l hl]
      simp only [Option.bind_some]
      rw [ws (by omega)]
      obtain ⟨rest, hr, hr2⟩ := del81 l hl i hi
      rw [hr]
      exact ⟨_, _, _, _, rfl, (fun h => by cases h), fun _ => ⟨hr2, g, rfl, hb, hg2 _ (hb2 rfl)⟩⟩
/-- Made one after the other. -/
def Steps (r : RU) : PO → List MV → PO → Prop
  | p, [], q => p = q
  | p, m :: ms, q => ∃ p', f27 9000 r p m = some (p', 0, ()) ∧ Steps r p' ms q
theorem after_eq (hz : Rz r) (hp : POK r p) {g : List MV} {m : MV} {q : PO} (h1 : f42 9000 r p = some (g, ())) (h2 : f80 9000 g m = some (true, ())) (h3 : f50 9000 r p m = some (q, ())) : f27 9000 r p m = some (q, 0, ()) := by
  unfold f27 f52
  rw [place_ok hz hp]
  simp only [Option.bind_some]
  rw [beq1 rfl, h1]
  simp only [Option.bind_some]
  rw [h2]
  simp only [Option.bind_some]
  rw [beq1 rfl]
  simp only [Bool.not_true, cond_false]
  rw [h3]
  rfl
theorem run9 (hz : Rz r) (x : PO) : ∀ (j : Nat) (l : List PM) (p : PO) (out : List MV), POK r p → l.length < j → out.length + l.length ≤ 50 →
    ∃ made q rest, l26_9 9000 j l r p x out = some (out ++ made, q, rest, 0, ()) ∧ made.length + rest.length ≤ l.length ∧ mine rest q.2.2.1 = [] ∧ Steps r p made q ∧ POK r q
  | 0, l, p, out, _, h, _ => by omega
  | j + 1, l, p, out, hp, h, ho => by
    rw [l26_9]
    obtain ⟨m, ok, rest, e, h1, h2, h3⟩ := next_tot hz hp l (by omega)
    rw [h1]
    simp only [Option.bind_some]
    cases ok
    · obtain ⟨g1, g2⟩ := h2 rfl
      exact ⟨[], p, rest, by simp, by simpa using g1, g2, rfl, hp⟩
    · obtain ⟨g1, g, hg, hg2, hm⟩ := h3 rfl
      simp only [Bool.not_true, cond_false]
      rw [bt1 (by simp; unfold roomN; omega)]
      obtain ⟨q, hq, hq2⟩ := do_tot hp m hm
      rw [hq]
      simp only [Option.bind_some]
      obtain ⟨made, q', rest', k1, k2, k3, k4, k5⟩ := run9 hz x j rest q (out ++ [m]) hq2 (by omega) (by simp; omega)
      refine ⟨m :: made, q', rest', by rw [k1]; simp, by simp; omega, k3, ⟨q, after_eq hz hp hg hg2 hq, k4⟩, k5⟩
theorem replay10 (a : List PM) (made : List MV) (hm : made.length ≤ 50) (q0 q : PO) (rest : List PM) : ∀ (j i : Nat) (p : PO), i ≤ made.length → made.length < i + j → Steps r p (made.drop i) q →
    l6_10 9000 j a r p made q0 rest () made.length i = some (.inl (a, q, made, q0, rest, ()))
  | 0, i, p, h, h', _ => by omega
  | j + 1, i, p, h, h', hs => by
    rw [l6_10]
    by_cases hi : i < made.length
    · have e : ((i : Int) + 1) = ((i + 1 : Nat) : Int) := by omega
      rw [drop_rd M0 made i hi] at hs
      obtain ⟨p', h1, h2⟩ := hs
      rw [bt1 (show (i : Int) < made.length by omega), bt2 ⟨by omega, by omega⟩, ws (by omega), e]
      rw [show rd ((0, 0, 0, ()) : MV) made (i : Int) = rd M0 made (i : Int) from rfl, h1]
      simp only [Option.bind_some]
      rw [beq1 rfl]
      exact replay10 a made hm q0 q rest j (i + 1) p' (by omega) (by omega) h2
    · rw [bf1 (show ¬ (i : Int) < made.length by omega)]
      rw [List.drop_eq_nil_of_le (by omega)] at hs
      have hs : p = q := hs
      rw [hs]
theorem eq53 (a : List Int) (ha : a.length ≤ 1000) : ∀ (j i : Nat), i ≤ a.length → a.length < i + j → l53_4 9000 j a a a.length i = some (.inl ())
  | 0, i, h, h' => by omega
  | j + 1, i, h, h' => by
    rw [l53_4]
    by_cases hi : i < a.length
    · have e : ((i : Int) + 1) = ((i + 1 : Nat) : Int) := by omega
      rw [bt1 (show (i : Int) < a.length by omega), bt2 ⟨by omega, by omega⟩, bt2 ⟨by omega, by omega⟩, ws (by omega), e, beq1 rfl]
      exact eq53 a ha j (i + 1) (by omega) (by omega)
    · rw [bf1 (show ¬ (i : Int) < a.length by omega)]
theorem eq_tot (a : List Int) (ha : a.length ≤ 1000) : f53 9000 a a = some (true, ()) := by
  unfold f53
  have := eq53 a ha 9000 0 (by omega) (by omega)
  rw [show ((0 : Nat) : Int) = 0 from rfl] at this
  rw [beq1 rfl, this]
  rfl
theorem same_tot (hp : POK r p) : f28 9000 p p = some (true, ()) := by
  have hl := hp.len64
  have hn := hp.ru.n6
  have ha := hp.a
  have hb := hp.b
  unfold f28
  rw [be1 rfl, eq_tot _ (by omega)]
  simp only [Option.bind_some, cond_true]
  rw [eq_tot _ (by omega)]
  simp only [Option.bind_some, cond_true]
  rw [eq_tot _ (by omega)]
  rfl
end
/-- **PremovePlays**: announced moves that are made are legal one after the other, and are among those that were announced. -/
theorem plays_pure (r : RU) (p : PO) (l : List PM) : f6 9000 r p l = some (true, ()) := by
  unfold f6
  rw [announces]
  simp only [Option.bind_some, Bool.not_true, cond_false]
  obtain ⟨h1, h2, h3⟩ := cut12 l
  rw [bt2 ⟨h2, h3⟩, h1]
  generalize hq : l.take 12 = a
  have hl : a.length ≤ 12 := by rw [← hq]; simp; omega
  unfold f12
  simp only [Option.bind_some]
  cases decide ((r.2.2.2.2.1.length : Int) > 20)
  rotate_left
  · rfl
  simp only [cond_false]
  unfold f26
  obtain ⟨e, he, hok⟩ := place_tot r p
  rw [he]
  simp only [Option.bind_some]
  by_cases h0 : e = 0
  rotate_left
  · rw [bne1 h0]
    simp only [Option.bind_some]
    rw [bne1 h0]
    rfl
  obtain ⟨hp, hz⟩ := hok h0
  rw [beq1 h0]
  obtain ⟨e2, he2⟩ := chk_tot a (by omega)
  rw [he2]
  simp only [Option.bind_some]
  by_cases h4 : e2 = 0
  rotate_left
  · rw [bne1 h4]
    simp only [Option.bind_some]
    rw [bne1 h4]
    rfl
  rw [beq1 h4, copy_eq hp]
  simp only [Option.bind_some]
  rw [clone47 a (by omega)]
  simp only [Option.bind_some]
  obtain ⟨made, q, rest, k1, k2, k3, k4, k5⟩ := run9 hz ([], ([], [], ()), 0, 0, ()) 9000 a p [] hp (by omega) (by simp; omega)
  rw [k1]
  simp only [Option.bind_some, List.nil_append]
  rw [beq1 rfl]
  have k6 := replay10 (r := r) a made (by omega) q q rest 9000 0 p (by omega) (by omega) (by simpa using k4)
  rw [show ((0 : Nat) : Int) = 0 from rfl] at k6
  rw [k6]
  simp only [Option.bind_some, Sum.elim_inl]
  rw [same_tot k5]
  simp only [Option.bind_some, cond_true]
  rw [ws (by omega), bt1 (by omega), of_eq rest _ (by omega)]
  simp only [Option.bind_some]
  rw [k3]
  rfl
end Go.Proofs.Ytphgopfhobockaa.G
