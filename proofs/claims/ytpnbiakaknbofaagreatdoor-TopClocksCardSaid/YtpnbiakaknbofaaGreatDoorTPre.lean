import Derived.Test.YtpnbiakaknbofaaGreatDoorTNum
namespace Go.Proofs.YtpnbiakaknbofaaGreatDoor.G
open Go.VM Go.Proofs
abbrev PM := Int × MV × Unit
abbrev Q0 : PM := (0, (0, 0, 0, ()), ())
def mine (l : List PM) (p : Int) : List MV := (l.filter fun x => x.1 == p).map (·.2.1)
theorem mine_cons (x : PM) (l : List PM) (p : Int) : mine (x :: l) p = bif x.1 == p then x.2.1 :: mine l p else mine l p := by
  unfold mine
  cases h : (x.1 == p) <;> simp [List.filter_cons, h]
theorem of_l (p : Int) (l : List PM) (hl : l.length ≤ 50) : ∀ (j i : Nat) (out : List MV), i ≤ l.length → l.length < i + j → out.length ≤ i → l86_3 9000 j p out l l.length i = some (out ++ mine (l.drop i) p, ())
  | 0, i, out, h, h', _ => by omega
  | j + 1, i, out, h, h', ho => by
    rw [l86_3]
    by_cases hi : i < l.length
    · rw [bt1 (show (i : Int) < l.length by omega), bt2 ⟨by omega, by omega⟩, ws (by omega), drop_rd Q0 l i hi, mine_cons]
      have e : ((i : Int) + 1) = ((i + 1 : Nat) : Int) := by omega
      rw [e]
      cases hp : ((rd Q0 l (i : Int)).1 == p)
      · simp only [cond_false]
        exact of_l p l hl j (i + 1) out (by omega) (by omega) (by omega)
      · simp only [cond_true]
        rw [bt1 (by simp; unfold roomN; omega)]
        rw [of_l p l hl j (i + 1) _ (by omega) (by omega) (by simp; omega)]
        simp
    · rw [bf1 (show ¬ (i : Int) < l.length by omega), List.drop_eq_nil_of_le (by omega)]
      simp [mine]
theorem of_eq (l : List PM) (p : Int) (hl : l.length ≤ 50) : f86 9000 l p = some (mine l p, ()) := by
  unfold f86
  have := of_l p l hl 9000 0 [] (by omega) (by omega) (by simp)
  rw [show ((0 : Nat) : Int) = 0 from rfl] at this
  rw [this]
  simp
theorem chk_l (l : List PM) (hl : l.length ≤ 50) : ∀ (j i : Nat), i ≤ l.length → l.length < i + j → l85_8 9000 j l l.length i = some (.inl ()) ∨ l85_8 9000 j l l.length i = some (.inr (4, ()))
  | 0, i, h, h' => by omega
  | j + 1, i, h, h' => by
    rw [l85_8]
    by_cases hi : i < l.length
    · rw [bt1 (show (i : Int) < l.length by omega), bt2 ⟨by omega, by omega⟩, ws (by omega)]
      have e : ((i : Int) + 1) = ((i + 1 : Nat) : Int) := by omega
      rw [e]
      have ih := chk_l l hl j (i + 1) (by omega) (by omega)
      cases decide ((rd ((0, (0, 0, 0, ()), ()) : PM) l (i : Int)).1 < 0)
      · cases decide ((rd ((0, (0, 0, 0, ()), ()) : PM) l (i : Int)).1 > 1)
        · exact ih
        · exact .inr rfl
      · exact .inr rfl
    · rw [bf1 (show ¬ (i : Int) < l.length by omega)]
      exact .inl rfl
theorem chk_tot (l : List PM) (hl : l.length ≤ 50) : ∃ e, f85 9000 l = some (e, ()) := by
  unfold f85
  rw [of_eq l 0 hl]
  simp only [Option.bind_some]
  cases decide (((mine l 0).length : Int) > 4)
  rotate_left
  · exact ⟨_, rfl⟩
  simp only [cond_false]
  rw [of_eq l 1 hl]
  simp only [Option.bind_some]
  cases decide (((mine l 1).length : Int) > 4)
  rotate_left
  · exact ⟨_, rfl⟩
  simp only [cond_false]
  rcases chk_l l hl 9000 0 (by omega) (by omega) with h | h
  · rw [show ((0 : Nat) : Int) = 0 from rfl] at h
    rw [h]; exact ⟨_, rfl⟩
  · rw [show ((0 : Nat) : Int) = 0 from rfl] at h
    rw [h]; exact ⟨_, rfl⟩
theorem clone47 (l : List PM) (hl : l.length ≤ 50) : f39 9000 l = some (l, ()) := by
  unfold f39
  have e : decide ((([] : List PM).length + l.length) * 32 ≤ roomN) = true := decide_eq_true (by simp only [List.length_nil]; unfold roomN; omega)
  rw [e]
  cases l with
  | nil => exact both_same _
  | cons a r => rfl
def others (l : List PM) (p : Int) : List PM := l.filter fun x => !(x.1 == p)
theorem idx_l (p : Int) (l : List PM) (hl : l.length ≤ 50) : ∀ (j i : Nat), i ≤ l.length → l.length < i + j →
    (l118v1_2 9000 j l (p, ()) l.length i = some (.inl ((p, ()), ())) ∧ others (l.drop i) p = l.drop i) ∨
    ∃ m : Nat, i ≤ m ∧ m < l.length ∧ l118v1_2 9000 j l (p, ()) l.length i = some (.inr ((p, ()), (m : Int), ())) ∧ others (l.drop i) p = (l.drop i).take (m - i) ++ others (l.drop (m + 1)) p
  | 0, i, h, h' => by omega
  | j + 1, i, h, h' => by
    rw [l118v1_2]
    by_cases hi : i < l.length
    · rw [bt1 (show (i : Int) < l.length by omega), bt2 ⟨by omega, by omega⟩, ws (by omega)]
      have e : ((i : Int) + 1) = ((i + 1 : Nat) : Int) := by omega
      rw [e]
      have hd := drop_rd Q0 l i hi
      unfold f149
      simp only [Option.bind_some]
      cases hp : ((rd Q0 l (i : Int)).1 == p)
      · simp only [cond_false]
        have ho : others (l.drop i) p = rd Q0 l (i : Int) :: others (l.drop (i + 1)) p := by
          rw [hd]; unfold others; simp [List.filter_cons, hp]
        rcases idx_l p l hl j (i + 1) (by omega) (by omega) with ⟨h1, h2⟩ | ⟨m, h1, h2, h3, h4⟩
        · exact .inl ⟨h1, by rw [ho, h2, ← hd]⟩
        · refine .inr ⟨m, by omega, h2, h3, ?_⟩
          rw [ho, h4, hd, show m - i = (m - (i + 1)) + 1 by omega, List.take_succ_cons]
          rfl
      · simp only [cond_true]
        refine .inr ⟨i, by omega, hi, rfl, ?_⟩
        rw [hd]; unfold others; simp [List.filter_cons, hp]
    · rw [bf1 (show ¬ (i : Int) < l.length by omega)]
      refine .inl ⟨rfl, ?_⟩
      rw [List.drop_eq_nil_of_le (by omega)]; rfl
theorem del_l (p : Int) (l : List PM) (hl : l.length ≤ 50) : ∀ (j i w : Nat) (s : List PM), i ≤ l.length → l.length < i + j → s.length = l.length → w < i → s.drop i = l.drop i →
    ∃ (s' : List PM) (w' : Nat), l148_5 9000 j s (p, ()) (w : Int) (i : Int) = some (s', (p, ()), (w' : Int), ()) ∧ s'.length = l.length ∧ w' ≤ l.length ∧ s'.take w' = s.take w ++ others (l.drop i) p
  | 0, i, w, s, h, h', _, _, _ => by omega
  | j + 1, i, w, s, h, h', hs, hw, hsd => by
    rw [l148_5]
    by_cases hi : i < l.length
    · rw [bt1 (show (i : Int) < s.length by omega), bt2 ⟨by omega, by omega⟩, ws (n := (i : Int) + 1) (by omega), ws (n := (w : Int) + 1) (by omega)]
      have e : ((i : Int) + 1) = ((i + 1 : Nat) : Int) := by omega
      have e' : ((w : Int) + 1) = ((w + 1 : Nat) : Int) := by omega
      rw [e, e']
      have hd := drop_rd Q0 l i hi
      have hd2 := drop_rd Q0 s i (by omega)
      rw [hd, hd2] at hsd
      simp only [List.cons.injEq] at hsd
      obtain ⟨hx, ht⟩ := hsd
      unfold f149
      simp only [Option.bind_some]
      rw [show rd ((0, (0, 0, 0, ()), ()) : PM) s (i : Int) = rd Q0 l (i : Int) from hx]
      cases hp : ((rd Q0 l (i : Int)).1 == p)
      · simp only [Bool.not_false, cond_true]
        rw [bt2 ⟨by omega, by omega⟩]
        have ho : others (l.drop i) p = rd Q0 l (i : Int) :: others (l.drop (i + 1)) p := by
          rw [hd]; unfold others; simp [List.filter_cons, hp]
        obtain ⟨s', w', h1, h2, h3, h4⟩ := del_l p l hl j (i + 1) (w + 1) (s.set ((w : Int).toNat) (rd Q0 l (i : Int))) (by omega) (by omega) (by simp; exact hs) (by omega) (by
          rw [List.drop_set]; rw [if_pos (by simp; omega)]; exact ht)
        refine ⟨s', w', h1, h2, h3, ?_⟩
        rw [h4, ho]
        have : (s.set ((w : Int).toNat) (rd Q0 l (i : Int))).take (w + 1) = s.take w ++ [rd Q0 l (i : Int)] := by
          rw [show ((w : Int).toNat) = w by omega, List.take_add_one, List.take_set]
          rw [List.getElem?_set_self (by omega)]
          rw [List.set_eq_of_length_le (by simp; omega)]
          rfl
        rw [this]; simp
      · simp only [Bool.not_true, cond_false]
        have ho : others (l.drop i) p = others (l.drop (i + 1)) p := by
          rw [hd]; unfold others; simp [List.filter_cons, hp]
        rw [ho]
        exact del_l p l hl j (i + 1) w s (by omega) (by omega) hs (by omega) ht
    · rw [bf1 (show ¬ (i : Int) < s.length by omega)]
      refine ⟨s, w, rfl, hs, by omega, ?_⟩
      rw [List.drop_eq_nil_of_le (by omega)]
      simp [others]
theorem del_eq (l : List PM) (p : Int) (hl : l.length ≤ 50) : ∃ y, f148 9000 l (p, ()) = some (others l p, y) := by
  unfold f148 f118v1
  have h0 : ((0 : Nat) : Int) = 0 := rfl
  rcases idx_l p l hl 9000 0 (by omega) (by omega) with ⟨h1, h2⟩ | ⟨m, h1, h2, h3, h4⟩
  · rw [h0] at h1
    rw [h1]
    simp only [Option.bind_some, Sum.elim_inl, List.drop_zero] at h2 ⊢
    rw [h2]
    exact ⟨_, rfl⟩
  · rw [h0] at h3
    rw [h3]
    simp only [Option.bind_some, Sum.elim_inr, List.drop_zero, Nat.sub_zero] at h4 ⊢
    rw [bn1 (show (m : Int) ≠ -1 by omega), ws (by omega)]
    obtain ⟨s', w', k1, k2, k3, k4⟩ := del_l p l hl 9000 (m + 1) m l (by omega) (by omega) rfl (by omega) rfl
    have e' : ((m : Int) + 1) = ((m + 1 : Nat) : Int) := by omega
    rw [e', k1]
    simp only [Option.bind_some]
    have hb : Nat.ble ((w' : Int).toNat + ((s'.length : Int) - (w' : Int)).toNat) s'.length = true := Nat.ble_eq_true_of_le (by omega)
    rw [decide_eq_true (show (0 : Int) ≤ (w' : Int) by omega), decide_eq_true (show (w' : Int) ≤ (s'.length : Int) by omega), decide_eq_true (show (s'.length : Int) ≤ (s'.length : Int) by omega), hb]
    simp only [Bool.and_self, cond_true]
    rw [decide_eq_true (show (w' : Int) ≤ (((s'.take (w' : Int).toNat ++ (List.replicate ((s'.length : Int) - (w' : Int)).toNat ((0, (0, 0, 0, ()), ()) : PM) ++ s'.drop ((w' : Int).toNat + ((s'.length : Int) - (w' : Int)).toNat))).length : Nat) : Int) by simp; omega)]
    simp only [cond_true, first_eq]
    refine ⟨_, congrArg some (Prod.ext ?_ rfl)⟩
    show List.take _ _ = _
    rw [show (w' : Int).toNat = w' by omega, List.take_append_of_le_length (by simp; omega), List.take_take, Nat.min_self, k4, h4]
theorem clear_eq (l : List PM) (p : Int) (hl : l.length ≤ 50) : (∃ e, e ≠ 0 ∧ f120 9000 l p = some ([], e, ())) ∨ f120 9000 l p = some (others l p, 0, ()) := by
  unfold f120
  obtain ⟨e, he⟩ := chk_tot l hl
  rw [he]
  simp only [Option.bind_some]
  by_cases h : e = 0
  · subst h
    rw [beq1 rfl, clone47 l hl]
    simp only [Option.bind_some]
    obtain ⟨y, hy⟩ := del_eq l p hl
    rw [hy]
    exact .inr rfl
  · rw [bne1 h]
    exact .inl ⟨e, h, rfl⟩
theorem mine_others (l : List PM) (p : Int) : mine (others l p) p = [] := by
  unfold mine others
  rw [List.filter_filter]
  simp
theorem others_len (l : List PM) (p : Int) : (others l p).length ≤ l.length := List.length_filter_le ..
section
variable {r : RU} {p : PO}
theorem idx77 (p : PO) (l : List PM) (hl : l.length ≤ 50) : ∀ (j i : Nat), i ≤ l.length → l.length < i + j →
    l118_2 9000 j l (p, ()) l.length i = some (.inl ((p, ()), ())) ∨ ∃ m : Nat, m < l.length ∧ l118_2 9000 j l (p, ()) l.length i = some (.inr ((p, ()), (m : Int), ()))
  | 0, i, h, h' => by omega
  | j + 1, i, h, h' => by
    rw [l118_2]
    by_cases hi : i < l.length
    · have e : ((i : Int) + 1) = ((i + 1 : Nat) : Int) := by omega
      rw [bt1 (show (i : Int) < l.length by omega), bt2 ⟨by omega, by omega⟩, ws (by omega), e]
      unfold f119
      simp only [Option.bind_some]
      cases (rd ((0, (0, 0, 0, ()), ()) : PM) l (i : Int)).1 == p.2.2.1
      · exact idx77 p l hl j (i + 1) (by omega) (by omega)
      · exact .inr ⟨i, hi, rfl⟩
    · rw [bf1 (show ¬ (i : Int) < l.length by omega)]
      exact .inl rfl
theorem del81 (l : List PM) (hl : l.length ≤ 50) (i : Nat) (hi : i < l.length) : ∃ rest, f121 9000 l (i : Int) ((i : Int) + 1) = some (rest, ()) ∧ rest.length + 1 = l.length := by
  unfold f121
  have e1 : ((i : Int) + 1).toNat = i + 1 := by omega
  have e2 : (i : Int).toNat = i := by omega
  have e3 : ((l.length : Int) - ((i : Int) + 1)).toNat = l.length - (i + 1) := by omega
  have e4 : ((l.drop (i + 1)).take (l.length - (i + 1))).length = l.length - (i + 1) := by simp
  rw [e1, e2, e3, e4]
  have e5 : (((i + (l.length - (i + 1)) : Nat) : Int)).toNat = i + (l.length - (i + 1)) := by omega
  have e6 : (l.take i ++ ((l.drop (i + 1)).take (l.length - (i + 1)) ++ l.drop (i + (l.length - (i + 1))))).length = l.length := by
    simp; omega
  rw [e5, e6]
  rw [decide_eq_true (show (0 : Int) ≤ i by omega), decide_eq_true (show (i : Int) ≤ (i : Int) + 1 by omega), decide_eq_true (show (i : Int) + 1 ≤ l.length by omega), decide_eq_true (show (l.length : Int) ≤ l.length by omega)]
  rw [decide_eq_true (show (i : Int) ≤ l.length by omega), decide_eq_true (show (0 : Int) ≤ (i : Int) + 1 by omega), decide_eq_true (show i + (l.length - (i + 1)) ≤ l.length by omega), decide_eq_true (show 0 < l.length by omega)]
  rw [decide_eq_true (show (0 : Int) ≤ ((i + (l.length - (i + 1)) : Nat) : Int) by omega), decide_eq_true (show ((i + (l.length - (i + 1)) : Nat) : Int) ≤ l.length by omega)]
  rw [show Nat.ble (i + (l.length - (i + 1)) + ((l.length : Int) - ((i + (l.length - (i + 1)) : Nat) : Int)).toNat) l.length = true from Nat.ble_eq_true_of_le (by omega)]
  simp only [Bool.and_self, cond_true]
  rw [bn1 (show (i : Int) ≠ (i : Int) + 1 by omega)]
  refine ⟨_, rfl, ?_⟩
  rw [first_eq, List.length_take, List.length_append, List.length_take, e6]
  simp only [List.length_append, List.length_replicate, List.length_drop]
  omega
theorem next_tot (hz : Rz r) (hp : POK r p) (l : List PM) (hl : l.length ≤ 50) : ∃ m ok rest e, f77 9000 r p l = some (m, ok, rest, e, ()) ∧
    (ok = false → rest.length ≤ l.length ∧ mine rest p.2.2.1 = []) ∧
    (ok = true → rest.length + 1 = l.length ∧ ∃ g, f75 9000 r p = some (g, ()) ∧ f74 9000 g m = some (true, ()) ∧ MvOK r p m) := by
  have clear : ∃ c e, f120 9000 l p.2.2.1 = some (c, e, ()) ∧ c.length ≤ l.length ∧ mine c p.2.2.1 = [] := by
    rcases clear_eq l p.2.2.1 hl with ⟨e, _, h⟩ | h
    · exact ⟨[], e, h, by simp, rfl⟩
    · exact ⟨_, _, h, others_len .., mine_others ..⟩
  obtain ⟨c, ce, hc, hc1, hc2⟩ := clear
  unfold f77
  rw [place_ok hz hp]
  simp only [Option.bind_some]
  rw [beq1 rfl]
  obtain ⟨e, he⟩ := chk_tot l hl
  rw [he]
  simp only [Option.bind_some]
  by_cases h0 : e = 0
  rotate_left
  · rw [bne1 h0]
    exact ⟨_, _, _, _, rfl, fun _ => ⟨by simp, rfl⟩, fun h => by cases h⟩
  rw [beq1 h0]
  have h77 : f118 9000 l (p, ()) = some (-1, (p, ()), ()) ∨ ∃ m : Nat, m < l.length ∧ f118 9000 l (p, ()) = some ((m : Int), (p, ()), ()) := by
    unfold f118
    rcases idx77 p l hl 9000 0 (by omega) (by omega) with h | ⟨m, hm, h⟩ <;> rw [show ((0 : Nat) : Int) = 0 from rfl] at h <;> rw [h]
    · exact .inl rfl
    · exact .inr ⟨m, hm, rfl⟩
  rcases h77 with h | ⟨i, hi, h⟩
  · rw [h]
    simp only [Option.bind_some]
    rw [bt1 (by decide), hc]
    exact ⟨_, _, _, _, rfl, fun _ => ⟨hc1, hc2⟩, fun h => by cases h⟩
  · rw [h]
    simp only [Option.bind_some]
    rw [bf1 (show ¬ (i : Int) < 0 by omega)]
    obtain ⟨re, hre⟩ := res_tot hp
    rw [hre]
    simp only [Option.bind_some]
    by_cases h1 : re = 0
    rotate_left
    · rw [bne1 h1, hc]
      exact ⟨_, _, _, _, rfl, fun _ => ⟨hc1, hc2⟩, fun h => by cases h⟩
    rw [beq1 h1]
    obtain ⟨g, hg, hg1, hg2⟩ := gen_tot hp
    rw [hg]
    simp only [Option.bind_some]
    rw [bt2 ⟨by omega, by omega⟩]
    obtain ⟨b, hb, hb2⟩ := has_tot g (rd ((0, (0, 0, 0, ()), ()) : PM) l (i : Int)).2.1 hg1
    rw [hb]
    simp only [Option.bind_some]
    cases b
    · simp only [Bool.not_false, cond_true]
      rw [hc]
      exact ⟨_, _, _, _, rfl, fun _ => ⟨hc1, hc2⟩, fun h => by cases h⟩
    · simp only [Bool.not_true, cond_false]
      rw [bt2 ⟨by omega, by omega⟩, clone47 l hl]
      simp only [Option.bind_some]
      rw [ws (by omega)]
      obtain ⟨rest, hr, hr2⟩ := del81 l hl i hi
      rw [hr]
      exact ⟨_, _, _, _, rfl, (fun h => by cases h), fun _ => ⟨hr2, g, rfl, hb, hg2 _ (hb2 rfl)⟩⟩
end
end Go.Proofs.YtpnbiakaknbofaaGreatDoor.G
