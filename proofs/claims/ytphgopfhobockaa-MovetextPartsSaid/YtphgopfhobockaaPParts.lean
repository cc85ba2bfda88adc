/- MovetextParts: the line of a game begins with that of its first moves. -/
import Derived.Test.YtphgopfhobockaaTMoves
import Derived.Test.YtphgopfhobockaaTRun
namespace Go.Proofs.Ytphgopfhobockaa.G
open Go.VM Go.Proofs
section
variable {r : RU} {p : PO} {g : List MV}
theorem txt_size (h : Moves r p g) {m : MV} (hm : m ∈ g) : 1 ≤ (txt r p g m).size ∧ (txt r p g m).size ≤ 9000 := by
  have ht := txt_eq h.hp g h.ok h.len m hm
  by_cases h0 : m.1 < 0
  · obtain ⟨b, hb, hd⟩ := text_drop h.hp g m (h.ok m hm) h0
    rw [hb] at ht
    simp only [Option.some.injEq, Prod.mk.injEq, and_true] at ht
    rw [← ht, size_data, hd]
    simp
  · obtain ⟨b, f, r2, o, hb, hd, _⟩ := text_move h.hp g h.ok h.len m (h.ok m hm) h0
    rw [hb] at ht
    simp only [Option.some.injEq, Prod.mk.injEq, and_true] at ht
    have hf := frB_len (r := r) m.1 f r2 o
    rw [← ht, size_data, hd]
    simp only [List.length_cons, List.length_append, List.length_nil]
    have h1 : (if rd 0 p.1 m.2.1 = 0 then ([] : List UInt8) else [b8 120]).length ≤ 1 := by split <;> simp
    have h2 : (if m.2.2.1 = knd (rd 0 p.1 m.1) then ([] : List UInt8) else [b8 61, LL r m.2.2.1]).length ≤ 2 := by split <;> simp
    omega
theorem text6t (h : Moves r p g) (m : MV) : ∀ (j i : Nat), i ≤ g.length → g.length < i + j → l16_6 9000 j r p m g g (g.length : Int) i = some (.inl ()) ∨ ∃ b, l16_6 9000 j r p m g g (g.length : Int) i = some (.inr (b, 0, ())) ∧ 1 ≤ b.size ∧ b.size ≤ 9000
  | 0, i, h1, h2 => by omega
  | j + 1, i, h1, h2 => by
    have hl := h.len
    rw [l16_6]
    by_cases hi : i < g.length
    · have e : ((i : Int) + 1) = ((i + 1 : Nat) : Int) := by omega
      rw [bt1 (show (i : Int) < g.length by omega), bt2 ⟨by omega, by omega⟩, show rd ((0, 0, 0, ()) : MV) g (i : Int) = rd M0 g (i : Int) from rfl, mv_test3, ws (by omega), e]
      by_cases hq : rd M0 g (i : Int) = m
      · have hm : m ∈ g := by rw [← hq]; exact rd_mem M0 g i hi
        rw [bt1 hq, txt_eq h.hp g h.ok h.len m hm]
        exact .inr ⟨_, rfl, txt_size h hm⟩
      · rw [bf1 hq]
        exact text6t h m j (i + 1) (by omega) (by omega)
    · rw [bf1 (show ¬ (i : Int) < g.length by omega)]
      exact .inl rfl
theorem text_tot (hz : Rz r) (hp : POK r p) (m : MV) : ∃ b e, f16 9000 r p m = some (b, e, ()) ∧ (e = 0 → 1 ≤ b.size ∧ b.size ≤ 9000) := by
  obtain ⟨g, h⟩ := moves_of hp (place_ok hz hp)
  unfold f16
  rw [h.hc]
  simp only [Option.bind_some]
  have hl := h.len
  rw [beq1 rfl, h.gen]
  simp only [Option.bind_some]
  rcases text6t h m 9000 0 (by omega) (by omega) with h1 | ⟨b, h1, h2⟩
  · rw [show ((0 : Nat) : Int) = 0 from rfl] at h1
    rw [h1]
    exact ⟨_, 13, rfl, fun h => absurd h (by decide)⟩
  · rw [show ((0 : Nat) : Int) = 0 from rfl] at h1
    rw [h1]
    exact ⟨b, 0, rfl, fun _ => h2⟩
/-- Moves that are played, with their texts. -/
def Lines (r : RU) : GM → List MV → List ByteArray → Prop
  | _, [], T => T = []
  | g, m :: ms, T => ∃ b g1 T', T = b :: T' ∧ f16 9000 r g.now m = some (b, 0, ()) ∧ (1 ≤ b.size ∧ b.size ≤ 9000) ∧ f55 9000 g m = some (0, g1, ()) ∧ Lines r g1 ms T'
theorem Lines.det : ∀ {ms : List MV} {g : GM} {T T' : List ByteArray}, Lines r g ms T → Lines r g ms T' → T = T'
  | [], _, _, _, h1, h2 => by rw [show _ = _ from h1, show _ = _ from h2]
  | m :: ms, g, T, T', ⟨b, g1, T1, e1, t1, _, p1, l1⟩, ⟨c, g2, T2, e2, t2, _, p2, l2⟩ => by
    rw [t1] at t2
    rw [p1] at p2
    simp only [Option.some.injEq, Prod.mk.injEq, true_and, and_true] at t2 p2
    subst t2 p2
    rw [e1, e2, l1.det l2]
theorem Lines.cut : ∀ {a b : List MV} {g : GM} {T : List ByteArray}, Lines r g (a ++ b) T → ∃ Ta Tb, T = Ta ++ Tb ∧ Lines r g a Ta ∧ Tb.length = b.length ∧ Ta.length = a.length ∧ ∀ x ∈ Tb, 1 ≤ x.size ∧ x.size ≤ 9000
  | [], b, g, T, h => by
    refine ⟨[], T, rfl, rfl, ?_, rfl, ?_⟩
    · have key : ∀ {ms : List MV} {g : GM} {T : List ByteArray}, Lines r g ms T → T.length = ms.length := by
        intro ms
        induction ms with
        | nil => intro g T h; rw [show T = [] from h]; rfl
        | cons m ms ih =>
          rintro g T ⟨b, g1, T', rfl, _, _, _, h⟩
          rw [List.length_cons, List.length_cons, ih h]
      exact key h
    · have key : ∀ {ms : List MV} {g : GM} {T : List ByteArray}, Lines r g ms T → ∀ x ∈ T, 1 ≤ x.size ∧ x.size ≤ 9000 := by
        intro ms
        induction ms with
        | nil => intro g T h; rw [show T = [] from h]; intro x hx; cases hx
        | cons m ms ih =>
          rintro g T ⟨b, g1, T', rfl, _, hb, _, h⟩ x hx
          rcases List.mem_cons.1 hx with rfl | hx
          · exact hb
          · exact ih h x hx
      exact key h
  | m :: a, b, g, T, ⟨c, g1, T', e, t, hc, hp, h⟩ => by
    obtain ⟨Ta, Tb, h1, h2, h3, h4, h5⟩ := Lines.cut h
    exact ⟨c :: Ta, Tb, by rw [e, h1]; rfl, ⟨c, g1, Ta, rfl, t, hc, hp, h2⟩, h3, by rw [List.length_cons, List.length_cons, h4], h5⟩
theorem line6 (hz : Rz r) (l : List MV) (hll : l.length ≤ 400) : ∀ (j i : Nat) (g : GM) (out : List ByteArray), i ≤ l.length → l.length < i + j → GOK r g → g.2.2.1.length + (l.length - i) ≤ 400 → out.length ≤ i →
    (∃ T, Lines r g (l.drop i) T ∧ l33_6 9000 j r g out l (l.length : Int) i = some (.inl (out ++ T, ()))) ∨ ((∃ e, e ≠ 0 ∧ l33_6 9000 j r g out l (l.length : Int) i = some (.inr (B0, e, ()))) ∧ ¬ ∃ T, Lines r g (l.drop i) T)
  | 0, i, g, out, h, h', _, _, _ => by omega
  | j + 1, i, g, out, h, h', hg, hl, ho => by
    rw [l33_6]
    by_cases hi : i < l.length
    · have e : ((i : Int) + 1) = ((i + 1 : Nat) : Int) := by omega
      obtain ⟨hn, hpk⟩ := hg.now_eq hz.ok (by omega)
      obtain ⟨b, te, ht, hb⟩ := text_tot hz hpk (rd M0 l (i : Int))
      rw [bt1 (show (i : Int) < l.length by omega), bt2 ⟨by omega, by omega⟩, drop_rd M0 l i hi, pos_eq hz.ok hg (by omega)]
      simp only [Option.bind_some]
      rw [show rd ((0, 0, 0, ()) : MV) l (i : Int) = rd M0 l (i : Int) from rfl, ht]
      simp only [Option.bind_some]
      rcases play_tot hz hg (by omega) (rd M0 l (i : Int)) with ⟨e2, he, hp⟩ | ⟨q, hp, hok, _⟩
      · rw [hp]
        simp only [Option.bind_some]
        rw [bne1 he]
        refine .inr ⟨⟨e2, he, rfl⟩, ?_⟩
        rintro ⟨T, _, g1, _, _, _, _, h1, _⟩
        rw [hp] at h1
        simp only [Option.some.injEq, Prod.mk.injEq] at h1
        exact he h1.1
      · rw [hp]
        simp only [Option.bind_some]
        rw [beq1 rfl]
        by_cases hte : te = 0
        · subst hte
          rw [beq1 rfl, bt1 (by simp; unfold roomN; omega), ws (by omega), e]
          rcases line6 hz l hll j (i + 1) _ (out ++ [b]) (by omega) (by omega) hok (by simp; omega) (by simp; omega) with ⟨T, h1, h2⟩ | ⟨⟨e2, he, h1⟩, h2⟩
          · exact .inl ⟨b :: T, ⟨b, _, T, rfl, ht, hb rfl, hp, h1⟩, by rw [h2]; simp⟩
          · refine .inr ⟨⟨e2, he, h1⟩, ?_⟩
            rintro ⟨T, b', g1, T', _, _, _, h3, h4⟩
            rw [hp] at h3
            simp only [Option.some.injEq, Prod.mk.injEq, true_and, and_true] at h3
            subst h3
            exact h2 ⟨T', h4⟩
        · rw [bne1 hte]
          refine .inr ⟨⟨te, hte, rfl⟩, ?_⟩
          · rintro ⟨T, b', g1, T', _, h3, _⟩
            rw [ht] at h3
            simp only [Option.some.injEq, Prod.mk.injEq, and_true] at h3
            exact hte h3.2
    · rw [bf1 (show ¬ (i : Int) < l.length by omega), List.drop_eq_nil_of_le (by omega)]
      exact .inl ⟨[], rfl, by rw [List.append_nil]⟩
end
/-! ### Joined texts -/
theorem joinB_len : ∀ (T : List ByteArray) (s : ByteArray) (B : Nat), (∀ x ∈ T, x.size ≤ B) → ((joinB T s).data.toList).length ≤ (B + s.size) * T.length
  | [], s, B, _ => by
    show (Go.Lib.join [] s.data.toList).length ≤ _
    rw [Go.Lib.join_nil]
    simp
  | x :: T, s, B, h => by
    show (Go.Lib.join (x.data.toList :: T.map (·.data.toList)) s.data.toList).length ≤ _
    rw [Go.Lib.join_cons]
    have key : ∀ T : List ByteArray, (∀ x ∈ T, x.size ≤ B) → (Go.Lib.joinTail s.data.toList (T.map (·.data.toList))).length ≤ (B + s.size) * T.length := by
      intro T
      induction T with
      | nil => intro _; simp [Go.Lib.joinTail]
      | cons y T ih =>
        intro h
        have h1 := h y (by simp)
        have h2 := ih (fun z hz => h z (by simp [hz]))
        unfold Go.Lib.joinTail at h2 ⊢
        simp only [List.map_cons, List.flatten_cons, List.length_append, List.length_cons]
        rw [Nat.mul_add, Nat.mul_one]
        have e1 : s.data.toList.length = s.size := rfl
        have e2 : y.data.toList.length = y.size := rfl
        omega
    have h1 := h x (by simp)
    have h2 := key T (fun z hz => h z (by simp [hz]))
    rw [List.length_append, List.length_cons, Nat.mul_add, Nat.mul_one]
    have e2 : x.data.toList.length = x.size := rfl
    omega
theorem join_small (T : List ByteArray) (h : ∀ x ∈ T, 1 ≤ x.size ∧ x.size ≤ 9000) (hl : T.length ≤ 40) : (joinB T (⟨#[32]⟩ : ByteArray)).size ≤ 281474976710656 := by
  have h1 := joinB_len T (⟨#[32]⟩ : ByteArray) 9000 (fun x hx => (h x hx).2)
  have h2 : (9000 + (⟨#[32]⟩ : ByteArray).size) * T.length ≤ 9999 * 40 := Nat.mul_le_mul (by decide) hl
  rw [size_data]
  omega
theorem joinTail_app (s : List UInt8) (a b : List (List UInt8)) : Go.Lib.joinTail s (a ++ b) = Go.Lib.joinTail s a ++ Go.Lib.joinTail s b := by
  unfold Go.Lib.joinTail
  rw [List.map_append, List.flatten_append]
theorem join_split (A C : List ByteArray) (hC : ∀ x ∈ C, 1 ≤ x.size) : ∃ Z, (joinB (A ++ C) (⟨#[32]⟩ : ByteArray)).data.toList = (joinB A (⟨#[32]⟩ : ByteArray)).data.toList ++ Z ∧ (Z = [] ↔ C = []) := by
  cases A with
  | nil =>
    refine ⟨(joinB C (⟨#[32]⟩ : ByteArray)).data.toList, rfl, fun h => ?_, fun h => by rw [h]; rfl⟩
    cases C with
    | nil => rfl
    | cons c C =>
      have h : Go.Lib.join (c.data.toList :: C.map (·.data.toList)) (⟨#[32]⟩ : ByteArray).data.toList = [] := h
      rw [Go.Lib.join_cons] at h
      have h1 := hC c (by simp)
      have h2 := congrArg List.length h
      rw [List.length_append, List.length_nil] at h2
      have e2 : c.data.toList.length = c.size := rfl
      omega
  | cons a A =>
    refine ⟨Go.Lib.joinTail (⟨#[32]⟩ : ByteArray).data.toList (C.map (·.data.toList)), ?_, fun h => ?_, fun h => by rw [h]; rfl⟩
    · show Go.Lib.join (a.data.toList :: (A ++ C).map (·.data.toList)) _ = Go.Lib.join (a.data.toList :: A.map (·.data.toList)) _ ++ _
      rw [Go.Lib.join_cons, Go.Lib.join_cons, List.map_append, joinTail_app, List.append_assoc]
    · cases C with
      | nil => rfl
      | cons c C => unfold Go.Lib.joinTail at h; simp at h
section
variable {r : RU} {p : PO} {g : List MV}
abbrev SP : ByteArray := ⟨#[32]⟩
/-- What a line says: the texts, with spaces between them; or an error. -/
theorem line_tot (r : RU) (l : List MV) (hl : l.length ≤ 40) : (∃ T, Rz r ∧ Lines r (g0 r) l T ∧ f33 9000 r l = some (joinB T SP, 0, ())) ∨ ((∃ e, e ≠ 0 ∧ f33 9000 r l = some (B0, e, ())) ∧ ¬ ∃ T, Rz r ∧ Lines r (g0 r) l T) := by
  unfold f33
  rcases new_tot r with ⟨hz, hn⟩ | ⟨e, he, hn⟩
  · rw [hn]
    simp only [Option.bind_some, Sum.elim_inl]
    rw [beq1 rfl]
    have := line6 hz l (by omega) 9000 0 (g0 r) [] (by omega) (by omega) (g0_ok r) (by show 0 + (l.length - 0) ≤ 400; omega) (by simp)
    rw [show ((0 : Nat) : Int) = 0 from rfl, List.drop_zero] at this
    rcases this with ⟨T, h1, h2⟩ | ⟨⟨e, he, h1⟩, h2⟩
    · rw [h2]
      simp only [Option.bind_some, Sum.elim_inl, List.nil_append]
      have hj : f62 9000 T SP = some (joinB T SP, ()) := by
        obtain ⟨Ta, Tb, e1, e2, e3, e4, e5⟩ := Lines.cut (a := []) (b := l) h1
        have hTa : Ta = [] := e2
        rw [hTa, List.nil_append] at e1
        subst e1
        unfold f62
        rw [bt2 ⟨join_small T e5 (by omega), by omega⟩]
      rw [hj]
      exact .inl ⟨T, hz, h1, rfl⟩
    · rw [h1]
      exact .inr ⟨⟨e, he, rfl⟩, fun ⟨T, _, h⟩ => h2 ⟨T, h⟩⟩
  · rw [hn]
    simp only [Option.bind_some, Sum.elim_inr]
    rw [bne1 he]
    refine .inr ⟨⟨e, he, rfl⟩, fun ⟨T, hz, _⟩ => ?_⟩
    have := new_eq hz
    rw [hn] at this
    cases this
end
theorem cut40 (l : List MV) : f23 9000 l = some (l.take 40, ()) := by
  unfold f23
  rw [bt2 (by split <;> omega)]
  congr 2
  unfold sliceOf
  rw [show (0 : Int).toNat = 0 from rfl, List.drop_zero]
  split
  · rfl
  · rw [List.take_of_length_le (by omega), List.take_of_length_le (by omega)]
theorem extract_data (b : ByteArray) (n : Nat) : (b.extract 0 n).data.toList = b.data.toList.take n := by
  rw [ByteArray.data_extract, Array.toList_extract]
  simp
/-- **MovetextParts**: the line of a game begins with that of its first moves. -/
theorem parts_pure (r : RU) (l : List MV) (n : Int) : f9 9000 r l n = some (true, ()) := by
  unfold f9
  rw [writes_eq]
  simp only [Option.bind_some, Bool.not_true, cond_false]
  rw [cut40]
  simp only [Option.bind_some]
  generalize hq : l.take 40 = a
  have hl : a.length ≤ 40 := by rw [← hq]; simp; omega
  unfold f12
  simp only [Option.bind_some]
  cases decide ((r.2.2.2.2.1.length : Int) > 20)
  rotate_left
  · rfl
  simp only [cond_false]
  obtain ⟨m, hm, hma⟩ : ∃ m : Nat, (if (if (a.length : Int) < n then (a.length : Int) else n) > 0 then if (a.length : Int) < n then (a.length : Int) else n else 0) = (m : Int) ∧ m ≤ a.length := by
    refine ⟨(if (if (a.length : Int) < n then (a.length : Int) else n) > 0 then if (a.length : Int) < n then (a.length : Int) else n else 0).toNat, ?_, ?_⟩ <;> split <;> split <;> omega
  rw [hm]
  have hsl : sliceOf a 0 (m : Int) = a.take m := by unfold sliceOf; simp
  rw [hsl]
  have ham : (a.take m).length ≤ 40 := by simp; omega
  rcases line_tot r a hl with ⟨T, hz, hT, hline⟩ | ⟨⟨e, he, hline⟩, _⟩
  · obtain ⟨Ta, Tb, e1, e2, e3, e4, e5⟩ := Lines.cut (a := a.take m) (b := a.drop m) (by rw [List.take_append_drop]; exact hT)
    rcases line_tot r (a.take m) ham with ⟨T2, _, hT2, hline2⟩ | ⟨_, hno⟩
    · have : T2 = Ta := hT2.det e2
      subst this
      rw [hline]
      simp only [Option.bind_some]
      rw [bt2 ⟨by omega, by omega⟩, hline2]
      simp only [Option.bind_some]
      obtain ⟨Z, hZ, hZ0⟩ := join_split T2 Tb (fun x hx => (e5 x hx).1)
      rw [← e1] at hZ
      have hs : (joinB T SP).size = (joinB T2 SP).size + Z.length := by rw [size_data, size_data, hZ, List.length_append]
      rw [beq1 rfl, be1 rfl, bt1 (by omega), bt2 ⟨by omega, by omega⟩, beq_data, show (0 : Int).toNat = 0 from rfl, Int.toNat_natCast, extract_data, hZ, size_data (joinB T2 SP), List.take_left, bt1 rfl]
      have hlen : (a.drop m).length = a.length - m := List.length_drop ..
      by_cases hma2 : m = a.length
      · have : Z = [] := hZ0.2 (List.eq_nil_of_length_eq_zero (by omega))
        subst this
        simp only [List.length_nil, Nat.add_zero] at hs
        rw [← size_data, hs, hma2, beq_self_eq_true, beq_self_eq_true]
        rfl
      · have hne : Z ≠ [] := fun h => by
          have := hZ0.1 h
          rw [this] at e3
          simp only [List.length_nil] at e3
          omega
        have hzl : 0 < Z.length := List.length_pos_iff.2 hne
        rw [← size_data, hs, show ((m : Int) == (a.length : Int)) = false from beq_eq_false_iff_ne.2 (by omega), show (((joinB T2 SP).size : Int) == (((joinB T2 SP).size + Z.length : Nat) : Int)) = false from beq_eq_false_iff_ne.2 (by omega)]
        rfl
    · exact absurd ⟨Ta, hz, e2⟩ hno
  · rw [hline]
    simp only [Option.bind_some]
    rw [bt2 ⟨by omega, by omega⟩]
    obtain ⟨v, hv⟩ : ∃ v, f33 9000 r (a.take m) = some v := by
      rcases line_tot r (a.take m) ham with ⟨T2, _, _, h⟩ | ⟨⟨e2, _, h⟩, _⟩ <;> exact ⟨_, h⟩
    rw [hv]
    simp only [Option.bind_some]
    rw [bne1 he, beq_data]
    rfl
end Go.Proofs.Ytphgopfhobockaa.G
