/- No two moves of a position have the same text. -/
import Derived.Test.YtphgopfhobockaaTText2
namespace Go.Proofs.Ytphgopfhobockaa.G
open Go.VM Go.Proofs
section
variable {r : RU} {p : PO}
theorem lit_ne {a b : Int} (ha : 0 ≤ a ∧ a < 256) (hb : 0 ≤ b ∧ b < 256) (h : a ≠ b) : b8 a ≠ b8 b := fun e => h (b8_inj ha hb e)
/-- Behind the letter of a move there is no '@'. -/
theorem no_at (hr : ROK r) {n t : Int} (hn : 0 ≤ n ∧ n < r.2.1 * r.2.2.1) (ht : 0 ≤ t ∧ t < r.2.1 * r.2.2.1) (f rw o : Bool) (c : Prop) [Decidable c] (X Y : List UInt8) (h : b8 64 :: X = ((frB r n f rw o ++ (if c then [] else [b8 120])) ++ [col r t, rowb r t]) ++ Y) : False := by
  have c1 := col_lit hr hn 64 (by omega)
  have c2 := col_lit hr ht 64 (by omega)
  have c3 := rowb_lit hr hn 64 (by omega)
  have c4 : b8 64 ≠ b8 120 := lit_ne (by omega) (by omega) (by omega)
  unfold frB at h
  cases o
  · simp only [if_true, List.nil_append] at h
    split at h
    · exact c2 (List.cons.inj h).1.symm
    · exact c4 (List.cons.inj h).1
  · rw [if_neg (by decide)] at h
    cases f
    · rw [if_pos rfl] at h
      exact c1 (List.cons.inj h).1.symm
    · rw [if_neg (by decide)] at h
      cases rw
      · rw [if_pos rfl] at h
        exact c3 (List.cons.inj h).1.symm
      · rw [if_neg (by decide)] at h
        exact c1 (List.cons.inj h).1.symm
theorem move_pos (hp : POK r p) {m : MV} (hm : MvOK r p m) (h0 : ¬ m.1 < 0) : (0 ≤ m.1 ∧ m.1 < r.2.1 * r.2.2.1) ∧ (0 ≤ m.2.1 ∧ m.2.1 < r.2.1 * r.2.2.1) ∧ (0 ≤ knd (rd 0 p.1 m.1) ∧ knd (rd 0 p.1 m.1) < r.2.2.2.1.length) := by
  have hlen := hp.len
  have hn6 := hp.ru.n6
  obtain ⟨t0, t1, k0, k1, hc⟩ := hm
  obtain ⟨g0, g1, f1, _⟩ := hc.resolve_left (fun h => by have := h.1; omega)
  have hcm := cellz hp g0 g1
  obtain ⟨_, d0, d1⟩ := kind_eq' _ r.2.2.2.1.length f1 hcm.2 (by omega)
  exact ⟨⟨g0, by omega⟩, ⟨t0, by omega⟩, d0, d1⟩
theorem txt_inj (hp : POK r p) (g : List MV) (hg : ∀ x ∈ g, MvOK r p x) (hgl : g.length ≤ 8000) (a b : MV) (ha : a ∈ g) (hb : b ∈ g) (hab : a ≠ b) {A B : ByteArray} (hA : f43 9000 r p g a = some (A, ())) (hB : f43 9000 r p g b = some (B, ())) : A.data.toList ≠ B.data.toList := by
  intro heq
  have hr := hp.ru
  have hlen := hp.len
  have ma := hg a ha
  have mb := hg b hb
  have ta : 0 ≤ a.2.1 ∧ a.2.1 < r.2.1 * r.2.2.1 := ⟨ma.1, by have := ma.2.1; omega⟩
  have tb : 0 ≤ b.2.1 ∧ b.2.1 < r.2.1 * r.2.2.1 := ⟨mb.1, by have := mb.2.1; omega⟩
  have ka : 0 ≤ a.2.2.1 ∧ a.2.2.1 < r.2.2.2.1.length := ⟨ma.2.2.1, ma.2.2.2.1⟩
  have kb : 0 ≤ b.2.2.1 ∧ b.2.2.1 < r.2.2.2.1.length := ⟨mb.2.2.1, mb.2.2.2.1⟩
  by_cases a0 : a.1 < 0
  · obtain ⟨A', hA', dA⟩ := text_drop hp g a ma a0
    rw [hA] at hA'
    simp only [Option.some.injEq, Prod.mk.injEq, and_true] at hA'
    subst hA'
    have ea : a.1 = -1 := by
      rcases ma.2.2.2.2 with h | h
      · exact h.1
      · have := h.1; omega
    by_cases b0 : b.1 < 0
    · obtain ⟨B', hB', dB⟩ := text_drop hp g b mb b0
      rw [hB] at hB'
      simp only [Option.some.injEq, Prod.mk.injEq, and_true] at hB'
      subst hB'
      have eb : b.1 = -1 := by
        rcases mb.2.2.2.2 with h | h
        · exact h.1
        · have := h.1; omega
      rw [dA, dB] at heq
      simp only [List.cons.injEq, and_true, true_and] at heq
      obtain ⟨h1, h2, h3⟩ := heq
      exact hab (mv_ext (by omega) (sq_inj hr ta tb (col_inj hr ta tb h2) (rowb_inj hr ta tb h3)) (LL_inj hr ka kb h1))
    · obtain ⟨B', f, r2, o, hB', dB, _⟩ := text_move hp g hg hgl b mb b0
      rw [hB] at hB'
      simp only [Option.some.injEq, Prod.mk.injEq, and_true] at hB'
      subst hB'
      rw [dA, dB] at heq
      obtain ⟨pn, pt, _⟩ := move_pos hp mb b0
      exact no_at hr pn pt f r2 o _ _ _ (List.cons.inj heq).2
  · obtain ⟨A', fa, ra, oa, hA', dA, qa⟩ := text_move hp g hg hgl a ma a0
    rw [hA] at hA'
    simp only [Option.some.injEq, Prod.mk.injEq, and_true] at hA'
    subst hA'
    obtain ⟨na, _, za⟩ := move_pos hp ma a0
    by_cases b0 : b.1 < 0
    · obtain ⟨B', hB', dB⟩ := text_drop hp g b mb b0
      rw [hB] at hB'
      simp only [Option.some.injEq, Prod.mk.injEq, and_true] at hB'
      subst hB'
      rw [dA, dB] at heq
      exact no_at hr na ta fa ra oa _ _ _ (List.cons.inj heq).2.symm
    obtain ⟨B', fb, rb, ob, hB', dB, qb⟩ := text_move hp g hg hgl b mb b0
    rw [hB] at hB'
    simp only [Option.some.injEq, Prod.mk.injEq, and_true] at hB'
    subst hB'
    obtain ⟨nb, _, zb⟩ := move_pos hp mb b0
    rw [dA, dB] at heq
    obtain ⟨hk, heq⟩ := List.cons.inj heq
    have hk := LL_inj hr za zb hk
    have lit61 : ∀ n : Int, 0 ≤ n ∧ n < r.2.1 * r.2.2.1 → col r n ≠ b8 61 := fun n hn => col_lit hr hn 61 (by omega)
    -- the same piece arrives at the same square
    have key : ∀ Ua Ub : List UInt8, Ua ++ [col r a.2.1, rowb r a.2.1] = Ub ++ [col r b.2.1, rowb r b.2.1] → a.2.1 = b.2.1 ∧ Ua = Ub := by
      intro Ua Ub h
      obtain ⟨h1, h2⟩ := List.append_inj' h rfl
      simp only [List.cons.injEq, and_true] at h2
      exact ⟨sq_inj hr ta tb (col_inj hr ta tb h2.1) (rowb_inj hr ta tb h2.2), h1⟩
    have main : a.2.2.1 = b.2.2.1 ∧ a.2.1 = b.2.1 ∧ frB r a.1 fa ra oa ++ (if rd 0 p.1 a.2.1 = 0 then [] else [b8 120]) = frB r b.1 fb rb ob ++ (if rd 0 p.1 b.2.1 = 0 then [] else [b8 120]) := by
      by_cases pa : a.2.2.1 = knd (rd 0 p.1 a.1)
      · rw [if_pos pa, List.append_nil] at heq
        by_cases pb : b.2.2.1 = knd (rd 0 p.1 b.1)
        · rw [if_pos pb, List.append_nil] at heq
          obtain ⟨h1, h2⟩ := key _ _ heq
          exact ⟨by omega, h1, h2⟩
        · rw [if_neg pb] at heq
          obtain ⟨_, h2⟩ := List.append_inj' heq rfl
          exact absurd (List.cons.inj h2).1 (lit61 _ ta)
      · rw [if_neg pa] at heq
        by_cases pb : b.2.2.1 = knd (rd 0 p.1 b.1)
        · rw [if_pos pb, List.append_nil] at heq
          obtain ⟨_, h2⟩ := List.append_inj' heq.symm rfl
          exact absurd (List.cons.inj h2).1 (lit61 _ tb)
        · rw [if_neg pb] at heq
          obtain ⟨h1, h2⟩ := List.append_inj' heq rfl
          simp only [List.cons.injEq, and_true, true_and] at h2
          obtain ⟨h3, h4⟩ := key _ _ h1
          exact ⟨LL_inj hr ka kb h2, h3, h4⟩
    obtain ⟨e1, e2, e3⟩ := main
    rw [e2] at e3
    have e4 := (List.append_inj' e3 rfl).1
    clear e3 heq
    have tf : ¬ (true = false) := by decide
    have hne : a.1 ≠ b.1 := fun h => hab (mv_ext h e2 e1)
    have qab : Qual p a b := ⟨nb.1, fun h => hne h.symm, e2.symm, hk.symm⟩
    have qba : Qual p b a := ⟨na.1, hne, e2, hk⟩
    obtain ⟨o1, c1, w1⟩ := qa b hb qab
    obtain ⟨o2, c2, w2⟩ := qb a ha qba
    subst o1 o2
    unfold frB at e4
    rw [if_neg tf, if_neg tf] at e4
    cases fa
    · rw [if_pos rfl] at e4
      cases fb
      · rw [if_pos rfl] at e4
        have := col_inj hr na nb (List.cons.inj e4).1
        exact absurd (c1 this.symm) (by decide)
      · rw [if_neg tf] at e4
        cases rb
        · rw [if_pos rfl] at e4
          exact col_rowb hr na nb (List.cons.inj e4).1
        · rw [if_neg tf] at e4
          have := congrArg List.length e4
          simp at this
    · rw [if_neg tf] at e4
      cases ra
      · rw [if_pos rfl] at e4
        cases fb
        · rw [if_pos rfl] at e4
          exact col_rowb hr nb na (List.cons.inj e4).1.symm
        · rw [if_neg tf] at e4
          cases rb
          · rw [if_pos rfl] at e4
            have := rowb_inj hr na nb (List.cons.inj e4).1
            exact absurd (w1 this.symm) (by decide)
          · rw [if_neg tf] at e4
            have := congrArg List.length e4
            simp at this
      · rw [if_neg tf] at e4
        cases fb
        · rw [if_pos rfl] at e4
          have := congrArg List.length e4
          simp at this
        · rw [if_neg tf] at e4
          cases rb
          · rw [if_pos rfl] at e4
            have := congrArg List.length e4
            simp at this
          · rw [if_neg tf] at e4
            simp only [List.cons.injEq, and_true] at e4
            exact hne (sq_inj hr na nb (col_inj hr na nb e4.1) (rowb_inj hr na nb e4.2))
end
end Go.Proofs.Ytphgopfhobockaa.G
