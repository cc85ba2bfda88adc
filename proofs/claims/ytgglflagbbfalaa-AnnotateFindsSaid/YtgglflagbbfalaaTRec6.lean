/- Records: what is passed is a tree, and its ways are played. -/
import Derived.Test.YtgglflagbbfalaaTRec5
namespace Go.Proofs.Ytgglflagbbfalaa.G
open Go.VM Go.Proofs
theorem Linked.left {l : List ND} : ∀ {a b : List Int} {p : Int}, Linked l p (a ++ b) → Linked l p a
  | [], _, _, _ => trivial
  | n :: a, b, p, ⟨h1, h2, h3⟩ => ⟨h1, h2, Linked.left h3⟩
theorem Linked.last {l : List ND} : ∀ {a : List Int} {n p : Int}, Linked l p (a ++ [n]) → par l n = a.getLastD p
  | [], _, _, ⟨_, h, _⟩ => h
  | m :: a, n, p, ⟨_, _, h⟩ => by rw [List.getLastD_cons]; exact Linked.last h
theorem Linked.mem {l : List ND} : ∀ {a : List Int} {p : Int}, Linked l p a → ∀ x ∈ a, 0 ≤ x ∧ x < l.length
  | [], _, _, x, hx => by cases hx
  | n :: a, p, ⟨h1, _, h3⟩, x, hx => by
    rcases List.mem_cons.1 hx with rfl | hx
    · exact h1
    · exact Linked.mem h3 x hx
theorem linked_chain {l : List ND} : ∀ (d : Nat) (ns : List Int), Linked l (-1) ns → ns.length < d → chain l d (ns.getLastD (-1)) = ns
  | 0, ns, _, h => by omega
  | d + 1, ns, h, hd => by
    by_cases he : ns = []
    · subst he; rfl
    · obtain ⟨ini, lst, rfl⟩ : ∃ ini lst, ns = ini ++ [lst] := ⟨ns.dropLast, ns.getLast he, (List.dropLast_concat_getLast he).symm⟩
      have hm := h.mem lst (by simp)
      have hl := h.last
      have ih := linked_chain d ini h.left (by simp at hd; omega)
      rw [show (ini ++ [lst]).getLastD (-1) = lst by simp, chain, if_neg (by omega), hl, ih]
theorem Plays.snoc1 : ∀ {ms : List MV} {g g1 g2 : GM} {m : MV}, Plays g ms g1 → f17 9000 g1 m = some (0, g2, ()) → Plays g (ms ++ [m]) g2
  | [], g, g1, g2, m, h, hp => by
    have h : g = g1 := h
    subst h
    exact ⟨g2, hp, rfl⟩
  | x :: ms, g, g1, g2, m, ⟨g3, h1, h2⟩, hp => ⟨g3, h1, Plays.snoc1 h2 hp⟩
section
variable {r : RU}
/-- What is known of a node. -/
def Node (r : RU) (l : List ND) (k : Nat) : Prop := (-1 ≤ par l k ∧ par l k < k) ∧ (∀ a : Nat, a < k → ¬ (par l a = par l k ∧ mvN l a = mvN l k)) ∧ ∃ q, Plays (g0 r) ((chain l 9000 k).map (mvN l)) q
theorem check9 (hz : Rz r) (x : RC) (hx : x.2.2.1.length ≤ 200) : ∀ (j i : Nat) (g : GM) (path : List Int), i ≤ x.2.2.1.length → x.2.2.1.length < i + j → Plays (g0 r) (path.map (mvN x.2.2.1)) g → Linked x.2.2.1 (-1) path → (∀ y ∈ path, y < (i : Int)) → path.length ≤ i → (∀ k : Nat, k < i → Node r x.2.2.1 k) →
    Lp (x, ()) (∀ k : Nat, k < x.2.2.1.length → Node r x.2.2.1 k) (l7_9 9000 j x g path x.2.2.1 (x.2.2.1.length : Int) i)
  | 0, i, g, path, h, h', _, _, _, _, _ => by omega
  | j + 1, i, g, path, h, h', hp, hlk, hlt, hpl, hno => by
    rw [l7_9]
    by_cases hi : i < x.2.2.1.length
    rotate_left
    · rw [bf1 (show ¬ (i : Int) < x.2.2.1.length by omega)]
      exact .inl ⟨rfl, fun k hk => hno k (by omega)⟩
    have e : ((i : Int) + 1) = ((i + 1 : Nat) : Int) := by omega
    rw [bt1 (show (i : Int) < x.2.2.1.length by omega), bt2 ⟨by omega, by omega⟩]
    rw [show rd ((0, (0, 0, 0, ()), (⟨#[]⟩ : ByteArray), ()) : ND) x.2.2.1 (i : Int) = rd N0 x.2.2.1 (i : Int) from rfl]
    refine Lp.call (comment_tot _) (fun _ => ?_) (fun e he => by rw [bne1 he]; exact Lp.bad he)
    rw [beq1 rfl]
    obtain ⟨g', pre, suf, h1, h2, h3, h4⟩ := pop14 hz x (i : Int) (rd N0 x.2.2.1 (i : Int)) x.2.2.1 (x.2.2.1.length : Int) (i : Int) 9000 g path hp (by omega) (by omega)
    rw [h4]
    simp only [Option.bind_some]
    have hlp : Linked x.2.2.1 (-1) pre := by rw [h1] at hlk; exact hlk.left
    have hsl : (sliceOf x.2.2.1 0 (i : Int)).length = i := by unfold sliceOf; simp; omega
    have hprl : pre.length ≤ i := by rw [h1] at hpl; simp at hpl; omega
    have cont : pre.getLastD (-1) = par x.2.2.1 (i : Int) → Lp (x, ()) (∀ k : Nat, k < x.2.2.1.length → Node r x.2.2.1 k) (bif decide (0 ≤ (i : Int)) && decide ((i : Int) ≤ (x.2.2.1.length : Int)) then
        (l7_20 9000 9000 x g' pre (i : Int) (rd N0 x.2.2.1 (i : Int)) x.2.2.1 (x.2.2.1.length : Int) (i : Int) (sliceOf x.2.2.1 0 (i : Int)) ((sliceOf x.2.2.1 0 (i : Int)).length : Int) 0).bind fun w27 =>
          Sum.elim (fun y3 => (f17 9000 y3.2.1 y3.2.2.2.2.1.2.1).bind fun r4 => bif r4.1 != 0 then some (.inr (r4.1, ())) else bif decide ((y3.2.2.1.length + [y3.2.2.2.1].length) * 8 ≤ roomN) then l7_9 9000 j y3.1 r4.2.1 (y3.2.2.1 ++ [y3.2.2.2.1]) y3.2.2.2.2.2.1 y3.2.2.2.2.2.2.1 (w64 (y3.2.2.2.2.2.2.2.1 + 1)) else none) (fun y5 => some (.inr y5)) w27 else none) := by
      intro hpar
      rw [bt2 ⟨by omega, by omega⟩]
      refine Lp.loop (sib20 x g' pre (i : Int) (rd N0 x.2.2.1 (i : Int)) x.2.2.1 (x.2.2.1.length : Int) (i : Int) (sliceOf x.2.2.1 0 (i : Int)) (by omega) 9000 0 (by omega) (by omega)) fun hsib => ?_
      obtain ⟨k1, k2⟩ := Plays.ok hz h2 (g0_ok r) (by show 0 + _ ≤ 400; rw [List.length_map]; omega)
      have k2 : g'.2.2.1.length = pre.length := by rw [k2]; show ([] ++ pre.map (mvN x.2.2.1)).length = _; simp
      show Lp _ _ ((f17 9000 g' (mvN x.2.2.1 (i : Int))).bind _)
      rcases play_tot hz k1 (by omega) (mvN x.2.2.1 (i : Int)) with ⟨e2, he, hpp⟩ | ⟨q, hpp, _⟩
      · rw [hpp]
        simp only [Option.bind_some]
        rw [bne1 he]
        exact Lp.bad he
      · rw [hpp]
        simp only [Option.bind_some]
        rw [beq1 rfl, bt1 (by rw [List.length_singleton]; unfold roomN; omega), ws (by omega), e]
        have hlk2 : Linked x.2.2.1 (-1) (pre ++ [(i : Int)]) := hlp.snoc ⟨by omega, by omega⟩ hpar.symm
        have hpl2 := Plays.snoc1 h2 hpp
        have hmem : ∀ y ∈ pre, y < (i : Int) := fun y hy => hlt y (by rw [h1]; exact List.mem_append.2 (.inl hy))
        refine check9 hz x hx j (i + 1) _ (pre ++ [(i : Int)]) (by omega) (by omega) (by rw [List.map_append]; exact hpl2) hlk2 (fun y hy => ?_) (by simp; omega) (fun k hk => ?_)
        · rcases List.mem_append.1 hy with hy | hy
          · have := hmem y hy; omega
          · rw [List.mem_singleton.1 hy]; omega
        · by_cases hki : k = i
          · subst hki
            refine ⟨?_, fun a ha hh => ?_, ?_⟩
            · rw [← hpar]
              by_cases he : pre = []
              · subst he; show (-1 : Int) ≤ -1 ∧ (-1 : Int) < k; omega
              · have hm : pre.getLastD (-1) ∈ pre := getLastD_mem (-1) pre he
                have := hlp.mem _ hm
                have := hmem _ hm
                omega
            · refine hsib a (by omega) (by omega) ?_
              have er : rd N0 (sliceOf x.2.2.1 0 (k : Int)) (a : Int) = rd N0 x.2.2.1 (a : Int) := by
                unfold sliceOf
                simp [rd, List.getD_eq_getElem?_getD, ha]
              rw [er]
              exact hh
            · have := linked_chain 9000 (pre ++ [(k : Int)]) hlk2 (by simp; omega)
              rw [show (pre ++ [(k : Int)]).getLastD (-1) = (k : Int) by simp] at this
              rw [this, List.map_append]
              exact ⟨_, hpl2⟩
          · exact hno k (by omega)
    by_cases hn : (rd N0 x.2.2.1 (i : Int)).1 = -1
    · rw [beq1 hn]
      refine cont ?_
      rcases h3 with h3 | h3
      · rw [h3]; exact hn.symm
      · exact h3
    · rw [bne1 hn]
      by_cases he : pre = []
      · rw [be1 (by rw [he]; rfl)]
        exact Lp.bad (by decide)
      · rw [bn1 (by intro h; exact he (List.eq_nil_of_length_eq_zero (by omega)))]
        exact cont (h3.resolve_left he)
/-- **record.Check**: what is passed is a tree, and its ways are played. -/
theorem check_tot (r : RU) (x : RC) : Ans (Rz r ∧ Tree x.2.2.1 ∧ ∀ k : Nat, k < x.2.2.1.length → ∃ q, Plays (g0 r) ((chain x.2.2.1 9000 k).map (mvN x.2.2.1)) q) (f7 9000 r x) := by
  unfold f7
  rcases new_tot r with ⟨hz, hn⟩ | ⟨e, he, hn⟩
  · rw [hn]
    simp only [Option.bind_some, Sum.elim_inl]
    rw [beq1 rfl]
    refine Ans.call (head_tot x) (fun hx => ?_) (fun e he => by rw [bne1 he]; exact Ans.bad he)
    rw [beq1 rfl]
    refine Ans.loop (check9 hz x hx 9000 0 (g0 r) [] (by omega) (by omega) rfl trivial (fun y hy => by cases hy) (by simp) (fun k hk => by omega)) fun hall => ?_
    have ht : Tree x.2.2.1 := ⟨hx, fun i hi => (hall i hi).1, fun a b hab hb => (hall b hb).2.1 a hab⟩
    obtain ⟨v, hv⟩ := deep_tot x.2.2.1 hx (fun i hi => by have := (ht.par i hi).2; unfold par at this; omega)
    show Ans _ ((f18 9000 x.2.2.1).bind _)
    rw [hv]
    simp only [Option.bind_some]
    exact Ans.bif (fun _ => Ans.bad (by decide)) fun _ => Ans.good ⟨hz, ht, fun k hk => (hall k hk).2.2⟩
  · rw [hn]
    simp only [Option.bind_some, Sum.elim_inr]
    rw [bne1 he]
    exact Ans.bad he
end
end Go.Proofs.Ytgglflagbbfalaa.G
