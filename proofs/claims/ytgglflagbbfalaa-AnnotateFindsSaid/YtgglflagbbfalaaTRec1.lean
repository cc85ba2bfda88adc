/- Records: texts, tags and comments; they are passed or refused. -/
import Derived.Test.YtgglflagbbfalaaTBase
namespace Go.Proofs.Ytgglflagbbfalaa.G
open Go.VM Go.Proofs
abbrev ND := Int × MV × ByteArray × Unit
abbrev TG := ByteArray × ByteArray × Unit
abbrev RC := List TG × ByteArray × List ND × Int × Unit
abbrev N0 : ND := (0, (0, 0, 0, ()), (⟨#[]⟩ : ByteArray), ())
abbrev T00 : TG := ((⟨#[]⟩ : ByteArray), (⟨#[]⟩ : ByteArray), ())
theorem print2 (s t : ByteArray) (hs : s.size ≤ 64) : ∀ (j i : Nat), i ≤ s.size → s.size < i + j → l27_2 9000 j s t (s.size : Int) i = some (.inl ()) ∨ l27_2 9000 j s t (s.size : Int) i = some (.inr (false, ()))
  | 0, i, h, h' => by omega
  | j + 1, i, h, h' => by
    rw [l27_2]
    by_cases hi : i < s.size
    · have e : ((i : Int) + 1) = ((i + 1 : Nat) : Int) := by omega
      rw [bt1 (show (i : Int) < s.size by omega), bt2 ⟨by omega, by omega⟩]
      by_cases c1 : bt s (i : Int) < 32
      · rw [bt1 c1]; exact .inr rfl
      rw [bf1 c1, bt2 ⟨by omega, by omega⟩]
      by_cases c2 : bt s (i : Int) > 126
      · rw [bt1 c2]; exact .inr rfl
      rw [bf1 c2, bt2 ⟨by omega, by omega⟩]
      unfold f36
      simp only [Option.bind_some]
      by_cases c3 : indexB t (bt s (i : Int)) ≥ 0
      · rw [bt1 c3]; exact .inr rfl
      rw [bf1 c3, ws (by omega), e]
      exact print2 s t hs j (i + 1) (by omega) (by omega)
    · rw [bf1 (show ¬ (i : Int) < s.size by omega)]
      exact .inl rfl
theorem print_tot (s t : ByteArray) (hs : s.size ≤ 64) : ∃ b, f27 9000 s t = some (b, ()) := by
  unfold f27
  rcases print2 s t hs 9000 0 (by omega) (by omega) with h | h <;> rw [show ((0 : Nat) : Int) = 0 from rfl] at h <;> rw [h] <;> exact ⟨_, rfl⟩
theorem comment_tot (s : ByteArray) : Ans True (f15 9000 s) := by
  unfold f15
  by_cases c : (s.size : Int) > 60
  · rw [bt1 c]; exact Ans.bad (by decide)
  rw [bf1 c]
  obtain ⟨b, hb⟩ := print_tot s (⟨#[123, 125]⟩ : ByteArray) (by omega)
  rw [hb]
  cases b
  · exact Ans.bad (by decide)
  · exact Ans.good trivial
theorem head13 (x : RC) (t : TG) (a : List TG) (n m : Int) (l : List TG) : ∀ (j i : Nat), i ≤ l.length → l.length < i + j → l.length ≤ 1000 → Lp (x, a, n, m, ()) True (l14_13 9000 j x t a n m l (l.length : Int) i)
  | 0, i, h, h', _ => by omega
  | j + 1, i, h, h', hs => by
    rw [l14_13]
    by_cases hi : i < l.length
    · have e : ((i : Int) + 1) = ((i + 1 : Nat) : Int) := by omega
      rw [bt1 (show (i : Int) < l.length by omega), bt2 ⟨by omega, by omega⟩, ws (by omega), e]
      exact Lp.bif (fun _ => Lp.bad (by decide)) fun _ => head13 x t a n m l j (i + 1) (by omega) (by omega) hs
    · rw [bf1 (show ¬ (i : Int) < l.length by omega)]
      exact .inl ⟨rfl, trivial⟩
theorem head4 (x : RC) (hx : x.1.length ≤ 10) : ∀ (j i : Nat), i ≤ x.1.length → x.1.length < i + j → Lp (x, ()) True (l14_4 9000 j x x.1 (x.1.length : Int) i)
  | 0, i, h, h' => by omega
  | j + 1, i, h, h' => by
    rw [l14_4]
    by_cases hi : i < x.1.length
    · have e : ((i : Int) + 1) = ((i + 1 : Nat) : Int) := by omega
      rw [bt1 (show (i : Int) < x.1.length by omega), bt2 ⟨by omega, by omega⟩]
      obtain ⟨b, hb⟩ := name_tot (rd T00 x.1 (i : Int)).1
      rw [show rd (((⟨#[]⟩ : ByteArray), (⟨#[]⟩ : ByteArray), ()) : TG) x.1 (i : Int) = rd T00 x.1 (i : Int) from rfl, hb]
      simp only [Option.bind_some]
      refine Lp.bif (fun _ => Lp.bad (by decide)) fun _ => ?_
      by_cases c : ((rd T00 x.1 (i : Int)).2.1.size : Int) > 40
      · rw [bt1 c]; exact Lp.bad (by decide)
      rw [bf1 c]
      obtain ⟨b2, hb2⟩ := print_tot (rd T00 x.1 (i : Int)).2.1 (⟨#[34]⟩ : ByteArray) (by omega)
      rw [hb2]
      simp only [Option.bind_some]
      refine Lp.bif (fun _ => Lp.bad (by decide)) fun _ => ?_
      have hl : (sliceOf x.1 0 (i : Int)).length = i := by unfold sliceOf; simp; omega
      rw [bt2 ⟨by omega, by omega⟩]
      refine Lp.loop (head13 x (rd T00 x.1 (i : Int)) x.1 (x.1.length : Int) (i : Int) (sliceOf x.1 0 (i : Int)) 9000 0 (by omega) (by omega) (by omega)) fun _ => ?_
      show Lp _ _ (l14_4 9000 j x x.1 (x.1.length : Int) (w64 ((i : Int) + 1)))
      rw [ws (by omega), e]
      exact head4 x hx j (i + 1) (by omega) (by omega)
    · rw [bf1 (show ¬ (i : Int) < x.1.length by omega)]
      exact .inl ⟨rfl, trivial⟩
/-- Tags, first comment and result: an answer; what is passed has few nodes. -/
theorem head_tot (x : RC) : Ans (x.2.2.1.length ≤ 200) (f14 9000 x) := by
  unfold f14
  by_cases c : (x.1.length : Int) > 10
  · rw [bt1 c]; exact Ans.bad (by decide)
  rw [bf1 c]
  by_cases c2 : (x.2.2.1.length : Int) > 200
  · rw [bt1 c2]; exact Ans.bad (by decide)
  rw [bf1 c2]
  refine Ans.loop (head4 x (by omega) 9000 0 (by omega) (by omega)) fun _ => ?_
  refine Ans.bif (fun _ => Ans.bad (by decide)) fun _ => Ans.bif (fun _ => Ans.bad (by decide)) fun _ => ?_
  refine Ans.call (comment_tot x.2.1) (fun _ => Ans.good (by omega)) (fun e he => Ans.bad he)
end Go.Proofs.Ytgglflagbbfalaa.G
