import Derived.Test.YtpnbiakaknbofaaGreatDoorTRun
namespace Go.Proofs.YtpnbiakaknbofaaGreatDoor.G
open Go.VM Go.Proofs
theorem wid {n : Int} (h : -9223372036854775808 ≤ n ∧ n ≤ 9223372036854775807) : w64 n = n := by
  unfold w64; rw [IntKind.wrap_i64]; omega
abbrev PS := List (Int × Int × Unit)
def good (ps : PS) (m : Nat) : Prop :=
  0 ≤ (rd ((0, 0, ()) : Int × Int × Unit) ps m).1 ∧ (rd ((0, 0, ()) : Int × Int × Unit) ps m).1 ≤ 400 ∧ 1 ≤ (rd ((0, 0, ()) : Int × Int × Unit) ps m).2.1 ∧ (rd ((0, 0, ()) : Int × Int × Unit) ps m).2.1 ≤ 100000000 ∧
  ((rd ((0, 0, ()) : Int × Int × Unit) ps m).1 = 0 ↔ (m : Int) = (ps.length : Int) - 1)
def goods (ps : PS) (i : Nat) : Prop := ∀ m, i ≤ m → m < ps.length → good ps m
theorem clk_l (k : Nat) (ps : PS) (inc dly : Int) (hl : ps.length ≤ 5) : ∀ (j i : Nat), i ≤ ps.length → ps.length < i + j →
    (∃ e, l66_6 k j (ps, inc, dly, ()) ps ps.length i = some (.inr (e, ())) ∧ e ≠ 0 ∧ ¬ goods ps i) ∨ (l66_6 k j (ps, inc, dly, ()) ps ps.length i = some (.inl ()) ∧ goods ps i)
  | 0, i, h, h' => by omega
  | j + 1, i, h, h' => by
    by_cases hi : i < ps.length
    · rw [l66_6]
      have e1 : w64 ((i : Int) + 1) = ((i + 1 : Nat) : Int) := by rw [wid (by omega)]; omega
      have e2 : w64 ((ps.length : Int) - 1) = (ps.length : Int) - 1 := wid (by omega)
      have hb1 : decide ((i : Int) < (ps.length : Int)) = true := decide_eq_true (by omega)
      have hb2 : decide (0 ≤ (i : Int)) = true := decide_eq_true (by omega)
      simp only [hb1, hb2, e1, e2, Bool.and_self, cond_true]
      have ih := clk_l k ps inc dly hl j (i + 1) (by omega) (by omega)
      by_cases g : good ps i
      · have g' := g
        obtain ⟨g1, g2, g3, g4, g5⟩ := g
        have c1 : decide ((rd ((0, 0, ()) : Int × Int × Unit) ps i).1 < 0) = false := decide_eq_false (by omega)
        have c2 : decide ((rd ((0, 0, ()) : Int × Int × Unit) ps i).1 > 400) = false := decide_eq_false (by omega)
        have c3 : decide ((rd ((0, 0, ()) : Int × Int × Unit) ps i).2.1 < 1) = false := decide_eq_false (by omega)
        have c4 : decide ((rd ((0, 0, ()) : Int × Int × Unit) ps i).2.1 > 100000000) = false := decide_eq_false (by omega)
        have c5 : (((rd ((0, 0, ()) : Int × Int × Unit) ps i).1 == 0) == ((i : Int) == ((ps.length : Int) - 1))) = true := by
          rw [Bool.beq_eq_decide_eq]
          simp only [decide_eq_true_eq]
          by_cases hz : (rd ((0, 0, ()) : Int × Int × Unit) ps i).1 = 0
          · have := g5.1 hz; rw [beq_iff_eq.2 hz, beq_iff_eq.2 this]
          · have := fun h => hz (g5.2 h)
            rw [beq_eq_false_iff_ne.2 hz, beq_eq_false_iff_ne.2 this]
        simp only [c1, c2, c3, c4, c5, cond_false, Bool.not_true]
        rcases ih with ⟨e, h1, h2, h3⟩ | ⟨h1, h2⟩
        · exact .inl ⟨e, h1, h2, fun hg => h3 (fun m hm hm' => hg m (by omega) hm')⟩
        · refine .inr ⟨h1, fun m hm hm' => ?_⟩
          by_cases hmi : m = i
          · subst hmi; exact g'
          · exact h2 m (by omega) hm'
      · left
        have hn : ¬ goods ps i := fun hg => g (hg i (Nat.le_refl _) hi)
        cases c1 : decide ((rd ((0, 0, ()) : Int × Int × Unit) ps i).1 < 0)
        rotate_left
        · exact ⟨4, by simp only [cond_true], by decide, hn⟩
        cases c2 : decide ((rd ((0, 0, ()) : Int × Int × Unit) ps i).1 > 400)
        rotate_left
        · exact ⟨4, by simp only [cond_true, cond_false], by decide, hn⟩
        cases c3 : decide ((rd ((0, 0, ()) : Int × Int × Unit) ps i).2.1 < 1)
        rotate_left
        · exact ⟨4, by simp only [cond_true, cond_false], by decide, hn⟩
        cases c4 : decide ((rd ((0, 0, ()) : Int × Int × Unit) ps i).2.1 > 100000000)
        rotate_left
        · exact ⟨4, by simp only [cond_true, cond_false], by decide, hn⟩
        cases c5 : (((rd ((0, 0, ()) : Int × Int × Unit) ps i).1 == 0) == ((i : Int) == ((ps.length : Int) - 1)))
        · exact ⟨3, by simp only [cond_true, cond_false, Bool.not_false], by decide, hn⟩
        · refine absurd ⟨?_, ?_, ?_, ?_, ?_⟩ g
          · have := of_decide_eq_false c1; omega
          · have := of_decide_eq_false c2; omega
          · have := of_decide_eq_false c3; omega
          · have := of_decide_eq_false c4; omega
          · have := eq_of_beq c5
            constructor
            · intro hz
              rw [beq_iff_eq.2 hz] at this
              exact eq_of_beq this.symm
            · intro hz
              rw [beq_iff_eq.2 hz] at this
              exact eq_of_beq this
    · right
      have hi : i = ps.length := by omega
      subst hi
      rw [l66_6]
      have hb : decide ((ps.length : Int) < (ps.length : Int)) = false := decide_eq_false (by omega)
      simp only [hb, cond_false]
      exact ⟨trivial, fun m h1 h2 => by omega⟩
def RuOK (ps : PS) (inc dly : Int) : Prop := 1 ≤ ps.length ∧ ps.length ≤ 5 ∧ 0 ≤ inc ∧ inc ≤ 100000000 ∧ 0 ≤ dly ∧ dly ≤ 100000000 ∧ goods ps 0
theorem clk_spec (ps : PS) (inc dly : Int) : (∃ e, f66 9000 (ps, inc, dly, ()) = some (e, ()) ∧ e ≠ 0 ∧ ¬ RuOK ps inc dly) ∨ (f66 9000 (ps, inc, dly, ()) = some (0, ()) ∧ RuOK ps inc dly) := by
  unfold f66
  simp only
  by_cases h1 : ps.length = 0
  · left; exact ⟨2, by simp [h1], by decide, fun h => by have := h.1; omega⟩
  have c1 : ((ps.length : Int) == 0) = false := beq_eq_false_iff_ne.2 (by omega)
  by_cases h2 : ps.length > 5
  · left; exact ⟨2, by simp only [c1, cond_false, decide_eq_true (show (ps.length : Int) > 5 by omega), cond_true], by decide, fun h => by have := h.2.1; omega⟩
  have c2 : decide ((ps.length : Int) > 5) = false := decide_eq_false (by omega)
  simp only [c1, c2, cond_false]
  by_cases h3 : (if dly < inc then dly else inc) < 0
  · left; exact ⟨4, by simp only [decide_eq_true h3, cond_true], by decide, fun h => by obtain ⟨_, _, a, b, c, d, _⟩ := h; split at h3 <;> omega⟩
  by_cases h4 : (if dly > inc then dly else inc) > 100000000
  · left; exact ⟨4, by simp only [decide_eq_false h3, decide_eq_true h4, cond_true, cond_false], by decide, fun h => by obtain ⟨_, _, a, b, c, d, _⟩ := h; split at h4 <;> omega⟩
  simp only [decide_eq_false h3, decide_eq_false h4, cond_false]
  have hb : 0 ≤ inc ∧ inc ≤ 100000000 ∧ 0 ≤ dly ∧ dly ≤ 100000000 := by
    split at h3 <;> split at h4 <;> omega
  rcases clk_l 9000 ps inc dly (by omega) 9000 0 (by omega) (by omega) with ⟨e, e1, e2, e3⟩ | ⟨e1, e2⟩
  · left
    refine ⟨e, ?_, e2, fun h => e3 h.2.2.2.2.2.2⟩
    rw [show ((0 : Nat) : Int) = 0 from rfl] at e1
    simp only [e1, Option.bind_some, Sum.elim_inr]
  · right
    refine ⟨?_, by omega, by omega, hb.1, hb.2.1, hb.2.2.1, hb.2.2.2, e2⟩
    rw [show ((0 : Nat) : Int) = 0 from rfl] at e1
    simp only [e1, Option.bind_some, Sum.elim_inl]
abbrev CL := (Int × Int × Unit) × (Int × Int × Unit) × (Int × Int × Unit) × Int × Int × Bool × Int × Unit
abbrev Z : CL := ((0, 0, ()), (0, 0, ()), (0, 0, ()), 0, 0, false, 0, ())
def ClOK (ps : PS) (l0 l1 m0 m1 p0 p1 turn since fallen : Int) : Prop :=
  0 ≤ turn ∧ turn ≤ 1 ∧ -1 ≤ fallen ∧ fallen ≤ 1 ∧ 0 ≤ since ∧ since ≤ 100000000 ∧
  (0 ≤ p0 ∧ p0 < ps.length ∧ 0 ≤ m0 ∧ m0 ≤ 400 ∧ 0 ≤ l0 ∧ l0 ≤ 100000000000) ∧ (0 ≤ p1 ∧ p1 < ps.length ∧ 0 ≤ m1 ∧ m1 ≤ 400 ∧ 0 ≤ l1 ∧ l1 ≤ 100000000000)
theorem val_spec (ps : PS) (inc dly l0 l1 m0 m1 p0 p1 turn since : Int) (stopped : Bool) (fallen : Int) :
    (∃ e, f96 9000 (ps, inc, dly, ()) ((l0, l1, ()), (m0, m1, ()), (p0, p1, ()), turn, since, stopped, fallen, ()) = some (e, ()) ∧ e ≠ 0 ∧ ¬ (RuOK ps inc dly ∧ ClOK ps l0 l1 m0 m1 p0 p1 turn since fallen)) ∨
    (f96 9000 (ps, inc, dly, ()) ((l0, l1, ()), (m0, m1, ()), (p0, p1, ()), turn, since, stopped, fallen, ()) = some (0, ()) ∧ RuOK ps inc dly ∧ ClOK ps l0 l1 m0 m1 p0 p1 turn since fallen) := by
  unfold f96
  rcases clk_spec ps inc dly with ⟨e, e1, e2, e3⟩ | ⟨e1, e2⟩
  · left
    exact ⟨e, by simp only [e1, Option.bind_some, bne_iff_ne.2 e2, cond_true], e2, fun h => e3 h.1⟩
  · simp only [e1, Option.bind_some, show ((0 : Int) != 0) = false from rfl, cond_false]
    simp only [Bool.cond_decide]
    by_cases hc : ClOK ps l0 l1 m0 m1 p0 p1 turn since fallen
    · right
      refine ⟨?_, e2, hc⟩
      obtain ⟨_, _, _, _, _, _, ⟨_, _, _, _, _, _⟩, _, _, _, _, _, _⟩ := hc
      repeat rw [if_neg (by omega)]
    · left
      refine ⟨4, ?_, by decide, fun h => hc h.2⟩
      unfold ClOK at hc
      iterate 18 refine iteR (fun _ => rfl) (fun _ => ?_)
      exact absurd (by omega) hc
def usd (dly since : Int) (stopped : Bool) (now : Int) : Int := if stopped then 0 else if now - since - dly > 0 then now - since - dly else 0
theorem used_spec (ps : PS) (inc dly : Int) (l m p : Int × Int × Unit) (turn since : Int) (stopped : Bool) (fallen now : Int) (h1 : 0 ≤ dly) (h2 : dly ≤ 100000000) (h3 : 0 ≤ since) (h4 : since ≤ now) (h5 : now ≤ 100000000) :
    f63 9000 (ps, inc, dly, ()) (l, m, p, turn, since, stopped, fallen, ()) now = some (usd dly since stopped now, ()) := by
  unfold f63 usd
  simp only
  cases stopped
  · rw [wid (n := now - since) (by omega), wid (by omega)]; rfl
  · rfl
def lft (l0 l1 p : Int) : Int := if p = 0 then l0 else l1
def lk (dly l0 l1 : Int) (m p : Int × Int × Unit) (turn since : Int) (stopped : Bool) (fallen now : Int) : CL :=
  if fallen < 0 ∧ usd dly since stopped now > lft l0 l1 turn then ((if turn = 0 then 0 else l0, if turn = 0 then l1 else 0, ()), m, p, turn, since, stopped, turn, ())
  else ((l0, l1, ()), m, p, turn, since, stopped, fallen, ())
theorem look_spec (ps : PS) (inc dly l0 l1 m0 m1 p0 p1 turn since : Int) (stopped : Bool) (fallen now : Int) :
    (∃ e, f60 9000 (ps, inc, dly, ()) ((l0, l1, ()), (m0, m1, ()), (p0, p1, ()), turn, since, stopped, fallen, ()) now = some (Z, e, ()) ∧ e ≠ 0 ∧ ¬ (RuOK ps inc dly ∧ ClOK ps l0 l1 m0 m1 p0 p1 turn since fallen ∧ since ≤ now ∧ now ≤ 100000000)) ∨
    (f60 9000 (ps, inc, dly, ()) ((l0, l1, ()), (m0, m1, ()), (p0, p1, ()), turn, since, stopped, fallen, ()) now = some (lk dly l0 l1 (m0, m1, ()) (p0, p1, ()) turn since stopped fallen now, 0, ()) ∧ RuOK ps inc dly ∧ ClOK ps l0 l1 m0 m1 p0 p1 turn since fallen ∧ since ≤ now ∧ now ≤ 100000000) := by
  unfold f60
  rcases val_spec ps inc dly l0 l1 m0 m1 p0 p1 turn since stopped fallen with ⟨e, e1, e2, e3⟩ | ⟨e1, e2, e3⟩
  · left
    exact ⟨e, by simp only [e1, Option.bind_some, bne_iff_ne.2 e2, cond_true], e2, fun h => e3 ⟨h.1, h.2.1⟩⟩
  · simp only [e1, Option.bind_some, show ((0 : Int) != 0) = false from rfl, cond_false]
    by_cases a1 : now < since
    · left; exact ⟨11, by simp only [decide_eq_true a1, cond_true], by decide, fun h => by omega⟩
    by_cases a2 : now > 100000000
    · left; exact ⟨11, by simp only [decide_eq_false a1, decide_eq_true a2, cond_true, cond_false], by decide, fun h => by omega⟩
    right
    refine ⟨?_, e2, e3, by omega, by omega⟩
    obtain ⟨r1, r2, r3, r4, r5, r6, _⟩ := e2
    obtain ⟨t0, t1, _, _, s0, s1, _, _⟩ := e3
    simp only [decide_eq_false a1, decide_eq_false a2, cond_false, used_spec ps inc dly (l0, l1, ()) (m0, m1, ()) (p0, p1, ()) turn since stopped fallen now r5 r6 s0 (by omega) (by omega), Option.bind_some]
    unfold lk lft
    by_cases b1 : fallen < 0
    · simp only [decide_eq_true b1, cond_true]
      rcases (show turn = 0 ∨ turn = 1 by omega) with rfl | rfl
      · simp only [show ((0 : Int) == 0) = true from rfl, cond_true, if_true]
        by_cases b2 : usd dly since stopped now > l0
        · rw [if_pos ⟨b1, b2⟩, decide_eq_true b2]; rfl
        · rw [if_neg (fun h => b2 h.2), decide_eq_false b2]; rfl
      · simp only [show ((1 : Int) == 0) = false from rfl, show ((1 : Int) == 1) = true from rfl, cond_true, cond_false, show ((1 : Int) = 0) = False from by simp, if_false]
        by_cases b2 : usd dly since stopped now > l1
        · rw [if_pos ⟨b1, b2⟩, decide_eq_true b2]; rfl
        · rw [if_neg (fun h => b2 h.2), decide_eq_false b2]; rfl
    · rw [if_neg (fun h => b1 h.1), decide_eq_false b1]; rfl
def Is {α : Type} (v : Option α) : Prop := ∃ x, v = some x
theorem Is.mk {α : Type} (x : α) : Is (some x) := ⟨x, rfl⟩
theorem Is.bif {α : Type} {b : Bool} {x y : Option α} (h1 : b = true → Is x) (h2 : b = false → Is y) : Is (bif b then x else y) := by
  cases b
  · exact h2 rfl
  · exact h1 rfl
theorem Is.bind {α β : Type} {v : Option α} {f : α → Option β} (h : Is v) (hf : ∀ x, v = some x → Is (f x)) : Is (v.bind f) := by
  obtain ⟨x, rfl⟩ := h
  exact hf x rfl
theorem start_tot (cr : PS × Int × Int × Unit) (now : Int) : ∃ c e, f31 9000 cr now = some (c, e, ()) := by
  obtain ⟨ps, inc, dly, _⟩ := cr
  unfold f31
  rcases clk_spec ps inc dly with ⟨e, h, he, _⟩ | ⟨h, hr⟩
  · rw [h, Option.bind_some]
    simp only [bne_iff_ne.2 he, cond_true]
    exact ⟨_, _, rfl⟩
  · rw [h, Option.bind_some]
    simp only [show ((0 : Int) != 0) = false from rfl, cond_false]
    by_cases h1 : now < 0
    · rw [bt1 h1]; exact ⟨_, _, rfl⟩
    · rw [bf1 h1]
      by_cases h2 : now > 100000000
      · rw [bt1 h2]; exact ⟨_, _, rfl⟩
      · rw [bf1 h2, bt1 (by have := hr.1; omega)]
        exact ⟨_, _, rfl⟩
end Go.Proofs.YtpnbiakaknbofaaGreatDoor.G
namespace Go.Proofs.YtpnbiakaknbofaaGreatDoor.G
open Go.VM Go.Proofs
abbrev OF := (Int × Int × Unit) × ((Int × Int × Unit) × (Int × Int × Unit) × Unit) × Unit
end Go.Proofs.YtpnbiakaknbofaaGreatDoor.G
