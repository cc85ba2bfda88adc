/- The clock laws, as plain facts about the plain functions. -/
import Derived.Test.YtfalgaldkadgoaaGClock
namespace Go.Proofs.Ytfalgaldkadgoaa.G
open Go.VM Go.Proofs

theorem wid {n : Int} (h : -9223372036854775808 ≤ n ∧ n ≤ 9223372036854775807) : w64 n = n := by
  unfold w64; rw [IntKind.wrap_i64]; omega

theorem iteR {α : Type} {c : Prop} [Decidable c] {a b r : α} (h1 : c → a = r) (h2 : ¬ c → b = r) : (if c then a else b) = r := by
  split
  · exact h1 ‹_›
  · exact h2 ‹_›
abbrev PS := List (Int × Int × Unit)
/-- A period's entry is well formed. -/
def good (ps : PS) (m : Nat) : Prop :=
  0 ≤ (rd ((0, 0, ()) : Int × Int × Unit) ps m).1 ∧ (rd ((0, 0, ()) : Int × Int × Unit) ps m).1 ≤ 400 ∧ 1 ≤ (rd ((0, 0, ()) : Int × Int × Unit) ps m).2.1 ∧ (rd ((0, 0, ()) : Int × Int × Unit) ps m).2.1 ≤ 100000000 ∧
  ((rd ((0, 0, ()) : Int × Int × Unit) ps m).1 = 0 ↔ (m : Int) = (ps.length : Int) - 1)
def goods (ps : PS) (i : Nat) : Prop := ∀ m, i ≤ m → m < ps.length → good ps m

theorem l60_spec (k : Nat) (ps : PS) (inc dly : Int) (hl : ps.length ≤ 5) : ∀ (j i : Nat), i ≤ ps.length → ps.length < i + j →
    (∃ e, l60_6 k j (ps, inc, dly, ()) ps ps.length i = some (.inr (e, ())) ∧ e ≠ 0 ∧ ¬ goods ps i) ∨ (l60_6 k j (ps, inc, dly, ()) ps ps.length i = some (.inl ()) ∧ goods ps i)
  | 0, i, h, h' => by omega
  | j + 1, i, h, h' => by
    by_cases hi : i < ps.length
    · rw [l60_6]
      have e1 : w64 ((i : Int) + 1) = ((i + 1 : Nat) : Int) := by rw [wid (by omega)]; omega
      have e2 : w64 ((ps.length : Int) - 1) = (ps.length : Int) - 1 := wid (by omega)
      have hb1 : decide ((i : Int) < (ps.length : Int)) = true := decide_eq_true (by omega)
      have hb2 : decide (0 ≤ (i : Int)) = true := decide_eq_true (by omega)
      simp only [hb1, hb2, e1, e2, Bool.and_self, cond_true]
      have ih := l60_spec k ps inc dly hl j (i + 1) (by omega) (by omega)
      by_cases g : good ps i
      · have g' := g
        obtain ⟨g1, g2, g3, g4, g5⟩ := g
        have c1 : decide ((rd ((0, 0, ()) : Int × Int × Unit) ps i).1 < 0) = false := decide_eq_false (by omega)
        have c2 : decide ((rd ((0, 0, ()) : Int × Int × Unit) ps i).1 > 400) = false := decide_eq_false (by omega)
        have c3 : decide ((rd ((0, 0, ()) : Int × Int × Unit) ps i).2.1 < 1) = false := decide_eq_false (by omega)
        have c4 : decide ((rd ((0, 0, ()) : Int × Int × Unit) ps i).2.1 > 100000000) = false := decide_eq_false (by omega)
        have c5 : (((rd ((0, 0, ()) : Int × Int × Unit) ps i).1 == 0) == ((i : Int) == ((ps.length : Int) - 1))) = true := by
          rw [Bool.beq_eq_decide_eq]
          simp only [decide_eq_true_eq]
          by_cases hz : (rd ((0, 0, ()) : Int × Int × Unit) ps i).1 = 0
          · have := g5.1 hz; rw [beq_iff_eq.2 hz, beq_iff_eq.2 this]
          · have := fun h => hz (g5.2 h)
            rw [beq_eq_false_iff_ne.2 hz, beq_eq_false_iff_ne.2 this]
        simp only [c1, c2, c3, c4, c5, cond_false, Bool.not_true]
        rcases ih with ⟨e, h1, h2, h3⟩ | ⟨h1, h2⟩
        · exact .inl ⟨e, h1, h2, fun hg => h3 (fun m hm hm' => hg m (by omega) hm')⟩
        · refine .inr ⟨h1, fun m hm hm' => ?_⟩
          by_cases hmi : m = i
          · subst hmi; exact g'
          · exact h2 m (by omega) hm'
      · left
        have hn : ¬ goods ps i := fun hg => g (hg i (Nat.le_refl _) hi)
        cases c1 : decide ((rd ((0, 0, ()) : Int × Int × Unit) ps i).1 < 0)
        rotate_left
        · exact ⟨4, by simp only [cond_true], by decide, hn⟩
        cases c2 : decide ((rd ((0, 0, ()) : Int × Int × Unit) ps i).1 > 400)
        rotate_left
        · exact ⟨4, by simp only [cond_true, cond_false], by decide, hn⟩
        cases c3 : decide ((rd ((0, 0, ()) : Int × Int × Unit) ps i).2.1 < 1)
        rotate_left
        · exact ⟨4, by simp only [cond_true, cond_false], by decide, hn⟩
        cases c4 : decide ((rd ((0, 0, ()) : Int × Int × Unit) ps i).2.1 > 100000000)
        rotate_left
        · exact ⟨4, by simp only [cond_true, cond_false], by decide, hn⟩
        cases c5 : (((rd ((0, 0, ()) : Int × Int × Unit) ps i).1 == 0) == ((i : Int) == ((ps.length : Int) - 1)))
        · exact ⟨3, by simp only [cond_true, cond_false, Bool.not_false], by decide, hn⟩
        · refine absurd ⟨?_, ?_, ?_, ?_, ?_⟩ g
          · have := of_decide_eq_false c1; omega
          · have := of_decide_eq_false c2; omega
          · have := of_decide_eq_false c3; omega
          · have := of_decide_eq_false c4; omega
          · have := eq_of_beq c5
            constructor
            · intro hz
              rw [beq_iff_eq.2 hz] at this
              exact eq_of_beq this.symm
            · intro hz
              rw [beq_iff_eq.2 hz] at this
              exact eq_of_beq this
    · right
      have hi : i = ps.length := by omega
      subst hi
      rw [l60_6]
      have hb : decide ((ps.length : Int) < (ps.length : Int)) = false := decide_eq_false (by omega)
      simp only [hb, cond_false]
      exact ⟨trivial, fun m h1 h2 => by omega⟩

/-- A rule of time is well formed. -/
def RuOK (ps : PS) (inc dly : Int) : Prop := 1 ≤ ps.length ∧ ps.length ≤ 5 ∧ 0 ≤ inc ∧ inc ≤ 100000000 ∧ 0 ≤ dly ∧ dly ≤ 100000000 ∧ goods ps 0

theorem f60_spec (ps : PS) (inc dly : Int) : (∃ e, f60 100 (ps, inc, dly, ()) = some (e, ()) ∧ e ≠ 0 ∧ ¬ RuOK ps inc dly) ∨ (f60 100 (ps, inc, dly, ()) = some (0, ()) ∧ RuOK ps inc dly) := by
  unfold f60
  simp only
  by_cases h1 : ps.length = 0
  · left; exact ⟨2, by simp [h1], by decide, fun h => by have := h.1; omega⟩
  have c1 : ((ps.length : Int) == 0) = false := beq_eq_false_iff_ne.2 (by omega)
  by_cases h2 : ps.length > 5
  · left; exact ⟨2, by simp only [c1, cond_false, decide_eq_true (show (ps.length : Int) > 5 by omega), cond_true], by decide, fun h => by have := h.2.1; omega⟩
  have c2 : decide ((ps.length : Int) > 5) = false := decide_eq_false (by omega)
  simp only [c1, c2, cond_false]
  by_cases h3 : (if dly < inc then dly else inc) < 0
  · left; exact ⟨4, by simp only [decide_eq_true h3, cond_true], by decide, fun h => by obtain ⟨_, _, a, b, c, d, _⟩ := h; split at h3 <;> omega⟩
  by_cases h4 : (if dly > inc then dly else inc) > 100000000
  · left; exact ⟨4, by simp only [decide_eq_false h3, decide_eq_true h4, cond_true, cond_false], by decide, fun h => by obtain ⟨_, _, a, b, c, d, _⟩ := h; split at h4 <;> omega⟩
  simp only [decide_eq_false h3, decide_eq_false h4, cond_false]
  have hb : 0 ≤ inc ∧ inc ≤ 100000000 ∧ 0 ≤ dly ∧ dly ≤ 100000000 := by
    split at h3 <;> split at h4 <;> omega
  rcases l60_spec 100 ps inc dly (by omega) 100 0 (by omega) (by omega) with ⟨e, e1, e2, e3⟩ | ⟨e1, e2⟩
  · left
    refine ⟨e, ?_, e2, fun h => e3 h.2.2.2.2.2.2⟩
    rw [show ((0 : Nat) : Int) = 0 from rfl] at e1
    simp only [e1, Option.bind_some, Sum.elim_inr]
  · right
    refine ⟨?_, by omega, by omega, hb.1, hb.2.1, hb.2.2.1, hb.2.2.2, e2⟩
    rw [show ((0 : Nat) : Int) = 0 from rfl] at e1
    simp only [e1, Option.bind_some, Sum.elim_inl]

abbrev CL := (Int × Int × Unit) × (Int × Int × Unit) × (Int × Int × Unit) × Int × Int × Bool × Int × Unit
abbrev Z : CL := ((0, 0, ()), (0, 0, ()), (0, 0, ()), 0, 0, false, 0, ())
/-- A clock is well formed. -/
def ClOK (ps : PS) (l0 l1 m0 m1 p0 p1 turn since fallen : Int) : Prop :=
  0 ≤ turn ∧ turn ≤ 1 ∧ -1 ≤ fallen ∧ fallen ≤ 1 ∧ 0 ≤ since ∧ since ≤ 100000000 ∧
  (0 ≤ p0 ∧ p0 < ps.length ∧ 0 ≤ m0 ∧ m0 ≤ 400 ∧ 0 ≤ l0 ∧ l0 ≤ 100000000000) ∧ (0 ≤ p1 ∧ p1 < ps.length ∧ 0 ≤ m1 ∧ m1 ≤ 400 ∧ 0 ≤ l1 ∧ l1 ≤ 100000000000)

theorem f49_spec (ps : PS) (inc dly l0 l1 m0 m1 p0 p1 turn since : Int) (stopped : Bool) (fallen : Int) :
    (∃ e, f49 100 (ps, inc, dly, ()) ((l0, l1, ()), (m0, m1, ()), (p0, p1, ()), turn, since, stopped, fallen, ()) = some (e, ()) ∧ e ≠ 0 ∧ ¬ (RuOK ps inc dly ∧ ClOK ps l0 l1 m0 m1 p0 p1 turn since fallen)) ∨
    (f49 100 (ps, inc, dly, ()) ((l0, l1, ()), (m0, m1, ()), (p0, p1, ()), turn, since, stopped, fallen, ()) = some (0, ()) ∧ RuOK ps inc dly ∧ ClOK ps l0 l1 m0 m1 p0 p1 turn since fallen) := by
  unfold f49
  rcases f60_spec ps inc dly with ⟨e, e1, e2, e3⟩ | ⟨e1, e2⟩
  · left
    exact ⟨e, by simp only [e1, Option.bind_some, bne_iff_ne.2 e2, cond_true], e2, fun h => e3 h.1⟩
  · simp only [e1, Option.bind_some, show ((0 : Int) != 0) = false from rfl, cond_false]
    simp only [Bool.cond_decide]
    by_cases hc : ClOK ps l0 l1 m0 m1 p0 p1 turn since fallen
    · right
      refine ⟨?_, e2, hc⟩
      obtain ⟨_, _, _, _, _, _, ⟨_, _, _, _, _, _⟩, _, _, _, _, _, _⟩ := hc
      repeat rw [if_neg (by omega)]
    · left
      refine ⟨4, ?_, by decide, fun h => hc h.2⟩
      unfold ClOK at hc
      iterate 18 refine iteR (fun _ => rfl) (fun _ => ?_)
      exact absurd (by omega) hc

/-- The time that counts. -/
def usd (dly since : Int) (stopped : Bool) (now : Int) : Int := if stopped then 0 else if now - since - dly > 0 then now - since - dly else 0
theorem f45_spec (ps : PS) (inc dly : Int) (l m p : Int × Int × Unit) (turn since : Int) (stopped : Bool) (fallen now : Int) (h1 : 0 ≤ dly) (h2 : dly ≤ 100000000) (h3 : 0 ≤ since) (h4 : since ≤ now) (h5 : now ≤ 100000000) :
    f45 100 (ps, inc, dly, ()) (l, m, p, turn, since, stopped, fallen, ()) now = some (usd dly since stopped now, ()) := by
  unfold f45 usd
  simp only
  cases stopped
  · rw [wid (n := now - since) (by omega), wid (by omega)]; rfl
  · rfl
theorem usd_le {dly since : Int} {stopped : Bool} {now : Int} (h1 : 0 ≤ dly) (h4 : since ≤ now) : 0 ≤ usd dly since stopped now ∧ usd dly since stopped now ≤ now - since := by
  unfold usd; split
  · omega
  · split <;> omega

def lft (l0 l1 p : Int) : Int := if p = 0 then l0 else l1
/-- The clock at a time. -/
def lk (dly l0 l1 : Int) (m p : Int × Int × Unit) (turn since : Int) (stopped : Bool) (fallen now : Int) : CL :=
  if fallen < 0 ∧ usd dly since stopped now > lft l0 l1 turn then ((if turn = 0 then 0 else l0, if turn = 0 then l1 else 0, ()), m, p, turn, since, stopped, turn, ())
  else ((l0, l1, ()), m, p, turn, since, stopped, fallen, ())

theorem f28_spec (ps : PS) (inc dly l0 l1 m0 m1 p0 p1 turn since : Int) (stopped : Bool) (fallen now : Int) :
    (∃ e, f28 100 (ps, inc, dly, ()) ((l0, l1, ()), (m0, m1, ()), (p0, p1, ()), turn, since, stopped, fallen, ()) now = some (Z, e, ()) ∧ e ≠ 0 ∧ ¬ (RuOK ps inc dly ∧ ClOK ps l0 l1 m0 m1 p0 p1 turn since fallen ∧ since ≤ now ∧ now ≤ 100000000)) ∨
    (f28 100 (ps, inc, dly, ()) ((l0, l1, ()), (m0, m1, ()), (p0, p1, ()), turn, since, stopped, fallen, ()) now = some (lk dly l0 l1 (m0, m1, ()) (p0, p1, ()) turn since stopped fallen now, 0, ()) ∧ RuOK ps inc dly ∧ ClOK ps l0 l1 m0 m1 p0 p1 turn since fallen ∧ since ≤ now ∧ now ≤ 100000000) := by
  unfold f28
  rcases f49_spec ps inc dly l0 l1 m0 m1 p0 p1 turn since stopped fallen with ⟨e, e1, e2, e3⟩ | ⟨e1, e2, e3⟩
  · left
    exact ⟨e, by simp only [e1, Option.bind_some, bne_iff_ne.2 e2, cond_true], e2, fun h => e3 ⟨h.1, h.2.1⟩⟩
  · simp only [e1, Option.bind_some, show ((0 : Int) != 0) = false from rfl, cond_false]
    by_cases a1 : now < since
    · left; exact ⟨11, by simp only [decide_eq_true a1, cond_true], by decide, fun h => by omega⟩
    by_cases a2 : now > 100000000
    · left; exact ⟨11, by simp only [decide_eq_false a1, decide_eq_true a2, cond_true, cond_false], by decide, fun h => by omega⟩
    right
    refine ⟨?_, e2, e3, by omega, by omega⟩
    obtain ⟨r1, r2, r3, r4, r5, r6, _⟩ := e2
    obtain ⟨t0, t1, _, _, s0, s1, _, _⟩ := e3
    simp only [decide_eq_false a1, decide_eq_false a2, cond_false, f45_spec ps inc dly (l0, l1, ()) (m0, m1, ()) (p0, p1, ()) turn since stopped fallen now r5 r6 s0 (by omega) (by omega), Option.bind_some]
    unfold lk lft
    by_cases b1 : fallen < 0
    · simp only [decide_eq_true b1, cond_true]
      rcases (show turn = 0 ∨ turn = 1 by omega) with rfl | rfl
      · simp only [show ((0 : Int) == 0) = true from rfl, cond_true, if_true]
        by_cases b2 : usd dly since stopped now > l0
        · rw [if_pos ⟨b1, b2⟩, decide_eq_true b2]; rfl
        · rw [if_neg (fun h => b2 h.2), decide_eq_false b2]; rfl
      · simp only [show ((1 : Int) == 0) = false from rfl, show ((1 : Int) == 1) = true from rfl, cond_true, cond_false, show ((1 : Int) = 0) = False from by simp, if_false]
        by_cases b2 : usd dly since stopped now > l1
        · rw [if_pos ⟨b1, b2⟩, decide_eq_true b2]; rfl
        · rw [if_neg (fun h => b2 h.2), decide_eq_false b2]; rfl
    · rw [if_neg (fun h => b1 h.1), decide_eq_false b1]; rfl

/-- The time left. -/
def lv (dly l0 l1 turn since : Int) (stopped : Bool) (fallen player now : Int) : Int :=
  if fallen < 0 ∧ usd dly since stopped now > lft l0 l1 turn then (if player = turn then 0 else lft l0 l1 player)
  else if fallen ≥ 0 ∨ player ≠ turn then lft l0 l1 player else lft l0 l1 player - usd dly since stopped now

theorem f21_bad (k : Nat) (x0 : PS × Int × Int × Unit) (x1 : CL) (player now : Int) (h : player < 0 ∨ player > 1) : f21 k x0 x1 player now = some (0, 1, ()) := by
  unfold f21
  by_cases h1 : player < 0
  · simp only [decide_eq_true h1, cond_true]
  · simp only [decide_eq_false h1, decide_eq_true (show player > 1 by omega), cond_true, cond_false]

theorem f21_spec (ps : PS) (inc dly l0 l1 m0 m1 p0 p1 turn since : Int) (stopped : Bool) (fallen player now : Int) (hp : 0 ≤ player ∧ player ≤ 1) :
    (∃ e, f21 100 (ps, inc, dly, ()) ((l0, l1, ()), (m0, m1, ()), (p0, p1, ()), turn, since, stopped, fallen, ()) player now = some (0, e, ()) ∧ e ≠ 0 ∧ ¬ (RuOK ps inc dly ∧ ClOK ps l0 l1 m0 m1 p0 p1 turn since fallen ∧ since ≤ now ∧ now ≤ 100000000)) ∨
    (f21 100 (ps, inc, dly, ()) ((l0, l1, ()), (m0, m1, ()), (p0, p1, ()), turn, since, stopped, fallen, ()) player now = some (lv dly l0 l1 turn since stopped fallen player now, 0, ()) ∧ RuOK ps inc dly ∧ ClOK ps l0 l1 m0 m1 p0 p1 turn since fallen ∧ since ≤ now ∧ now ≤ 100000000) := by
  unfold f21
  simp only [decide_eq_false (show ¬ player < 0 by omega), decide_eq_false (show ¬ player > 1 by omega), cond_false]
  rcases f28_spec ps inc dly l0 l1 m0 m1 p0 p1 turn since stopped fallen now with ⟨e, e1, e2, e3⟩ | ⟨e1, e2, e3, e4, e5⟩
  · left
    exact ⟨e, by simp only [e1, Option.bind_some, bne_iff_ne.2 e2, cond_true], e2, e3⟩
  · right
    refine ⟨?_, e2, e3, e4, e5⟩
    obtain ⟨r1, r2, r3, r4, r5, r6, _⟩ := e2
    obtain ⟨t0, t1, _, _, s0, s1, ⟨_, _, _, _, _, _⟩, _, _, _, _, _, _⟩ := e3
    have hu := usd_le (stopped := stopped) r5 e4
    simp only [e1, Option.bind_some, show ((0 : Int) != 0) = false from rfl, cond_false]
    unfold lk lv
    by_cases b1 : fallen < 0 ∧ usd dly since stopped now > lft l0 l1 turn
    · simp only [if_pos b1]
      rw [decide_eq_true (show turn ≥ 0 by omega)]
      simp only [cond_true]
      rcases (show turn = 0 ∨ turn = 1 by omega) with rfl | rfl <;> rcases (show player = 0 ∨ player = 1 by omega) with rfl | rfl <;> rfl
    · simp only [if_neg b1]
      by_cases b2 : fallen ≥ 0
      · rw [decide_eq_true b2, if_pos (.inl b2)]
        simp only [cond_true]
        rcases (show player = 0 ∨ player = 1 by omega) with rfl | rfl <;> rfl
      · rw [decide_eq_false b2]
        simp only [cond_false]
        have f45' := f45_spec ps inc dly (l0, l1, ()) (m0, m1, ()) (p0, p1, ()) turn since stopped fallen now r5 r6 s0 e4 e5
        by_cases b3 : player = turn
        · subst b3
          rw [bne_self_eq_false, if_neg (by omega)]
          rcases (show player = 0 ∨ player = 1 by omega) with rfl | rfl
          · simp only [show ((0 : Int) == 0) = true from rfl, cond_true, cond_false, f45', Option.bind_some]
            rw [wid (by omega)]; rfl
          · simp only [show ((1 : Int) == 0) = false from rfl, show ((1 : Int) == 1) = true from rfl, cond_true, cond_false, f45', Option.bind_some]
            rw [wid (by omega)]; rfl
        · rw [bne_iff_ne.2 b3, if_pos (.inr b3)]
          simp only [cond_true]
          rcases (show player = 0 ∨ player = 1 by omega) with rfl | rfl <;> rfl

theorem f20_pure : f20 100 = some (true, ()) := by
  unfold f20 f44
  simp only [Option.bind_some]
  unfold f43
  rcases f60_spec [(0, 60000, ())] 1000 0 with ⟨e, e1, e2, e3⟩ | ⟨e1, e2⟩
  · refine absurd ?_ e3
    refine ⟨by decide, by decide, by decide, by decide, by decide, by decide, fun m _ hm => ?_⟩
    have : m = 0 := by simp at hm; omega
    subst this
    unfold good
    decide
  · simp only [e1, Option.bind_some]
    rfl

theorem lv_nonneg {dly l0 l1 turn since : Int} {stopped : Bool} {fallen player now : Int} (h0 : 0 ≤ l0) (h1 : 0 ≤ l1) : 0 ≤ lv dly l0 l1 turn since stopped fallen player now := by
  have hl : ∀ p, 0 ≤ lft l0 l1 p := fun p => by unfold lft; split <;> omega
  unfold lv
  split
  · split
    · omega
    · exact hl _
  · rename_i h
    split
    · exact hl _
    · have := hl player
      rename_i h2
      have h3 : player = turn := by omega
      subst h3
      omega
theorem usd_mono {dly since : Int} {stopped : Bool} {a b : Int} (h : a ≤ b) : usd dly since stopped a ≤ usd dly since stopped b := by
  unfold usd; split
  · omega
  · split <;> split <;> omega
theorem lv_mono {dly l0 l1 turn since : Int} {stopped : Bool} {fallen a b : Int} (h0 : 0 ≤ l0) (h1 : 0 ≤ l1) (h : a ≤ b) (hd : 0 ≤ dly) (hs : since ≤ a) : lv dly l0 l1 turn since stopped fallen turn b ≤ lv dly l0 l1 turn since stopped fallen turn a := by
  have hl : 0 ≤ lft l0 l1 turn := by unfold lft; split <;> omega
  have := usd_mono (dly := dly) (since := since) (stopped := stopped) h
  have := usd_le (dly := dly) (since := since) (stopped := stopped) hd hs
  unfold lv
  rw [if_pos rfl]
  split <;> split <;> (try split) <;> (try split) <;> omega
theorem lv_other {dly l0 l1 turn since : Int} {stopped : Bool} {fallen player a b : Int} (h : player ≠ turn) : lv dly l0 l1 turn since stopped fallen player b = lv dly l0 l1 turn since stopped fallen player a := by
  have h' : fallen ≥ 0 ∨ player ≠ turn := .inr h
  simp only [lv, if_neg h, if_pos h', ite_self]

theorem f21_total (ps : PS) (inc dly l0 l1 m0 m1 p0 p1 turn since : Int) (stopped : Bool) (fallen player now : Int) :
    ∃ v e, f21 100 (ps, inc, dly, ()) ((l0, l1, ()), (m0, m1, ()), (p0, p1, ()), turn, since, stopped, fallen, ()) player now = some (v, e, ()) := by
  by_cases hp : 0 ≤ player ∧ player ≤ 1
  · rcases f21_spec ps inc dly l0 l1 m0 m1 p0 p1 turn since stopped fallen player now hp with ⟨e, h, _⟩ | ⟨h, _⟩
    · exact ⟨_, _, h⟩
    · exact ⟨_, _, h⟩
  · exact ⟨_, _, f21_bad _ _ _ _ _ (by omega)⟩

theorem later_core (ps : PS) (inc dly l0 l1 m0 m1 p0 p1 turn since : Int) (stopped : Bool) (fallen a b : Int) (hab : a ≤ b) :
    ∃ v1 e1 v2 e2 v3 e3 v4 e4, f21 100 (ps, inc, dly, ()) ((l0, l1, ()), (m0, m1, ()), (p0, p1, ()), turn, since, stopped, fallen, ()) turn a = some (v1, e1, ()) ∧
      f21 100 (ps, inc, dly, ()) ((l0, l1, ()), (m0, m1, ()), (p0, p1, ()), turn, since, stopped, fallen, ()) turn b = some (v2, e2, ()) ∧
      f21 100 (ps, inc, dly, ()) ((l0, l1, ()), (m0, m1, ()), (p0, p1, ()), turn, since, stopped, fallen, ()) (w64 (1 - turn)) a = some (v3, e3, ()) ∧
      f21 100 (ps, inc, dly, ()) ((l0, l1, ()), (m0, m1, ()), (p0, p1, ()), turn, since, stopped, fallen, ()) (w64 (1 - turn)) b = some (v4, e4, ()) ∧
      ((e1 ≠ 0 ∧ v1 = 0) ∨ (e1 = 0 ∧ e2 ≠ 0 ∧ v2 = 0) ∨ (e1 = 0 ∧ e2 = 0 ∧ e3 = 0 ∧ e4 = 0 ∧ v1 ≥ v2 ∧ v2 ≥ 0 ∧ v3 = v4)) := by
  obtain ⟨v3, e3, h3⟩ := f21_total ps inc dly l0 l1 m0 m1 p0 p1 turn since stopped fallen (w64 (1 - turn)) a
  obtain ⟨v4, e4, h4⟩ := f21_total ps inc dly l0 l1 m0 m1 p0 p1 turn since stopped fallen (w64 (1 - turn)) b
  obtain ⟨v2, e2, h2⟩ := f21_total ps inc dly l0 l1 m0 m1 p0 p1 turn since stopped fallen turn b
  by_cases ht : 0 ≤ turn ∧ turn ≤ 1
  · rcases f21_spec ps inc dly l0 l1 m0 m1 p0 p1 turn since stopped fallen turn a ht with ⟨e1, h1, he1, _⟩ | ⟨h1, hr, hc, ha, ha'⟩
    · exact ⟨_, _, _, _, _, _, _, _, h1, h2, h3, h4, .inl ⟨he1, rfl⟩⟩
    · rcases f21_spec ps inc dly l0 l1 m0 m1 p0 p1 turn since stopped fallen turn b ht with ⟨e2', h2', he2, _⟩ | ⟨h2', _, _, hb, hb'⟩
      · exact ⟨_, _, _, _, _, _, _, _, h1, h2', h3, h4, .inr (.inl ⟨rfl, he2, rfl⟩)⟩
      · have ew : w64 (1 - turn) = 1 - turn := wid (by omega)
        rw [ew] at h3 h4 ⊢
        rcases f21_spec ps inc dly l0 l1 m0 m1 p0 p1 turn since stopped fallen (1 - turn) a (by omega) with ⟨_, _, _, hn⟩ | ⟨h3', _⟩
        · exact absurd ⟨hr, hc, ha, ha'⟩ hn
        rcases f21_spec ps inc dly l0 l1 m0 m1 p0 p1 turn since stopped fallen (1 - turn) b (by omega) with ⟨_, _, _, hn⟩ | ⟨h4', _⟩
        · exact absurd ⟨hr, hc, hb, hb'⟩ hn
        have c1 := hc.2.2.2.2.2.2.1.2.2.2.2.1
        have c2 := hc.2.2.2.2.2.2.2.2.2.2.2.1
        exact ⟨_, _, _, _, _, _, _, _, h1, h2', h3', h4', .inr (.inr ⟨rfl, rfl, rfl, rfl, lv_mono c1 c2 hab hr.2.2.2.2.1 ha, lv_nonneg c1 c2, lv_other (by omega)⟩)⟩
  · exact ⟨_, _, _, _, _, _, _, _, f21_bad _ _ _ _ _ (by omega), h2, h3, h4, .inl ⟨by decide, rfl⟩⟩

theorem f4_pure (x0 : PS × Int × Int × Unit) (x1 : CL) (a b : Int) : f4 100 x0 x1 a b = some (true, ()) := by
  obtain ⟨ps, inc, dly, ⟨⟩⟩ := x0
  obtain ⟨⟨l0, l1, ⟨⟩⟩, ⟨m0, m1, ⟨⟩⟩, ⟨p0, p1, ⟨⟩⟩, turn, since, stopped, fallen, ⟨⟩⟩ := x1
  unfold f4
  simp only [f20_pure, Option.bind_some, Bool.not_true, cond_false]
  by_cases h : a > b
  · obtain ⟨v1, e1, v2, e2, v3, e3, v4, e4, h1, h2, h3, h4, h5⟩ := later_core ps inc dly l0 l1 m0 m1 p0 p1 turn since stopped fallen b a (by omega)
    simp only [decide_eq_true h, cond_true, h1, h2, h3, h4, Option.bind_some]
    rcases h5 with ⟨a1, rfl⟩ | ⟨rfl, a2, rfl⟩ | ⟨rfl, rfl, rfl, rfl, a1, a2, rfl⟩
    · simp only [bne_iff_ne.2 a1, cond_true, show ((0 : Int) == 0) = true from rfl]
    · simp only [bne_iff_ne.2 a2, cond_true, show ((0 : Int) == 0) = true from rfl, show ((0 : Int) != 0) = false from rfl, cond_false]
    · simp only [show ((0 : Int) != 0) = false from rfl, cond_false, decide_eq_true a1, decide_eq_true a2, cond_true, beq_self_eq_true]
  · obtain ⟨v1, e1, v2, e2, v3, e3, v4, e4, h1, h2, h3, h4, h5⟩ := later_core ps inc dly l0 l1 m0 m1 p0 p1 turn since stopped fallen a b (by omega)
    simp only [decide_eq_false h, cond_false, h1, h2, h3, h4, Option.bind_some]
    rcases h5 with ⟨a1, rfl⟩ | ⟨rfl, a2, rfl⟩ | ⟨rfl, rfl, rfl, rfl, a1, a2, rfl⟩
    · simp only [bne_iff_ne.2 a1, cond_true, show ((0 : Int) == 0) = true from rfl]
    · simp only [bne_iff_ne.2 a2, cond_true, show ((0 : Int) == 0) = true from rfl, show ((0 : Int) != 0) = false from rfl, cond_false]
    · simp only [show ((0 : Int) != 0) = false from rfl, cond_false, decide_eq_true a1, decide_eq_true a2, cond_true, beq_self_eq_true]

/-! ### ClockFalls -/
theorem f27_spec (ps : PS) (inc dly l0 l1 m0 m1 p0 p1 turn since : Int) (stopped : Bool) (fallen : Int) :
    (∃ e, f27 100 (ps, inc, dly, ()) ((l0, l1, ()), (m0, m1, ()), (p0, p1, ()), turn, since, stopped, fallen, ()) = some (0, e, ()) ∧ e ≠ 0) ∨
    (f27 100 (ps, inc, dly, ()) ((l0, l1, ()), (m0, m1, ()), (p0, p1, ()), turn, since, stopped, fallen, ()) = some (since + dly + lft l0 l1 turn + 1, 0, ()) ∧ RuOK ps inc dly ∧ ClOK ps l0 l1 m0 m1 p0 p1 turn since fallen ∧ fallen < 0 ∧ stopped = false) := by
  unfold f27
  rcases f49_spec ps inc dly l0 l1 m0 m1 p0 p1 turn since stopped fallen with ⟨e, e1, e2, e3⟩ | ⟨e1, e2, e3⟩
  · left
    exact ⟨e, by simp only [e1, Option.bind_some, bne_iff_ne.2 e2, cond_true], e2⟩
  · simp only [e1, Option.bind_some, show ((0 : Int) != 0) = false from rfl, cond_false]
    obtain ⟨r1, r2, r3, r4, r5, r6, r7⟩ := e2
    have e3' := e3
    obtain ⟨t0, t1, _, _, s0, s1, ⟨_, _, _, _, _, _⟩, _, _, _, _, _, _⟩ := e3
    by_cases b1 : fallen ≥ 0
    · left; exact ⟨14, by rw [decide_eq_true b1]; rfl, by decide⟩
    rw [decide_eq_false b1]
    cases stopped
    rotate_left
    · left; exact ⟨10, rfl, by decide⟩
    simp only [cond_false]
    unfold lft
    rcases (show turn = 0 ∨ turn = 1 by omega) with rfl | rfl
    · simp only [show ((0 : Int) == 0) = true from rfl, cond_true, if_true]
      rw [wid (n := since + dly) (by omega), wid (n := since + dly + l0) (by omega), wid (by omega)]
      by_cases b2 : since + dly + l0 + 1 > 100000000
      · left; exact ⟨8, by rw [decide_eq_true b2]; rfl, by decide⟩
      · right; exact ⟨by rw [decide_eq_false b2]; rfl, ⟨r1, r2, r3, r4, r5, r6, r7⟩, e3', by omega, trivial⟩
    · simp only [show ((1 : Int) == 0) = false from rfl, show ((1 : Int) == 1) = true from rfl, cond_true, cond_false, show ((1 : Int) = 0) = False from by simp, if_false]
      rw [wid (n := since + dly) (by omega), wid (n := since + dly + l1) (by omega), wid (by omega)]
      by_cases b2 : since + dly + l1 + 1 > 100000000
      · left; exact ⟨8, by rw [decide_eq_true b2]; rfl, by decide⟩
      · right; exact ⟨by rw [decide_eq_false b2]; rfl, ⟨r1, r2, r3, r4, r5, r6, r7⟩, e3', by omega, trivial⟩

theorem f22_over {x0 : PS × Int × Int × Unit} {x1 c : CL} {now : Int} (h : f28 100 x0 x1 now = some (c, 0, ())) (hf : c.2.2.2.2.2.2.1 ≥ 0) : f22 100 x0 x1 now = some (Z, 14, ()) := by
  unfold f22
  simp only [h, Option.bind_some, show ((0 : Int) != 0) = false from rfl, cond_false]
  rw [decide_eq_true hf]; rfl
theorem f23_over {x0 : PS × Int × Int × Unit} {x1 c : CL} {now : Int} (h : f28 100 x0 x1 now = some (c, 0, ())) (hf : c.2.2.2.2.2.2.1 ≥ 0) : f23 100 x0 x1 now = some (Z, 14, ()) := by
  unfold f23
  simp only [h, Option.bind_some, show ((0 : Int) != 0) = false from rfl, cond_false]
  rw [decide_eq_true hf]; rfl

theorem f8_pure (x0 : PS × Int × Int × Unit) (x1 : CL) (now : Int) : f8 100 x0 x1 now = some (true, ()) := by
  obtain ⟨ps, inc, dly, ⟨⟩⟩ := x0
  obtain ⟨⟨l0, l1, ⟨⟩⟩, ⟨m0, m1, ⟨⟩⟩, ⟨p0, p1, ⟨⟩⟩, turn, since, stopped, fallen, ⟨⟩⟩ := x1
  unfold f8
  simp only [f20_pure, Option.bind_some, Bool.not_true, cond_false]
  rcases f27_spec ps inc dly l0 l1 m0 m1 p0 p1 turn since stopped fallen with ⟨e, e1, e2⟩ | ⟨e1, hr, hc, hf, hs⟩
  · simp only [e1, Option.bind_some, bne_iff_ne.2 e2, beq_eq_false_iff_ne.2 e2, cond_true, cond_false]; rfl
  · simp only [e1, Option.bind_some, show ((0 : Int) != 0) = false from rfl, show ((0 : Int) == 0) = true from rfl, cond_false, cond_true]
    by_cases b1 : now < since + dly + lft l0 l1 turn + 1
    · rw [decide_eq_true b1]; rfl
    by_cases b2 : now > 100000000
    · rw [decide_eq_false b1, decide_eq_true b2]; rfl
    rw [decide_eq_false b1, decide_eq_false b2]
    simp only [cond_false]
    obtain ⟨t0, t1, f0, f1, s0, s1, ⟨a1, a2, a3, a4, a5, a6⟩, b3, b4, b5, b6, b7, b8⟩ := hc
    have hd := hr.2.2.2.2.1
    have hl : 0 ≤ lft l0 l1 turn := by unfold lft; split <;> omega
    have hu : usd dly since stopped now > lft l0 l1 turn := by
      subst hs
      unfold usd
      rw [if_neg (by simp)]
      split <;> omega
    rcases f28_spec ps inc dly l0 l1 m0 m1 p0 p1 turn since stopped fallen now with ⟨_, _, _, hn⟩ | ⟨h3, _⟩
    · exact absurd ⟨hr, ⟨t0, t1, f0, f1, s0, s1, ⟨a1, a2, a3, a4, a5, a6⟩, b3, b4, b5, b6, b7, b8⟩, by omega, by omega⟩ hn
    unfold lk at h3
    rw [if_pos ⟨hf, hu⟩] at h3
    have hfall : ∀ c : CL, c.2.2.2.2.2.2.1 = turn → c.2.2.2.2.2.2.1 ≥ 0 := fun c h => by rw [h]; exact t0
    rcases f28_spec ps inc dly (if turn = 0 then 0 else l0) (if turn = 0 then l1 else 0) m0 m1 p0 p1 turn since stopped turn now with ⟨_, _, _, hn⟩ | ⟨h4, _⟩
    · refine absurd ⟨hr, ⟨t0, t1, by omega, by omega, s0, s1, ⟨a1, a2, a3, a4, ?_, ?_⟩, b3, b4, b5, b6, ?_, ?_⟩, by omega, by omega⟩ hn <;> split <;> omega
    unfold lk at h4
    have hn : ¬ (turn < 0 ∧ usd dly since stopped now > lft (if turn = 0 then 0 else l0) (if turn = 0 then l1 else 0) turn) := fun h => by omega
    rw [if_neg hn] at h4
    have h5 := f22_over h3 (hfall _ rfl)
    have h6 := f23_over h4 (hfall _ rfl)
    simp only [h3, h4, h5, h6, Option.bind_some]
    simp

/-! ### ClockAgain -/
def sub0 (turn l u : Int) : Int := if turn = 0 then l - u else l
def sub1 (turn l u : Int) : Int := if turn = 0 then l else l - u
theorem f23_spec (ps : PS) (inc dly l0 l1 m0 m1 p0 p1 turn since : Int) (stopped : Bool) (fallen now : Int) :
    (∃ e, f23 100 (ps, inc, dly, ()) ((l0, l1, ()), (m0, m1, ()), (p0, p1, ()), turn, since, stopped, fallen, ()) now = some (Z, e, ()) ∧ e ≠ 0) ∨
    (f23 100 (ps, inc, dly, ()) ((l0, l1, ()), (m0, m1, ()), (p0, p1, ()), turn, since, stopped, fallen, ()) now = some (((sub0 turn l0 (usd dly since false now), sub1 turn l1 (usd dly since false now), ()), (m0, m1, ()), (p0, p1, ()), turn, now, true, fallen, ()), 0, ()) ∧
      RuOK ps inc dly ∧ ClOK ps l0 l1 m0 m1 p0 p1 turn since fallen ∧ since ≤ now ∧ now ≤ 100000000 ∧ fallen < 0 ∧ stopped = false ∧ usd dly since false now ≤ lft l0 l1 turn) := by
  rcases f28_spec ps inc dly l0 l1 m0 m1 p0 p1 turn since stopped fallen now with ⟨e, h, he, _⟩ | ⟨h, hr, hc, ha, hb⟩
  · left
    unfold f23
    exact ⟨e, by simp only [h, Option.bind_some, bne_iff_ne.2 he, cond_true], he⟩
  obtain ⟨t0, t1, f0, f1, s0, s1, ⟨a1, a2, a3, a4, a5, a6⟩, b3, b4, b5, b6, b7, b8⟩ := id hc
  obtain ⟨r1, r2, r3, r4, r5, r6, r7⟩ := id hr
  unfold lk at h
  by_cases c1 : fallen < 0 ∧ usd dly since stopped now > lft l0 l1 turn
  · rw [if_pos c1] at h
    left
    exact ⟨14, f23_over h (by simpa using t0), by decide⟩
  rw [if_neg c1] at h
  by_cases c2 : fallen ≥ 0
  · left
    exact ⟨14, f23_over h (by simpa using c2), by decide⟩
  cases hst : stopped
  rotate_left
  · left
    refine ⟨10, ?_, by decide⟩
    subst hst
    unfold f23
    simp only [h, Option.bind_some, show ((0 : Int) != 0) = false from rfl, cond_false]
    rw [decide_eq_false c2]; rfl
  · right
    subst hst
    have hu := usd_le (dly := dly) (since := since) (stopped := false) r5 ha
    refine ⟨?_, hr, hc, ha, hb, by omega, rfl, by omega⟩
    unfold f23
    simp only [h, Option.bind_some, show ((0 : Int) != 0) = false from rfl, cond_false]
    rw [decide_eq_false c2]
    simp only [cond_false, f45_spec ps inc dly (l0, l1, ()) (m0, m1, ()) (p0, p1, ()) turn since false fallen now r5 r6 s0 ha hb, Option.bind_some]
    unfold sub0 sub1
    rcases (show turn = 0 ∨ turn = 1 by omega) with rfl | rfl
    · simp only [show ((0 : Int) == 0) = true from rfl, cond_true, if_true]
      rw [wid (by omega)]
    · simp only [show ((1 : Int) == 0) = false from rfl, show ((1 : Int) == 1) = true from rfl, cond_true, cond_false, show ((1 : Int) = 0) = False from by simp, if_false]
      rw [wid (by omega)]

theorem usd_zero {dly since : Int} {stopped : Bool} {now : Int} (h : stopped = true ∨ (since = now ∧ 0 ≤ dly)) : usd dly since stopped now = 0 := by
  unfold usd
  cases stopped
  · rcases h with h | ⟨rfl, h⟩
    · cases h
    · rw [if_neg (by simp), if_neg (by omega)]
  · rfl
theorem f24_spec (ps : PS) (inc dly l0 l1 m0 m1 p0 p1 turn : Int) (fallen now : Int) (hr : RuOK ps inc dly) (hc : ClOK ps l0 l1 m0 m1 p0 p1 turn now fallen) (hf : fallen < 0) :
    f24 100 (ps, inc, dly, ()) ((l0, l1, ()), (m0, m1, ()), (p0, p1, ()), turn, now, true, fallen, ()) now = some (((l0, l1, ()), (m0, m1, ()), (p0, p1, ()), turn, now, false, fallen, ()), 0, ()) := by
  obtain ⟨t0, t1, f0, f1, s0, s1, ⟨a1, a2, a3, a4, a5, a6⟩, b3, b4, b5, b6, b7, b8⟩ := id hc
  rcases f28_spec ps inc dly l0 l1 m0 m1 p0 p1 turn now true fallen now with ⟨e, h, he, hn⟩ | ⟨h, _⟩
  · exact absurd ⟨hr, hc, Int.le_refl _, s1⟩ hn
  unfold lk at h
  have hl : 0 ≤ lft l0 l1 turn := by unfold lft; split <;> omega
  have hz := usd_zero (dly := dly) (since := now) (stopped := true) (now := now) (.inl rfl)
  rw [if_neg (fun h => by omega)] at h
  unfold f24
  simp only [h, Option.bind_some, show ((0 : Int) != 0) = false from rfl, cond_false]
  rw [decide_eq_false (by omega)]; rfl

theorem lv_again {l0 l1 turn since fallen player now : Int} (t : turn = 0 ∨ turn = 1) (hp : player = 0 ∨ player = 1) (h0 : 0 ≤ l0) (h1 : 0 ≤ l1) (hf : fallen < 0) (hu : usd 0 since false now ≤ lft l0 l1 turn) :
    lv 0 l0 l1 turn since false fallen player now = lv 0 (sub0 turn l0 (usd 0 since false now)) (sub1 turn l1 (usd 0 since false now)) turn now false fallen player now := by
  have hz := usd_zero (dly := 0) (since := now) (stopped := false) (now := now) (.inr ⟨rfl, Int.le_refl _⟩)
  have h2 : 0 ≤ lft (sub0 turn l0 (usd 0 since false now)) (sub1 turn l1 (usd 0 since false now)) turn := by
    unfold lft sub0 sub1 at *
    rcases t with rfl | rfl <;> simp at hu ⊢ <;> omega
  unfold lv
  rw [hz]
  generalize usd 0 since false now = u at *
  have n1 : ¬ (fallen < 0 ∧ u > lft l0 l1 turn) := fun h => by omega
  have n2 : ¬ (fallen < 0 ∧ 0 > lft (sub0 turn l0 u) (sub1 turn l1 u) turn) := fun h => by omega
  have n3 : ¬ 0 ≤ fallen := by omega
  simp only [if_neg n1, if_neg n2]
  unfold lft sub0 sub1
  rcases t with rfl | rfl <;> rcases hp with rfl | rfl <;> simp [n3]

theorem f6_pure (x0 : PS × Int × Int × Unit) (x1 : CL) (now : Int) : f6 100 x0 x1 now = some (true, ()) := by
  obtain ⟨ps, inc, dly, ⟨⟩⟩ := x0
  obtain ⟨⟨l0, l1, ⟨⟩⟩, ⟨m0, m1, ⟨⟩⟩, ⟨p0, p1, ⟨⟩⟩, turn, since, stopped, fallen, ⟨⟩⟩ := x1
  unfold f6
  simp only [f20_pure, Option.bind_some, Bool.not_true, cond_false]
  rcases f23_spec ps inc 0 l0 l1 m0 m1 p0 p1 turn since stopped fallen now with ⟨e, h, he⟩ | ⟨h, hr, hc, ha, hb, hf, hs, hu⟩
  · simp only [h, Option.bind_some, bne_iff_ne.2 he, cond_true]; rfl
  subst hs
  obtain ⟨t0, t1, f0, f1, s0, s1, ⟨a1, a2, a3, a4, a5, a6⟩, b3, b4, b5, b6, b7, b8⟩ := id hc
  have hu0 := usd_le (dly := 0) (since := since) (stopped := false) (Int.le_refl _) ha
  have hc2 : ClOK ps (sub0 turn l0 (usd 0 since false now)) (sub1 turn l1 (usd 0 since false now)) m0 m1 p0 p1 turn now fallen := by
    unfold lft at hu
    generalize usd 0 since false now = u at *
    refine ⟨t0, t1, f0, f1, by omega, hb, ⟨a1, a2, a3, a4, ?_, ?_⟩, b3, b4, b5, b6, ?_, ?_⟩ <;> simp only [sub0, sub1] <;> split <;> simp_all <;> omega
  have h2 := f24_spec ps inc 0 _ _ m0 m1 p0 p1 turn fallen now hr hc2 hf
  have key : ∀ p, p = 0 ∨ p = 1 → f21 100 (ps, inc, 0, ()) ((l0, l1, ()), (m0, m1, ()), (p0, p1, ()), turn, since, false, fallen, ()) p now = some (lv 0 l0 l1 turn since false fallen p now, 0, ()) ∧
      f21 100 (ps, inc, 0, ()) ((sub0 turn l0 (usd 0 since false now), sub1 turn l1 (usd 0 since false now), ()), (m0, m1, ()), (p0, p1, ()), turn, now, false, fallen, ()) p now = some (lv 0 l0 l1 turn since false fallen p now, 0, ()) := by
    intro p hp
    constructor
    · rcases f21_spec ps inc 0 l0 l1 m0 m1 p0 p1 turn since false fallen p now (by omega) with ⟨_, _, _, hn⟩ | ⟨h, _⟩
      · exact absurd ⟨hr, hc, ha, hb⟩ hn
      · exact h
    · rcases f21_spec ps inc 0 (sub0 turn l0 (usd 0 since false now)) (sub1 turn l1 (usd 0 since false now)) m0 m1 p0 p1 turn now false fallen p now (by omega) with ⟨_, _, _, hn⟩ | ⟨h, _⟩
      · exact absurd ⟨hr, hc2, Int.le_refl _, hb⟩ hn
      · rw [h, lv_again (by omega) hp a5 b7 hf hu]
  obtain ⟨k1, k2⟩ := key 0 (.inl rfl)
  obtain ⟨k3, k4⟩ := key 1 (.inr rfl)
  simp only [h, h2, k1, k2, k3, k4, Option.bind_some, show ((0 : Int) != 0) = false from rfl, show ((0 : Int) == 0) = true from rfl, cond_false, cond_true, bne_self_eq_false, beq_self_eq_true, Bool.not_false]

/-! ### ClockDelays -/
theorem rd_good {ps : PS} {inc dly p : Int} (hr : RuOK ps inc dly) (h0 : 0 ≤ p) (h1 : p < ps.length) : good ps p.toNat ∧ ((p.toNat : Nat) : Int) = p :=
  ⟨hr.2.2.2.2.2.2 p.toNat (Nat.zero_le _) (by omega), by omega⟩

theorem press0 (ps : PS) (inc l0 l1 m0 m1 p0 p1 since fallen now : Int) : ∃ A M P : Int, ∀ dly, RuOK ps inc dly → usd dly since false now ≤ l0 → since ≤ now → now ≤ 100000000 → fallen < 0 → ClOK ps l0 l1 m0 m1 p0 p1 0 since fallen →
    f22 100 (ps, inc, dly, ()) ((l0, l1, ()), (m0, m1, ()), (p0, p1, ()), 0, since, false, fallen, ()) now =
      some (((if 100000000000 < l0 + (inc - usd dly since false now) + A then 100000000000 else l0 + (inc - usd dly since false now) + A, l1, ()), (M, m1, ()), (P, p1, ()), 1, now, false, fallen, ()), 0, ()) := by
  by_cases ov : (rd ((0, 0, ()) : Int × Int × Unit) ps p0).1 > 0
  · by_cases ov2 : (if 400 < m0 + 1 then 400 else m0 + 1) ≥ (rd ((0, 0, ()) : Int × Int × Unit) ps p0).1
    · refine ⟨(rd ((0, 0, ()) : Int × Int × Unit) ps (p0 + 1)).2.1, 0, p0 + 1, fun dly hr hu ha hb hf hc => ?_⟩
      obtain ⟨t0, t1, f0, f1, s0, s1, ⟨a1, a2, a3, a4, a5, a6⟩, b3, b4, b5, b6, b7, b8⟩ := id hc
      obtain ⟨r1, r2, r3, r4, r5, r6, r7⟩ := id hr
      have hu0 := usd_le (dly := dly) (since := since) (stopped := false) r5 ha
      rcases f28_spec ps inc dly l0 l1 m0 m1 p0 p1 0 since false fallen now with ⟨_, _, _, hn⟩ | ⟨h, _⟩
      · exact absurd ⟨hr, hc, ha, hb⟩ hn
      unfold lk at h
      rw [if_neg (fun h => by have : lft l0 l1 0 = l0 := rfl; omega)] at h
      have h45 := f45_spec ps inc dly (l0, l1, ()) (m0, m1, ()) (p0, p1, ()) 0 since false fallen now r5 r6 s0 ha hb
      obtain ⟨g, eg⟩ := rd_good hr a1 a2
      obtain ⟨g1, g2, g3, g4, g5⟩ := g
      rw [eg] at g1 g2 g3 g4 g5
      have hlast : p0 + 1 < ps.length := by
        have : ¬ p0 = (ps.length : Int) - 1 := fun h => by have := g5.2 h; omega
        omega
      obtain ⟨k, ek⟩ := rd_good hr (p := p0 + 1) (by omega) hlast
      obtain ⟨k1, k2, k3, k4, _⟩ := k
      rw [ek] at k1 k2 k3 k4
      have e1 : w64 (inc - usd dly since false now) = inc - usd dly since false now := wid (by omega)
      have e2 : w64 (l0 + (inc - usd dly since false now)) = l0 + (inc - usd dly since false now) := wid (by omega)
      have e3 : w64 (m0 + 1) = m0 + 1 := wid (by omega)
      have e4 : w64 (p0 + 1) = p0 + 1 := wid (by omega)
      have e5 : w64 (l0 + (inc - usd dly since false now) + (rd ((0, 0, ()) : Int × Int × Unit) ps (p0 + 1)).2.1) = l0 + (inc - usd dly since false now) + (rd ((0, 0, ()) : Int × Int × Unit) ps (p0 + 1)).2.1 := wid (by omega)
      have e6 : w64 (1 - 0) = 1 := by decide
      have d0 : decide (fallen ≥ 0) = false := decide_eq_false (by omega)
      have d1 : decide (0 ≤ p0) = true := decide_eq_true a1
      have d2 : decide (p0 < (ps.length : Int)) = true := decide_eq_true a2
      have d3 : decide (0 ≤ p0 + 1) = true := decide_eq_true (by omega)
      have d4 : decide (p0 + 1 < (ps.length : Int)) = true := decide_eq_true hlast
      unfold f22 c22_11 c22_12 c22_15
      simp only [h, h45, e1, e2, e3, e4, e5, e6, d0, d1, d2, d3, d4, decide_eq_true ov, decide_eq_true ov2, Option.bind_some, show ((0 : Int) != 0) = false from rfl, show ((0 : Int) == 0) = true from rfl, cond_true, cond_false, Bool.and_self]
    · refine ⟨0, if 400 < m0 + 1 then 400 else m0 + 1, p0, fun dly hr hu ha hb hf hc => ?_⟩
      obtain ⟨t0, t1, f0, f1, s0, s1, ⟨a1, a2, a3, a4, a5, a6⟩, b3, b4, b5, b6, b7, b8⟩ := id hc
      obtain ⟨r1, r2, r3, r4, r5, r6, r7⟩ := id hr
      have hu0 := usd_le (dly := dly) (since := since) (stopped := false) r5 ha
      rcases f28_spec ps inc dly l0 l1 m0 m1 p0 p1 0 since false fallen now with ⟨_, _, _, hn⟩ | ⟨h, _⟩
      · exact absurd ⟨hr, hc, ha, hb⟩ hn
      unfold lk at h
      rw [if_neg (fun h => by have : lft l0 l1 0 = l0 := rfl; omega)] at h
      have h45 := f45_spec ps inc dly (l0, l1, ()) (m0, m1, ()) (p0, p1, ()) 0 since false fallen now r5 r6 s0 ha hb
      have e1 : w64 (inc - usd dly since false now) = inc - usd dly since false now := wid (by omega)
      have e2 : w64 (l0 + (inc - usd dly since false now)) = l0 + (inc - usd dly since false now) := wid (by omega)
      have e3 : w64 (m0 + 1) = m0 + 1 := wid (by omega)
      have e6 : w64 (1 - 0) = 1 := by decide
      have d0 : decide (fallen ≥ 0) = false := decide_eq_false (by omega)
      have d1 : decide (0 ≤ p0) = true := decide_eq_true a1
      have d2 : decide (p0 < (ps.length : Int)) = true := decide_eq_true a2
      unfold f22 c22_11 c22_12
      simp only [h, h45, e1, e2, e3, e6, d0, d1, d2, decide_eq_true ov, decide_eq_false ov2, Option.bind_some, show ((0 : Int) != 0) = false from rfl, show ((0 : Int) == 0) = true from rfl, cond_true, cond_false, Bool.and_self, Int.add_zero]
  · refine ⟨0, if 400 < m0 + 1 then 400 else m0 + 1, p0, fun dly hr hu ha hb hf hc => ?_⟩
    obtain ⟨t0, t1, f0, f1, s0, s1, ⟨a1, a2, a3, a4, a5, a6⟩, b3, b4, b5, b6, b7, b8⟩ := id hc
    obtain ⟨r1, r2, r3, r4, r5, r6, r7⟩ := id hr
    have hu0 := usd_le (dly := dly) (since := since) (stopped := false) r5 ha
    rcases f28_spec ps inc dly l0 l1 m0 m1 p0 p1 0 since false fallen now with ⟨_, _, _, hn⟩ | ⟨h, _⟩
    · exact absurd ⟨hr, hc, ha, hb⟩ hn
    unfold lk at h
    rw [if_neg (fun h => by have : lft l0 l1 0 = l0 := rfl; omega)] at h
    have h45 := f45_spec ps inc dly (l0, l1, ()) (m0, m1, ()) (p0, p1, ()) 0 since false fallen now r5 r6 s0 ha hb
    have e1 : w64 (inc - usd dly since false now) = inc - usd dly since false now := wid (by omega)
    have e2 : w64 (l0 + (inc - usd dly since false now)) = l0 + (inc - usd dly since false now) := wid (by omega)
    have e3 : w64 (m0 + 1) = m0 + 1 := wid (by omega)
    have e6 : w64 (1 - 0) = 1 := by decide
    have d0 : decide (fallen ≥ 0) = false := decide_eq_false (by omega)
    have d1 : decide (0 ≤ p0) = true := decide_eq_true a1
    have d2 : decide (p0 < (ps.length : Int)) = true := decide_eq_true a2
    unfold f22 c22_11 c22_12
    simp only [h, h45, e1, e2, e3, e6, d0, d1, d2, decide_eq_false ov, Option.bind_some, show ((0 : Int) != 0) = false from rfl, show ((0 : Int) == 0) = true from rfl, cond_true, cond_false, Bool.and_self, Int.add_zero]
end Go.Proofs.Ytfalgaldkadgoaa.G
