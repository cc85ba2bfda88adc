import Derived.Test.YtpnbiakaknbofaaGreatDoorTAble
namespace Go.Proofs.YtpnbiakaknbofaaGreatDoor.G
open Go.VM Go.Proofs
abbrev CR := PS × Int × Int × Unit
abbrev ST := List MV × Int × Int × CL × OF × List PM × Unit
abbrev MT := RU × CR × GM × ST × Int × List JE × Unit
theorem Plays.snoc1 : ∀ {ms : List MV} {g g1 g2 : GM} {m : MV}, Plays g ms g1 → f51 9000 g1 m = some (0, g2, ()) → Plays g (ms ++ [m]) g2
  | [], g, g1, g2, m, h, hp => by
    have h : g = g1 := h
    subst h
    exact ⟨g2, hp, rfl⟩
  | x :: ms, g, g1, g2, m, ⟨g3, h1, h2⟩, hp => ⟨g3, h1, Plays.snoc1 h2 hp⟩
section
variable {r : RU}
theorem back_eq (hz : Rz r) {ms : List MV} {m : MV} {g : GM} (h : Plays (g0 r) (ms ++ [m]) g) (hl : ms.length + 1 ≤ 400) : ∃ g', f82 9000 g = some (0, g', ()) ∧ Plays (g0 r) ms g' := by
  obtain ⟨g1, h1, g2, h2, h3⟩ := Plays.cut h
  have h3 : g2 = g := h3
  subst h3
  obtain ⟨k1, k2⟩ := Plays.ok hz h1 (g0_ok r) (by show 0 + ms.length ≤ 400; omega)
  have k2 : g1.2.2.1 = ms := by rw [k2]; rfl
  rcases play_tot hz k1 (by rw [k2]; omega) m with ⟨e, he, hp⟩ | ⟨q, hp, hok, _⟩
  · rw [h2] at hp
    simp only [Option.some.injEq, Prod.mk.injEq] at hp
    exact absurd hp.1.symm he
  · rw [h2] at hp
    simp only [Option.some.injEq, Prod.mk.injEq, true_and, and_true] at hp
    subst hp
    have hlen := k1.len
    rw [k2] at hlen
    refine ⟨g1, ?_, h1⟩
    have hr : g1.1 = r := k1.1
    unfold f82
    dsimp only
    rw [bn1 (by simp; omega), ws (by simp; omega), ws (by simp; omega), bt2 ⟨by simp, by simp; omega⟩, bt2 ⟨by simp, by simp; omega⟩, first_eq, first_eq]
    simp only [List.length_append, List.length_singleton]
    rw [show (((g1.2.1.length + 1 : Nat) : Int) - 1).toNat = g1.2.1.length by omega, show (((g1.2.2.1.length + 1 : Nat) : Int) - 1).toNat = g1.2.2.1.length by omega, List.take_left, List.take_left, ← hr]
def GP (r : RU) (g : GM) : Prop := Plays (g0 r) g.2.2.1 g
theorem GP.ok (hz : Rz r) {g : GM} (h : GP r g) (hl : g.2.2.1.length ≤ 400) : GOK r g :=
  (Plays.ok hz h (g0_ok r) (by show 0 + g.2.2.1.length ≤ 400; omega)).1
theorem GP.play (hz : Rz r) {g g1 : GM} {m : MV} (h : GP r g) (hl : g.2.2.1.length ≤ 400) (hp : f51 9000 g m = some (0, g1, ())) : GP r g1 ∧ g1.2.2.1 = g.2.2.1 ++ [m] := by
  rcases play_tot hz (h.ok hz hl) hl m with ⟨e, he, h2⟩ | ⟨q, h2, _⟩
  · rw [hp] at h2
    simp only [Option.some.injEq, Prod.mk.injEq] at h2
    exact absurd h2.1.symm he
  · have hp' := hp
    rw [hp] at h2
    simp only [Option.some.injEq, Prod.mk.injEq, true_and, and_true] at h2
    subst h2
    exact ⟨Plays.snoc1 h hp', rfl⟩
theorem GP.back (hz : Rz r) {g : GM} (h : GP r g) (hl : g.2.2.1.length ≤ 400) (h0 : g.2.2.1 ≠ []) : ∃ g1, f82 9000 g = some (0, g1, ()) ∧ GP r g1 ∧ g1.2.2.1.length + 1 = g.2.2.1.length := by
  rcases List.eq_nil_or_concat g.2.2.1 with he | ⟨ms, m, he⟩
  · exact absurd he h0
  · rw [List.concat_eq_append] at he
    have hlen : ms.length + 1 = g.2.2.1.length := by rw [he]; simp
    have h' : Plays (g0 r) (ms ++ [m]) g := by rw [← he]; exact h
    obtain ⟨g1, hb, hp⟩ := back_eq hz h' (by omega)
    have hm := (Plays.ok hz hp (g0_ok r) (by show 0 + ms.length ≤ 400; omega)).2
    have hm : g1.2.2.1 = ms := by rw [hm]; rfl
    exact ⟨g1, hb, by unfold GP; rw [hm]; exact hp, by rw [hm]; exact hlen⟩
theorem moves_eq {g : GM} (hl : g.2.2.1.length ≤ 400) : f38 9000 g = some (g.2.2.1, g, ()) := by
  unfold f38
  rw [bt1 (by unfold roomN; omega)]
theorem turn_eq {m : MT} (hl : m.2.2.1.2.2.1.length ≤ 400) : f47 9000 m = some ((m.2.2.1.2.2.1.length : Int).tmod 2, m, ()) := by
  unfold f47
  rw [moves_eq hl]
  rfl
end
end Go.Proofs.YtpnbiakaknbofaaGreatDoor.G
namespace Go.Proofs.YtpnbiakaknbofaaGreatDoor.G
open Go.VM Go.Proofs
section
variable {r : RU}
end
end Go.Proofs.YtpnbiakaknbofaaGreatDoor.G
namespace Go.Proofs.YtpnbiakaknbofaaGreatDoor.G
open Go.VM Go.Proofs
section
variable {r : RU}
def ResOK (s : ST) (x : Int) : Prop := (s.2.1 = 0 ∧ s.2.2.1 = 0 ∧ x = 0) ∨ (s.2.1 ≠ 0 ∧ s.2.2.1 ≠ 1 ∧ x = 0) ∨ (s.2.1 = x ∧ x ≠ 0 ∧ s.2.2.1 = 1)
structure MOK (r : RU) (m : MT) : Prop where
  ru : m.1 = r
  g : GP r m.2.2.1
  st : ∃ x, f53 9000 m.2.2.1 = some (x, ()) ∧ ResOK m.2.2.2.1 x
  ch : ch 0 m.2.2.2.2.2.1
  n : m.2.2.1.2.2.1.length + m.2.2.2.1.2.2.2.2.2.1.length + 1 ≤ m.2.2.2.2.2.1.length
end
end Go.Proofs.YtpnbiakaknbofaaGreatDoor.G
