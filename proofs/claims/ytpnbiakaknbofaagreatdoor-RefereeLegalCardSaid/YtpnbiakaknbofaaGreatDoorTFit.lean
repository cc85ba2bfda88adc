/- What a move that was made says: whose turn it was, and that it was legal. -/
import Derived.Test.YtpnbiakaknbofaaGreatDoorTLoadB
namespace Go.Proofs.YtpnbiakaknbofaaGreatDoor.G
open Go.VM Go.Proofs
section
variable {r : RU}
theorem Path.turn : ∀ {ms : List MV} {p : PO} {qs : List PO}, Path r p ms qs → POK r p → (qs.getLastD p).2.2.1 = (p.2.2.1 + ms.length) % 2
  | [], p, qs, h, hp => by
    have h : qs = [] := h
    subst h
    rcases hp.turn with ht | ht <;> simp [ht]
  | m :: ms, p, qs, ⟨q, qs', h, h1, h2, h3, _, h'⟩, hp => by
    subst h
    rw [List.getLastD_cons]
    obtain ⟨q', k1, _, k2⟩ := do_tot2 hp m h2
    rw [h1] at k1
    simp only [Option.some.injEq, Prod.mk.injEq, and_true] at k1
    subst k1
    have ih := Path.turn h' h3
    rw [k2] at ih
    rw [ih, List.length_cons]
    rcases hp.turn with ht | ht
    · rw [ht, show w64 (1 - 0) = 1 by decide]; omega
    · rw [ht, show w64 (1 - 1) = 0 by decide]; omega
theorem GOK.turn (hz : Rz r) {g : GM} (h : GOK r g) : g.now.2.2.1 = (g.2.2.1.length : Int).tmod 2 := by
  obtain ⟨_, qs, h1, h2⟩ := h
  have := h2.turn (fresh_pok hz.ok)
  unfold GM.now
  rw [h1, List.getLastD_cons, this, show (fresh r).2.2.1 = 0 from rfl, Int.tmod_eq_emod_of_nonneg (by omega)]
  omega
theorem move_fit (hz : Rz r) {m : MT} (hr : m.1 = r) (hg : GP r m.2.2.1) (s : ST) (e : EV) (hl : m.2.2.1.2.2.1.length ≤ 250) {m' : MT} {s' : ST} (h : f42 9000 m s e = some (0, m', s', ())) :
    e.2.1 = (m.2.2.1.2.2.1.length : Int).tmod 2 ∧ ∃ gl, f75 9000 r m.2.2.1.now = some (gl, ()) ∧ f74 9000 gl e.2.2.2.2.1 = some (true, ()) := by
  have hok := hg.ok hz (by omega)
  unfold f42 at h
  rw [turn_eq (by omega)] at h
  simp only [Option.bind_some] at h
  by_cases h1 : e.2.1 = (m.2.2.1.2.2.1.length : Int).tmod 2
  rotate_left
  · rw [bne1 h1] at h
    simp at h
  refine ⟨h1, ?_⟩
  rw [beq1 h1, pos_eq hz.ok hok (by omega)] at h
  simp only [Option.bind_some] at h
  obtain ⟨hn, hp⟩ := hok.now_eq hz.ok (by omega)
  obtain ⟨gl, hgl, hg1, _⟩ := gen_tot hp
  rw [hr, hgl] at h
  simp only [Option.bind_some] at h
  obtain ⟨b, hb, _⟩ := has_tot gl e.2.2.2.2.1 hg1
  rw [hb] at h
  simp only [Option.bind_some] at h
  cases b
  · simp at h
  · exact ⟨gl, hgl, hb⟩
theorem do_fit {m : MT} {e : EV} {m' : MT} (h : f14 9000 m e = some (0, m', ())) : (e.2.1 = 0 ∨ e.2.1 = 1) ∧ m.2.2.2.1.2.1 = 0 ∧ (e.1 = 0 → ∃ m2 s2, f42 9000 m m.2.2.2.1 e = some (0, m2, s2, ())) := by
  unfold f14 at h
  obtain ⟨x, hx, hc⟩ := check_tot m e
  rw [hx] at h
  simp only [Option.bind_some] at h
  by_cases h0 : x = 0
  rotate_left
  · rw [bne1 h0] at h
    simp only [Option.some.injEq, Prod.mk.injEq] at h
    exact absurd h.1 h0
  obtain ⟨_, h1, _, _, h2, _⟩ := hc h0
  refine ⟨h1, h2, fun k0 => ?_⟩
  rw [beq1 h0, be1 k0] at h
  cases hv : f42 9000 m m.2.2.2.1 e with
  | none => rw [hv] at h; simp at h
  | some v =>
    obtain ⟨x, m2, s2, _⟩ := v
    rw [hv] at h
    simp only [Option.bind_some] at h
    by_cases hx0 : x = 0
    · subst hx0
      exact ⟨m2, s2, rfl⟩
    · rw [bne1 hx0] at h
      simp only [Option.some.injEq, Prod.mk.injEq] at h
      exact absurd h.1 hx0
end
end Go.Proofs.YtpnbiakaknbofaaGreatDoor.G
