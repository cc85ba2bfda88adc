import Derived.Test.YtpnbiakaknbofaaGreatDoorTSix
namespace Go.Proofs.YtpnbiakaknbofaaGreatDoor.G
open Go.VM Go.Proofs
abbrev O0 : OF := ((-1, -1, ()), ((-1, -1, ()), (-1, -1, ()), ()), ())
section
variable {r : RU}
theorem more10_nil (hz : Rz r) (e : EV) (cr : CR) (w : ST × Int × List JE × Unit) (j : Nat) (hj : 0 < j) (g : GM) (s : ST) (hg : GP r g) (hl : g.2.2.1.length ≤ 300) (hs : s.2.2.2.2.2.1 = []) : l42_10 9000 j (r, cr, g, w) s e = some ((r, cr, g, w), s, ()) := by
  obtain ⟨j, rfl⟩ : ∃ i, j = i + 1 := ⟨j - 1, by omega⟩
  have hok := hg.ok hz (by omega)
  rw [l42_10]
  obtain ⟨_, x, _, hx, _⟩ := result_tot hz.ok hok (by omega)
  simp only [hx, Option.bind_some]
  by_cases h0 : x = 0
  rotate_left
  · rw [bn1 h0]
  rw [be1 h0, moves_eq (by omega)]
  simp only [Option.bind_some]
  rw [bt1 (by omega), pos_eq hz.ok hok (by omega)]
  simp only [Option.bind_some]
  obtain ⟨hn, hp⟩ := hok.now_eq hz.ok (by omega)
  obtain ⟨m, ok, rest, e2, hnx, h1, h2⟩ := next_tot hz hp s.2.2.2.2.2.1 (by rw [hs]; simp)
  rw [hnx]
  simp only [Option.bind_some]
  rw [hs] at h1 h2
  cases ok
  · have hr : rest = [] := List.eq_nil_of_length_eq_zero (by have := (h1 rfl).1; simpa using this)
    subst hr
    have e : ((s.1, s.2.1, s.2.2.1, s.2.2.2.1, s.2.2.2.2.1, [], ()) : ST) = s := by rw [← hs]
    simp only [Bool.not_false, cond_true]
    rw [e]
  · exact absurd (h2 rfl).1 (by simp)
theorem mdo_step (hz : Rz r) {cr : CR} {g g1 : GM} {c c' : CL} {s1 : List MV} {last now pl : Int} {mv : MV} {ev : List JE} {gl : List MV} {p : PO} (hg : GP r g) (hl : g.2.2.1.length ≤ 40) (hch : ch 0 ev) (hev : ev.length ≤ 45)
    (hpl : (g.2.2.1.length : Int).tmod 2 = pl) (hpl2 : pl = 0 ∨ pl = 1) (hnow : last ≤ now ∧ now ≤ 100000000) (hlook : f60 9000 cr c now = some (c, 0, ())) (hfall : c.2.2.2.2.2.2.1 < 0) (hpress : f115 9000 cr c now = some (c', 0, ()))
    (hom : f116 9000 O0 pl = some (O0, 0, ())) (hnp : g.now = p) (hgen : f75 9000 r p = some (gl, ())) (hhas : f74 9000 gl mv = some (true, ())) (hplay : f51 9000 g mv = some (0, g1, ())) (hg1 : GP r g1)
    (hl1 : g1.2.2.1.length ≤ 41) (hres1 : f53 9000 g1 = some (0, ())) (he : EvOK (0, pl, 0, now, mv, ())) :
    ∃ h, f14 9000 (r, cr, g, (s1, 0, 0, c, O0, [], ()), last, ev, ()) (0, pl, 0, now, mv, ()) = some (0, (r, cr, g1, (s1, 0, 0, c', O0, [], ()), now, ev ++ [(entT (0, pl, 0, now, mv, ()), h, ())], ()), ()) ∧ ch 0 (ev ++ [(entT (0, pl, 0, now, mv, ()), h, ())]) := by
  have hchk : f41 9000 (r, cr, g, (s1, 0, 0, c, O0, [], ()), last, ev, ()) (0, pl, 0, now, mv, ()) = some (0, (r, cr, g, (s1, 0, 0, c, O0, [], ()), last, ev, ()), ()) := by
    unfold f41
    dsimp only
    rw [bf1 (by decide), bf1 (by decide), bf1 (by omega), bf1 (by omega), bf1 (by omega), bf1 (by omega), beq1 rfl, bn1 (by omega), hlook]
    simp only [Option.bind_some]
    rw [beq1 rfl, bn1 (by decide), bn1 (by decide), bf1 (by omega)]
  have hmade : f76 9000 (r, cr, g, (s1, 0, 0, c, O0, [], ()), last, ev, ()) (s1, 0, 0, c, O0, [], ()) mv now = some (0, (r, cr, g1, (s1, 0, 0, c, O0, [], ()), last, ev, ()), (s1, 0, 0, c', O0, [], ()), ()) := by
    unfold f76
    rw [turn_eq (by show g.2.2.1.length ≤ 400; omega)]
    simp only [Option.bind_some]
    rw [hpress]
    simp only [Option.bind_some]
    rw [beq1 rfl, hpl, hom]
    simp only [Option.bind_some]
    rw [beq1 rfl, hplay]
    simp only [Option.bind_some]
    rw [beq1 rfl]
  have hmove : f42 9000 (r, cr, g, (s1, 0, 0, c, O0, [], ()), last, ev, ()) (s1, 0, 0, c, O0, [], ()) (0, pl, 0, now, mv, ()) = some (0, (r, cr, g1, (s1, 0, 0, c, O0, [], ()), last, ev, ()), (s1, 0, 0, c', O0, [], ()), ()) := by
    unfold f42
    rw [turn_eq (by show g.2.2.1.length ≤ 400; omega)]
    simp only [Option.bind_some]
    rw [beq1 hpl.symm, pos_eq hz.ok (hg.ok hz (by omega)) (by omega)]
    simp only [Option.bind_some]
    rw [hnp, hgen]
    simp only [Option.bind_some]
    rw [hhas]
    simp only [Option.bind_some, Bool.not_true, cond_false]
    rw [moves_eq (by omega)]
    simp only [Option.bind_some]
    rw [bn1 (by omega), hmade]
    simp only [Option.bind_some]
    rw [beq1 rfl, more10_nil hz (0, pl, 0, now, mv, ()) cr ((s1, 0, 0, c, O0, [], ()), last, ev, ()) 9000 (by decide) g1 (s1, 0, 0, c', O0, [], ()) hg1 (by omega) rfl]
    rfl
  obtain ⟨h, ha, hc'⟩ := jappend_ok hch (by omega) (txok_of (ent_tx he))
  refine ⟨h, ?_, hc'⟩
  unfold f14
  rw [hchk]
  simp only [Option.bind_some]
  rw [beq1 rfl, be1 rfl, hmove]
  simp only [Option.bind_some]
  rw [beq1 rfl, entry_eq he]
  simp only [Option.bind_some]
  rw [ha]
  simp only [Option.bind_some]
  unfold f37
  dsimp only
  rw [hres1]
  simp only [Option.bind_some]
  rw [be1 rfl, beq1 rfl]
  rfl
end
abbrev CRT (inc : Int) : CR := ([(2, 50000, ()), (0, 90000, ())], inc, 0, ())
theorem per_ok : goods [(2, 50000, ()), (0, 90000, ())] 0 := fun m _ hm => by
  have hm : m < 2 := hm
  rcases (show m = 0 ∨ m = 1 by omega) with rfl | rfl
  · exact ⟨by decide, by decide, by decide, by decide, by decide⟩
  · exact ⟨by decide, by decide, by decide, by decide, by decide⟩
theorem crt_ok {inc : Int} (h : 0 ≤ inc ∧ inc ≤ 999) : RuOK (CRT inc).1 (CRT inc).2.1 (CRT inc).2.2.1 :=
  ⟨(by decide : 1 ≤ 2), (by decide : 2 ≤ 5), h.1, by show inc ≤ 100000000; omega, (by decide : (0 : Int) ≤ 0), (by decide : (0 : Int) ≤ 100000000), per_ok⟩
section
variable {inc l0 l1 m0 m1 p0 p1 turn since now : Int}
theorem look_run (hi : 0 ≤ inc ∧ inc ≤ 999) (hc : ClOK (CRT inc).1 l0 l1 m0 m1 p0 p1 turn since (-1)) (h : since ≤ now) (h2 : now ≤ 100000000) (hu : now - since ≤ lft l0 l1 turn) :
    f60 9000 (CRT inc) ((l0, l1, ()), (m0, m1, ()), (p0, p1, ()), turn, since, false, -1, ()) now = some (((l0, l1, ()), (m0, m1, ()), (p0, p1, ()), turn, since, false, -1, ()), 0, ()) := by
  rcases look_spec (CRT inc).1 inc 0 l0 l1 m0 m1 p0 p1 turn since false (-1) now with ⟨e, _, _, hn⟩ | ⟨h3, _⟩
  · exact absurd ⟨crt_ok hi, hc, h, h2⟩ hn
  · rw [h3]
    unfold lk
    rw [if_neg]
    rintro ⟨_, h4⟩
    unfold usd at h4
    simp only [Bool.false_eq_true, if_false] at h4
    split at h4 <;> omega
theorem usd_run : 0 ≤ now - since → usd 0 since false now = now - since := fun h => by
  unfold usd
  simp only [Bool.false_eq_true, if_false]
  split <;> omega
theorem left_run (hi : 0 ≤ inc ∧ inc ≤ 999) (hc : ClOK (CRT inc).1 l0 l1 m0 m1 p0 p1 turn now (-1)) (h2 : now ≤ 100000000) {pl : Int} (hp : pl = 0 ∨ pl = 1) :
    f27 9000 (CRT inc) ((l0, l1, ()), (m0, m1, ()), (p0, p1, ()), turn, now, false, -1, ()) pl now = some (lft l0 l1 pl, 0, ()) := by
  have hlk := look_run hi hc (Int.le_refl _) h2 (by obtain ⟨_, _, _, _, _, _, ⟨_, _, _, _, a, _⟩, _, _, _, _, b, _⟩ := hc; unfold lft; split <;> omega)
  have hus : ∀ l m p : Int × Int × Unit, f63 9000 (CRT inc) (l, m, p, turn, now, false, -1, ()) now = some (0, ()) := fun l m p => by
    have := used_spec (CRT inc).1 inc 0 l m p turn now false (-1) now (by decide) (by decide) hc.2.2.2.2.1 (Int.le_refl _) h2
    rw [this, usd_run (by omega), Int.sub_self]
  unfold f27
  rw [bf1 (by omega), bf1 (by omega), hlk]
  simp only [Option.bind_some]
  rw [beq1 rfl, bf1 (by decide)]
  obtain ⟨_, _, _, _, _, _, ⟨_, _, _, _, a, a2⟩, _, _, _, _, b, b2⟩ := hc
  unfold lft
  rcases hp with rfl | rfl
  · by_cases ht : (0 : Int) = turn
    · subst ht
      rw [beq1 rfl]
      simp only [show ((0 : Int) == 0) = true from rfl, cond_true]
      rw [hus]
      simp only [Option.bind_some]
      rw [Int.sub_zero, wid (by omega)]
      rfl
    · rw [bne1 ht]
      rfl
  · by_cases ht : (1 : Int) = turn
    · subst ht
      rw [beq1 rfl]
      simp only [show ((1 : Int) == 0) = false from rfl, show ((1 : Int) == 1) = true from rfl, cond_true, cond_false]
      rw [hus]
      simp only [Option.bind_some]
      rw [Int.sub_zero, wid (by omega)]
      rfl
    · rw [bne1 ht]
      rfl
end
end Go.Proofs.YtpnbiakaknbofaaGreatDoor.G
namespace Go.Proofs.YtpnbiakaknbofaaGreatDoor.G
open Go.VM Go.Proofs
section
variable {inc l0 l1 m0 m1 p0 p1 since now : Int}
theorem press0 (hi : 0 ≤ inc ∧ inc ≤ 999) (hc : ClOK (CRT inc).1 l0 l1 m0 m1 p0 p1 0 since (-1)) (h : since ≤ now) (h2 : now ≤ 100000000) (hu : now - since ≤ l0) (hb : l0 ≤ 1000000) (hm : 0 ≤ m0 ∧ m0 ≤ 10) {X m : Int} (hX : X = l0 + inc - (now - since)) (hm' : m = m0 + 1) {res : CL × Int × Unit}
    (hp : c115_11 9000 now (CRT inc) Z ((X, l1, ()), (m, m1, ()), (p0, p1, ()), 0, since, false, -1, ()) 0 = some res) :
    f115 9000 (CRT inc) ((l0, l1, ()), (m0, m1, ()), (p0, p1, ()), 0, since, false, -1, ()) now = some res := by
  have hs := hc.2.2.2.2.1
  have hlk := look_run hi hc h h2 (by unfold lft; rw [if_pos rfl]; exact hu)
  have hus : ∀ l m p : Int × Int × Unit, f63 9000 (CRT inc) (l, m, p, 0, since, false, -1, ()) now = some (now - since, ()) := fun l m p => by
    rw [used_spec (CRT inc).1 inc 0 l m p 0 since false (-1) now (by decide) (by decide) hs h h2, usd_run (by omega)]
  unfold f115
  rw [hlk]
  simp only [Option.bind_some]
  rw [beq1 rfl, bf1 (by decide)]
  simp only [cond_false, show ((0 : Int) == 0) = true from rfl, cond_true, hus, Option.bind_some]
  rw [wid (n := inc - (now - since)) (by omega), wid (n := l0 + (inc - (now - since))) (by omega), wid (n := m0 + 1) (by omega), if_neg (show ¬ (400 : Int) < m0 + 1 by omega), show l0 + (inc - (now - since)) = X by omega, ← hm', hp]
  rfl
theorem press1 (hi : 0 ≤ inc ∧ inc ≤ 999) (hc : ClOK (CRT inc).1 l0 l1 m0 m1 p0 p1 1 since (-1)) (h : since ≤ now) (h2 : now ≤ 100000000) (hu : now - since ≤ l1) (hb : l1 ≤ 1000000) (hm : 0 ≤ m1 ∧ m1 ≤ 10) {X m : Int} (hX : X = l1 + inc - (now - since)) (hm' : m = m1 + 1) {res : CL × Int × Unit}
    (hp : c115_11 9000 now (CRT inc) Z ((l0, X, ()), (m0, m, ()), (p0, p1, ()), 1, since, false, -1, ()) 1 = some res) :
    f115 9000 (CRT inc) ((l0, l1, ()), (m0, m1, ()), (p0, p1, ()), 1, since, false, -1, ()) now = some res := by
  have hs := hc.2.2.2.2.1
  have hlk := look_run hi hc h h2 (by unfold lft; rw [if_neg (by decide)]; exact hu)
  have hus : ∀ l m p : Int × Int × Unit, f63 9000 (CRT inc) (l, m, p, 1, since, false, -1, ()) now = some (now - since, ()) := fun l m p => by
    rw [used_spec (CRT inc).1 inc 0 l m p 1 since false (-1) now (by decide) (by decide) hs h h2, usd_run (by omega)]
  unfold f115
  rw [hlk]
  simp only [Option.bind_some]
  rw [beq1 rfl, bf1 (by decide)]
  simp only [cond_false, show ((1 : Int) == 0) = false from rfl, show ((1 : Int) == 1) = true from rfl, cond_true, hus, Option.bind_some]
  rw [wid (n := inc - (now - since)) (by omega), wid (n := l1 + (inc - (now - since))) (by omega), wid (n := m1 + 1) (by omega), if_neg (show ¬ (400 : Int) < m1 + 1 by omega), show l1 + (inc - (now - since)) = X by omega, ← hm', hp]
  rfl
end
theorem p11a0 (inc now since X l1 m1 p1 : Int) : c115_11 9000 now (CRT inc) Z ((X, l1, ()), (1, m1, ()), (0, p1, ()), 0, since, false, -1, ()) 0 = some ((((if 100000000000 < X then 100000000000 else X), l1, ()), (1, m1, ()), (0, p1, ()), 1, now, false, -1, ()), 0, ()) := by kernel_rfl
theorem p11a1 (inc now since X l0 m0 p0 : Int) : c115_11 9000 now (CRT inc) Z ((l0, X, ()), (m0, 1, ()), (p0, 0, ()), 1, since, false, -1, ()) 1 = some (((l0, (if 100000000000 < X then 100000000000 else X), ()), (m0, 1, ()), (p0, 0, ()), 0, now, false, -1, ()), 0, ()) := by kernel_rfl
theorem p11b0 (inc now since X l1 m1 p1 : Int) : c115_11 9000 now (CRT inc) Z ((X, l1, ()), (2, m1, ()), (0, p1, ()), 0, since, false, -1, ()) 0 = some ((((if 100000000000 < w64 (X + 90000) then 100000000000 else w64 (X + 90000)), l1, ()), (0, m1, ()), (1, p1, ()), 1, now, false, -1, ()), 0, ()) := by kernel_rfl
theorem p11b1 (inc now since X l0 m0 p0 : Int) : c115_11 9000 now (CRT inc) Z ((l0, X, ()), (m0, 2, ()), (p0, 0, ()), 1, since, false, -1, ()) 1 = some (((l0, (if 100000000000 < w64 (X + 90000) then 100000000000 else w64 (X + 90000)), ()), (m0, 0, ()), (p0, 1, ()), 0, now, false, -1, ()), 0, ()) := by kernel_rfl
theorem p11c0 (inc now since X l1 m1 p1 : Int) : c115_11 9000 now (CRT inc) Z ((X, l1, ()), (1, m1, ()), (1, p1, ()), 0, since, false, -1, ()) 0 = some ((((if 100000000000 < X then 100000000000 else X), l1, ()), (1, m1, ()), (1, p1, ()), 1, now, false, -1, ()), 0, ()) := by kernel_rfl
theorem p11c1 (inc now since X l0 m0 p0 : Int) : c115_11 9000 now (CRT inc) Z ((l0, X, ()), (m0, 1, ()), (p0, 1, ()), 1, since, false, -1, ()) 1 = some (((l0, (if 100000000000 < X then 100000000000 else X), ()), (m0, 1, ()), (p0, 1, ()), 0, now, false, -1, ()), 0, ()) := by kernel_rfl
theorem omove0 : f116 9000 O0 0 = some (O0, 0, ()) := by kernel_rfl
theorem omove1 : f116 9000 O0 1 = some (O0, 0, ()) := by kernel_rfl
theorem evk {pl now x : Int} (hp : pl = 0 ∨ pl = 1) (hn : 0 ≤ now ∧ now ≤ 100000000) (hx : 0 ≤ x ∧ x ≤ 9) : EvOK (0, pl, 0, now, (-1, x, 0, ()), ()) := by
  intro y hy
  have hy : y ∈ [(0 : Int), pl, 0, now, -1, x, 0] := hy
  rw [inI64_eq, Bool.and_eq_true, decide_eq_true_eq, decide_eq_true_eq]
  simp only [List.mem_cons, List.not_mem_nil, or_false] at hy
  rcases hy with rfl | rfl | rfl | rfl | rfl | rfl | rfl <;> omega
def got (inc a : Int) : Int := 50000 + inc * a + (if 2 ≤ a then 90000 else 0)
theorem chk24 {inc : Int} {s1 : Int} {s2 : List Int} {s7 : CR} {s8 : MT} {s10 : Int} {s16 : CL} {s48 : List Int} {s49 s50 s94 : Int} {u0 u1 a b L0 L1 : Int} (h0 : f27 9000 s7 s16 0 s10 = some (L0, 0, ())) (h1 : f27 9000 s7 s16 1 s10 = some (L1, 0, ()))
    (ha : 0 ≤ inc * a ∧ inc * a ≤ 10000) (hb : 0 ≤ inc * b ∧ inc * b ≤ 10000) (e0 : L0 + u0 = got inc a) (e1 : L1 + u1 = got inc b) (p : Int) (hp : p = 0 ∨ p = 1) :
    c8_24 9000 inc s1 s2 s7 s8 s10 (u0, u1, ()) (a, b, ()) s16 p s48 s49 s50 s94 = some (.inl (inc, s1, s2, s7, s8, s10, (u0, u1, ()), (a, b, ()), s16, s48, s49, s50, s94, ())) := by
  unfold c8_24 got at *
  rcases hp with rfl | rfl
  · simp only [show ((0 : Int) == 0) = true from rfl, cond_true, h0, Option.bind_some]
    by_cases h2 : 2 ≤ a
    · rw [if_pos h2] at e0
      rw [bt1 h2, beq1 rfl, wid (n := inc * a) (by omega), wid (n := 50000 + inc * a) (by omega), wid (n := 50000 + inc * a + 90000) (by omega), wid (n := L0 + u0) (by omega), beq1 e0]
    · rw [if_neg h2] at e0
      rw [bf1 h2, beq1 rfl, wid (n := inc * a) (by omega), wid (n := 50000 + inc * a) (by omega), wid (n := L0 + u0) (by omega), beq1 (by omega)]
  · simp only [show ((1 : Int) == 0) = false from rfl, show ((1 : Int) == 1) = true from rfl, cond_true, cond_false, h1, Option.bind_some]
    by_cases h2 : 2 ≤ b
    · rw [if_pos h2] at e1
      rw [bt1 h2, beq1 rfl, wid (n := inc * b) (by omega), wid (n := 50000 + inc * b) (by omega), wid (n := 50000 + inc * b + 90000) (by omega), wid (n := L1 + u1) (by omega), beq1 e1]
    · rw [if_neg h2] at e1
      rw [bf1 h2, beq1 rfl, wid (n := inc * b) (by omega), wid (n := 50000 + inc * b) (by omega), wid (n := L1 + u1) (by omega), beq1 (by omega)]
theorem chk22 (j : Nat) {inc : Int} {s1 : Int} {s2 : List Int} {s7 : CR} {s8 : MT} {s10 : Int} {s16 : CL} {s48 : List Int} {s49 s50 : Int} {u0 u1 a b L0 L1 : Int} (h0 : f27 9000 s7 s16 0 s10 = some (L0, 0, ())) (h1 : f27 9000 s7 s16 1 s10 = some (L1, 0, ()))
    (ha : 0 ≤ inc * a ∧ inc * a ≤ 10000) (hb : 0 ≤ inc * b ∧ inc * b ≤ 10000) (e0 : L0 + u0 = got inc a) (e1 : L1 + u1 = got inc b) :
    l8_22 9000 (j + 1 + 1 + 1) inc s1 s2 s7 s8 s10 (u0, u1, ()) (a, b, ()) s16 s48 s49 s50 0 = some (.inl (inc, s1, s2, s7, s8, s10, (u0, u1, ()), (a, b, ()), s48, s49, s50, ())) := by
  rw [l8_22, bt1 (by decide), chk24 h0 h1 ha hb e0 e1 0 (.inl rfl)]
  simp only [Option.bind_some, Sum.elim_inl]
  rw [show w64 ((0 : Int) + 1) = 1 by decide, l8_22, bt1 (by decide), chk24 h0 h1 ha hb e0 e1 1 (.inr rfl)]
  simp only [Option.bind_some, Sum.elim_inl]
  rw [show w64 ((1 : Int) + 1) = 2 by decide, l8_22, bf1 (by decide)]
end Go.Proofs.YtpnbiakaknbofaaGreatDoor.G
