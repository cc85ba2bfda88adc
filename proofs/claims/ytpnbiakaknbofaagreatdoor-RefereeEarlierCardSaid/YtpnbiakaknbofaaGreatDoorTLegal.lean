import Derived.Test.YtpnbiakaknbofaaGreatDoorTLoadB
/- What a move that was made says: whose turn it was, and that it was legal. -/
namespace Go.Proofs.YtpnbiakaknbofaaGreatDoor.G
open Go.VM Go.Proofs
section
variable {r : RU}
theorem Path.turn : ∀ {ms : List MV} {p : PO} {qs : List PO}, Path r p ms qs → POK r p → (qs.getLastD p).2.2.1 = (p.2.2.1 + ms.length) % 2
  | [], p, qs, h, hp => by
    have h : qs = [] := h
    subst h
    rcases hp.turn with ht | ht <;> simp [ht]
  | m :: ms, p, qs, ⟨q, qs', h, h1, h2, h3, _, h'⟩, hp => by
    subst h
    rw [List.getLastD_cons]
    obtain ⟨q', k1, _, k2⟩ := do_tot2 hp m h2
    rw [h1] at k1
    simp only [Option.some.injEq, Prod.mk.injEq, and_true] at k1
    subst k1
    have ih := Path.turn h' h3
    rw [k2] at ih
    rw [ih, List.length_cons]
    rcases hp.turn with ht | ht
    · rw [ht, show w64 (1 - 0) = 1 by decide]; omega
    · rw [ht, show w64 (1 - 1) = 0 by decide]; omega
theorem GOK.turn (hz : Rz r) {g : GM} (h : GOK r g) : g.now.2.2.1 = (g.2.2.1.length : Int).tmod 2 := by
  obtain ⟨_, qs, h1, h2⟩ := h
  have := h2.turn (fresh_pok hz.ok)
  unfold GM.now
  rw [h1, List.getLastD_cons, this, show (fresh r).2.2.1 = 0 from rfl, Int.tmod_eq_emod_of_nonneg (by omega)]
  omega
theorem move_fit (hz : Rz r) {m : MT} (hr : m.1 = r) (hg : GP r m.2.2.1) (s : ST) (e : EV) (hl : m.2.2.1.2.2.1.length ≤ 250) {m' : MT} {s' : ST} (h : f42 9000 m s e = some (0, m', s', ())) :
    e.2.1 = (m.2.2.1.2.2.1.length : Int).tmod 2 ∧ ∃ gl, f75 9000 r m.2.2.1.now = some (gl, ()) ∧ f74 9000 gl e.2.2.2.2.1 = some (true, ()) := by
  have hok := hg.ok hz (by omega)
  unfold f42 at h
  rw [turn_eq (by omega)] at h
  simp only [Option.bind_some] at h
  by_cases h1 : e.2.1 = (m.2.2.1.2.2.1.length : Int).tmod 2
  rotate_left
  · rw [bne1 h1] at h
    simp at h
  refine ⟨h1, ?_⟩
  rw [beq1 h1, pos_eq hz.ok hok (by omega)] at h
  simp only [Option.bind_some] at h
  obtain ⟨hn, hp⟩ := hok.now_eq hz.ok (by omega)
  obtain ⟨gl, hgl, hg1, _⟩ := gen_tot hp
  rw [hr, hgl] at h
  simp only [Option.bind_some] at h
  obtain ⟨b, hb, _⟩ := has_tot gl e.2.2.2.2.1 hg1
  rw [hb] at h
  simp only [Option.bind_some] at h
  cases b
  · simp at h
  · exact ⟨gl, hgl, hb⟩
theorem do_fit {m : MT} {e : EV} {m' : MT} (h : f14 9000 m e = some (0, m', ())) : (e.2.1 = 0 ∨ e.2.1 = 1) ∧ m.2.2.2.1.2.1 = 0 ∧ (e.1 = 0 → ∃ m2 s2, f42 9000 m m.2.2.2.1 e = some (0, m2, s2, ())) := by
  unfold f14 at h
  obtain ⟨x, hx, hc⟩ := check_tot m e
  rw [hx] at h
  simp only [Option.bind_some] at h
  by_cases h0 : x = 0
  rotate_left
  · rw [bne1 h0] at h
    simp only [Option.some.injEq, Prod.mk.injEq] at h
    exact absurd h.1 h0
  obtain ⟨_, h1, _, _, h2, _⟩ := hc h0
  refine ⟨h1, h2, fun k0 => ?_⟩
  rw [beq1 h0, be1 k0] at h
  cases hv : f42 9000 m m.2.2.2.1 e with
  | none => rw [hv] at h; simp at h
  | some v =>
    obtain ⟨x, m2, s2, _⟩ := v
    rw [hv] at h
    simp only [Option.bind_some] at h
    by_cases hx0 : x = 0
    · subst hx0
      exact ⟨m2, s2, rfl⟩
    · rw [bne1 hx0] at h
      simp only [Option.some.injEq, Prod.mk.injEq] at h
      exact absurd h.1 hx0
end
end Go.Proofs.YtpnbiakaknbofaaGreatDoor.G
/- Decisions on moves; the referee's first check. -/
namespace Go.Proofs.YtpnbiakaknbofaaGreatDoor.G
open Go.VM Go.Proofs
theorem tic_eq : f22 9000 = some (TIC, ()) := by kernel_rfl
theorem tic_rz : Rz TIC := check_tic
abbrev CRm : CR := ([(0, 60000, ())], 1000, 0, ())
theorem min_eq : f28 9000 = some (CRm, ()) := by kernel_rfl
abbrev C0 : CL := ((60000, 60000, ()), (0, 0, ()), (0, 0, ()), 0, 0, false, -1, ())
theorem start_m : ∃ c, f31 9000 CRm 0 = some (c, 0, ()) := ⟨C0, by kernel_rfl⟩
theorem drop_eq : f29 9000 0 = some ((-1, 0, 0, ()), ()) := by kernel_rfl
theorem has0 : f74 9000 D9 (-1, 0, 0, ()) = some (true, ()) := by kernel_rfl
theorem now0 : (g0 TIC).now = POS0 := by kernel_rfl
abbrev CM := Int × Int × Int × Int × MV × Unit
section
variable {r : RU}
theorem legal_eq (hz : Rz r) {cr : CR} {now : Int} (hnow : inI64 now = true) {m0 m : MT} (hnew : f11 9000 r cr now = some (.inl (m0, 0, ()))) {es : List EV} (hm : MOK r m) (hl : m.2.2.2.2.2.1.length ≤ 40) (ha : Acc m0 es m) (ht : m.2.2.2.2.2.1.map (·.1) = startT now :: es.map entT) (c : CM) :
    ∃ b, f59 9000 r cr m.2.2.2.2.2.1 c = some (b, 0, ()) ∧ (m.2.2.2.1.2.1 = 0 → m.2.2.1.now.2.2.1 = c.2.2.1 → (∃ gl, f75 9000 r m.2.2.1.now = some (gl, ()) ∧ f74 9000 gl c.2.2.2.2.1 = some (true, ())) → b = true) := by
  unfold f59
  rw [load_eq hnow hnew hm (by omega) ha ht, Option.bind_some, Sum.elim_inl]
  dsimp only
  rw [beq1 rfl]
  obtain ⟨hp, hpok⟩ := mpos_eq hz hm (by omega)
  obtain ⟨n1, n2⟩ := hm.len (by omega)
  rw [hp, Option.bind_some]
  dsimp only
  rw [state_eq (by omega) (by omega), Option.bind_some]
  dsimp only
  rw [show (stOf m).2.1 = m.2.2.2.1.2.1 from rfl]
  by_cases h0 : m.2.2.2.1.2.1 = 0
  rotate_left
  · rw [bn1 h0]
    exact ⟨_, rfl, fun h => absurd h h0⟩
  rw [be1 h0]
  by_cases h1 : m.2.2.1.now.2.2.1 = c.2.2.1
  rotate_left
  · rw [bn1 h1]
    exact ⟨_, rfl, fun _ h => absurd h h1⟩
  rw [be1 h1]
  obtain ⟨gl, hgl, hg1, _⟩ := gen_tot hpok
  obtain ⟨b, hb, _⟩ := has_tot gl c.2.2.2.2.1 hg1
  rw [hgl, Option.bind_some]
  dsimp only
  rw [hb, Option.bind_some]
  refine ⟨b, rfl, fun _ _ h => ?_⟩
  obtain ⟨gl', k1, k2⟩ := h
  simp only [Option.some.injEq, Prod.mk.injEq, and_true] at k1
  subst k1
  rw [hb] at k2
  simp only [Option.some.injEq, Prod.mk.injEq, and_true] at k2
  exact k2
theorem sl_all {α : Type} (l : List α) (n : Int) (h : n = l.length) : sliceOf l 0 n = l := by
  subst h
  unfold sliceOf
  simp
theorem sl_pre {α : Type} (l : List α) (x : α) (n : Int) (h : n = l.length) : sliceOf (l ++ [x]) 0 n = l := by
  subst h
  unfold sliceOf
  simp
theorem decide_eq (hz : Rz r) {cr : CR} {now : Int} (hnow : inI64 now = true) {m0 m m' : MT} (hnew : f11 9000 r cr now = some (.inl (m0, 0, ()))) {es : List EV} (hm : MOK r m) (hl : m.2.2.2.2.2.1.length ≤ 30) (ha : Acc m0 es m) (ht : m.2.2.2.2.2.1.map (·.1) = startT now :: es.map entT)
    {e : EV} (he : EvOK e) (hd : f14 9000 m e = some (0, m', ())) (hm' : MOK r m') {h : Int} (hev : m'.2.2.2.2.2.1 = m.2.2.2.2.2.1 ++ [(entT e, h, ())]) (n : Int) (hn : n = m.2.2.2.2.2.1.length) :
    ∃ b, f23 9000 r cr m'.2.2.2.2.2.1 (0, n, e.2.1, 0, e.2.2.2.2) = some (b, 0, ()) ∧ (e.1 = 0 → b = true) := by
  obtain ⟨f1, f2, f3⟩ := do_fit hd
  have hlen : m'.2.2.2.2.2.1.length = m.2.2.2.2.2.1.length + 1 := by rw [hev]; simp
  have h1 : 1 ≤ m.2.2.2.2.2.1.length := by
    have := congrArg List.length ht
    simp at this
    omega
  have ht' : m'.2.2.2.2.2.1.map (·.1) = startT now :: (es ++ [e]).map entT := by rw [hev, List.map_append, ht]; simp
  have hload := load_eq hnow hnew hm' (by omega) (ha.snoc he hd) ht'
  obtain ⟨n1, n2⟩ := hm'.len (by omega)
  have hrd : (rd (((⟨#[]⟩ : ByteArray), 0, ()) : JE) m'.2.2.2.2.2.1 n).1 = entT e := by
    rw [hev, hn, rd_at]
  unfold f23
  rw [hload, Option.bind_some, Sum.elim_inl]
  dsimp only
  rw [beq1 rfl, bf1 (by decide), bf1 (by decide), bf1 (by omega), bf1 (by omega), bf1 (by omega), bf1 (by omega), bt1 (by omega), bt2 ⟨by omega, by omega⟩, hrd, read_eq he, Option.bind_some]
  dsimp only
  rw [ws (n := n + 1) (by omega), bt2 ⟨by omega, by omega⟩, sl_all _ (n + 1) (by omega), hload, Option.bind_some, Sum.elim_inl]
  dsimp only
  rw [state_eq (by omega) (by omega), Option.bind_some, be1 rfl]
  have hmx : (if n > 1 then n else 1) = n := by
    split <;> omega
  rw [hmx, bt2 ⟨by omega, by omega⟩]
  have hpre : sliceOf m'.2.2.2.2.2.1 0 n = m.2.2.2.2.2.1 := by rw [hev]; exact sl_pre _ _ n hn
  rw [hpre]
  obtain ⟨b, hb, hb2⟩ := legal_eq hz hnow hnew hm (by omega) ha ht (0, n, e.2.1, 0, e.2.2.2.2)
  rw [hb, Option.bind_some]
  refine ⟨b, rfl, fun k0 => ?_⟩
  obtain ⟨m2, s2, hmv⟩ := f3 k0
  obtain ⟨k1, k2⟩ := hm.len (by omega)
  obtain ⟨g1, g2⟩ := move_fit hz hm.ru hm.g _ e (by omega) hmv
  refine hb2 f2 ?_ g2
  show m.2.2.1.now.2.2.1 = e.2.1
  rw [g1]
  exact (hm.g.ok hz (by omega)).turn hz
end
theorem judged_eq : f21 9000 = some (true, ()) := by
  unfold f21
  rw [tic_eq, Option.bind_some, min_eq, Option.bind_some]
  dsimp only
  rcases mnew_tot TIC CRm 0 with ⟨_, h⟩ | ⟨hz, m, c, h, hm, _, _, s, h0, hms, hs1, hs2⟩
  · exact absurd ⟨tic_rz, start_m⟩ h
  have hj : m.2.2.2.2.2.1 = [(startT 0, h0, ())] := by rw [hms]
  have hg : m.2.2.1 = g0 TIC := by rw [hms]
  have hres : m.2.2.2.1.2.1 = 0 := by
    rw [gres_tic] at hs2
    simp only [Option.some.injEq, Prod.mk.injEq, and_true] at hs2
    rw [hms]
    exact hs2.symm
  rw [h, Option.bind_some, Sum.elim_inl]
  dsimp only
  rw [beq1 rfl, Option.bind_some, Option.bind_some]
  dsimp only
  rw [journal_eq (m := m) (by rw [hj]; simp), Option.bind_some]
  dsimp only
  rw [drop_eq, Option.bind_some]
  have ht : m.2.2.2.2.2.1.map (·.1) = startT 0 :: ([] : List EV).map entT := by rw [hj]; rfl
  have hlen : m.2.2.2.2.2.1.length = 1 := by rw [hj]; rfl
  have hload := load_eq (es := []) in64_0 h hm (by omega) rfl ht
  obtain ⟨b, hb, hb2⟩ := legal_eq (es := []) hz in64_0 h hm (by omega) rfl ht (0, 0, 0, 0, (-1, 0, 0, ()), ())
  have hb1 : b = true := hb2 hres (by rw [hg, now0]) ⟨D9, by rw [hg, now0]; exact gen_tic, has0⟩
  subst hb1
  obtain ⟨n1, n2⟩ := hm.len (by omega)
  have hdec : f23 9000 TIC CRm m.2.2.2.2.2.1 (0, 0, 0, 0, (-1, 0, 0, ()), ()) = some (true, 0, ()) := by
    unfold f23
    rw [hload, Option.bind_some, Sum.elim_inl]
    dsimp only
    rw [beq1 rfl, bf1 (by decide), bf1 (by decide), bf1 (by decide), bf1 (by decide), bf1 (by decide), bf1 (by omega), bf1 (by decide), show w64 (0 + 1) = 1 by decide, bt2 ⟨by omega, by omega⟩, sl_all _ 1 (by omega), hload, Option.bind_some, Sum.elim_inl]
    dsimp only
    rw [state_eq (by omega) (by omega), Option.bind_some, be1 rfl, show (if (0 : Int) > 1 then (0 : Int) else 1) = 1 by decide, bt2 ⟨by omega, by omega⟩, sl_all _ 1 (by omega), hb, Option.bind_some]
  rw [hdec, Option.bind_some]
  rfl
end Go.Proofs.YtpnbiakaknbofaaGreatDoor.G
