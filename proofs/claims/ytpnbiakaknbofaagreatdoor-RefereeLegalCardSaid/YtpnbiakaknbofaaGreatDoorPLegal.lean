/- RefereeLegal: what was taken as a move was legal, and its player's turn. -/
import Derived.Test.YtpnbiakaknbofaaGreatDoorTFit
namespace Go.Proofs.YtpnbiakaknbofaaGreatDoor.G
open Go.VM Go.Proofs
theorem tic_eq : f22 9000 = some (TIC, ()) := by kernel_rfl
theorem tic_rz : Rz TIC := check_tic
abbrev CRm : CR := ([(0, 60000, ())], 1000, 0, ())
theorem min_eq : f28 9000 = some (CRm, ()) := by kernel_rfl
abbrev C0 : CL := ((60000, 60000, ()), (0, 0, ()), (0, 0, ()), 0, 0, false, -1, ())
theorem start_m : ∃ c, f31 9000 CRm 0 = some (c, 0, ()) := ⟨C0, by kernel_rfl⟩
theorem drop_eq : f29 9000 0 = some ((-1, 0, 0, ()), ()) := by kernel_rfl
theorem has0 : f74 9000 D9 (-1, 0, 0, ()) = some (true, ()) := by kernel_rfl
theorem now0 : (g0 TIC).now = POS0 := by kernel_rfl
abbrev CM := Int × Int × Int × Int × MV × Unit
section
variable {r : RU}
theorem legal_eq (hz : Rz r) {cr : CR} {now : Int} (hnow : inI64 now = true) {m0 m : MT} (hnew : f11 9000 r cr now = some (.inl (m0, 0, ()))) {es : List EV} (hm : MOK r m) (hl : m.2.2.2.2.2.1.length ≤ 40) (ha : Acc m0 es m) (ht : m.2.2.2.2.2.1.map (·.1) = startT now :: es.map entT) (c : CM) :
    ∃ b, f59 9000 r cr m.2.2.2.2.2.1 c = some (b, 0, ()) ∧ (m.2.2.2.1.2.1 = 0 → m.2.2.1.now.2.2.1 = c.2.2.1 → (∃ gl, f75 9000 r m.2.2.1.now = some (gl, ()) ∧ f74 9000 gl c.2.2.2.2.1 = some (true, ())) → b = true) := by
  unfold f59
  rw [load_eq hnow hnew hm (by omega) ha ht, Option.bind_some, Sum.elim_inl]
  dsimp only
  rw [beq1 rfl]
  obtain ⟨hp, hpok⟩ := mpos_eq hz hm (by omega)
  obtain ⟨n1, n2⟩ := hm.len (by omega)
  rw [hp, Option.bind_some]
  dsimp only
  rw [state_eq (by omega) (by omega), Option.bind_some]
  dsimp only
  rw [show (stOf m).2.1 = m.2.2.2.1.2.1 from rfl]
  by_cases h0 : m.2.2.2.1.2.1 = 0
  rotate_left
  · rw [bn1 h0]
    exact ⟨_, rfl, fun h => absurd h h0⟩
  rw [be1 h0]
  by_cases h1 : m.2.2.1.now.2.2.1 = c.2.2.1
  rotate_left
  · rw [bn1 h1]
    exact ⟨_, rfl, fun _ h => absurd h h1⟩
  rw [be1 h1]
  obtain ⟨gl, hgl, hg1, _⟩ := gen_tot hpok
  obtain ⟨b, hb, _⟩ := has_tot gl c.2.2.2.2.1 hg1
  rw [hgl, Option.bind_some]
  dsimp only
  rw [hb, Option.bind_some]
  refine ⟨b, rfl, fun _ _ h => ?_⟩
  obtain ⟨gl', k1, k2⟩ := h
  simp only [Option.some.injEq, Prod.mk.injEq, and_true] at k1
  subst k1
  rw [hb] at k2
  simp only [Option.some.injEq, Prod.mk.injEq, and_true] at k2
  exact k2
theorem sl_all {α : Type} (l : List α) (n : Int) (h : n = l.length) : sliceOf l 0 n = l := by
  subst h
  unfold sliceOf
  simp
theorem sl_pre {α : Type} (l : List α) (x : α) (n : Int) (h : n = l.length) : sliceOf (l ++ [x]) 0 n = l := by
  subst h
  unfold sliceOf
  simp
theorem decide_eq (hz : Rz r) {cr : CR} {now : Int} (hnow : inI64 now = true) {m0 m m' : MT} (hnew : f11 9000 r cr now = some (.inl (m0, 0, ()))) {es : List EV} (hm : MOK r m) (hl : m.2.2.2.2.2.1.length ≤ 30) (ha : Acc m0 es m) (ht : m.2.2.2.2.2.1.map (·.1) = startT now :: es.map entT)
    {e : EV} (he : EvOK e) (hd : f14 9000 m e = some (0, m', ())) (hm' : MOK r m') {h : Int} (hev : m'.2.2.2.2.2.1 = m.2.2.2.2.2.1 ++ [(entT e, h, ())]) (n : Int) (hn : n = m.2.2.2.2.2.1.length) :
    ∃ b, f23 9000 r cr m'.2.2.2.2.2.1 (0, n, e.2.1, 0, e.2.2.2.2) = some (b, 0, ()) ∧ (e.1 = 0 → b = true) := by
  obtain ⟨f1, f2, f3⟩ := do_fit hd
  have hlen : m'.2.2.2.2.2.1.length = m.2.2.2.2.2.1.length + 1 := by rw [hev]; simp
  have h1 : 1 ≤ m.2.2.2.2.2.1.length := by
    have := congrArg List.length ht
    simp at this
    omega
  have ht' : m'.2.2.2.2.2.1.map (·.1) = startT now :: (es ++ [e]).map entT := by rw [hev, List.map_append, ht]; simp
  have hload := load_eq hnow hnew hm' (by omega) (ha.snoc he hd) ht'
  obtain ⟨n1, n2⟩ := hm'.len (by omega)
  have hrd : (rd (((⟨#[]⟩ : ByteArray), 0, ()) : JE) m'.2.2.2.2.2.1 n).1 = entT e := by
    rw [hev, hn, rd_at]
  unfold f23
  rw [hload, Option.bind_some, Sum.elim_inl]
  dsimp only
  rw [beq1 rfl, bf1 (by decide), bf1 (by decide), bf1 (by omega), bf1 (by omega), bf1 (by omega), bf1 (by omega), bt1 (by omega), bt2 ⟨by omega, by omega⟩, hrd, read_eq he, Option.bind_some]
  dsimp only
  rw [ws (n := n + 1) (by omega), bt2 ⟨by omega, by omega⟩, sl_all _ (n + 1) (by omega), hload, Option.bind_some, Sum.elim_inl]
  dsimp only
  rw [state_eq (by omega) (by omega), Option.bind_some, be1 rfl]
  have hmx : (if n > 1 then n else 1) = n := by
    split <;> omega
  rw [hmx, bt2 ⟨by omega, by omega⟩]
  have hpre : sliceOf m'.2.2.2.2.2.1 0 n = m.2.2.2.2.2.1 := by rw [hev]; exact sl_pre _ _ n hn
  rw [hpre]
  obtain ⟨b, hb, hb2⟩ := legal_eq hz hnow hnew hm (by omega) ha ht (0, n, e.2.1, 0, e.2.2.2.2)
  rw [hb, Option.bind_some]
  refine ⟨b, rfl, fun k0 => ?_⟩
  obtain ⟨m2, s2, hmv⟩ := f3 k0
  obtain ⟨k1, k2⟩ := hm.len (by omega)
  obtain ⟨g1, g2⟩ := move_fit hz hm.ru hm.g _ e (by omega) hmv
  refine hb2 f2 ?_ g2
  show m.2.2.1.now.2.2.1 = e.2.1
  rw [g1]
  exact (hm.g.ok hz (by omega)).turn hz
theorem legal9 (hz : Rz TIC) (cr : CR) {m0 : MT} (hnew : f11 9000 TIC cr 0 = some (.inl (m0, 0, ()))) (l : List EV) (hl : l.length ≤ 15) (hw : ∀ e ∈ l, EvOK e) : ∀ (j i : Nat) (m : MT) (es : List EV) (n : Int), i ≤ l.length → l.length < i + j → MOK TIC m → m.2.2.2.2.2.1.length ≤ i + 1 → Acc m0 es m → m.2.2.2.2.2.1.map (·.1) = startT 0 :: es.map entT → n + 1 = m.2.2.2.2.2.1.length →
    l6_9 9000 j cr m n l (l.length : Int) i = some (.inl ())
  | 0, i, m, es, n, h, h', _, _, _, _, _ => by omega
  | j + 1, i, m, es, n, h, h', hm, hn, ha, ht, hnn => by
    rw [l6_9]
    by_cases hi : i < l.length
    · rw [bt1 (show (i : Int) < l.length by omega), bt2 ⟨by omega, by omega⟩]
      have e : ((i : Int) + 1) = ((i + 1 : Nat) : Int) := by omega
      have he := hw _ (rd_memL ((0, 0, 0, 0, (0, 0, 0, ()), ()) : EV) l i hi)
      rcases mdo_tot hz hm (e := rd ((0, 0, 0, 0, (0, 0, 0, ()), ()) : EV) l (i : Int)) he (by omega) with ⟨x, hx, hd⟩ | ⟨m', hd, hm', ⟨h1, hev⟩, _⟩
      · rw [hd, Option.bind_some]
        dsimp only
        rw [bne1 hx, ws (by omega), e]
        exact legal9 hz cr hnew l hl hw j (i + 1) m es n (by omega) (by omega) hm (by omega) ha ht hnn
      · rw [hd, Option.bind_some]
        dsimp only
        have hlen : m'.2.2.2.2.2.1.length = m.2.2.2.2.2.1.length + 1 := by rw [hev]; simp
        rw [beq1 rfl, tic_eq, Option.bind_some]
        dsimp only
        rw [journal_eq (m := m') (by omega), Option.bind_some]
        dsimp only
        rw [ws (n := n + 1) (by omega)]
        obtain ⟨b, hb, hb2⟩ := decide_eq hz in64_0 hnew hm (by omega) ha ht he hd hm' hev (n + 1) hnn
        rw [hb, Option.bind_some]
        dsimp only
        rw [beq1 rfl]
        have hgo := legal9 hz cr hnew l hl hw j (i + 1) m' (es ++ [rd ((0, 0, 0, 0, (0, 0, 0, ()), ()) : EV) l (i : Int)]) (n + 1) (by omega) (by omega) hm' (by omega) (ha.snoc he hd) (by rw [hev, List.map_append, ht]; simp) (by omega)
        rw [ws (n := (i : Int) + 1) (by omega), e]
        by_cases hk : (rd ((0, 0, 0, 0, (0, 0, 0, ()), ()) : EV) l (i : Int)).1 = 0
        · rw [be1 hk, hb2 hk, Bool.not_true, cond_false]
          exact hgo
        · rw [bn1 hk]
          exact hgo
    · rw [bf1 (show ¬ (i : Int) < l.length by omega)]
end
theorem judged_eq : f21 9000 = some (true, ()) := by
  unfold f21
  rw [tic_eq, Option.bind_some, min_eq, Option.bind_some]
  dsimp only
  rcases mnew_tot TIC CRm 0 with ⟨_, h⟩ | ⟨hz, m, c, h, hm, _, _, s, h0, hms, hs1, hs2⟩
  · exact absurd ⟨tic_rz, start_m⟩ h
  have hj : m.2.2.2.2.2.1 = [(startT 0, h0, ())] := by rw [hms]
  have hg : m.2.2.1 = g0 TIC := by rw [hms]
  have hres : m.2.2.2.1.2.1 = 0 := by
    rw [gres_tic] at hs2
    simp only [Option.some.injEq, Prod.mk.injEq, and_true] at hs2
    rw [hms]
    exact hs2.symm
  rw [h, Option.bind_some, Sum.elim_inl]
  dsimp only
  rw [beq1 rfl, Option.bind_some, Option.bind_some]
  dsimp only
  rw [journal_eq (m := m) (by rw [hj]; simp), Option.bind_some]
  dsimp only
  rw [drop_eq, Option.bind_some]
  have ht : m.2.2.2.2.2.1.map (·.1) = startT 0 :: ([] : List EV).map entT := by rw [hj]; rfl
  have hlen : m.2.2.2.2.2.1.length = 1 := by rw [hj]; rfl
  have hload := load_eq (es := []) in64_0 h hm (by omega) rfl ht
  obtain ⟨b, hb, hb2⟩ := legal_eq (es := []) hz in64_0 h hm (by omega) rfl ht (0, 0, 0, 0, (-1, 0, 0, ()), ())
  have hb1 : b = true := hb2 hres (by rw [hg, now0]) ⟨D9, by rw [hg, now0]; exact gen_tic, has0⟩
  subst hb1
  obtain ⟨n1, n2⟩ := hm.len (by omega)
  have hdec : f23 9000 TIC CRm m.2.2.2.2.2.1 (0, 0, 0, 0, (-1, 0, 0, ()), ()) = some (true, 0, ()) := by
    unfold f23
    rw [hload, Option.bind_some, Sum.elim_inl]
    dsimp only
    rw [beq1 rfl, bf1 (by decide), bf1 (by decide), bf1 (by decide), bf1 (by decide), bf1 (by decide), bf1 (by omega), bf1 (by decide), show w64 (0 + 1) = 1 by decide, bt2 ⟨by omega, by omega⟩, sl_all _ 1 (by omega), hload, Option.bind_some, Sum.elim_inl]
    dsimp only
    rw [state_eq (by omega) (by omega), Option.bind_some, be1 rfl, show (if (0 : Int) > 1 then (0 : Int) else 1) = 1 by decide, bt2 ⟨by omega, by omega⟩, sl_all _ 1 (by omega), hb, Option.bind_some]
  rw [hdec, Option.bind_some]
  rfl
theorem cut15 {α : Type} (l : List α) : sliceOf l 0 (if 15 < (l.length : Int) then 15 else (l.length : Int)) = l.take 15 ∧ (0 : Int) ≤ (if 15 < (l.length : Int) then 15 else (l.length : Int)) ∧ (if 15 < (l.length : Int) then 15 else (l.length : Int)) ≤ (l.length : Int) := by
  unfold sliceOf
  by_cases h : 15 < (l.length : Int)
  · rw [if_pos h]
    exact ⟨by simp, by omega, by omega⟩
  · rw [if_neg h]
    refine ⟨?_, by omega, by omega⟩
    simp only [Int.toNat_natCast, Int.toNat_zero, List.drop_zero]
    rw [List.take_of_length_le (Nat.le_refl _), List.take_of_length_le (by omega)]
theorem legal_pure (cr : CR) (l : List EV) (hl : ∀ e ∈ l, WfD EVT e) : f6 9000 cr l = some (true, ()) := by
  unfold f6
  rw [judged_eq, Option.bind_some]
  dsimp only
  rw [Bool.not_true, cond_false]
  obtain ⟨c1, c2, c3⟩ := cut15 l
  rw [bt2 ⟨c2, c3⟩, c1, tic_eq, Option.bind_some]
  dsimp only
  rcases mnew_tot TIC cr 0 with ⟨⟨e, he, h⟩, _⟩ | ⟨hz, m, c, h, hm, _, _, s, h0, hms, _⟩
  · rw [h, Option.bind_some, Sum.elim_inr]
    dsimp only
    rw [bne1 he]
  · rw [h, Option.bind_some, Sum.elim_inl]
    dsimp only
    rw [beq1 rfl]
    have := legal9 hz cr h (l.take 15) (by simp; omega) (fun e he => evok_of (hl e (List.mem_of_mem_take he))) 9000 0 m [] 0 (by omega) (by simp; omega) hm (by rw [hms]; simp) rfl (by rw [hms]; rfl) (by rw [hms]; rfl)
    rw [show ((0 : Nat) : Int) = 0 from rfl] at this
    rw [this, Option.bind_some, Sum.elim_inl]
theorem legal_x (x : CR × List EV × Unit) (h : ∀ e ∈ x.2.1, WfD EVT e) : f6 9000 x.1 x.2.1 = some (true, ()) := legal_pure x.1 x.2.1 h
end Go.Proofs.YtpnbiakaknbofaaGreatDoor.G
