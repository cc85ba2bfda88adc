import Derived.Test.YtpnbiakaknbofaaGreatDoorTMatch3
namespace Go.Proofs.YtpnbiakaknbofaaGreatDoor.G
open Go.VM Go.Proofs
abbrev TIC : RU := ((⟨#[84, 73, 67]⟩ : ByteArray), 3, 3, [(83, 5, 0, [], ())], [0, 0, 0, 0, 0, 0, 0, 0, 0], false, false, [(0, 0, 3, false, ())], 2, 0, 0, ())
abbrev POS0 : PO := ([0, 0, 0, 0, 0, 0, 0, 0, 0], ([5], [5], ()), 0, 0, ())
abbrev D9 : List MV := [(-1, 0, 0, ()), (-1, 1, 0, ()), (-1, 2, 0, ()), (-1, 3, 0, ()), (-1, 4, 0, ()), (-1, 5, 0, ()), (-1, 6, 0, ()), (-1, 7, 0, ()), (-1, 8, 0, ())]
theorem check_tic : f104 9000 TIC = some (0, ()) := by kernel_rfl
theorem pcheck_tic : f117 9000 TIC POS0 = some (0, ()) := by kernel_rfl
theorem gen3_tic : l75_3 9000 9000 TIC POS0 [] [5] 1 0 = some (TIC, POS0, D9, ()) := by kernel_rfl
theorem gen13_tic : l75_13 9000 9000 TIC POS0 D9 [0, 0, 0, 0, 0, 0, 0, 0, 0] 9 0 = some (D9, ()) := by kernel_rfl
theorem cpt_tic : f114 9000 D9 = some (D9, ()) := by kernel_rfl
theorem sort_tic : f112 9000 D9 = some (D9, ()) := by
  unfold f112
  rw [show Nat.ble 5 9000 = true from rfl, Bool.true_and, bt1 (by decide)]
  rw [List.mergeSort_of_pairwise (by decide)]
theorem gen_tic : f75 9000 TIC POS0 = some (D9, ()) := by
  unfold f75
  rw [be1 rfl]
  rw [show l75_3 9000 9000 TIC POS0 [] POS0.2.1.1 (POS0.2.1.1.length : Int) 0 = some (TIC, POS0, D9, ()) from gen3_tic]
  simp only [Option.bind_some]
  rw [show l75_13 9000 9000 TIC POS0 D9 POS0.1 (POS0.1.length : Int) 0 = some (D9, ()) from gen13_tic]
  simp only [Option.bind_some]
  rw [sort_tic]
  simp only [Option.bind_some]
  rw [cpt_tic]
  rfl
theorem ends_tic : l91_3 9000 9000 TIC POS0 1 [(0, 0, 3, false, ())] 1 0 = some (.inl (TIC, POS0, 1, ())) := by kernel_rfl
theorem res_tic : f91 9000 TIC POS0 = some (0, ()) := by
  unfold f91
  rw [show l91_3 9000 9000 TIC POS0 (w64 (1 - POS0.2.2.1)) TIC.2.2.2.2.2.2.2.1 (TIC.2.2.2.2.2.2.2.1.length : Int) 0 = some (.inl (TIC, POS0, 1, ())) from ends_tic]
  simp only [Option.bind_some, Sum.elim_inl]
  rw [gen_tic]
  rfl
theorem gres_tic : f53 9000 (g0 TIC) = some (0, ()) := by
  unfold f53
  rw [show f89 9000 (g0 TIC) = some (POS0, ()) from by kernel_rfl]
  simp only [Option.bind_some]
  rw [show (g0 TIC).1 = TIC from rfl, res_tic]
  rfl
end Go.Proofs.YtpnbiakaknbofaaGreatDoor.G
namespace Go.Proofs.YtpnbiakaknbofaaGreatDoor.G
open Go.VM Go.Proofs
section
variable {r : RU}
theorem clone_pc (l : List PC) (hl : l.length ≤ 1000) : f67 9000 l = some (l, ()) := by
  unfold f67
  have e : decide ((([] : List PC).length + l.length) * 48 ≤ roomN) = true := decide_eq_true (by simp only [List.length_nil]; unfold roomN; omega)
  rw [e]
  cases l with
  | nil => exact both_same _
  | cons a r => rfl
theorem clone_en (l : List EN) (hl : l.length ≤ 1000) : f69 9000 l = some (l, ()) := by
  unfold f69
  have e : decide ((([] : List EN).length + l.length) * 32 ≤ roomN) = true := decide_eq_true (by simp only [List.length_nil]; unfold roomN; omega)
  rw [e]
  cases l with
  | nil => exact both_same _
  | cons a r => rfl
theorem clone_wy (l : List WY) (hl : l.length ≤ 1000) : f70 9000 l = some (l, ()) := by
  unfold f70
  have e : decide ((([] : List WY).length + l.length) * 32 ≤ roomN) = true := decide_eq_true (by simp only [List.length_nil]; unfold roomN; omega)
  rw [e]
  cases l with
  | nil => exact both_same _
  | cons a r => rfl
theorem clone_per (l : PS) (hl : l.length ≤ 1000) : f32 9000 l = some (l, ()) := by
  unfold f32
  have e : decide ((([] : PS).length + l.length) * 16 ≤ roomN) = true := decide_eq_true (by simp only [List.length_nil]; unfold roomN; omega)
  rw [e]
  cases l with
  | nil => exact both_same _
  | cons a r => rfl
theorem set_rd {α : Type} (d : α) (l : List α) (i : Nat) (h : i < l.length) : l.set i (rd d l (i : Int)) = l := by
  have e : rd d l (i : Int) = l[i] := by simp [rd, List.getD_eq_getElem?_getD, List.getElem?_eq_getElem h]
  rw [e, List.set_getElem_self]
theorem copied3 (hr : ROK r) (s2 : RU) : ∀ (j i : Nat), i ≤ r.2.2.2.1.length → r.2.2.2.1.length < i + j → l33_3 9000 j r s2 (r.2.2.2.1.length : Int) i = some (r, s2, ())
  | 0, i, h, h' => by omega
  | j + 1, i, h, h' => by
    rw [l33_3]
    have hn := hr.n6
    by_cases hi : i < r.2.2.2.1.length
    · have e : ((i : Int) + 1) = ((i + 1 : Nat) : Int) := by omega
      obtain ⟨_, _, _, _, _, _, hw, _⟩ := hr.pcs i hi
      have hw : (rd ((0, 0, 0, [], ()) : PC) r.2.2.2.1 (i : Int)).2.2.2.1.length ≤ 16 := hw
      rw [bt1 (show (i : Int) < r.2.2.2.1.length by omega), bt2 ⟨by omega, by omega⟩, clone_wy _ (by omega)]
      simp only [Option.bind_some]
      rw [bt2 ⟨by omega, by omega⟩, ws (by omega), e, show ((i : Nat) : Int).toNat = i from rfl]
      have := set_rd ((0, 0, 0, [], ()) : PC) r.2.2.2.1 i hi
      have e2 : ((r.1, r.2.1, r.2.2.1, r.2.2.2.1.set i ((rd ((0, 0, 0, [], ()) : PC) r.2.2.2.1 (i : Int)).1, (rd ((0, 0, 0, [], ()) : PC) r.2.2.2.1 (i : Int)).2.1, (rd ((0, 0, 0, [], ()) : PC) r.2.2.2.1 (i : Int)).2.2.1, (rd ((0, 0, 0, [], ()) : PC) r.2.2.2.1 (i : Int)).2.2.2.1, ()), r.2.2.2.2) : RU) = r := by
        rw [show (((rd ((0, 0, 0, [], ()) : PC) r.2.2.2.1 (i : Int)).1, (rd ((0, 0, 0, [], ()) : PC) r.2.2.2.1 (i : Int)).2.1, (rd ((0, 0, 0, [], ()) : PC) r.2.2.2.1 (i : Int)).2.2.1, (rd ((0, 0, 0, [], ()) : PC) r.2.2.2.1 (i : Int)).2.2.2.1, ()) : PC) = rd ((0, 0, 0, [], ()) : PC) r.2.2.2.1 (i : Int) from rfl, this]
      rw [e2]
      exact copied3 hr s2 j (i + 1) (by omega) (by omega)
    · rw [bf1 (show ¬ (i : Int) < r.2.2.2.1.length by omega)]
theorem copied_eq (hr : ROK r) : f33 9000 r = some (r, ()) := by
  have hn := hr.n6
  have he := hr.e6
  have hs := hr.start64
  unfold f33
  rw [clone_pc _ (by omega)]
  simp only [Option.bind_some]
  rw [clone_eq _ _ (by omega)]
  simp only [Option.bind_some]
  rw [clone_en _ (by omega)]
  simp only [Option.bind_some]
  have := copied3 hr ((⟨#[]⟩ : ByteArray), 0, 0, [], [], false, false, [], 0, 0, 0, ()) 9000 0 (by omega) (by omega)
  rw [show ((0 : Nat) : Int) = 0 from rfl] at this
  have e : ((r.1, r.2.1, r.2.2.1, r.2.2.2.1, r.2.2.2.2.1, r.2.2.2.2.2.1, r.2.2.2.2.2.2.1, r.2.2.2.2.2.2.2.1, r.2.2.2.2.2.2.2.2) : RU) = r := rfl
  rw [e, this]
  rfl
theorem start_ok {cr : CR} {now : Int} {c : CL} (h : f31 9000 cr now = some (c, 0, ())) : RuOK cr.1 cr.2.1 cr.2.2.1 ∧ 0 ≤ now ∧ now ≤ 100000000 := by
  obtain ⟨ps, inc, dly, _⟩ := cr
  unfold f31 at h
  rcases clk_spec ps inc dly with ⟨e, h', he, _⟩ | ⟨h', hr⟩
  · rw [h', Option.bind_some] at h
    simp only [bne_iff_ne.2 he, cond_true, Option.some.injEq, Prod.mk.injEq] at h
    exact absurd h.2.1 he
  · rw [h', Option.bind_some] at h
    simp only [show ((0 : Int) != 0) = false from rfl, cond_false] at h
    by_cases h1 : now < 0
    · rw [bt1 h1] at h; simp at h
    · rw [bf1 h1] at h
      by_cases h2 : now > 100000000
      · rw [bt1 h2] at h; simp at h
      · exact ⟨hr, by omega, by omega⟩
noncomputable def startT (now : Int) : ByteArray := (⟨#[115, 116, 97, 114, 116, 32]⟩ : ByteArray) ++ itoaB now
theorem start_tx {now : Int} (h : inI64 now = true) : TxB 200 (startT now) := by
  obtain ⟨h1, h2⟩ := itoa_tx h
  have e : (startT now).data.toList = [115, 116, 97, 114, 116, 32] ++ (itoaB now).data.toList := by
    unfold startT
    rw [ByteArray.data_append, Array.toList_append]
  unfold TxB
  rw [e]
  refine ⟨by simp only [List.length_append, List.length_cons, List.length_nil]; omega, fun b hb => ?_⟩
  rcases List.mem_append.1 hb with hb | hb
  · simp only [List.mem_cons, List.not_mem_nil, or_false] at hb
    rcases hb with rfl | rfl | rfl | rfl | rfl | rfl <;> exact ⟨by decide, by decide⟩
  · exact h2 b hb
theorem mnew_tot (r : RU) (cr : CR) (now : Int) : ((∃ e, e ≠ 0 ∧ f11 9000 r cr now = some (.inr ((), e, ()))) ∧ ¬ (Rz r ∧ ∃ c, f31 9000 cr now = some (c, 0, ()))) ∨
    (Rz r ∧ ∃ m c, f11 9000 r cr now = some (.inl (m, 0, ())) ∧ MOK r m ∧ f31 9000 cr now = some (c, 0, ()) ∧ (0 ≤ now ∧ now ≤ 100000000) ∧ ∃ s h, m = (r, cr, g0 r, s, now, [(startT now, h, ())], ()) ∧ s.2.2.2 = (c, ((-1, -1, ()), ((-1, -1, ()), (-1, -1, ()), ()), ()), [], ()) ∧ f53 9000 (g0 r) = some (s.2.1, ())) := by
  unfold f11
  rcases new_tot r with ⟨hz, hn⟩ | ⟨e, he, hn⟩
  rotate_left
  · rw [hn]
    simp only [Option.bind_some, Sum.elim_inr]
    rw [bne1 he]
    refine .inl ⟨⟨e, he, rfl⟩, fun h => ?_⟩
    have := new_eq h.1
    rw [hn] at this
    cases this
  rw [hn]
  simp only [Option.bind_some, Sum.elim_inl]
  rw [beq1 rfl]
  obtain ⟨c, e, hc⟩ := start_tot cr now
  rw [hc]
  simp only [Option.bind_some]
  by_cases h0 : e = 0
  rotate_left
  · rw [bne1 h0]
    refine .inl ⟨⟨e, h0, rfl⟩, fun h => ?_⟩
    obtain ⟨_, c2, h2⟩ := h
    simp only [Option.some.injEq, Prod.mk.injEq] at h2
    exact h0 h2.2.1
  subst h0
  rw [beq1 rfl]
  obtain ⟨hr, hn0, hn1⟩ := start_ok hc
  have hi : inI64 now = true := by
    rw [inI64_eq, decide_eq_true (show (-9223372036854775808 : Int) ≤ now by omega), decide_eq_true (show now ≤ 9223372036854775807 by omega)]
    rfl
  rw [clone_per _ (by have := hr.2.1; omega)]
  simp only [Option.bind_some]
  rw [copied_eq hz.ok]
  simp only [Option.bind_some]
  unfold f34 f36 f73
  simp only [hi, cond_true, Option.bind_some]
  have htx := start_tx hi
  have hit := (itoa_tx hi).1
  have hfit : fitsS (⟨#[115, 116, 97, 114, 116, 32]⟩ : ByteArray) (itoaB now) = true := by
    rw [fitsS_eq]
    refine decide_eq_true ?_
    have : (itoaB now).size = (itoaB now).data.toList.length := by rw [ByteArray.size, Array.length_toList]
    have h6 : (⟨#[115, 116, 97, 114, 116, 32]⟩ : ByteArray).size = 6 := rfl
    omega
  rw [hfit]
  simp only [cond_true]
  obtain ⟨h, ha, hch⟩ := jappend_ok (l := []) trivial (by simp) (txok_of htx)
  have ha : f35 9000 [] ((⟨#[115, 116, 97, 114, 116, 32]⟩ : ByteArray) ++ itoaB now) = some ([(startT now, h, ())], 0, ()) := ha
  rw [ha]
  simp only [Option.bind_some]
  have hg : GP r (g0 r) := rfl
  obtain ⟨_, x, _, hx, _⟩ := result_tot hz.ok (g0_ok r) (by simp [g0])
  unfold f37
  dsimp only
  rw [hx]
  simp only [Option.bind_some]
  rw [be1 rfl]
  by_cases h1 : x = 0
  · rw [beq1 h1]
    refine .inr ⟨hz, _, c, rfl, ⟨rfl, hg, ⟨x, hx, .inl ⟨rfl, rfl, h1⟩⟩, hch, by simp [g0]⟩, rfl, ⟨hn0, hn1⟩, _, h, rfl, rfl, by rw [h1]⟩
  · rw [bne1 h1]
    refine .inr ⟨hz, _, c, rfl, ⟨rfl, hg, ⟨x, hx, .inr (.inr ⟨rfl, h1, rfl⟩)⟩, hch, by simp [g0]⟩, rfl, ⟨hn0, hn1⟩, _, h, rfl, rfl, rfl⟩
def stOf (m : MT) : ST := (m.2.2.1.2.2.1, m.2.2.2.1.2.1, m.2.2.2.1.2.2.1, m.2.2.2.1.2.2.2.1, m.2.2.2.1.2.2.2.2.1, m.2.2.2.1.2.2.2.2.2.1, ())
theorem state_eq {m : MT} (hl : m.2.2.1.2.2.1.length ≤ 400) (h5 : m.2.2.2.1.2.2.2.2.2.1.length ≤ 50) : f12 9000 m = some (stOf m, m, ()) := by
  unfold f12
  rw [moves_eq hl]
  simp only [Option.bind_some]
  rw [clone47 _ h5]
  rfl
theorem MOK.len {m : MT} (h : MOK r m) (hl : m.2.2.2.2.2.1.length ≤ 45) : m.2.2.1.2.2.1.length ≤ 44 ∧ m.2.2.2.1.2.2.2.2.2.1.length ≤ 44 := by
  have := h.n
  omega
end
end Go.Proofs.YtpnbiakaknbofaaGreatDoor.G
