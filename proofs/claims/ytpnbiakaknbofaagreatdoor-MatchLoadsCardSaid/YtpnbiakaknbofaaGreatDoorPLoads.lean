/- MatchLoads: a match that is loaded out of its journal is the match. -/
import Derived.Test.YtpnbiakaknbofaaGreatDoorTSameS
import Derived.Test.YtpnbiakaknbofaaGreatDoorTRead
namespace Go.Proofs.YtpnbiakaknbofaaGreatDoor.G
open Go.VM Go.Proofs
def Acc : MT → List EV → MT → Prop
  | m, [], m' => m = m'
  | m, e :: es, m' => EvOK e ∧ ∃ m1, f14 9000 m e = some (0, m1, ()) ∧ Acc m1 es m'
theorem Acc.snoc : ∀ {es : List EV} {m m1 m2 : MT} {e : EV}, Acc m es m1 → EvOK e → f14 9000 m1 e = some (0, m2, ()) → Acc m (es ++ [e]) m2
  | [], m, m1, m2, e, h, he, hd => by
    have h : m = m1 := h
    subst h
    exact ⟨he, m2, hd, rfl⟩
  | x :: es, m, m1, m2, e, ⟨hx, m3, h1, h2⟩, he, hd => ⟨hx, m3, h1, Acc.snoc h2 he hd⟩
abbrev D0E : JE := ((⟨#[]⟩ : ByteArray), 0, ())
theorem load16 (T : List JE) (hT : T.length ≤ 200) : ∀ (es : List EV) (j i : Nat) (m m' : MT), i ≤ T.length → T.length < i + j → (T.drop i).map (·.1) = es.map entT → Acc m es m' → l19_16 9000 j m T (T.length : Int) i = some (.inl (m', ()))
  | es, 0, i, m, m', h, h', _, _ => by omega
  | [], j + 1, i, m, m', h, h', ht, ha => by
    rw [l19_16]
    have hl : T.length - i = 0 := by
      have := congrArg List.length ht
      simpa using this
    have ha : m = m' := ha
    rw [bf1 (by omega), ha]
  | e :: es, j + 1, i, m, m', h, h', ht, ⟨he, m1, h1, h2⟩ => by
    rw [l19_16]
    have hl : T.length - i = es.length + 1 := by
      have := congrArg List.length ht
      simpa using this
    have hi : i < T.length := by omega
    rw [drop_rd D0E T i hi, List.map_cons, List.map_cons, List.cons.injEq] at ht
    rw [bt1 (show (i : Int) < T.length by omega), bt2 ⟨by omega, by omega⟩, ht.1, read_eq he, Option.bind_some]
    dsimp only
    rw [beq1 rfl, h1, Option.bind_some]
    dsimp only
    rw [beq1 rfl, ws (n := (i : Int) + 1) (by omega), show ((i : Int) + 1) = ((i + 1 : Nat) : Int) by omega]
    exact load16 T hT es j (i + 1) m1 m' (by omega) (by omega) ht.2 h2
theorem start_cut (now : Int) (h : inI64 now = true) : ∃ s, f56 9000 (startT now) (⟨#[115, 116, 97, 114, 116, 32]⟩ : ByteArray) = some (s, true, ()) ∧ s.data.toList = jn [itoaB now] ∧ s.size ≤ 1000 := by
  have hd : (startT now).data.toList = [115, 116, 97, 114, 116, 32] ++ (itoaB now).data.toList := by
    unfold startT
    rw [ByteArray.data_append, Array.toList_append]
  have hsz : (startT now).size = (startT now).data.toList.length := by rw [ByteArray.size, Array.length_toList]
  have hl : (itoaB now).data.toList.length ≤ 21 := (itoa_tx h).1
  have hs6 : (startT now).size = 6 + (itoaB now).data.toList.length := by rw [hsz, hd]; simp; omega
  have h6 : ((⟨#[115, 116, 97, 114, 116, 32]⟩ : ByteArray).size : Int) = 6 := rfl
  refine ⟨(startT now).extract (6 : Int).toNat ((startT now).size : Int).toNat, ?_, ?_, ?_⟩
  · unfold f56 f93 f130
    rw [h6, bt1 (by omega), bt2 ⟨by omega, by omega⟩, Option.bind_some]
    dsimp only
    have e : ((startT now).extract (0 : Int).toNat (6 : Int).toNat).toList = (⟨#[115, 116, 97, 114, 116, 32]⟩ : ByteArray).toList := by
      rw [tl_data, tl_data, ByteArray.data_extract, Array.toList_extract, List.extract_eq_take_drop, hd]
      rfl
    rw [e, beq_self_eq_true, Bool.not_true, cond_false]
    have hg : (decide (0 ≤ (6 : Int)) && (decide ((6 : Int) ≤ ((startT now).size : Int)) && decide (((startT now).size : Int) ≤ ((startT now).size : Int)))) = true := by
      rw [decide_eq_true (show (0 : Int) ≤ 6 by omega), decide_eq_true (show (6 : Int) ≤ ((startT now).size : Int) by omega), decide_eq_true (show ((startT now).size : Int) ≤ ((startT now).size : Int) by omega)]
      rfl
    rw [hg, cond_true, Option.bind_some]
  · rw [jn_one, ByteArray.data_extract, Array.toList_extract, List.extract_eq_take_drop, hd, show (6 : Int).toNat = 6 from rfl, Int.toNat_natCast]
    have e : (([115, 116, 97, 114, 116, 32] : List UInt8) ++ (itoaB now).data.toList).drop 6 = (itoaB now).data.toList := rfl
    rw [e, List.take_of_length_le (by omega)]
  · have : ((startT now).extract (6 : Int).toNat ((startT now).size : Int).toNat).size ≤ (startT now).size := by rw [ByteArray.size_extract]; omega
    omega
theorem ba_beq (b : ByteArray) : (b == b) = true := by
  obtain ⟨d⟩ := b
  exact (beq_self_eq_true d : (d == d) = true)
theorem ext4 (l : List JE) (hl : l.length ≤ 200) : ∀ (j i : Nat), i ≤ l.length → l.length < i + j → l20_4 9000 j l l (l.length : Int) i = some (.inl ())
  | 0, i, h, h' => by omega
  | j + 1, i, h, h' => by
    rw [l20_4]
    by_cases hi : i < l.length
    · rw [bt1 (show (i : Int) < l.length by omega), bt2 ⟨by omega, by omega⟩, bt2 ⟨by omega, by omega⟩, ws (by omega)]
      simp only [ba_beq, beq_self_eq_true, Bool.and_self, Bool.not_true, cond_false]
      exact ext4 l hl j (i + 1) (by omega) (by omega)
    · rw [bf1 (show ¬ (i : Int) < l.length by omega)]
theorem ext_eq (l : List JE) (hl : l.length ≤ 200) : f20 9000 l l = some (true, ()) := by
  unfold f20
  rw [bf1 (by omega)]
  have := ext4 l hl 9000 0 (by omega) (by omega)
  rw [show ((0 : Nat) : Int) = 0 from rfl] at this
  rw [this]
  rfl
theorem in64_0 : inI64 0 = true := by rw [inI64_eq]; rfl
section
variable {r : RU}
theorem mpos_eq (hz : Rz r) {m : MT} (hm : MOK r m) (hl : m.2.2.2.2.2.1.length ≤ 45) : f18 9000 m = some (m.2.2.1.now, m, ()) ∧ POK r m.2.2.1.now := by
  obtain ⟨n1, _⟩ := hm.len hl
  have hok := hm.g.ok hz (by omega)
  refine ⟨?_, (hok.now_eq hz.ok (by omega)).2⟩
  unfold f18
  rw [pos_eq hz.ok hok (by omega)]
  rfl
theorem sameP_refl (p : PO) : SameP p p := ⟨rfl, rfl, rfl, rfl⟩
theorem loads10 (hz : Rz r) (cr : CR) (last : EV) (l : List EV) (hl : l.length ≤ 25) (hw : ∀ e ∈ l, EvOK e) (m0 : MT) (t0 : ByteArray) : ∀ (j i : Nat) (m : MT) (es : List EV), i ≤ l.length → l.length < i + j → MOK r m → m.2.2.2.2.2.1.length ≤ i + 1 → Acc m0 es m → m.2.2.2.2.2.1.map (·.1) = t0 :: es.map entT →
    ∃ m' es', l5_10 9000 j r cr last m l (l.length : Int) i = some (r, cr, last, m', ()) ∧ MOK r m' ∧ m'.2.2.2.2.2.1.length ≤ l.length + 1 ∧ Acc m0 es' m' ∧ m'.2.2.2.2.2.1.map (·.1) = t0 :: es'.map entT
  | 0, i, m, es, h, h', _, _, _, _ => by omega
  | j + 1, i, m, es, h, h', hm, hn, ha, ht => by
    rw [l5_10]
    by_cases hi : i < l.length
    · rw [bt1 (show (i : Int) < l.length by omega), bt2 ⟨by omega, by omega⟩]
      have e : ((i : Int) + 1) = ((i + 1 : Nat) : Int) := by omega
      have he := hw _ (rd_memL ((0, 0, 0, 0, (0, 0, 0, ()), ()) : EV) l i hi)
      rcases mdo_tot hz hm (e := rd ((0, 0, 0, 0, (0, 0, 0, ()), ()) : EV) l (i : Int)) he (by omega) with ⟨x, hx, hd⟩ | ⟨m', hd, hm', ⟨h1, hev⟩, _⟩
      · rw [hd]
        simp only [Option.bind_some]
        rw [ws (by omega), e]
        exact loads10 hz cr last l hl hw m0 t0 j (i + 1) m es (by omega) (by omega) hm (by omega) ha ht
      · rw [hd]
        simp only [Option.bind_some]
        have hlen : m'.2.2.2.2.2.1.length = m.2.2.2.2.2.1.length + 1 := by rw [hev]; simp
        rw [ws (by omega), e]
        exact loads10 hz cr last l hl hw m0 t0 j (i + 1) m' (es ++ [rd ((0, 0, 0, 0, (0, 0, 0, ()), ()) : EV) l (i : Int)]) (by omega) (by omega) hm' (by omega) (ha.snoc he hd) (by rw [hev, List.map_append, ht]; simp)
    · rw [bf1 (show ¬ (i : Int) < l.length by omega)]
      exact ⟨m, es, rfl, hm, by omega, ha, ht⟩
theorem load_eq {cr : CR} {now : Int} (hnow : inI64 now = true) {m0 m : MT} (hnew : f11 9000 r cr now = some (.inl (m0, 0, ()))) {es : List EV} (hm : MOK r m) (hl : m.2.2.2.2.2.1.length ≤ 60) (ha : Acc m0 es m) (ht : m.2.2.2.2.2.1.map (·.1) = startT now :: es.map entT) :
    f19 9000 r cr m.2.2.2.2.2.1 = some (.inl (m, 0, ())) := by
  have hch := hm.ch
  generalize m.2.2.2.2.2.1 = J at *
  cases J with
  | nil => simp at ht
  | cons a T =>
    rw [List.map_cons, List.cons.injEq] at ht
    have hlen : (a :: T).length = T.length + 1 := rfl
    unfold f19
    rw [jchk_eq hch (by omega), Option.bind_some]
    dsimp only
    rw [beq1 rfl, bn1 (by omega), bt1 (by omega), show (rd (((⟨#[]⟩ : ByteArray), 0, ()) : JE) (a :: T) 0).1 = startT now from ht.1]
    obtain ⟨s, h1, h2, h3⟩ := start_cut now hnow
    rw [h1, Option.bind_some]
    dsimp only
    rw [Bool.not_true, cond_false]
    have hn := nums_eq now [] (by simp) (fun x hx => by simp at hx; rw [hx]; exact hnow) s (by rw [h2]; rfl) h3
    rw [show (([now] : List Int).length : Int) = 1 from rfl] at hn
    rw [hn, Option.bind_some]
    dsimp only
    rw [beq1 rfl, bt1 (by simp), show rd (0 : Int) [now] 0 = now from rfl, hnew, Option.bind_some, Sum.elim_inl]
    dsimp only
    rw [beq1 rfl, bt2 ⟨by omega, by omega⟩]
    have hs : sliceOf (a :: T) 1 ((a :: T).length : Int) = T := by
      unfold sliceOf
      rw [Int.toNat_natCast, show (1 : Int).toNat = 1 from rfl, List.take_of_length_le (Nat.le_refl _)]
      rfl
    rw [hs]
    have := load16 T (by omega) es 9000 0 m0 m (by omega) (by omega) (by rw [List.drop_zero]; exact ht.2) ha
    rw [show ((0 : Nat) : Int) = 0 from rfl] at this
    rw [this, Option.bind_some, Sum.elim_inl]
end
theorem loads_pure (r : RU) (cr : CR) (l : List EV) (last : EV) (hl : ∀ e ∈ l, WfD EVT e) (hlast : WfD EVT last) : f5 9000 r cr l last = some (true, ()) := by
  unfold f5
  rw [plays_eq]
  simp only [Option.bind_some, Bool.not_true, cond_false]
  obtain ⟨c1, c2, c3⟩ := cut25 l
  rw [bt2 ⟨c2, c3⟩, c1]
  unfold f10
  simp only [Option.bind_some]
  cases decide ((r.2.2.2.2.1.length : Int) > 20)
  rotate_left
  · rfl
  simp only [cond_false]
  rcases mnew_tot r cr 0 with ⟨⟨e, he, h⟩, _⟩ | ⟨hz, m, c, h, hm, _, _, s, h0, hms, _⟩
  · rw [h]
    simp only [Option.bind_some, Sum.elim_inr]
    rw [bne1 he]
  · rw [h]
    simp only [Option.bind_some, Sum.elim_inl]
    rw [beq1 rfl]
    obtain ⟨m1, es, h1, hm1, hn1, ha1, ht1⟩ := loads10 hz cr last (l.take 25) (by simp; omega) (fun e he => evok_of (hl e (List.mem_of_mem_take he))) m (startT 0) 9000 0 m [] (by omega) (by simp; omega) hm (by rw [hms]; simp) rfl (by rw [hms]; rfl)
    have hn1 : m1.2.2.2.2.2.1.length ≤ 26 := by
      have : (l.take 25).length ≤ 25 := by simp; omega
      omega
    rw [show ((0 : Nat) : Int) = 0 from rfl] at h1
    rw [h1, Option.bind_some]
    dsimp only
    rw [journal_eq (m := m1) (by omega), Option.bind_some]
    dsimp only
    rw [load_eq in64_0 h hm1 (by omega) ha1 ht1, Option.bind_some, Sum.elim_inl]
    dsimp only
    rw [beq1 rfl]
    obtain ⟨n1, n2⟩ := hm1.len (by omega)
    have hst := state_eq (m := m1) (by omega) (by omega)
    obtain ⟨hp, hpok⟩ := mpos_eq hz hm1 (by omega)
    rw [hst, Option.bind_some]
    dsimp only
    rw [Option.bind_some]
    dsimp only
    rw [same_st (stOf m1) (by show m1.2.2.1.2.2.1.length ≤ 50; omega) (by show m1.2.2.2.1.2.2.2.2.2.1.length ≤ 50; omega), Option.bind_some]
    dsimp only
    rw [Bool.not_true, cond_false, hp, Option.bind_some]
    dsimp only
    rw [Option.bind_some]
    dsimp only
    rw [same_eq hpok, decide_eq_true (sameP_refl _), Option.bind_some]
    dsimp only
    rw [Bool.not_true, cond_false]
    obtain ⟨x, m2, hd, hm2, hn2⟩ : ∃ x m2, f14 9000 m1 last = some (x, m2, ()) ∧ MOK r m2 ∧ m2.2.2.2.2.2.1.length ≤ 27 := by
      rcases mdo_tot hz hm1 (evok_of hlast) (by omega) with ⟨x, _, hd⟩ | ⟨m2, hd, hm2, ⟨_, hev⟩, _⟩
      · exact ⟨x, m1, hd, hm1, by omega⟩
      · exact ⟨0, m2, hd, hm2, by rw [hev]; simp; omega⟩
    obtain ⟨k1, k2⟩ := hm2.len (by omega)
    rw [hd, Option.bind_some]
    dsimp only
    rw [Option.bind_some]
    dsimp only
    rw [journal_eq (m := m2) (by omega), Option.bind_some]
    dsimp only
    rw [Option.bind_some]
    dsimp only
    rw [beq_self_eq_true, cond_true, state_eq (m := m2) (by omega) (by omega), Option.bind_some]
    dsimp only
    rw [Option.bind_some]
    dsimp only
    rw [same_st (stOf m2) (by show m2.2.2.1.2.2.1.length ≤ 50; omega) (by show m2.2.2.2.1.2.2.2.2.2.1.length ≤ 50; omega), Option.bind_some]
    dsimp only
    rw [cond_true, be1 rfl, ext_eq _ (by omega)]
    rfl
theorem loads_x (x : RU × CR × List EV × EV × Unit) (h : ∀ e ∈ x.2.2.1, WfD EVT e) (h2 : WfD EVT x.2.2.2.1) : f5 9000 x.1 x.2.1 x.2.2.1 x.2.2.2.1 = some (true, ()) := loads_pure x.1 x.2.1 x.2.2.1 x.2.2.2.1 h h2
end Go.Proofs.YtpnbiakaknbofaaGreatDoor.G
