import Derived.Test.YtpnbiakaknbofaaGreatDoorTMatch4
import Derived.Test.YtpnbiakaknbofaaGreatDoorTRead
/- Events that come from outside; the first 25 of them. -/
namespace Go.Proofs.YtpnbiakaknbofaaGreatDoor.G
open Go.VM Go.Proofs
abbrev EVT : Ty := .pair (.int .i64) (.pair (.int .i64) (.pair (.int .i64) (.pair (.int .i64) (.pair (.pair (.int .i64) (.pair (.int .i64) (.pair (.int .i64) .unit))) .unit))))
theorem wf_in {n : Int} (h : WfD (.int .i64) n) : inI64 n = true := by
  have h : (Lit.int .i64 n).wf = true := h
  rw [inI64_eq]
  simp only [Lit.wf, Bool.and_eq_true, decide_eq_true_eq] at h
  have h1 : IntKind.i64.min = -9223372036854775808 := rfl
  have h2 : IntKind.i64.max = 9223372036854775807 := rfl
  rw [h1, h2] at h
  rw [decide_eq_true h.1, decide_eq_true h.2]
  rfl
theorem evok_of {e : EV} (h : WfD EVT e) : EvOK e := by
  obtain ⟨h1, h2, h3, h4, ⟨h5, h6, h7, _⟩, _⟩ := h
  intro x hx
  have hx : x ∈ [e.1, e.2.1, e.2.2.1, e.2.2.2.1, e.2.2.2.2.1.1, e.2.2.2.2.1.2.1, e.2.2.2.2.1.2.2.1] := hx
  simp only [List.mem_cons, List.not_mem_nil, or_false] at hx
  rcases hx with rfl | rfl | rfl | rfl | rfl | rfl | rfl
  · exact wf_in h1
  · exact wf_in h2
  · exact wf_in h3
  · exact wf_in h4
  · exact wf_in h5
  · exact wf_in h6
  · exact wf_in h7
theorem cut25 {α : Type} (l : List α) : sliceOf l 0 (if 25 < (l.length : Int) then 25 else (l.length : Int)) = l.take 25 ∧ (0 : Int) ≤ (if 25 < (l.length : Int) then 25 else (l.length : Int)) ∧ (if 25 < (l.length : Int) then 25 else (l.length : Int)) ≤ (l.length : Int) := by
  unfold sliceOf
  by_cases h : 25 < (l.length : Int)
  · rw [if_pos h]
    exact ⟨by simp, by omega, by omega⟩
  · rw [if_neg h]
    refine ⟨?_, by omega, by omega⟩
    simp only [Int.toNat_natCast, Int.toNat_zero, List.drop_zero]
    rw [List.take_of_length_le (Nat.le_refl _), List.take_of_length_le (by omega)]
end Go.Proofs.YtpnbiakaknbofaaGreatDoor.G
/- The journal is shown. -/
namespace Go.Proofs.YtpnbiakaknbofaaGreatDoor.G
open Go.VM Go.Proofs
theorem clone_je (l : List JE) (hl : l.length ≤ 1000) : f40 9000 l = some (l, ()) := by
  unfold f40
  have e : decide ((([] : List JE).length + l.length) * 24 ≤ roomN) = true := decide_eq_true (by simp only [List.length_nil]; unfold roomN; omega)
  rw [e]
  cases l with
  | nil => exact both_same _
  | cons a r => rfl
theorem journal_eq {m : MT} (hl : m.2.2.2.2.2.1.length ≤ 1000) : f13 9000 m = some (m.2.2.2.2.2.1, m, ()) := by
  unfold f13
  rw [clone_je _ hl]
  rfl
end Go.Proofs.YtpnbiakaknbofaaGreatDoor.G
/- A match that is loaded out of its journal is the match. -/
namespace Go.Proofs.YtpnbiakaknbofaaGreatDoor.G
open Go.VM Go.Proofs
def Acc : MT → List EV → MT → Prop
  | m, [], m' => m = m'
  | m, e :: es, m' => EvOK e ∧ ∃ m1, f14 9000 m e = some (0, m1, ()) ∧ Acc m1 es m'
theorem Acc.snoc : ∀ {es : List EV} {m m1 m2 : MT} {e : EV}, Acc m es m1 → EvOK e → f14 9000 m1 e = some (0, m2, ()) → Acc m (es ++ [e]) m2
  | [], m, m1, m2, e, h, he, hd => by
    have h : m = m1 := h
    subst h
    exact ⟨he, m2, hd, rfl⟩
  | x :: es, m, m1, m2, e, ⟨hx, m3, h1, h2⟩, he, hd => ⟨hx, m3, h1, Acc.snoc h2 he hd⟩
abbrev D0E : JE := ((⟨#[]⟩ : ByteArray), 0, ())
theorem load16 (T : List JE) (hT : T.length ≤ 200) : ∀ (es : List EV) (j i : Nat) (m m' : MT), i ≤ T.length → T.length < i + j → (T.drop i).map (·.1) = es.map entT → Acc m es m' → l19_16 9000 j m T (T.length : Int) i = some (.inl (m', ()))
  | es, 0, i, m, m', h, h', _, _ => by omega
  | [], j + 1, i, m, m', h, h', ht, ha => by
    rw [l19_16]
    have hl : T.length - i = 0 := by
      have := congrArg List.length ht
      simpa using this
    have ha : m = m' := ha
    rw [bf1 (by omega), ha]
  | e :: es, j + 1, i, m, m', h, h', ht, ⟨he, m1, h1, h2⟩ => by
    rw [l19_16]
    have hl : T.length - i = es.length + 1 := by
      have := congrArg List.length ht
      simpa using this
    have hi : i < T.length := by omega
    rw [drop_rd D0E T i hi, List.map_cons, List.map_cons, List.cons.injEq] at ht
    rw [bt1 (show (i : Int) < T.length by omega), bt2 ⟨by omega, by omega⟩, ht.1, read_eq he, Option.bind_some]
    dsimp only
    rw [beq1 rfl, h1, Option.bind_some]
    dsimp only
    rw [beq1 rfl, ws (n := (i : Int) + 1) (by omega), show ((i : Int) + 1) = ((i + 1 : Nat) : Int) by omega]
    exact load16 T hT es j (i + 1) m1 m' (by omega) (by omega) ht.2 h2
theorem start_cut (now : Int) (h : inI64 now = true) : ∃ s, f56 9000 (startT now) (⟨#[115, 116, 97, 114, 116, 32]⟩ : ByteArray) = some (s, true, ()) ∧ s.data.toList = jn [itoaB now] ∧ s.size ≤ 1000 := by
  have hd : (startT now).data.toList = [115, 116, 97, 114, 116, 32] ++ (itoaB now).data.toList := by
    unfold startT
    rw [ByteArray.data_append, Array.toList_append]
  have hsz : (startT now).size = (startT now).data.toList.length := by rw [ByteArray.size, Array.length_toList]
  have hl : (itoaB now).data.toList.length ≤ 21 := (itoa_tx h).1
  have hs6 : (startT now).size = 6 + (itoaB now).data.toList.length := by rw [hsz, hd]; simp; omega
  have h6 : ((⟨#[115, 116, 97, 114, 116, 32]⟩ : ByteArray).size : Int) = 6 := rfl
  refine ⟨(startT now).extract (6 : Int).toNat ((startT now).size : Int).toNat, ?_, ?_, ?_⟩
  · unfold f56 f93 f130
    rw [h6, bt1 (by omega), bt2 ⟨by omega, by omega⟩, Option.bind_some]
    dsimp only
    have e : ((startT now).extract (0 : Int).toNat (6 : Int).toNat).toList = (⟨#[115, 116, 97, 114, 116, 32]⟩ : ByteArray).toList := by
      rw [tl_data, tl_data, ByteArray.data_extract, Array.toList_extract, List.extract_eq_take_drop, hd]
      rfl
    rw [e, beq_self_eq_true, Bool.not_true, cond_false]
    have hg : (decide (0 ≤ (6 : Int)) && (decide ((6 : Int) ≤ ((startT now).size : Int)) && decide (((startT now).size : Int) ≤ ((startT now).size : Int)))) = true := by
      rw [decide_eq_true (show (0 : Int) ≤ 6 by omega), decide_eq_true (show (6 : Int) ≤ ((startT now).size : Int) by omega), decide_eq_true (show ((startT now).size : Int) ≤ ((startT now).size : Int) by omega)]
      rfl
    rw [hg, cond_true, Option.bind_some]
  · rw [jn_one, ByteArray.data_extract, Array.toList_extract, List.extract_eq_take_drop, hd, show (6 : Int).toNat = 6 from rfl, Int.toNat_natCast]
    have e : (([115, 116, 97, 114, 116, 32] : List UInt8) ++ (itoaB now).data.toList).drop 6 = (itoaB now).data.toList := rfl
    rw [e, List.take_of_length_le (by omega)]
  · have : ((startT now).extract (6 : Int).toNat ((startT now).size : Int).toNat).size ≤ (startT now).size := by rw [ByteArray.size_extract]; omega
    omega
theorem in64_0 : inI64 0 = true := by rw [inI64_eq]; rfl
section
variable {r : RU}
theorem mpos_eq (hz : Rz r) {m : MT} (hm : MOK r m) (hl : m.2.2.2.2.2.1.length ≤ 45) : f18 9000 m = some (m.2.2.1.now, m, ()) ∧ POK r m.2.2.1.now := by
  obtain ⟨n1, _⟩ := hm.len hl
  have hok := hm.g.ok hz (by omega)
  refine ⟨?_, (hok.now_eq hz.ok (by omega)).2⟩
  unfold f18
  rw [pos_eq hz.ok hok (by omega)]
  rfl
theorem load_eq {cr : CR} {now : Int} (hnow : inI64 now = true) {m0 m : MT} (hnew : f11 9000 r cr now = some (.inl (m0, 0, ()))) {es : List EV} (hm : MOK r m) (hl : m.2.2.2.2.2.1.length ≤ 60) (ha : Acc m0 es m) (ht : m.2.2.2.2.2.1.map (·.1) = startT now :: es.map entT) :
    f19 9000 r cr m.2.2.2.2.2.1 = some (.inl (m, 0, ())) := by
  have hch := hm.ch
  generalize m.2.2.2.2.2.1 = J at *
  cases J with
  | nil => simp at ht
  | cons a T =>
    rw [List.map_cons, List.cons.injEq] at ht
    have hlen : (a :: T).length = T.length + 1 := rfl
    unfold f19
    rw [jchk_eq hch (by omega), Option.bind_some]
    dsimp only
    rw [beq1 rfl, bn1 (by omega), bt1 (by omega), show (rd (((⟨#[]⟩ : ByteArray), 0, ()) : JE) (a :: T) 0).1 = startT now from ht.1]
    obtain ⟨s, h1, h2, h3⟩ := start_cut now hnow
    rw [h1, Option.bind_some]
    dsimp only
    rw [Bool.not_true, cond_false]
    have hn := nums_eq now [] (by simp) (fun x hx => by simp at hx; rw [hx]; exact hnow) s (by rw [h2]; rfl) h3
    rw [show (([now] : List Int).length : Int) = 1 from rfl] at hn
    rw [hn, Option.bind_some]
    dsimp only
    rw [beq1 rfl, bt1 (by simp), show rd (0 : Int) [now] 0 = now from rfl, hnew, Option.bind_some, Sum.elim_inl]
    dsimp only
    rw [beq1 rfl, bt2 ⟨by omega, by omega⟩]
    have hs : sliceOf (a :: T) 1 ((a :: T).length : Int) = T := by
      unfold sliceOf
      rw [Int.toNat_natCast, show (1 : Int).toNat = 1 from rfl, List.take_of_length_le (Nat.le_refl _)]
      rfl
    rw [hs]
    have := load16 T (by omega) es 9000 0 m0 m (by omega) (by omega) (by rw [List.drop_zero]; exact ht.2) ha
    rw [show ((0 : Nat) : Int) = 0 from rfl] at this
    rw [this, Option.bind_some, Sum.elim_inl]
end
end Go.Proofs.YtpnbiakaknbofaaGreatDoor.G
