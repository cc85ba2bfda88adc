import Derived.Lib.ItoaLen
import Derived.Test.YtpnbiakaknbofaaGreatDoorTOffer
namespace Go.Proofs.YtpnbiakaknbofaaGreatDoor.G
open Go.VM Go.Proofs
theorem wj {n : Int} (h : -9223372036854775808 ≤ n ∧ n ≤ 9223372036854775807) : w64 n = n := by
  unfold w64; rw [IntKind.wrap_i64]; omega
abbrev JE := ByteArray × Int × Unit
theorem rd_at {α : Type} (d x : α) (p r : List α) : rd d (p ++ x :: r) p.length = x := by
  unfold rd; simp
theorem jsum_l (s : ByteArray) : ∀ (j i : Nat) (a : Int), i ≤ s.size → s.size < i + j → s.size ≤ 1000000 → ∃ h, l72_3 9000 j s a s.size i = some (s, h, ())
  | 0, i, a, h, h', _ => by omega
  | j + 1, i, a, h, h', hs => by
    rw [l72_3]
    by_cases hi : i < s.size
    · rw [decide_eq_true (show (i : Int) < s.size by omega), decide_eq_true (show (0 : Int) ≤ i by omega), wj (by omega)]
      simp only [cond_true, Bool.and_self]
      exact jsum_l s j (i + 1) _ (by omega) (by omega) hs
    · rw [decide_eq_false (show ¬ (i : Int) < s.size by omega)]
      exact ⟨a, rfl⟩
noncomputable def jsm (b : Int) (s : ByteArray) : Int := ((f72 9000 b s).getD (0, ())).1
theorem jsum_eq (b : Int) (s : ByteArray) (h : s.size ≤ 200) : f72 9000 b s = some (jsm b s, ()) := by
  unfold jsm
  have : ∃ x, f72 9000 b s = some (x, ()) := by
    unfold f72
    obtain ⟨h, e⟩ := jsum_l s 9000 0 (bitsOp .xor .u64 b 14695981039346656037) (by omega) (by omega) (by omega)
    rw [show ((0 : Nat) : Int) = 0 from rfl] at e
    rw [e]
    exact ⟨_, rfl⟩
  obtain ⟨x, e⟩ := this
  rw [e]; rfl
theorem jtext_l (s : ByteArray) : ∀ (j i : Nat), i ≤ s.size → s.size < i + j → s.size ≤ 1000000 → l71_4 9000 j s s.size i = some (.inl ()) ∨ ∃ e, l71_4 9000 j s s.size i = some (.inr (e, ())) ∧ e ≠ 0
  | 0, i, h, h', _ => by omega
  | j + 1, i, h, h', hs => by
    rw [l71_4]
    by_cases hi : i < s.size
    · rw [decide_eq_true (show (i : Int) < s.size by omega), decide_eq_true (show (0 : Int) ≤ i by omega), wj (by omega)]
      simp only [cond_true, Bool.and_self]
      cases decide ((bt s i) < 32)
      · cases decide ((bt s i) > 126)
        · exact jtext_l s j (i + 1) (by omega) (by omega) hs
        · exact .inr ⟨3, rfl, by decide⟩
      · exact .inr ⟨3, rfl, by decide⟩
    · rw [decide_eq_false (show ¬ (i : Int) < s.size by omega)]
      exact .inl rfl
theorem jtext_tot (s : ByteArray) : (f71 9000 s = some (0, ()) ∧ s.size ≤ 200) ∨ ∃ e, f71 9000 s = some (e, ()) ∧ e ≠ 0 := by
  unfold f71
  by_cases h : s.size > 200
  · rw [decide_eq_true (show (s.size : Int) > 200 by omega)]; exact .inr ⟨2, rfl, by decide⟩
  · rw [decide_eq_false (show ¬ (s.size : Int) > 200 by omega)]
    simp only [cond_false]
    have := jtext_l s 9000 0 (by omega) (by omega) (by omega)
    rw [show ((0 : Nat) : Int) = 0 from rfl] at this
    rcases this with e | ⟨e, h1, h2⟩
    · rw [e]; exact .inl ⟨rfl, by omega⟩
    · rw [h1]; exact .inr ⟨e, rfl, h2⟩
def ch : Int → List JE → Prop
  | _, [] => True
  | b, (s, h, ()) :: r => s.size ≤ 200 ∧ f71 9000 s = some (0, ()) ∧ h = jsm b s ∧ ch h r
def lst : Int → List JE → Int
  | b, [] => b
  | _, (_, h, ()) :: r => lst h r
theorem ch_app : ∀ (l : List JE) (b : Int) (s : ByteArray), ch b l → s.size ≤ 200 → f71 9000 s = some (0, ()) → ch b (l ++ [(s, jsm (lst b l) s, ())])
  | [], b, s, _, h1, h2 => ⟨h1, h2, rfl, trivial⟩
  | (t, h, ()) :: r, b, s, hc, h1, h2 => ⟨hc.1, hc.2.1, hc.2.2.1, ch_app r h s hc.2.2.2 h1 h2⟩
theorem lst_last : ∀ (l : List JE) (b : Int) (x : JE), lst b (l ++ [x]) = x.2.1
  | [], b, (_, h, ()) => rfl
  | (t, h, ()) :: r, b, x => lst_last r h x
theorem jgood_l : ∀ (suf pre : List JE) (b : Int) (j : Nat), ch b suf → suf.length < j → (pre ++ suf).length ≤ 1000 → l92_3 9000 j (pre ++ suf) b (pre ++ suf) (pre ++ suf).length pre.length = some (.inl (pre ++ suf, ()))
  | [], pre, b, 0, _, h, _ => by simp at h
  | [], pre, b, j + 1, _, h, _ => by
    rw [l92_3, decide_eq_false (by simp)]; rfl
  | (s, h, ()) :: r, pre, b, 0, _, hj, _ => by simp at hj
  | (s, h, ()) :: r, pre, b, j + 1, hc, hj, hl => by
    have hl' : pre.length + (r.length + 1) ≤ 1000 := by simpa using hl
    rw [l92_3]
    have e1 : decide ((pre.length : Int) < ((pre ++ (s, h, ()) :: r).length : Int)) = true := decide_eq_true (by simp; omega)
    rw [e1, decide_eq_true (show (0 : Int) ≤ pre.length by omega), rd_at]
    obtain ⟨c1, c2, c3, c4⟩ := hc
    simp only [cond_true, Bool.and_self, jsum_eq b s c1, Option.bind_some, c2]
    rw [beq_eq_false_iff_ne.2 (show ¬ ((pre.length : Int) = 1000) by omega), wj (by omega)]
    have e2 : (h != jsm b s) = false := by rw [c3]; simp
    rw [e2]
    simp only [cond_false, show ((0 : Int) != 0) = false from rfl]
    have ih := jgood_l r (pre ++ [(s, h, ())]) h j c4 (by simp at hj; omega) (by simp; omega)
    rw [← c3]
    simpa using ih
theorem jgood_eq {l : List JE} (h : ch 0 l) (hl : l.length ≤ 250) : f92 9000 l = some ((l.length : Int), ()) := by
  unfold f92
  have := jgood_l l [] 0 9000 h (by omega) (by simp; omega)
  simp only [List.nil_append, List.length_nil] at this
  rw [show ((0 : Nat) : Int) = 0 from rfl] at this
  rw [this]; rfl
theorem jchk_eq {l : List JE} (h : ch 0 l) (hl : l.length ≤ 250) : f55 9000 l = some (0, ()) := by
  unfold f55
  rw [decide_eq_false (show ¬ (l.length : Int) > 1000 by omega), jgood_eq h hl]
  simp only [cond_false, Option.bind_some, beq_self_eq_true, cond_true]
theorem jappend_eq {l : List JE} (h : ch 0 l) (hl : l.length ≤ 250) (s : ByteArray) : (∃ e, f35 9000 l s = some ([], e, ()) ∧ e ≠ 0) ∨
    (f35 9000 l s = some (l ++ [(s, jsm (lst 0 l) s, ())], 0, ()) ∧ ch 0 (l ++ [(s, jsm (lst 0 l) s, ())])) := by
  unfold f35
  simp only [jchk_eq h hl, Option.bind_some, show ((0 : Int) != 0) = false from rfl, cond_false]
  rcases jtext_tot s with ⟨e1, e2⟩ | ⟨e, e1, e2⟩
  · right
    refine ⟨?_, ch_app l 0 s h e2 e1⟩
    simp only [e1, Option.bind_some, show ((0 : Int) != 0) = false from rfl, cond_false]
    rw [beq_eq_false_iff_ne.2 (show ¬ ((l.length : Int) = 1000) by omega)]
    simp only [cond_false, List.nil_append, List.length_nil, List.length_singleton, Nat.zero_add]
    have q1 : decide (l.length * 24 ≤ roomN) = true := decide_eq_true (by unfold roomN; omega)
    have q2 : decide ((l.length + 1) * 24 ≤ roomN) = true := decide_eq_true (by unfold roomN; omega)
    rw [q1]
    simp only [jsum_eq _ s e2, Option.bind_some, q2, cond_true]
    rcases List.eq_nil_or_concat l with rfl | ⟨l', x, rfl⟩
    · rfl
    · rw [List.concat_eq_append] at *
      have n1 : ((l' ++ [x]).length : Int) = (l'.length : Int) + 1 := by simp
      rw [n1, decide_eq_true (by omega), wj (by omega), decide_eq_true (by omega), decide_eq_true (by omega)]
      rw [show (l'.length : Int) + 1 - 1 = (l'.length : Int) by omega, rd_at, lst_last]
      rfl
  · left
    refine ⟨e, ?_, e2⟩
    simp only [e1, Option.bind_some, bne_iff_ne.2 e2, cond_true]
def TxOK (s : ByteArray) : Prop := s.size ≤ 200 ∧ ∀ i : Nat, i < s.size → 32 ≤ bt s i ∧ bt s i ≤ 126
theorem jtext_l_ok (s : ByteArray) (ht : TxOK s) : ∀ (j i : Nat), i ≤ s.size → s.size < i + j → l71_4 9000 j s s.size i = some (.inl ())
  | 0, i, h, h' => by omega
  | j + 1, i, h, h' => by
    have hs := ht.1
    rw [l71_4]
    by_cases hi : i < s.size
    · have hb := ht.2 i hi
      rw [bt1 (show (i : Int) < s.size by omega), bt2 ⟨by omega, by omega⟩, bf1 (show ¬ bt s i < 32 by omega), bt2 ⟨by omega, by omega⟩, bf1 (show ¬ bt s i > 126 by omega), ws (n := (i : Int) + 1) (by omega)]
      exact jtext_l_ok s ht j (i + 1) (by omega) (by omega)
    · rw [bf1 (show ¬ (i : Int) < s.size by omega)]
theorem jtext_ok {s : ByteArray} (ht : TxOK s) : f71 9000 s = some (0, ()) := by
  have hs := ht.1
  unfold f71
  rw [bf1 (by omega)]
  have := jtext_l_ok s ht 9000 0 (by omega) (by omega)
  rw [show ((0 : Nat) : Int) = 0 from rfl] at this
  rw [this]
  rfl
theorem jappend_ok {l : List JE} (h : ch 0 l) (hl : l.length ≤ 250) {s : ByteArray} (ht : TxOK s) : ∃ x, f35 9000 l s = some (l ++ [(s, x, ())], 0, ()) ∧ ch 0 (l ++ [(s, x, ())]) := by
  rcases jappend_eq h hl s with ⟨e, h1, h2⟩ | ⟨h1, h2⟩
  · exfalso
    unfold f35 at h1
    simp only [jchk_eq h hl, Option.bind_some, show ((0 : Int) != 0) = false from rfl, cond_false, jtext_ok ht] at h1
    rw [beq_eq_false_iff_ne.2 (show ¬ ((l.length : Int) = 1000) by omega)] at h1
    simp only [cond_false, List.nil_append, List.length_nil, List.length_singleton, Nat.zero_add] at h1
    have q1 : decide (l.length * 24 ≤ roomN) = true := decide_eq_true (by unfold roomN; omega)
    have q2 : decide ((l.length + 1) * 24 ≤ roomN) = true := decide_eq_true (by unfold roomN; omega)
    rw [q1] at h1
    simp only [jsum_eq _ s ht.1, Option.bind_some, q2, cond_true] at h1
    by_cases hc : (l.length : Int) > 0
    · rw [bt1 hc, bt2 (by rw [ws (by omega)]; omega)] at h1
      simp only [Option.some.injEq, Prod.mk.injEq] at h1
      exact h2 h1.2.1.symm
    · rw [bf1 hc] at h1
      simp only [Option.some.injEq, Prod.mk.injEq] at h1
      exact h2 h1.2.1.symm
  · exact ⟨_, h1, h2⟩
end Go.Proofs.YtpnbiakaknbofaaGreatDoor.G
namespace Go.Proofs.YtpnbiakaknbofaaGreatDoor.G
open Go.VM Go.Proofs
def Prn (b : UInt8) : Prop := 32 ≤ b.toNat ∧ b.toNat ≤ 126
theorem dec_prn : ∀ (u : Nat), ∀ b ∈ Go.Lib.decDigits u, Prn b := by
  intro u
  induction u using Nat.strongRecOn with
  | _ u ih =>
    intro b hb
    rw [Go.Lib.decDigits] at hb
    have key : ∀ d, d < 10 → Prn (UInt8.ofNat (48 + d)) := by
      intro d hd
      unfold Prn
      simp only [UInt8.toNat_ofNat']
      omega
    split at hb
    · rename_i h
      simp only [List.mem_singleton] at hb
      rw [hb]; exact key u h
    · rename_i h
      rcases List.mem_append.1 hb with hb | hb
      · exact ih (u / 10) (by omega) b hb
      · simp only [List.mem_singleton] at hb
        rw [hb]; exact key _ (by omega)
theorem itoa_prn (n : Int) : ∀ b ∈ Go.Lib.itoa n, Prn b := by
  intro b hb
  unfold Go.Lib.itoa at hb
  split at hb
  · rcases List.mem_cons.1 hb with rfl | hb
    · exact ⟨by decide, by decide⟩
    · exact dec_prn _ b hb
  · exact dec_prn _ b hb
def TxB (n : Nat) (s : ByteArray) : Prop := s.data.toList.length ≤ n ∧ ∀ b ∈ s.data.toList, Prn b
theorem txok_of {s : ByteArray} (h : TxB 200 s) : TxOK s := by
  have hs : s.size = s.data.toList.length := by rw [ByteArray.size, Array.length_toList]
  refine ⟨by rw [hs]; exact h.1, fun i hi => ?_⟩
  have e : bt s (i : Int) = ((s[i]'hi).toNat : Int) := by
    unfold bt
    simp only [Int.toNat_natCast]
    rw [dif_pos hi]
  have hm : s[i]'hi ∈ s.data.toList := by
    have : s[i]'hi = s.data[i]'hi := rfl
    rw [this]
    exact Array.mem_toList_iff.2 (Array.getElem_mem _)
  have := h.2 _ hm
  unfold Prn at this
  rw [e]
  omega
theorem itoa_tx {n : Int} (h : inI64 n = true) : TxB 21 (itoaB n) := by
  have hr := inI64_of h
  unfold itoaB TxB
  exact ⟨Go.Lib.itoa_length_le n hr.1 hr.2, itoa_prn n⟩
theorem inter_tx (sep : List UInt8) (hs : ∀ b ∈ sep, Prn b) : ∀ (ls : List (List UInt8)) (n : Nat), (∀ l ∈ ls, l.length ≤ n ∧ ∀ b ∈ l, Prn b) → (sep.intercalate ls).length ≤ ls.length * (n + sep.length) ∧ ∀ b ∈ sep.intercalate ls, Prn b
  | [], n, _ => by simp [List.intercalate]
  | [l], n, h => by
    have := h l (by simp)
    simp only [List.intercalate, List.intersperse, List.flatten_cons, List.flatten_nil, List.append_nil, List.length_singleton, Nat.one_mul]
    exact ⟨by omega, this.2⟩
  | l :: l2 :: r, n, h => by
    have ih := inter_tx sep hs (l2 :: r) n (fun x hx => h x (List.mem_cons_of_mem _ hx))
    have hl := h l (by simp)
    have e : sep.intercalate (l :: l2 :: r) = l ++ (sep ++ sep.intercalate (l2 :: r)) := by simp [List.intercalate, List.intersperse]
    rw [e]
    refine ⟨?_, fun b hb => ?_⟩
    · simp only [List.length_append, List.length_cons] at ih ⊢
      have : (r.length + 1 + 1) * (n + sep.length) = (r.length + 1) * (n + sep.length) + (n + sep.length) := by rw [Nat.add_mul (r.length + 1) 1, Nat.one_mul]
      omega
    · rcases List.mem_append.1 hb with hb | hb
      · exact hl.2 b hb
      · rcases List.mem_append.1 hb with hb | hb
        · exact hs b hb
        · exact ih.2 b hb
abbrev EV := Int × Int × Int × Int × MV × Unit
def evl (e : EV) : List Int := [e.1, e.2.1, e.2.2.1, e.2.2.2.1, e.2.2.2.2.1.1, e.2.2.2.2.1.2.1, e.2.2.2.2.1.2.2.1]
def EvOK (e : EV) : Prop := ∀ x ∈ evl e, inI64 x = true
theorem ent3 (l : List Int) (hl : l.length ≤ 90) (hr : ∀ x ∈ l, inI64 x = true) : ∀ (j i : Nat) (out : List ByteArray), i ≤ l.length → l.length < i + j → out.length ≤ i → l49_3 9000 j out l l.length i = some (out ++ (l.drop i).map itoaB, ())
  | 0, i, out, h1, h2, h3 => by omega
  | j + 1, i, out, h1, h2, h3 => by
    rw [l49_3]
    by_cases hi : i < l.length
    · rw [bt1 (show (i : Int) < l.length by omega), bt2 ⟨by omega, by omega⟩]
      have hx := hr _ (rd_memL 0 l i hi)
      unfold f36 f73
      simp only [hx, cond_true, Option.bind_some]
      rw [bt1 (by unfold roomN; simp only [List.length_cons, List.length_nil]; omega), ws (n := (i : Int) + 1) (by omega)]
      have ih := ent3 l hl hr j (i + 1) (out ++ [itoaB (rd 0 l (i : Int))]) (by omega) (by omega) (by simp; omega)
      rw [show ((i : Int) + 1) = ((i + 1 : Nat) : Int) by omega, ih, drop_rd 0 l i hi]
      simp
    · rw [bf1 (show ¬ (i : Int) < l.length by omega), List.drop_eq_nil_of_le (by omega)]
      simp
noncomputable def entT (e : EV) : ByteArray := joinB ((evl e).map itoaB) (⟨#[32]⟩ : ByteArray)
theorem ent_tx {e : EV} (h : EvOK e) : TxB 200 (entT e) := by
  unfold entT TxB
  rw [joinB_data]
  have := inter_tx [32] (by simp [Prn]) (((evl e).map itoaB).map (·.data.toList)) 21 (fun l hl => by
    simp only [List.mem_map] at hl
    obtain ⟨s, ⟨n, hn, rfl⟩, rfl⟩ := hl
    exact itoa_tx (h n hn))
  have hlen : (((evl e).map itoaB).map (·.data.toList)).length = 7 := by simp [evl]
  rw [hlen] at this
  exact ⟨Nat.le_trans this.1 (by decide), this.2⟩
theorem entry_eq {e : EV} (h : EvOK e) : f49 9000 e = some (entT e, ()) := by
  unfold f49
  have h3 := ent3 (evl e) (by simp [evl]) h 9000 0 [] (by simp [evl]) (by simp [evl]) (by simp)
  simp only [show ((0 : Nat) : Int) = 0 from rfl, List.drop_zero, List.nil_append] at h3
  have hl : ((evl e).length : Int) = 7 := by simp [evl]
  rw [hl] at h3
  unfold evl at h3
  rw [h3]
  simp only [Option.bind_some]
  have hs := (txok_of (ent_tx h)).1
  unfold entT evl at hs
  unfold f87
  rw [bt2 ⟨by omega, by simp⟩]
  rfl
end Go.Proofs.YtpnbiakaknbofaaGreatDoor.G
