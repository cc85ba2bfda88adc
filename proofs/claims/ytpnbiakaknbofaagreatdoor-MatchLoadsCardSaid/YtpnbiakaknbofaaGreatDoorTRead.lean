import Derived.Test.YtpnbiakaknbofaaGreatDoorTNum
/- Texts cut at blanks; numbers read back. -/
namespace Go.Proofs.YtpnbiakaknbofaaGreatDoor.G
open Go.VM Go.Proofs
theorem dec_dig : ∀ (u : Nat), ∀ b ∈ Go.Lib.decDigits u, 48 ≤ b.toNat ∧ b.toNat ≤ 57 := by
  intro u
  induction u using Nat.strongRecOn with
  | _ u ih =>
    intro b hb
    rw [Go.Lib.decDigits] at hb
    have key : ∀ d, d < 10 → 48 ≤ (UInt8.ofNat (48 + d)).toNat ∧ (UInt8.ofNat (48 + d)).toNat ≤ 57 := by
      intro d hd
      simp only [UInt8.toNat_ofNat']
      omega
    split at hb
    · rename_i h
      simp only [List.mem_singleton] at hb
      rw [hb]; exact key u h
    · rename_i h
      rcases List.mem_append.1 hb with hb | hb
      · exact ih (u / 10) (by omega) b hb
      · simp only [List.mem_singleton] at hb
        rw [hb]; exact key _ (by omega)
theorem dec_ne (u : Nat) : Go.Lib.decDigits u ≠ [] := by
  rw [Go.Lib.decDigits]
  split <;> simp
theorem parse_step (acc d : Nat) (hd : d < 10) (h : acc * 10 + d ≤ 9223372036854775808) (r : List UInt8) : Go.Lib.parseUint10 acc (UInt8.ofNat (48 + d) :: r) = Go.Lib.parseUint10 (acc * 10 + d) r := by
  have e : (UInt8.ofNat (48 + d)).toNat = 48 + d := by simp only [UInt8.toNat_ofNat']; omega
  rw [Go.Lib.parseUint10, e, if_pos ⟨by omega, by omega⟩, if_neg (by omega), if_neg (by omega), show 48 + d - 48 = d by omega]
theorem parse_dec : ∀ (u : Nat), u ≤ 9223372036854775808 → ∀ r, Go.Lib.parseUint10 0 (Go.Lib.decDigits u ++ r) = Go.Lib.parseUint10 u r := by
  intro u
  induction u using Nat.strongRecOn with
  | _ u ih =>
    intro hu r
    rw [Go.Lib.decDigits]
    split
    · rename_i h
      have := parse_step 0 u h (by omega) r
      rw [show 0 * 10 + u = u by omega] at this
      exact this
    · rename_i h
      rw [List.append_assoc, ih (u / 10) (by omega) (by omega)]
      have := parse_step (u / 10) (u % 10) (by omega) (by omega) r
      rw [show u / 10 * 10 + u % 10 = u by omega] at this
      exact this
theorem mag_dec {u : Nat} (hu : u ≤ 9223372036854775808) : Go.Lib.parseMag (Go.Lib.decDigits u) = .ok u := by
  unfold Go.Lib.parseMag
  rw [if_neg (dec_ne u)]
  have := parse_dec u hu []
  rw [List.append_nil] at this
  rw [this]
  rfl
theorem atoi_itoa {n : Int} (h : inI64 n = true) : Go.Lib.atoiAll (Go.Lib.itoa n) = .ok n := by
  have hr := inI64_of h
  by_cases h0 : n < 0
  · obtain ⟨u, hu⟩ : ∃ u : Nat, n = -(u : Int) := ⟨(-n).toNat, by omega⟩
    subst hu
    rw [Go.Lib.itoa_neg u (by omega), Go.Lib.atoiAll_minus, mag_dec (by omega)]
    simp only [Go.Lib.signed]
    rw [if_neg (by omega)]
  · obtain ⟨u, hu⟩ : ∃ u : Nat, n = (u : Int) := ⟨n.toNat, by omega⟩
    subst hu
    rw [Go.Lib.itoa_nonneg]
    have hd := dec_dig u
    have hm := mag_dec (u := u) (by omega)
    cases hc : Go.Lib.decDigits u with
    | nil => exact absurd hc (dec_ne u)
    | cons c r =>
      rw [hc] at hd hm
      have := hd c (by simp)
      rw [Go.Lib.atoiAll_plain c r (by omega) (by omega), hm]
      simp only [Go.Lib.signless]
      rw [if_neg (by omega)]
theorem atoiB_itoa {n : Int} (h : inI64 n = true) : atoiB (itoaB n) = some (n, true, ()) := by
  have hs := (itoa_tx h).1
  have h1 : (itoaB n).size ≤ 1000 := by
    have : (itoaB n).size = (itoaB n).data.toList.length := by rw [ByteArray.size, Array.length_toList]
    omega
  unfold atoiB
  rw [decide_eq_true h1, cond_true, show (itoaB n).data.toList = Go.Lib.itoa n from rfl, atoi_itoa h]
theorem itoa_no {n : Int} : (32 : UInt8) ∉ (itoaB n).data.toList := by
  show (32 : UInt8) ∉ Go.Lib.itoa n
  intro hm
  unfold Go.Lib.itoa at hm
  have e : (32 : UInt8).toNat = 32 := rfl
  split at hm
  · rcases List.mem_cons.1 hm with h | h
    · exact absurd h (by decide)
    · have := dec_dig _ _ h
      omega
  · have := dec_dig _ _ hm
    omega
theorem bext {a b : ByteArray} (h : a.data.toList = b.data.toList) : a = b := by
  obtain ⟨⟨x⟩⟩ := a
  obtain ⟨⟨y⟩⟩ := b
  have h : x = y := h
  rw [h]
def jn (ps : List ByteArray) : List UInt8 := [(32 : UInt8)].intercalate (ps.map (·.data.toList))
theorem jn_one (p : ByteArray) : jn [p] = p.data.toList := by simp [jn, List.intercalate]
theorem jn_cons (p q : ByteArray) (qs : List ByteArray) : jn (p :: q :: qs) = p.data.toList ++ 32 :: jn (q :: qs) := by simp [jn, List.intercalate, List.intersperse]
theorem idx_none : ∀ (l : List UInt8) (c : UInt8), c ∉ l → ∀ r, Go.Lib.indexByte (l ++ c :: r) c = l.length
  | [], c, _, r => by simp [Go.Lib.indexByte]
  | b :: l, c, h, r => by
    have hb : (b == c) = false := by
      rw [beq_eq_false_iff_ne]
      exact fun e => h (by rw [e]; simp)
    have ih := idx_none l c (fun hm => h (List.mem_cons_of_mem _ hm)) r
    rw [List.cons_append, Go.Lib.indexByte, hb, if_neg (by simp), ih, if_neg (by simp)]
    simp
theorem cnt_jn : ∀ (p : ByteArray) (ps : List ByteArray), (∀ x ∈ p :: ps, (32 : UInt8) ∉ x.data.toList) → Go.Lib.countByte (jn (p :: ps)) 32 = ps.length
  | p, [], h => by
    rw [jn_one, Go.Lib.countByte, List.count_eq_zero.2 (h p (by simp))]
    rfl
  | p, q :: qs, h => by
    have ih := cnt_jn q qs (fun x hx => h x (List.mem_cons_of_mem _ hx))
    unfold Go.Lib.countByte at ih ⊢
    rw [jn_cons, List.count_append, List.count_cons_self, ih, List.count_eq_zero.2 (h p (by simp))]
    simp
theorem split11 : ∀ (ps : List ByteArray) (p : ByteArray) (s : ByteArray) (arr : List ByteArray) (j i n : Nat), s.data.toList = jn (p :: ps) → (∀ x ∈ p :: ps, (32 : UInt8) ∉ x.data.toList) → arr.length = n + 1 → i + ps.length = n → ps.length < j → n ≤ 50 → s.size ≤ 1000 →
    ∃ (s' : ByteArray) (arr' : List ByteArray), l131_11 9000 j s (⟨#[32]⟩ : ByteArray) 0 n arr i = some (s', arr', (n : Int), ()) ∧ arr'.length = n + 1 ∧ arr'.take n ++ [s'] = arr.take i ++ (p :: ps)
  | ps, p, s, arr, 0, i, n, _, _, _, _, h, _, _ => by omega
  | [], p, s, arr, j + 1, i, n, hs, hno, ha, hi, _, hn, hz => by
    rw [l131_11]
    have hi : i = n := by simpa using hi
    subst hi
    rw [bf1 (by omega)]
    have hsp : s = p := bext (by rw [hs, jn_one])
    exact ⟨s, arr, rfl, ha, by rw [hsp]⟩
  | q :: qs, p, s, arr, j + 1, i, n, hs, hno, ha, hi, hj, hn, hz => by
    rw [l131_11]
    have hlen : (q :: qs).length = qs.length + 1 := rfl
    have hsz : s.size = s.data.toList.length := by rw [ByteArray.size, Array.length_toList]
    have hdat : s.data.toList = p.data.toList ++ 32 :: jn (q :: qs) := by rw [hs, jn_cons]
    have hix : indexB1 s (⟨#[32]⟩ : ByteArray) = (p.data.toList.length : Int) := by
      unfold indexB1
      rw [hdat]
      exact idx_none _ _ (hno p (by simp)) _
    have hszp : p.data.toList.length + 1 ≤ s.size := by rw [hsz, hdat]; simp
    have hb1 : ((⟨#[32]⟩ : ByteArray).size : Int) = 1 := rfl
    rw [bt1 (show (i : Int) < n by omega)]
    unfold f157
    rw [show Nat.beq (⟨#[32]⟩ : ByteArray).size 1 = true from rfl, cond_true, Option.bind_some]
    dsimp only
    rw [hix, bf1 (by omega), ws (n := (p.data.toList.length : Int) + 0) (by omega), bt2 ⟨by omega, by omega⟩, bt2 ⟨by omega, by omega⟩, hb1, ws (n := (p.data.toList.length : Int) + 1) (by omega),
      show (decide (0 ≤ (p.data.toList.length : Int) + 1) && (decide ((p.data.toList.length : Int) + 1 ≤ (s.size : Int)) && decide ((s.size : Int) ≤ (s.size : Int)))) = true by rw [decide_eq_true (show 0 ≤ (p.data.toList.length : Int) + 1 by omega), decide_eq_true (show (p.data.toList.length : Int) + 1 ≤ (s.size : Int) by omega), decide_eq_true (show (s.size : Int) ≤ (s.size : Int) by omega)]; rfl,
      cond_true, ws (n := (i : Int) + 1) (by omega), show ((i : Int) + 1) = ((i + 1 : Nat) : Int) by omega]
    have e1 : s.extract (0 : Int).toNat ((p.data.toList.length : Int) + 0).toNat = p := by
      refine bext ?_
      rw [ByteArray.data_extract, Array.toList_extract, List.extract_eq_take_drop, hdat, show (0 : Int).toNat = 0 from rfl, show ((p.data.toList.length : Int) + 0).toNat = p.data.toList.length by omega, List.drop_zero, Nat.sub_zero, List.take_left]
    have e2 : (s.extract ((p.data.toList.length : Int) + 1).toNat (s.size : Int).toNat).data.toList = jn (q :: qs) := by
      rw [ByteArray.data_extract, Array.toList_extract, List.extract_eq_take_drop, show ((p.data.toList.length : Int) + 1).toNat = p.data.toList.length + 1 by omega, Int.toNat_natCast, hsz, List.take_of_length_le (by simp), hdat, List.drop_append]
      simp
    rw [e1, Int.toNat_natCast]
    obtain ⟨s', arr', h1, h2, h3⟩ := split11 qs q (s.extract ((p.data.toList.length : Int) + 1).toNat (s.size : Int).toNat) (arr.set i p) j (i + 1) n e2 (fun x hx => hno x (List.mem_cons_of_mem _ hx)) (by simp [ha]) (by omega) (by omega) hn (by
      have : (s.extract ((p.data.toList.length : Int) + 1).toNat (s.size : Int).toNat).size ≤ s.size := by rw [ByteArray.size_extract]; omega
      omega)
    refine ⟨s', arr', h1, h2, ?_⟩
    rw [h3, List.take_add_one, List.getElem?_set_self (by omega), List.take_set_of_le (Nat.le_refl _)]
    simp
theorem split_eq (p : ByteArray) (ps : List ByteArray) (s : ByteArray) (hs : s.data.toList = jn (p :: ps)) (hno : ∀ x ∈ p :: ps, (32 : UInt8) ∉ x.data.toList) (hn : ps.length ≤ 50) (hz : s.size ≤ 1000) : f94 9000 s (⟨#[32]⟩ : ByteArray) = some (p :: ps, ()) := by
  have hsz : s.size = s.data.toList.length := by rw [ByteArray.size, Array.length_toList]
  have hc : countB1 s (⟨#[32]⟩ : ByteArray) = (ps.length : Int) := by
    unfold countB1
    rw [hs, show headB (⟨#[32]⟩ : ByteArray) = 32 from rfl, cnt_jn p ps hno]
  have hle : ps.length ≤ s.size := by
    have h1 : ps.length = (s.data.toList).count 32 := by
      have := cnt_jn p ps hno
      rw [← hs] at this
      exact this.symm
    rw [hsz, h1]
    exact List.count_le_length
  unfold f94 f131
  rw [bn1 (by decide), show ((⟨#[32]⟩ : ByteArray).toList == (⟨#[]⟩ : ByteArray).toList) = false by kernel_rfl, cond_false, bt1 (by decide)]
  unfold f156
  rw [show Nat.beq (⟨#[32]⟩ : ByteArray).size 1 = true from rfl, cond_true, Option.bind_some]
  dsimp only
  rw [hc, ws (n := (ps.length : Int) + 1) (by omega), ws (n := (s.size : Int) + 1) (by omega), if_neg (by omega)]
  rw [ws (n := (ps.length : Int) + 1 - 1) (by omega), show (ps.length : Int) + 1 - 1 = (ps.length : Int) by omega]
  have hg : (decide (0 ≤ (ps.length : Int) + 1) && (decide ((ps.length : Int) + 1 ≤ (ps.length : Int) + 1) && decide (((16 : Nat) : Int) * ((ps.length : Int) + 1) ≤ 281474976710656)) && decide ((ps.length : Int) + 1 ≤ 9223372036854775807)) = true := by
    rw [decide_eq_true (show 0 ≤ (ps.length : Int) + 1 by omega), decide_eq_true (show (ps.length : Int) + 1 ≤ (ps.length : Int) + 1 by omega), decide_eq_true (show ((16 : Nat) : Int) * ((ps.length : Int) + 1) ≤ 281474976710656 by omega), decide_eq_true (show (ps.length : Int) + 1 ≤ 9223372036854775807 by omega)]
    rfl
  rw [hg, cond_true]
  obtain ⟨s', arr', h1, h2, h3⟩ := split11 ps p s (List.replicate ((ps.length : Int) + 1).toNat (⟨#[]⟩ : ByteArray)) 9000 0 ps.length hs hno (by simp) (by omega) (by omega) hn hz
  rw [show ((0 : Nat) : Int) = 0 from rfl] at h1
  rw [h1, Option.bind_some]
  dsimp only
  rw [bt2 ⟨by omega, by omega⟩, ws (n := (ps.length : Int) + 1) (by omega), bt2 ⟨by omega, by simp; omega⟩, Option.bind_some, first_eq]
  have e : arr'.set (ps.length : Int).toNat s' = arr'.take ps.length ++ [s'] := by
    rw [Int.toNat_natCast, List.set_eq_take_append_cons_drop, if_pos (by omega), List.drop_eq_nil_of_le (by omega)]
  rw [e, h3]
  simp only [List.take_zero, List.nil_append]
  rw [List.take_of_length_le (by simp)]
end Go.Proofs.YtpnbiakaknbofaaGreatDoor.G
/- Events read back out of their texts. -/
namespace Go.Proofs.YtpnbiakaknbofaaGreatDoor.G
open Go.VM Go.Proofs
theorem tl_loop (b : ByteArray) : ∀ (n i : Nat) (r : List UInt8), b.size ≤ i + n → ByteArray.toList.loop b i r = r.reverse ++ b.data.toList.drop i
  | 0, i, r, h => by
    rw [ByteArray.toList.loop, if_neg (by omega), List.drop_eq_nil_of_le (show b.data.toList.length ≤ i from h)]
    simp
  | n + 1, i, r, h => by
    by_cases hi : i < b.size
    · have hi2 : i < b.data.toList.length := hi
      rw [ByteArray.toList.loop, if_pos hi, tl_loop b n (i + 1) _ (by omega), List.drop_eq_getElem_cons hi2]
      have : b.get! i = b.data.toList[i] := by
        show b.data[i]! = _
        rw [getElem!_pos b.data i hi]
        exact (Array.getElem_toList hi).symm
      rw [this]
      simp
    · rw [ByteArray.toList.loop, if_neg hi, List.drop_eq_nil_of_le (show b.data.toList.length ≤ i by have : b.data.toList.length = b.size := rfl; omega)]
      simp
theorem tl_data (b : ByteArray) : b.toList = b.data.toList := by
  unfold ByteArray.toList
  rw [tl_loop b b.size 0 [] (by omega)]
  simp
theorem nums6 (ns : List Int) (hn : ns.length ≤ 50) (hr : ∀ n ∈ ns, inI64 n = true) : ∀ (j i : Nat) (out : List Int), i ≤ ns.length → ns.length < i + j → out.length ≤ i → l57_6 9000 j out (ns.map itoaB) (ns.length : Int) i = some (.inl (out ++ ns.drop i, ()))
  | 0, i, out, h, h', _ => by omega
  | j + 1, i, out, h, h', ho => by
    rw [l57_6]
    by_cases hi : i < ns.length
    · have hx := hr _ (rd_memL 0 ns i hi)
      have hrd : rd (⟨#[]⟩ : ByteArray) (ns.map itoaB) (i : Int) = itoaB (rd 0 ns (i : Int)) := by
        unfold rd
        rw [Int.toNat_natCast, List.getD_eq_getElem?_getD, List.getD_eq_getElem?_getD, List.getElem?_map, List.getElem?_eq_getElem hi]
        rfl
      rw [bt1 (show (i : Int) < ns.length by omega), bt2 ⟨by omega, by simp; omega⟩, hrd]
      unfold f95 f73
      rw [atoiB_itoa hx, Option.bind_some]
      dsimp only
      rw [Bool.not_true, cond_false, hx, cond_true, Option.bind_some]
      dsimp only
      rw [beq_self_eq_true, Bool.not_true, cond_false, bt1 (by unfold roomN; simp; omega), ws (n := (i : Int) + 1) (by omega), show ((i : Int) + 1) = ((i + 1 : Nat) : Int) by omega, nums6 ns hn hr j (i + 1) (out ++ [rd 0 ns (i : Int)]) (by omega) (by omega) (by simp; omega), drop_rd 0 ns i hi]
      simp
    · rw [bf1 (show ¬ (i : Int) < ns.length by omega), List.drop_eq_nil_of_le (by omega)]
      simp
theorem nums_eq (n : Int) (ns : List Int) (hn : ns.length ≤ 40) (hr : ∀ x ∈ n :: ns, inI64 x = true) (s : ByteArray) (hs : s.data.toList = jn ((n :: ns).map itoaB)) (hz : s.size ≤ 1000) : f57 9000 s ((n :: ns).length : Int) = some (n :: ns, 0, ()) := by
  unfold f57
  rw [split_eq (itoaB n) (ns.map itoaB) s hs (fun x hx => by
    obtain ⟨m, _, rfl⟩ := List.mem_map.1 (show x ∈ (n :: ns).map itoaB from hx)
    exact itoa_no) (by simp; omega) hz, Option.bind_some]
  dsimp only
  rw [show itoaB n :: ns.map itoaB = (n :: ns).map itoaB from rfl, List.length_map, bne_self_eq_false, cond_false]
  have := nums6 (n :: ns) (by simp; omega) hr 9000 0 [] (by omega) (by simp; omega) (by simp)
  rw [show ((0 : Nat) : Int) = 0 from rfl] at this
  rw [this, Option.bind_some, Sum.elim_inl]
  simp
theorem read_eq {e : EV} (h : EvOK e) : f58 9000 (entT e) = some (e, 0, ()) := by
  have ht := txok_of (ent_tx h)
  have hs : (entT e).data.toList = jn ((evl e).map itoaB) := by
    unfold entT
    rw [joinB_data]
    rfl
  have hn := nums_eq e.1 [e.2.1, e.2.2.1, e.2.2.2.1, e.2.2.2.2.1.1, e.2.2.2.2.1.2.1, e.2.2.2.2.1.2.2.1] (by simp) h (entT e) hs (by have := ht.1; omega)
  unfold f58
  rw [show (7 : Int) = (([e.1, e.2.1, e.2.2.1, e.2.2.2.1, e.2.2.2.2.1.1, e.2.2.2.2.1.2.1, e.2.2.2.2.1.2.2.1] : List Int).length : Int) from rfl, hn, Option.bind_some]
  rfl
end Go.Proofs.YtpnbiakaknbofaaGreatDoor.G
