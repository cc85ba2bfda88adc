/- The texts of moves: what they are, and that no two moves have the same. -/
import Derived.Test.YtphgopfhobockaaTGenU
namespace Go.Proofs.Ytphgopfhobockaa.G
open Go.VM Go.Proofs

/-! ### Bytes -/
theorem toList_loop (b : ByteArray) : ∀ (n i : Nat) (r : List UInt8), n = b.size - i → ByteArray.toList.loop b i r = r.reverse ++ b.data.toList.drop i
  | 0, i, r, h => by
    rw [ByteArray.toList.loop, if_neg (by omega), List.drop_eq_nil_of_le (by show b.size ≤ i; omega), List.append_nil]
  | n + 1, i, r, h => by
    have hi : i < b.size := by omega
    have hi2 : i < b.data.toList.length := hi
    rw [ByteArray.toList.loop, if_pos hi, toList_loop b n (i + 1) _ (by omega), List.drop_eq_getElem_cons hi2]
    have : b.get! i = b.data.toList[i] := by
      show b.data[i]! = _
      rw [getElem!_pos b.data i hi]
      exact (Array.getElem_toList hi).symm
    rw [this]
    simp
theorem toList_data (b : ByteArray) : b.toList = b.data.toList := by
  unfold ByteArray.toList
  rw [toList_loop b b.size 0 [] (by omega)]
  simp
theorem beq_data (a b : ByteArray) : (a.toList == b.toList) = decide (a.data.toList = b.data.toList) := by
  rw [toList_data, toList_data]
  by_cases h : a.data.toList = b.data.toList
  · rw [decide_eq_true h, h]; exact beq_self_eq_true _
  · rw [decide_eq_false h]; exact beq_eq_false_iff_ne.2 h
theorem size_data (b : ByteArray) : b.size = b.data.toList.length := rfl
theorem data_app (a b : ByteArray) : (a ++ b).data.toList = a.data.toList ++ b.data.toList := by rw [ByteArray.data_append, Array.toList_append]
def b8 (n : Int) : UInt8 := UInt8.ofNat n.toNat
theorem b8_nat (n : Int) (h : 0 ≤ n ∧ n < 256) : (b8 n).toNat = n.toNat := by
  unfold b8
  rw [UInt8.toNat_ofNat']
  omega
theorem b8_inj {a b : Int} (ha : 0 ≤ a ∧ a < 256) (hb : 0 ≤ b ∧ b < 256) (h : b8 a = b8 b) : a = b := by
  have := congrArg UInt8.toNat h
  rw [b8_nat a ha, b8_nat b hb] at this
  omega
theorem fits_ok {x y : ByteArray} (h : x.size + y.size ≤ 1000) : fitsS x y = true := by
  rw [fitsS_eq]
  exact decide_eq_true (by omega)
theorem encS_all : ∀ m : Fin 26, (encS ((m.val : Int) + 65)).data.toList = [UInt8.ofNat (m.val + 65)] := by decide
theorem encS_eq (n : Int) (h : 65 ≤ n ∧ n ≤ 90) : (encS n).data.toList = [b8 n] := by
  have := encS_all ⟨(n - 65).toNat, by omega⟩
  simp only at this
  rw [show (((n - 65).toNat : Nat) : Int) + 65 = n by omega] at this
  rw [this]
  unfold b8
  rw [show (n - 65).toNat + 65 = n.toNat by omega]
section
variable {r : RU} {p : PO}
def LL (r : RU) (k : Int) : UInt8 := b8 (rd P0 r.2.2.2.1 k).1
def col (r : RU) (n : Int) : UInt8 := b8 (97 + n % r.2.1)
def rowb (r : RU) (n : Int) : UInt8 := b8 (49 + n / r.2.1)
theorem sq_bd (hr : ROK r) (n : Int) (h : 0 ≤ n ∧ n < r.2.1 * r.2.2.1) : 0 ≤ n % r.2.1 ∧ n % r.2.1 < 8 ∧ 0 ≤ n / r.2.1 ∧ n / r.2.1 < 8 := by
  have w1 := hr.w1
  have w8 := hr.w8
  have h8 := hr.h8
  have hsq := hr.sq
  have hy0 : 0 ≤ n / r.2.1 := Int.ediv_nonneg (by omega) (by omega)
  have hy1 : n / r.2.1 < r.2.2.1 := Int.ediv_lt_of_lt_mul (by omega) (by rw [Int.mul_comm]; omega)
  have hx0 : 0 ≤ n % r.2.1 := Int.emod_nonneg _ (by omega)
  have hx1 : n % r.2.1 < r.2.1 := Int.emod_lt_of_pos _ (by omega)
  omega
theorem square_eq (hr : ROK r) (n : Int) (h : 0 ≤ n ∧ n < r.2.1 * r.2.2.1) : ∃ b, f75 9000 r n = some (b, ()) ∧ b.data.toList = [col r n, rowb r n] := by
  obtain ⟨x0, x1, y0, y1⟩ := sq_bd hr n h
  have w1 := hr.w1
  refine ⟨_, by
    unfold f75
    rw [bf1 (show ¬ r.2.1 = 0 by omega), bf1 (show ¬ r.2.1 = 0 by omega)], ?_⟩
  rw [Int.tmod_eq_emod_of_nonneg h.1, Int.tdiv_eq_ediv_of_nonneg h.1, ws (n := n / r.2.1) (by omega), ws (n := 97 + n % r.2.1) (by omega), ws (n := 49 + n / r.2.1) (by omega), IntKind.wrap_u8, IntKind.wrap_u8]
  show [UInt8.ofNat ((97 + n % r.2.1) % 256).toNat, UInt8.ofNat ((49 + n / r.2.1) % 256).toNat] = _
  rw [show (97 + n % r.2.1) % 256 = 97 + n % r.2.1 by omega, show (49 + n / r.2.1) % 256 = 49 + n / r.2.1 by omega]
  rfl
theorem sq_inj (hr : ROK r) {a b : Int} (ha : 0 ≤ a ∧ a < r.2.1 * r.2.2.1) (hb : 0 ≤ b ∧ b < r.2.1 * r.2.2.1) (h1 : a % r.2.1 = b % r.2.1) (h2 : a / r.2.1 = b / r.2.1) : a = b := by
  have e1 := Int.emod_add_mul_ediv a r.2.1
  have e2 := Int.emod_add_mul_ediv b r.2.1
  rw [h1, h2] at e1
  omega
theorem col_inj (hr : ROK r) {a b : Int} (ha : 0 ≤ a ∧ a < r.2.1 * r.2.2.1) (hb : 0 ≤ b ∧ b < r.2.1 * r.2.2.1) (h : col r a = col r b) : a % r.2.1 = b % r.2.1 := by
  have h1 := sq_bd hr a ha
  have h2 := sq_bd hr b hb
  have := b8_inj (by omega) (by omega) h
  omega
theorem rowb_inj (hr : ROK r) {a b : Int} (ha : 0 ≤ a ∧ a < r.2.1 * r.2.2.1) (hb : 0 ≤ b ∧ b < r.2.1 * r.2.2.1) (h : rowb r a = rowb r b) : a / r.2.1 = b / r.2.1 := by
  have h1 := sq_bd hr a ha
  have h2 := sq_bd hr b hb
  have := b8_inj (by omega) (by omega) h
  omega
theorem col_rowb (hr : ROK r) {a b : Int} (ha : 0 ≤ a ∧ a < r.2.1 * r.2.2.1) (hb : 0 ≤ b ∧ b < r.2.1 * r.2.2.1) : col r a ≠ rowb r b := by
  intro h
  have h1 := sq_bd hr a ha
  have h2 := sq_bd hr b hb
  have := b8_inj (by omega) (by omega) h
  omega
theorem col_lit (hr : ROK r) {a : Int} (ha : 0 ≤ a ∧ a < r.2.1 * r.2.2.1) (c : Int) (hc : 0 ≤ c ∧ c < 97 ∨ 105 ≤ c ∧ c < 256) : col r a ≠ b8 c := by
  intro h
  have h1 := sq_bd hr a ha
  have := b8_inj (by omega) (by omega) h
  omega
theorem rowb_lit (hr : ROK r) {a : Int} (ha : 0 ≤ a ∧ a < r.2.1 * r.2.2.1) (c : Int) (hc : 0 ≤ c ∧ c < 49 ∨ 57 ≤ c ∧ c < 256) : rowb r a ≠ b8 c := by
  intro h
  have h1 := sq_bd hr a ha
  have := b8_inj (by omega) (by omega) h
  omega
theorem LL_inj (hr : ROK r) {a b : Int} (ha : 0 ≤ a ∧ a < r.2.2.2.1.length) (hb : 0 ≤ b ∧ b < r.2.2.2.1.length) (h : LL r a = LL r b) : a = b := by
  obtain ⟨i, rfl⟩ := Int.eq_ofNat_of_zero_le ha.1
  obtain ⟨k, rfl⟩ := Int.eq_ofNat_of_zero_le hb.1
  have h1 := hr.pcs i (by omega)
  have h2 := hr.pcs k (by omega)
  have e := b8_inj (by have := h1.1; have := h1.2.1; omega) (by have := h2.1; have := h2.2.1; omega) h
  rcases Nat.lt_trichotomy i k with h3 | h3 | h3
  · exact absurd e (hr.lets i k h3 (by omega))
  · rw [h3]
  · exact absurd e.symm (hr.lets k i h3 (by omega))

theorem cellz (hp : POK r p) {k : Int} (h0 : 0 ≤ k) (h1 : k < p.1.length) : 0 ≤ rd 0 p.1 k ∧ rd 0 p.1 k ≤ 2 * (r.2.2.2.1.length : Int) := by
  obtain ⟨m, rfl⟩ := Int.eq_ofNat_of_zero_le h0
  exact hp.cells m (by omega)

/-! ### What tells a move from others -/
def Qual (p : PO) (m x : MV) : Prop := 0 ≤ x.1 ∧ x.1 ≠ m.1 ∧ x.2.1 = m.2.1 ∧ knd (rd 0 p.1 x.1) = knd (rd 0 p.1 m.1)
theorem from3 (hp : POK r p) (g : List MV) (hg : ∀ x ∈ g, MvOK r p x) (hgl : g.length ≤ 8000) (m : MV) (hm : 0 ≤ m.1 ∧ m.1 < p.1.length ∧ 1 ≤ rd 0 p.1 m.1) : ∀ (j i : Nat) (f r' o : Bool), i ≤ g.length → g.length < i + j →
    ∃ f2 r2 o2, l76_3 9000 j r p m f r' o g (g.length : Int) i = some (r, m, f2, r2, o2, ()) ∧ (f = true → f2 = true) ∧ (r' = true → r2 = true) ∧ (o = true → o2 = true) ∧
      ∀ i' : Nat, i ≤ i' → i' < g.length → Qual p m (rd M0 g (i' : Int)) → o2 = true ∧ ((rd M0 g (i' : Int)).1 % r.2.1 = m.1 % r.2.1 → f2 = true) ∧ ((rd M0 g (i' : Int)).1 / r.2.1 = m.1 / r.2.1 → r2 = true)
  | 0, i, f, r', o, h, h' => by omega
  | j + 1, i, f, r', o, h, h' => by
    have w1 := hp.ru.w1
    have hl := hp.len64
    have hn6 := hp.ru.n6
    rw [l76_3]
    by_cases hi : i < g.length
    rotate_left
    · rw [bf1 (show ¬ (i : Int) < g.length by omega)]
      exact ⟨f, r', o, rfl, id, id, id, fun i' h1 h2 => by omega⟩
    have e : ((i : Int) + 1) = ((i + 1 : Nat) : Int) := by omega
    rw [bt1 (show (i : Int) < g.length by omega), bt2 ⟨by omega, by omega⟩, ws (n := (i : Int) + 1) (by omega), e]
    rw [show rd ((0, 0, 0, ()) : MV) g (i : Int) = rd M0 g (i : Int) from rfl]
    have hx := hg _ (rd_mem M0 g i hi)
    have skip : ∀ f' r1 o', (f = true → f' = true) → (r' = true → r1 = true) → (o = true → o' = true) → (Qual p m (rd M0 g (i : Int)) → o' = true ∧ ((rd M0 g (i : Int)).1 % r.2.1 = m.1 % r.2.1 → f' = true) ∧ ((rd M0 g (i : Int)).1 / r.2.1 = m.1 / r.2.1 → r1 = true)) →
        ∃ f2 r2 o2, l76_3 9000 j r p m f' r1 o' g (g.length : Int) ((i + 1 : Nat) : Int) = some (r, m, f2, r2, o2, ()) ∧ (f = true → f2 = true) ∧ (r' = true → r2 = true) ∧ (o = true → o2 = true) ∧
          ∀ i' : Nat, i ≤ i' → i' < g.length → Qual p m (rd M0 g (i' : Int)) → o2 = true ∧ ((rd M0 g (i' : Int)).1 % r.2.1 = m.1 % r.2.1 → f2 = true) ∧ ((rd M0 g (i' : Int)).1 / r.2.1 = m.1 / r.2.1 → r2 = true) := by
      intro f' r1 o' k1 k2 k3 k4
      obtain ⟨f2, r2, o2, h1, h2, h3, h4, h5⟩ := from3 hp g hg hgl m hm j (i + 1) f' r1 o' (by omega) (by omega)
      refine ⟨f2, r2, o2, h1, fun h => h2 (k1 h), fun h => h3 (k2 h), fun h => h4 (k3 h), fun i' hi1 hi2 hq => ?_⟩
      by_cases hii : i' = i
      · subst hii
        obtain ⟨q1, q2, q3⟩ := k4 hq
        exact ⟨h4 q1, fun h => h2 (q2 h), fun h => h3 (q3 h)⟩
      · exact h5 i' (by omega) hi2 hq
    generalize rd M0 g (i : Int) = x at hx skip ⊢
    by_cases c1 : x.1 < 0
    · rw [bt1 c1]
      exact skip f r' o id id id (fun h => by have := h.1; omega)
    rw [bf1 c1]
    by_cases c2 : x.1 = m.1
    · rw [be1 c2]
      exact skip f r' o id id id (fun h => absurd c2 h.2.1)
    rw [bn1 c2]
    by_cases c3 : x.2.1 = m.2.1
    rotate_left
    · rw [bne1 c3]
      exact skip f r' o id id id (fun h => absurd h.2.2.1 c3)
    rw [beq1 c3]
    obtain ⟨_, _, _, _, hc⟩ := hx
    obtain ⟨g0, g1, f1, _⟩ := hc.resolve_left (fun h => by have := h.1; omega)
    have hcx := cellz hp g0 g1
    have hcm := cellz hp hm.1 hm.2.1
    rw [bt2 ⟨g0, g1⟩, (kind_eq' _ r.2.2.2.1.length f1 hcx.2 (by omega)).1]
    simp only [Option.bind_some]
    rw [bt2 ⟨hm.1, hm.2.1⟩, (kind_eq' _ r.2.2.2.1.length hm.2.2 hcm.2 (by omega)).1]
    simp only [Option.bind_some]
    by_cases c4 : knd (rd 0 p.1 x.1) = knd (rd 0 p.1 m.1)
    rotate_left
    · rw [bne1 c4]
      exact skip f r' o id id id (fun h => absurd h.2.2.2 c4)
    rw [beq1 c4]
    have w8 := hp.ru.w8
    have hlen := hp.len
    have bx := sq_bd hp.ru x.1 ⟨g0, by omega⟩
    have bm := sq_bd hp.ru m.1 ⟨hm.1, by omega⟩
    rw [Int.tmod_eq_emod_of_nonneg g0, Int.tdiv_eq_ediv_of_nonneg g0, Int.tmod_eq_emod_of_nonneg hm.1, Int.tdiv_eq_ediv_of_nonneg hm.1, ws (n := x.1 / r.2.1) (by omega), ws (n := m.1 / r.2.1) (by omega)]
    cases f
    · rw [cond_false]
      rw [bf1 (show ¬ r.2.1 = 0 by omega), bf1 (show ¬ r.2.1 = 0 by omega)]
      cases r'
      · rw [cond_false]
        rw [bf1 (show ¬ r.2.1 = 0 by omega), bf1 (show ¬ r.2.1 = 0 by omega)]
        exact skip (x.1 % r.2.1 == m.1 % r.2.1) (x.1 / r.2.1 == m.1 / r.2.1) true (fun h => by cases h) (fun h => by cases h) (fun _ => rfl) (fun _ => ⟨rfl, fun h => beq_iff_eq.2 h, fun h => beq_iff_eq.2 h⟩)
      · rw [cond_true]
        exact skip (x.1 % r.2.1 == m.1 % r.2.1) true true (fun h => by cases h) (fun _ => rfl) (fun _ => rfl) (fun _ => ⟨rfl, fun h => beq_iff_eq.2 h, fun _ => rfl⟩)
    · rw [cond_true]
      cases r'
      · rw [cond_false]
        rw [bf1 (show ¬ r.2.1 = 0 by omega), bf1 (show ¬ r.2.1 = 0 by omega)]
        exact skip true (x.1 / r.2.1 == m.1 / r.2.1) true (fun _ => rfl) (fun h => by cases h) (fun _ => rfl) (fun _ => ⟨rfl, fun _ => rfl, fun h => beq_iff_eq.2 h⟩)
      · rw [cond_true]
        exact skip true true true (fun _ => rfl) (fun _ => rfl) (fun _ => rfl) (fun _ => ⟨rfl, fun _ => rfl, fun _ => rfl⟩)
/-- The bytes between the letter and the square. -/
def frB (r : RU) (n : Int) (f rw o : Bool) : List UInt8 := if o = false then [] else if f = false then [col r n] else if rw = false then [rowb r n] else [col r n, rowb r n]
theorem from_eq (hp : POK r p) (g : List MV) (hg : ∀ x ∈ g, MvOK r p x) (hgl : g.length ≤ 8000) (m : MV) (hm : 0 ≤ m.1 ∧ m.1 < p.1.length ∧ 1 ≤ rd 0 p.1 m.1) :
    ∃ b f r2 o, f76 9000 r p g m = some (b, ()) ∧ b.data.toList = frB r m.1 f r2 o ∧ ∀ x ∈ g, Qual p m x → o = true ∧ (x.1 % r.2.1 = m.1 % r.2.1 → f = true) ∧ (x.1 / r.2.1 = m.1 / r.2.1 → r2 = true) := by
  have hlen := hp.len
  obtain ⟨f, r2, o, h1, _, _, _, h2⟩ := from3 hp g hg hgl m hm 9000 0 false false false (by omega) (by omega)
  rw [show ((0 : Nat) : Int) = 0 from rfl] at h1
  obtain ⟨s, hs, hsd⟩ := square_eq hp.ru m.1 ⟨hm.1, by omega⟩
  have hq : ∀ x ∈ g, Qual p m x → o = true ∧ (x.1 % r.2.1 = m.1 % r.2.1 → f = true) ∧ (x.1 / r.2.1 = m.1 / r.2.1 → r2 = true) := by
    intro x hx hqx
    obtain ⟨n, hn, rfl⟩ := List.mem_iff_getElem.1 hx
    have e : g[n] = rd M0 g (n : Int) := by simp [rd, List.getD_eq_getElem?_getD, List.getElem?_eq_getElem hn]
    rw [e] at hqx ⊢
    exact h2 n (by omega) hn hqx
  have hsz : s.size = 2 := by rw [size_data, hsd]; rfl
  unfold f76
  rw [h1]
  simp only [Option.bind_some]
  rw [hs]
  simp only [Option.bind_some]
  cases o
  · exact ⟨_, f, r2, false, rfl, rfl, hq⟩
  · simp only [Bool.not_true, cond_false]
    cases f
    · simp only [Bool.not_false, cond_true]
      rw [bt1 (by omega)]
      refine ⟨_, false, r2, true, rfl, ?_, hq⟩
      rw [ByteArray.data_extract, Array.toList_extract, hsd]
      rfl
    · simp only [Bool.not_true, cond_false]
      cases r2
      · simp only [Bool.not_false, cond_true]
        rw [bt2 ⟨by omega, by omega⟩]
        refine ⟨_, true, false, true, rfl, ?_, hq⟩
        rw [ByteArray.data_extract, Array.toList_extract, hsd, hsz]
        rfl
      · exact ⟨_, true, true, true, rfl, hsd, hq⟩
theorem frB_len (n : Int) (f rw o : Bool) : (frB r n f rw o).length ≤ 2 := by
  unfold frB
  cases o <;> cases f <;> cases rw <;> simp
theorem let_eq (hr : ROK r) (k : Int) (hk : 0 ≤ k ∧ k < r.2.2.2.1.length) : (encS (rd ((0, 0, 0, [], ()) : PC) r.2.2.2.1 k).1).data.toList = [LL r k] := by
  obtain ⟨i, rfl⟩ := Int.eq_ofNat_of_zero_le hk.1
  have h1 := hr.pcs i (by omega)
  exact encS_eq _ ⟨h1.1, h1.2.1⟩
end
end Go.Proofs.Ytphgopfhobockaa.G
