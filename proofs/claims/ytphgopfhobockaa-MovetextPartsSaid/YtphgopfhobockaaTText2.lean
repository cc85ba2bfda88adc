/- The text of a move. -/
import Derived.Test.YtphgopfhobockaaTText
namespace Go.Proofs.Ytphgopfhobockaa.G
open Go.VM Go.Proofs
section
variable {r : RU} {p : PO}
theorem text_drop (hp : POK r p) (g : List MV) (m : MV) (hm : MvOK r p m) (h0 : m.1 < 0) : ∃ b, f43 9000 r p g m = some (b, ()) ∧ b.data.toList = [LL r m.2.2.1, b8 64, col r m.2.1, rowb r m.2.1] := by
  have hlen := hp.len
  obtain ⟨t0, t1, k0, k1, _⟩ := hm
  obtain ⟨s, hs, hsd⟩ := square_eq hp.ru m.2.1 ⟨t0, by omega⟩
  have hL := let_eq hp.ru m.2.2.1 ⟨k0, k1⟩
  have hLs : (encS (rd ((0, 0, 0, [], ()) : PC) r.2.2.2.1 m.2.2.1).1).size = 1 := by rw [size_data, hL]; rfl
  have hss : s.size = 2 := by rw [size_data, hsd]; rfl
  have l64 : (⟨#[64]⟩ : ByteArray).size = 1 := rfl
  unfold f43
  rw [bt1 h0, bt2 ⟨k0, k1⟩, fits_ok (by omega)]
  simp only [cond_true]
  rw [hs]
  simp only [Option.bind_some]
  rw [fits_ok (by rw [ByteArray.size_append]; omega)]
  refine ⟨_, rfl, ?_⟩
  rw [data_app, data_app, hL, hsd]
  rfl
theorem text_move (hp : POK r p) (g : List MV) (hg : ∀ x ∈ g, MvOK r p x) (hgl : g.length ≤ 8000) (m : MV) (hm : MvOK r p m) (h0 : ¬ m.1 < 0) :
    ∃ b f r2 o, f43 9000 r p g m = some (b, ()) ∧ b.data.toList = LL r (knd (rd 0 p.1 m.1)) :: (((frB r m.1 f r2 o ++ (if rd 0 p.1 m.2.1 = 0 then [] else [b8 120])) ++ [col r m.2.1, rowb r m.2.1]) ++ (if m.2.2.1 = knd (rd 0 p.1 m.1) then [] else [b8 61, LL r m.2.2.1])) ∧
      ∀ x ∈ g, Qual p m x → o = true ∧ (x.1 % r.2.1 = m.1 % r.2.1 → f = true) ∧ (x.1 / r.2.1 = m.1 / r.2.1 → r2 = true) := by
  have hlen := hp.len
  have hn6 := hp.ru.n6
  obtain ⟨t0, t1, k0, k1, hc⟩ := hm
  obtain ⟨g0, g1, f1, _⟩ := hc.resolve_left (fun h => by have := h.1; omega)
  have hcm := cellz hp g0 g1
  obtain ⟨hkk, d0, d1⟩ := kind_eq' _ r.2.2.2.1.length f1 hcm.2 (by omega)
  obtain ⟨fb, f, r2, o, hf, hfd, hq⟩ := from_eq hp g hg hgl m ⟨g0, g1, f1⟩
  obtain ⟨s, hs, hsd⟩ := square_eq hp.ru m.2.1 ⟨t0, by omega⟩
  have hL := let_eq hp.ru (knd (rd 0 p.1 m.1)) ⟨d0, d1⟩
  have hL2 := let_eq hp.ru m.2.2.1 ⟨k0, k1⟩
  have hLs : (encS (rd ((0, 0, 0, [], ()) : PC) r.2.2.2.1 (knd (rd 0 p.1 m.1))).1).size = 1 := by rw [size_data, hL]; rfl
  have hLs2 : (encS (rd ((0, 0, 0, [], ()) : PC) r.2.2.2.1 m.2.2.1).1).size = 1 := by rw [size_data, hL2]; rfl
  have hss : s.size = 2 := by rw [size_data, hsd]; rfl
  have hfs : fb.size ≤ 2 := by rw [size_data, hfd]; exact frB_len ..
  have l120 : (⟨#[120]⟩ : ByteArray).size = 1 := rfl
  have l61 : (⟨#[61]⟩ : ByteArray).size = 1 := rfl
  unfold f43
  rw [bf1 h0, bt2 ⟨g0, g1⟩, hkk]
  simp only [Option.bind_some]
  rw [bt2 ⟨d0, d1⟩, hf]
  simp only [Option.bind_some]
  rw [fits_ok (by omega), cond_true, bt2 ⟨t0, t1⟩, hs]
  simp only [Option.bind_some]
  by_cases c0 : rd 0 p.1 m.2.1 = 0
  · rw [beq1 c0, fits_ok (by rw [ByteArray.size_append]; omega), cond_true]
    by_cases ck : m.2.2.1 = knd (rd 0 p.1 m.1)
    · rw [beq1 ck]
      refine ⟨_, f, r2, o, rfl, ?_, hq⟩
      rw [if_pos c0, if_pos ck, data_app, data_app, hL, hsd, hfd]
      simp
    · rw [bne1 ck, bt2 ⟨k0, k1⟩, fits_ok (by omega), cond_true, fits_ok (by simp only [ByteArray.size_append]; omega)]
      refine ⟨_, f, r2, o, rfl, ?_, hq⟩
      rw [if_pos c0, if_neg ck, data_app, data_app, data_app, data_app, hL, hsd, hfd, hL2]
      simp [b8]
  · rw [bne1 c0, fits_ok (by rw [ByteArray.size_append]; omega), cond_true, fits_ok (by simp only [ByteArray.size_append]; omega), cond_true]
    by_cases ck : m.2.2.1 = knd (rd 0 p.1 m.1)
    · rw [beq1 ck]
      refine ⟨_, f, r2, o, rfl, ?_, hq⟩
      rw [if_neg c0, if_pos ck, data_app, data_app, data_app, hL, hsd, hfd]
      simp [b8]
    · rw [bne1 ck, bt2 ⟨k0, k1⟩, fits_ok (by omega), cond_true, fits_ok (by simp only [ByteArray.size_append]; omega)]
      refine ⟨_, f, r2, o, rfl, ?_, hq⟩
      rw [if_neg c0, if_neg ck, data_app, data_app, data_app, data_app, data_app, hL, hsd, hfd, hL2]
      simp [b8]
end
end Go.Proofs.Ytphgopfhobockaa.G
