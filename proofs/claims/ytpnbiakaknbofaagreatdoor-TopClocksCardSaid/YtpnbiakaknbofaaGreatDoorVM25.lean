import Derived.Test.YtpnbiakaknbofaaGreatDoorVM22
import Derived.Shelf.Small.Strs
namespace Go.VM
open Go.RowKit Go.Shelf Go.Lib Go.Proofs
variable {P : Program} {ρ : Ren} {G : GTab}
noncomputable def indexB (s : ByteArray) (c : Int) : Int := Lib.indexByte s.data.toList c.toNat.toUInt8
theorem index_ok [Dr] (L : Lays.n137 P ρ) (enter : ∀ (args : Array Value) (w : World), (callFunc (ρ.f 137) args).run P w = .ok (.enter (ρ.f 137) args) w) :
    FnOK P G (ρ.f 137) ⟨[.val .str, .val (.int .u8)], [], [[.val (.int .i64)]], fun x => some (indexB x.1 x.2.1, ())⟩ := by
  refine ⟨enter, fun x y hy w A args hs hlen hA hrep hdist hdis hgl => ?_⟩
  cases hy
  obtain ⟨(s : ByteArray), (c : Int), _⟩ := x
  obtain ⟨cs, k0, k1, rfl, hsh, ⟨rfl, hf⟩, cs1, k10, k11, hh, hsh1, ⟨rfl, hf1⟩, hh2⟩ := hrep
  have hlen : args.length = 2 := hlen
  obtain ⟨v0, v1, rfl⟩ : ∃ v0 v1, args = [v0, v1] := by
    match args, hlen with
    | [a, b], _ => exact ⟨a, b, rfl⟩
  have e0 : cs = [v0] := hsh
  have e1 : cs1 = [v1] := hsh1
  have f0 : cs = [.string s] := hf
  have f1 : cs1 = [.int .u8 c] := hf1
  rw [e0] at f0
  rw [e1] at f1
  simp only [List.cons.injEq, and_true] at f0 f1
  subst f0 f1
  have hnil : k1 = [] := by rw [hh]; exact hh2
  subst hnil
  refine (Any.strings_IndexByte L s c w).mono ?_
  rintro e w' ⟨rfl, rfl⟩
  refine ⟨[.int .i64 (indexB s c)], [], rfl, rfl, BelowX.refl _ _, (fun b hb' => by obtain ⟨c, hc⟩ := hb'; cases hc), (fun i j b c c' h => by simp at h), ?_⟩
  exact ⟨[.int .i64 (indexB s c)], [], [], rfl, rfl, ⟨rfl, rfl⟩, rfl⟩
end Go.VM
