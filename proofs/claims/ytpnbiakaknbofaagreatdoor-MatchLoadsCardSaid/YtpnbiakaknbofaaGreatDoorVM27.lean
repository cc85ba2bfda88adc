/- The value machine: strings.Count and strings.Index of one byte, strconv.Atoi of a number's text, out of the library's own contracts. -/
import Derived.Test.YtpnbiakaknbofaaGreatDoorVM26
import Derived.Shelf.Strings.Count
import Derived.Shelf.Strings.Search3
import Derived.Shelf.Strconv.AtoiAll
namespace Go.VM
open Go.RowKit Go.Shelf Go.Lib Go.Proofs

variable {P : Program} {ρ : Ren} {G : GTab}
def headB (s : ByteArray) : UInt8 := s.data.toList.headD 0
theorem one_byte {s : ByteArray} (h : Nat.beq s.size 1 = true) : s = ⟨#[headB s]⟩ := by
  obtain ⟨⟨l⟩⟩ := s
  have h : l.length = 1 := Nat.eq_of_beq_eq_true h
  match l, h with
  | [c], _ => rfl
noncomputable def countB1 (s sep : ByteArray) : Int := Lib.countByte s.data.toList (headB sep)
noncomputable def indexB1 (s sep : ByteArray) : Int := Lib.indexByte s.data.toList (headB sep)
theorem count_ok [Dr] (L : Lays.n138 P ρ) (enter : ∀ (args : Array Value) (w : World), (callFunc (ρ.f 138) args).run P w = .ok (.enter (ρ.f 138) args) w) :
    FnOK P G (ρ.f 138) ⟨[.val .str, .val .str], [], [[.val (.int .i64)]], fun x => bif Nat.beq (ByteArray.size x.2.1) 1 then some (countB1 x.1 x.2.1, ()) else none⟩ := by
  refine ⟨enter, fun x y hy w A args hs hlen hA hrep hdist hdis hgl => ?_⟩
  have h1 := one_byte (cond_some hy).1
  have hy := (cond_some hy).2
  cases hy
  obtain ⟨(s : ByteArray), (c : ByteArray), _⟩ := x
  obtain ⟨cs, k0, k1, rfl, hsh, ⟨rfl, hf⟩, cs1, k10, k11, hh, hsh1, ⟨rfl, hf1⟩, hh2⟩ := hrep
  have hlen : args.length = 2 := hlen
  obtain ⟨v0, v1, rfl⟩ : ∃ v0 v1, args = [v0, v1] := by
    match args, hlen with
    | [a, b], _ => exact ⟨a, b, rfl⟩
  have e0 : cs = [v0] := hsh
  have e1 : cs1 = [v1] := hsh1
  have f0 : cs = [.string s] := hf
  have f1 : cs1 = [.string c] := hf1
  rw [e0] at f0
  rw [e1] at f1
  simp only [List.cons.injEq, and_true] at f0 f1
  subst f0 f1
  have hnil : k1 = [] := by rw [hh]; exact hh2
  subst hnil
  have h1 : c = ⟨#[headB c]⟩ := h1
  have := Any.strings_Count_one L s (headB c) w
  rw [← h1] at this
  refine this.mono ?_
  rintro e w' ⟨rfl, rfl⟩
  refine ⟨[.int .i64 (countB1 s c)], [], rfl, rfl, BelowX.refl _ _, (fun b hb' => by obtain ⟨c, hc⟩ := hb'; cases hc), (fun i j b c c' h => by simp at h), ?_⟩
  exact ⟨[.int .i64 (countB1 s c)], [], [], rfl, rfl, ⟨rfl, rfl⟩, rfl⟩
theorem index1_ok [Dr] (L : Lays.n143 P ρ) (enter : ∀ (args : Array Value) (w : World), (callFunc (ρ.f 143) args).run P w = .ok (.enter (ρ.f 143) args) w) :
    FnOK P G (ρ.f 143) ⟨[.val .str, .val .str], [], [[.val (.int .i64)]], fun x => bif Nat.beq (ByteArray.size x.2.1) 1 then some (indexB1 x.1 x.2.1, ()) else none⟩ := by
  refine ⟨enter, fun x y hy w A args hs hlen hA hrep hdist hdis hgl => ?_⟩
  have h1 := one_byte (cond_some hy).1
  have hy := (cond_some hy).2
  cases hy
  obtain ⟨(s : ByteArray), (c : ByteArray), _⟩ := x
  obtain ⟨cs, k0, k1, rfl, hsh, ⟨rfl, hf⟩, cs1, k10, k11, hh, hsh1, ⟨rfl, hf1⟩, hh2⟩ := hrep
  have hlen : args.length = 2 := hlen
  obtain ⟨v0, v1, rfl⟩ : ∃ v0 v1, args = [v0, v1] := by
    match args, hlen with
    | [a, b], _ => exact ⟨a, b, rfl⟩
  have e0 : cs = [v0] := hsh
  have e1 : cs1 = [v1] := hsh1
  have f0 : cs = [.string s] := hf
  have f1 : cs1 = [.string c] := hf1
  rw [e0] at f0
  rw [e1] at f1
  simp only [List.cons.injEq, and_true] at f0 f1
  subst f0 f1
  have hnil : k1 = [] := by rw [hh]; exact hh2
  subst hnil
  have h1 : c = ⟨#[headB c]⟩ := h1
  have := Any.strings_Index_one L s (headB c) w
  rw [← h1] at this
  refine this.mono ?_
  rintro e w' ⟨rfl, rfl⟩
  refine ⟨[.int .i64 (indexB1 s c)], [], rfl, rfl, BelowX.refl _ _, (fun b hb' => by obtain ⟨c, hc⟩ := hb'; cases hc), (fun i j b c c' h => by simp at h), ?_⟩
  exact ⟨[.int .i64 (indexB1 s c)], [], [], rfl, rfl, ⟨rfl, rfl⟩, rfl⟩
noncomputable def atoiB (s : ByteArray) : Option (Int × Bool × Unit) :=
  bif decide (s.size ≤ 1000) then (match Lib.atoiAll s.data.toList with | .ok v => some (v, true, ()) | _ => none) else none
theorem atoiB_some {s : ByteArray} {y : Int × Bool × Unit} (h : atoiB s = some y) : s.size ≤ 1000 ∧ ∃ v, Lib.atoiAll s.data.toList = .ok v ∧ y = (v, true, ()) := by
  unfold atoiB at h
  have h1 := (cond_some h).1
  have h2 := (cond_some h).2
  refine ⟨of_decide_eq_true h1, ?_⟩
  split at h2
  · rename_i v hv
    exact ⟨v, hv, (Option.some.inj h2).symm⟩
  · cases h2
theorem belowX_bytes [Dr] {I : Nat → Prop} {w : World} {e : TypeId} {s : ByteArray} : BelowX I w (Lib.bytesWorld w e s) :=
  ⟨rfl, rfl, rfl, by rw [Lib.bytesWorld_size]; omega, fun b hb _ => Lib.bytesWorld_at_old w e s b hb, fun _ => Nat.le_succ _⟩
theorem atoi_ok [Dr] (L : LaysC.n172 P ρ) (enter : ∀ (args : Array Value) (w : World), (callFunc (ρ.f 172) args).run P w = .ok (.enter (ρ.f 172) args) w) :
    FnOK P G (ρ.f 172) ⟨[.val .str], [], [[.val (.int .i64), .val .err]], fun x => atoiB x.1⟩ := by
  refine ⟨enter, fun x y hy w A args hs hlen hA hrep hdist hdis hgl => ?_⟩
  obtain ⟨(s : ByteArray), _⟩ := x
  obtain ⟨hsz, v, hv, rfl⟩ := atoiB_some (s := s) hy
  obtain ⟨cs, k0, k1, rfl, hsh, ⟨rfl, hf⟩, hh2⟩ := hrep
  have hlen : args.length = 1 := hlen
  obtain ⟨v0, rfl⟩ : ∃ v0, args = [v0] := by
    match args, hlen with
    | [a], _ => exact ⟨a, rfl⟩
  have e0 : cs = [v0] := hsh
  have f0 : cs = [.string s] := hf
  rw [e0] at f0
  simp only [List.cons.injEq, and_true] at f0
  subst f0
  have hnil : k1 = [] := hh2
  subst hnil
  have key : ∀ w', BelowX (inHd ([] ++ [])) w w' → OutRep (fun l z => ∃ vs hs', (Ending.returned (.tuple #[.int .i64 v, .nilIface])) = .returned (tupVal vs) ∧ vs.length + ([] : List Nat).length = l.length ∧ BelowX (inHd ([] ++ [])) w w' ∧ (∀ b, inHd hs' b → w.heap.size ≤ b ∨ inHd ([] ++ []) b) ∧ DistH hs' ∧
      LRepL w' (AvO A hs') (nthV (vs ++ ([] : List Nat).map (nthV [.string s]))) (lay 0 l) z hs') [[.val (.int .i64), .val .err]] (v, true, ()) := by
    intro w' hb
    refine ⟨[.int .i64 v, .nilIface], [], rfl, rfl, hb, (fun b hb' => by obtain ⟨c, hc⟩ := hb'; cases hc), (fun i j b c c' h => by simp at h), ?_⟩
    exact ⟨[.int .i64 v], [], [], rfl, rfl, ⟨rfl, rfl⟩, [.nilIface], [], [], rfl, rfl, ⟨rfl, .nilIface, rfl, rfl, by rw [if_pos rfl]⟩, rfl⟩
  refine (Any.strconv_Atoi_ok L s (by omega) v hv w).mono ?_
  rintro e w' ⟨rfl, rfl | ⟨t, rfl⟩⟩
  · exact key _ (BelowX.refl _ _)
  · exact key _ belowX_bytes
end Go.VM
