import Derived.Test.YtpnbiakaknbofaaGreatDoorVM23
import Derived.Room.Shelf.Join48
namespace Go.VM
open Go.RowKit Go.Shelf Go.Lib Go.Proofs
noncomputable def joinB (xs : List ByteArray) (sep : ByteArray) : ByteArray := ⟨(Lib.join (xs.map (·.data.toList)) sep.data.toList).toArray⟩
theorem joinB_data (xs : List ByteArray) (sep : ByteArray) : (joinB xs sep).data.toList = sep.data.toList.intercalate (xs.map (·.data.toList)) := rfl
variable {P : Program} {ρ : Ren} {G : GTab}
theorem join_ok (L : Lays.n156 P ρ) (X : Builder.Extra P ρ) (enter : ∀ (args : Array Value) (w : World), (callFunc (ρ.f 156) args).run P w = .ok (.enter (ρ.f 156) args) w) :
    FnOK P G (ρ.f 156) ⟨[.val (.sl .str), .val .str], [], [[.val .str]], fun x => bif decide ((joinB x.1 x.2.1).size ≤ 281474976710656) && decide (List.length (α := ByteArray) x.1 ≤ 140737488355328) then some (joinB x.1 x.2.1, ()) else none⟩ := by
  refine ⟨enter, fun x y hy w A args hs hlen hA hrep hdist hdis hgl => ?_⟩
  have hsz := (Bool.and_eq_true _ _).mp (cond_some hy).1
  have hy := (cond_some hy).2
  cases hy
  obtain ⟨(xs : List ByteArray), (sep : ByteArray), _⟩ := x
  have h1 : (joinB xs sep).size ≤ 281474976710656 := of_decide_eq_true hsz.1
  have h2 : xs.length ≤ 140737488355328 := of_decide_eq_true hsz.2
  obtain ⟨cs, k0, k1, rfl, hsh, ⟨rfl, hf⟩, cs1, k10, k11, hh, hsh1, ⟨rfl, hf1⟩, hh2⟩ := hrep
  have hlen : args.length = 2 := hlen
  obtain ⟨v0, v1, rfl⟩ : ∃ v0 v1, args = [v0, v1] := by
    match args, hlen with
    | [a, b], _ => exact ⟨a, b, rfl⟩
  have e0 : cs = [v0] := hsh
  have e1 : cs1 = [v1] := hsh1
  have f1 : cs1 = [.string sep] := hf1
  rw [e1] at f1
  simp only [List.cons.injEq, and_true] at f1
  subst f1
  obtain ⟨ad, cap, f0, hcap, _, _, hel⟩ := hf
  rw [e0] at f0
  simp only [List.cons.injEq, and_true] at f0
  subst f0
  have hnil : k1 = [] := by rw [hh]; exact hh2
  subst hnil
  have fin : ∀ e w', e = Ending.returned (.string (joinB xs sep)) → Below w.heap.size w w' → OutRep (fun l z => ∃ vs hs', e = .returned (tupVal vs) ∧ vs.length + ([] : List Nat).length = l.length ∧ BelowX (inHd ([] ++ [])) w w' ∧ (∀ b, inHd hs' b → w.heap.size ≤ b ∨ inHd ([] ++ []) b) ∧ DistH hs' ∧
      LRepL w' (AvO A hs') (nthV (vs ++ ([] : List Nat).map (nthV [.slice ad xs.length cap, .string sep]))) (lay 0 l) z hs') [[.val .str]] (joinB xs sep, ()) := by
    rintro e w' rfl hb
    refine ⟨[.string (joinB xs sep)], [], rfl, rfl, ⟨hb.os, hb.tape, hb.output, hb.size, fun b hlt _ => hb.block b hlt, fun h => h.elim⟩, (fun b hb' => by obtain ⟨c, hc⟩ := hb'; cases hc), (fun i j b c c' h => by simp at h), ?_⟩
    exact ⟨[.string (joinB xs sep)], [], [], rfl, rfl, ⟨rfl, rfl⟩, rfl⟩
  match xs, hel, h1, h2, hcap, fin with
  | [], hel, h1, h2, hcap, fin =>
    refine (Any.strings_Join_none L X ad cap sep w).mono ?_
    rintro e w' ⟨rfl, rfl⟩
    exact fin _ _ rfl (Below.refl _ _)
  | x :: r, hel, h1, h2, hcap, fin =>
    obtain ⟨a, ec, rfl, _, _⟩ := hel 0 x rfl
    have hcell : ∀ (j : Nat) y, (x :: r)[j]? = some y → w.cell? (a.add (j * 1 + 0)) = some (.string y) := by
      intro j y hj
      obtain ⟨a', ec, ha, hec, hu⟩ := hel j y hj
      cases ha
      have hec : ec = [.string y] := hec
      subst hec
      exact (hu 0 _ rfl).2
    have h0 := hcell 0 x rfl
    obtain ⟨bk, o, sp⟩ := a
    have hsp : sp = none ∧ bk < w.heap.size := by
      unfold World.cell? at h0
      cases hh : w.heap[bk]? with
      | none => rw [show ((⟨bk, o, sp⟩ : Addr).add (0 * 1 + 0)).block = bk from rfl, hh] at h0; cases h0
      | some ob =>
        refine ⟨?_, (Array.getElem?_eq_some_iff.1 hh).1⟩
        rw [show ((⟨bk, o, sp⟩ : Addr).add (0 * 1 + 0)).block = bk from rfl, hh] at h0
        cases sp with
        | none => rfl
        | some s =>
          cases ob <;> cases h0
    obtain ⟨rfl, hbk⟩ := hsp
    refine (Any.strings_Join_48 L X bk o cap (x :: r) sep w (fun j y hj => ?_) hbk h2 hcap h1).mono ?_
    · have := hcell j y hj
      rw [Nat.mul_one, Nat.add_zero] at this
      unfold Addr.add at this
      split at this
      · rename_i hj0
        rw [hj0, Nat.add_zero]
        exact this
      · exact this
    · rintro e w' ⟨rfl, hb⟩
      exact fin _ _ rfl hb
end Go.VM
