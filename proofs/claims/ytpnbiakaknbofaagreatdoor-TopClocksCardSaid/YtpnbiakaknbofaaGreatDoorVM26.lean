import Derived.Test.YtpnbiakaknbofaaGreatDoorVM22
import Derived.Shelf.Strconv.Itoa3
namespace Go.VM
open Go.RowKit Go.Shelf Go.Lib Go.Proofs Go.Sort
theorem inI64_ex : ∃ f : Int → Bool, ∀ x, f x = (decide (-9223372036854775808 ≤ x) && decide (x ≤ 9223372036854775807)) := ⟨_, fun _ => rfl⟩
noncomputable def inI64 : Int → Bool := Classical.choose inI64_ex
theorem inI64_eq (x : Int) : inI64 x = (decide (-9223372036854775808 ≤ x) && decide (x ≤ 9223372036854775807)) := Classical.choose_spec inI64_ex x
theorem inI64_of {x : Int} (h : inI64 x = true) : -9223372036854775808 ≤ x ∧ x ≤ 9223372036854775807 := by
  rw [inI64_eq, Bool.and_eq_true] at h
  exact ⟨of_decide_eq_true h.1, of_decide_eq_true h.2⟩
noncomputable def itoaB (n : Int) : ByteArray := ⟨(Lib.itoa n).toArray⟩
theorem frep_ints {w : World} {A : Nat → Prop} {k : IntKind} : ∀ (l : List Int) (cs : List Value), FRep w A (repT l.length (.int k)) (tupI l k) cs → cs = l.map (Value.int k)
  | [], cs, h => h
  | x :: r, cs, h => by
    obtain ⟨c1, c2, rfl, h1, h2⟩ := h
    rw [frep_ints r c2 h2]
    have h1 : c1 = [.int k x] := h1
    rw [h1]
    rfl
theorem tab_of {P : Program} {G : GTab} {w : World} {A : Nat → Prop} {nm : String} {g : Nat} {k : IntKind} {l : List Int} (hg : P.globalNamed nm = some g) (hm : (⟨g, repT l.length (.int k), tupI l k⟩ : Gl) ∈ G) (h : GRep G w A) : Lib.TabIs P w nm k l := by
  obtain ⟨cs, hf, ⟨_, y, z, hb⟩, _⟩ := h _ hm
  have hf := frep_ints l cs hf
  subst hf
  unfold Lib.TabIs World.var?
  have hb : w.heap[g]? = some (.cells (l.map (Value.int k)).toArray y z) := hb
  rw [hg, Option.bind_some, hb]
variable {P : Program} {ρ : Ren} {G : GTab}
theorem belowX_grow [Dr] {I : Nat → Prop} {w : World} {k : Nat} {os : Array Obj} : BelowX I w (grow (w.drewN k) os) :=
  ⟨rfl, rfl, rfl, by simp [grow, World.drewN], fun b hb _ => by simp [grow, World.drewN, Array.getElem?_append, hb], fun _ => Nat.le_add_right _ _⟩
theorem itoa_ok [Dr] (L : LaysM.n171 P ρ) {g : Nat} {l : List Int} (hg : P.globalNamed "internal/strconv.uint64pow10" = some g) (hl : l = Lib.pow10Tab) (hm : (⟨g, repT l.length (.int .u64), tupI l .u64⟩ : Gl) ∈ G)
    (enter : ∀ (args : Array Value) (w : World), (callFunc (ρ.f 171) args).run P w = .ok (.enter (ρ.f 171) args) w) :
    FnOK P G (ρ.f 171) ⟨[.val (.int .i64)], [], [[.val .str]], fun x => bif inI64 x.1 then some (itoaB x.1, ()) else none⟩ := by
  refine ⟨enter, fun x y hy w A args hs hlen hA hrep hdist hdis hgl => ?_⟩
  have hr := inI64_of (cond_some hy).1
  have hy := (cond_some hy).2
  cases hy
  obtain ⟨(n : Int), _⟩ := x
  obtain ⟨cs, k0, k1, rfl, hsh, ⟨rfl, hf⟩, hh2⟩ := hrep
  have hlen : args.length = 1 := hlen
  obtain ⟨v0, rfl⟩ : ∃ v0, args = [v0] := by
    match args, hlen with
    | [a], _ => exact ⟨a, rfl⟩
  have e0 : cs = [v0] := hsh
  have f0 : cs = [.int .i64 n] := hf
  rw [e0] at f0
  simp only [List.cons.injEq, and_true] at f0
  subst f0
  have hnil : k1 = [] := hh2
  subst hnil
  have htab := tab_of hg hm hgl
  rw [hl] at htab
  refine (Any.strconv_Itoa L n hr.1 hr.2 w htab).mono ?_
  rintro e w' ⟨rfl, k, os, rfl⟩
  refine ⟨[.string (itoaB n)], [], rfl, rfl, belowX_grow, (fun b hb' => by obtain ⟨c, hc⟩ := hb'; cases hc), (fun i j b c c' h => by simp at h), ?_⟩
  exact ⟨[.string (itoaB n)], [], [], rfl, rfl, ⟨rfl, rfl⟩, rfl⟩
end Go.VM
