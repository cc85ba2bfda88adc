import Derived.Test.YtpnbiakaknbofaaGreatDoorVM22
import Derived.Shelf.Strings.Builder1
namespace Go.VM
open Go.RowKit Go.Shelf Go.Lib Go.Proofs
def okU (xs : List Int) : Bool := !nilB xs && xs.all (fun x => decide (0 ≤ x) && decide (x < 256))
def strU (xs : List Int) : ByteArray := ⟨(xs.map (fun x => x.toNat.toUInt8)).toArray⟩
variable {P : Program} {ρ : Ren} {G : GTab}
abbrev BK (T e : Nat) (k0 : CK) : CK := .box T (.cons k0 (.cons (.row (byt e)) .nil))
theorem bld_in {w : World} {A : Nat → Prop} {args : List Value} {hs : List Hd} {T e : Nat} {k0 : CK} {x : (lTy (lay 0 [BK T e k0])).den} (hk : k0 = .slf ∨ k0 = .nilp) (h : LRepL w A (nthV args) (lay 0 [BK T e k0]) x hs) (hlen : args.length = 1) :
    ∃ b p v m, args = [.pointer (some ⟨b, 0, none⟩)] ∧ hs = [some (b, 0), m] ∧ w.heap[b]? = some (.cells #[p, v] T (0, 0)) ∧ (p = .pointer none ∨ p = .pointer (some ⟨b, 0, none⟩)) ∧ (k0 = .nilp → p = .pointer none) ∧ HdV m (List.length (α := (byt e).den) x.1.2.1) v ∧
      (match m with | none => (x.1.2.1 : List (byt e).den) = [] | some (g, c) => RowAt w A (byt e) x.1.2.1 false g c) := by
  obtain ⟨cs, h0, h1, rfl, hsh, ⟨b, cur, hs', rfl, rfl, hg, c0, c1, k1, k2, hc, rfl, r0, c2, c3, k3, k4, rfl, rfl, ⟨m, v, rfl, rfl, hdv, hz, hrow⟩, ⟨rfl, rfl⟩⟩, hr⟩ := h
  have hr : h1 = [] := hr
  subst hr
  obtain ⟨v0, rfl⟩ : ∃ v0, args = [v0] := by
    match args, hlen with
    | [a], _ => exact ⟨a, rfl⟩
  have e0 : [Value.pointer (some ⟨b, 0, none⟩)] = [v0] := hsh
  simp only [List.cons.injEq, and_true] at e0
  subst e0
  have key : ∃ p, k1 = [] ∧ c0 = [p] ∧ (p = .pointer none ∨ p = .pointer (some ⟨b, 0, none⟩)) ∧ (k0 = .nilp → p = .pointer none) := by
    rcases hk with rfl | rfl
    · obtain ⟨h1, h2⟩ := r0
      rcases h2 with h2 | ⟨b', hb', h2⟩
      · exact ⟨_, h1, h2, .inl rfl, fun _ => rfl⟩
      · cases hb'
        exact ⟨_, h1, h2, .inr rfl, fun h => by cases h⟩
    · obtain ⟨h1, h2⟩ := r0
      exact ⟨_, h1, h2, .inl rfl, fun _ => rfl⟩
  obtain ⟨p, rfl, rfl, hp, hp2⟩ := key
  have hcur : cur = #[p, v] := Array.ext' hc
  subst hcur
  exact ⟨b, p, v, m, rfl, rfl, hg, hp, hp2, hdv, hrow⟩
theorem RowAt.keep {w w' : World} {A A' : Nat → Prop} {t : Ty} {xs : List t.den} {fz : Bool} {b cap : Nat} (h : RowAt w A t xs fz b cap) (hb : w'.heap[b]? = w.heap[b]?) (h1 : ∀ k, ¬ A k → k < w.heap.size → w'.heap[k]? = w.heap[k]?) (h2 : ∀ k, A' k → A k) : RowAt w' A' t xs fz b cap := by
  obtain ⟨e, cur, fr, a1, a2, a3, a4, a5, a6⟩ := h
  exact ⟨e, cur, fr, by rw [hb]; exact a1, a2, a3, a4, a5, fun i x hi => let ⟨ec, hf, hc⟩ := a6 i x hi; ⟨ec, FRep.frame h1 (fun b hb => .inl (h2 b hb)) hf, hc⟩⟩
theorem bld_check_core [Dr] {k0 : CK} (hk : k0 = .slf ∨ k0 = .nilp) {e : Nat} (L : Lays.n240 P ρ) (X : Builder.X72 P ρ) (enter : ∀ (args : Array Value) (w : World), (callFunc (ρ.f 240) args).run P w = .ok (.enter (ρ.f 240) args) w) :
    FnOK P G (ρ.f 240) ⟨[BK (ρ.t 72) e k0], [0], [[BK (ρ.t 72) e .slf]], fun x => some (((), x.1.2), ())⟩ := by
  refine ⟨enter, fun x y hy w A args hs hlen hA hrep hdist hdis hgl => ?_⟩
  cases hy
  obtain ⟨b, p, v, m, rfl, rfl, hb, hp, _, hdv, hrow⟩ := bld_in hk hrep hlen
  have hlt : b < w.heap.size := (Array.getElem?_eq_some_iff.1 hb).1
  have c0 : w.cell? ⟨b, 0, none⟩ = some p := by rw [Lib.cell_of_heap hb]; rfl
  rcases hp with rfl | rfl
  · refine (Any.Builder_copyCheck_fresh L X b w c0 (by simp [World.shape?, hb]) (Lib.frozen_of_heap hb 0)).mono ?_
    rintro e' w' ⟨rfl, rfl⟩
    have hother : ∀ k, k ≠ b → (w.setCell ⟨b, 0, none⟩ (.pointer (some ⟨b, 0, none⟩))).heap[k]? = w.heap[k]? := fun k hk => by
      show (Array.modify w.heap b _)[k]? = _
      rw [Array.getElem?_modify, if_neg (fun h : b = k => hk h.symm)]
    have hb' : (w.setCell ⟨b, 0, none⟩ (.pointer (some ⟨b, 0, none⟩))).heap[b]? = some (.cells #[.pointer (some ⟨b, 0, none⟩), v] (ρ.t 72) (0, 0)) := by
      simp [World.setCell, Array.getElem?_modify, hb]
    refine ⟨[], [some (b, 0), m], rfl, rfl, ⟨rfl, rfl, rfl, by simp [World.setCell], fun k _ hk => hother k (fun h => hk (by subst h; exact ⟨0, by simp⟩)), fun _ => Nat.le_refl _⟩, fun k hk => .inr hk, hdist, ?_⟩
    refine ⟨[.pointer (some ⟨b, 0, none⟩)], [some (b, 0), m], [], rfl, rfl, ⟨b, _, [m], rfl, rfl, hb', [.pointer (some ⟨b, 0, none⟩)], [v], [], [m], rfl, rfl, ⟨rfl, .inr ⟨b, rfl, rfl⟩⟩, [v], [], [m], [], rfl, rfl, ⟨m, v, rfl, rfl, hdv, by rw [byt_sz]; decide, ?_⟩, rfl, rfl⟩, rfl⟩
    cases m with
    | none => exact hrow
    | some gc =>
      obtain ⟨g, c⟩ := gc
      have hgb : g ≠ b := by
        rintro rfl
        have := hdist 0 1 g 0 c rfl rfl
        omega
      exact RowAt.keep hrow (hother g hgb) (fun k hk _ => hother k (fun h => hk (by subst h; exact .inr ⟨0, by simp⟩))) (fun k hk => hk)
  · refine (Any.Builder_copyCheck_used L X b w c0).mono ?_
    rintro e' w' ⟨rfl, rfl⟩
    refine ⟨[], [some (b, 0), m], rfl, rfl, BelowX.refl _ _, fun k hk => .inr hk, hdist, ?_⟩
    exact ⟨[.pointer (some ⟨b, 0, none⟩)], [some (b, 0), m], [], rfl, rfl, ⟨b, _, [m], rfl, rfl, hb, [.pointer (some ⟨b, 0, none⟩)], [v], [], [m], rfl, rfl, ⟨rfl, .inr ⟨b, rfl, rfl⟩⟩, [v], [], [m], [], rfl, rfl, ⟨m, v, rfl, rfl, hdv, by rw [byt_sz]; decide, hrow⟩, rfl, rfl⟩, rfl⟩
theorem bld_check_slf [Dr] {e : Nat} (L : Lays.n240 P ρ) (X : Builder.X72 P ρ) (enter : ∀ (args : Array Value) (w : World), (callFunc (ρ.f 240) args).run P w = .ok (.enter (ρ.f 240) args) w) :
    FnOK P G (ρ.f 240) ⟨[BK (ρ.t 72) e .slf], [0], [[BK (ρ.t 72) e .slf]], fun x => some (((), x.1.2), ())⟩ := bld_check_core (.inl rfl) L X enter
theorem bld_check_nilp [Dr] {e : Nat} (L : Lays.n240 P ρ) (X : Builder.X72 P ρ) (enter : ∀ (args : Array Value) (w : World), (callFunc (ρ.f 240) args).run P w = .ok (.enter (ρ.f 240) args) w) :
    FnOK P G (ρ.f 240) ⟨[BK (ρ.t 72) e .nilp], [0], [[BK (ρ.t 72) e .slf]], fun x => some (((), x.1.2), ())⟩ := bld_check_core (.inr rfl) L X enter
theorem bld_string_run (L : Lays.n169 P ρ) (X : Builder.Extra P ρ) {b g cap : Nat} {p : Value} {cur : Array Value} {l : List UInt8} {w : World} (hbk : w.heap[b]? = some (.cells #[p, .slice (some ⟨g, 0, none⟩) l.length cap] (ρ.t 72) (0, 0)))
    (hg : w.heap[g]? = some (.cells cur (ρ.t 5) (0, 0))) (h0 : l ≠ []) (hn : l.length ≤ cur.size) (hc0 : cap ≠ 0) (h63 : l.length ≤ 9223372036854775807) (hcell : ∀ (j : Nat) (x : UInt8), l[j]? = some x → cur[j]? = some (Value.int .u8 (x.toNat : Int))) :
    Calls P (ρ.f 169) #[.pointer (some ⟨b, 0, none⟩)] w fun e w' => e = .returned (.string ⟨l.toArray⟩) ∧ w' = w.drew.freeze ⟨g, 0, none⟩ l.length := by
  have c1 : w.drew.cell? ⟨b, 1, none⟩ = some (.slice (some ⟨g, 0, none⟩) l.length cap) := by
    have : w.drew.heap[b]? = some (.cells #[p, .slice (some ⟨g, 0, none⟩) l.length cap] (ρ.t 72) (0, 0)) := hbk
    rw [Lib.cell_of_heap this]; rfl
  have hSD : (Builtin.unsafeSliceData_ #[(ρ.t 37)] (ρ.t 127) #[.slice (some ⟨g, 0, none⟩) l.length cap]).run P w.drew = .ok (.pointer (some ⟨g, 0, none⟩)) w.drew :=
    Lib.run_unsafeSliceData_row _ _ _ _ _ _ hc0
  have hUS : (Builtin.unsafeString_ #[(ρ.t 127), (ρ.t 3)] (ρ.t 9) #[.pointer (some ⟨g, 0, none⟩), .int .i64 l.length]).run P w.drew = .ok (.string ⟨l.toArray⟩) (w.drew.freeze ⟨g, 0, none⟩ l.length) := by
    refine Lib.run_unsafeString_row w.drew (ρ.t 127) (ρ.t 3) (ρ.t 9) (ρ.t 5) L.t127 X.cellsByte g cur.size (by have hg' : w.drew.heap[g]? = some (.cells cur (ρ.t 5) (0, 0)) := hg; simp [World.shape?, hg']) l h0 hn h63 ?_
    intro j x hx
    have hg' : w.drew.heap[g]? = some (.cells cur (ρ.t 5) (0, 0)) := hg
    rw [add_lit, Lib.cell_of_heap hg', Nat.zero_add]
    exact hcell j x hx
  clear hc0 hn hcell h63
  have mixed := L.mixed
  have t72 := L.t72; have a72 := L.a72; have z72 := L.z72; have v72 := L.v72; have u72 := run_underlying L.t72
  have t70 := L.t70; have a70 := L.a70; have z70 := L.z70; have v70 := L.v70; have u70 := run_underlying L.t70
  have t37 := L.t37; have a37 := L.a37; have z37 := L.z37; have v37 := L.v37; have u37 := run_underlying L.t37
  have t127 := L.t127; have a127 := L.a127; have z127 := L.z127; have v127 := L.v127; have u127 := run_underlying L.t127
  have t3 := L.t3; have a3 := L.a3; have z3 := L.z3; have v3 := L.v3; have u3 := run_underlying L.t3
  have t9 := L.t9; have a9 := L.a9; have z9 := L.z9; have v9 := L.v9; have u9 := run_underlying L.t9
  have t5 := X.t5; have a5 := X.a5; have z5 := X.z5; have v5 := X.v5; have u5 := run_underlying X.t5
  go_enter L.f169, Body.n169_ntmps ρ
  go_wp2
  go_region_o
  all_goals (go_wp2; go_ret; exact ⟨rfl, rfl⟩)
theorem unitN_cells {w : World} {A : Nat → Prop} : ∀ (n : Nat) (x : (unitN n).den) (cs : List Value), FRep w A (unitN n) x cs → cs = []
  | 0, _, _, h => h
  | n + 1, x, cs, ⟨c0, c1, h, h0, h1⟩ => by
    rw [h, show c0 = [] from h0, unitN_cells n x.2 c1 h1]; rfl
theorem byt_cells {w : World} {A : Nat → Prop} {e : Nat} {x : (byt e).den} {cs : List Value} (h : FRep w A (byt e) x cs) : cs = [.int .u8 x.1] := by
  obtain ⟨c0, c1, h, h0, h1⟩ := h
  rw [h, show c0 = [.int .u8 x.1] from h0, unitN_cells (e + 1) x.2 c1 h1]; rfl
theorem bld_string_core [Dr] {k0 : CK} (hk : k0 = .slf ∨ k0 = .nilp) (L : Lays.n169 P ρ) (X : Builder.Extra P ρ) (enter : ∀ (args : Array Value) (w : World), (callFunc (ρ.f 169) args).run P w = .ok (.enter (ρ.f 169) args) w) :
    FnOK P G (ρ.f 169) ⟨[BK (ρ.t 72) (ρ.t 5) k0], [0], [[.val .str, .box (ρ.t 72) (.cons k0 (.cons .skip .nil))]],
      fun x => bif okU (List.map (fun z : (byt (ρ.t 5)).den => z.1) x.1.2.1) then some (strU (List.map (fun z : (byt (ρ.t 5)).den => z.1) x.1.2.1), (x.1.1, (), ()), ()) else none⟩ := by
  refine ⟨enter, fun x y hy w A args hs hlen hA hrep hdist hdis hgl => ?_⟩
  have hok := (cond_some hy).1
  have hy := (cond_some hy).2
  cases hy
  obtain ⟨b, p, v, m, rfl, rfl, hb, hp, hp2, hdv, hrow⟩ := bld_in hk hrep hlen
  obtain ⟨⟨x1, (xs : List (byt (ρ.t 5)).den), _⟩, _⟩ := x
  have hdv : HdV m xs.length v := hdv
  unfold okU at hok
  rw [Bool.and_eq_true, Bool.not_eq_true', List.all_eq_true] at hok
  obtain ⟨hne, hall⟩ := hok
  have hne : xs ≠ [] := by
    rintro rfl
    cases hne
  cases m with
  | none => exact absurd hrow hne
  | some gc =>
    obtain ⟨g, c⟩ := gc
    obtain ⟨e', cur, fr, h1, h2, ⟨h3, h3'⟩, h4, h5, h6⟩ := hrow
    have he := h5.2 _ (byt_tag _)
    have hfr := h5.1 rfl
    subst he hfr
    have hv : v = .slice (some ⟨g, 0, none⟩) xs.length c := hdv
    subst hv
    have hgb : g ≠ b := by
      rintro rfl
      have := hdist 0 1 g 0 c rfl rfl
      omega
    have h3' : xs.length ≤ c := h3'
    have hlen2 : ((xs.map (fun z => z.1)).map (fun x : Int => x.toNat.toUInt8)).length = xs.length := by simp
    have hb2 := hb
    rw [← hlen2] at hb2
    have hn0 : ((xs.map (fun z => z.1)).map (fun x : Int => x.toNat.toUInt8)).length ≠ 0 := by
      rw [hlen2]; intro h; exact hne (List.eq_nil_of_length_eq_zero h)
    refine (bld_string_run L X (l := (xs.map (fun z => z.1)).map (fun x : Int => x.toNat.toUInt8)) hb2 h1 (fun h => hn0 (by rw [h]; rfl)) (by rw [hlen2, h2, byt_sz]; omega) (by omega) (by rw [hlen2]; unfold maxLen at h4; omega) (fun j u hj => ?_)).mono ?_
    · rw [List.map_map, List.getElem?_map] at hj
      cases hx : xs[j]? with
      | none => rw [hx] at hj; cases hj
      | some z =>
        rw [hx] at hj
        simp only [Option.map_some, Function.comp, Option.some.injEq] at hj
        subst hj
        obtain ⟨ec, hf, hcell⟩ := h6 j z hx
        have := hcell 0 _ (by rw [byt_cells hf]; rfl)
        rw [byt_sz, Nat.mul_one, Nat.add_zero] at this
        rw [this]
        have hr := hall z.1 (List.mem_map.2 ⟨z, List.mem_of_getElem? hx, rfl⟩)
        rw [Bool.and_eq_true, decide_eq_true_eq, decide_eq_true_eq] at hr
        congr 2
        have : z.1.toNat.toUInt8.toNat = z.1.toNat := by
          simp only [Nat.toUInt8, UInt8.toNat_ofNat']
          omega
        rw [this]
        omega
    · rintro e2 w' ⟨rfl, rfl⟩
      generalize hnn : ((xs.map (fun z => z.1)).map (fun x : Int => x.toNat.toUInt8)).length = nn at *
      have hfz : ∀ k, k ≠ g → (w.drew.freeze ⟨g, 0, none⟩ nn).heap[k]? = w.heap[k]? := fun k hk => by
        unfold World.freeze
        rw [if_neg hn0]
        show (Array.modify w.heap g _)[k]? = _
        rw [Array.getElem?_modify, if_neg (fun h : g = k => hk h.symm)]
      have hsz : w.heap.size ≤ (w.drew.freeze ⟨g, 0, none⟩ nn).heap.size := by
        unfold World.freeze
        rw [if_neg hn0]
        show _ ≤ (Array.modify w.heap g _).size
        simp
      have hos : (w.drew.freeze ⟨g, 0, none⟩ nn).os = w.os ∧ (w.drew.freeze ⟨g, 0, none⟩ nn).tape = w.tape ∧ (w.drew.freeze ⟨g, 0, none⟩ nn).output = w.output ∧ (w.drew.freeze ⟨g, 0, none⟩ nn).drawn = w.drawn + 1 := by
        unfold World.freeze
        rw [if_neg hn0]
        exact ⟨rfl, rfl, rfl, rfl⟩
      have r0 : ORep (w.drew.freeze ⟨g, 0, none⟩ nn) (AvO A [some (b, 0)]) (some b) k0 x1 [p] [] := by
        rcases hk with rfl | rfl
        · rcases hp with rfl | rfl
          · exact ⟨rfl, .inl rfl⟩
          · exact ⟨rfl, .inr ⟨b, rfl, rfl⟩⟩
        · rw [hp2 rfl]; exact ⟨rfl, rfl⟩
      refine ⟨[.string (strU (xs.map (fun z => z.1)))], [some (b, 0)], rfl, rfl, ⟨hos.1, hos.2.1, hos.2.2.1, hsz, fun k _ hk => hfz k (fun h => hk (by subst h; exact ⟨c, by simp⟩)), fun _ => by rw [hos.2.2.2]; exact Nat.le_succ _⟩, fun k hk => .inr (by
        obtain ⟨c', hc'⟩ := hk
        exact ⟨c', List.mem_cons.2 (.inl (List.mem_singleton.1 hc'))⟩), fun i j b1 c1 c2 hi hj => by
          match i, j, hi, hj with
          | 0, 0, _, _ => rfl
          | i + 1, _, hi, _ => simp at hi
          | 0, j + 1, _, hj => simp at hj, ?_⟩
      exact ⟨[.string _], [], [some (b, 0)], rfl, rfl, ⟨rfl, rfl⟩, [.pointer (some ⟨b, 0, none⟩)], [some (b, 0)], [], rfl, rfl, ⟨b, #[p, .slice (some ⟨g, 0, none⟩) xs.length c], [], rfl, rfl, (hfz b (fun h => hgb h.symm)).trans hb, [p], [.slice (some ⟨g, 0, none⟩) xs.length c], [], [], rfl, rfl, r0, [.slice (some ⟨g, 0, none⟩) xs.length c], [], [], [], rfl, rfl, ⟨rfl, _, rfl, rfl⟩, rfl, rfl⟩, rfl⟩
theorem bld_string_slf [Dr] (L : Lays.n169 P ρ) (X : Builder.Extra P ρ) (enter : ∀ (args : Array Value) (w : World), (callFunc (ρ.f 169) args).run P w = .ok (.enter (ρ.f 169) args) w) :
    FnOK P G (ρ.f 169) ⟨[BK (ρ.t 72) (ρ.t 5) .slf], [0], [[.val .str, .box (ρ.t 72) (.cons .slf (.cons .skip .nil))]],
      fun x => bif okU (List.map (fun z : (byt (ρ.t 5)).den => z.1) x.1.2.1) then some (strU (List.map (fun z : (byt (ρ.t 5)).den => z.1) x.1.2.1), (x.1.1, (), ()), ()) else none⟩ := bld_string_core (.inl rfl) L X enter
end Go.VM
