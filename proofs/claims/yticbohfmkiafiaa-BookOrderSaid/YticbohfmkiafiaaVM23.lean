import Derived.Test.YticbohfmkiafiaaVM22
import Derived.Shelf.SlSortCmp.NoneTotal
namespace Go.VM
open Go.RowKit Go.Sort Go.Shelf Go.Lib Go.Proofs
instance denInh (t : Ty) : Inhabited t.den := ⟨t.dflt⟩
noncomputable def pureT : Ty → Bool
  | .int _ | .bool | .str | .unit => true
  | .pair a b => pureT a && pureT b
  | _ => false
noncomputable def encT : (t : Ty) → t.den → List Value
  | .int k, x => [.int k x]
  | .bool, x => [.bool x]
  | .str, x => [.string x]
  | .pair a b, x => encT a x.1 ++ encT b x.2
  | _, _ => []
theorem encT_rep {w : World} {A : Nat → Prop} : ∀ {t : Ty} {x : t.den}, pureT t = true → FRep w A t x (encT t x)
  | .int _, _, _ => rfl
  | .bool, _, _ => rfl
  | .str, _, _ => rfl
  | .unit, _, _ => rfl
  | .pair a b, x, h => by
    rw [pureT, Bool.and_eq_true] at h
    exact ⟨_, _, rfl, encT_rep h.1, encT_rep h.2⟩
  | .err, _, h => by cases h
  | .sl _, _, h => by cases h
theorem encT_of {w : World} {A : Nat → Prop} : ∀ {t : Ty} {x : t.den} {cs : List Value}, pureT t = true → FRep w A t x cs → cs = encT t x
  | .int _, _, _, _, h => h
  | .bool, _, _, _, h => h
  | .str, _, _, _, h => h
  | .unit, _, _, _, h => h
  | .pair a b, x, _, hp, h => by
    rw [pureT, Bool.and_eq_true] at hp
    obtain ⟨c0, c1, rfl, h0, h1⟩ := h
    rw [encT_of hp.1 h0, encT_of hp.2 h1]; rfl
  | .err, _, _, h, _ => by cases h
  | .sl _, _, _, h, _ => by cases h
theorem encT_len {t : Ty} (h : pureT t = true) (x : t.den) : (encT t x).length = t.sz := FRep.len (w := ⟨#[], fun _ _ => 0, 0, default, #[]⟩) (A := fun _ => False) (encT_rep h)
theorem encT_one {t : Ty} (h : pureT t = true) (x : t.den) : ∀ v ∈ encT t x, v.oneCell' = true := FRep.one (w := ⟨#[], fun _ _ => 0, 0, default, #[]⟩) (A := fun _ => False) (encT_rep h)
theorem grown_of {w w' : World} (h : Below w.heap.size w w') (hd : w.drawn ≤ w'.drawn) : ∃ q os', w' = grow (w.drewN q) os' := by
  refine ⟨w'.drawn - w.drawn, w'.heap.extract w.heap.size w'.heap.size, ?_⟩
  have hh : w'.heap = w.heap ++ w'.heap.extract w.heap.size w'.heap.size := by
    apply Array.ext_getElem?
    intro k
    rw [Array.getElem?_append]
    split
    · rename_i hk; exact h.block k hk
    · rename_i hk
      rw [Array.getElem?_extract]
      have := h.size
      by_cases hk2 : k < w'.heap.size
      · rw [if_pos (by omega)]; congr 1; omega
      · rw [if_neg (by omega), Array.getElem?_eq_none (by omega)]
  cases w with
  | mk hp tp dr os out =>
    cases w' with
    | mk hp' tp' dr' os' out' =>
      have e1 := h.os
      have e2 := h.tape
      have e3 := h.output
      simp only at e1 e2 e3 hh hd
      subst e1 e2 e3
      simp only [grow, World.drewN]
      rw [← hh]
      congr 1
      omega
section
variable {P : Program} {ρ : Ren} {G : GTab}
theorem cmpLays_of {t : Ty} (hp : pureT t = true) (ha : t.isAgg = true) {g : Nat} {F : (lTy (lay 0 [.val t, .val t])).den → Option (SumL [[.val (.int .i64)]])} (hg : @FnOK ⟨True⟩ P G g ⟨[.val t, .val t], [], [[.val (.int .i64)]], F⟩) (cf : t.den → t.den → Int)
    (hcf : ∀ x y, F (x, y, ()) = some (cf x y, ())) (blk off size : Nat) (w : World) (hG : ∀ W : World, (∀ b, b ≠ blk → b < w.heap.size → W.heap[b]? = w.heap[b]?) → GRep G W (AvO (fun _ => False) [])) (hblk : blk < w.heap.size) :
    CmpLays P g #[] (encT t) t.sz cf blk off size w := by
  intro m os dk hs x y
  generalize hW : sortWorldK (encT t) t.sz w blk off m dk os = W
  have hWb : ∀ b, b ≠ blk → b < w.heap.size → W.heap[b]? = w.heap[b]? := by
    intro b hb hlt
    rw [← hW]
    show ((mapBlock (Sort.ahead w m) blk _).heap ++ os)[b]? = _
    have e0 : (mapBlock (Sort.ahead w m) blk (putCells id off (flatK (encT t) t.sz dk))).heap.size = w.heap.size := by simp [mapBlock, Sort.ahead]
    rw [Array.getElem?_append_left (by rw [e0]; exact hlt)]
    simp [mapBlock, Sort.ahead, Array.getElem?_modify, Ne.symm hb]
  have hc := @FnOK.calls ⟨True⟩ _ _ _ _ hg (x, y, ()) (cf x y, ()) (hcf x y) W (fun _ => False) [.agg (encT t x).toArray, .agg (encT t y).toArray] [] rfl (fun _ h => h.elim)
    ⟨encT t x, [], [], rfl, by unfold shapeK; rw [if_pos (show (CK.val t).isAgg = true from ha)]; rfl, ⟨rfl, encT_rep hp⟩, ⟨encT t y, [], [], rfl, by unfold shapeK; rw [if_pos (show (CK.val t).isAgg = true from ha)]; rfl, ⟨rfl, encT_rep hp⟩, rfl⟩⟩
    (fun i j b c c' h => by simp at h) (fun b h => by obtain ⟨c, hc⟩ := h; cases hc) (hG W hWb)
  refine hc.mono ?_
  rintro e w' ⟨vs, hs', rfl, hvl, bel, _, _, cs, h0, h1, hh, hsh, ⟨_, hf⟩, _⟩
  have hvl : vs.length + 0 = 1 := hvl
  obtain ⟨v, rfl⟩ : ∃ v, vs = [v] := by
    match vs, hvl with
    | [v], _ => exact ⟨v, rfl⟩
  have hv : v = .int .i64 (cf x y) := by
    have h1 : cs = [v] := hsh
    have h2 : cs = [.int .i64 (cf x y)] := hf
    rw [h1] at h2
    simpa using h2
  subst hv
  exact ⟨rfl, grown_of (@BelowX.below ⟨True⟩ _ _ _ (fun b h => by obtain ⟨c, hc⟩ := h; cases hc) bel) (@BelowX.drawn ⟨True⟩ _ _ _ bel trivial)⟩
theorem flat_get {t : Ty} (hp : pureT t = true) (d : List t.den) (i j : Nat) (x : t.den) (v : Value) (hi : d[i]? = some x) (hj : (encT t x)[j]? = some v) : (flatK (encT t) t.sz d.toArray)[i * t.sz + j]? = some v := by
  have hil : i < d.length := (List.getElem?_eq_some_iff.1 hi).1
  have hjl : j < t.sz := by rw [← encT_len hp x]; exact (List.getElem?_eq_some_iff.1 hj).1
  have h2 : (i + 1) * t.sz ≤ d.length * t.sz := Nat.mul_le_mul_right _ hil
  rw [Nat.add_mul, Nat.one_mul] at h2
  have hlt : i * t.sz + j < d.toArray.size * t.sz := by simp; omega
  have hpos : 0 < t.sz := by omega
  have e1 : (i * t.sz + j) / t.sz = i := by rw [Nat.mul_comm, Nat.mul_add_div hpos, Nat.div_eq_of_lt hjl, Nat.add_zero]
  have e2 : (i * t.sz + j) % t.sz = j := by rw [Nat.mul_comm, Nat.mul_add_mod]; exact Nat.mod_eq_of_lt hjl
  rw [Array.getElem?_eq_getElem (by rw [size_flatK]; exact hlt)]
  have h3 := get_flatK (encT t) t.sz d.toArray (i * t.sz + j) hlt
  rw [getElem!_pos _ _ (by rw [size_flatK]; exact hlt)] at h3
  rw [h3, e1, e2]
  have hx : d.toArray[i]! = x := by
    rw [getElem!_pos _ _ (by simpa using hil)]
    simpa [List.getElem?_eq_getElem hil] using hi
  rw [hx]
  have := (List.getElem?_eq_some_iff.1 hj)
  obtain ⟨h4, h5⟩ := this
  rw [getElem!_pos (encT t x) j h4, h5]
theorem sortfunc_ok [Dr] (L : SlLaysF0.n6 P ρ) (t : Ty) (hp : pureT t = true) (ha : t.isAgg = true) (aE : ∀ w, (isAgg (ρ.t 24)).run P w = .ok true w) (zE : ∀ w, (Go.sizeOf (ρ.t 24)).run P w = .ok t.sz w)
    (enter : ∀ (args : Array Value) (w : World), (callFunc (ρ.f 6) args).run P w = .ok (.enter (ρ.f 6) args) w) {g : Nat} {F : (lTy (lay 0 [.val t, .val t])).den → Option (SumL [[.val (.int .i64)]])} (hg : @FnOK ⟨True⟩ P G g ⟨[.val t, .val t], [], [[.val (.int .i64)]], F⟩) (cf : t.den → t.den → Int)
    (hcf : ∀ x y, F (x, y, ()) = some (cf x y, ())) (hO : SWO (ltOf cf)) (hT : ∀ x y, ltOf cf x y = false → ltOf cf y x = false → x = y) :
    FnOK P G (ρ.f 6) ⟨[.row t, .fn g], [0], [[.row t]], fun x => bif decide (List.length (α := t.den) x.1 < 4611686018427387904) then some (List.mergeSort (α := t.den) x.1 (fun x y => !ltOf cf y x), ()) else none⟩ := by
  refine ⟨enter, fun x y hy w A args hs hlen hA hrep hdist hdis hgl => ?_⟩
  have hsz := of_decide_eq_true (cond_some hy).1
  have hy := (cond_some hy).2
  cases hy
  obtain ⟨(xs : List t.den), _, _⟩ := x
  obtain ⟨cs, h0, h1, rfl, hsh, ⟨m, v, rfl, rfl, hv, hz, hr⟩, cs1, h10, h11, hh, hsh1, ⟨hq1, hfn⟩, hh2⟩ := hrep
  have hlen : args.length = 2 := hlen
  obtain ⟨v0, v1, rfl⟩ : ∃ v0 v1, args = [v0, v1] := by
    match args, hlen with
    | [a, b], _ => exact ⟨a, b, rfl⟩
  have e0 : [v] = [v0] := hsh
  simp only [List.cons.injEq, and_true] at e0
  subst e0
  have e1 : cs1 = [v1] := hsh1
  have e2 : cs1 = [.func (.func g) #[] #[]] := hfn
  rw [e1] at e2
  simp only [List.cons.injEq, and_true] at e2
  subst e2
  have hnil : h1 = [] := by rw [hh, hq1, show h11 = [] from hh2]; rfl
  subst hnil
  have hperm : List.length (α := t.den) (List.mergeSort (α := t.den) xs (fun x y => !ltOf cf y x)) = List.length (α := t.den) xs := List.length_mergeSort ..
  cases m with
  | none =>
    have hx0 : xs = [] := hr
    subst hx0
    obtain ⟨_, ad, rfl⟩ := hv
    refine (AnyF.slices_SortFunc_none L ad 0 _ w).mono ?_
    rintro e w' ⟨rfl, rfl⟩
    refine ⟨[], [none], rfl, rfl, BelowX.refl _ _, fun b hb => .inr hb, hdist, ?_⟩
    exact ⟨[_], [none], [], rfl, rfl, ⟨none, _, rfl, rfl, ⟨congrArg (List.length (α := t.den)) List.mergeSort_nil, ad, rfl⟩, hz, List.mergeSort_nil⟩, rfl⟩
  | some p =>
    obtain ⟨b, c⟩ := p
    have hv : v = _ := hv
    subst hv
    obtain ⟨e, cur, fr, hg', hcs, ⟨hc0, hl⟩, hmx, hfr, hxx⟩ := hr
    have htg := hfr.2
    have hfr := hfr.1 rfl
    subst hfr
    have hin : inHd [some (b, c)] b := ⟨c, by simp⟩
    have hb := (hdis b hin).1
    have hcell : ∀ j, j < List.length (α := t.den) xs * t.sz → cur[j]? = (flatK (encT t) t.sz xs.toArray)[j]? := by
      intro j hj
      have hi : j / t.sz < List.length (α := t.den) xs := Nat.div_lt_of_lt_mul (by rw [Nat.mul_comm]; exact hj)
      obtain ⟨ec, hec, hu⟩ := hxx (j / t.sz) _ (List.getElem?_eq_getElem hi)
      have hce := encT_of hp hec
      subst hce
      have hjm : j % t.sz < (encT t (xs[j / t.sz]'hi)).length := by rw [encT_len hp]; exact Nat.mod_lt _ hz
      have h1 := hu (j % t.sz) _ (List.getElem?_eq_getElem hjm)
      have h2 := flat_get hp xs (j / t.sz) (j % t.sz) _ _ (List.getElem?_eq_getElem hi) (List.getElem?_eq_getElem hjm)
      rw [show j / t.sz * t.sz + j % t.sz = j by rw [Nat.mul_comm]; exact Nat.div_add_mod j t.sz] at h1 h2
      rw [h1, h2]
    have hle : List.length (α := t.den) xs * t.sz ≤ cur.size := by rw [hcs]; exact Nat.mul_le_mul_right _ hl
    have hH : HoldsK (encT t) t.sz w b 0 xs.toArray := by
      intro j hj
      rw [size_flatK] at hj
      have hj' : j < List.length (α := t.den) xs * t.sz := by simpa using hj
      have h1 := hcell j hj'
      rw [Array.getElem?_eq_getElem (xs := flatK (encT t) t.sz xs.toArray) (by rw [size_flatK]; exact hj)] at h1
      refine ⟨?_, ?_⟩
      · simp only [World.cell?, hg', Nat.zero_add]
        rw [getElem!_pos (flatK (encT t) t.sz xs.toArray) j (by rw [size_flatK]; exact hj)]
        simpa using h1
      · simp [World.frozen?, hg']
    have hcmp := cmpLays_of (P := P) (G := G) hp ha hg cf hcf b 0 xs.toArray.size w (fun W hW => GRep.frame (A := AvO A [some (b, c)]) (w := w) (fun k hk hlt => hW k (fun e => hk (by rw [e]; exact .inr hin)) hlt) (fun k hk => by
      rcases hk with hk | ⟨_, hk⟩
      · exact hk.elim
      · cases hk) hgl) hb
    refine (AnyQ.slices_SortFunc_total L t.sz aE zE (encT t) (encT_len hp) (encT_one hp) cf hO g #[] b 0 c xs.toArray w (@FnOK.enter ⟨True⟩ _ _ _ _ hg) hcmp hH hb (by simpa using hsz) hT).mono ?_
    rintro e' w' ⟨rfl, n, os, rfl⟩
    have hsrt : ((xs.toArray.toList.mergeSort fun x y => !ltOf cf y x).toArray : Array t.den) = (List.mergeSort (α := t.den) xs (fun x y => !ltOf cf y x)).toArray := rfl
    rw [hsrt]
    generalize hys : List.mergeSort (α := t.den) xs (fun x y => !ltOf cf y x) = ys at *
    have hwh : ∀ k, k < w.heap.size → (sortWorldK (encT t) t.sz w b 0 n ys.toArray os).heap[k]? = (w.heap.modify b (onCells (putCells id 0 (flatK (encT t) t.sz ys.toArray))))[k]? := by
      intro k hk
      show ((mapBlock (Sort.ahead w n) b _).heap ++ os)[k]? = _
      rw [Array.getElem?_append_left (by simp [mapBlock, Sort.ahead]; exact hk)]
      rfl
    have hwb : (sortWorldK (encT t) t.sz w b 0 n ys.toArray os).heap[b]? = some (.cells (putCells id 0 (flatK (encT t) t.sz ys.toArray) cur) e (0, 0)) := by
      rw [hwh b hb, Array.getElem?_modify, if_pos rfl, hg']
      rfl
    refine ⟨[], [some (b, c)], rfl, rfl, ⟨rfl, rfl, rfl, ?_, fun k hk hni => ?_, ?_⟩, fun b' hb' => .inr hb', hdist, ?_⟩
    · show w.heap.size ≤ ((mapBlock (Sort.ahead w n) b _).heap ++ os).size
      simp [mapBlock, Sort.ahead]
    · rw [hwh k hk, Array.getElem?_modify, if_neg (fun e => hni (by rw [← e]; exact hin))]
    · intro _
      show w.drawn ≤ w.drawn + n
      omega
    · refine ⟨[_], [some (b, c)], [], rfl, rfl, ⟨some (b, c), _, rfl, rfl, ?_, hz, ?_⟩, rfl⟩
      · show Value.slice _ _ _ = Value.slice _ _ _
        rw [hperm]
      · refine ⟨e, _, (0, 0), hwb, by simp [putCells]; exact hcs, ⟨hc0, by rw [hperm]; exact hl⟩, hmx, ⟨fun _ => rfl, htg⟩, fun i x hi => ⟨encT t x, encT_rep hp, fun j u hj => ?_⟩⟩
        have h1 := flat_get hp ys i j x u hi hj
        have hlt : i * t.sz + j < (flatK (encT t) t.sz ys.toArray).size := (Array.getElem?_eq_some_iff.1 h1).1
        have hsz2 : (flatK (encT t) t.sz ys.toArray).size ≤ cur.size := by
          rw [size_flatK]
          have : ys.toArray.size = List.length (α := t.den) xs := by rw [← hperm]; simp
          rw [this]; exact hle
        rw [putCells, Array.getElem?_mapIdx, Array.getElem?_eq_getElem (show i * t.sz + j < cur.size by omega)]
        simp only [Option.map_some]
        rw [if_pos (by omega), Nat.sub_zero, getElem!_pos (flatK (encT t) t.sz ys.toArray) (i * t.sz + j) hlt]
        rw [Array.getElem?_eq_getElem hlt] at h1
        simpa using h1
theorem FnOK.weak [Dr] {f : Nat} {ins : List CK} {lent : List Nat} {outs : List (List CK)} {F F' : (lTy (lay 0 ins)).den → Option (SumL outs)} (h : FnOK P G f ⟨ins, lent, outs, F⟩) (hw : ∀ x y, F' x = some y → F x = some y) : FnOK P G f ⟨ins, lent, outs, F'⟩ :=
  ⟨h.enter, fun x y hy => h.calls x y (hw x y hy)⟩
end
end Go.VM
