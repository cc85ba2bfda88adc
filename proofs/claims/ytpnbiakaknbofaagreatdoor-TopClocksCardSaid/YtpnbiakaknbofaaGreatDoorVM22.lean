import Derived.Test.YtpnbiakaknbofaaGreatDoorVMV
import Derived.ProofKit
import Derived.LaidMore
import Derived.OpenShut
import Derived.Stop.Joined
namespace Go.VM
open Go.RowKit Go.ChangeShapes Go.WideShapes Go.ChangeAt
noncomputable def tupI : (l : List Int) → (k : IntKind) → (repT l.length (.int k)).den
  | [], _ => ()
  | x :: r, k => (x, tupI r k)
theorem tupI_rep {w : World} {A : Nat → Prop} {k : IntKind} : ∀ (l : List Int), FRep w A (repT l.length (.int k)) (tupI l k) (l.map (Value.int k))
  | [] => rfl
  | x :: r => ⟨[.int k x], r.map (Value.int k), rfl, rfl, tupI_rep r⟩
theorem grep_ints {w : World} {A : Nat → Prop} {g : Nat} {k : IntKind} {l : List Int} {r : GTab} (h : ∃ y z, w.heap[g]? = some (.cells (l.map (Value.int k)).toArray y z)) (hA : ¬ A g) (hr : GRep r w A) : GRep (⟨g, repT l.length (.int k), tupI l k⟩ :: r) w A := by
  intro p hp
  rcases List.mem_cons.1 hp with rfl | hp
  · refine ⟨l.map (Value.int k), tupI_rep l, ⟨hA, h⟩, fun j u hu => ⟨hA, ?_⟩⟩
    obtain ⟨y, z, h⟩ := h
    unfold World.cell?
    rw [h]
    simpa using hu
  · exact hr p hp
noncomputable def tupS : (l : List ByteArray) → (repT l.length .str).den
  | [] => ()
  | x :: r => (x, tupS r)
theorem tupS_rep {w : World} {A : Nat → Prop} : ∀ (l : List ByteArray), FRep w A (repT l.length .str) (tupS l) (l.map Value.string)
  | [] => rfl
  | x :: r => ⟨[.string x], r.map Value.string, rfl, rfl, tupS_rep r⟩
theorem grep_strs {w : World} {A : Nat → Prop} {g : Nat} {l : List ByteArray} {r : GTab} (h : ∃ y z, w.heap[g]? = some (.cells (l.map Value.string).toArray y z)) (hA : ¬ A g) (hr : GRep r w A) : GRep (⟨g, repT l.length .str, tupS l⟩ :: r) w A := by
  intro p hp
  rcases List.mem_cons.1 hp with rfl | hp
  · refine ⟨l.map Value.string, tupS_rep l, ⟨hA, h⟩, fun j u hu => ⟨hA, ?_⟩⟩
    obtain ⟨y, z, h⟩ := h
    unfold World.cell?
    rw [h]
    simpa using hu
  · exact hr p hp
theorem var_cells {P : Program} {w : World} {n : String} {g : Nat} {cs : Array Value} (hg : P.globalNamed n = some g) (h : w.var? P n = some cs) : ∃ y z, w.heap[g]? = some (.cells cs y z) := by
  simp only [World.var?, hg, Option.bind_some] at h
  split at h
  · rename_i cs' y z hb
    cases h
    exact ⟨y, z, hb⟩
  · cases h
theorem laid_atoms {H : Type} {enc : TypeId × Value → H} {P : Program} {w : World} {spare : Nat → Bool} {held : Bool} {fuel : Nat} {t e : TypeId} {α : Type} {f : α → DataW H} {v : α → Value} {l : List α} {cs : Array Value} {p : List MemPlace} {base : Nat}
    (ht : P.underlying t = some (.array l.length e)) (hs : P.cellsOf t = l.length) (hc : P.cellsOf e = 1)
    (hat : ∀ (fuel : Nat) (c : List Value) (x : α) (q : List MemPlace), DataW.trod enc P w base spare held fuel e c = some (f x, q) → c = [v x])
    (h : DataW.trod enc P w base spare held fuel t cs.toList = some (.agg (l.map f), p)) : cs = (l.map v).toArray := by
  obtain ⟨xs, m, rfl, hx, hlen, hn, hel⟩ := DataW.trod_array ht h
  simp only [Prod.mk.injEq, DataW.agg.injEq] at hx
  rw [hs] at hlen
  have hcs : cs.toList = l.map v := by
    apply List.ext_getElem?
    intro i
    rcases Nat.lt_or_ge i l.length with hil | hil
    · have h0 := hel i hil
      rw [hc, Nat.mul_one] at h0
      have hxi : xs[i]? = some (xs[i]'(by omega)) := List.getElem?_eq_getElem (by omega)
      rw [hxi] at h0
      have hm : (l.map f)[i]? = (xs.map (·.1))[i]? := by rw [hx.1]
      rw [List.getElem?_map, List.getElem?_map, hxi, List.getElem?_eq_getElem hil] at hm
      simp only [Option.map_some, Option.some.injEq] at hm
      have h1 := hat m _ (l[i]'hil) (xs[i]'(by omega)).2 (by rw [h0, hm])
      have hcl : (cs.toList.drop i)[0]? = some (v (l[i]'hil)) := by
        have := congrArg (fun l => l[0]?) h1
        simpa using this
      rw [List.getElem?_map, List.getElem?_eq_getElem hil]
      simpa using hcl
    · rw [List.getElem?_eq_none (by omega), List.getElem?_eq_none (by simpa using hil)]
  rw [← hcs]
theorem laid_ints {H : Type} {enc : TypeId × Value → H} {P : Program} {w : World} {spare : Nat → Bool} {held : Bool} {fuel : Nat} {t e : TypeId} {k : IntKind} {l : List Int} {cs : Array Value} {p : List MemPlace} {base : Nat}
    (ht : P.underlying t = some (.array l.length e)) (he : P.underlying e = some (.int k)) (hs : P.cellsOf t = l.length) (hc : P.cellsOf e = 1)
    (h : DataW.trod enc P w base spare held fuel t cs.toList = some (.agg (l.map fun x : Int => (DataW.lit (Lit.int k x) : DataW H)), p)) : cs = (l.map (Value.int k)).toArray :=
  laid_atoms ht hs hc (fun fuel c x q hq => by
    obtain ⟨n, e1, e2, _⟩ := DataW.trod_int he hq
    simp only [Prod.mk.injEq, DataW.lit.injEq, Lit.int.injEq, true_and] at e2
    rw [e1, e2.1]) h
theorem laid_strs {H : Type} {enc : TypeId × Value → H} {P : Program} {w : World} {spare : Nat → Bool} {held : Bool} {fuel : Nat} {t e : TypeId} {l : List ByteArray} {cs : Array Value} {p : List MemPlace} {base : Nat}
    (ht : P.underlying t = some (.array l.length e)) (he : P.underlying e = some .string) (hs : P.cellsOf t = l.length) (hc : P.cellsOf e = 1)
    (h : DataW.trod enc P w base spare held fuel t cs.toList = some (.agg (l.map fun x : ByteArray => (DataW.lit (Lit.string x.data.toList) : DataW H)), p)) : cs = (l.map Value.string).toArray :=
  laid_atoms ht hs hc (fun fuel c x q hq => by
    obtain ⟨n, e1, e2, _⟩ := DataW.trod_string he hq
    simp only [Prod.mk.injEq, DataW.lit.injEq, Lit.string.injEq] at e2
    rw [e1]
    have := congrArg List.toArray e2.1
    have e : x = n := by
      cases x; cases n
      simpa using e2.1
    rw [e]) h
theorem law_row_laid [Dr] {H : Type} {enc : TypeId × Value → H} {C : Checked} {os : Os} {f : FuncId} {fn : Func} {s : ChangeSpec} {us : List Ty} {F : (lTy (lay 0 (valKs us))).den → Option (SumL [[.val .bool]])} {b : TypeId} {G : GTab} {l : List (String × DataW Unit)}
    (hknob : ownKnob C.prog.godebug = none) (started : os.Started) (noInit : C.prog.inits.idxOf? f = none) (hfn : C.prog.funcs[f]? = some fn)
    (witness : ∃ (w : World) (tape : Tape) (i : Input), w.os = os ∧ (w.forCall tape i).Shaped C.prog ∧ i.vars = [] ∧ Input.okWide C.prog (w.forCall tape i) .any w.heap.size f i ∧
      ((s.pre enc C.prog fn [] false (w.forCall tape i).memory i.args ∧ laidMetH C.prog l (w.forCall tape i).memory) ∧ sizedMet enc C.prog fn (OpenSpec.ofChange s) false (w.forCall tape i).memory i.args) ∧ ({} : Assume).holds C.prog (lone (Frame.enter C.prog f i.args .normal) [] (w.forCall tape i)))
    (hvars : s.vars = []) (hres : fn.resultTypes = #[b]) (hb : C.prog.underlying b = some .bool) (hus : openTs C.prog fn.params.toList = some us) (hlaid : laidOutB C.prog = true)
    (hread : (fn.params.toList.all fun t => C.prog.readableRec t && Nat.blt t C.prog.types.size) = true)
    (n : Nat) (hn : len' fn.params.toList = n) (hspec : ∀ ds : List (DataW H), ds.length = n → s.fn H ds = { results := [.lit (.bool true)], args := ds })
    (hF : FnOK C.prog G f ⟨valKs us, [], [[.val .bool]], F⟩) (hpure : ∀ x, WfDs us 0 x → F x = some (true, ()))
    (hG : ∀ W, laidMetH C.prog l W → GRep G W (fun _ => False)) :
    ReturnsInHanded {} C os f .any (fun w args => (s.pre enc C.prog fn [] false w args ∧ laidMetH C.prog l w) ∧ sizedMet enc C.prog fn (OpenSpec.ofChange s) false w args) (s.post enc C.prog fn false true false false) := by
  refine returnsInHanded_of_change_and (C := C) (X := fun w _ => laidMetH C.prog l w) (fun _ _ _ hh h => h.of_heap hh) hknob started noInit hfn witness ?_
  intro W base args ds gs before hval hW _ _ hL _
  refine law_calls hvars hres hb hus hlaid (fun t ht => ?_) (fun ds hl => hspec ds ?_) hF hpure W base args ds gs before hval hW (hG W hL)
  · have := List.all_eq_true.1 hread t ht
    rw [Bool.and_eq_true] at this
    exact ⟨this.1, Nat.le_of_ble_eq_true this.2⟩
  · rw [hl, ← len_eq, hn]
end Go.VM
