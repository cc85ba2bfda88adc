import Derived.Test.YticbohfmkiafiaaVM19
import Derived.WalkKit
import Derived.ProofKit
import Derived.OpenShut
import Derived.ShutString
import Derived.ChangeOld
import Derived.Below
import Derived.Carry
import Derived.SizedLaws
namespace Go.VM
open Go.RowKit
noncomputable def fieldsO (P : Program) (g : TypeId → Option Ty) : List Field → Nat → Option Ty
  | [], _ => some .unit
  | f :: fs, off => match g f.type with
    | some u => bif Nat.beq f.offset off && Nat.beq (P.cellsOf f.type) u.sz then
        match fieldsO P g fs (off + u.sz) with
        | some r => some (.pair u r)
        | none => none
      else none
    | none => none
noncomputable def openT (P : Program) : Nat → TypeId → Option Ty
  | 0, _ => none
  | n + 1, t => match P.underlying t with
    | some .bool => some .bool
    | some (.int k) => some (.int k)
    | some .string => some .str
    | some (.slice e) => match openT P n e with
      | some u => bif Nat.beq (P.cellsOf e) u.sz && !u.mk then some (.sl u) else none
      | none => none
    | some (.struct fs) => match fieldsO P (openT P n) fs.toList 0 with
      | some u => bif Nat.beq (P.cellsOf t) u.sz then some u else none
      | none => none
    | some (.array k e) => match openT P n e with
      | some u => bif Nat.beq (P.cellsOf e) u.sz && Nat.beq (P.cellsOf t) (repT k u).sz then some (repT k u) else none
      | none => none
    | _ => none
noncomputable def openTs (P : Program) : List TypeId → Option (List Ty)
  | [] => some []
  | t :: ts => match openT P 20 t, openTs P ts with
    | some u, some us => some (u :: us)
    | _, _ => none
noncomputable def WfD : (t : Ty) → t.den → Prop
  | .int k, x => (Lit.int k x).wf = true
  | .bool, _ => True
  | .str, x => x.size ≤ maxLen
  | .err, _ => True
  | .unit, _ => True
  | .pair a b, x => WfD a x.1 ∧ WfD b x.2
  | .sl t, xs => List.length (α := t.den) xs ≤ maxLen ∧ ∀ x, x ∈ (xs : List t.den) → WfD t x
theorem list_of {γ : Type} {R : Nat → γ → Prop} : ∀ (n : Nat), (∀ i, i < n → ∃ x, R i x) → ∃ xs : List γ, xs.length = n ∧ ∀ i x, xs[i]? = some x → R i x
  | 0, _ => ⟨[], rfl, fun i x h => by simp at h⟩
  | n + 1, h => by
    obtain ⟨xs, hl, hx⟩ := list_of n (fun i hi => h i (by omega))
    obtain ⟨y, hy⟩ := h n (by omega)
    refine ⟨xs ++ [y], by simp [hl], fun i x hi => ?_⟩
    rcases Nat.lt_or_ge i n with h' | h'
    · rw [List.getElem?_append_left (by omega)] at hi
      exact hx i x hi
    · have : i < (xs ++ [y]).length := (List.getElem?_eq_some_iff.1 hi).1
      simp at this
      have e : i = n := by omega
      subst e
      rw [List.getElem?_append_right (by omega)] at hi
      simp [hl] at hi
      subst hi
      exact hy
section
variable {H : Type} {enc : TypeId × Value → H} {P : Program} {w : World} {base : Nat} {spare : Nat → Bool} {held : Bool}
theorem take_drop_add (cs : List Value) (off a b : Nat) : (cs.drop off).take (a + b) = (cs.drop off).take a ++ (cs.drop (off + a)).take b := by
  rw [List.take_add, List.drop_drop]
theorem beq_of {a b : Nat} (h : Nat.beq a b = true) : a = b := Nat.eq_of_beq_eq_true h
theorem fields_open {fuel : Nat} {g : TypeId → Option Ty} (ih : ∀ {t : TypeId} {u : Ty} {cs : List Value} {d : DataW H × List MemPlace}, g t = some u → DataW.trod enc P w base spare held fuel t cs = some d → ∃ x : u.den, FRep w (fun _ => False) u x cs ∧ WfD u x)
    (cs : List Value) : ∀ (fs : List Field) (off : Nat) (u : Ty), fieldsO P g fs off = some u → (∀ (f : Field), f ∈ fs → ∃ d, DataW.trod enc P w base spare held fuel f.type ((cs.drop f.offset).take (P.cellsOf f.type)) = some d) →
      ∃ x : u.den, FRep w (fun _ => False) u x ((cs.drop off).take u.sz) ∧ WfD u x
  | [], off, u, hu, h => by cases hu; exact ⟨(), rfl, trivial⟩
  | f :: fs, off, u, hu, h => by
    simp only [fieldsO] at hu
    split at hu
    · rename_i a ha
      obtain ⟨hb, hu⟩ := cond_some hu
      simp only [Bool.and_eq_true] at hb
      split at hu
      · rename_i b hb'
        cases hu
        obtain ⟨d, hd⟩ := h f (by simp)
        obtain ⟨x, hx, wx⟩ := ih ha hd
        rw [beq_of hb.1, beq_of hb.2] at hx
        obtain ⟨y, hy, wy⟩ := fields_open ih cs fs (off + a.sz) b hb' (fun f hf => h f (List.mem_cons_of_mem _ hf))
        refine ⟨(x, y), ⟨_, _, ?_, hx, hy⟩, wx, wy⟩
        rw [← take_drop_add]; rfl
      · cases hu
    · cases hu
theorem rep_open {fuel : Nat} {e : TypeId} {u : Ty} (cs : List Value) (ih : ∀ {cs : List Value} {d : DataW H × List MemPlace}, DataW.trod enc P w base spare held fuel e cs = some d → ∃ x : u.den, FRep w (fun _ => False) u x cs ∧ WfD u x) (hz : P.cellsOf e = u.sz) :
    ∀ (k m : Nat), (∀ i, m ≤ i → i < m + k → ∃ d, DataW.trod enc P w base spare held fuel e ((cs.drop (i * P.cellsOf e)).take (P.cellsOf e)) = some d) →
      ∃ x : (repT k u).den, FRep w (fun _ => False) (repT k u) x ((cs.drop (m * u.sz)).take (repT k u).sz) ∧ WfD (repT k u) x
  | 0, m, h => ⟨(), rfl, trivial⟩
  | k + 1, m, h => by
    obtain ⟨d, hd⟩ := h m (by omega) (by omega)
    obtain ⟨x, hx, wx⟩ := ih hd
    rw [hz] at hx
    obtain ⟨y, hy, wy⟩ := rep_open cs ih hz k (m + 1) (fun i h1 h2 => h i (by omega) (by omega))
    refine ⟨(x, y), ⟨_, _, ?_, hx, hy⟩, wx, wy⟩
    rw [show (m + 1) * u.sz = m * u.sz + u.sz by rw [Nat.add_mul, Nat.one_mul], ← take_drop_add]; rfl
theorem trod_open : ∀ {n fuel : Nat} {t : TypeId} {u : Ty} {cs : List Value} {d : DataW H × List MemPlace}, openT P n t = some u → DataW.trod enc P w base spare held fuel t cs = some d →
    ∃ x : u.den, FRep w (fun _ => False) u x cs ∧ WfD u x := by
  intro n
  induction n with
  | zero => intro fuel t u cs d hu; cases hu
  | succ n ih =>
    intro fuel t u cs d hu h
    simp only [openT] at hu
    split at hu
    · rename_i ht
      cases hu
      obtain ⟨b, rfl, _⟩ := DataW.trod_bool ht h
      exact ⟨b, rfl, trivial⟩
    · rename_i k ht
      cases hu
      obtain ⟨b, rfl, _, hw⟩ := DataW.trod_int ht h
      exact ⟨b, rfl, hw⟩
    · rename_i ht
      cases hu
      obtain ⟨b, rfl, _, hw⟩ := DataW.trod_string ht h
      exact ⟨b, rfl, hw⟩
    · rename_i e ht
      split at hu
      · rename_i u' hu'
        obtain ⟨hb, hu⟩ := cond_some hu
        cases hu
        rw [Bool.and_eq_true, Bool.not_eq_true'] at hb
        obtain ⟨hb, hkm⟩ := hb
        have hz := beq_of hb
        rcases DataW.trod_slice ht h with ⟨rfl, _⟩ | ⟨a, len, cap, elems, rest, m, rfl, rfl, _, _, hl, hc, hel, hall, _, _⟩
        · exact ⟨([] : List u'.den), ⟨none, 0, rfl, Nat.le_refl _, by simp [maxLen], fun _ _ => ⟨rfl, rfl⟩, fun i x hi => by simp at hi⟩, by simp [maxLen], fun x hx => by cases hx⟩
        · obtain ⟨xs, hxl, hx⟩ := list_of (γ := u'.den) (R := fun i x => ∃ ec : List Value, FRep w (fun _ => False) u' x ec ∧ WfD u' x ∧ ∀ j v, ec[j]? = some v → w.cell? (a.add (i * u'.sz + j)) = some v) len (fun i hi => by
            have := hall i hi
            have hsome : elems[i]? = some elems[i] := List.getElem?_eq_getElem (by omega)
            rw [hsome, Option.bind_eq_some_iff] at this
            obtain ⟨ec, hec, htr⟩ := this
            obtain ⟨x, hx, wx⟩ := ih hu' htr
            obtain ⟨_, hlen, hcell⟩ := World.cells?_some hec
            refine ⟨x, ec, hx, wx, fun j v hj => ?_⟩
            have hjl : j < P.cellsOf e := by rw [← hlen]; exact (List.getElem?_eq_some_iff.1 hj).1
            rw [← add_add, ← hz, hcell j hjl, hj])
          refine ⟨(xs : List u'.den), ⟨some a, cap, by rw [hxl], by omega, by omega, fun h => absurd (hkm.symm.trans h) (by decide), fun i x hi => ?_⟩, by omega, fun x hx' => ?_⟩
          · obtain ⟨ec, h1, _, h2⟩ := hx i x hi
            exact ⟨a, ec, rfl, h1, fun j v hj => ⟨fun h => h, h2 j v hj⟩⟩
          · obtain ⟨i, hi⟩ := List.getElem?_of_mem hx'
            obtain ⟨ec, _, h1, _⟩ := hx i x hi
            exact h1
      · cases hu
    · rename_i fs ht
      split at hu
      · rename_i u' hu'
        obtain ⟨hb, hu⟩ := cond_some hu
        cases hu
        obtain ⟨xs, m, rfl, _, hl, hlen, hall⟩ := DataW.trod_struct ht h
        obtain ⟨x, hx, wx⟩ := fields_open (fuel := m) (fun h1 h2 => ih h1 h2) cs fs.toList 0 u hu' (fun f hf => by
          obtain ⟨i, hi⟩ := List.getElem?_of_mem hf
          have hlt : i < fs.toList.length := (List.getElem?_eq_some_iff.1 hi).1
          have hi' : fs[i]? = some f := by simpa using hi
          rw [hall i f hi']
          exact ⟨xs[i]'(by simp at hlt; omega), List.getElem?_eq_getElem _⟩)
        refine ⟨x, ?_, wx⟩
        have e : (cs.drop 0).take u.sz = cs := by
          rw [List.drop_zero, List.take_of_length_le]
          rw [hl, beq_of hb]
          exact Nat.le_refl _
        rw [e] at hx
        exact hx
      · cases hu
    · rename_i k e ht
      split at hu
      · rename_i u' hu'
        obtain ⟨hb, hu⟩ := cond_some hu
        cases hu
        simp only [Bool.and_eq_true] at hb
        obtain ⟨xs, m, rfl, _, hl, hlen, hall⟩ := DataW.trod_array ht h
        obtain ⟨x, hx, wx⟩ := rep_open (fuel := m) (u := u') cs (fun h2 => ih hu' h2) (beq_of hb.1) k 0 (fun i _ hi => by
          rw [hall i (by omega)]
          exact ⟨xs[i]'(by omega), List.getElem?_eq_getElem _⟩)
        refine ⟨x, ?_, wx⟩
        have e : (cs.drop (0 * u'.sz)).take (repT k u').sz = cs := by
          rw [Nat.zero_mul, List.drop_zero, List.take_of_length_le]
          rw [hl, beq_of hb.2]
          exact Nat.le_refl _
        rw [e] at hx
        exact hx
      · cases hu
    · cases hu
theorem repT_agg : ∀ (k : Nat) (u : Ty), (repT k u).isAgg = true
  | 0, _ => rfl
  | _ + 1, _ => rfl
theorem fieldsO_agg {g : TypeId → Option Ty} : ∀ {fs : List Field} {off : Nat} {u : Ty}, fieldsO P g fs off = some u → u.isAgg = true
  | [], _, _, h => by cases h; rfl
  | f :: fs, off, u, h => by
    simp only [fieldsO] at h
    split at h
    · obtain ⟨_, h⟩ := cond_some h
      split at h
      · cases h; rfl
      · cases h
    · cases h
noncomputable def shapeV (t : Ty) (cs : List Value) (v : Value) : Prop := if t.isAgg = true then v = .agg cs.toArray else cs = [v]
theorem arg_open {W : World} {r : Reach} {n b : Nat} {t : TypeId} {u : Ty} {v : Value} {d : DataW H} {p : List MemPlace} (hu : openT P n t = some u) (hok : Value.okWide P W r b t v) (h : DataW.Trod enc P w base spare held t v d p) :
    ∃ (x : u.den) (cs : List Value), FRep w (fun _ => False) u x cs ∧ shapeV u cs v ∧ WfD u x := by
  obtain ⟨fuel, h⟩ := h
  obtain ⟨x, hx, wx⟩ := trod_open hu h
  refine ⟨x, v.cells.toList, hx, ?_, wx⟩
  cases n with
  | zero => cases hu
  | succ n =>
    simp only [openT] at hu
    unfold shapeV
    split at hu
    · rename_i ht
      cases hu
      obtain ⟨b, rfl⟩ := WideShapes.okWide_bool ht hok
      rfl
    · rename_i k ht
      cases hu
      obtain ⟨b, rfl⟩ := WideShapes.okWide_int ht hok
      rfl
    · rename_i ht
      cases hu
      obtain ⟨b, rfl⟩ := WideShapes.okWide_string ht hok
      rfl
    · rename_i e ht
      split at hu
      · obtain ⟨_, hu⟩ := cond_some hu
        cases hu
        obtain ⟨a, l, c, rfl⟩ := WideShapes.okWide_slice ht hok
        rfl
      · cases hu
    · rename_i fs ht
      split at hu
      · rename_i u' hu'
        obtain ⟨_, hu⟩ := cond_some hu
        cases hu
        rw [if_pos (fieldsO_agg hu')]
        obtain ⟨cs, rfl, _⟩ := WideShapes.okWide_struct ht hok
        simp [Value.cells]
      · cases hu
    · rename_i k e ht
      split at hu
      · obtain ⟨_, hu⟩ := cond_some hu
        cases hu
        rw [if_pos (repT_agg _ _)]
        unfold Value.okWide at hok
        rw [ht] at hok
        obtain ⟨cs, rfl, _⟩ := hok
        simp [Value.cells]
      · cases hu
    · cases hu
noncomputable def valKs : List Ty → List CK
  | [] => []
  | t :: ts => .val t :: valKs ts
noncomputable def WfDs : (ts : List Ty) → (n : Nat) → (lTy (lay n (valKs ts))).den → Prop
  | [], _, _ => True
  | t :: ts, n, x => WfD t x.1 ∧ WfDs ts (n + 1) x.2
theorem args_open {W : World} {r : Reach} {b : Nat} {val : Nat → Value} : ∀ {ts : List TypeId} {us : List Ty} {vs : List Value} {ds : List (DataW H)} {p : List MemPlace} {n : Nat}, openTs P ts = some us → (∀ (j : Nat) t v, ts[j]? = some t → vs[j]? = some v → Value.okWide P W r b t v) →
    (∀ (j : Nat) v, vs[j]? = some v → val (n + j) = v) → DataW.TrodAll enc P w base spare held ts vs ds p → ∃ x : (lTy (lay n (valKs us))).den, LRepL w (AvO (fun _ => False) []) val (lay n (valKs us)) x [] ∧ WfDs us n x ∧ vs.length = us.length
  | [], us, [], [], p, n, hu, _, _, _ => by cases hu; exact ⟨(), rfl, trivial, rfl⟩
  | t :: ts, us, v :: vs, d :: ds, p, n, hu, hok, hval, h => by
    simp only [openTs] at hu
    split at hu
    · rename_i u us' h1 h2
      cases hu
      obtain ⟨p1, p2, h3, h4, _⟩ := h
      obtain ⟨x, cs, hf, hs, wx⟩ := arg_open h1 (hok 0 t v rfl rfl) h3
      obtain ⟨y, hy, wy, hl⟩ := args_open (n := n + 1) h2 (fun j t' v' ht hv => hok (j + 1) t' v' (by simpa using ht) (by simpa using hv)) (fun j v' hv => by rw [show n + 1 + j = n + (j + 1) by omega]; exact hval (j + 1) v' (by simpa using hv)) h4
      refine ⟨(x, y), ⟨cs, [], [], rfl, ?_, ⟨rfl, hf.mono ?_⟩, hy⟩, ⟨wx, wy⟩, by simp [hl]⟩
      · have := hval 0 v rfl
        rw [Nat.add_zero] at this
        rw [this]
        exact hs
      · rintro b (hb | ⟨c, hc⟩)
        · exact hb
        · cases hc
    · cases hu
  | [], _, _ :: _, _, _, _, _, _, _, h => h.elim
  | [], _, [], _ :: _, _, _, _, _, _, h => h.elim
  | _ :: _, _, [], _, _, _, _, _, _, h => h.elim
  | _ :: _, _, _ :: _, [], _, _, _, _, _, h => h.elim
theorem args_back {W W' : World} (hl : laidOutB P = true) (hb : Below W.heap.size W W') : ∀ {ts : List TypeId} {vs : List Value} {ds : List (DataW H)} {p : List MemPlace}, (∀ t ∈ ts, P.readableRec t = true ∧ t < P.types.size) →
    DataW.TrodAll enc P W 0 (fun _ => true) true ts vs ds p → DataW.TrodAll enc P W' 0 (fun b => decide (b < W.heap.size)) true ts vs ds p
  | [], [], [], p, _, h => h
  | t :: ts, v :: vs, d :: ds, p, hr, h => by
    obtain ⟨p1, p2, h3, h4, e⟩ := h
    refine ⟨p1, p2, ?_, args_back hl hb (fun t ht => hr t (List.mem_cons_of_mem _ ht)) h4, e⟩
    refine Below.trod hl (hr t (by simp)).1 (hr t (by simp)).2 h3 hb ?_
    obtain ⟨m, hm⟩ := h3
    exact DataW.trod_lt m _ _ _ hm
  | [], [], _ :: _, _, _, h => h.elim
  | [], _ :: _, _, _, _, h => h.elim
  | _ :: _, [], _, _, _, h => h.elim
  | _ :: _, _ :: _, [], _, _, h => h.elim
end
open Go.ChangeShapes Go.WideShapes Go.ChangeAt in
theorem law_calls [Dr] {H : Type} {enc : TypeId × Value → H} {C : Checked} {f : FuncId} {fn : Func} {s : ChangeSpec} {us : List Ty} {F : (lTy (lay 0 (valKs us))).den → Option (SumL [[.val .bool]])} {b : TypeId} {G : GTab}
    (hvars : s.vars = []) (hres : fn.resultTypes = #[b]) (hb : C.prog.underlying b = some .bool) (hus : openTs C.prog fn.params.toList = some us) (hlaid : laidOutB C.prog = true)
    (hread : ∀ t ∈ fn.params.toList, C.prog.readableRec t = true ∧ t < C.prog.types.size)
    (hspec : ∀ ds : List (DataW H), ds.length = fn.params.toList.length → s.fn H ds = { results := [.lit (.bool true)], args := ds })
    (hF : FnOK C.prog G f ⟨valKs us, [], [[.val .bool]], F⟩) (hpure : ∀ x, WfDs us 0 x → F x = some (true, ()))
    (W : World) (base : Nat) (args : Array Value) (ds gs : List (DataW H)) (before : List MemPlace)
    (hval : ∀ (j : Nat) t v, fn.params[j]? = some t → args[j]? = some v → Value.okWide C.prog W .any base t v)
    (hW : DataW.Whole enc C.prog fn.params.toList s.vars false W args.toList ds gs before) (hgl : GRep G W (fun _ => False)) :
    Calls C.prog f args W fun e W' => ∃ v, e = .returned v ∧ s.post enc C.prog fn false true false false W args v W' := by
  have hW' := hW
  obtain ⟨p, q, hA, hV, rfl, hfz, hnd⟩ := hW
  obtain ⟨x, har, hwf, hal⟩ := args_open (val := nthV args.toList) (n := 0) hus (fun j t v ht hv => hval j t v (by simpa using ht) (by simpa using hv)) (fun j v hv => by
    unfold nthV
    rw [Nat.zero_add, List.getD_eq_getElem?_getD, hv]
    rfl) hA
  have hks : ∀ l : List Ty, (valKs l).length = l.length := by
    intro l
    induction l with
    | nil => rfl
    | cons t l ih => simp [valKs, ih]
  have hc := hF.calls x (true, ()) (hpure x hwf) W (fun _ => False) args.toList [] (by rw [hal]; exact (hks us).symm) (fun _ h => h.elim) har (fun i j b c c' h => by simp at h) (fun b h => by obtain ⟨c, hc⟩ := h; cases hc) (hgl.mono fun b h => h.elim id fun h => by obtain ⟨c, hc⟩ := h; cases hc)
  have e : args.toList.toArray = args := by simp
  rw [e] at hc
  refine hc.mono ?_
  rintro e W' ⟨vs, hs', rfl, hvl, bel, _, _, hls⟩
  have bel := bel.below (fun b h => by obtain ⟨c, hc⟩ := h; cases hc)
  refine ⟨_, rfl, ?_⟩
  have hlen : ds.length = fn.params.toList.length := by
    have : ∀ {ts : List TypeId} {vs : List Value} {ds : List (DataW H)} {p : List MemPlace}, DataW.TrodAll enc C.prog W 0 (fun _ => true) true ts vs ds p → ds.length = ts.length := by
      intro ts
      induction ts with
      | nil => intro vs ds p h; cases vs <;> cases ds <;> first | rfl | exact h.elim
      | cons t ts ih =>
        intro vs ds p h
        cases vs with
        | nil => exact h.elim
        | cons v vs =>
          cases ds with
          | nil => exact h.elim
          | cons d ds =>
            obtain ⟨_, _, _, h, _⟩ := h
            simp [ih h]
    exact this hA
  have hgs : gs = [] := by
    rw [hvars] at hV
    cases gs with
    | nil => rfl
    | cons g gs => exact hV.elim
  subst hgs
  obtain ⟨cs, h0, h1, _, hsh, ⟨_, hf⟩, _⟩ := hls
  have hvl : vs.length = 1 := hvl
  obtain ⟨v, rfl⟩ : ∃ v, vs = [v] := by
    match vs, hvl with
    | [v], _ => exact ⟨v, rfl⟩
  have hv : v = .bool true := by
    have h1 : cs = [v] := hsh
    have h2 : cs = [.bool true] := hf
    rw [h1] at h2
    simpa using h2
  subst hv
  refine ⟨ds, [], p ++ q, [], p, [], hW', ?_, ?_, ?_, bel.frame _, fun h => by cases h⟩
  · rw [List.append_nil, hspec ds hlen, hres]
    exact trodAll_mk1 (shut_bool hb true)
  · rw [List.append_nil, hspec ds hlen]
    exact args_back hlaid bel hread hA
  · rw [List.append_nil, hspec ds hlen, hvars]
    rfl
open Go.ChangeShapes Go.WideShapes Go.ChangeAt in
theorem law_returns [Dr] {H : Type} {enc : TypeId × Value → H} {C : Checked} {os : Os} {f : FuncId} {fn : Func} {s : ChangeSpec} {conds : List PathCond} {us : List Ty} {F : (lTy (lay 0 (valKs us))).den → Option (SumL [[.val .bool]])} {b : TypeId}
    (hknob : ownKnob C.prog.godebug = none) (started : os.Started) (noInit : C.prog.inits.idxOf? f = none) (hfn : C.prog.funcs[f]? = some fn)
    (witness : ∃ (w : World) (tape : Tape) (i : Input), w.os = os ∧ (w.forCall tape i).Shaped C.prog ∧ i.vars = [] ∧ Input.okWide C.prog (w.forCall tape i) .any w.heap.size f i ∧
      s.pre6 enc C.prog fn conds false (w.forCall tape i).memory i.args ∧ ({} : Assume).holds C.prog (lone (Frame.enter C.prog f i.args .normal) [] (w.forCall tape i)))
    (hvars : s.vars = []) (hres : fn.resultTypes = #[b]) (hb : C.prog.underlying b = some .bool) (hus : openTs C.prog fn.params.toList = some us) (hlaid : laidOutB C.prog = true)
    (hread : ∀ t ∈ fn.params.toList, C.prog.readableRec t = true ∧ t < C.prog.types.size)
    (hspec : ∀ ds : List (DataW H), ds.length = fn.params.toList.length → s.fn H ds = { results := [.lit (.bool true)], args := ds })
    (hF : FnOK C.prog [] f ⟨valKs us, [], [[.val .bool]], F⟩) (hpure : ∀ x, WfDs us 0 x → F x = some (true, ())) :
    ReturnsInHanded {} C os f .any (s.pre6 enc C.prog fn conds false) (s.post enc C.prog fn false true false false) := by
  refine returnsInHanded_of_change_sized hknob started noInit hfn witness ?_
  intro W base args ds gs before hval hW hcnd hsz _
  exact law_calls hvars hres hb hus hlaid hread hspec hF hpure W base args ds gs before hval hW (fun p hp => by cases hp)
end Go.VM
