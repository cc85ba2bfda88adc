import Derived.Test.YticbohfmkiafiaaVM5
import Derived.Laws.StructEq
namespace Go.VM
open Go.RowKit
section
variable {P : Program} {w : World} {A : Nat → Prop} {μ : Mu} {h : Heap}
theorem crep_int {k : IntKind} {n : Int} {v : Value} (k0 : CRep w A μ h (.val (.int k) n) v) : v = .int k n := by
  have : [v] = [Value.int k n] := k0
  simpa using this
theorem crep_bool {b : Bool} {v : Value} (k0 : CRep w A μ h (.val .bool b) v) : v = .bool b := by
  have : [v] = [Value.bool b] := k0
  simpa using this
theorem crep_str {s : ByteArray} {v : Value} (k0 : CRep w A μ h (.val .str s) v) : v = .string s := by
  have : [v] = [Value.string s] := k0
  simpa using this
theorem vrep_int {k : IntKind} {n : Int} {v : Value} (k0 : VRep w A μ h (.c (.val (.int k) n)) v) : v = .int k n := crep_int (VRep.to_c (by simp) k0)
theorem vrep_bool {b : Bool} {v : Value} (k0 : VRep w A μ h (.c (.val .bool b)) v) : v = .bool b := crep_bool (VRep.to_c (by simp) k0)
theorem vrep_str {s : ByteArray} {v : Value} (k0 : VRep w A μ h (.c (.val .str s)) v) : v = .string s := crep_str (VRep.to_c (by simp) k0)
theorem rep_int (k : IntKind) (n : Int) : VRep w A μ h (intC k n) (.int k n) := VRep.of_c (c := .val (.int k) n) (show [Value.int k n] = [Value.int k n] from rfl)
theorem rep_bool (b : Bool) : VRep w A μ h (boolC b) (.bool b) := VRep.of_c (c := .val .bool b) (show [Value.bool b] = [Value.bool b] from rfl)
theorem rep_str (s : ByteArray) : VRep w A μ h (strC s) (.string s) := VRep.of_c (c := .val .str s) (show [Value.string s] = [Value.string s] from rfl)
theorem cond_some {α : Type} {b : Bool} {x : Option α} {y : α} (k : (bif b then x else none) = some y) : b = true ∧ x = some y := by
  cases b
  · cases k
  · exact ⟨rfl, k⟩
theorem cond_none {α : Type} {b : Bool} {x : Option α} {y : α} (k : (bif b then none else x) = some y) : b = false ∧ x = some y := by
  cases b
  · exact ⟨rfl, k⟩
  · cases k
theorem binInt_sound {op : BinOp} {k : IntKind} {a b : Int} {v : V} {t : TypeId} (hs : isShift op = false) (hk : binInt op k a b some = some v) :
    ∃ cv, (binOp op t (.int k a) (.int k b)).run P w = .ok cv w ∧ VRep w A μ h v cv := by
  cases op <;> simp only [binInt] at hk <;> first
    | (cases hk; refine ⟨_, ?_, rep_int ..⟩; simp only [binOp, ne_eq, not_true_eq_false, if_false]; rfl)
    | (cases hk; exact ⟨_, by first | (simp [binOp, Op.intArith, Op.intBits, Op.intCmp]; done) | (simp [binOp, Op.intArith, Op.intBits, Op.intCmp]; rfl) | (simp [binOp, Op.intBits, bitsOp]; done), by first | exact rep_int .. | exact rep_bool ..⟩)
    | (obtain ⟨h0, hk⟩ := cond_none hk
       have h0 : ¬ b = 0 := by simpa using h0
       cases hk
       exact ⟨_, by first | (simp [binOp, Op.intDiv, h0]; done) | (simp [binOp, Op.intDiv, h0]; rfl), rep_int ..⟩)
    | (simp [isShift] at hs; done)
    | cases hk
theorem shiftOp_sound {op : BinOp} {k k' : IntKind} {a b : Int} {v : V} {t : TypeId} (hs : isShift op = true) (hk : shiftOp op k a b some = some v) :
    ∃ cv, (binOp op t (.int k a) (.int k' b)).run P w = .ok cv w ∧ VRep w A μ h v cv := by
  obtain ⟨h0, hk⟩ := cond_none hk
  have h0 : ¬ b < 0 := by simpa using h0
  cases op <;> first | (simp [isShift] at hs; done) | skip
  all_goals
    simp only at hk
    cases hk
    exact ⟨_, by first | (simp [binOp, Op.shift, h0]; done) | (simp [binOp, Op.shift, h0]; rfl), rep_int ..⟩
theorem binStr_sound {op : BinOp} {a b : ByteArray} {v : V} {t : TypeId} (hk : binStr op a b some = some v) :
    ∃ cv, (binOp op t (.string a) (.string b)).run P w = .ok cv w ∧ VRep w A μ h v cv := by
  cases op <;> simp only [binStr] at hk <;> first
    | (cases hk; exact ⟨_, by first | (simp [binOp, Op.stringOp]; done) | (simp [binOp, Op.stringOp]; rfl) | (simp only [binOp, Op.stringOp]; rfl), rep_bool ..⟩)
    | (obtain ⟨h0, hk⟩ := cond_some hk
       have h0 : ((a.size + b.size : Nat) : Int) ≤ 9223372036854775807 := of_decide_eq_true ((fitsS_eq a b).symm.trans h0)
       have h1 : ¬ (IntKind.i64.max < ((a.size : Int) + (b.size : Int))) := by
         have : IntKind.i64.max = 9223372036854775807 := by decide
         omega
       cases hk
       refine ⟨.string (a ++ b), ?_, rep_str ..⟩
       simp only [binOp, Op.stringOp]
       rw [if_neg (by omega)]
       rfl)
    | cases hk
theorem run_part {t : TypeId} {d : TypeDesc} {i : TypeInfo} (hi : P.info? t = some i) (hu : P.underlying t = some d) (vs : Array Value) (off : Nat) {cs : List C} (hr : CsRep w A μ h cs vs.toList)
    (hle : off + i.size ≤ cs.length) (hone : aggD d = true ∨ i.size = 1) :
    ∃ v, (part t vs off).run P w = .ok v w ∧ VRep w A μ h (if aggD d = true then .agg (first i.size (cut off cs)) else .c ((first i.size (cut off cs)).getD 0 .undef)) v ∧
      CsRep w A μ h (first i.size (cut off cs)) v.cells.toList ∧ (aggD d = true → ∃ us, v = .agg us) ∧ (aggD d = false → ∃ c, first i.size (cut off cs) = [c] ∧ CRep w A μ h c v) := by
  have hl := All2.len hr
  rw [first_eq, cut_eq]
  cases hd : aggD d
  · have h1 : i.size = 1 := by rcases hone with h | h <;> simp_all
    have hoff : off < cs.length := by omega
    obtain ⟨u, hu', hcu⟩ := All2.get hr (List.getElem?_eq_getElem hoff)
    have htk : (cs.drop off).take i.size = [cs[off]] := by
      rw [h1]
      rw [List.drop_eq_getElem_cons hoff]
      rfl
    have hvo : vs[off]? = some u := by rw [← Array.getElem?_toList]; exact hu'
    refine ⟨u, by simp [part, run_isAgg hu, hd, hvo], ?_, ?_, by simp, fun _ => ⟨_, htk, hcu⟩⟩
    · simp [htk]; exact VRep.of_c hcu
    · rw [htk, one_cells hcu.one]; exact ⟨hcu, trivial⟩
  · have hc : CsRep w A μ h ((cs.drop off).take i.size) (vs.extract off (off + i.size)).toList := by
      have : (vs.extract off (off + i.size)).toList = (vs.toList.drop off).take i.size := by
        rw [Array.toList_extract, List.extract_eq_take_drop]
        congr 1
        omega
      rw [this]
      exact All2.take _ (All2.drop _ hr)
    refine ⟨.agg (vs.extract off (off + i.size)), by simp [part, run_isAgg hu, hd, sizeOf, typeInfo, hi], ?_, hc, fun _ => ⟨_, rfl⟩, by simp⟩
    simp
    exact ⟨_, rfl, hc⟩
noncomputable def TRep (w : World) (A : Nat → Prop) (μ : Mu) (h : Heap) (d : TypeDesc) (cs : List C) (v : Value) : Prop :=
  (aggD d = true ∧ ∃ us, v = .agg us ∧ CsRep w A μ h cs us.toList) ∨ (aggD d = false ∧ ∃ c, cs = [c] ∧ CRep w A μ h c v)
theorem run_part' {t : TypeId} {d : TypeDesc} {i : TypeInfo} (hi : P.info? t = some i) (hu : P.underlying t = some d) (vs : Array Value) (off : Nat) {cs : List C} (hr : CsRep w A μ h cs vs.toList)
    (hle : off + i.size ≤ cs.length) (hone : aggD d = true ∨ i.size = 1) :
    ∃ v, (part t vs off).run P w = .ok v w ∧ TRep w A μ h d (first i.size (cut off cs)) v := by
  obtain ⟨v, hrun, _, hcs, ha, hb⟩ := run_part (P := P) hi hu vs off hr hle hone
  refine ⟨v, hrun, ?_⟩
  cases hd : aggD d
  · obtain ⟨c, hc, hcr⟩ := hb hd
    exact .inr ⟨hd, c, hc, hcr⟩
  · obtain ⟨us, rfl⟩ := ha hd
    exact .inl ⟨hd, us, rfl, hcs⟩
theorem eqT_sound : ∀ (n : Nat) (d : Nat) (t : TypeId) (td : TypeDesc) (cs ds : List C) (b : Bool) (x y : Value), P.underlying t = some td → eqT P n t cs ds = some b → n ≤ d → TRep w A μ h td cs x → TRep w A μ h td ds y →
    (Op.equalIn d t x y).run P w = .ok b w := by
  intro n
  induction n with
  | zero => intro d t td cs ds b x y _ he; simp [eqT] at he
  | succ n ih =>
    intro d t td cs ds b x y hu he hd hx hy
    obtain ⟨d, rfl⟩ : ∃ m, d = m + 1 := ⟨d - 1, by omega⟩
    have hd : n ≤ d := by omega
    unfold eqT at he
    rw [hu] at he
    cases td <;> simp only at he <;> try (cases he; done)
    case bool =>
      split at he <;> cases he
      rcases hx with ⟨ha, _⟩ | ⟨_, c, hc, hcx⟩
      · simp [aggD] at ha
      rcases hy with ⟨ha, _⟩ | ⟨_, c', hc', hcy⟩
      · simp [aggD] at ha
      cases hc; cases hc'
      rw [crep_bool hcx, crep_bool hcy]
      exact run_equalIn_bool' w d t _ _ hu
    case int k =>
      split at he
      · rcases hx with ⟨ha, _⟩ | ⟨_, c, hc, hcx⟩
        · simp [aggD] at ha
        rcases hy with ⟨ha, _⟩ | ⟨_, c', hc', hcy⟩
        · simp [aggD] at ha
        cases hc; cases hc'
        obtain ⟨hk, he⟩ := cond_some he
        have hk := of_decide_eq_true hk
        subst hk
        cases he
        rw [crep_int hcx, crep_int hcy]
        exact run_equalIn_int w d t _ _ _ _ hu
      · cases he
    case string =>
      split at he <;> cases he
      rcases hx with ⟨ha, _⟩ | ⟨_, c, hc, hcx⟩
      · simp [aggD] at ha
      rcases hy with ⟨ha, _⟩ | ⟨_, c', hc', hcy⟩
      · simp [aggD] at ha
      cases hc; cases hc'
      rw [crep_str hcx, crep_str hcy]
      rw [run_equalIn_string w d t _ _ hu, beq_toListBytes]
    case struct fs =>
      obtain ⟨hp, he⟩ := cond_none he
      obtain ⟨_, us, rfl, hcx⟩ | ⟨ha, _⟩ := hx
      rotate_left
      · simp [aggD] at ha
      obtain ⟨_, vs, rfl, hcy⟩ | ⟨ha, _⟩ := hy
      rotate_left
      · simp [aggD] at ha
      have hfo : P.fieldsOf t = fs := by simp [Program.fieldsOf, hu]
      rw [run_equalIn_struct w d t us vs (by rw [hfo]; exact hu) hp, hfo]
      have : ∀ (l : List Field) (b : Bool), eqFs P (eqT P n) cs ds l = some b → (Op.eqFields d us vs l).run P w = .ok b w := by
        intro l
        induction l with
        | nil => intro b hb; simp [eqFs] at hb; simp [Op.eqFields, hb]
        | cons f l ihl =>
          intro b hb
          unfold eqFs at hb
          obtain ⟨hname, hb⟩ := cond_none hb
          have hname : ¬ f.name = "_" := of_decide_eq_false hname
          split at hb
          · rename_i i dd hi hud
            obtain ⟨hc, hb⟩ := cond_some hb
            simp only [Bool.and_eq_true, Bool.or_eq_true] at hc
            obtain ⟨⟨h1, h2⟩, h3⟩ := hc
            rw [len_eq] at h1 h2
            have h3 : aggD dd = true ∨ i.size = 1 := h3.imp id (fun h => Nat.eq_of_beq_eq_true h)
            obtain ⟨vx, hrx, htx⟩ := run_part' (P := P) hi hud us f.offset hcx (Nat.le_of_ble_eq_true h1) h3
            obtain ⟨vy, hry, hty⟩ := run_part' (P := P) hi hud vs f.offset hcy (Nat.le_of_ble_eq_true h2) h3
            split at hb
            · rename_i b1 hb1
              split at hb
              · rename_i b2 hb2
                cases hb
                have he1 := ih d f.type dd _ _ b1 vx vy hud hb1 hd htx hty
                have he2 := ihl b2 hb2
                simp only [Op.eqFields, ne_eq, hname, not_false_eq_true, if_true, Sem.run_bind, hrx, hry, he1, Result.andThen_ok]
                cases b1
                · simp
                · simp [he2]
              · cases hb
            · cases hb
          · cases hb
      exact this fs.toList b he
    case array k e =>
      split at he
      · rename_i i dd hi hud
        obtain ⟨h3, he⟩ := cond_some he
        have h3 : aggD dd = true ∨ i.size = 1 := by
          rcases Bool.or_eq_true_iff.1 h3 with h | h
          · exact .inl h
          · exact .inr (Nat.eq_of_beq_eq_true h)
        obtain ⟨_, us, rfl, hcx⟩ | ⟨ha, _⟩ := hx
        rotate_left
        · simp [aggD] at ha
        obtain ⟨_, vs, rfl, hcy⟩ | ⟨ha, _⟩ := hy
        rotate_left
        · simp [aggD] at ha
        have hz : ∀ w : World, (Go.sizeOf e).run P w = .ok i.size w := fun w => by simp [sizeOf, typeInfo, hi]
        simp only [Op.equalIn, Sem.run_bind, run_underlying hu, Result.andThen_ok, hz]
        rw [Std.Legacy.Range.forIn_eq_forIn_range']
        have key : ∀ (m j : Nat) (b : Bool), eqAs (eqT P n e) i.size cs ds m j = some b →
            ((forIn (List.range' j m 1) ((none, ()) : Option Bool × Unit) fun q _ => do
              let x ← part e us (q * i.size)
              let y ← part e vs (q * i.size)
              let r ← Op.equalIn d e x y
              if (!r) = true then pure (ForInStep.done (some false, ())) else pure (ForInStep.yield (none, ()))) : Sem (Option Bool × Unit)).run P w =
              .ok (if b = true then none else some false, ()) w := by
          intro m
          induction m with
          | zero => intro j b hb; simp [eqAs] at hb; subst hb; simp
          | succ m ihm =>
            intro j b hb
            unfold eqAs at hb
            obtain ⟨hc, hb⟩ := cond_some hb
            simp only [Bool.and_eq_true] at hc
            rw [len_eq, len_eq] at hc
            split at hb
            · rename_i b1 hb1
              split at hb
              · rename_i b2 hb2
                cases hb
                obtain ⟨vx, hrx, htx⟩ := run_part' (P := P) hi hud us (j * i.size) hcx (Nat.le_of_ble_eq_true hc.1) h3
                obtain ⟨vy, hry, hty⟩ := run_part' (P := P) hi hud vs (j * i.size) hcy (Nat.le_of_ble_eq_true hc.2) h3
                have he1 := ih d e dd _ _ b1 vx vy hud hb1 hd htx hty
                simp only [List.range'_succ, List.forIn_cons, Sem.run_bind, hrx, hry, he1, Result.andThen_ok]
                cases b1
                · simp
                · have := ihm (j + 1) b2 hb2
                  simp only [Bool.not_true, Bool.false_eq_true, if_false, Sem.run_pure, Result.andThen_ok, Bool.true_and]
                  exact this
              · cases hb
            · cases hb
        have hk := key k 0 b he
        have hsz : (([:k] : Std.Legacy.Range)).size = k := by simp [Std.Legacy.Range.size]
        simp only [hsz]
        rw [show (Sem.run P (forIn (List.range' 0 k 1) ((none, ()) : Option Bool × Unit) fun q _ => do
              let x ← part e us (q * i.size)
              let y ← part e vs (q * i.size)
              let r ← Op.equalIn d e x y
              if (!r) = true then pure (ForInStep.done (some false, ())) else pure (ForInStep.yield (none, ()))) w) = _ from hk]
        cases b <;> simp
      · cases he
end
end Go.VM
