/- The value machine: calls. -/
import Derived.Test.YtpighccmakogpaaVM12
namespace Go.VM
open Go.RowKit

abbrev Hd := Option (Nat × Nat)

/-- Results: a slice is a row of its own (`hs`: the rows' places), or frozen. -/
def LRep (w : World) (A : Nat → Prop) (own : Bool) : (t : Ty) → t.den → List Value → List Hd → Prop
  | .unit, _, cs, hs => cs = [] ∧ hs = []
  | .int k, x, cs, hs => cs = [.int k x] ∧ hs = []
  | .bool, x, cs, hs => cs = [.bool x] ∧ hs = []
  | .str, x, cs, hs => cs = [.string x] ∧ hs = []
  | .pair a b, x, cs, hs => ∃ c0 c1 h0 h1, cs = c0 ++ c1 ∧ hs = h0 ++ h1 ∧ LRep w A own a x.1 c0 h0 ∧ LRep w A own b x.2 c1 h1
  | .sl t, xs, cs, hs =>
    if own = true then ∃ m : Hd, hs = [m] ∧ cs = [hdV m (List.length (α := t.den) xs)] ∧ 0 < t.sz ∧ (match m with | none => (xs : List t.den) = [] | some (b, c) => RowAt w A t xs false b c)
    else hs = [] ∧ FRep w A (.sl t) xs cs

def shapeV (t : Ty) (cs : List Value) (v : Value) : Prop := if t.isAgg = true then v = .agg cs.toArray else cs = [v]

def LsRep (w : World) (A : Nat → Prop) (own : Bool) : (ts : List Ty) → (tupT ts).den → List Value → List Hd → Prop
  | [], _, vs, hs => vs = [] ∧ hs = []
  | t :: ts, x, vs, hs => ∃ v vs' cs h0 h1, vs = v :: vs' ∧ hs = h0 ++ h1 ∧ LRep w A own t x.1 cs h0 ∧ shapeV t cs v ∧ LsRep w A own ts x.2 vs' h1

def tupVal (vs : List Value) : Value := match vs with | [v] => v | vs => .tuple vs.toArray
def inHd (hs : List Hd) (b : Nat) : Prop := ∃ c, some (b, c) ∈ hs

def RRep (w w' : World) (A : Nat → Prop) (own : Bool) (rt : List Ty) (y : (tupT rt).den) (v : Value) : Prop :=
  ∃ (vs : List Value) (hs : List Hd), v = tupVal vs ∧ (∀ b c, some (b, c) ∈ hs → w.heap.size ≤ b) ∧ (∀ (i j b c c' : Nat), hs[i]? = some (some (b, c)) → hs[j]? = some (some (b, c')) → i = j) ∧
    LsRep w' (fun b => A b ∨ inHd hs b) own rt y vs hs

/-- Arguments. -/
def ARep (w : World) (A : Nat → Prop) : (ts : List Ty) → (tupT ts).den → List Value → Prop
  | [], _, vs => vs = []
  | t :: ts, x, vs => ∃ v vs' cs, vs = v :: vs' ∧ FRep w A t x.1 cs ∧ shapeV t cs v ∧ ARep w A ts x.2 vs'

/-- A function does what its oracle says. -/
structure FnOK (P : Program) (f : Nat) (s : Sig) : Prop where
  enter : ∀ (args : Array Value) (w : World), (callFunc f args).run P w = .ok (.enter f args) w
  calls : ∀ (x : (tupT s.pt).den) (y : (tupT s.rt).den), s.f x = some y → ∀ (w : World) (A : Nat → Prop) (args : List Value), (∀ b, A b → b < w.heap.size) → ARep w A s.pt x args →
    Calls P f args.toArray w (fun e w' => ∃ v, e = .returned v ∧ Below w.heap.size w w' ∧ RRep w w' A s.own s.rt y v)

def EnvOK (E : Env) : Prop := ∀ f s, E.C f = some s → FnOK E.P f s

theorem frep_flat {w : World} {A A' : Nat → Prop} : ∀ {t : Ty} {x : t.den} {cs : List Value}, t.flat = true → FRep w A t x cs → FRep w A' t x cs
  | .int _, _, _, _, h => h
  | .bool, _, _, _, h => h
  | .str, _, _, _, h => h
  | .unit, _, _, _, h => h
  | .pair a b, _, _, hf, ⟨c0, c1, h, h0, h1⟩ => by
    simp [Ty.flat] at hf
    exact ⟨c0, c1, h, frep_flat hf.1 h0, frep_flat hf.2 h1⟩
  | .sl _, _, _, hf, _ => by simp [Ty.flat] at hf

theorem RowAt.mono {w : World} {A A' : Nat → Prop} (hA : ∀ b, A' b → A b) {t : Ty} {xs : List t.den} {fz : Bool} {b c : Nat} (h : RowAt w A t xs fz b c) : RowAt w A' t xs fz b c := by
  obtain ⟨e, cur, fr, h1, h2, h3, h4, h5, h6⟩ := h
  exact ⟨e, cur, fr, h1, h2, h3, h4, h5, fun i x hi => let ⟨ec, hf, hc⟩ := h6 i x hi; ⟨ec, hf.mono hA, hc⟩⟩
theorem RowAt.flat {w : World} {A A' : Nat → Prop} {t : Ty} (ht : t.flat = true) {xs : List t.den} {fz : Bool} {b c : Nat} (h : RowAt w A t xs fz b c) : RowAt w A' t xs fz b c := by
  obtain ⟨e, cur, fr, h1, h2, h3, h4, h5, h6⟩ := h
  exact ⟨e, cur, fr, h1, h2, h3, h4, h5, fun i x hi => let ⟨ec, hf, hc⟩ := h6 i x hi; ⟨ec, frep_flat ht hf, hc⟩⟩

theorem LRep.flat {w : World} {A A' : Nat → Prop} : ∀ {t : Ty} {x : t.den} {cs : List Value} {hs : List Hd}, t.shallow = true → LRep w A true t x cs hs → LRep w A' true t x cs hs
  | .int _, _, _, _, _, h => h
  | .bool, _, _, _, _, h => h
  | .str, _, _, _, _, h => h
  | .unit, _, _, _, _, h => h
  | .pair a b, _, _, _, hf, ⟨c0, c1, h0, h1, hc, hh, r0, r1⟩ => by
    simp [Ty.shallow] at hf
    exact ⟨c0, c1, h0, h1, hc, hh, LRep.flat hf.1 r0, LRep.flat hf.2 r1⟩
  | .sl t, xs, cs, hs, hf, h => by
    have hf : t.flat = true := hf
    simp only [LRep, if_true] at h ⊢
    obtain ⟨m, h1, h2, h3, h4⟩ := h
    refine ⟨m, h1, h2, h3, ?_⟩
    cases m with
    | none => exact h4
    | some p => exact RowAt.flat hf h4
theorem LsRep.flat {w : World} {A A' : Nat → Prop} : ∀ {ts : List Ty} {x : (tupT ts).den} {vs : List Value} {hs : List Hd}, (tupT ts).shallow = true → LsRep w A true ts x vs hs → LsRep w A' true ts x vs hs
  | [], _, _, _, _, h => h
  | t :: ts, x, vs, hs, hf, h => by
    simp [tupT, Ty.shallow] at hf
    obtain ⟨v, vs', cs, h0, h1, hv, hh, hl, hsh, hr⟩ := h
    exact ⟨v, vs', cs, h0, h1, hv, hh, LRep.flat hf.1 hl, hsh, LsRep.flat hf.2 hr⟩
theorem LRep.mono {w : World} {A A' : Nat → Prop} (hA : ∀ b, A' b → A b) {own : Bool} : ∀ {t : Ty} {x : t.den} {cs : List Value} {hs : List Hd}, LRep w A own t x cs hs → LRep w A' own t x cs hs
  | .int _, _, _, _, h => h
  | .bool, _, _, _, h => h
  | .str, _, _, _, h => h
  | .unit, _, _, _, h => h
  | .pair a b, _, _, _, ⟨c0, c1, h0, h1, hc, hh, r0, r1⟩ => ⟨c0, c1, h0, h1, hc, hh, LRep.mono hA r0, LRep.mono hA r1⟩
  | .sl t, xs, cs, hs, h => by
    simp only [LRep] at h ⊢
    split
    · rename_i ho
      rw [if_pos ho] at h
      obtain ⟨m, h1, h2, h3, h4⟩ := h
      refine ⟨m, h1, h2, h3, ?_⟩
      cases m with
      | none => exact h4
      | some p => exact RowAt.mono hA h4
    · rename_i ho
      rw [if_neg ho] at h
      exact ⟨h.1, h.2.mono hA⟩
theorem LsRep.mono {w : World} {A A' : Nat → Prop} (hA : ∀ b, A' b → A b) {own : Bool} : ∀ {ts : List Ty} {x : (tupT ts).den} {vs : List Value} {hs : List Hd}, LsRep w A own ts x vs hs → LsRep w A' own ts x vs hs
  | [], _, _, _, h => h
  | t :: ts, x, vs, hs, ⟨v, vs', cs, h0, h1, hv, hh, hl, hsh, hr⟩ => ⟨v, vs', cs, h0, h1, hv, hh, LRep.mono hA hl, hsh, LsRep.mono hA hr⟩

section
variable {P : Program} {W0 : World} {O : Nat → Prop} {μ : Mu} {st : St} {a : Act} {w w' : World} {o : Oper} {v : V} {u : Upd}

/-- New blocks, all at once. -/
theorem RelM.news (r : RelM W0 O μ st a w) (hw : Below w.heap.size w w') {μ' : Mu} {h' : Heap} (hold : ∀ id blk, st.heap id = some blk → h' id = some blk ∧ μ' id = μ id)
    (hnew : ∀ id blk, h' id = some blk → st.heap id = some blk ∨ (st.heap id = none ∧ blk.own = true ∧ ∀ b c, μ' id = some (b, c) → w.heap.size ≤ b))
    (hdist : ∀ id id' blk blk' b c c', st.heap id = none → st.heap id' = none → h' id = some blk → h' id' = some blk' → μ' id = some (b, c) → μ' id' = some (b, c') → id = id')
    (hB : Step w w' (Av O μ st.heap) (Av O μ' h') μ μ' st.heap h' → ∀ id blk, st.heap id = none → h' id = some blk → BRep w' (Av O μ' h') μ' h' (μ' id) blk) :
    Step w w' (Av O μ st.heap) (Av O μ' h') μ μ' st.heap h' ∧ RelM W0 O μ' { st with heap := h' } a w' := by
  have s : Step w w' (Av O μ st.heap) (Av O μ' h') μ μ' st.heap h' := by
    refine ⟨fun b _ hlt => hw.block b hlt, fun b h => ?_, fun id blk h => ⟨blk, (hold id blk h).1, by cases blk <;> simp [compat], (hold id blk h).2⟩⟩
    rcases h with h | ⟨id, blk, c, hi, ho, hm⟩
    · exact .inl (.inl h)
    · rcases hnew id blk hi with h1 | ⟨_, _, h3⟩
      · exact .inl (.inr ⟨id, blk, c, h1, ho, by rw [← (hold id blk h1).2]; exact hm⟩)
      · exact .inr (h3 b c hm)
  have lt : ∀ id blk b c, st.heap id = some blk → blk.own = true → μ id = some (b, c) → b < w.heap.size := by
    intro id blk b c h ho hm
    have := r.blks id blk h
    rw [hm] at this
    exact this.lt (own_ne_dead ho)
  refine ⟨s, r.go s (fun id blk h => ?_) (fun id id' blk blk' b c c' h h' o o' hm hm' => ?_) (fun id blk b c h ho hm => ?_) (Below.then r.below r.le hw)⟩
  · rcases hnew id blk h with h1 | ⟨h1, _, _⟩
    · rw [(hold id blk h1).2]
      exact s.brep (fun b c _ hlt => hw.block b hlt) (r.blks id blk h1)
    · exact hB s id blk h1 h
  · rcases hnew id blk h with h1 | ⟨h1, _, h3⟩ <;> rcases hnew id' blk' h' with h1' | ⟨h1', _, h3'⟩
    · rw [(hold id blk h1).2] at hm
      rw [(hold id' blk' h1').2] at hm'
      exact r.inj id id' blk blk' b c c' h1 h1' o o' hm hm'
    · rw [(hold id blk h1).2] at hm
      have := lt id blk b c h1 o hm
      have := h3' b c' hm'
      omega
    · rw [(hold id' blk' h1').2] at hm'
      have := lt id' blk' b c' h1' o' hm'
      have := h3 b c hm
      omega
    · exact hdist id id' blk blk' b c c' h1 h1' h h' hm hm'
  · rcases hnew id blk h with h1 | ⟨h1, _, h3⟩
    · rw [(hold id blk h1).2] at hm
      exact r.fresh id blk b c h1 ho hm
    · exact Nat.le_trans r.le (h3 b c hm)

/-! ### The results' cells -/
theorem resC_upd (own : Bool) (base : Nat) : ∀ (t : Ty) (x : t.den) (c : Nat), (resC own base t x c).2.2 = c + (resC own base t x c).2.1.length ∧
    ∀ (k i : Nat) (b : Blk), (resC own base t x c).2.1[k]? = some (i, b) → i = base + (c + k)
  | .unit, x, c => by simp [resC]
  | .int k, x, c => by simp [resC]
  | .bool, x, c => by simp [resC]
  | .str, x, c => by simp [resC]
  | .sl t, x, c => by
    cases own
    · simp [resC]
    · simp only [resC, cond_true]
      refine ⟨by simp, fun k i b h => ?_⟩
      cases k with
      | zero => simp at h; omega
      | succ k => simp at h
  | .pair a b, x, c => by
    obtain ⟨h1, h2⟩ := resC_upd own base a x.1 c
    obtain ⟨h3, h4⟩ := resC_upd own base b x.2 (resC own base a x.1 c).2.2
    simp only [resC, app_eq]
    refine ⟨by rw [h3, h1, List.length_append]; omega, fun k i bb h => ?_⟩
    rw [List.getElem?_append] at h
    split at h
    · exact h2 k i bb h
    · have := h4 _ i bb h
      rw [h1] at this
      omega

theorem LRep.resC {A A2 : Nat → Prop} (hA : ∀ b, A2 b → A b) {own : Bool} {base : Nat} {μ' : Mu} {h' : Heap} : ∀ {t : Ty} {x : t.den} {cs : List Value} {hs : List Hd} {c : Nat}, LRep w' A own t x cs hs →
    (VM.resC own base t x c).2.1.length = hs.length ∧
    (∀ (k i : Nat) (b : Blk) (m : Hd), (VM.resC own base t x c).2.1[k]? = some (i, b) → hs[k]? = some m → ∃ (y : Ty) (ys : List y.den), b = .row y ys false ∧ 0 < y.sz ∧ (match m with | none => ys = [] | some (b, c) => RowAt w' A y ys false b c)) ∧
    ((∀ (k i : Nat) (b : Blk) (m : Hd), (VM.resC own base t x c).2.1[k]? = some (i, b) → hs[k]? = some m → h' i = some b ∧ μ' i = m) → CsRep w' A2 μ' h' (VM.resC own base t x c).1 cs)
  | .unit, x, cs, hs, c, h => by
    obtain ⟨rfl, rfl⟩ := h
    exact ⟨rfl, by simp [VM.resC], fun _ => trivial⟩
  | .int k, x, cs, hs, c, h => by
    obtain ⟨rfl, rfl⟩ := h
    exact ⟨rfl, by simp [VM.resC], fun _ => ⟨show [Value.int k x] = [Value.int k x] from rfl, trivial⟩⟩
  | .bool, x, cs, hs, c, h => by
    obtain ⟨rfl, rfl⟩ := h
    exact ⟨rfl, by simp [VM.resC], fun _ => ⟨show [Value.bool x] = [Value.bool x] from rfl, trivial⟩⟩
  | .str, x, cs, hs, c, h => by
    obtain ⟨rfl, rfl⟩ := h
    exact ⟨rfl, by simp [VM.resC], fun _ => ⟨show [Value.string x] = [Value.string x] from rfl, trivial⟩⟩
  | .sl t, xs, cs, hs, c, h => by
    cases own
    · simp only [LRep] at h
      rw [if_neg (by simp)] at h
      obtain ⟨rfl, hf⟩ := h
      have hl := FRep.len hf
      obtain ⟨v, rfl⟩ : ∃ v, cs = [v] := by
        obtain ⟨ad, cap, rfl, _⟩ := hf
        exact ⟨_, rfl⟩
      exact ⟨rfl, by simp [VM.resC], fun _ => ⟨hf.mono hA, trivial⟩⟩
    · simp only [LRep, if_true] at h
      obtain ⟨m, rfl, rfl, hp, hm⟩ := h
      refine ⟨rfl, fun k i b m' hk hm' => ?_, fun hyp => ?_⟩
      · cases k with
        | zero =>
          simp [VM.resC] at hk hm'
          subst hm'
          exact ⟨t, xs, hk.2.symm, hp, hm⟩
        | succ k => simp [VM.resC] at hk
      · obtain ⟨h1, h2⟩ := hyp 0 (base + c) (.row t xs false) m (by simp [VM.resC]) (by simp)
        refine ⟨⟨_, h1, ?_, fun t' xs' fz he => ?_⟩, trivial⟩
        · cases m <;> rfl
        · cases he
          rw [h2]
  | .pair a b, x, cs, hs, c, h => by
    obtain ⟨c0, c1, h0, h1, rfl, rfl, r0, r1⟩ := h
    obtain ⟨l0, b0, k0⟩ := LRep.resC hA (base := base) (μ' := μ') (h' := h') (c := c) r0
    obtain ⟨l1, b1, k1⟩ := LRep.resC hA (base := base) (μ' := μ') (h' := h') (c := (VM.resC own base a x.1 c).2.2) r1
    simp only [VM.resC, app_eq]
    refine ⟨by simp [l0, l1], fun k i bb m hk hm => ?_, fun hyp => ?_⟩
    · rw [List.getElem?_append] at hk hm
      rw [l0] at hk
      split at hk
      · rename_i hlt
        rw [if_pos hlt] at hm
        exact b0 k i bb m hk hm
      · rename_i hlt
        rw [if_neg hlt] at hm
        exact b1 _ i bb m hk hm
    · refine All2.append (k0 fun k i bb m hk hm => hyp k i bb m ?_ ?_) (k1 fun k i bb m hk hm => hyp (h0.length + k) i bb m ?_ ?_)
      · rw [List.getElem?_append_left (List.getElem?_eq_some_iff.1 hk).1]; exact hk
      · rw [List.getElem?_append_left (List.getElem?_eq_some_iff.1 hm).1]; exact hm
      · rw [List.getElem?_append_right (by omega), l0]; simpa using hk
      · rw [List.getElem?_append_right (by omega)]; simpa using hm

theorem explodeRes_len {own : Bool} {base : Nat} : ∀ (t : Ty) (x : t.den) (c : Nat), t.isAgg = false → ∃ k, (VM.resC own base t x c).1 = [k]
  | .int _, _, _, _ => ⟨_, rfl⟩
  | .bool, _, _, _ => ⟨_, rfl⟩
  | .str, _, _, _ => ⟨_, rfl⟩
  | .sl _, _, _, _ => by cases own <;> exact ⟨_, rfl⟩
  | .unit, _, _, h => by simp [Ty.isAgg] at h
  | .pair _ _, _, _, h => by simp [Ty.isAgg] at h

theorem resV_rep {A2 : Nat → Prop} {μ' : Mu} {h' : Heap} {t : Ty} {cells : List C} {cs : List Value} {v : Value} (hc : CsRep w' A2 μ' h' cells cs) (hs : shapeV t cs v) (h1 : t.isAgg = false → ∃ k, cells = [k]) :
    SRep w' A2 μ' h' (resV t cells) v := by
  unfold resV
  unfold shapeV at hs
  cases ha : t.isAgg
  · rw [ha] at hs
    rw [if_neg (by simp)] at hs
    subst hs
    obtain ⟨k, rfl⟩ := h1 ha
    simp only [cond_false]
    by_cases hu : k = .undef
    · subst hu; trivial
    · exact SRep.of_c hc.1
  · rw [ha] at hs
    rw [if_pos rfl] at hs
    subst hs
    exact ⟨_, rfl, hc⟩

theorem resVs_upd (own : Bool) (base : Nat) : ∀ (ts : List Ty) (x : (tupT ts).den) (c : Nat) (k i : Nat) (b : Blk), (resVs own base ts x c).2[k]? = some (i, b) → i = base + (c + k)
  | [], x, c, k, i, b, h => by simp [resVs] at h
  | t :: ts, x, c, k, i, b, h => by
    obtain ⟨h1, h2⟩ := resC_upd own base t x.1 c
    simp only [resVs, app_eq] at h
    rw [List.getElem?_append] at h
    split at h
    · exact h2 k i b h
    · have := resVs_upd own base ts x.2 _ _ i b h
      rw [h1] at this
      omega

theorem LsRep.resVs {A A2 : Nat → Prop} (hA : ∀ b, A2 b → A b) {own : Bool} {base : Nat} {μ' : Mu} {h' : Heap} : ∀ {ts : List Ty} {x : (tupT ts).den} {vs : List Value} {hs : List Hd} {c : Nat}, LsRep w' A own ts x vs hs →
    (VM.resVs own base ts x c).2.length = hs.length ∧
    (∀ (k i : Nat) (b : Blk) (m : Hd), (VM.resVs own base ts x c).2[k]? = some (i, b) → hs[k]? = some m → ∃ (y : Ty) (ys : List y.den), b = .row y ys false ∧ 0 < y.sz ∧ (match m with | none => ys = [] | some (b, c) => RowAt w' A y ys false b c)) ∧
    ((∀ (k i : Nat) (b : Blk) (m : Hd), (VM.resVs own base ts x c).2[k]? = some (i, b) → hs[k]? = some m → h' i = some b ∧ μ' i = m) → All2 (SRep w' A2 μ' h') (VM.resVs own base ts x c).1 vs)
  | [], x, vs, hs, c, h => by
    obtain ⟨rfl, rfl⟩ := h
    exact ⟨rfl, by simp [VM.resVs], fun _ => trivial⟩
  | t :: ts, x, vs, hs, c, h => by
    obtain ⟨v, vs', cs, h0, h1, rfl, rfl, hl, hsh, hr⟩ := h
    obtain ⟨l0, b0, k0⟩ := LRep.resC hA (base := base) (μ' := μ') (h' := h') (c := c) hl
    obtain ⟨l1, b1, k1⟩ := LsRep.resVs hA (base := base) (μ' := μ') (h' := h') (c := (VM.resC own base t x.1 c).2.2) hr
    simp only [VM.resVs, app_eq]
    refine ⟨by simp [l0, l1], fun k i bb m hk hm => ?_, fun hyp => ⟨?_, ?_⟩⟩
    · rw [List.getElem?_append] at hk hm
      rw [l0] at hk
      split at hk
      · rename_i hlt
        rw [if_pos hlt] at hm
        exact b0 k i bb m hk hm
      · rename_i hlt
        rw [if_neg hlt] at hm
        exact b1 _ i bb m hk hm
    · refine resV_rep (k0 fun k i bb m hk hm => hyp k i bb m ?_ ?_) hsh (fun ha => explodeRes_len t x.1 c ha)
      · rw [List.getElem?_append_left (List.getElem?_eq_some_iff.1 hk).1]; exact hk
      · rw [List.getElem?_append_left (List.getElem?_eq_some_iff.1 hm).1]; exact hm
    · refine k1 fun k i bb m hk hm => hyp (h0.length + k) i bb m ?_ ?_
      · rw [List.getElem?_append_right (by omega), l0]; simpa using hk
      · rw [List.getElem?_append_right (by omega)]; simpa using hm

theorem tupV_rep {A2 : Nat → Prop} {μ' : Mu} {h' : Heap} {l : List (C ⊕ List C)} {vs : List Value} (h : All2 (SRep w' A2 μ' h') l vs) : VRep w' A2 μ' h' (tupV l) (tupVal vs) := by
  match l, vs, h with
  | [], [], _ => exact ⟨_, rfl, trivial⟩
  | [.inl c], [v], h =>
    by_cases hu : c = .undef
    · subst hu; trivial
    · exact VRep.of_c (SRep.to_c hu h.1)
  | [.inr cs], [v], h => exact h.1
  | x :: y :: l, v :: u :: vs, h =>
    have e : tupV (x :: y :: l) = .tup (x :: y :: l) := by cases x <;> rfl
    rw [e]
    exact ⟨_, rfl, by simpa using h⟩
  | _ :: _ :: _, [_], h => exact h.2.elim
  | [_], _ :: _ :: _, h => exact h.2.elim
  | [], _ :: _, h => exact h.elim
  | _ :: _, [], h => exact h.elim

theorem updsH_get (base : Nat) : ∀ (l : Upd) (c : Nat) (h : Heap), (∀ (k i : Nat) (b : Blk), l[k]? = some (i, b) → i = base + (c + k)) →
    ∀ id, updsH h l id = if base + c ≤ id ∧ id < base + (c + l.length) then (l[id - (base + c)]?).map (·.2) else h id
  | [], c, h, _, id => by
    simp only [updsH, List.length_nil, Nat.add_zero]
    rw [if_neg (by omega)]
  | (i, b) :: l, c, h, hl, id => by
    have hi := hl 0 i b (by simp)
    have hl' : ∀ (k i : Nat) (b : Blk), l[k]? = some (i, b) → i = base + (c + 1 + k) := fun k i b hk => by
      have := hl (k + 1) i b (by simpa using hk)
      omega
    simp only [updsH]
    rw [updsH_get base l (c + 1) _ hl' id]
    simp only [List.length_cons]
    by_cases h1 : base + (c + 1) ≤ id ∧ id < base + (c + 1 + l.length)
    · rw [if_pos h1, if_pos (by omega)]
      rw [show id - (base + c) = (id - (base + (c + 1))) + 1 by omega]
      simp
    · rw [if_neg h1]
      by_cases h2 : id = base + c
      · subst h2
        rw [if_pos (by omega)]
        rw [show i = base + c by omega, updH_same]
        simp
      · rw [if_neg (by omega), updH_ne _ _ (by omega)]

theorem freeUpd_none {h : Heap} : ∀ {l : Upd}, freeUpd h l = true → ∀ (k i : Nat) (b : Blk), l[k]? = some (i, b) → h i = none
  | [], _, k, i, b, hk => by simp at hk
  | (j, c) :: l, hf, k, i, b, hk => by
    simp only [freeUpd, Bool.and_eq_true] at hf
    cases k with
    | zero =>
      simp at hk
      rw [← hk.1]
      have h1 := hf.1
      cases hj : h j with
      | none => rfl
      | some b => rw [hj] at h1; cases h1
    | succ k => exact freeUpd_none hf.2 k i b (by simpa using hk)

/-- The results taken over. -/
theorem RelM.results (r : RelM W0 O μ st a w) (hw : Below w.heap.size w w') {own : Bool} {rt : List Ty} {y : (tupT rt).den} {vs : List Value} {hs : List Hd} {base : Nat} (hfresh : ∀ b c, some (b, c) ∈ hs → w.heap.size ≤ b)
    (hdist : ∀ (i j b c c' : Nat), hs[i]? = some (some (b, c)) → hs[j]? = some (some (b, c')) → i = j) (hl : LsRep w' (fun b => Av O μ st.heap b ∨ inHd hs b) own rt y vs hs)
    (hfree : freeUpd st.heap (VM.resVs own base rt y 0).2 = true) :
    ∃ μ', RelM W0 O μ' { st with heap := updsH st.heap (VM.resVs own base rt y 0).2 } a w' ∧
      VRep w' (Av O μ' (updsH st.heap (VM.resVs own base rt y 0).2)) μ' (updsH st.heap (VM.resVs own base rt y 0).2) (tupV (VM.resVs own base rt y 0).1) (tupVal vs) := by
  have hupd := resVs_upd own base rt y 0
  have hget := updsH_get base (VM.resVs own base rt y 0).2 0 st.heap (fun k i b hk => by simpa using hupd k i b hk)
  simp only [Nat.add_zero, Nat.zero_add] at hget
  obtain ⟨hlen, hrows, _⟩ := LsRep.resVs (A2 := fun _ => False) (fun _ h => h.elim) (base := base) (μ' := μ) (h' := st.heap) (c := 0) hl
  let μ' : Mu := fun id => if base ≤ id ∧ id < base + hs.length then (hs[id - base]?).getD none else μ id
  have hmu : ∀ id, base ≤ id ∧ id < base + hs.length → μ' id = (hs[id - base]?).getD none := fun id h => if_pos h
  have hmu' : ∀ id, ¬ (base ≤ id ∧ id < base + hs.length) → μ' id = μ id := fun id h => if_neg h
  have hnone : ∀ id, base ≤ id ∧ id < base + hs.length → st.heap id = none := by
    intro id h
    have hk : id - base < (VM.resVs own base rt y 0).2.length := by omega
    obtain ⟨⟨i, b⟩, hib⟩ : ∃ p, (VM.resVs own base rt y 0).2[id - base]? = some p := ⟨_, List.getElem?_eq_getElem hk⟩
    have := hupd _ i b hib
    have h2 := freeUpd_none hfree _ i b hib
    rw [show id = i by omega]
    exact h2
  -- a new block
  have new : ∀ id, base ≤ id ∧ id < base + hs.length → ∃ b m, updsH st.heap (VM.resVs own base rt y 0).2 id = some b ∧ (VM.resVs own base rt y 0).2[id - base]? = some (id, b) ∧ hs[id - base]? = some m ∧ μ' id = m := by
    intro id h
    have hk : id - base < (VM.resVs own base rt y 0).2.length := by omega
    obtain ⟨⟨i, b⟩, hib⟩ : ∃ p, (VM.resVs own base rt y 0).2[id - base]? = some p := ⟨_, List.getElem?_eq_getElem hk⟩
    have hi := hupd _ i b hib
    have hk2 : id - base < hs.length := by omega
    refine ⟨b, hs[id - base], ?_, by rw [hib]; congr 2; omega, List.getElem?_eq_getElem hk2, by rw [hmu id h, List.getElem?_eq_getElem hk2]; rfl⟩
    rw [hget, if_pos (by omega), hib]
    rfl
  have old : ∀ id, ¬ (base ≤ id ∧ id < base + hs.length) → updsH st.heap (VM.resVs own base rt y 0).2 id = st.heap id := by
    intro id h
    rw [hget, if_neg (by omega)]
  have isnew : ∀ id blk, st.heap id = none → updsH st.heap (VM.resVs own base rt y 0).2 id = some blk → base ≤ id ∧ id < base + hs.length := by
    intro id blk h1 h2
    apply Classical.byContradiction
    intro h
    rw [old id h, h1] at h2
    cases h2
  obtain ⟨s, r'⟩ := r.news hw (μ' := μ') (h' := updsH st.heap (VM.resVs own base rt y 0).2)
    (fun id blk h => by
      have hn : ¬ (base ≤ id ∧ id < base + hs.length) := fun hh => by rw [hnone id hh] at h; cases h
      exact ⟨by rw [old id hn, h], hmu' id hn⟩)
    (fun id blk h => by
      by_cases hh : base ≤ id ∧ id < base + hs.length
      · obtain ⟨b, m, h1, h2, h3, h4⟩ := new id hh
        rw [h1] at h
        cases h
        obtain ⟨yy, ys, rfl, _, _⟩ := hrows _ _ _ _ h2 h3
        refine .inr ⟨hnone id hh, rfl, fun b c hm => ?_⟩
        rw [h4] at hm
        subst hm
        exact hfresh b c (List.mem_of_getElem? h3)
      · rw [old id hh] at h
        exact .inl h)
    (fun id id' blk blk' b c c' h1 h1' h2 h2' hm hm' => by
      have i1 := isnew id blk h1 h2
      have i2 := isnew id' blk' h1' h2'
      obtain ⟨_, m, _, _, h3, h4⟩ := new id i1
      obtain ⟨_, m', _, _, h3', h4'⟩ := new id' i2
      rw [h4] at hm
      rw [h4'] at hm'
      subst hm
      subst hm'
      have := hdist _ _ b c c' h3 h3'
      omega)
    (fun s id blk h1 h2 => by
      have i1 := isnew id blk h1 h2
      obtain ⟨b, m, hb, hu, h3, h4⟩ := new id i1
      rw [hb] at h2
      cases h2
      obtain ⟨yy, ys, rfl, hz, hm⟩ := hrows _ _ _ _ hu h3
      rw [h4]
      refine ⟨hz, ?_⟩
      cases m with
      | none => exact hm
      | some p =>
        refine ⟨RowAt.mono (fun b' hb' => ?_) hm, by simp⟩
        rcases hb' with hb' | ⟨j, blk2, c2, hj, ho, hmj⟩
        · exact .inl (.inl hb')
        · by_cases hh : base ≤ j ∧ j < base + hs.length
          · obtain ⟨_, m2, _, _, h5, h6⟩ := new j hh
            rw [h6] at hmj
            subst hmj
            exact .inr ⟨c2, List.mem_of_getElem? h5⟩
          · rw [old j hh] at hj
            rw [hmu' j hh] at hmj
            exact .inl (.inr ⟨j, blk2, c2, hj, ho, hmj⟩))
  refine ⟨μ', r', ?_⟩
  have hA2 : ∀ b, Av O μ' (updsH st.heap (VM.resVs own base rt y 0).2) b → Av O μ st.heap b ∨ inHd hs b := by
    rintro b' (hb' | ⟨j, blk2, c2, hj, ho, hmj⟩)
    · exact .inl (.inl hb')
    · by_cases hh : base ≤ j ∧ j < base + hs.length
      · obtain ⟨_, m2, _, _, h5, h6⟩ := new j hh
        rw [h6] at hmj
        subst hmj
        exact .inr ⟨c2, List.mem_of_getElem? h5⟩
      · rw [old j hh] at hj
        rw [hmu' j hh] at hmj
        exact .inl (.inr ⟨j, blk2, c2, hj, ho, hmj⟩)
  obtain ⟨_, _, hfin⟩ := LsRep.resVs hA2 (base := base) (μ' := μ') (h' := updsH st.heap (VM.resVs own base rt y 0).2) (c := 0) hl
  refine tupV_rep (hfin fun k i b m hk hm => ?_)
  have hi := hupd k i b hk
  have hh : base ≤ i ∧ i < base + hs.length := by
    have := (List.getElem?_eq_some_iff.1 hm).1
    omega
  obtain ⟨b2, m2, h1, h2, h3, h4⟩ := new i hh
  have hki : i - base = k := by omega
  rw [hki] at h2 h3
  rw [hk] at h2
  rw [hm] at h3
  cases h2
  cases h3
  exact ⟨h1, h4⟩

/-! ### Arguments -/
theorem cellsAs_rep {A : Nat → Prop} {h : Heap} {t : Ty} {x : V} {v : Value} {cs : List C} (k : VRep w A μ h x v) (hc : x.cellsAs t = some cs) : ∃ vs, CsRep w A μ h cs vs ∧ shapeV t vs v := by
  cases x with
  | c c =>
    by_cases hu : c = .undef
    · subst hu; simp [V.cellsAs] at hc
    · have hk := VRep.to_c hu k
      have : t.isAgg = false ∧ cs = [c] := by
        cases c <;> simp_all [V.cellsAs] <;> (cases ht : t.isAgg <;> simp_all)
      obtain ⟨ht, rfl⟩ := this
      exact ⟨[v], ⟨hk, trivial⟩, by simp [shapeV, ht]⟩
  | agg l =>
    simp only [V.cellsAs] at hc
    obtain ⟨ht, hc⟩ := cond_some hc
    cases hc
    obtain ⟨vs, rfl, hr⟩ := k
    exact ⟨vs.toList, hr, by simp [shapeV, ht]⟩
  | tup l => simp [V.cellsAs] at hc

theorem argsIn_rep {A A' : Nat → Prop} {h : Heap} (hA : ∀ b, A' b → A b) (hB : ∀ id blk, h id = some blk → BRep w A μ h (μ id) blk) : ∀ {ts : List Ty} {vs : List V} {x : (tupT ts).den} {ids : List Nat} {cvs : List Value},
    argsIn h ts vs = some (x, ids) → All2 (VRep w A μ h) vs cvs → (∀ id, id ∈ ids → ∀ b c, μ id = some (b, c) → ¬ A' b) → ARep w A' ts x cvs
  | [], [], x, ids, [], hi, _, _ => rfl
  | t :: ts, v :: vs, x, ids, cv :: cvs, hi, hr, hids => by
    simp only [argsIn] at hi
    split at hi
    · rename_i vc hvc
      split at hi
      · rename_i x1 l1 h1
        split at hi
        · rename_i x2 l2 h2
          simp only [Option.some.injEq, Prod.mk.injEq] at hi
          obtain ⟨rfl, rfl⟩ := hi
          rw [app_eq] at hids
          obtain ⟨us, hcs, hsh⟩ := cellsAs_rep hr.1 hvc
          exact ⟨cv, cvs, us, rfl, implode_all hA hB h1 hcs (fun id hid => hids id (List.mem_append_left _ hid)), hsh,
            argsIn_rep hA hB h2 hr.2 (fun id hid => hids id (List.mem_append_right _ hid))⟩
        · cases hi
      · cases hi
    · cases hi
  | [], _ :: _, _, _, _, hi, _, _ => by simp [argsIn] at hi
  | _ :: _, [], _, _, _, hi, _, _ => by simp [argsIn] at hi
  | [], [], _, _, _ :: _, _, hr, _ => hr.elim
  | _ :: _, _ :: _, _, _, [], _, hr, _ => hr.elim
theorem argsIn_rows {h : Heap} : ∀ {ts : List Ty} {vs : List V} {x : (tupT ts).den} {ids : List Nat}, argsIn h ts vs = some (x, ids) → ∀ id, id ∈ ids → ∃ u xs fz, h id = some (.row u xs fz)
  | [], [], x, ids, hi => by
    simp only [argsIn, Option.some.injEq, Prod.mk.injEq] at hi
    obtain ⟨_, rfl⟩ := hi
    simp
  | t :: ts, v :: vs, x, ids, hi => by
    simp only [argsIn] at hi
    split at hi
    · split at hi
      · rename_i x1 l1 h1
        split at hi
        · rename_i x2 l2 h2
          simp only [Option.some.injEq, Prod.mk.injEq] at hi
          obtain ⟨rfl, rfl⟩ := hi
          rw [app_eq]
          intro id hid
          rcases List.mem_append.1 hid with hid | hid
          · exact implode_rows h1 id hid
          · exact argsIn_rows h2 id hid
        · cases hi
      · cases hi
    · cases hi
  | [], _ :: _, _, _, hi => by simp [argsIn] at hi
  | _ :: _, [], _, _, hi => by simp [argsIn] at hi

theorem Av_lt (r : RelM W0 O μ st a w) : ∀ b, Av O μ st.heap b → b < w.heap.size := by
  rintro b (h | ⟨id, blk, c, hi, ho, hm⟩)
  · exact Nat.lt_of_lt_of_le (r.outer b h) r.le
  · have := r.blks id blk hi
    rw [hm] at this
    exact this.lt (own_ne_dead ho)

theorem call_ok {E : Env} (hE : EnvOK E) (r : RelM W0 O μ st a w) {c : Call} {f : Operand} {fid id : Nat} {lim : Option Nat} (ho : o.op = .call c) (hcal : c.callee = .value f) (hf : st.ev f = .c (.fn fid))
    (hk : opCall E id st.heap lim fid (evs st c.args.toList) mkp = some (v, u)) : OpOK E.P W0 O st a w o v u := by
  have hfv : a.eval f = .func (.func fid) #[] #[] := by
    have := r.ev f
    rw [hf] at this
    exact VRep.to_c (by simp) this
  unfold opCall at hk
  split at hk
  · rename_i s hs
    have hfn := hE fid s hs
    split at hk
    · rename_i x l hx
      have hk2 := (cond_some hk).2
      clear hk
      cases hy : s.f x with
      | none => rw [hy] at hk2; cases hk2
      | some y =>
        rw [hy] at hk2
        simp only [Option.bind_some] at hk2
        have hfree := (cond_some hk2).1
        have hk3 := (cond_some hk2).2
        clear hk2
        simp only [mkp, Option.some.injEq, Prod.mk.injEq] at hk3
        obtain ⟨rfl, rfl⟩ := hk3
        have hargs := evs_rep r c.args.toList
        have exec : (execOp a.eval o).run E.P w = .ok (.enter fid (c.args.toList.map a.eval).toArray) w := by
          have e : c.args.map a.eval = (c.args.toList.map a.eval).toArray := by apply Array.ext'; simp
          simp only [execOp, ho, resolve, hcal, hfv, Deferred.ofValue, Sem.run_bind, Sem.run_pure, Result.andThen_ok, invoke, e]
          simpa using hfn.enter (c.args.toList.map a.eval).toArray w
        have goes : ∀ {A : Nat → Prop} (hAlt : ∀ b, A b → b < w.heap.size) (har : ARep w A s.pt x (c.args.toList.map a.eval))
            (fin : ∀ w' rv, Below w.heap.size w w' → RRep w w' A s.own s.rt y rv → ∃ μ', RelM W0 O μ' { st with heap := updsH st.heap (app (bif (tupT s.rt).shallow && s.own then [] else freezes st.heap l) (VM.resVs s.own id s.rt y 0).2) } a w' ∧
              VRep w' (Av O μ' (updsH st.heap (app (bif (tupT s.rt).shallow && s.own then [] else freezes st.heap l) (VM.resVs s.own id s.rt y 0).2))) μ' (updsH st.heap (app (bif (tupT s.rt).shallow && s.own then [] else freezes st.heap l) (VM.resVs s.own id s.rt y 0).2)) (tupV (VM.resVs s.own id s.rt y 0).1) rv),
            OpOK E.P W0 O st a w o (tupV (VM.resVs s.own id s.rt y 0).1) (app (bif (tupT s.rt).shallow && s.own then [] else freezes st.heap l) (VM.resVs s.own id s.rt y 0).2) := by
          intro A hAlt har fin next Q hn
          unfold Oper.wp
          rw [exec]
          refine (hfn.calls x y hy w A _ hAlt har).mono ?_
          rintro e w' ⟨rv, rfl, hb, hrr⟩
          obtain ⟨μ', r', hv⟩ := fin w' rv hb hrr
          exact hn rv w' μ' r' hv
        cases hsh : (tupT s.rt).shallow && s.own
        · -- what is handed over is frozen
          obtain ⟨s1, r1, hnot, hav⟩ := r.fz l
          have har : ARep w (Av O μ (updsH st.heap (freezes st.heap l))) s.pt x (c.args.toList.map a.eval) :=
            argsIn_rep hav r.blks hx hargs (fun id' hid' b c' hm => hnot id' ((memN_iff _ _).2 hid') b c' hm (argsIn_rows hx id' hid'))
          have := goes (A := Av O μ (updsH st.heap (freezes st.heap l))) (Av_lt r1) har (fun w' rv hb hrr => by
            obtain ⟨vs, hs', rfl, hfr, hdi, hls⟩ := hrr
            have hfree1 : freeUpd (updsH st.heap (freezes st.heap l)) (VM.resVs s.own id s.rt y 0).2 = true := freeUpd_fz hfree
            obtain ⟨μ', r', hv⟩ := r1.results hb hfr hdi hls hfree1
            refine ⟨μ', ?_, ?_⟩
            · rw [hsh, app_eq, updsH_append]; exact r'
            · rw [hsh, app_eq, updsH_append]; exact hv)
          rw [hsh] at this
          exact this
        · -- nothing of what was handed over can be in the results
          simp only [Bool.and_eq_true] at hsh
          have har : ARep w (fun _ => False) s.pt x (c.args.toList.map a.eval) := argsIn_rep (A' := fun _ => False) (fun _ h => h.elim) r.blks hx hargs (fun _ _ _ _ _ h => h)
          have := goes (A := fun _ => False) (fun _ h => h.elim) har (fun w' rv hb hrr => by
            obtain ⟨vs, hs', rfl, hfr, hdi, hls⟩ := hrr
            rw [hsh.2] at hls
            have hls2 : LsRep w' (fun b => Av O μ st.heap b ∨ inHd hs' b) true s.rt y vs hs' := LsRep.flat hsh.1 hls
            rw [← hsh.2] at hls2
            obtain ⟨μ', r', hv⟩ := r.results hb hfr hdi hls2 hfree
            refine ⟨μ', ?_, ?_⟩
            · rw [hsh.1, hsh.2, app_eq]; rw [hsh.2] at r'; exact r'
            · rw [hsh.1, hsh.2, app_eq]; rw [hsh.2] at hv; exact hv)
          simp only [hsh.1, hsh.2, Bool.and_self, cond_true] at this ⊢
          exact this
    · cases hk
  · cases hk
where
  freeUpd_fz {h : Heap} {l : List Nat} : ∀ {m : Upd}, freeUpd h m = true → freeUpd (updsH h (freezes h l)) m = true
    | [], _ => rfl
    | (i, b) :: m, hf => by
      simp only [freeUpd, Bool.and_eq_true] at hf ⊢
      refine ⟨?_, freeUpd_fz hf.2⟩
      have h1 := hf.1
      cases hi : h i with
      | some b => rw [hi] at h1; cases h1
      | none =>
        rw [freezes_here, hi]
        cases memN i l <;> rfl
end
end Go.VM
