import Derived.Test.YticbohfmkiafiaaVM20
namespace Go.VM
noncomputable def tnil {α : Type} : Nat → Option α := fun _ => none
noncomputable def tcons {α : Type} (a : Nat) (s : α) (r : Nat → Option α) : Nat → Option α := fun f => bif Nat.beq f a then some s else r f
noncomputable def unil : Nat → Nat := fun _ => 0
noncomputable def ucons (a n : Nat) (r : Nat → Nat) : Nat → Nat := fun f => bif Nat.beq f a then n else r f
noncomputable def loopsIn : Code → List Code
  | .seq a b => app (loopsIn a) (loopsIn b)
  | .cond _ a b => app (loopsIn a) (loopsIn b)
  | .block _ c => loopsIn c
  | .loop c => c :: loopsIn c
  | _ => []
noncomputable def nthC : Nat → List Code → Code
  | _, [] => .skip
  | 0, c :: _ => c
  | n + 1, _ :: l => nthC n l
noncomputable def LoopOK (E : Env) (n : Fr) (c : Code) : Prop :=
  ∀ ls, E.L (exec.key c) = some ls → (∀ x, ls.F 0 x = none) ∧ ∀ k x, ls.F (k + 1) x = exec E c (loopK ls (ls.F k)) (enc n ls.inL x)
theorem loop_ok {E : Env} {n : Fr} {c : Code} {ls : LoopSig} (h : E.L (exec.key c) = some ls) (h0 : ∀ x, ls.F 0 x = none) (h1 : ∀ k x, ls.F (k + 1) x = exec E c (loopK ls (ls.F k)) (enc n ls.inL x)) : LoopOK E n c := by
  intro ls' h'
  rw [h] at h'
  cases h'
  exact ⟨h0, h1⟩
theorem loop_none {E : Env} {n : Fr} {c : Code} (h : E.L (exec.key c) = none) : LoopOK E n c := by
  intro ls' h'
  rw [h] at h'
  cases h'
noncomputable def seqsIn : Code → List Code
  | .seq a b => app (seqsIn a) (b :: seqsIn b)
  | .cond _ a b => app (seqsIn a) (seqsIn b)
  | .block _ c => seqsIn c
  | .loop c => seqsIn c
  | _ => []
noncomputable def CutOK (E : Env) (n : Fr) (c : Code) : Prop :=
  ∀ ls, E.J (exec.key c) = some ls → ∀ x, ls.F E.k x = exec E c (inj ls.exits) (enc n ls.inL x)
noncomputable def jFree (J : Nat → Option LoopSig) : List Code → Nat → List Nat → Bool
  | [], _, _ => true
  | c :: l, i, sk => (memN i sk || (J (exec.key c)).isNone) && jFree J l (i + 1) sk
noncomputable def allSk (E : Env) (n : Fr) (l : List Code) : List Nat → Prop
  | [] => True
  | i :: r => CutOK E n (nthC i l) ∧ allSk E n l r
theorem allSk_mem {E : Env} {n : Fr} {l : List Code} : ∀ {sk : List Nat} {i : Nat}, allSk E n l sk → i ∈ sk → CutOK E n (nthC i l)
  | j :: sk, i, h, hi => by
    rcases List.mem_cons.1 hi with rfl | hi
    · exact h.1
    · exact allSk_mem h.2 hi
theorem nthC_app : ∀ (p l : List Code) (i : Nat), nthC (p.length + i) (p ++ l) = nthC i l
  | [], l, i => by simp
  | c :: p, l, i => by
    rw [show (c :: p).length + i = (p.length + i) + 1 by simp; omega]
    exact nthC_app p l i
theorem cuts_go {E : Env} {n : Fr} {sk : List Nat} : ∀ (l p : List Code), jFree E.J l p.length sk = true → allSk E n (p ++ l) sk → ∀ b ∈ l, CutOK E n b
  | [], _, _, _, b, hb => by cases hb
  | c :: l, p, h, hk, b, hb => by
    simp only [jFree, Bool.and_eq_true, Bool.or_eq_true] at h
    rcases List.mem_cons.1 hb with rfl | hb
    · rcases h.1 with h1 | h1
      · have := allSk_mem hk ((memN_iff _ _).1 h1)
        have e := nthC_app p (b :: l) 0
        rw [Nat.add_zero] at e
        rw [e] at this
        exact this
      · intro ls hls
        rw [hls] at h1
        cases h1
    · refine cuts_go (sk := sk) l (p ++ [c]) ?_ ?_ b hb
      · simpa using h.2
      · simpa using hk
theorem cuts_of {E : Env} {n : Fr} {sk : List Nat} {l : List Code} (h : jFree E.J l 0 sk = true) (hk : allSk E n l sk) : ∀ b ∈ l, CutOK E n b := cuts_go l [] h hk
theorem loops_all {E : Env} {n : Fr} : ∀ {c : Code}, (∀ b ∈ loopsIn c, LoopOK E n b) → (∀ b ∈ seqsIn c, CutOK E n b) → LoopsOK E n c := by
  intro c
  induction c with
  | seq a b iha ihb =>
    intro h hc
    simp only [loopsIn, app_eq] at h
    simp only [seqsIn, app_eq] at hc
    exact ⟨iha (fun b hb => h b (List.mem_append_left _ hb)) (fun b hb => hc b (List.mem_append_left _ hb)), ihb (fun b hb => h b (List.mem_append_right _ hb)) (fun b hb => hc b (List.mem_append_right _ (List.mem_cons_of_mem _ hb))),
      hc b (List.mem_append_right _ (by simp))⟩
  | cond x a b iha ihb =>
    intro h hc
    simp only [loopsIn, app_eq] at h
    simp only [seqsIn, app_eq] at hc
    exact ⟨iha (fun b hb => h b (List.mem_append_left _ hb)) (fun b hb => hc b (List.mem_append_left _ hb)), ihb (fun b hb => h b (List.mem_append_right _ hb)) (fun b hb => hc b (List.mem_append_right _ hb))⟩
  | block i c ih => intro h hc; exact ih h hc
  | loop c ih =>
    intro h hc
    exact ⟨ih (fun b hb => h b (List.mem_cons_of_mem _ hb)) hc, h c (by simp [loopsIn])⟩
  | _ => intro _ _; trivial
noncomputable def allL (E : Env) (n : Fr) (l : List Code) : Nat → Prop
  | 0 => True
  | m + 1 => allL E n l m ∧ LoopOK E n (nthC m l)
theorem nthC_mem : ∀ {l : List Code} {b : Code}, b ∈ l → ∃ i, i < l.length ∧ nthC i l = b
  | [], _, h => by cases h
  | c :: l, b, h => by
    rcases List.mem_cons.1 h with rfl | h
    · exact ⟨0, by simp, rfl⟩
    · obtain ⟨i, hi, e⟩ := nthC_mem h
      exact ⟨i + 1, by simpa using hi, e⟩
theorem loops_of {E : Env} {n : Fr} {m : Nat} {l : List Code} (h : len' l = m) (k : allL E n l m) : ∀ b ∈ l, LoopOK E n b := by
  intro b hb
  obtain ⟨i, hi, rfl⟩ := nthC_mem hb
  rw [len_eq] at h
  have key : ∀ m, allL E n l m → ∀ i, i < m → LoopOK E n (nthC i l) := by
    intro m
    induction m with
    | zero => intro _ i hi; omega
    | succ m ih =>
      intro h i hi
      rcases Nat.lt_or_ge i m with h' | h'
      · exact ih h.1 i h'
      · have : i = m := by omega
        subst this; exact h.2
  exact key m k i (by omega)
noncomputable def snil : Nat → List Sig := fun _ => []
noncomputable def scons (a : Nat) (s : List Sig) (r : Nat → List Sig) : Nat → List Sig := fun f => bif Nat.beq f a then s else r f
theorem env_nil [Dr] {P : Program} {G : GTab} : ∀ (f : Nat) (s : Sig), s ∈ snil f → FnOK P G f s := fun _ _ h => by cases h
theorem env_cons [Dr] {P : Program} {G : GTab} {a : Nat} {s : List Sig} {r : Nat → List Sig} (h : ∀ x ∈ s, FnOK P G a x) (k : ∀ f s', s' ∈ r f → FnOK P G f s') : ∀ f s', s' ∈ scons a s r f → FnOK P G f s' := by
  intro f s' hs
  unfold scons at hs
  cases hb : Nat.beq f a
  · rw [hb] at hs; exact k f s' hs
  · rw [hb] at hs
    obtain rfl := Nat.eq_of_beq_eq_true hb
    exact h s' hs
theorem one_sig [Dr] {P : Program} {G : GTab} {f : Nat} {s : Sig} (h : FnOK P G f s) : ∀ x ∈ [s], FnOK P G f x := fun x hx => by rw [List.mem_singleton.1 hx]; exact h
noncomputable def qnil : Nat → Option QFun := fun _ => none
noncomputable def qcons (a : Nat) (q : QFun) (r : Nat → Option QFun) : Nat → Option QFun := fun f => bif Nat.beq f a then some q else r f
theorem qenv_nil [Dr] {P : Program} {G : GTab} : ∀ (f : Nat) (q : QFun), qnil f = some q → QOK P G f q := fun _ _ h => by cases h
theorem qenv_cons [Dr] {P : Program} {G : GTab} {a : Nat} {q : QFun} {r : Nat → Option QFun} (h : QOK P G a q) (k : ∀ f q', r f = some q' → QOK P G f q') : ∀ f q', qcons a q r f = some q' → QOK P G f q' := by
  intro f q' hs
  unfold qcons at hs
  cases hb : Nat.beq f a
  · rw [hb] at hs; exact k f q' hs
  · rw [hb] at hs
    obtain rfl := Nat.eq_of_beq_eq_true hb
    cases hs
    exact h
theorem fn_none [Dr] {P : Program} {G : GTab} {f : Nat} {s : Sig} (henter : ∀ (args : Array Value) (w : World), (callFunc f args).run P w = .ok (.enter f args) w) (hF : ∀ x, s.F x = none) : FnOK P G f s :=
  ⟨henter, fun x y h => by rw [hF x] at h; cases h⟩
theorem fn_ok2 [Dr] {E : Env} (hE : ∀ f s, s ∈ E.C f → FnOK E.P E.G f s) (hQ : ∀ f q, E.Q f = some q → QOK E.P E.G f q) (hm : E.P.follows .mixedOrders = true) {f : Nat} {fn : Func} {s : Sig} (hf : E.P.funcs[f]? = some fn)
    (henter : ∀ (args : Array Value) (w : World), (callFunc f args).run E.P w = .ok (.enter f args) w) (hb : fn.body.isSome = true) (hn : Nat.ble (len' s.ins) fn.ntmps = true)
    {m : Nat} (hlen : len' (loopsIn (fn.body.getD .skip)) = m) (hl : allL E ⟨fn.ntmps, s.lent, E.G⟩ (loopsIn (fn.body.getD .skip)) m)
    {sk : List Nat} (hj : jFree E.J (seqsIn (fn.body.getD .skip)) 0 sk = true) (hs : allSk E ⟨fn.ntmps, s.lent, E.G⟩ (seqsIn (fn.body.getD .skip)) sk) (hr : ∀ x, runF E fn s x = s.F x) : FnOK E.P E.G f s := by
  cases hbo : fn.body with
  | none => rw [hbo] at hb; cases hb
  | some c =>
    rw [hbo] at hlen hl hj hs
    exact fn_ok ⟨hE, hQ⟩ hm hf hbo henter hn (loops_all (loops_of hlen hl) (cuts_of hj hs)) fun x y h => (hr x).trans h
end Go.VM
namespace Go.VM
theorem law_row [Dr] {H : Type} {enc : TypeId × Value → H} {C : Checked} {os : Os} {f : FuncId} {fn : Func} {s : ChangeSpec} {conds : List PathCond} {us : List Ty} {F : (lTy (lay 0 (valKs us))).den → Option (SumL [[.val .bool]])} {b : TypeId}
    (hknob : ownKnob C.prog.godebug = none) (started : os.Started) (noInit : C.prog.inits.idxOf? f = none) (hfn : C.prog.funcs[f]? = some fn)
    (witness : ∃ (w : World) (tape : Tape) (i : Input), w.os = os ∧ (w.forCall tape i).Shaped C.prog ∧ i.vars = [] ∧ Input.okWide C.prog (w.forCall tape i) .any w.heap.size f i ∧
      s.pre6 enc C.prog fn conds false (w.forCall tape i).memory i.args ∧ ({} : Assume).holds C.prog (lone (Frame.enter C.prog f i.args .normal) [] (w.forCall tape i)))
    (hvars : s.vars = []) (hres : fn.resultTypes = #[b]) (hb : C.prog.underlying b = some .bool) (hus : openTs C.prog fn.params.toList = some us) (hlaid : laidOutB C.prog = true)
    (hread : (fn.params.toList.all fun t => C.prog.readableRec t && Nat.blt t C.prog.types.size) = true)
    (n : Nat) (hn : len' fn.params.toList = n) (hspec : ∀ ds : List (DataW H), ds.length = n → s.fn H ds = { results := [.lit (.bool true)], args := ds })
    (hF : FnOK C.prog [] f ⟨valKs us, [], [[.val .bool]], F⟩) (hpure : ∀ x, WfDs us 0 x → F x = some (true, ())) :
    ReturnsInHanded {} C os f .any (s.pre6 enc C.prog fn conds false) (s.post enc C.prog fn false true false false) := by
  refine law_returns hknob started noInit hfn witness hvars hres hb hus hlaid (fun t ht => ?_) (fun ds hl => hspec ds ?_) hF hpure
  · have := List.all_eq_true.1 hread t ht
    rw [Bool.and_eq_true] at this
    exact ⟨this.1, Nat.le_of_ble_eq_true this.2⟩
  · rw [hl, ← len_eq, hn]
end Go.VM
