/- The value machine: tables, for printed texts. -/
import Derived.Test.YtpighccmakogpaaVM20
namespace Go.VM

def tnil {α : Type} : Nat → Option α := fun _ => none
def tcons {α : Type} (a : Nat) (s : α) (r : Nat → Option α) : Nat → Option α := fun f => bif Nat.beq f a then some s else r f

def loopsIn : Code → List Code
  | .seq a b => app (loopsIn a) (loopsIn b)
  | .cond _ a b => app (loopsIn a) (loopsIn b)
  | .block _ c => loopsIn c
  | .loop c => c :: loopsIn c
  | _ => []
def nthC : Nat → List Code → Code
  | _, [] => .skip
  | 0, c :: _ => c
  | n + 1, _ :: l => nthC n l

def LoopOK (E : Env) (n : Nat) (c : Code) : Prop :=
  ∀ ls, E.L (exec.key c) = some ls → (∀ x, ls.F 0 x = none) ∧ ∀ k x, ls.F (k + 1) x = exec E c (loopK ls (ls.F k)) (enc n ls.inL x)

theorem loop_ok {E : Env} {n : Nat} {c : Code} {ls : LoopSig} (h : E.L (exec.key c) = some ls) (h0 : ∀ x, ls.F 0 x = none) (h1 : ∀ k x, ls.F (k + 1) x = exec E c (loopK ls (ls.F k)) (enc n ls.inL x)) : LoopOK E n c := by
  intro ls' h'
  rw [h] at h'
  cases h'
  exact ⟨h0, h1⟩

theorem loops_all {E : Env} {n : Nat} : ∀ {c : Code}, (∀ b ∈ loopsIn c, LoopOK E n b) → LoopsOK E n c := by
  intro c
  induction c with
  | seq a b iha ihb =>
    intro h
    simp only [loopsIn, app_eq] at h
    exact ⟨iha fun b hb => h b (List.mem_append_left _ hb), ihb fun b hb => h b (List.mem_append_right _ hb)⟩
  | cond x a b iha ihb =>
    intro h
    simp only [loopsIn, app_eq] at h
    exact ⟨iha fun b hb => h b (List.mem_append_left _ hb), ihb fun b hb => h b (List.mem_append_right _ hb)⟩
  | block i c ih => intro h; exact ih h
  | loop c ih =>
    intro h
    exact ⟨ih fun b hb => h b (List.mem_cons_of_mem _ hb), h c (by simp [loopsIn])⟩
  | _ => intro _; trivial

def allL (E : Env) (n : Nat) (l : List Code) : Nat → Prop
  | 0 => True
  | m + 1 => allL E n l m ∧ LoopOK E n (nthC m l)
theorem nthC_mem : ∀ {l : List Code} {b : Code}, b ∈ l → ∃ i, i < l.length ∧ nthC i l = b
  | [], _, h => by cases h
  | c :: l, b, h => by
    rcases List.mem_cons.1 h with rfl | h
    · exact ⟨0, by simp, rfl⟩
    · obtain ⟨i, hi, e⟩ := nthC_mem h
      exact ⟨i + 1, by simpa using hi, e⟩
theorem loops_of {E : Env} {n m : Nat} {l : List Code} (h : len' l = m) (k : allL E n l m) : ∀ b ∈ l, LoopOK E n b := by
  intro b hb
  obtain ⟨i, hi, rfl⟩ := nthC_mem hb
  rw [len_eq] at h
  have key : ∀ m, allL E n l m → ∀ i, i < m → LoopOK E n (nthC i l) := by
    intro m
    induction m with
    | zero => intro _ i hi; omega
    | succ m ih =>
      intro h i hi
      rcases Nat.lt_or_ge i m with h' | h'
      · exact ih h.1 i h'
      · have : i = m := by omega
        subst this; exact h.2
  exact key m k i (by omega)

theorem env_nil {P : Program} : ∀ (f : Nat) (s : Sig), (tnil : Nat → Option Sig) f = some s → FnOK P f s := fun _ _ h => by cases h
theorem env_cons {P : Program} {a : Nat} {s : Sig} {r : Nat → Option Sig} (h : FnOK P a s) (k : ∀ f s', r f = some s' → FnOK P f s') : ∀ f s', tcons a s r f = some s' → FnOK P f s' := by
  intro f s' hs
  unfold tcons at hs
  cases hb : Nat.beq f a
  · rw [hb] at hs; exact k f s' hs
  · rw [hb] at hs
    cases hs
    obtain rfl := Nat.eq_of_beq_eq_true hb
    exact h

/-- A function, with what is printed of it. -/
theorem fn_ok2 {E : Env} (hE : ∀ f s, E.C f = some s → FnOK E.P f s) (hm : E.P.follows .mixedOrders = true) {f : Nat} {fn : Func} {s : Sig} (hf : E.P.funcs[f]? = some fn)
    (henter : ∀ (args : Array Value) (w : World), (callFunc f args).run E.P w = .ok (.enter f args) w) (hb : fn.body.isSome = true) (hp : posB (tupT s.rt) = true) (hn : Nat.ble (len' s.pt) fn.ntmps = true)
    {m : Nat} (hlen : len' (loopsIn (fn.body.getD .skip)) = m) (hl : allL E fn.ntmps (loopsIn (fn.body.getD .skip)) m) (hr : ∀ x, runF E fn s.pt s.rt s.own x = s.f x) : FnOK E.P f s := by
  cases hbo : fn.body with
  | none => rw [hbo] at hb; cases hb
  | some c =>
    rw [hbo] at hlen hl
    exact fn_ok hE hm hf hbo henter hp hn (loops_all (loops_of hlen hl)) fun x y h => (hr x).trans h
end Go.VM

namespace Go.VM
/-- The row of a law, out of Bool facts. -/
theorem law_row {H : Type} {enc : TypeId × Value → H} {C : Checked} {os : Os} {f : FuncId} {fn : Func} {s : ChangeSpec} {conds : List PathCond} {us : List Ty} {own : Bool} {F : (tupT us).den → Option (tupT [.bool]).den} {b : TypeId}
    (hknob : ownKnob C.prog.godebug = none) (started : os.Started) (noInit : C.prog.inits.idxOf? f = none) (hfn : C.prog.funcs[f]? = some fn)
    (witness : ∃ (w : World) (tape : Tape) (i : Input), w.os = os ∧ (w.forCall tape i).Shaped C.prog ∧ i.vars = [] ∧ Input.okWide C.prog (w.forCall tape i) .any w.heap.size f i ∧
      s.pre6 enc C.prog fn conds false (w.forCall tape i).memory i.args ∧ ({} : Assume).holds C.prog (lone (Frame.enter C.prog f i.args .normal) [] (w.forCall tape i)))
    (hvars : s.vars = []) (hres : fn.resultTypes = #[b]) (hb : C.prog.underlying b = some .bool) (hus : openTs C.prog fn.params.toList = some us) (hlaid : laidOutB C.prog = true)
    (hread : (fn.params.toList.all fun t => C.prog.readableRec t && Nat.blt t C.prog.types.size) = true)
    (n : Nat) (hn : len' fn.params.toList = n) (hspec : ∀ ds : List (DataW H), ds.length = n → s.fn H ds = { results := [.lit (.bool true)], args := ds })
    (hF : FnOK C.prog f ⟨us, [.bool], own, F⟩) (hpure : ∀ x, WfDs us x → F x = some (true, ())) :
    ReturnsInHanded {} C os f .any (s.pre6 enc C.prog fn conds false) (s.post enc C.prog fn false true false false) := by
  refine law_returns hknob started noInit hfn witness hvars hres hb hus hlaid (fun t ht => ?_) (fun ds hl => hspec ds ?_) hF hpure
  · have := List.all_eq_true.1 hread t ht
    rw [Bool.and_eq_true] at this
    exact ⟨this.1, Nat.le_of_ble_eq_true this.2⟩
  · rw [hl, ← len_eq, hn]
end Go.VM
