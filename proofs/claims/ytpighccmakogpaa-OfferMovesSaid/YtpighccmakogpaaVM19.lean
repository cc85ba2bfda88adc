/- The value machine: **a function whose code the machine runs does what the machine says.** -/
import Derived.Test.YtpighccmakogpaaVM18
namespace Go.VM
open Go.RowKit
section
variable {P : Program} {W0 : World} {O : Nat → Prop} {μ : Mu} {st : St} {a : Act} {w : World}

def isHd (μ : Mu) (is : List (Option Nat)) : List Hd := is.map fun | none => none | some i => μ i

/-- Every slice in the type has places of some size. -/
def posB : Ty → Bool
  | .sl t => !Nat.beq t.sz 0
  | .pair a b => posB a && posB b
  | _ => true

theorem ownC_app {h : Heap} : ∀ {l : List C} {c : C}, ownC h (c :: l) = true → ownC h l = true := by
  intro l c hc
  cases c with
  | ref id => simp only [ownC, Bool.and_eq_true] at hc; exact hc.2
  | val t x => cases t <;> simp [ownC] at hc <;> exact hc
  | undef => exact hc
  | nils => exact hc
  | nilp => exact hc
  | ptr i o => exact hc
  | eptr i j o => exact hc
  | fptr t x o => exact hc
  | fn f => exact hc

theorem takeVal_own {h : Heap} {t : Ty} {cs : List C} {x : t.den} {rest : List C} {ids : List Nat} {vs : List Value} (hi : takeVal t cs = some (x, rest, ids)) (ho : ownC h cs = true) : ids = [] ∧ ownC h rest = true := by
  unfold takeVal at hi
  split at hi
  · rename_i u y r
    split at hi
    · simp only [Option.some.injEq, Prod.mk.injEq] at hi
      obtain ⟨_, rfl, rfl⟩ := hi
      exact ⟨rfl, ownC_app ho⟩
    · cases hi
  · cases hi

theorem implode_own (r : RelM W0 O μ st a w) : ∀ {t : Ty} {cs : List C} {x : t.den} {rest : List C} {ids : List Nat} {vs : List Value}, posB t = true → implode st.heap t cs = some (x, rest, ids) → ownC st.heap cs = true → CsRep w (Av O μ st.heap) μ st.heap cs vs →
    ∃ v0 v1 is, vs = v0 ++ v1 ∧ is.filterMap id = ids ∧ LRep w (Av O μ st.heap) true t x v0 (isHd μ is) ∧ CsRep w (Av O μ st.heap) μ st.heap rest v1 ∧ ownC st.heap rest = true ∧ ∀ i ∈ ids, ∃ blk, st.heap i = some blk ∧ blk.own = true
  | .unit, cs, x, rest, ids, vs, hp, hi, ho, hr => by
    simp only [implode, Option.some.injEq, Prod.mk.injEq] at hi
    obtain ⟨_, rfl, rfl⟩ := hi
    exact ⟨[], vs, [], rfl, rfl, ⟨rfl, rfl⟩, hr, ho, by simp⟩
  | .pair c d, cs, x, rest, ids, vs, hp, hi, ho, hr => by
    simp only [posB, Bool.and_eq_true] at hp
    simp only [implode] at hi
    split at hi
    · rename_i x1 r1 l1 h1
      split at hi
      · rename_i x2 r2 l2 h2
        simp only [Option.some.injEq, Prod.mk.injEq] at hi
        obtain ⟨rfl, rfl, rfl⟩ := hi
        obtain ⟨v0, v1, is0, rfl, e0, hf, hr1, ho1, hw1⟩ := implode_own r hp.1 h1 ho hr
        obtain ⟨v2, v3, is1, rfl, e1, hf2, hr2, ho2, hw2⟩ := implode_own r hp.2 h2 ho1 hr1
        refine ⟨v0 ++ v2, v3, is0 ++ is1, by simp, by simp [app_eq, e0, e1], ⟨v0, v2, isHd μ is0, isHd μ is1, rfl, by simp [isHd], hf, hf2⟩, hr2, ho2, fun i hi => ?_⟩
        rw [app_eq] at hi
        rcases List.mem_append.1 hi with hi | hi
        · exact hw1 i hi
        · exact hw2 i hi
      · cases hi
    · cases hi
  | .int k, cs, x, rest, ids, vs, hp, hi, ho, hr => by
    obtain ⟨v0, v1, e, hf, hr1⟩ := takeVal_rep (A' := Av O μ st.heap) (fun _ h => h) hi hr
    obtain ⟨rfl, ho1⟩ := takeVal_own (vs := vs) hi ho
    exact ⟨v0, v1, [], e, rfl, ⟨hf, rfl⟩, hr1, ho1, by simp⟩
  | .bool, cs, x, rest, ids, vs, hp, hi, ho, hr => by
    obtain ⟨v0, v1, e, hf, hr1⟩ := takeVal_rep (A' := Av O μ st.heap) (fun _ h => h) hi hr
    obtain ⟨rfl, ho1⟩ := takeVal_own (vs := vs) hi ho
    exact ⟨v0, v1, [], e, rfl, ⟨hf, rfl⟩, hr1, ho1, by simp⟩
  | .str, cs, x, rest, ids, vs, hp, hi, ho, hr => by
    obtain ⟨v0, v1, e, hf, hr1⟩ := takeVal_rep (A' := Av O μ st.heap) (fun _ h => h) hi hr
    obtain ⟨rfl, ho1⟩ := takeVal_own (vs := vs) hi ho
    exact ⟨v0, v1, [], e, rfl, ⟨hf, rfl⟩, hr1, ho1, by simp⟩
  | .sl t, cs, x, rest, ids, vs, hp, hi, ho, hr => by
    have hz : 0 < t.sz := by
      simp only [posB, Bool.not_eq_true'] at hp
      rcases Nat.eq_zero_or_pos t.sz with h | h
      · rw [h] at hp; cases hp
      · exact h
    simp only [implode] at hi
    unfold takeSl at hi
    split at hi
    · rename_i u y r0
      split at hi
      · rename_i z hz'
        obtain ⟨e, rfl⟩ := castTo_some hz'
        subst e
        simp [ownC] at ho
      · cases hi
    · simp only [Option.some.injEq, Prod.mk.injEq] at hi
      obtain ⟨rfl, rfl, rfl⟩ := hi
      cases vs with
      | nil => exact hr.elim
      | cons v vs =>
        refine ⟨[v], vs, [none], rfl, rfl, ?_, hr.2, ownC_app ho, by simp⟩
        simp only [LRep, if_true]
        refine ⟨none, rfl, ?_, hz, trivial⟩
        rw [show v = .slice none 0 0 from hr.1]
        rfl
    · rename_i id r0
      split at hi
      · rename_i u xs fz hb
        split at hi
        · rename_i z hz'
          simp only [Option.some.injEq, Prod.mk.injEq] at hi
          obtain ⟨rfl, rfl, rfl⟩ := hi
          obtain ⟨e, rfl⟩ := castTo_some hz'
          cases e
          cases vs with
          | nil => exact hr.elim
          | cons v vs =>
            obtain ⟨blk, hb', _, hv⟩ := hr.1
            rw [hb] at hb'
            cases hb'
            have ho2 := ho
            simp only [ownC, Bool.and_eq_true] at ho2
            rw [hb] at ho2
            have hfz : fz = false := by cases fz <;> simp at ho2 ⊢
            subst hfz
            refine ⟨[v], vs, [some id], rfl, rfl, ?_, hr.2, ownC_app ho, fun i hi => ?_⟩
            · simp only [LRep, if_true]
              refine ⟨μ id, rfl, ?_, hz, ?_⟩
              · rw [hv _ xs false rfl]
              · have hbr := r.blks id _ hb
                obtain ⟨_, hbr⟩ := hbr
                cases hm : μ id with
                | none => rw [hm] at hbr; exact hbr
                | some p => rw [hm] at hbr; exact hbr.1
            · rw [List.mem_singleton.1 hi]; exact ⟨_, hb, rfl⟩
        · cases hi
      · cases hi
    · cases hi

/-- One of the results, as the machine's code takes it. -/
def oneRes (tmps : Array Value) : ResultVar → Sem Value
  | .tmp t => pure (tmps.getD t undef)
  | .cell a t => do loadVar t (← asAddr (tmps.getD a undef))

theorem loadAt_addr {t : TypeId} {xv cv : Value} (h : (Instr.loadAt t xv).run P w = .ok cv w) : ∃ ad, xv = .pointer (some ad) ∧ (loadVar t ad).run P w = .ok cv w := by
  cases xv <;> first
    | (rename_i o; cases o with
       | none => simp [Instr.loadAt, Instr.sureAddr] at h <;> cases h
       | some ad => exact ⟨ad, rfl, by simpa [Instr.loadAt, Instr.sureAddr] using h⟩)
    | (simp [Instr.loadAt, Instr.sureAddr] at h <;> cases h)

theorem resVar_rep (r : RelM W0 O μ st a w) {rv : ResultVar} {v : V} (h : resVar P st rv = some v) : ∃ cv, (oneRes a.tmps rv).run P w = .ok cv w ∧ VRep w (Av O μ st.heap) μ st.heap v cv := by
  cases rv with
  | tmp t =>
    cases h
    exact ⟨_, rfl, r.tmps t⟩
  | cell c t =>
    obtain ⟨cv, hrun, hv⟩ := opLoad_sound r.blks h (r.tmps c)
    obtain ⟨ad, he, hl⟩ := loadAt_addr hrun
    refine ⟨cv, ?_, hv⟩
    simp only [oneRes, he]
    simpa [asAddr] using hl

theorem mapM_run (f : ResultVar → Sem Value) : ∀ (l : List ResultVar) (vs : List Value), All2 (fun rv v => (f rv).run P w = .ok v w) l vs → (l.mapM f).run P w = .ok vs w
  | [], [], _ => by simp
  | x :: l, v :: vs, h => by
    have := mapM_run f l vs h.2
    simp [List.mapM_cons, h.1, this]
  | [], _ :: _, h => h.elim
  | _ :: _, [], h => h.elim

theorem takeRes_frep (r : RelM W0 O μ st a w) : ∀ {ts : List Ty} {rs : List ResultVar} {y : (tupT ts).den} {l : List Nat}, takeRes P st false ts rs = some (y, l) →
    ∃ vs, All2 (fun rv v => (oneRes a.tmps rv).run P w = .ok v w) rs vs ∧ LsRep w O false ts y vs []
  | [], [], y, l, h => ⟨[], trivial, rfl, rfl⟩
  | t :: ts, rv :: rs, y, l, h => by
    simp only [takeRes] at h
    split at h
    · rename_i v hv
      split at h
      · rename_i vc hvc
        simp only [Bool.not_false, Bool.true_or, cond_true] at h
        split at h
        · rename_i x1 l1 h1
          split at h
          · rename_i x2 l2 h2
            simp only [Option.some.injEq, Prod.mk.injEq] at h
            obtain ⟨rfl, rfl⟩ := h
            obtain ⟨cv, hrun, hr⟩ := resVar_rep r hv
            obtain ⟨us, hcs, hsh⟩ := cellsAs_rep hr hvc
            obtain ⟨vs, hall, hls⟩ := takeRes_frep r h2
            have hf := implode_all (A' := O) (fun b hb => .inl hb) r.blks h1 hcs (fun id hid b c hm hO => by
              obtain ⟨u, xs, fz, hb⟩ := implode_rows h1 id hid
              cases fz with
              | false =>
                have h1 := r.fresh id _ b c hb rfl hm
                have h2 := r.outer b hO
                omega
              | true =>
                have h3 := r.blks id _ hb
                rw [hm] at h3
                exact h3.2.2 rfl (.inl hO))
            refine ⟨cv :: vs, ⟨hrun, hall⟩, cv, vs, us, [], [], rfl, rfl, ?_, hsh, hls⟩
            exact lrep_of hf
          · cases h
        · cases h
      · cases h
    · cases h
  | [], _ :: _, y, l, h => by simp [takeRes] at h
  | _ :: _, [], y, l, h => by simp [takeRes] at h
where
  lrep_of : ∀ {t : Ty} {x : t.den} {cs : List Value}, FRep w O t x cs → LRep w O false t x cs []
    | .int _, _, _, h => ⟨h, rfl⟩
    | .bool, _, _, h => ⟨h, rfl⟩
    | .str, _, _, h => ⟨h, rfl⟩
    | .unit, _, _, h => ⟨h, rfl⟩
    | .pair a b, _, _, ⟨c0, c1, hc, h0, h1⟩ => ⟨c0, c1, [], [], hc, rfl, lrep_of h0, lrep_of h1⟩
    | .sl t, xs, cs, h => by
      simp only [LRep]
      rw [if_neg (by simp)]
      exact ⟨trivial, h⟩

theorem takeRes_own (r : RelM W0 O μ st a w) : ∀ {ts : List Ty} {rs : List ResultVar} {y : (tupT ts).den} {l : List Nat}, posB (tupT ts) = true → takeRes P st true ts rs = some (y, l) →
    ∃ vs is, All2 (fun rv v => (oneRes a.tmps rv).run P w = .ok v w) rs vs ∧ is.filterMap id = l ∧ LsRep w (Av O μ st.heap) true ts y vs (isHd μ is) ∧ ∀ i ∈ l, ∃ blk, st.heap i = some blk ∧ blk.own = true
  | [], [], y, l, _, h => by
    simp only [takeRes, Option.some.injEq, Prod.mk.injEq] at h
    obtain ⟨_, rfl⟩ := h
    exact ⟨[], [], trivial, rfl, ⟨rfl, rfl⟩, by simp⟩
  | t :: ts, rv :: rs, y, l, hp, h => by
    simp only [tupT, posB, Bool.and_eq_true] at hp
    simp only [takeRes] at h
    split at h
    · rename_i v hv
      split at h
      · rename_i vc hvc
        obtain ⟨ho, h⟩ := cond_some h
        simp only [Bool.not_true, Bool.false_or] at ho
        split at h
        · rename_i x1 l1 h1
          split at h
          · rename_i x2 l2 h2
            simp only [Option.some.injEq, Prod.mk.injEq] at h
            obtain ⟨rfl, rfl⟩ := h
            obtain ⟨cv, hrun, hr⟩ := resVar_rep r hv
            obtain ⟨us, hcs, hsh⟩ := cellsAs_rep hr hvc
            obtain ⟨vs, is, hall, he, hls, hw⟩ := takeRes_own r hp.2 h2
            obtain ⟨v0, v1, is0, rfl, he0, hl0, hr1, _, hw0⟩ := implode_own r hp.1 h1 ho hcs
            have : v1 = [] := by cases v1 with | nil => rfl | cons v r => exact hr1.elim
            subst this
            rw [List.append_nil] at hsh
            refine ⟨cv :: vs, is0 ++ is, ⟨hrun, hall⟩, by simp [app_eq, he0, he], ⟨cv, vs, v0, isHd μ is0, isHd μ is, rfl, by simp [isHd], hl0, hsh, hls⟩, fun i hi => ?_⟩
            rw [app_eq] at hi
            rcases List.mem_append.1 hi with hi | hi
            · exact hw0 i hi
            · exact hw i hi
          · cases h
        · cases h
      · cases h
    · cases h
  | [], _ :: _, y, l, _, h => by simp [takeRes] at h
  | _ :: _, [], y, l, _, h => by simp [takeRes] at h

theorem nodup_get : ∀ {is : List (Option Nat)} {i j k : Nat}, (is.filterMap id).Nodup → is[i]? = some (some k) → is[j]? = some (some k) → i = j
  | [], i, j, k, _, h, _ => by simp at h
  | none :: is, 0, j, k, _, h, _ => by simp at h
  | none :: is, i + 1, 0, k, _, _, h => by simp at h
  | none :: is, i + 1, j + 1, k, hd, h, h' => by
    exact congrArg (· + 1) (nodup_get (is := is) (i := i) (j := j) (k := k) (by simpa using hd) (by simpa using h) (by simpa using h'))
  | some x :: is, 0, 0, k, _, _, _ => rfl
  | some x :: is, 0, j + 1, k, hd, h, h' => by
    simp at h h' hd
    subst h
    exact absurd (List.mem_of_getElem? h') hd.1
  | some x :: is, i + 1, 0, k, hd, h, h' => by
    simp at h h' hd
    subst h'
    exact absurd (List.mem_of_getElem? h) hd.1
  | some x :: is, i + 1, j + 1, k, hd, h, h' => by
    simp at hd
    exact congrArg (· + 1) (nodup_get (is := is) (i := i) (j := j) (k := k) hd.2 (by simpa using h) (by simpa using h'))

theorem nodupB_nodup : ∀ {l : List Nat}, nodupB l = true → l.Nodup
  | [], _ => List.nodup_nil
  | x :: l, h => by
    simp only [nodupB, Bool.and_eq_true, Bool.not_eq_true'] at h
    refine List.nodup_cons.2 ⟨fun hx => ?_, nodupB_nodup h.2⟩
    rw [(memN_iff x l).2 hx] at h
    exact Bool.noConfusion h.1

theorem isHd_get {μ : Mu} {is : List (Option Nat)} {i : Nat} {p : Nat × Nat} (h : (isHd μ is)[i]? = some (some p)) : ∃ k, is[i]? = some (some k) ∧ μ k = some p := by
  unfold isHd at h
  rw [List.getElem?_map] at h
  cases hi : is[i]? with
  | none => rw [hi] at h; cases h
  | some o =>
    rw [hi] at h
    cases o with
    | none => simp at h
    | some k => exact ⟨k, rfl, by simpa using h⟩

theorem ret_ok {fn : Func} {own : Bool} {rt : List Ty} {y : (tupT rt).den} {e : Ex} (hp : posB (tupT rt) = true) (h : Rel W0 O st a w) (hk : retK P fn own rt e st = some y) :
    (e = .normal ∨ e = .ret) ∧ a.defers = [] ∧ ∃ v, (results fn a.tmps).run P w = .ok v w ∧ Below W0.heap.size W0 w ∧ RRep W0 w O own rt y v := by
  obtain ⟨μ, r⟩ := h
  have he : e = .normal ∨ e = .ret := by cases e <;> simp_all [retK]
  refine ⟨he, r.defers, ?_⟩
  have hk : (match takeRes P st own rt fn.results.toList with
    | some (y, l) => bif !own || nodupB l then some y else none
    | none => none) = some y := by rcases he with rfl | rfl <;> exact hk
  split at hk
  · rename_i y' l ht
    obtain ⟨hn, hk⟩ := cond_some hk
    cases hk
    have fin : ∀ vs, All2 (fun rv v => (oneRes a.tmps rv).run P w = .ok v w) fn.results.toList vs → (results fn a.tmps).run P w = .ok (tupVal vs) w := by
      intro vs hall
      have hm := mapM_run (P := P) (oneRes a.tmps) _ _ hall
      have h1 : (fn.results.mapM (oneRes a.tmps)).run P w = .ok vs.toArray w := by
        have e : fn.results = fn.results.toList.toArray := by simp
        rw [e, List.mapM_toArray]
        simp [hm]
      show ((do
        let vs ← fn.results.mapM (oneRes a.tmps)
        pure (if h : vs.size = 1 then vs[0] else .tuple vs) : Sem Value)).run P w = _
      simp only [Sem.run_bind, h1, Result.andThen_ok, Sem.run_pure]
      congr 1
      match vs with
      | [] => rfl
      | [v] => rfl
      | v :: v' :: r => rw [dif_neg (by simp)]; rfl
    cases own with
    | false =>
      obtain ⟨vs, hall, hls⟩ := takeRes_frep r ht
      exact ⟨_, fin vs hall, r.below, vs, [], rfl, by simp, by simp, hls.mono (A' := fun b => O b ∨ inHd [] b) (by rintro b (h | ⟨c, hc⟩) <;> simp_all)⟩
    | true =>
      obtain ⟨vs, is, hall, he', hls, hw⟩ := takeRes_own r hp ht
      have own_of : ∀ (i b c : Nat), (isHd μ is)[i]? = some (some (b, c)) → ∃ (k : Nat) (blk : Blk), is[i]? = some (some k) ∧ μ k = some (b, c) ∧ st.heap k = some blk ∧ blk.own = true := by
        intro i b c hi
        obtain ⟨k, hk1, hk2⟩ := isHd_get hi
        obtain ⟨blk, hb, ho⟩ := hw k (by rw [← he']; exact List.mem_filterMap.2 ⟨some k, List.mem_of_getElem? hk1, rfl⟩)
        exact ⟨k, blk, hk1, hk2, hb, ho⟩
      refine ⟨_, fin vs hall, r.below, vs, isHd μ is, rfl, fun b c hm => ?_, fun i j b c c' hi hj => ?_, hls.mono ?_⟩
      · obtain ⟨i, hi⟩ := List.getElem?_of_mem hm
        obtain ⟨k, blk, _, hk2, hb, ho⟩ := own_of i b c hi
        exact r.fresh k blk b c hb ho hk2
      · obtain ⟨k, blk, hk1, hk2, hb, ho⟩ := own_of i b c hi
        obtain ⟨k', blk', hk1', hk2', hb', ho'⟩ := own_of j b c' hj
        have := r.inj k k' blk blk' b c c' hb hb' ho ho' hk2 hk2'
        subst this
        exact nodup_get (by rw [he']; exact nodupB_nodup (by simpa using hn)) hk1 hk1'
      · rintro b (hO | ⟨c, hc⟩)
        · exact .inl hO
        · obtain ⟨i, hi⟩ := List.getElem?_of_mem hc
          obtain ⟨k, blk, _, hk2, hb, ho⟩ := own_of i b c hi
          exact .inr ⟨k, blk, c, hb, ho, hk2⟩
  · cases hk

/-! ### The start -/
theorem initT_get {A : Nat → Prop} : ∀ {ts : List Ty} {x : (tupT ts).den} {vs : List Value} {i t : Nat} {pre rest : List Value}, ARep w A ts x vs → pre.length = i → VRep w A μ (fun _ => none) (initT ts x i t) ((pre ++ vs ++ rest).getD t undef)
  | [], x, vs, i, t, pre, rest, h, hi => trivial
  | ty :: ts, x, vs, i, t, pre, rest, h, hi => by
    obtain ⟨v, vs', cs, rfl, hf, hs, hr⟩ := h
    by_cases ht : t = i
    · subst ht
      simp only [initT, updT_same]
      have : (pre ++ v :: vs' ++ rest).getD t undef = v := by
        subst hi
        simp [List.getD]
      rw [this]
      exact valV_rep hf hs
    · simp only [initT]
      rw [updT_ne _ _ ht]
      have := initT_get (i := i + 1) (t := t) (pre := pre ++ [v]) (rest := rest) hr (by simp [hi])
      simpa using this

theorem ARep.length {A : Nat → Prop} : ∀ {ts : List Ty} {x : (tupT ts).den} {vs : List Value}, ARep w A ts x vs → vs.length = ts.length
  | [], x, vs, h => by rw [show vs = [] from h]; rfl
  | t :: ts, x, vs, h => by
    obtain ⟨v, vs', cs, rfl, _, _, hr⟩ := h
    simp [ARep.length hr]

theorem init_rel {n : Nat} {pt : List Ty} {x : (tupT pt).den} {args : List Value} (h : ARep w O pt x args) (hO : ∀ b, O b → b < w.heap.size) (hn : Nat.ble (len' pt) n = true) :
    Rel w O (init n pt x) { tmps := args.toArray ++ Array.replicate (n - args.toArray.size) undef, defers := [] } w := by
  have hav : ∀ b, Av O (fun _ => none) (fun _ => none) b ↔ O b := by
    intro b
    constructor
    · rintro (h | ⟨id, blk, c, h, _⟩)
      · exact h
      · cases h
    · exact .inl
  have hav2 : Av O (fun _ => none) (fun _ => none) = O := funext fun b => propext (hav b)
  have hl := h.length
  rw [len_eq] at hn
  have hn := Nat.le_of_ble_eq_true hn
  refine ⟨fun _ => none, ⟨fun t => ?_, fun id blk h => (by cases h), fun id id' blk blk' b c c' h => (by cases h), fun id blk b c h => (by cases h), Below.refl _ _, hO, ?_, rfl⟩⟩
  · show VRep w (Av O (fun _ => none) (fun _ => none)) _ (fun _ => none) (initT pt x 0 t) _
    rw [hav2]
    have := initT_get (w := w) (μ := fun _ => none) (i := 0) (t := t) (pre := []) (rest := List.replicate (n - args.length) undef) h rfl
    have e : (args.toArray ++ Array.replicate (n - args.toArray.size) undef).getD t undef = ([] ++ args ++ List.replicate (n - args.length) undef).getD t undef := by
      rw [Array.getD_eq_getD_getElem?, List.getD_eq_getElem?_getD]
      congr 1
      rw [← Array.getElem?_toList]
      simp
    show VRep w O _ _ _ ((args.toArray ++ Array.replicate (n - args.toArray.size) undef).getD t undef)
    rw [e]
    exact this
  · show (args.toArray ++ Array.replicate (n - args.toArray.size) undef).size = n
    simp
    omega

/-- **The function's oracle is true**, where it says what the machine says. -/
theorem fn_ok {E : Env} (hE : EnvOK E) (hm : E.P.follows .mixedOrders = true) {f : Nat} {fn : Func} {c : Code} {s : Sig} (hf : E.P.funcs[f]? = some fn) (hb : fn.body = some c)
    (henter : ∀ (args : Array Value) (w : World), (callFunc f args).run E.P w = .ok (.enter f args) w) (hp : posB (tupT s.rt) = true) (hn : Nat.ble (len' s.pt) fn.ntmps = true)
    (hl : LoopsOK E fn.ntmps c) (hr : ∀ x y, s.f x = some y → runF E fn s.pt s.rt s.own x = some y) : FnOK E.P f s := by
  refine ⟨henter, fun x y hy w A args hA har => ?_⟩
  have hrun := hr x y hy
  unfold runF at hrun
  rw [hb] at hrun
  simp only at hrun
  refine calls_of_wp hf hb ?_
  have h0 := init_rel har hA hn
  refine exec_ok hE hm c hl (retK E.P fn s.own s.rt) y _ (fun e st' a' w' hrel _ hk => ?_) _ _ _ h0 rfl hrun
  obtain ⟨he, hd, v, hv, hbl, hrr⟩ := ret_ok hp hrel hk
  rcases he with rfl | rfl
  · exact ⟨hd, v, hv, v, rfl, hbl, hrr⟩
  · exact ⟨hd, v, hv, v, rfl, hbl, hrr⟩
end
end Go.VM
