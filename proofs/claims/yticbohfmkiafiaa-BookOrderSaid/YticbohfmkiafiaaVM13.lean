import Derived.Test.YticbohfmkiafiaaVM12
namespace Go.VM
open Go.RowKit
abbrev Hd := Option (Nat × Nat)
noncomputable def inHd (hs : List Hd) (b : Nat) : Prop := ∃ c, some (b, c) ∈ hs
noncomputable def DistH (hs : List Hd) : Prop := ∀ (i j b c c' : Nat), hs[i]? = some (some (b, c)) → hs[j]? = some (some (b, c')) → i = j
section
variable (h : Heap) (ow : List Nat) (self : Option Nat) (cs : List C)
theorem decK_val (t : Ty) : decK h ow self (.val t) cs = (match implode h t cs with | some (x, [], ids) => bif disjB ids ow then some x else none | _ => none) := rfl
theorem decK_row (t : Ty) : decK h ow self (.row t) cs = (match cs with | [c] => decRow h t c | _ => none) := rfl
theorem decK_skip : decK h ow self .skip cs = (match cs with | [_] => some () | _ => none) := rfl
theorem decK_nilp : decK h ow self .nilp cs = (match cs with | [.nilp] => some () | _ => none) := rfl
theorem decK_slf : decK h ow self .slf cs = (match cs with
    | [.nilp] => some ()
    | [.ptr id off] => bif Nat.beq off 0 && selfB self id then some () else none
    | [.slf id] => bif selfB self id then some () else none
    | _ => none) := rfl
theorem decK_fn (f : Nat) : decK h ow self (.fn f) cs = (match cs with | [.fn g] => bif Nat.beq f g then some () else none | _ => none) := rfl
theorem Addr_add_zero (a : Addr) : a.add 0 = a := by
  obtain ⟨b, o, p⟩ := a
  unfold Addr.add
  cases p <;> rfl
theorem decK_view (t : Ty) : decK h ow self (.view t) cs = (match cs with | [c] => decView t c | _ => none) := rfl
theorem decK_box (e : TypeId) (k : CK) : decK h ow self (.box e k) cs = (match cs with
    | [.ptr id off] => bif Nat.beq off 0 then (match h id with | some (.box e' ds) => bif Nat.beq e e' then decK h ow (some id) k ds else none | _ => none) else none
    | _ => none) := rfl
theorem decK_clo (g : Nat) (k : CK) : decK h ow self (.clo g k) cs = (match cs with
    | [.clo g' ids] => bif Nat.beq g g' && boxesB k then decK h ow none k (ptrs ids) else none
    | _ => none) := rfl
theorem decK_nil : decK h ow self .nil cs = (match cs with | [] => some () | _ => none) := rfl
theorem decK_cons (k ks : CK) : decK h ow self (.cons k ks) cs = (match decK h ow self k (first k.sz cs) with
    | some x => match decK h ow self ks (cut k.sz cs) with
      | some y => some (x, y)
      | none => none
    | none => none) := rfl
theorem takesK_val (t : Ty) : takesK h (.val t) cs = (match implode h t cs with | some (_, _, ids) => ids | none => []) := rfl
theorem takesK_box (e : TypeId) (k : CK) (id off : Nat) : takesK h (.box e k) [.ptr id off] = (match h id with | some (.box _ ds) => takesK h k ds | _ => []) := rfl
theorem takesK_cons (k ks : CK) : takesK h (.cons k ks) cs = app (takesK h k (first k.sz cs)) (takesK h ks (cut k.sz cs)) := rfl
theorem ownsK_box (e : TypeId) (k : CK) (id off : Nat) : ownsK h (.box e k) [.ptr id off] = some id :: (match h id with | some (.box _ ds) => ownsK h k ds | _ => []) := rfl
theorem ownsK_cons (k ks : CK) : ownsK h (.cons k ks) cs = app (ownsK h k (first k.sz cs)) (ownsK h ks (cut k.sz cs)) := rfl
end
section
variable (g : Nat → Nat) (self : Option Nat) (i : Nat)
theorem encK_cons (k ks : CK) (x : (CK.cons k ks).ty.den) : encK g self i (.cons k ks) x = (app (encK g self i k x.1).1 (encK g self (i + k.wd) ks x.2).1, app (encK g self i k x.1).2 (encK g self (i + k.wd) ks x.2).2) := rfl
end
noncomputable def ORep (w : World) (A : Nat → Prop) : Option Nat → (k : CK) → k.ty.den → List Value → List Hd → Prop
  | _, .val t, x, cs, hs => hs = [] ∧ FRep w A t x cs
  | _, .row t, xs, cs, hs => ∃ (m : Hd) (v : Value), hs = [m] ∧ cs = [v] ∧ HdV m (List.length (α := t.den) xs) v ∧ 0 < t.sz ∧ (match m with | none => (xs : List t.den) = [] | some (b, c) => RowAt w A t xs false b c)
  | _, .skip, _, cs, hs => hs = [] ∧ ∃ v, cs = [v] ∧ v.oneCell' = true
  | _, .nilp, _, cs, hs => hs = [] ∧ cs = [.pointer none]
  | sb, .slf, _, cs, hs => hs = [] ∧ (cs = [.pointer none] ∨ ∃ b, sb = some b ∧ cs = [.pointer (some ⟨b, 0, none⟩)])
  | _, .fn f, _, cs, hs => hs = [] ∧ cs = [.func (.func f) #[] #[]]
  | _, .view t, x, cs, hs => hs = [] ∧ ∃ (a : Addr) (vs : List Value), cs = [.pointer (some a)] ∧ FRep w A t x vs ∧ ∀ j u, vs[j]? = some u → ¬ A a.block ∧ w.cell? (a.add j) = some u
  | _, .box e k, x, cs, hs => ∃ b cur hs', hs = some (b, 0) :: hs' ∧ cs = [.pointer (some ⟨b, 0, none⟩)] ∧ w.heap[b]? = some (.cells cur e (0, 0)) ∧ ORep w A (some b) k x cur.toList hs'
  | _, .clo g k, x, cs, hs => boxesB k = true ∧ ∃ vs : List Value, cs = [.func (.func g) #[] vs.toArray] ∧ ORep w A none k x vs hs
  | _, .nil, _, cs, hs => hs = [] ∧ cs = []
  | sb, .cons k ks, x, cs, hs => ∃ c0 c1 h0 h1, cs = c0 ++ c1 ∧ hs = h0 ++ h1 ∧ ORep w A sb k x.1 c0 h0 ∧ ORep w A sb ks x.2 c1 h1
theorem ORep.len {w : World} {A : Nat → Prop} : ∀ {k : CK} {sb : Option Nat} {x : k.ty.den} {cs : List Value} {hs : List Hd}, ORep w A sb k x cs hs → cs.length = k.sz ∧ hs.length = k.wd
  | .val t, _, _, _, _, ⟨h, hf⟩ => ⟨FRep.len hf, by rw [h]; rfl⟩
  | .row t, _, _, _, _, ⟨m, v, h, hc, _⟩ => ⟨by rw [hc]; rfl, by rw [h]; rfl⟩
  | .skip, _, _, _, _, ⟨h, v, hc, _⟩ => ⟨by rw [hc]; rfl, by rw [h]; rfl⟩
  | .nilp, _, _, _, _, ⟨h, hc⟩ => ⟨by rw [hc]; rfl, by rw [h]; rfl⟩
  | .slf, _, _, _, _, ⟨h, hc⟩ => ⟨by rcases hc with hc | ⟨_, _, hc⟩ <;> rw [hc] <;> rfl, by rw [h]; rfl⟩
  | .fn _, _, _, _, _, ⟨h, hc⟩ => ⟨by rw [hc]; rfl, by rw [h]; rfl⟩
  | .view _, _, _, _, _, ⟨h, a, vs, hc, _⟩ => ⟨by rw [hc]; rfl, by rw [h]; rfl⟩
  | .box _ k, _, _, _, _, ⟨b, cur, hs', h, hc, _, hr⟩ => ⟨by rw [hc]; rfl, by rw [h, List.length_cons, (ORep.len hr).2]; rfl⟩
  | .clo _ k, _, _, _, _, ⟨_, vs, hc, hr⟩ => ⟨by rw [hc]; rfl, (ORep.len hr).2⟩
  | .nil, _, _, _, _, ⟨h, hc⟩ => ⟨by rw [hc]; rfl, by rw [h]; rfl⟩
  | .cons k ks, _, _, _, _, ⟨c0, c1, h0, h1, hc, hh, r0, r1⟩ => by
    have := ORep.len r0
    have := ORep.len r1
    subst hc
    subst hh
    simp only [List.length_append, CK.sz, CK.wd]
    omega
theorem RowAt.mono {w : World} {A A' : Nat → Prop} (hA : ∀ b, A' b → A b) {t : Ty} {xs : List t.den} {fz : Bool} {b c : Nat} (h : RowAt w A t xs fz b c) : RowAt w A' t xs fz b c := by
  obtain ⟨e, cur, fr, h1, h2, h3, h4, h5, h6⟩ := h
  exact ⟨e, cur, fr, h1, h2, h3, h4, h5, fun i x hi => let ⟨ec, hf, hc⟩ := h6 i x hi; ⟨ec, hf.mono hA, hc⟩⟩
theorem ORep.mono {w : World} {A A' : Nat → Prop} (hA : ∀ b, A' b → A b) : ∀ {k : CK} {sb : Option Nat} {x : k.ty.den} {cs : List Value} {hs : List Hd}, ORep w A sb k x cs hs → ORep w A' sb k x cs hs
  | .val t, _, _, _, _, ⟨h, hf⟩ => ⟨h, hf.mono hA⟩
  | .row t, _, _, _, _, ⟨m, v, h, hc, hv, hz, hr⟩ => ⟨m, v, h, hc, hv, hz, by
      cases m with
      | none => exact hr
      | some p => exact RowAt.mono hA hr⟩
  | .skip, _, _, _, _, h => h
  | .nilp, _, _, _, _, h => h
  | .slf, _, _, _, _, h => h
  | .fn _, _, _, _, _, h => h
  | .view _, _, _, _, _, ⟨h, a, vs, hc, hf, hx⟩ => ⟨h, a, vs, hc, hf.mono hA, fun j u hu => ⟨fun hb => (hx j u hu).1 (hA _ hb), (hx j u hu).2⟩⟩
  | .box _ k, _, _, _, _, ⟨b, cur, hs', h, hc, hg, hr⟩ => ⟨b, cur, hs', h, hc, hg, ORep.mono hA hr⟩
  | .clo _ k, _, _, _, _, ⟨hb, vs, hc, hr⟩ => ⟨hb, vs, hc, ORep.mono hA hr⟩
  | .nil, _, _, _, _, h => h
  | .cons k ks, _, _, _, _, ⟨c0, c1, h0, h1, hc, hh, r0, r1⟩ => ⟨c0, c1, h0, h1, hc, hh, ORep.mono hA r0, ORep.mono hA r1⟩
theorem frep_flat {w : World} {A A' : Nat → Prop} : ∀ {t : Ty} {x : t.den} {cs : List Value}, t.flat = true → FRep w A t x cs → FRep w A' t x cs
  | .int _, _, _, _, h => h
  | .bool, _, _, _, h => h
  | .str, _, _, _, h => h
  | .err, _, _, _, h => h
  | .unit, _, _, _, h => h
  | .pair a b, _, _, hf, ⟨c0, c1, h, h0, h1⟩ => by
    simp [Ty.flat] at hf
    exact ⟨c0, c1, h, frep_flat hf.1 h0, frep_flat hf.2 h1⟩
  | .sl _, _, _, hf, _ => by simp [Ty.flat] at hf
theorem RowAt.flat {w : World} {A A' : Nat → Prop} {t : Ty} (ht : t.flat = true) {xs : List t.den} {fz : Bool} {b c : Nat} (h : RowAt w A t xs fz b c) : RowAt w A' t xs fz b c := by
  obtain ⟨e, cur, fr, h1, h2, h3, h4, h5, h6⟩ := h
  exact ⟨e, cur, fr, h1, h2, h3, h4, h5, fun i x hi => let ⟨ec, hf, hc⟩ := h6 i x hi; ⟨ec, frep_flat ht hf, hc⟩⟩
theorem ORep.flat {w : World} {A A' : Nat → Prop} : ∀ {k : CK} {sb : Option Nat} {x : k.ty.den} {cs : List Value} {hs : List Hd}, k.flat = true → ORep w A sb k x cs hs → ORep w A' sb k x cs hs
  | .val t, _, _, _, _, hk, ⟨h, hf⟩ => ⟨h, frep_flat hk hf⟩
  | .row t, _, _, _, _, hk, ⟨m, v, h, hc, hv, hz, hr⟩ => ⟨m, v, h, hc, hv, hz, by
      cases m with
      | none => exact hr
      | some p => exact RowAt.flat hk hr⟩
  | .skip, _, _, _, _, _, h => h
  | .nilp, _, _, _, _, _, h => h
  | .slf, _, _, _, _, _, h => h
  | .fn _, _, _, _, _, _, h => h
  | .view _, _, _, _, _, hk, _ => by simp [CK.flat] at hk
  | .box _ k, _, _, _, _, hk, ⟨b, cur, hs', h, hc, hg, hr⟩ => ⟨b, cur, hs', h, hc, hg, ORep.flat hk hr⟩
  | .clo _ k, _, _, _, _, hk, ⟨hb, vs, hc, hr⟩ => ⟨hb, vs, hc, ORep.flat hk hr⟩
  | .nil, _, _, _, _, _, h => h
  | .cons k ks, _, _, _, _, hk, ⟨c0, c1, h0, h1, hc, hh, r0, r1⟩ => by
    simp only [CK.flat, Bool.and_eq_true] at hk
    exact ⟨c0, c1, h0, h1, hc, hh, ORep.flat hk.1 r0, ORep.flat hk.2 r1⟩
theorem box_some {β : Type} {o : Option Blk} {e : TypeId} {f : List C → Option β} {x : β} (h : (match o with | some (.box e' ds) => bif Nat.beq e e' then f ds else none | _ => none) = some x) : ∃ ds, o = some (.box e ds) ∧ f ds = some x := by
  match o, h with
  | some (.box e' ds), h =>
    have he := Nat.eq_of_beq_eq_true (cond_some h).1
    subst he
    exact ⟨ds, rfl, (cond_some h).2⟩
  | some (.row _ _ _), h => cases h
  | some .dead, h => cases h
  | none, h => cases h
theorem row_some {h : Heap} {ow : List Nat} {self : Option Nat} {t : Ty} : ∀ {cs : List C} {x : (CK.row t).ty.den}, decK h ow self (.row t) cs = some x → ∃ c, cs = [c] ∧ decRow h t c = some x
  | [c], _, hd => ⟨c, rfl, hd⟩
  | [], x, hd => nomatch (show (none : Option (Ty.sl t).den) = some x from hd)
  | _ :: _ :: _, x, hd => nomatch (show (none : Option (Ty.sl t).den) = some x from hd)
noncomputable def keys (u : Upd) : List Nat := u.map (·.1)
theorem encK_keys (g : Nat → Nat) : ∀ (k : CK) (self : Option Nat) (i : Nat) (x : k.ty.den), keys (encK g self i k x).2 = (List.range' i k.wd).map g
  | .val t, _, _, _ => rfl
  | .row t, _, _, _ => rfl
  | .skip, _, _, _ => rfl
  | .nilp, _, _, _ => rfl
  | .slf, _, _, _ => rfl
  | .fn _, _, _, _ => rfl
  | .view _, _, _, _ => rfl
  | .box _ k, _, i, x => by
    have := encK_keys g k (some (g i)) (i + 1) x
    simp only [encK, keys, List.map_cons, CK.wd, List.range'_succ] at this ⊢
    rw [this]
  | .clo _ k, _, i, x => encK_keys g k none i x
  | .nil, _, _, _ => rfl
  | .cons k ks, self, i, x => by
    have h0 := encK_keys g k self i x.1
    have h1 := encK_keys g ks self (i + k.wd) x.2
    simp only [encK, keys, app_eq, List.map_append, CK.wd] at h0 h1 ⊢
    rw [h0, h1, ← List.map_append, ← List.range'_append_1]
theorem updsH_out : ∀ {u : Upd} {h : Heap} {i : Nat}, i ∉ keys u → updsH h u i = h i
  | [], _, _, _ => rfl
  | (j, b) :: u, h, i, hi => by
    simp only [keys, List.map_cons, List.mem_cons, not_or] at hi
    simp only [updsH]
    rw [updsH_out (u := u) hi.2, updH_ne _ _ hi.1]
theorem updsH_mem : ∀ {u : Upd} {h : Heap} {p : Nat × Blk}, (keys u).Nodup → p ∈ u → updsH h u p.1 = some p.2
  | [], _, _, _, hp => by cases hp
  | (j, b) :: u, h, p, hn, hp => by
    simp only [keys, List.map_cons, List.nodup_cons] at hn
    simp only [updsH]
    rcases List.mem_cons.1 hp with rfl | hp
    · rw [updsH_out (u := u) hn.1, updH_same]
    · exact updsH_mem (u := u) hn.2 hp
theorem updsH_some : ∀ {u : Upd} {h : Heap} {i : Nat} {b : Blk}, updsH h u i = some b → (i, b) ∈ u ∨ (i ∉ keys u ∧ h i = some b)
  | [], _, _, _, hb => .inr ⟨by simp [keys], hb⟩
  | (j, c) :: u, h, i, b, hb => by
    simp only [updsH] at hb
    rcases updsH_some (u := u) hb with h1 | ⟨h1, h2⟩
    · exact .inl (List.mem_cons_of_mem _ h1)
    · by_cases hij : i = j
      · subst hij
        rw [updH_same] at h2
        cases h2
        exact .inl (by simp)
      · rw [updH_ne _ _ hij] at h2
        exact .inr ⟨by simp only [keys, List.map_cons, List.mem_cons, not_or]; exact ⟨hij, h1⟩, h2⟩
section
variable {w : World} {A A2 : Nat → Prop} {μ : Mu} {h : Heap}
theorem ptrs_of : ∀ {cs : List C}, (∀ c ∈ cs, ∃ i, c = .ptr i 0) → cs = ptrs (unptrs cs)
  | [], _ => rfl
  | c :: cs, hc => by
    obtain ⟨i, rfl⟩ := hc c (by simp)
    simp only [unptrs, unptr, ptrs]
    rw [← ptrs_of (cs := cs) (fun c h => hc c (by simp [h]))]
theorem encK_boxes (g : Nat → Nat) : ∀ (k : CK) (i : Nat) (x : k.ty.den), boxesB k = true → ∀ c ∈ (encK g none i k x).1, ∃ j, c = .ptr j 0
  | .nil, _, _, _ => by simp [encK]
  | .cons k ks, i, x, hk => by
    cases k with
    | box _ k =>
      intro c hc
      simp only [encK, app_eq, List.mem_append, List.mem_singleton] at hc
      rcases hc with rfl | hc
      · exact ⟨_, rfl⟩
      · exact encK_boxes g ks _ x.2 hk c hc
    | _ => simp [boxesB] at hk
  | .val _, _, _, hk => by simp [boxesB] at hk
  | .row _, _, _, hk => by simp [boxesB] at hk
  | .skip, _, _, hk => by simp [boxesB] at hk
  | .nilp, _, _, hk => by simp [boxesB] at hk
  | .slf, _, _, hk => by simp [boxesB] at hk
  | .fn _, _, _, hk => by simp [boxesB] at hk
  | .view _, _, _, hk => by simp [boxesB] at hk
  | .box _ _, _, _, hk => by simp [boxesB] at hk
  | .clo _ _, _, _, hk => by simp [boxesB] at hk
theorem ptrs_rep : ∀ {ids : List Nat} {vs : List Value}, CsRep w A μ h (ptrs ids) vs ↔ All2 (fun id u => ∃ blk b c, h id = some blk ∧ μ id = some (b, c) ∧ u = .pointer (some ⟨b, 0, none⟩)) ids vs
  | [], [] => Iff.rfl
  | id :: ids, v :: vs => by
    constructor
    · intro hc; exact ⟨hc.1, ptrs_rep.1 hc.2⟩
    · intro hc; exact ⟨hc.1, ptrs_rep.2 hc.2⟩
  | [], _ :: _ => Iff.rfl
  | _ :: _, [] => Iff.rfl
theorem ORep.enc {g : Nat → Nat} (hA : ∀ b, A2 b → A b) : ∀ {k : CK} {self sb : Option Nat} {i : Nat} {x : k.ty.den} {cs : List Value} {hs : List Hd}, ORep w A sb k x cs hs →
    (∀ p ∈ (encK g self i k x).2, h p.1 = some p.2) → (∀ (j : Nat) (m : Hd), hs[j]? = some m → μ (g (i + j)) = m) →
    (∀ id, self = some id → ∃ b c blk, sb = some b ∧ h id = some blk ∧ μ id = some (b, c)) → (self = none → sb = none) →
    CsRep w A2 μ h (encK g self i k x).1 cs ∧ ∀ p ∈ (encK g self i k x).2, p.2.own = true ∧ BRep w A2 μ h (μ p.1) p.2
  | .val t, self, sb, i, x, cs, hs, ⟨_, hf⟩, _, _, _, _ => ⟨explode_rep (hf.mono hA), fun p hp => by simp [encK] at hp⟩
  | .row t, self, sb, i, xs, cs, hs, ho, hh, hm, _, _ => by
    obtain ⟨m, v, rfl, rfl, hv, hz, hr⟩ := ho
    have hm0 : μ (g i) = m := hm 0 m rfl
    have hh0 := hh (g i, .row t xs false) (by simp [encK])
    refine ⟨⟨⟨_, hh0, hv.one, fun t' xs' fz he => ?_⟩, trivial⟩, fun p hp => ?_⟩
    · cases he
      rw [hm0]; exact hv
    · simp only [encK, List.mem_singleton] at hp
      subst hp
      refine ⟨rfl, hz, ?_⟩
      rw [hm0]
      cases m with
      | none => exact hr
      | some q => exact ⟨RowAt.mono hA hr, by simp⟩
  | .skip, self, sb, i, x, cs, hs, ho, _, _, _, _ => by
    obtain ⟨_, v, rfl, h1⟩ := ho
    exact ⟨⟨h1, trivial⟩, fun p hp => by simp [encK] at hp⟩
  | .nilp, self, sb, i, x, cs, hs, ho, _, _, _, _ => by
    obtain ⟨_, rfl⟩ := ho
    exact ⟨⟨rfl, trivial⟩, fun p hp => by simp [encK] at hp⟩
  | .slf, self, sb, i, x, cs, hs, ho, _, _, hs1, hs2 => by
    obtain ⟨_, hc⟩ := ho
    refine ⟨?_, fun p hp => by simp [encK] at hp⟩
    cases self with
    | none =>
      rw [hs2 rfl] at hc
      rcases hc with rfl | ⟨b, hb, _⟩
      · exact ⟨rfl, trivial⟩
      · cases hb
    | some id =>
      obtain ⟨b, c, blk, hb, h1, h2⟩ := hs1 id rfl
      rcases hc with rfl | ⟨b', hb', rfl⟩
      · exact ⟨.inl rfl, trivial⟩
      · rw [hb] at hb'
        cases hb'
        exact ⟨.inr ⟨blk, b, c, h1, h2, rfl⟩, trivial⟩
  | .fn f, self, sb, i, x, cs, hs, ho, _, _, _, _ => by
    obtain ⟨_, rfl⟩ := ho
    exact ⟨⟨rfl, trivial⟩, fun p hp => by simp [encK] at hp⟩
  | .view t, self, sb, i, x, cs, hs, ho, _, _, _, _ => by
    obtain ⟨_, a, vs, rfl, hf, hx⟩ := ho
    refine ⟨⟨⟨a, vs, by rw [Addr_add_zero], hf.mono hA, fun j u hu => ⟨fun hb => (hx j u hu).1 (hA _ hb), (hx j u hu).2⟩⟩, trivial⟩, fun p hp => by simp [encK] at hp⟩
  | .box e k, self, sb, i, x, cs, hs, ho, hh, hm, _, _ => by
    obtain ⟨b, cur, hs', rfl, rfl, hg, hr⟩ := ho
    have hm0 : μ (g i) = some (b, 0) := hm 0 _ rfl
    have hh0 := hh (g i, .box e (encK g (some (g i)) (i + 1) k x).1) (by simp [encK])
    obtain ⟨ih1, ih2⟩ := ORep.enc hA (g := g) (self := some (g i)) (i := i + 1) hr (fun p hp => hh p (List.mem_cons_of_mem (g i, Blk.box e (encK g (some (g i)) (i + 1) k x).1) hp))
      (fun j m hj => by rw [show i + 1 + j = i + (j + 1) by omega]; exact hm (j + 1) m (by simpa using hj)) (fun id hid => by cases hid; exact ⟨b, 0, _, rfl, hh0, hm0⟩) (fun hn => by cases hn)
    refine ⟨⟨⟨_, b, 0, hh0, hm0, rfl⟩, trivial⟩, fun p hp => ?_⟩
    have hp : p ∈ (g i, Blk.box e (encK g (some (g i)) (i + 1) k x).1) :: (encK g (some (g i)) (i + 1) k x).2 := hp
    rcases List.mem_cons.1 hp with rfl | hp
    · exact ⟨rfl, b, 0, cur, hm0, hg, ih1, rfl⟩
    · exact ih2 p hp
  | .clo f k, self, sb, i, x, cs, hs, ho, hh, hm, _, _ => by
    obtain ⟨hb, vs, rfl, hr⟩ := ho
    obtain ⟨ih1, ih2⟩ := ORep.enc hA (g := g) (self := none) (i := i) hr hh hm (fun id hid => by cases hid) (fun _ => rfl)
    refine ⟨⟨⟨vs, rfl, ?_⟩, trivial⟩, ih2⟩
    rw [ptrs_of (encK_boxes g k i x hb)] at ih1
    exact ptrs_rep.1 ih1
  | .nil, self, sb, i, x, cs, hs, ho, _, _, _, _ => by
    obtain ⟨_, rfl⟩ := ho
    exact ⟨trivial, fun p hp => by simp [encK] at hp⟩
  | .cons k ks, self, sb, i, x, cs, hs, ho, hh, hm, hs1, hs2 => by
    obtain ⟨c0, c1, h0, h1, rfl, rfl, r0, r1⟩ := ho
    rw [encK_cons, app_eq, app_eq] at hh; simp only [List.mem_append] at hh
    obtain ⟨a1, a2⟩ := ORep.enc hA (g := g) (self := self) (i := i) r0 (fun p hp => hh p (.inl hp)) (fun j m hj => hm j m (by rw [List.getElem?_append_left (List.getElem?_eq_some_iff.1 hj).1]; exact hj)) hs1 hs2
    obtain ⟨b1, b2⟩ := ORep.enc hA (g := g) (self := self) (i := i + k.wd) r1 (fun p hp => hh p (.inr hp))
      (fun j m hj => by
        rw [Nat.add_assoc]
        refine hm (k.wd + j) m ?_
        rw [← (ORep.len r0).2, List.getElem?_append_right (by omega)]
        simpa using hj) hs1 hs2
    refine ⟨by rw [encK_cons, app_eq]; exact All2.append a1 b1, fun p hp => ?_⟩
    rw [encK_cons, app_eq, app_eq] at hp; simp only [List.mem_append] at hp
    exact hp.elim (a2 p) (b2 p)
noncomputable def isHd (μ : Mu) (is : List (Option Nat)) : List Hd := is.map fun | none => none | some k => μ k
theorem isHd_app (μ : Mu) (l m : List (Option Nat)) : isHd μ (l ++ m) = isHd μ l ++ isHd μ m := by simp [isHd]
theorem somes_app (l m : List (Option Nat)) : somes (l ++ m) = somes l ++ somes m := by
  induction l with
  | nil => rfl
  | cons x l ih => cases x <;> simp [somes, ih]
theorem mem_somes {id : Nat} : ∀ {l : List (Option Nat)}, id ∈ somes l ↔ some id ∈ l
  | [] => by simp [somes]
  | none :: l => by simp [somes, mem_somes (l := l)]
  | some x :: l => by simp [somes, mem_somes (l := l)]
theorem disjB_spec : ∀ {l m : List Nat}, disjB l m = true → ∀ x, x ∈ l → x ∉ m
  | [], _, _, x, hx => by simp at hx
  | y :: l, m, h, x, hx => by
    simp only [disjB, Bool.and_eq_true, Bool.not_eq_true'] at h
    rcases List.mem_cons.1 hx with rfl | hx
    · intro hm
      rw [(memN_iff _ _).2 hm] at h
      cases h.1
    · exact disjB_spec h.2 x hx
theorem nodupB_spec : ∀ {l : List Nat}, nodupB l = true → l.Nodup
  | [], _ => List.nodup_nil
  | x :: l, h => by
    simp only [nodupB, Bool.and_eq_true, Bool.not_eq_true'] at h
    refine List.nodup_cons.2 ⟨fun hm => ?_, nodupB_spec h.2⟩
    rw [(memN_iff _ _).2 hm] at h
    cases h.1
theorem decRow_rep {ow : List Nat} (hB : ∀ id blk, h id = some blk → BRep w A μ h (μ id) blk) {A' : Nat → Prop} (hA : ∀ b, A' b → A b) {t : Ty} {c : C} {xs : (Ty.sl t).den} {v : Value} (hd : decRow h t c = some xs) (hc : CRep w A μ h c v) :
    ∃ m, isHd μ (ownsK h (.row t) [c]) = [m] ∧ HdV m (List.length (α := t.den) xs) v ∧ 0 < t.sz ∧ (match m with | none => (xs : List t.den) = [] | some (b, c) => RowAt w A' t xs false b c) := by
  unfold decRow at hd
  split at hd
  · have hz := (cond_none hd).1
    have hd2 := (cond_none hd).2
    cases hd2
    refine ⟨none, rfl, ⟨rfl, none, hc⟩, ?_, rfl⟩
    rcases Nat.eq_zero_or_pos t.sz with h0 | h0
    · rw [h0] at hz; cases hz
    · exact h0
  · rename_i id
    split at hd
    · rename_i u ys hb
      obtain ⟨e, rfl⟩ := castTo_some hd
      cases e
      obtain ⟨blk, hb', _, hr⟩ := hc
      rw [hb] at hb'
      cases hb'
      obtain ⟨hz, hbr⟩ := hB id _ hb
      refine ⟨μ id, rfl, hr _ _ _ rfl, hz, ?_⟩
      cases hm : μ id with
      | none => rw [hm] at hbr; exact hbr
      | some p => rw [hm] at hbr; exact RowAt.mono hA hbr.1
    · cases hd
  · rename_i id n
    split at hd
    · rename_i u ys hb
      obtain ⟨e, rfl⟩ := castTo_some hd
      cases e
      obtain ⟨blk, hb', _, hr⟩ := hc
      rw [hb] at hb'
      cases hb'
      obtain ⟨hn, hv⟩ := hr _ _ _ rfl
      obtain ⟨hz, hbr⟩ := (hB id _ hb).first n
      refine ⟨μ id, rfl, by show HdV (μ id) (first n ys).length v; rw [first_len hn]; exact hv, hz, ?_⟩
      cases hm : μ id with
      | none => rw [hm] at hbr; exact hbr
      | some p => rw [hm] at hbr; exact RowAt.mono hA hbr.1
    · cases hd
  · cases hd
set_option maxHeartbeats 2000000 in
theorem decK_rep {ow : List Nat} (hB : ∀ id blk, h id = some blk → BRep w A μ h (μ id) blk) {A' : Nat → Prop} (hA : ∀ b, A' b → A b) :
    ∀ {k : CK} {self sb : Option Nat} {cells : List C} {x : k.ty.den} {vs : List Value}, decK h ow self k cells = some x → CsRep w A μ h cells vs →
      (∀ id, self = some id → ∃ b c, μ id = some (b, c) ∧ sb = some b) → (∀ id, id ∈ takesK h k cells → ∀ b c, μ id = some (b, c) → ¬ A' b) → ORep w A' sb k x vs (isHd μ (ownsK h k cells))
  | .val t, self, sb, cells, x, vs, hd, hc, _, hids => by
    rw [decK_val] at hd
    split at hd
    · rename_i x' ids hi
      have hd2 := (cond_some hd).2
      cases hd2
      refine ⟨rfl, implode_all hA hB hi hc (fun id hid => hids id ?_)⟩
      rw [takesK_val, hi]
      exact hid
    · cases hd
  | .row t, self, sb, cells, xs, vs, hd, hc, _, _ => by
    obtain ⟨c, rfl, hd⟩ := row_some hd
    cases vs with
    | nil => exact hc.elim
    | cons v vs =>
      cases vs with
      | cons _ _ => exact hc.2.elim
      | nil =>
        obtain ⟨m, h1, h2, h3, h4⟩ := decRow_rep (ow := ow) hB hA hd hc.1
        exact ⟨m, v, h1, rfl, h2, h3, h4⟩
  | .skip, self, sb, cells, x, vs, hd, hc, _, _ => by
    rw [decK_skip] at hd
    split at hd
    · rename_i c
      cases vs with
      | nil => exact hc.elim
      | cons v vs =>
        cases vs with
        | cons _ _ => exact hc.2.elim
        | nil => exact ⟨rfl, v, rfl, hc.1.one⟩
    · cases hd
  | .nilp, self, sb, cells, x, vs, hd, hc, _, _ => by
    rw [decK_nilp] at hd
    split at hd
    · cases vs with
      | nil => exact hc.elim
      | cons v vs =>
        cases vs with
        | cons _ _ => exact hc.2.elim
        | nil => exact ⟨rfl, by rw [show v = .pointer none from hc.1]⟩
    · cases hd
  | .slf, self, sb, cells, x, vs, hd, hc, hs, _ => by
    have one : ∀ {c : C}, CsRep w A μ h [c] vs → ∃ v, vs = [v] ∧ CRep w A μ h c v := by
      intro c hc
      cases vs with
      | nil => exact hc.elim
      | cons v vs =>
        cases vs with
        | cons _ _ => exact hc.2.elim
        | nil => exact ⟨v, rfl, hc.1⟩
    have sel : ∀ {id : Nat}, selfB self id = true → ∃ b c, μ id = some (b, c) ∧ sb = some b := by
      intro id hq
      unfold selfB at hq
      split at hq
      · rename_i j
        have := Nat.eq_of_beq_eq_true hq
        subst this
        exact hs id rfl
      · cases hq
    rw [decK_slf] at hd
    split at hd
    · obtain ⟨v, rfl, hv⟩ := one hc
      exact ⟨rfl, .inl (by rw [show v = .pointer none from hv])⟩
    · rename_i id off
      obtain ⟨v, rfl, hv⟩ := one hc
      have hq := (cond_some hd).1
      simp only [Bool.and_eq_true] at hq
      have h0 := Nat.eq_of_beq_eq_true hq.1
      subst h0
      obtain ⟨b, c, hm, hsb⟩ := sel hq.2
      obtain ⟨blk, b', c', _, hm', rfl⟩ := hv
      rw [hm] at hm'
      cases hm'
      exact ⟨rfl, .inr ⟨b, hsb, rfl⟩⟩
    · rename_i id
      obtain ⟨v, rfl, hv⟩ := one hc
      obtain ⟨b, c, hm, hsb⟩ := sel (cond_some hd).1
      rcases hv with rfl | ⟨blk, b', c', _, hm', rfl⟩
      · exact ⟨rfl, .inl rfl⟩
      · rw [hm] at hm'
        cases hm'
        exact ⟨rfl, .inr ⟨b, hsb, rfl⟩⟩
    · cases hd
  | .view t, self, sb, cells, x, vs, hd, hc, _, _ => by
    rw [decK_view] at hd
    obtain ⟨c, rfl, hd⟩ : ∃ c, cells = [c] ∧ decView t c = some x := by
      match cells, hd with
      | [c], hd => exact ⟨c, rfl, hd⟩
      | [], hd => cases hd
      | _ :: _ :: _, hd => cases hd
    cases vs with
    | nil => exact hc.elim
    | cons v vs =>
    cases vs with
    | cons _ _ => exact hc.2.elim
    | nil =>
    have hc := hc.1
    cases c <;> first | (cases hd; done) | skip
    rename_i u y off
    unfold decView at hd
    obtain ⟨ho, hd⟩ := cond_some hd
    have ho := Nat.eq_of_beq_eq_true ho
    subst ho
    obtain ⟨a, cs, hv, hf, hx⟩ := hc
    rw [Addr_add_zero] at hv
    subst hv
    obtain ⟨rfl, rfl⟩ := castTo_some hd
    exact ⟨rfl, a, cs, rfl, hf.mono hA, fun j u hu => ⟨fun hb => (hx j u hu).1 (hA _ hb), (hx j u hu).2⟩⟩
  | .fn f, self, sb, cells, x, vs, hd, hc, _, _ => by
    rw [decK_fn] at hd
    split at hd
    · rename_i g
      have := Nat.eq_of_beq_eq_true (cond_some hd).1
      subst this
      cases vs with
      | nil => exact hc.elim
      | cons v vs =>
        cases vs with
        | cons _ _ => exact hc.2.elim
        | nil => exact ⟨rfl, by rw [show v = .func (.func f) #[] #[] from hc.1]⟩
    · cases hd
  | .box e k, self, sb, cells, x, vs, hd, hc, _, hids => by
    rw [decK_box] at hd
    split at hd
    · rename_i id off
      have h0 := Nat.eq_of_beq_eq_true (cond_some hd).1
      have hd2 := (cond_some hd).2
      clear hd
      subst h0
      obtain ⟨ds, hb, hd2⟩ := box_some (o := h id) (f := fun ds => decK h ow (some id) k ds) hd2
      cases vs with
      | nil => exact hc.elim
      | cons v vs =>
        cases vs with
        | cons _ _ => exact hc.2.elim
        | nil =>
          obtain ⟨blk, b, c, hb', hm, rfl⟩ := hc.1
          obtain ⟨b', c', cur, hm', hg, hcs, rfl⟩ := hB id _ hb
          rw [hm] at hm'
          cases hm'
          have ih := decK_rep hB hA (self := some id) (sb := some b) hd2 hcs (fun id' he => by cases he; exact ⟨b, _, hm, rfl⟩) (fun id' hid' => hids id' (by rw [takesK_box, hb]; exact hid'))
          refine ⟨b, cur, _, ?_, rfl, hg, ih⟩
          rw [ownsK_box, hb]; simp only [isHd, List.map_cons, hm]
    · cases hd
  | .clo g k, self, sb, cells, x, vs, hd, hc, _, hids => by
    rw [decK_clo] at hd
    split at hd
    · rename_i g' ids
      have h0 := (cond_some hd).1
      have hd2 := (cond_some hd).2
      clear hd
      simp only [Bool.and_eq_true] at h0
      have hg := Nat.eq_of_beq_eq_true h0.1
      subst hg
      cases vs with
      | nil => exact hc.elim
      | cons v vs =>
        cases vs with
        | cons _ _ => exact hc.2.elim
        | nil =>
          obtain ⟨us, rfl, hall⟩ := hc.1
          refine ⟨h0.2, us, rfl, ?_⟩
          exact decK_rep hB hA (self := none) (sb := none) hd2 (ptrs_rep.2 hall) (fun id' he => by cases he) (fun id' hid' => hids id' (hid'))
    · cases hd
  | .nil, self, sb, cells, x, vs, hd, hc, _, _ => by
    rw [decK_nil] at hd
    split at hd
    · cases vs with
      | nil => exact ⟨rfl, rfl⟩
      | cons v vs => exact hc.elim
    · cases hd
  | .cons k ks, self, sb, cells, x, vs, hd, hc, hs, hids => by
    rw [decK_cons] at hd
    split at hd
    · rename_i x1 h1
      split at hd
      · rename_i x2 h2
        cases hd
        rw [takesK_cons, app_eq] at hids; simp only [List.mem_append] at hids
        have c1 := All2.take k.sz hc
        have c2 := All2.drop k.sz hc
        rw [first_eq] at h1
        rw [cut_eq] at h2
        simp only [first_eq, cut_eq] at hids
        refine ⟨vs.take k.sz, vs.drop k.sz, isHd μ (ownsK h k (cells.take k.sz)), isHd μ (ownsK h ks (cells.drop k.sz)), (List.take_append_drop ..).symm, by rw [ownsK_cons, app_eq, isHd_app, first_eq, cut_eq],
          decK_rep hB hA h1 c1 hs (fun id hid => hids id (.inl hid)), decK_rep hB hA h2 c2 hs (fun id hid => hids id (.inr hid))⟩
      · cases hd
    · cases hd
theorem decRow_own {t : Ty} {c : C} {xs : (Ty.sl t).den} (hd : decRow h t c = some xs) : ∀ id, id ∈ somes (ownsK h (.row t) [c]) → ∃ blk, h id = some blk ∧ blk.own = true := by
  unfold decRow at hd
  split at hd
  · intro id hid; simp [ownsK, somes] at hid
  · rename_i id
    split at hd
    · rename_i u ys hb
      intro id' hid'
      simp [ownsK, somes] at hid'
      subst hid'
      exact ⟨_, hb, rfl⟩
    · cases hd
  · rename_i id n
    split at hd
    · rename_i u ys hb
      intro id' hid'
      simp [ownsK, somes] at hid'
      subst hid'
      exact ⟨_, hb, rfl⟩
    · cases hd
  · cases hd
set_option maxHeartbeats 2000000 in
theorem decK_own {ow : List Nat} : ∀ {k : CK} {self : Option Nat} {cells : List C} {x : k.ty.den}, decK h ow self k cells = some x →
    (∀ id, id ∈ somes (ownsK h k cells) → ∃ blk, h id = some blk ∧ blk.own = true) ∧ ∀ id, id ∈ takesK h k cells → id ∉ ow ∧ ∃ u xs fz, h id = some (.row u xs fz)
  | .val t, self, cells, x, hd => by
    rw [decK_val] at hd
    split at hd
    · rename_i x' ids hi
      refine ⟨fun id hid => by simp [ownsK, somes] at hid, fun id hid => ?_⟩
      rw [takesK_val, hi] at hid
      exact ⟨disjB_spec (cond_some hd).1 id hid, implode_rows hi id hid⟩
    · cases hd
  | .row t, self, cells, x, hd => by
    obtain ⟨c, rfl, hd⟩ := row_some hd
    exact ⟨decRow_own hd, fun id hid => by simp [takesK] at hid⟩
  | .skip, _, _, _, _ => ⟨fun id hid => by simp [ownsK, somes] at hid, fun id hid => by simp [takesK] at hid⟩
  | .nilp, _, _, _, _ => ⟨fun id hid => by simp [ownsK, somes] at hid, fun id hid => by simp [takesK] at hid⟩
  | .slf, _, _, _, _ => ⟨fun id hid => by simp [ownsK, somes] at hid, fun id hid => by simp [takesK] at hid⟩
  | .fn _, _, _, _, _ => ⟨fun id hid => by simp [ownsK, somes] at hid, fun id hid => by simp [takesK] at hid⟩
  | .view _, _, _, _, _ => ⟨fun id hid => by simp [ownsK, somes] at hid, fun id hid => by simp [takesK] at hid⟩
  | .box _ k, self, cells, x, hd => by
    rw [decK_box] at hd
    split at hd
    · rename_i id off
      have hd2 := (cond_some hd).2
      clear hd
      obtain ⟨ds, hb, hd2⟩ := box_some (o := h id) (f := fun ds => decK h ow (some id) k ds) hd2
      obtain ⟨h1, h2⟩ := decK_own hd2
      refine ⟨fun id' hid' => ?_, fun id' hid' => h2 id' (by rw [takesK_box, hb] at hid'; exact hid')⟩
      rw [ownsK_box, hb] at hid'; simp only [somes, List.mem_cons] at hid'
      rcases hid' with rfl | hid'
      · exact ⟨_, hb, rfl⟩
      · exact h1 id' hid'
    · cases hd
  | .clo g k, self, cells, x, hd => by
    rw [decK_clo] at hd
    split at hd
    · rename_i g' ids
      obtain ⟨h1, h2⟩ := decK_own (cond_some hd).2
      exact ⟨fun id' hid' => h1 id' hid', fun id' hid' => h2 id' hid'⟩
    · cases hd
  | .nil, _, _, _, _ => ⟨fun id hid => by simp [ownsK, somes] at hid, fun id hid => by simp [takesK] at hid⟩
  | .cons k ks, self, cells, x, hd => by
    rw [decK_cons] at hd
    split at hd
    · rename_i x1 h1
      split at hd
      · rename_i x2 h2
        obtain ⟨a1, a2⟩ := decK_own h1
        obtain ⟨b1, b2⟩ := decK_own h2
        refine ⟨fun id hid => ?_, fun id hid => ?_⟩
        · rw [ownsK_cons, app_eq, somes_app] at hid; simp only [List.mem_append] at hid
          exact hid.elim (a1 id) (b1 id)
        · rw [takesK_cons, app_eq] at hid; simp only [List.mem_append] at hid
          exact hid.elim (a2 id) (b2 id)
      · cases hd
    · cases hd
end
end Go.VM
