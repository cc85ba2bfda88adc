import Derived.Test.YticbohfmkiafiaaVM1
import Derived.Below
import Derived.Deep.AppendSrc
import Derived.Laws.Cells
import Derived.Laws.CopyRow
import Derived.Laws.Tables
import Derived.Laws.MakeOwn
namespace Go.VM
open Go.RowKit
def All2 {α β : Type} (R : α → β → Prop) : List α → List β → Prop
  | [], [] => True
  | a :: l, b :: m => R a b ∧ All2 R l m
  | _, _ => False
theorem All2.mono {α β : Type} {R S : α → β → Prop} (h : ∀ a b, R a b → S a b) : ∀ {l : List α} {m : List β}, All2 R l m → All2 S l m
  | [], [], _ => trivial
  | _ :: _, _ :: _, k => ⟨h _ _ k.1, All2.mono h k.2⟩
  | [], _ :: _, k => k.elim
  | _ :: _, [], k => k.elim
theorem All2.len {α β : Type} {R : α → β → Prop} : ∀ {l : List α} {m : List β}, All2 R l m → l.length = m.length
  | [], [], _ => rfl
  | _ :: _, _ :: _, k => by simp [All2.len k.2]
  | [], _ :: _, k => k.elim
  | _ :: _, [], k => k.elim
theorem All2.append {α β : Type} {R : α → β → Prop} : ∀ {l : List α} {m : List β} {l' : List α} {m' : List β}, All2 R l m → All2 R l' m' → All2 R (l ++ l') (m ++ m')
  | [], [], _, _, _, k => k
  | _ :: _, _ :: _, _, _, h, k => ⟨h.1, All2.append h.2 k⟩
  | [], _ :: _, _, _, h, _ => h.elim
  | _ :: _, [], _, _, h, _ => h.elim
theorem All2.get {α β : Type} {R : α → β → Prop} : ∀ {l : List α} {m : List β}, All2 R l m → ∀ {i : Nat} {a : α}, l[i]? = some a → ∃ b, m[i]? = some b ∧ R a b
  | [], [], _, _, _, hi => by simp at hi
  | x :: l, y :: m, k, 0, a, hi => by simp at hi; subst hi; exact ⟨y, by simp, k.1⟩
  | x :: l, y :: m, k, i + 1, a, hi => by simp at hi; simpa using All2.get k.2 hi
  | [], _ :: _, k, _, _, _ => k.elim
  | _ :: _, [], k, _, _, _ => k.elim
theorem All2.get' {α β : Type} {R : α → β → Prop} : ∀ {l : List α} {m : List β}, All2 R l m → ∀ {i : Nat} {b : β}, m[i]? = some b → ∃ a, l[i]? = some a ∧ R a b
  | [], [], _, _, _, hi => by simp at hi
  | x :: l, y :: m, k, 0, a, hi => by simp at hi; subst hi; exact ⟨x, by simp, k.1⟩
  | x :: l, y :: m, k, i + 1, a, hi => by simp at hi; simpa using All2.get' k.2 hi
  | [], _ :: _, k, _, _, _ => k.elim
  | _ :: _, [], k, _, _, _ => k.elim
theorem All2.drop {α β : Type} {R : α → β → Prop} : ∀ (n : Nat) {l : List α} {m : List β}, All2 R l m → All2 R (l.drop n) (m.drop n)
  | 0, _, _, h => h
  | n + 1, [], [], _ => by simp [All2]
  | n + 1, _ :: _, _ :: _, h => by simpa using All2.drop n h.2
  | _ + 1, [], _ :: _, h => h.elim
  | _ + 1, _ :: _, [], h => h.elim
theorem All2.take {α β : Type} {R : α → β → Prop} : ∀ (n : Nat) {l : List α} {m : List β}, All2 R l m → All2 R (l.take n) (m.take n)
  | 0, _, _, _ => by simp [All2]
  | n + 1, [], [], _ => by simp [All2]
  | n + 1, _ :: _, _ :: _, h => by simpa [All2] using ⟨h.1, All2.take n h.2⟩
  | _ + 1, [], _ :: _, h => h.elim
  | _ + 1, _ :: _, [], h => h.elim
theorem nth_eq {α : Type} : ∀ (l : List α) (n : Nat), nth l n = l[n]?
  | [], n => by simp [nth]
  | _ :: _, 0 => by simp [nth]
  | _ :: l, n + 1 => by simp [nth, nth_eq l n]
theorem cut_eq {α : Type} : ∀ (n : Nat) (l : List α), cut n l = l.drop n
  | 0, _ => by simp [cut]
  | _ + 1, [] => by simp [cut]
  | n + 1, _ :: l => by simp [cut, cut_eq n l]
theorem first_eq {α : Type} : ∀ (n : Nat) (l : List α), first n l = l.take n
  | 0, _ => by simp [first]
  | _ + 1, [] => by simp [first]
  | n + 1, _ :: l => by simp [first, first_eq n l]
theorem len_eq {α : Type} : ∀ (l : List α), len' l = l.length
  | [] => rfl
  | _ :: l => by simp [len', len_eq l]
theorem app_eq {α : Type} : ∀ (l m : List α), app l m = l ++ m
  | [], _ => rfl
  | x :: l, m => by simp [app, app_eq l m]
theorem over_eq {α : Type} : ∀ (n : Nat) (m l : List α), n ≤ l.length → over n m l = l.take n ++ m ++ l.drop (n + m.length)
  | 0, m, l, _ => by simp [over, app_eq, cut_eq, len_eq]
  | n + 1, m, x :: l, h => by
    simp at h
    simp [over, over_eq n m l h, show n + 1 + m.length = (n + m.length) + 1 by omega]
  | n + 1, m, [], h => by simp at h
def FRep (w : World) (A : Nat → Prop) : (t : Ty) → t.den → List Value → Prop
  | .int k, x, cs => cs = [.int k x]
  | .bool, x, cs => cs = [.bool x]
  | .str, x, cs => cs = [.string x]
  | .err, x, cs => ∃ v, cs = [v] ∧ v.oneCell' = true ∧ (if x = true then v = .nilIface else ∃ t u, v = .iface t u)
  | .unit, _, cs => cs = []
  | .pair a b, x, cs => ∃ c0 c1, cs = c0 ++ c1 ∧ FRep w A a x.1 c0 ∧ FRep w A b x.2 c1
  | .sl t, xs, cs => ∃ ad cap, cs = [.slice ad (List.length (α := t.den) xs) cap] ∧ (List.length (α := t.den) xs) ≤ cap ∧ (List.length (α := t.den) xs) ≤ maxLen ∧ (t.mk = true → List.length (α := t.den) xs = 0 → ad = none ∧ cap = 0) ∧
      ∀ (i : Nat) (x : t.den), (xs : List t.den)[i]? = some x → ∃ (a : Addr) (ec : List Value), ad = some a ∧ FRep w A t x ec ∧
        ∀ j u, ec[j]? = some u → ¬ A a.block ∧ w.cell? (a.add (i * t.sz + j)) = some u
theorem FRep.len {w : World} {A : Nat → Prop} : ∀ {t : Ty} {x : t.den} {cs : List Value}, FRep w A t x cs → cs.length = t.sz
  | .int _, _, _, h => by rw [h]; rfl
  | .bool, _, _, h => by rw [h]; rfl
  | .str, _, _, h => by rw [h]; rfl
  | .err, _, _, ⟨_, h, _⟩ => by rw [h]; rfl
  | .unit, _, _, h => by rw [h]; rfl
  | .pair a b, _, _, ⟨c0, c1, h, h0, h1⟩ => by rw [h, List.length_append, FRep.len h0, FRep.len h1]; rfl
  | .sl _, _, _, ⟨_, _, h, _⟩ => by rw [h]; rfl
theorem FRep.one {w : World} {A : Nat → Prop} : ∀ {t : Ty} {x : t.den} {cs : List Value}, FRep w A t x cs → ∀ u ∈ cs, u.oneCell' = true
  | .int _, _, _, h => by rw [h]; simp [Value.oneCell']
  | .bool, _, _, h => by rw [h]; simp [Value.oneCell']
  | .str, _, _, h => by rw [h]; simp [Value.oneCell']
  | .err, _, _, ⟨_, h, h1, _⟩ => by rw [h]; intro u hu; rw [List.mem_singleton.1 hu]; exact h1
  | .unit, _, _, h => by rw [h]; simp
  | .pair a b, _, _, ⟨c0, c1, h, h0, h1⟩ => by
    rw [h]
    intro u hu
    rcases List.mem_append.1 hu with hu | hu
    · exact FRep.one h0 u hu
    · exact FRep.one h1 u hu
  | .sl _, _, _, ⟨_, _, h, _⟩ => by rw [h]; simp [Value.oneCell']
theorem FRep.frame {w w' : World} {A A' : Nat → Prop} (h1 : ∀ b, ¬ A b → b < w.heap.size → w'.heap[b]? = w.heap[b]?) (h2 : ∀ b, A' b → A b ∨ w.heap.size ≤ b) :
    ∀ {t : Ty} {x : t.den} {cs : List Value}, FRep w A t x cs → FRep w' A' t x cs
  | .int _, _, _, h => h
  | .bool, _, _, h => h
  | .str, _, _, h => h
  | .err, _, _, h => h
  | .unit, _, _, h => h
  | .pair a b, _, _, ⟨c0, c1, h, h0, h1'⟩ => ⟨c0, c1, h, FRep.frame h1 h2 h0, FRep.frame h1 h2 h1'⟩
  | .sl t, xs, _, ⟨ad, cap, h, hl, hm, hk, hx⟩ => ⟨ad, cap, h, hl, hm, hk, fun i x hi => by
      obtain ⟨a, ec, ha, hr, hc⟩ := hx i x hi
      refine ⟨a, ec, ha, FRep.frame h1 h2 hr, fun j u hu => ?_⟩
      obtain ⟨hA, hcell⟩ := hc j u hu
      have hb : (a.add (i * t.sz + j)).block = a.block := by unfold Addr.add; split <;> rfl
      have hlt : a.block < w.heap.size := by
        have := World.block_lt_of_cell? w _ hcell
        rwa [hb] at this
      refine ⟨fun hA' => (h2 _ hA').elim hA (fun h => by omega), ?_⟩
      rw [← hcell]
      refine World.cell?_of_block ?_
      rw [hb]
      exact h1 _ hA hlt⟩
theorem FRep.mono {w : World} {A A' : Nat → Prop} (h2 : ∀ b, A' b → A b) {t : Ty} {x : t.den} {cs : List Value} (h : FRep w A t x cs) : FRep w A' t x cs :=
  FRep.frame (fun _ _ _ => rfl) (fun b hb => .inl (h2 b hb)) h
abbrev Mu := Nat → Option (Nat × Nat)
def HdV : Option (Nat × Nat) → Nat → Value → Prop
  | none, n, v => n = 0 ∧ ∃ ad, v = .slice ad 0 0
  | some (b, c), n, v => v = .slice (some ⟨b, 0, none⟩) n c
theorem HdV.one {m : Option (Nat × Nat)} {n : Nat} {v : Value} (h : HdV m n v) : v.oneCell' = true := by
  cases m with
  | none => obtain ⟨_, ad, rfl⟩ := h; rfl
  | some p => obtain ⟨b, c⟩ := p; rw [show v = .slice (some ⟨b, 0, none⟩) n c from h]; rfl
def CRep (w : World) (A : Nat → Prop) (μ : Mu) (h : Heap) : C → Value → Prop
  | .undef, v => v.oneCell' = true
  | .val t x, v => FRep w A t x [v]
  | .ref id, v => ∃ blk, h id = some blk ∧ v.oneCell' = true ∧ ∀ t xs fz, blk = .row t xs fz → HdV (μ id) xs.length v
  | .nils, v => v = .slice none 0 0
  | .nilp, v => v = .pointer none
  | .ptr id off, v => ∃ blk b c, h id = some blk ∧ μ id = some (b, c) ∧ v = .pointer (some ⟨b, off, none⟩)
  | .eptr id i off, v => ∃ blk, h id = some blk ∧ (∃ a, v = .pointer (some a)) ∧ ∀ t xs fz, blk = .row t xs fz → 0 ≤ i ∧ i < (xs.length : Int) ∧ ∃ b c, μ id = some (b, c) ∧ v = .pointer (some ⟨b, i.toNat * t.sz + off, none⟩)
  | .fptr t x off, v => ∃ (a : Addr) (cs : List Value), v = .pointer (some (a.add off)) ∧ FRep w A t x cs ∧ ∀ j u, cs[j]? = some u → ¬ A a.block ∧ w.cell? (a.add j) = some u
  | .fn f, v => v = .func (.func f) #[] #[]
  | .sub id n, v => ∃ blk, h id = some blk ∧ v.oneCell' = true ∧ ∀ t xs fz, blk = .row t xs fz → n ≤ xs.length ∧ HdV (μ id) n v
  | .win id lo n z, v => ∃ blk ad c', h id = some blk ∧ v = .slice ad n c' ∧ n ≤ c' ∧ ∀ t xs fz, blk = .row t xs fz → t.sz = z → 0 < n → lo + n ≤ xs.length ∧ ∃ b c, μ id = some (b, c) ∧ ad = some ⟨b, lo * z, none⟩
  | .slf id, v => v = .pointer none ∨ ∃ blk b c, h id = some blk ∧ μ id = some (b, c) ∧ v = .pointer (some ⟨b, 0, none⟩)
  | .clo g ids, v => ∃ vs : List Value, v = .func (.func g) #[] vs.toArray ∧ All2 (fun id u => ∃ blk b c, h id = some blk ∧ μ id = some (b, c) ∧ u = .pointer (some ⟨b, 0, none⟩)) ids vs
  | .anyb, v => ∃ b, v = .bool b
theorem CRep.one {w : World} {A : Nat → Prop} {μ : Mu} {h : Heap} {c : C} {v : Value} (k : CRep w A μ h c v) : v.oneCell' = true := by
  cases c with
  | undef => exact k
  | val t x => exact FRep.one k v (by simp)
  | ref id => obtain ⟨_, _, h, _⟩ := k; exact h
  | nils => rw [k]; rfl
  | nilp => rw [k]; rfl
  | ptr id off => obtain ⟨_, _, _, _, _, rfl⟩ := k; rfl
  | eptr id i off => obtain ⟨_, _, ⟨a, rfl⟩, _⟩ := k; rfl
  | fptr t x off => obtain ⟨_, _, rfl, _⟩ := k; rfl
  | fn f => rw [k]; rfl
  | sub id n => obtain ⟨_, _, h, _⟩ := k; exact h
  | win id lo n z => obtain ⟨_, _, _, _, rfl, _⟩ := k; rfl
  | slf id => rcases k with rfl | ⟨_, _, _, _, _, rfl⟩ <;> rfl
  | clo g ids => obtain ⟨_, rfl, _⟩ := k; rfl
  | anyb => obtain ⟨_, rfl⟩ := k; rfl
def CsRep (w : World) (A : Nat → Prop) (μ : Mu) (h : Heap) (cs : List C) (vs : List Value) : Prop := All2 (CRep w A μ h) cs vs
def SRep (w : World) (A : Nat → Prop) (μ : Mu) (h : Heap) : C ⊕ List C → Value → Prop
  | .inl .undef, _ => True
  | .inl c, v => CRep w A μ h c v
  | .inr cs, v => ∃ vs, v = .agg vs ∧ CsRep w A μ h cs vs.toList
def VRep (w : World) (A : Nat → Prop) (μ : Mu) (h : Heap) : V → Value → Prop
  | .c .undef, _ => True
  | .c c, v => CRep w A μ h c v
  | .agg cs, v => ∃ vs, v = .agg vs ∧ CsRep w A μ h cs vs.toList
  | .tup l, v => ∃ vs, v = .tuple vs ∧ All2 (SRep w A μ h) l vs.toList
theorem VRep.of_c {w : World} {A : Nat → Prop} {μ : Mu} {h : Heap} {c : C} {v : Value} (k : CRep w A μ h c v) : VRep w A μ h (.c c) v := by
  cases c <;> first | trivial | exact k
theorem SRep.of_c {w : World} {A : Nat → Prop} {μ : Mu} {h : Heap} {c : C} {v : Value} (k : CRep w A μ h c v) : SRep w A μ h (.inl c) v := by
  cases c <;> first | trivial | exact k
theorem SRep.to_c {w : World} {A : Nat → Prop} {μ : Mu} {h : Heap} {c : C} {v : Value} (hc : c ≠ .undef) (k : SRep w A μ h (.inl c) v) : CRep w A μ h c v := by
  cases c <;> first | exact k | exact absurd rfl hc
theorem VRep.to_c {w : World} {A : Nat → Prop} {μ : Mu} {h : Heap} {c : C} {v : Value} (hc : c ≠ .undef) (k : VRep w A μ h (.c c) v) : CRep w A μ h c v := by
  cases c <;> first | exact k | exact absurd rfl hc
def tagOk (t : Ty) (e : TypeId) : Prop := ∀ e', tagOf t = some e' → e = e'
theorem tagOk_none {t : Ty} {e : TypeId} (h : tagOf t = none) : tagOk t e := fun e' h' => by rw [h] at h'; cases h'
def RowAt (w : World) (A : Nat → Prop) (t : Ty) (xs : List t.den) (fz : Bool) (b cap : Nat) : Prop :=
  ∃ e cur fr, w.heap[b]? = some (.cells cur e fr) ∧ cur.size = cap * t.sz ∧ (0 < cap ∧ xs.length ≤ cap) ∧ cap ≤ maxLen ∧ ((fz = false → fr = (0, 0)) ∧ tagOk t e) ∧
    ∀ i x, xs[i]? = some x → ∃ ec : List Value, FRep w A t x ec ∧ ∀ j u, ec[j]? = some u → cur[i * t.sz + j]? = some u
def BRep (w : World) (A : Nat → Prop) (μ : Mu) (h : Heap) (m : Option (Nat × Nat)) : Blk → Prop
  | .box e cs => ∃ b c cur, m = some (b, c) ∧ w.heap[b]? = some (.cells cur e (0, 0)) ∧ CsRep w A μ h cs cur.toList ∧ c = 0
  | .row t xs fz => 0 < t.sz ∧ match m with
    | none => xs = []
    | some (b, cap) => RowAt w A t xs fz b cap ∧ (fz = true → ¬ A b)
  | .dead => True
def Blk.own : Blk → Bool
  | .box _ _ => true
  | .row _ _ fz => !fz
  | .dead => false
def Av (O : Nat → Prop) (μ : Mu) (h : Heap) (b : Nat) : Prop := O b ∨ ∃ id blk c, h id = some blk ∧ blk.own = true ∧ μ id = some (b, c)
structure Out where
  o : Nat → Prop
  i : Nat → Prop
  g : Nat → Value
instance : CoeFun Out (fun _ => Nat → Prop) := ⟨Out.o⟩
class Dr where
  d : Prop
instance (priority := low) Dr.base : Dr := ⟨False⟩
structure BelowD [Dr] (B : Nat) (w w' : World) : Prop extends Below B w w' where
  drawn : Dr.d → w.drawn ≤ w'.drawn
theorem BelowD.refl [Dr] (B : Nat) (w : World) : BelowD B w w := ⟨Below.refl _ _, fun _ => Nat.le_refl _⟩
theorem BelowD.drew [Dr] {B : Nat} {a w : World} (h : BelowD B a w) : BelowD B a w.drew := ⟨h.toBelow.drew, fun d => Nat.le_succ_of_le (h.drawn d)⟩
theorem BelowD.alloc [Dr] {B : Nat} {a w : World} (h : BelowD B a w) (hB : B ≤ w.heap.size) (o : Obj) : BelowD B a (w.alloc o) := ⟨h.toBelow.alloc hB o, h.drawn⟩
structure BelowX [Dr] (I : Nat → Prop) (w w' : World) : Prop where
  os : w'.os = w.os
  tape : w'.tape = w.tape
  output : w'.output = w.output
  size : w.heap.size ≤ w'.heap.size
  block : ∀ b, b < w.heap.size → ¬ I b → w'.heap[b]? = w.heap[b]?
  drawn : Dr.d → w.drawn ≤ w'.drawn
theorem BelowX.refl [Dr] (I : Nat → Prop) (w : World) : BelowX I w w := ⟨rfl, rfl, rfl, Nat.le_refl _, fun _ _ _ => rfl, fun _ => Nat.le_refl _⟩
theorem BelowX.of [Dr] {I : Nat → Prop} {w w' : World} (h : BelowD w.heap.size w w') : BelowX I w w' := ⟨h.os, h.tape, h.output, h.size, fun b hb _ => h.block b hb, h.drawn⟩
theorem BelowX.below [Dr] {w w' : World} {I : Nat → Prop} (hI : ∀ b, ¬ I b) (h : BelowX I w w') : Below w.heap.size w w' := ⟨h.os, h.tape, h.output, h.size, fun b hb => h.block b hb (hI b)⟩
theorem BelowX.trans [Dr] {I J : Nat → Prop} {w0 w w' : World} (h : BelowX I w0 w) (k : BelowX J w w') (hJ : ∀ b, b < w0.heap.size → J b → I b) : BelowX I w0 w' :=
  ⟨k.os.trans h.os, k.tape.trans h.tape, k.output.trans h.output, Nat.le_trans h.size k.size, fun b hb hI => by
    rw [k.block b (Nat.lt_of_lt_of_le hb h.size) (fun hj => hI (hJ b hb hj)), h.block b hb hI], fun d => Nat.le_trans (h.drawn d) (k.drawn d)⟩
def GRep (gl : GTab) (w : World) (A : Nat → Prop) : Prop := ∀ p ∈ gl, ∃ cs : List Value, FRep w A p.t p.x cs ∧ (¬ A p.g ∧ ∃ y z, w.heap[p.g]? = some (.cells cs.toArray y z)) ∧ ∀ j u, cs[j]? = some u → ¬ A p.g ∧ w.cell? ⟨p.g, j, none⟩ = some u
theorem GRep.frame {gl : GTab} {w w' : World} {A A' : Nat → Prop} (h1 : ∀ b, ¬ A b → b < w.heap.size → w'.heap[b]? = w.heap[b]?) (h2 : ∀ b, A' b → A b ∨ w.heap.size ≤ b) (h : GRep gl w A) : GRep gl w' A' := by
  intro p hp
  obtain ⟨cs, hf, ⟨hA, y, z, hb⟩, hc⟩ := h p hp
  have hlt : p.g < w.heap.size := (Array.getElem?_eq_some_iff.1 hb).1
  have hA2 : ¬ A' p.g := fun hA' => (h2 _ hA').elim hA (fun h => by omega)
  refine ⟨cs, FRep.frame h1 h2 hf, ⟨hA2, y, z, by rw [h1 _ hA hlt, hb]⟩, fun j u hu => ⟨hA2, ?_⟩⟩
  rw [← (hc j u hu).2]
  exact World.cell?_of_block (h1 _ hA hlt)
theorem GRep.mono {gl : GTab} {w : World} {A A' : Nat → Prop} (h2 : ∀ b, A' b → A b) (h : GRep gl w A) : GRep gl w A' := h.frame (fun _ _ _ => rfl) (fun b hb => .inl (h2 b hb))
structure RelM [Dr] (W0 : World) (O : Out) (μ : Mu) (st : St) (a : Act) (w : World) : Prop where
  tmps : ∀ t, VRep w (Av O μ st.heap) μ st.heap (st.tmp t) (a.tmps.getD t undef)
  blks : ∀ id blk, st.heap id = some blk → BRep w (Av O μ st.heap) μ st.heap (μ id) blk
  inj : ∀ id id' blk blk' b c c', st.heap id = some blk → st.heap id' = some blk' → blk.own = true → blk'.own = true → μ id = some (b, c) → μ id' = some (b, c') → id = id'
  fresh : ∀ id blk b c, st.heap id = some blk → blk.own = true → μ id = some (b, c) → W0.heap.size ≤ b ∨ O.i b
  below : BelowX O.i W0 w
  outer : ∀ b, O b → b < W0.heap.size ∧ ¬ O.i b
  size : a.tmps.size = st.n.n
  keep : ∀ p ∈ st.n.pr, a.tmps.getD p undef = O.g p
  defers : a.defers = []
  glob : GRep st.n.gl w (Av O μ st.heap)
def Rel [Dr] (W0 : World) (O : Out) (st : St) (a : Act) (w : World) : Prop := ∃ μ, RelM W0 O μ st a w
def compat (blk blk' : Blk) : Prop :=
  match blk' with
  | .row t' xs' _ => ∃ xs fz, blk = .row t' xs fz ∧ xs.length = xs'.length
  | _ => True
structure Step (w w' : World) (A A' : Nat → Prop) (μ μ' : Mu) (h h' : Heap) : Prop where
  mem : ∀ b, ¬ A b → b < w.heap.size → w'.heap[b]? = w.heap[b]?
  av : ∀ b, A' b → A b ∨ w.heap.size ≤ b
  blk : ∀ id blk, h id = some blk → ∃ blk', h' id = some blk' ∧ compat blk blk' ∧ μ' id = μ id
theorem Step.frep {w w' : World} {A A' : Nat → Prop} {μ μ' : Mu} {h h' : Heap} (s : Step w w' A A' μ μ' h h') {t : Ty} {x : t.den} {cs : List Value} (k : FRep w A t x cs) : FRep w' A' t x cs :=
  FRep.frame s.mem s.av k
theorem Step.crep {w w' : World} {A A' : Nat → Prop} {μ μ' : Mu} {h h' : Heap} (s : Step w w' A A' μ μ' h h') {c : C} {v : Value} (k : CRep w A μ h c v) : CRep w' A' μ' h' c v := by
  cases c with
  | undef => exact k
  | val t x => exact s.frep (t := t) k
  | ref id =>
    obtain ⟨blk, hb, h1, hr⟩ := k
    obtain ⟨blk', hb', hc, hμ⟩ := s.blk id blk hb
    refine ⟨blk', hb', h1, ?_⟩
    rintro t xs fz rfl
    obtain ⟨xs0, fz0, rfl, hl⟩ := hc
    rw [hμ, ← hl]
    exact hr t xs0 fz0 rfl
  | nils => exact k
  | nilp => exact k
  | ptr id off =>
    obtain ⟨blk, b, c, hb, hm, hv⟩ := k
    obtain ⟨blk', hb', _, hμ⟩ := s.blk id blk hb
    exact ⟨blk', b, c, hb', by rw [hμ, hm], hv⟩
  | eptr id i off =>
    obtain ⟨blk, hb, ha, hr⟩ := k
    obtain ⟨blk', hb', hc, hμ⟩ := s.blk id blk hb
    refine ⟨blk', hb', ha, ?_⟩
    rintro t xs fz rfl
    obtain ⟨xs0, fz0, rfl, hl⟩ := hc
    obtain ⟨h0, h1, b, c, hm, hv⟩ := hr t xs0 fz0 rfl
    exact ⟨h0, by rw [← hl]; exact h1, b, c, by rw [hμ, hm], hv⟩
  | fptr t x off =>
    obtain ⟨a, cs, hv, hf, hc⟩ := k
    refine ⟨a, cs, hv, s.frep hf, fun j u hu => ?_⟩
    obtain ⟨hA, hcell⟩ := hc j u hu
    have hb : (a.add j).block = a.block := by unfold Addr.add; split <;> rfl
    have hlt : a.block < w.heap.size := by
      have := World.block_lt_of_cell? w _ hcell
      rwa [hb] at this
    refine ⟨fun hA' => (s.av _ hA').elim hA (fun h => by omega), ?_⟩
    rw [← hcell]
    refine World.cell?_of_block ?_
    rw [hb]
    exact s.mem _ hA hlt
  | fn f => exact k
  | sub id n =>
    obtain ⟨blk, hb, h1, hr⟩ := k
    obtain ⟨blk', hb', hc, hμ⟩ := s.blk id blk hb
    refine ⟨blk', hb', h1, ?_⟩
    rintro t xs fz rfl
    obtain ⟨xs0, fz0, rfl, hl⟩ := hc
    rw [hμ, ← hl]
    exact hr t xs0 fz0 rfl
  | win id lo n z =>
    obtain ⟨blk, ad, c', hb, hv, hn, hr⟩ := k
    obtain ⟨blk', hb', hc, hμ⟩ := s.blk id blk hb
    refine ⟨blk', ad, c', hb', hv, hn, ?_⟩
    rintro t xs fz rfl ht h0
    obtain ⟨xs0, fz0, rfl, hl⟩ := hc
    rw [hμ, ← hl]
    exact hr t xs0 fz0 rfl ht h0
  | slf id =>
    rcases k with k | ⟨blk, b, c, hb, hm, hv⟩
    · exact .inl k
    · obtain ⟨blk', hb', _, hμ⟩ := s.blk id blk hb
      exact .inr ⟨blk', b, c, hb', by rw [hμ, hm], hv⟩
  | clo g ids =>
    obtain ⟨vs, hv, hall⟩ := k
    refine ⟨vs, hv, All2.mono (fun id u hq => ?_) hall⟩
    obtain ⟨blk, b, c, hb, hm, hv⟩ := hq
    obtain ⟨blk', hb', _, hμ⟩ := s.blk id blk hb
    exact ⟨blk', b, c, hb', by rw [hμ, hm], hv⟩
  | anyb => exact k
theorem Step.csrep {w w' : World} {A A' : Nat → Prop} {μ μ' : Mu} {h h' : Heap} (s : Step w w' A A' μ μ' h h') {cs : List C} {vs : List Value} (k : CsRep w A μ h cs vs) : CsRep w' A' μ' h' cs vs :=
  All2.mono (fun _ _ hc => s.crep hc) k
theorem Step.srep {w w' : World} {A A' : Nat → Prop} {μ μ' : Mu} {h h' : Heap} (s : Step w w' A A' μ μ' h h') {x : C ⊕ List C} {v : Value} (k : SRep w A μ h x v) : SRep w' A' μ' h' x v := by
  cases x with
  | inl c =>
    by_cases hc : c = .undef
    · subst hc; trivial
    · exact SRep.of_c (s.crep (SRep.to_c hc k))
  | inr cs => obtain ⟨vs, hv, hc⟩ := k; exact ⟨vs, hv, s.csrep hc⟩
theorem Step.vrep {w w' : World} {A A' : Nat → Prop} {μ μ' : Mu} {h h' : Heap} (s : Step w w' A A' μ μ' h h') {x : V} {v : Value} (k : VRep w A μ h x v) : VRep w' A' μ' h' x v := by
  cases x with
  | c c =>
    by_cases hc : c = .undef
    · subst hc; trivial
    · exact VRep.of_c (s.crep (VRep.to_c hc k))
  | agg cs => obtain ⟨vs, hv, hc⟩ := k; exact ⟨vs, hv, s.csrep hc⟩
  | tup l => obtain ⟨vs, hv, hc⟩ := k; exact ⟨vs, hv, All2.mono (fun _ _ hx => s.srep hx) hc⟩
theorem Step.brep {w w' : World} {A A' : Nat → Prop} {μ μ' : Mu} {h h' : Heap} (s : Step w w' A A' μ μ' h h') {m : Option (Nat × Nat)} {blk : Blk}
    (hm : ∀ b c, m = some (b, c) → b < w.heap.size → w'.heap[b]? = w.heap[b]?) (k : BRep w A μ h m blk) : BRep w' A' μ' h' m blk := by
  cases blk with
  | box e cs =>
    obtain ⟨b, c, cur, rfl, hb, hc, h0⟩ := k
    have hlt : b < w.heap.size := (Array.getElem?_eq_some_iff.1 hb).1
    exact ⟨b, c, cur, rfl, by rw [hm b c rfl hlt, hb], s.csrep hc, h0⟩
  | row t xs fz =>
    obtain ⟨hz, k⟩ := k
    refine ⟨hz, ?_⟩
    cases m with
    | none => exact k
    | some p =>
      obtain ⟨b, cap⟩ := p
      obtain ⟨⟨e, cur, fr, hb, hs, hl, hm', hf, hx⟩, hA⟩ := k
      have hlt : b < w.heap.size := (Array.getElem?_eq_some_iff.1 hb).1
      refine ⟨⟨e, cur, fr, by rw [hm b cap rfl hlt, hb], hs, hl, hm', hf, fun i x hi => ?_⟩, fun hfz hA' => (s.av _ hA').elim (hA hfz) (fun h => by omega)⟩
      obtain ⟨ec, he, hu⟩ := hx i x hi
      exact ⟨ec, s.frep he, hu⟩
  | dead => trivial
end Go.VM
