import Derived.Orders
import Derived.Laws.Sem
import Derived.KernelRfl
namespace Go.VM
inductive Ty where
  | int (k : IntKind) | bool | str | err | unit | pair (a b : Ty) | sl (t : Ty)
abbrev Ty.den : Ty → Type
  | .int _ => Int
  | .bool => Bool
  | .str => ByteArray
  | .err => Bool
  | .unit => Unit
  | .pair a b => a.den × b.den
  | .sl t => List t.den
def Ty.dflt : (t : Ty) → t.den
  | .int _ => (0 : Int)
  | .bool => false
  | .str => ByteArray.empty
  | .err => true
  | .unit => ()
  | .pair a b => (a.dflt, b.dflt)
  | .sl _ => []
def Ty.sz : Ty → Nat
  | .int _ | .bool | .str | .err | .sl _ => 1
  | .unit => 0
  | .pair a b => a.sz + b.sz
def Ty.flat : Ty → Bool
  | .int _ | .bool | .str | .err | .unit => true
  | .sl _ => false
  | .pair a b => a.flat && b.flat
def Ty.eq : (t u : Ty) → Option (PLift (t = u))
  | .int k, .int k' => if h : k = k' then some ⟨h ▸ rfl⟩ else none
  | .bool, .bool => some ⟨rfl⟩
  | .str, .str => some ⟨rfl⟩
  | .err, .err => some ⟨rfl⟩
  | .unit, .unit => some ⟨rfl⟩
  | .pair a b, .pair c d =>
    match Ty.eq a c, Ty.eq b d with
    | some h, some k => some ⟨h.down ▸ k.down ▸ rfl⟩
    | _, _ => none
  | .sl t, .sl u =>
    match Ty.eq t u with
    | some h => some ⟨h.down ▸ rfl⟩
    | none => none
  | _, _ => none
def Ty.mk : Ty → Bool
  | .pair .unit _ => true
  | _ => false
def nilB {α : Type} : List α → Bool
  | [] => true
  | _ :: _ => false
def unitsN : Ty → Option Nat
  | .unit => some 0
  | .pair .unit r => match unitsN r with | some n => some (n + 1) | none => none
  | _ => none
def tagOf : Ty → Option Nat
  | .pair (.int .u8) r => match unitsN r with | some (n + 1) => some n | _ => none
  | _ => none
def unitN : Nat → Ty
  | 0 => .unit
  | n + 1 => .pair .unit (unitN n)
abbrev byt (e : Nat) : Ty := .pair (.int .u8) (unitN (e + 1))
def castTo {t : Ty} (u : Ty) (x : t.den) : Option u.den :=
  match Ty.eq t u with
  | some h => some (h.down ▸ x)
  | none => none
inductive C where
  | undef
  | val (t : Ty) (x : t.den)
  | ref (id : Nat)
  | nils
  | nilp
  | ptr (id off : Nat)
  | eptr (id : Nat) (i : Int) (off : Nat)
  | fptr (t : Ty) (x : t.den) (off : Nat)
  | fn (f : Nat)
  | sub (id n : Nat)               -- the first n elements of an own row, in place
  | win (id lo n sz : Nat)         -- n elements from place lo on of an own row, in place; sz: cells of an element
  | slf (id : Nat)                 -- nil, or the pointer to box id
  | clo (g : Nat) (ids : List Nat) -- a function literal with the boxes that it has captured
  | anyb                           -- one of the two booleans
inductive V where
  | c (x : C)
  | agg (cs : List C)
  | tup (vs : List (C ⊕ List C))
inductive Blk where
  | box (e : TypeId) (cs : List C)     -- e: the type of what lies in it
  | row (t : Ty) (xs : List t.den) (fz : Bool)
  | dead
abbrev Heap := Nat → Option Blk
abbrev Upd := List (Nat × Blk)
structure Gl where
  g : Nat
  t : Ty
  x : t.den
abbrev GTab := List Gl
structure Fr where
  n : Nat
  pr : List Nat
  gl : GTab
structure St where
  tmp : Nat → V
  heap : Heap
  ep : Nat
  n : Fr
def updT (f : Nat → V) (t : Nat) (v : V) : Nat → V := fun j => bif Nat.beq j t then v else f j
def updH (h : Heap) (i : Nat) (b : Blk) : Heap := fun j => bif Nat.beq j i then some b else h j
def updsH (h : Heap) : Upd → Heap
  | [] => h
  | (i, b) :: r => updsH (updH h i b) r
def V.cells : V → Option (List C)
  | .c .undef => none
  | .c x => some [x]
  | .agg cs => some cs
  | .tup _ => none
def nth {α : Type} : List α → Nat → Option α
  | [], _ => none
  | x :: _, 0 => some x
  | _ :: l, n + 1 => nth l n
def cut {α : Type} : Nat → List α → List α
  | 0, l => l
  | _ + 1, [] => []
  | n + 1, _ :: l => cut n l
def first {α : Type} : Nat → List α → List α
  | 0, _ => []
  | _ + 1, [] => []
  | n + 1, x :: l => x :: first n l
def len' {α : Type} : List α → Nat
  | [] => 0
  | _ :: l => len' l + 1
def app {α : Type} : List α → List α → List α
  | [], m => m
  | x :: l, m => x :: app l m
def over {α : Type} : Nat → List α → List α → List α
  | 0, m, l => app m (cut (len' m) l)
  | n + 1, m, x :: l => x :: over n m l
  | _ + 1, _, [] => []
def rd {α : Type} (d : α) (xs : List α) (i : Int) : α := xs.getD i.toNat d
def bt (s : ByteArray) (i : Int) : Int := if h : i.toNat < s.size then ((s[i.toNat]'h).toNat : Int) else 0
def sliceOf {α : Type} (xs : List α) (l h : Int) : List α := (xs.take h.toNat).drop l.toNat
def explode : (t : Ty) → t.den → List C
  | .unit, _ => []
  | .pair a b, x => app (explode a x.1) (explode b x.2)
  | .int k, x => [.val (.int k) x]
  | .bool, x => [.val .bool x]
  | .str, x => [.val .str x]
  | .err, x => [.val .err x]
  | .sl t, x => [.val (.sl t) x]
def takeVal (t : Ty) : List C → Option (t.den × List C × List Nat)
  | .val u x :: r => match castTo t (t := u) x with | some y => some (y, r, []) | none => none
  | _ => none
def takeSl (h : Heap) (t : Ty) : List C → Option ((Ty.sl t).den × List C × List Nat)
  | .val u x :: r => match castTo (.sl t) (t := u) x with | some y => some (y, r, []) | none => none
  | .nils :: r => some (([] : List t.den), r, [])
  | .ref id :: r =>
    match h id with
    | some (.row u xs _) => match castTo (.sl t) (t := .sl u) xs with | some y => some (y, r, [id]) | none => none
    | _ => none
  | .sub id n :: r =>
    match h id with
    | some (.row u xs _) => match castTo (.sl t) (t := .sl u) (first n xs) with | some y => some (y, r, [id]) | none => none
    | _ => none
  | .win id lo n z :: r =>
    match h id with
    | some (.row u xs _) => bif Nat.beq u.sz z then (match castTo (.sl t) (t := .sl u) ((xs.drop lo).take n) with | some y => some (y, r, [id]) | none => none) else none
    | _ => none
  | _ => none
def takeMk (h : Heap) : (t : Ty) → List C → Option ((Ty.sl t).den × List C × List Nat)
  | t, .val u x :: r => match castTo (.sl t) (t := u) x with | some y => some (y, r, []) | none => none
  | t, .nils :: r => some (([] : List t.den), r, [])
  | .pair .unit v, .ref id :: r =>
    match h id with
    | some (.row u xs _) =>
      match castTo (.sl v) (t := .sl u) xs with
      | some y => bif v.mk || nilB (α := v.den) y then none else some (List.map (fun z : v.den => ((), z)) y, r, [id])
      | none => none
    | _ => none
  | _, _ => none
def implode (h : Heap) : (t : Ty) → List C → Option (t.den × List C × List Nat)
  | .unit, cs => some ((), cs, [])
  | .pair a b, cs =>
    match implode h a cs with
    | some (x, r, l) =>
      match implode h b r with
      | some (y, r', l') => some ((x, y), r', app l l')
      | none => none
    | none => none
  | .int k, cs => takeVal (.int k) cs
  | .bool, cs => takeVal .bool cs
  | .str, cs => takeVal .str cs
  | .err, cs => takeVal .err cs
  | .sl t, cs => bif t.mk then takeMk h t cs else takeSl h t cs
def freezes (h : Heap) : List Nat → Upd
  | [] => []
  | id :: l => match h id with
    | some (.row t xs _) => (id, .row t xs true) :: freezes h l
    | _ => freezes h l
def fieldsT (g : TypeId → Option Ty) : List Field → Option Ty
  | [] => some .unit
  | f :: fs => match g f.type with
    | some u => match fieldsT g fs with
      | some r => some (.pair u r)
      | none => none
    | none => none
def repT : Nat → Ty → Ty
  | 0, _ => .unit
  | n + 1, t => .pair t (repT n t)
def tyOf (P : Program) : Nat → TypeId → Option Ty
  | 0, _ => none
  | n + 1, t =>
    match P.underlying t with
    | some .bool => some .bool
    | some (.int k) => some (.int k)
    | some .string => some .str
    | some (.interface ..) => some .err
    | some (.slice e) => match tyOf P n e with | some u => some (.sl u) | none => none
    | some (.struct fs) => fieldsT (tyOf P n) fs.toList
    | some (.array k e) => match tyOf P n e with | some u => some (repT k u) | none => none
    | _ => none
def absC : Value → C
  | .bool b => .val .bool b
  | .int k n => .val (.int k) n
  | .string s => .val .str s
  | .slice none 0 0 => .nils
  | .pointer none => .nilp
  | .nilIface => .val .err true
  | _ => .undef
def absCs : List Value → List C
  | [] => []
  | v :: r => absC v :: absCs r
def absV : Value → V
  | .func (.func f) ⟨[]⟩ ⟨[]⟩ => .c (.fn f)
  | v => .c (absC v)
def Ty.isAgg : Ty → Bool
  | .pair _ _ | .unit => true
  | _ => false
def oneB : List Value → Bool
  | [] => true
  | v :: r => v.oneCell' && oneB r
def findG : GTab → Nat → V
  | [], _ => .c .undef
  | p :: r, g => bif Nat.beq p.g g then .c (.fptr p.t p.x 0) else findG r g
def St.ev (st : St) : Operand → V
  | .tmp t => st.tmp t
  | .const v => absV v
  | .global g => findG st.n.gl g
  | .func f => .c (.fn f)
def zInt (k : IntKind) : List Value → Option (List Value)
  | .int k' n :: r => bif decide (k = k') && decide (n = 0) then some r else none
  | _ => none
def zBool : List Value → Option (List Value)
  | .bool b :: r => bif b then none else some r
  | _ => none
def zStr : List Value → Option (List Value)
  | .string s :: r => bif Nat.beq s.size 0 then some r else none
  | _ => none
def zErr : List Value → Option (List Value)
  | .nilIface :: r => some r
  | _ => none
def zSl : List Value → Option (List Value)
  | .slice none 0 0 :: r => some r
  | _ => none
def zeroB : Ty → List Value → Option (List Value)
  | .unit, l => some l
  | .pair a b, l => match zeroB a l with | some r => zeroB b r | none => none
  | .int k, l => zInt k l
  | .bool, l => zBool l
  | .str, l => zStr l
  | .err, l => zErr l
  | .sl _, l => zSl l
def aggD : TypeDesc → Bool
  | .struct _ | .array _ _ => true
  | _ => false
inductive CK where
  | val (t : Ty) | row (t : Ty) | skip | nilp | slf | fn (f : Nat) | box (e : TypeId) (k : CK) | clo (g : Nat) (k : CK) | nil | cons (k ks : CK) | view (t : Ty)      -- view: a pointer to frozen data
def CK.ty : CK → Ty
  | .val t => t
  | .view t => t
  | .row t => .sl t
  | .box _ k => k.ty
  | .clo _ k => k.ty
  | .cons k ks => .pair k.ty ks.ty
  | _ => .unit
def CK.sz : CK → Nat
  | .val t => t.sz
  | .nil => 0
  | .cons k ks => k.sz + ks.sz
  | _ => 1
def CK.wd : CK → Nat
  | .row _ => 1
  | .box _ k => k.wd + 1
  | .clo _ k => k.wd
  | .cons k ks => k.wd + ks.wd
  | _ => 0
def CK.isAgg : CK → Bool
  | .val t => t.isAgg
  | .nil | .cons _ _ => true
  | _ => false
def CK.flat : CK → Bool
  | .val t | .row t => t.flat
  | .view _ => false
  | .box _ k | .clo _ k => k.flat
  | .cons k ks => k.flat && ks.flat
  | _ => true
def boxesB : CK → Bool
  | .nil => true
  | .cons (.box _ _) ks => boxesB ks
  | _ => false
inductive LK where
  | obj (k : CK) | same (s : Nat) | win (s sz : Nat) | fld (s off : Nat) | cs (g : Nat) (ss : List Nat)      -- a window of the row of place s; the row in the box of place s
abbrev Layout := List (Nat × LK)
def LK.ty : LK → Ty
  | .obj k => k.ty
  | .same _ => .unit
  | .win _ _ => .pair (.int .i64) (.int .i64)
  | .fld _ _ => .unit
  | .cs _ _ => .unit
def LK.wd : LK → Nat
  | .obj k => k.wd
  | .same _ => 0
  | .win _ _ => 0
  | .fld _ _ => 0
  | .cs _ _ => 0
def LK.flat : LK → Bool
  | .obj k => k.flat
  | .same _ => true
  | .win _ _ => true
  | .fld _ _ => true
  | .cs _ _ => true
def lTy : Layout → Ty
  | [] => .unit
  | (_, k) :: r => .pair k.ty (lTy r)
def lWd : Layout → Nat
  | [] => 0
  | (_, k) :: r => k.wd + lWd r
def lFlat : Layout → Bool
  | [] => true
  | (_, k) :: r => k.flat && lFlat r
def lay : Nat → List CK → Layout
  | _, [] => []
  | i, k :: r => (i, .obj k) :: lay (i + 1) r
inductive Ex where
  | normal | exit (id : Nat) | ret
def Ex.is : Ex → Ex → Bool
  | .normal, .normal => true
  | .exit i, .exit j => Nat.beq i j
  | .ret, .ret => true
  | _, _ => false
def Sum' : List (Ex × Layout) → Type
  | [] => Empty
  | [x] => (lTy x.2).den
  | x :: y :: r => (lTy x.2).den ⊕ Sum' (y :: r)
def SumL : List (List CK) → Type
  | [] => Empty
  | [x] => (lTy (lay 0 x)).den
  | x :: y :: r => (lTy (lay 0 x)).den ⊕ SumL (y :: r)
structure Sig where
  ins : List CK
  lent : List Nat
  outs : List (List CK)
  F : (lTy (lay 0 ins)).den → Option (SumL outs)
structure LoopSig where
  inL : Layout
  exits : List (Ex × Layout)
  F : Nat → (lTy inL).den → Option (Sum' exits)
def K' : Nat := 4194304      -- 65536 * 64
def nid (ep d c : Nat) : Nat := ep * K' + (d * 64 + c)
structure QFun where
  run : {R : Type} → Heap → Nat → List V → (V → Option R) → Option R
  nat : ∀ {R : Type} (h : Heap) (e : Nat) (args : List V) (K : V → Option R), run h e args K = (run h e args some).bind K
  frame : ∀ (h : Heap) (e : Nat) (args : List V) (v : V) (id : Nat) (b : Blk), h id = none → (∀ e' d, e ≤ e' → id ≠ nid e' d 0) → run h e args some = some v → run (updH h id b) e args some = some v
structure Env where
  P : Program
  G : GTab
  C : Nat → List Sig
  L : Nat → Option LoopSig
  J : Nat → Option LoopSig      -- cuts: what stands behind a ';', as a function of the state's places
  U : Nat → Nat                 -- loops that are laid out round by round: at most so many rounds
  k : Nat
  Q : Nat → Option QFun         -- functions that only look
  M : Bool                      -- rows are laid into places of slices that are nil wherever they are empty
def memN : Nat → List Nat → Bool
  | _, [] => false
  | n, m :: r => Nat.beq n m || memN n r
def nodupB : List Nat → Bool
  | [] => true
  | x :: r => !memN x r && nodupB r
def disjB : List Nat → List Nat → Bool
  | [], _ => true
  | x :: r, l => !memN x l && disjB r l
def somes : List (Option Nat) → List Nat
  | [] => []
  | none :: r => somes r
  | some x :: r => x :: somes r
def ptrs : List Nat → List C
  | [] => []
  | i :: r => .ptr i 0 :: ptrs r
def unptr : C → Nat
  | .ptr i _ => i
  | _ => 0
def unptrs : List C → List Nat
  | [] => []
  | c :: r => unptr c :: unptrs r
def ownsK (h : Heap) : CK → List C → List (Option Nat)
  | .row _, cs => match cs with
    | [.ref id] => [some id]
    | [.sub id _] => [some id]
    | _ => [none]
  | .box _ k, cs => match cs with
    | [.ptr id _] => some id :: (match h id with | some (.box _ ds) => ownsK h k ds | _ => [])
    | _ => []
  | .clo _ k, cs => match cs with
    | [.clo _ ids] => ownsK h k (ptrs ids)
    | _ => []
  | .cons k ks, cs => app (ownsK h k (first k.sz cs)) (ownsK h ks (cut k.sz cs))
  | _, _ => []
def takesK (h : Heap) : CK → List C → List Nat
  | .val t, cs => match implode h t cs with
    | some (_, _, ids) => ids
    | none => []
  | .box _ k, cs => match cs with
    | [.ptr id _] => match h id with | some (.box _ ds) => takesK h k ds | _ => []
    | _ => []
  | .clo _ k, cs => match cs with
    | [.clo _ ids] => takesK h k (ptrs ids)
    | _ => []
  | .cons k ks, cs => app (takesK h k (first k.sz cs)) (takesK h ks (cut k.sz cs))
  | _, _ => []
def decRow (h : Heap) (t : Ty) : C → Option (Ty.sl t).den
  | .nils => bif Nat.beq t.sz 0 then none else some ([] : List t.den)
  | .ref id => match h id with
    | some (.row u xs false) => castTo (.sl t) (t := .sl u) xs
    | _ => none
  | .sub id n => match h id with
    | some (.row u xs false) => castTo (.sl t) (t := .sl u) (first n xs)
    | _ => none
  | _ => none
def decView (t : Ty) : C → Option t.den
  | .fptr u x off => bif Nat.beq off 0 then castTo t (t := u) x else none
  | _ => none
def selfB (self : Option Nat) (id : Nat) : Bool := match self with | some j => Nat.beq id j | none => false
def decK (h : Heap) (ow : List Nat) : Option Nat → (k : CK) → List C → Option k.ty.den
  | _, .val t, cs => match implode h t cs with
    | some (x, [], ids) => bif disjB ids ow then some x else none
    | _ => none
  | _, .row t, cs => match cs with
    | [c] => decRow h t c
    | _ => none
  | _, .skip, cs => match cs with
    | [_] => some ()
    | _ => none
  | _, .nilp, cs => match cs with
    | [.nilp] => some ()
    | _ => none
  | self, .slf, cs => match cs with
    | [.nilp] => some ()
    | [.ptr id off] => bif Nat.beq off 0 && selfB self id then some () else none
    | [.slf id] => bif selfB self id then some () else none
    | _ => none
  | _, .fn f, cs => match cs with
    | [.fn g] => bif Nat.beq f g then some () else none
    | _ => none
  | _, .view t, cs => match cs with
    | [c] => decView t c
    | _ => none
  | _, .box e k, cs => match cs with
    | [.ptr id off] => bif Nat.beq off 0 then (match h id with
      | some (.box e' ds) => bif Nat.beq e e' then decK h ow (some id) k ds else none
      | _ => none) else none
    | _ => none
  | _, .clo g k, cs => match cs with
    | [.clo g' ids] => bif Nat.beq g g' && boxesB k then decK h ow none k (ptrs ids) else none
    | _ => none
  | _, .nil, cs => match cs with
    | [] => some ()
    | _ => none
  | self, .cons k ks, cs => match decK h ow self k (first k.sz cs) with
    | some x => match decK h ow self ks (cut k.sz cs) with
      | some y => some (x, y)
      | none => none
    | none => none
def V.cellsK (k : CK) : V → Option (List C)
  | .c .undef => none
  | .c x => bif k.isAgg then none else some [x]
  | .agg cs => bif k.isAgg then some cs else none
  | .tup _ => none
def ownsL (st : St) (s : Nat) : LK → List (Option Nat)
  | .obj k => match (st.tmp s).cellsK k with
    | some cs => ownsK st.heap k cs
    | none => []
  | .same _ => []
  | .win _ _ => []
  | .fld _ _ => []
  | .cs _ _ => []
def ownsLs (st : St) : Layout → List (Option Nat)
  | [] => []
  | (s, k) :: r => app (ownsL st s k) (ownsLs st r)
def takesL (st : St) (s : Nat) : LK → List Nat
  | .obj k => match (st.tmp s).cellsK k with
    | some cs => takesK st.heap k cs
    | none => []
  | .same _ => []
  | .win _ _ => []
  | .fld _ _ => []
  | .cs _ _ => []
def takesLs (st : St) : Layout → List Nat
  | [] => []
  | (s, k) :: r => app (takesL st s k) (takesLs st r)
def isRowB : Option Blk → Bool
  | some (.row _ _ _) => true
  | _ => false
def sameV (h : Heap) : V → V → Bool
  | .c (.ref i), .c (.ref j) => Nat.beq i j && isRowB (h i)
  | .c (.ptr i 0), .c (.ptr j 0) => Nat.beq i j
  | _, _ => false
def rowSz (h : Heap) (i z : Nat) : Bool := match h i with
  | some (.row t _ _) => Nat.beq t.sz z
  | _ => false
def winV (h : Heap) (sz : Nat) : V → V → Option (Int × Int)
  | .c (.win i lo n z), .c (.ref j) => bif Nat.beq i j && (rowSz h i sz && Nat.beq z sz) then some ((lo : Int), (n : Int)) else none
  | _, _ => none
def fldC (h : Heap) (x : V) (off : Nat) : V := match x with
  | .c (.ptr b 0) => match h b with
    | some (.box _ cs) => match nth cs off with
      | some (.ref j) => bif isRowB (h j) then .c (.ref j) else .c .undef
      | _ => .c .undef
    | _ => .c .undef
  | _ => .c .undef
def fldV (h : Heap) (x y : V) (off : Nat) : Bool := match x, fldC h y off with
  | .c (.ref i), .c (.ref j) => Nat.beq i j
  | _, _ => false
def ptrIds (tmp : Nat → V) : List Nat → Option (List Nat)
  | [] => some []
  | s :: r => match tmp s with
    | .c (.ptr i 0) => (match ptrIds tmp r with | some l => some (i :: l) | none => none)
    | _ => none
def eqNs : List Nat → List Nat → Bool
  | [], [] => true
  | x :: l, y :: m => Nat.beq x y && eqNs l m
  | _, _ => false
def cloV (tmp : Nat → V) (g : Nat) (ss : List Nat) : V → Bool
  | .c (.clo g' ids) => Nat.beq g g' && (match ptrIds tmp ss with | some l => eqNs ids l | none => false)
  | _ => false
def cloE (tmp : Nat → V) (g : Nat) (ss : List Nat) : V := match ptrIds tmp ss with
  | some ids => .c (.clo g ids)
  | none => .c .undef
def decL (st : St) (ow : List Nat) (s : Nat) : (k : LK) → Option k.ty.den
  | .obj k => match (st.tmp s).cellsK k with
    | some cs => decK st.heap ow none k cs
    | none => none
  | .same s' => bif sameV st.heap (st.tmp s) (st.tmp s') then some () else none
  | .win s' sz => winV st.heap sz (st.tmp s) (st.tmp s')
  | .fld s' off => bif fldV st.heap (st.tmp s) (st.tmp s') off then some () else none
  | .cs g ss => bif cloV st.tmp g ss (st.tmp s) then some () else none
def decLs (st : St) (ow : List Nat) : (l : Layout) → Option (lTy l).den
  | [] => some ()
  | (s, k) :: r => match decL st ow s k with
    | some x => match decLs st ow r with
      | some y => some (x, y)
      | none => none
    | none => none
def slotsB : Layout → List Nat
  | [] => []
  | (s, _) :: r => s :: slotsB r
def ltsB (n : Nat) : List Nat → Bool
  | [] => true
  | s :: r => Nat.blt s n && ltsB n r
def dec (l : Layout) (st : St) : Option (lTy l).den :=
  bif nodupB (somes (ownsLs st l)) && nodupB (slotsB l) && ltsB st.n.n (slotsB l) then decLs st (somes (ownsLs st l)) l else none
def encK (g : Nat → Nat) : Option Nat → Nat → (k : CK) → k.ty.den → List C × Upd
  | _, _, .val t, x => (explode t x, [])
  | _, i, .row t, x => ([.ref (g i)], [(g i, .row t x false)])
  | _, _, .skip, _ => ([.undef], [])
  | _, _, .nilp, _ => ([.nilp], [])
  | self, _, .slf, _ => ([match self with | some id => .slf id | none => .nilp], [])
  | _, _, .fn f, _ => ([.fn f], [])
  | _, _, .view t, x => ([.fptr t x 0], [])
  | _, i, .box e k, x => ([.ptr (g i) 0], (g i, .box e (encK g (some (g i)) (i + 1) k x).1) :: (encK g (some (g i)) (i + 1) k x).2)
  | _, i, .clo f k, x => ([.clo f (unptrs (encK g none i k x).1)], (encK g none i k x).2)
  | _, _, .nil, _ => ([], [])
  | self, i, .cons k ks, x => (app (encK g self i k x.1).1 (encK g self (i + k.wd) ks x.2).1, app (encK g self i k x.1).2 (encK g self (i + k.wd) ks x.2).2)
def kV (k : CK) (cs : List C) : V := bif k.isAgg then .agg cs else (match cs with | [c] => .c c | _ => .c .undef)
def winE (lo n sz : Nat) : V → V
  | .c (.ref id) => .c (.win id lo n sz)
  | _ => .c .undef
def sameE : V → V
  | .c (.val (.pair _ _) _) => .c .undef
  | .c (.val (.sl t) x) => bif t.mk then .c .undef else .c (.val (.sl t) x)
  | v => v
def encL (g : Nat → Nat) (tmp : Nat → V) (i : Nat) : (k : LK) → k.ty.den → V × Upd
  | .obj k, x => (kV k (encK g none i k x).1, (encK g none i k x).2)
  | .same s', _ => (sameE (tmp s'), [])
  | .win s' sz, x => (winE (Int.toNat x.1) (Int.toNat x.2) sz (tmp s'), [])
  | .fld _ _, _ => (.c .undef, [])
  | .cs f ss, _ => (cloE tmp f ss, [])
def encLs (g : Nat → Nat) : (Nat → V) → Nat → (l : Layout) → (lTy l).den → (Nat → V) × Upd
  | tmp, _, [], _ => (tmp, [])
  | tmp, i, (s, k) :: r, x =>
    ((encLs g (updT tmp s (encL g tmp i k x.1).1) (i + k.wd) r x.2).1, app (encL g tmp i k x.1).2 (encLs g (updT tmp s (encL g tmp i k x.1).1) (i + k.wd) r x.2).2)
def noTmp : Nat → V := fun _ => .c .undef
def noHeap : Heap := fun _ => none
def idN : Nat → Nat := fun i => i
def fillF (h : Heap) : Layout → (Nat → V) → Nat → V
  | [], tmp => tmp
  | (s, .fld s' off) :: r, tmp => fillF h r (updT tmp s (fldC h (tmp s') off))
  | (_, .obj _) :: r, tmp => fillF h r tmp
  | (_, .same _) :: r, tmp => fillF h r tmp
  | (_, .win _ _) :: r, tmp => fillF h r tmp
  | (_, .cs _ _) :: r, tmp => fillF h r tmp
def enc (n : Fr) (l : Layout) (x : (lTy l).den) : St :=
  { tmp := fillF (updsH noHeap (encLs idN noTmp 0 l x).2) l (encLs idN noTmp 0 l x).1, heap := updsH noHeap (encLs idN noTmp 0 l x).2, ep := 1, n := n }
section ops
variable {R : Type}
def intC (k : IntKind) (n : Int) : V := .c (.val (.int k) n)
def boolC (b : Bool) : V := .c (.val .bool b)
def strC (s : ByteArray) : V := .c (.val .str s)
def bitsOp (op : BinOp) (k : IntKind) (x y : Int) : Int :=
  let a := BitVec.ofInt k.bits x
  let b := BitVec.ofInt k.bits y
  match op with
  | .and => k.wrap (a &&& b).toNat
  | .or => k.wrap (a ||| b).toNat
  | .xor => k.wrap (a ^^^ b).toNat
  | _ => k.wrap (a &&& ~~~b).toNat
def binInt (op : BinOp) (k : IntKind) (a b : Int) (K : V → Option R) : Option R :=
  match op with
  | .add => K (intC k (k.wrap (a + b)))
  | .sub => K (intC k (k.wrap (a - b)))
  | .mul => K (intC k (k.wrap (a * b)))
  | .quo => bif decide (b = 0) then none else K (intC k (k.wrap (a.tdiv b)))
  | .rem => bif decide (b = 0) then none else K (intC k (a.tmod b))
  | .and => K (intC k (bitsOp .and k a b))
  | .or => K (intC k (bitsOp .or k a b))
  | .xor => K (intC k (bitsOp .xor k a b))
  | .andNot => K (intC k (bitsOp .andNot k a b))
  | .eql => K (boolC (a == b))
  | .neq => K (boolC (a != b))
  | .lss => K (boolC (decide (a < b)))
  | .leq => K (boolC (decide (a ≤ b)))
  | .gtr => K (boolC (decide (a > b)))
  | .geq => K (boolC (decide (a ≥ b)))
  | _ => none
theorem fitsS_ex : ∃ f : ByteArray → ByteArray → Bool, ∀ x y, f x y = decide (((x.size + y.size : Nat) : Int) ≤ 9223372036854775807) := ⟨_, fun _ _ => rfl⟩
noncomputable def fitsS : ByteArray → ByteArray → Bool := Classical.choose fitsS_ex
theorem fitsS_eq (x y : ByteArray) : fitsS x y = decide (((x.size + y.size : Nat) : Int) ≤ 9223372036854775807) := Classical.choose_spec fitsS_ex x y
noncomputable section
def binStr (op : BinOp) (x y : ByteArray) (K : V → Option R) : Option R :=
  match op with
  | .add => bif fitsS x y then K (strC (x ++ y)) else none
  | .eql => K (boolC (x.toList == y.toList))
  | .neq => K (boolC (!(x.toList == y.toList)))
  | .lss => K (boolC (Op.bytesLess x.toList y.toList))
  | .leq => K (boolC (Op.bytesLess x.toList y.toList || x.toList == y.toList))
  | .gtr => K (boolC (!(Op.bytesLess x.toList y.toList || x.toList == y.toList)))
  | .geq => K (boolC (!Op.bytesLess x.toList y.toList))
  | _ => none
def eqNilp : C → Option Bool
  | .nilp => some true
  | .ptr _ _ => some false
  | .eptr _ _ _ => some false
  | .fptr _ _ _ => some false
  | _ => none
def eqFs (P : Program) (g : TypeId → List C → List C → Option Bool) (cs ds : List C) : List Field → Option Bool
  | [] => some true
  | f :: fs => bif decide (f.name = "_") then none else
    match P.info? f.type, P.underlying f.type with
    | some i, some d =>
      bif Nat.ble (f.offset + i.size) (len' cs) && Nat.ble (f.offset + i.size) (len' ds) && (aggD d || Nat.beq i.size 1) then
        match g f.type (first i.size (cut f.offset cs)) (first i.size (cut f.offset ds)) with
        | some b => match eqFs P g cs ds fs with
          | some c => some (b && c)
          | none => none
        | none => none
      else none
    | _, _ => none
def eqAs (g : List C → List C → Option Bool) (sz : Nat) (cs ds : List C) : (n m : Nat) → Option Bool
  | 0, _ => some true
  | n + 1, m =>
    bif Nat.ble (m * sz + sz) (len' cs) && Nat.ble (m * sz + sz) (len' ds) then
      match g (first sz (cut (m * sz) cs)) (first sz (cut (m * sz) ds)) with
      | some b => match eqAs g sz cs ds n (m + 1) with
        | some c => some (b && c)
        | none => none
      | none => none
    else none
def eqT (P : Program) : Nat → TypeId → List C → List C → Option Bool
  | 0, _, _, _ => none
  | n + 1, t, cs, ds =>
    match P.underlying t with
    | some (.int _) => match cs, ds with
      | [.val (.int k) a], [.val (.int k') b] => bif decide (k = k') then some (a == b) else none
      | _, _ => none
    | some .bool => match cs, ds with
      | [.val .bool a], [.val .bool b] => some (a == b)
      | _, _ => none
    | some .string => match cs, ds with
      | [.val .str a], [.val .str b] => some (a == b)
      | _, _ => none
    | some (.struct fs) => bif P.stoodInHeld t then none else eqFs P (eqT P n) cs ds fs.toList
    | some (.array k e) => match P.info? e, P.underlying e with
      | some i, some d => bif aggD d || Nat.beq i.size 1 then eqAs (eqT P n e) i.size cs ds k 0 else none
      | _, _ => none
    | _ => none
def eqNilK (h : Heap) (c : C) (K : Option Bool → Option R) : Option R :=
  match c with
  | .nils => K (some true)
  | .ref id => match h id with
    | some (.row _ xs _) => bif nilB xs then K none else K (some false)
    | _ => none
  | .val (.sl t) xs => bif nilB xs then K (bif t.mk then some true else none) else K (some false)
  | _ => none
def ansV (neg : Bool) : Option Bool → V
  | none => .c .anyb
  | some b => boolC (bif neg then !b else b)
open Classical in
noncomputable def both {R : Type} (a b : Option R) : Option R := if a = b then a else none
def shiftOp (op : BinOp) (k : IntKind) (a b : Int) (K : V → Option R) : Option R :=
  bif decide (b < 0) then none else
  match op with
  | .shl => K (intC k (k.wrap (a * 2 ^ (min b.toNat k.bits))))
  | _ => K (intC k (a.fdiv (2 ^ (min b.toNat k.bits))))
def isShift : BinOp → Bool
  | .shl | .shr => true
  | _ => false
def binV (P : Program) (op : BinOp) (t : TypeId) (K : V → Option R) : (u : Ty) → u.den → (u' : Ty) → u'.den → Option R
  | .int k, a, .int k', b => bif isShift op then shiftOp op k a b K else bif decide (k = k') then binInt op k a b K else none
  | .str, a, .str, b => binStr op a b K
  | .bool, a, .bool, b =>
    match P.underlying t, op with
    | some .bool, .eql => K (boolC (a == b))
    | some .bool, .neq => K (boolC (!(a == b)))
    | _, _ => none
  | _, _, _, _ => none
def binC (P : Program) (h : Heap) (op : BinOp) (t : TypeId) (x y : C) (K : V → Option R) : Option R :=
  match y with
  | .val u' b => match x with
    | .val u a => binV P op t K u a u' b
    | _ => none
  | .nils =>
    match P.underlying t, op with
    | some (.slice _), .eql => eqNilK h x fun a => K (ansV false a)
    | some (.slice _), .neq => eqNilK h x fun a => K (ansV true a)
    | _, _ => none
  | .nilp =>
    match P.underlying t, eqNilp x, op with
    | some (.pointer _), some b, .eql => K (boolC b)
    | some (.pointer _), some b, .neq => K (boolC (!b))
    | _, _, _ => none
  | _ => none
def binK (P : Program) (h : Heap) (op : BinOp) (t : TypeId) (x y : V) (K : V → Option R) : Option R :=
  match x, y with
  | .c x, .c y => binC P h op t x y K
  | .agg xs, .agg ys =>
    match P.underlying t with
    | some d => bif !aggD d || P.eqGuardType P.depth t then none else
      match eqT P 20 t xs ys, op with
      | some b, .eql => K (boolC b)
      | some b, .neq => K (boolC (!b))
      | _, _ => none
    | none => none
  | _, _ => none
def errK (P : Program) (op : BinOp) (t : TypeId) (x : V) (K : V → Option R) : Option R :=
  match x with
  | .c (.val .err a) =>
    match P.underlying t, op with
    | some (.interface ..), .eql => K (boolC a)
    | some (.interface ..), .neq => K (boolC (!a))
    | _, _ => none
  | _ => none
def isNilI : Operand → Bool
  | .const .nilIface => true
  | _ => false
def unK (op : UnOp) (x : V) (K : V → Option R) : Option R :=
  match op, x with
  | .neg, .c (.val (.int k) a) => K (intC k (k.wrap (0 - a)))
  | .xor, .c (.val (.int k) a) => K (intC k (bitsOp .xor k (if k.signed then -1 else k.max) a))
  | .not, .c (.val .bool b) => K (boolC (!b))
  | _, _ => none
def encS (n : Int) : ByteArray := Utf8.encode n
def convK (P : Program) (src dst : TypeId) (x : V) (K : V → Option R) : Option R :=
  match P.underlying src, P.underlying dst, x with
  | some (.int _), some (.int k), .c (.val (.int _) n) => K (intC k (k.wrap n))
  | some .string, some .string, .c (.val .str s) => K (strC s)
  | some (.int _), some .string, .c (.val (.int _) n) => K (strC (encS n))
  | _, _, _ => none
def bytesOf (xs : List Int) : ByteArray := xs.foldl (fun r n => r.push (UInt8.ofNat n.toNat)) ByteArray.empty
def isSliceT (P : Program) (t : TypeId) : Bool := match P.underlying t with | some (.slice _) => true | _ => false
def convS (P : Program) (h : Nat → Option Blk) (src dst : TypeId) (x : V) (K : V → Option R) : Option R :=
  match P.underlying dst, P.underlying src with
  | some .string, some (.slice e) => match P.underlying e with
    | some (.int .u8) => match x with
      | .c .nils => K (strC (bytesOf []))
      | .c (.val (.sl (.int .u8)) xs) => K (strC (bytesOf xs))
      | .c (.ref id) => match h id with
        | some (.row (.int .u8) xs _) => K (strC (bytesOf xs))
        | _ => none
      | _ => none
    | _ => none
  | _, _ => none
def loadCs (P : Program) (t : TypeId) (off : Nat) (cs : List C) (K : V → Option R) : Option R :=
  match P.info? t, P.underlying t with
  | some i, some d =>
    bif aggD d then
      bif Nat.ble (off + i.size) (len' cs) then K (.agg (first i.size (cut off cs))) else none
    else match nth cs off with
      | some c => K (.c c)
      | none => none
  | _, _ => none
def rdH (h : Heap) (lim : Option Nat) (id : Nat) : Option Blk :=
  match lim with
  | none => h id
  | some l => bif Nat.blt id l then h id else none
def opLoad (P : Program) (h : Heap) (lim : Option Nat) (t : TypeId) (x : V) (K : V → Option R) : Option R :=
  match x with
  | .c (.ptr id off) => match rdH h lim id with
    | some (.box _ cs) => loadCs P t off cs K
    | _ => none
  | .c (.eptr id i off) => match rdH h lim id with
    | some (.row u xs _) => loadCs P t off (explode u (rd u.dflt xs i)) K
    | _ => none
  | .c (.fptr u x off) => loadCs P t off (explode u x) K
  | _ => none
def markedAt (cs : List C) (off : Nat) : Option Ty :=
  match nth cs off with
  | some (.val (.sl (.pair .unit v)) _) => some v
  | _ => none
def rowFor (h : Heap) (v : Ty) : List C → Option (Nat × List v.den)
  | [.ref j] => match h j with
    | some (.row u xs _) => match castTo (.sl v) (t := .sl u) xs with | some y => some (j, y) | none => none
    | _ => none
  | _ => none
def markC (v : Ty) (y : List v.den) : C := .val (.sl (.pair .unit v)) (List.map (fun z : v.den => ((), z)) y)
def opStore (P : Program) (mk : Bool) (h : Heap) (t : TypeId) (x v : V) (K : Upd → Option R) : Option R :=
  match P.info? t, v.cells with
  | some i, some vc =>
    bif Nat.beq (len' vc) i.size then
      match x with
      | .c (.ptr id off) => match h id with
        | some (.box e cs) => bif Nat.ble (off + i.size) (len' cs) then
            (match (bif mk then markedAt cs off else none) with
            | none => K [(id, .box e (over off vc cs))]
            | some v => match rowFor h v vc with
              | none => K [(id, .box e (over off vc cs))]
              | some (j, y) => bif v.mk || nilB y then none else K (app (freezes h [j]) [(id, .box e (over off [markC v y] cs))])) else none
        | _ => none
      | .c (.eptr id j off) => match h id with
        | some (.row u xs false) =>
          bif Nat.ble (off + i.size) u.sz then
            match implode h u (over off vc (explode u (rd u.dflt xs j))) with
            | some (y, [], l) => bif memN id l then none else K (app (freezes h l) [(id, .row u (xs.set j.toNat y) false)])
            | _ => none
          else none
        | _ => none
      | _ => none
    else none
  | _, _ => none
def fieldsOf (P : Program) (t : TypeId) : List Field :=
  match P.underlying t with
  | some (.struct fs) => fs.toList
  | _ => []
def opFieldAddr (P : Program) (s : TypeId) (x : V) (f : Nat) (K : V → Option R) : Option R :=
  match nth (fieldsOf P s) f with
  | some fd => match P.info? fd.type with
    | some i => bif Nat.beq i.size 0 then none else
      match x with
      | .c (.ptr id off) => K (.c (.ptr id (off + fd.offset)))
      | .c (.eptr id j off) => K (.c (.eptr id j (off + fd.offset)))
      | .c (.fptr u y off) => K (.c (.fptr u y (off + fd.offset)))
      | _ => none
    | none => none
  | none => none
def opField (P : Program) (t : TypeId) (x : V) (f : Nat) (K : V → Option R) : Option R :=
  match x, nth (fieldsOf P t) f with
  | .agg cs, some fd => loadCs P fd.type fd.offset cs K
  | _, _ => none
def splitK (i : Int) (K : Nat → Option R) : (n m : Nat) → Option R
  | 0, _ => none
  | n + 1, m => bif (i == (m : Int)) then K m else splitK i K n (m + 1)
def opIndexAddr (P : Program) (h : Heap) (lim : Option Nat) (t : TypeId) (x i : V) (K : V → Option R) : Option R :=
  match i with
  | .c (.val (.int _) i) =>
    match P.underlying t with
    | some (.slice e) => match P.info? e with
      | some ie =>
        match x with
        | .c (.val (.sl u) xs) => bif Nat.beq ie.size u.sz then (bif decide (0 ≤ i) && decide (i < (xs.length : Int)) then K (.c (.fptr u (rd u.dflt xs i) 0)) else none) else none
        | .c (.ref id) => match rdH h lim id with
          | some (.row u xs _) => bif Nat.beq ie.size u.sz then (bif decide (0 ≤ i) && decide (i < (xs.length : Int)) then K (.c (.eptr id i 0)) else none) else none
          | _ => none
        | .c (.sub id n) => match rdH h lim id with
          | some (.row u xs _) => bif Nat.beq ie.size u.sz then (bif decide (0 ≤ i) && decide (i < (n : Int)) then K (.c (.eptr id i 0)) else none) else none
          | _ => none
        | .c (.win id lo n z) => match rdH h lim id with
          | some (.row u xs _) => bif Nat.beq ie.size u.sz && Nat.beq u.sz z then (bif decide (0 ≤ i) && decide (i < (n : Int)) then K (.c (.eptr id ((lo : Int) + i) 0)) else none) else none
          | _ => none
        | _ => none
      | none => none
    | some (.array n e) => match P.info? e with
      | some ie =>
        match x with
        | .c (.ptr id off) => splitK i (fun m => K (.c (.ptr id (off + m * ie.size)))) n 0
        | .c (.eptr id j off) => splitK i (fun m => K (.c (.eptr id j (off + m * ie.size)))) n 0
        | .c (.fptr u y off) => splitK i (fun m => K (.c (.fptr u y (off + m * ie.size)))) n 0
        | _ => none
      | none => none
    | _ => none
  | _ => none
def opIndex (P : Program) (t : TypeId) (x i : V) (K : V → Option R) : Option R :=
  match i with
  | .c (.val (.int _) i) =>
    match P.underlying t, x with
    | some .string, .c (.val .str s) => bif decide (0 ≤ i) && decide (i < (s.size : Int)) then K (intC .u8 (bt s i)) else none
    | some (.array n e), .agg cs => match P.info? e with
      | some ie => splitK i (fun m => loadCs P e (m * ie.size) cs K) n 0
      | none => none
    | _, _ => none
  | _ => none
def bndLo (x : Option V) : Option Int :=
  match x with
  | none => some 0
  | some (.c (.val (.int _) i)) => some i
  | _ => none
def bndHi (n : Int) (x : Option V) : Option Int :=
  match x with
  | none => some n
  | some (.c (.val (.int _) i)) => some i
  | _ => none
def sizeB (P : Program) (e : TypeId) (u : Ty) : Bool := match P.info? e with | some i => Nat.beq i.size u.sz | none => false
def elemTy (P : Program) (t : TypeId) : Option (TypeId × TypeInfo × Ty) :=
  match P.underlying t with
  | some (.slice e) => match P.info? e with
    | some i => match tyOf P 20 e with
      | some u => bif Nat.beq i.size u.sz && !Nat.beq i.size 0 && (Nat.ble i.bytes 65536 && !Nat.beq i.bytes 0) then
          bif (tagOf u).isNone then
          match i.zero with
          | some z => match zeroB u z.cells.toList with
            | some [] => some (e, i, u)
            | _ => none
          | none => none
          else none
        else none
      | none => none
    | none => none
  | _ => none
def sizeM (P : Program) (e : TypeId) (u : Ty) : Bool := sizeB P e u && !u.mk
def sliceRow (P : Program) (e : TypeId) (id : Nat) (u : Ty) (xs ys : List u.den) (fz : Bool) (lo hi : Option V) {R : Type} (K : V → Upd → Option R) : Option R :=
  match bndLo lo, bndHi ys.length hi with
  | some l, some h =>
    bif fz then (bif sizeM P e u && (decide (0 ≤ l) && (decide (l ≤ h) && decide (h ≤ (ys.length : Int)))) then K (.c (.val (.sl u) (sliceOf ys l h))) [(id, .row u xs true)] else none)
    else bif sizeB P e u && (decide (0 ≤ l) && (decide (l ≤ h) && decide (h ≤ (xs.length : Int)))) then
      (bif lo.isSome then K (.c (.win id l.toNat (h - l).toNat u.sz)) [] else K (.c (.sub id h.toNat)) []) else none
  | _, _ => none
def sliceRowL (P : Program) (e : TypeId) (id : Nat) (u : Ty) (xs ys : List u.den) (fz : Bool) (lo hi : Option V) {R : Type} (K : V → Upd → Option R) : Option R :=
  bif fz then none else sliceRow P e id u xs ys false lo hi K
def zeroB2 (lo hi : Option V) (mx : V) : Bool :=
  match lo, hi, mx with
  | none, some (.c (.val (.int _) a)), .c (.val (.int _) b) => decide (a = 0) && decide (b = 0)
  | _, _, _ => false
def slB (h : Heap) : V → Bool
  | .c (.val (.sl _) _) | .c .nils => true
  | .c (.ref id) => isRowB (h id)
  | .c (.sub id _) => isRowB (h id)
  | .c (.win _ _ _ _) => true
  | _ => false
def slLen (h : Heap) : V → Option Nat
  | .c (.val (.sl _) xs) => some xs.length
  | .c .nils => some 0
  | .c (.ref id) => match h id with | some (.row _ xs _) => some xs.length | _ => none
  | .c (.sub id n) => bif isRowB (h id) then some n else none
  | .c (.win _ _ n _) => some n
  | _ => none
def slice3 (h : Heap) (x : V) (lo hi : Option V) (m : V) (K : V → Upd → Option R) : Option R :=
  match slLen h x, bndLo lo, hi, m with
  | some n, some l, some (.c (.val (.int _) b)), .c (.val (.int _) c) => bif decide (0 ≤ l) && (decide (l ≤ b) && (decide (b ≤ c) && decide (c ≤ (n : Int)))) then K (.c .undef) [] else none
  | _, _, _, _ => none
def opSlice (P : Program) (id : Nat) (h : Heap) (lim : Option Nat) (t : TypeId) (x : V) (lo hi mx : Option V) (K : V → Upd → Option R) : Option R :=
  match mx with
  | some m => match lim, elemTy P t, h id with
    | none, some (_, _, u), none => bif zeroB2 lo hi m && slB h x then K (.c (.ref id)) [(id, .row u ([] : List u.den) false)] else slice3 h x lo hi m K
    | _, _, _ => none
  | none =>
    match P.underlying t, x with
    | some .string, .c (.val .str s) => match bndLo lo, bndHi s.size hi with
      | some l, some h => bif decide (0 ≤ l) && (decide (l ≤ h) && decide (h ≤ (s.size : Int))) then K (strC (s.extract l.toNat h.toNat)) [] else none
      | _, _ => none
    | some (.slice e), .c (.val (.sl u) xs) => match bndLo lo, bndHi xs.length hi with
      | some l, some h => bif sizeM P e u && (decide (0 ≤ l) && (decide (l ≤ h) && decide (h ≤ (xs.length : Int)))) then K (.c (.val (.sl u) (sliceOf xs l h))) [] else none
      | _, _ => none
    | some (.slice e), .c (.ref id) =>
      match lim with
      | none => match h id with
        | some (.row u xs fz) => sliceRow P e id u xs xs fz lo hi K
        | _ => none
      | some l => match rdH h (some l) id with
        | some (.row u xs fz) => sliceRowL P e id u xs xs fz lo hi K
        | _ => none
    | some (.slice e), .c (.sub id n) =>
      match lim with
      | none => match h id with
        | some (.row u xs fz) => sliceRow P e id u xs (first n xs) fz lo hi K
        | _ => none
      | some l => match rdH h (some l) id with
        | some (.row u xs fz) => sliceRowL P e id u xs (first n xs) fz lo hi K
        | _ => none
    | some (.slice e), .c .nils => match bndLo lo, bndHi 0 hi with
      | some l, some h => bif (P.info? e).isSome && (decide (l = 0) && decide (h = 0)) then K (.c .nils) [] else none
      | _, _ => none
    | _, _ => none
def opMakeSlice (P : Program) (id : Nat) (h : Heap) (t : TypeId) (l c : V) (K : V → Upd → Option R) : Option R :=
  match elemTy P t, l, c with
  | some (_, i, u), .c (.val (.int _) l), .c (.val (.int _) c) =>
    match h id with
    | none => bif decide (0 ≤ l) && (decide (l ≤ c) && decide ((i.bytes : Int) * c ≤ 281474976710656)) && decide (c ≤ 9223372036854775807) then
        K (.c (.ref id)) [(id, .row u (List.replicate l.toNat u.dflt) false)] else none
    | some _ => none
  | _, _, _ => none
def litRow (h : Heap) (u : Ty) : Nat → List (Nat × V) → Option (List u.den × List Nat)
  | _, [] => some ([], [])
  | m, (i, v) :: r =>
    bif Nat.beq i m then
      match v.cells with
      | some vc => match implode h u vc with
        | some (x, [], l) => match litRow h u (m + 1) r with
          | some (xs, l') => some (x :: xs, app l l')
          | none => none
        | _ => none
      | none => none
    else none
def opBuildSlice (P : Program) (id : Nat) (h : Heap) (lim : Option Nat) (t : TypeId) (n : Nat) (parts : List (Nat × V)) (K : V → Upd → Option R) : Option R :=
  match elemTy P t, h id with
  | some (_, i, u), none =>
    bif Nat.beq n (len' parts) && Nat.ble (n * i.size) 16777216 then
      match litRow h u 0 parts with
      | some (xs, l) =>
        match lim, l with
        | some _, _ :: _ => none
        | _, _ => K (.c (.ref id)) (app (freezes h l) [(id, .row u xs false)])
      | none => none
    else none
  | _, _ => none
def opLen (P : Program) (h : Heap) (lim : Option Nat) (t : TypeId) (x : V) (K : V → Option R) : Option R :=
  match P.underlying t, x with
  | some .string, .c (.val .str s) => K (intC .i64 (s.size : Int))
  | some (.slice _), .c (.val (.sl _) xs) => K (intC .i64 (xs.length : Int))
  | some (.slice _), .c .nils => K (intC .i64 0)
  | some (.slice _), .c (.ref id) => match rdH h lim id with
    | some (.row _ xs _) => K (intC .i64 (xs.length : Int))
    | _ => none
  | some (.slice _), .c (.sub id n) => match rdH h lim id with
    | some (.row _ _ _) => K (intC .i64 (n : Int))
    | _ => none
  | some (.slice _), .c (.win _ _ n _) => K (intC .i64 (n : Int))
  | some (.array n _), _ => K (intC .i64 (n : Int))
  | _, _ => none
def readSl (h : Heap) (u : Ty) : V → Option (List u.den)
  | .c .nils => some []
  | .c (.val t xs) => castTo (.sl u) (t := t) xs
  | .c (.ref id) => match h id with
    | some (.row t xs _) => castTo (.sl u) (t := .sl t) xs
    | _ => none
  | .c (.sub id n) => match h id with
    | some (.row t xs _) => castTo (.sl u) (t := .sl t) (first n xs)
    | _ => none
  | .c (.win id lo n z) => match h id with
    | some (.row t xs _) => bif Nat.beq t.sz z then castTo (.sl u) (t := .sl t) ((xs.drop lo).take n) else none
    | _ => none
  | _ => none
def winOf (r : Nat) : V → Bool
  | .c (.win r' _ _ _) => Nat.beq r r'
  | _ => false
def opClear (P : Program) (h : Heap) (t : TypeId) (x : V) (K : Upd → Option R) : Option R :=
  match elemTy P t, x with
  | some (_, _, u), .c (.win id lo n z) => match h id with
    | some (.row u' xs false) => match castTo (.sl u) (t := .sl u') xs with
      | some xs => bif Nat.beq u.sz z && Nat.ble (lo + n) xs.length then K [(id, .row u (xs.take lo ++ (List.replicate n u.dflt ++ xs.drop (lo + n))) false)] else none
      | none => none
    | _ => none
  | _, _ => none
def roomN : Nat := 140737488355328      -- 2 ^ 47 bytes
def unitV : (n : Nat) → (unitN n).den
  | 0 => ()
  | n + 1 => ((), unitV n)
def strL (e : Nat) (s : ByteArray) : List (byt e).den := s.data.toList.map (fun b => ((b.toNat : Int), unitV (e + 1)))
def appStr (P : Program) (id : Nat) (h : Heap) (t2 e : TypeId) (i : TypeInfo) (u : Ty) (x y : V) (K : V → Upd → Option R) : Option R :=
  match u, P.underlying t2, x, y with
  | .int .u8, some .string, .c (.ref r), .c (.val .str s) =>
    match h r with
    | some (.row u' xs false) => match castTo (.sl (byt e)) (t := .sl u') xs with
      | some xs => bif decide ((List.length (α := (byt e).den) xs + s.size) * i.bytes ≤ roomN) then K (.c (.ref id)) [(r, .dead), (id, .row (byt e) ((xs : List (byt e).den) ++ strL e s) false)] else none
      | none => none
    | _ => none
  | _, _, _, _ => none
def opAppend (P : Program) (id : Nat) (h : Heap) (t t2 : TypeId) (x y : V) (K : V → Upd → Option R) : Option R :=
  match elemTy P t, elemTy P t2, h id with
  | some (_, i, u), some _, none =>
    match readSl h u y with
    | some ys =>
      match x with
      | .c .nils => bif decide (ys.length * i.bytes ≤ roomN) then K (.c (.ref id)) [(id, .row u ys false)] else none
      | .c (.ref r) => match h r with
        | some (.row u' xs false) => match castTo (.sl u) (t := .sl u') xs with
          | some xs => bif decide ((xs.length + ys.length) * i.bytes ≤ roomN) then K (.c (.ref id)) [(r, .dead), (id, .row u (xs ++ ys) false)] else none
          | none => none
        | _ => none
      | .c (.sub r n) => match h r with
        | some (.row u' xs false) => match castTo (.sl u) (t := .sl u') xs with
          | some xs => bif winOf r y then
              (bif decide (n + ys.length ≤ xs.length) && decide (0 < xs.length) then K (.c (.sub r (n + ys.length))) [(r, .row u (xs.take n ++ (ys ++ xs.drop (n + ys.length))) false)] else none)
            else bif decide (((first n xs).length + ys.length) * i.bytes ≤ roomN) then K (.c (.ref id)) [(r, .dead), (id, .row u (first n xs ++ ys) false)] else none
          | none => none
        | _ => none
      | _ => none
    | none => none
  | some (e, i, u), none, none => appStr P id h t2 e i u x y K
  | _, _, _ => none
def minK : List V → Option V
  | [] => none
  | x :: r => go x r
where
  go (x : V) : List V → Option V
    | [] => some x
    | y :: r => match x, y with
      | .c (.val (.int k) a), .c (.val (.int _) b) => go (intC k (if b < a then b else a)) r
      | _, _ => none
def maxK : List V → Option V
  | [] => none
  | x :: r => go x r
where
  go (x : V) : List V → Option V
    | [] => some x
    | y :: r => match x, y with
      | .c (.val (.int k) a), .c (.val (.int _) b) => go (intC k (if b > a then b else a)) r
      | _, _ => none
def opExtract (x : V) (i : Nat) (K : V → Option R) : Option R :=
  match x with
  | .tup vs => match nth vs i with
    | some (.inl c) => K (.c c)
    | some (.inr cs) => K (.agg cs)
    | none => none
  | _ => none
def listV (l : List V) : Nat → V := fun i => match nth l i with | some v => v | none => .c .undef
def argSt (h : Heap) (args : List V) : St := { tmp := listV args, heap := h, ep := 1, n := ⟨len' args, [], []⟩ }
def kills : List Nat → Upd
  | [] => []
  | i :: r => (i, .dead) :: kills r
def pick {α : Type} (d : α) (l : List α) : List Nat → List α
  | [] => []
  | p :: r => (match nth l p with | some x => x | none => d) :: pick d l r
def rootsK (i : Nat) : CK → List C → List (Nat × Nat)
  | .row _, cs => match cs with
    | [.ref id] => [(i, id)]
    | _ => []
  | .box _ _, cs => match cs with
    | [.ptr id _] => [(i, id)]
    | _ => []
  | .clo _ k, cs => match cs with
    | [.clo _ ids] => rootsK i k (ptrs ids)
    | _ => []
  | .cons k ks, cs => app (rootsK i k (first k.sz cs)) (rootsK (i + k.wd) ks (cut k.sz cs))
  | _, _ => []
def rootsLs (i : Nat) : List CK → List V → List (Nat × Nat)
  | k :: ks, v :: vs => app (match v.cellsK k with | some cs => rootsK i k cs | none => []) (rootsLs (i + k.wd) ks vs)
  | _, _ => []
def wds : List CK → Nat
  | [] => 0
  | k :: r => k.wd + wds r
def assoc (i : Nat) : List (Nat × Nat) → Option Nat
  | [] => none
  | (j, x) :: r => bif Nat.beq i j then some x else assoc i r
def named (base : Nat) (roots : List (Nat × Nat)) : Nat → Nat := fun i => match assoc i roots with | some x => x | none => base + i
def sndN : List (Nat × Nat) → List Nat
  | [] => []
  | (_, x) :: r => x :: sndN r
def rootOk : Option Blk → Blk → Bool
  | some (.row t _ _), .row t' _ _ => (Ty.eq t t').isSome
  | some (.box _ _), .box _ _ => true
  | _, _ => false
def freeUpd (h : Heap) (roots : List (Nat × Nat)) : Nat → Upd → Bool
  | _, [] => true
  | j, (i, b) :: r => (match assoc j roots with | some _ => rootOk (h i) b | none => (match h i with | none => true | some _ => false)) && freeUpd h roots (j + 1) r
def keysU : Upd → List Nat
  | [] => []
  | (i, _) :: r => i :: keysU r
def allMem : List Nat → List Nat → Bool
  | [], _ => true
  | x :: r, l => memN x l && allMem r l
def ltAll (l : Nat) : List Nat → Bool
  | [] => true
  | x :: r => Nat.blt x l && ltAll l r
def resV : V → C ⊕ List C
  | .c x => .inl x
  | .agg cs => .inr cs
  | .tup _ => .inl .undef
def firstVs (f : Nat → V) : Nat → Nat → List (C ⊕ List C)
  | _, 0 => []
  | i, n + 1 => resV (f i) :: firstVs f (i + 1) n
def tupV : List (C ⊕ List C) → V
  | [.inl c] => .c c
  | [.inr cs] => .agg cs
  | l => .tup l
def outK {R : Type} (K : (l : List CK) → (lTy (lay 0 l)).den → Option R) : (ls : List (List CK)) → SumL ls → Option R
  | [], x => nomatch x
  | [l], x => K l x
  | l :: l' :: r, x => Sum.elim (fun y => K l y) (fun y => outK K (l' :: r) y) x
def callOut (base : Nat) (h : Heap) (lent : List Nat) (args : List V) (ow fz : List Nat) (K : V → Upd → Option R) (l : List CK) (y : (lTy (lay 0 l)).den) : Option R :=
  let m := len' l - len' lent
  let roots := rootsLs (wds (first m l)) (cut m l) (pick (.c .undef) args lent)
  let e := encLs (named base roots) noTmp 0 (lay 0 l) y
  bif freeUpd h roots 0 e.2 && (nodupB (keysU e.2) && (allMem (sndN roots) ow && Nat.ble (len' lent) (len' l))) then
    K (tupV (firstVs e.1 0 m)) (app (bif lFlat (lay 0 l) then [] else freezes h fz) (app (kills ow) e.2))
  else none
def allFlat : List (List CK) → Bool
  | [] => true
  | l :: r => lFlat (lay 0 l) && allFlat r
def allWd : List (List CK) → Bool
  | [] => true
  | l :: r => Nat.blt (wds l) 60 && allWd r
def callLim (lim : Option Nat) (ow fz : List Nat) (outs : List (List CK)) : Bool :=
  match lim with
  | none => true
  | some b => (match ow with | [] => true | _ => false) && (ltAll b fz && (allFlat outs || (match fz with | [] => true | _ => false)) && allWd outs)
def callSig (id : Nat) (h : Heap) (lim : Option Nat) (args : List V) (K : V → Upd → Option R) (s : Sig) (x : (lTy (lay 0 s.ins)).den) : Option R :=
  bif Nat.beq (len' args) (len' s.ins) && callLim lim (somes (ownsLs (argSt h args) (lay 0 s.ins))) (takesLs (argSt h args) (lay 0 s.ins)) s.outs then
    (s.F x).bind fun y => outK (callOut id h s.lent args (somes (ownsLs (argSt h args) (lay 0 s.ins))) (takesLs (argSt h args) (lay 0 s.ins)) K) s.outs y
  else none
def callSigs (id : Nat) (h : Heap) (lim : Option Nat) (args : List V) (K : V → Upd → Option R) : List Sig → Option R
  | [] => none
  | s :: r => match dec (lay 0 s.ins) (argSt h args) with
    | some x => callSig id h lim args K s x
    | none => callSigs id h lim args K r
def oneSig : Option Nat → List Sig → Bool
  | none, _ => true
  | some _, [_] => true
  | some _, _ => false
def opCall (E : Env) (id : Nat) (h : Heap) (lim : Option Nat) (f : Nat) (args : List V) (K : V → Upd → Option R) : Option R :=
  bif oneSig lim (E.C f) then callSigs id h lim args K (E.C f) else none
def evs (st : St) : List Operand → List V
  | [] => []
  | x :: r => st.ev x :: evs st r
def ptrVs : List Nat → List V
  | [] => []
  | i :: r => .c (.ptr i 0) :: ptrVs r
def capIds : List V → Option (List Nat)
  | [] => some []
  | .c (.ptr i 0) :: r => match capIds r with | some l => some (i :: l) | none => none
  | _ => none
def opMakeFunc (fn : Fn) (first : List V) (caps : List V) (K : V → Option R) : Option R :=
  match fn, first, caps with
  | .func f, [], [] => K (.c (.fn f))
  | .func f, [], _ => match capIds caps with
    | some ids => K (.c (.clo f ids))
    | none => none
  | _, _, _ => none
def evPs (st : St) : List (Nat × Operand) → List (Nat × V)
  | [] => []
  | (i, x) :: r => (i, st.ev x) :: evPs st r
def fillC (place : Nat → Option (Nat × Nat)) : List C → List (Nat × V) → Option (List C)
  | cs, [] => some cs
  | cs, (i, v) :: r => match place i with
    | some (off, size) => match v.cells with
      | some vc => bif Nat.beq (len' vc) size && Nat.ble (off + size) (len' cs) then fillC place (over off vc cs) r else none
      | none => none
    | none => none
def placesOf (P : Program) : List Field → Option (List (Nat × Nat))
  | [] => some []
  | f :: r => match P.info? f.type with
    | some i => match placesOf P r with
      | some l => some ((f.offset, i.size) :: l)
      | none => none
    | none => none
def opBuild (P : Program) (t : TypeId) (parts : List (Nat × V)) (K : V → Option R) : Option R :=
  match P.info? t with
  | some i => match i.zero with
    | some z => bif !oneB z.cells.toList then none else match P.underlying t with
      | some (.struct fs) => match placesOf P fs.toList with
        | some l => match fillC (nth l) (absCs z.cells.toList) parts with
          | some cs => K (.agg cs)
          | none => none
        | none => none
      | some (.array _ e) => match P.info? e with
        | some ie => match fillC (fun i => some (i * ie.size, ie.size)) (absCs z.cells.toList) parts with
          | some cs => K (.agg cs)
          | none => none
        | none => none
      | _ => none
    | none => none
  | none => none
def qOf (E : Env) (c : Call) : Option QFun := match c.callee with
  | .value (.func f) => E.Q f
  | _ => none
def isQ (E : Env) : Op → Bool
  | .call c => (qOf E c).isSome
  | _ => false
def opK (E : Env) (st : St) (lim : Option Nat) (o : Oper) (K : V → Upd → Option R) : Option R :=
  let h := st.heap
  let id := nid st.ep (o.dst.getD 0) 0
  match o.op with
  | .move x | .assign x => K (st.ev x) []
  | .pick c a b => match st.ev c with
    | .c (.val .bool bv) => match st.ev a, st.ev b with
      | .c (.val .bool x), .c (.val .bool y) => K (boolC (bif bv then x else y)) []
      | va, vb => bif bv then K va [] else K vb []
    | _ => none
  | .alloc elem => match E.P.info? elem, h id with
    | some i, none => match i.zero with
      | some z => bif oneB z.cells.toList then K (.c (.ptr id 0)) [(id, .box elem (absCs z.cells.toList))] else none
      | none => none
    | _, _ => none
  | .box elem x => match (st.ev x).cells, h id with
    | some cs, none => K (.c (.ptr id 0)) [(id, .box elem cs)]
    | _, _ => none
  | .build t parts => opBuild E.P t (evPs st parts.toList) fun v => K v []
  | .buildSlice t n parts => opBuildSlice E.P id h lim t n (evPs st parts.toList) K
  | .load t x => opLoad E.P h lim t (st.ev x) fun v => K v []
  | .store t x y => match lim with
    | none => opStore E.P E.M h t (st.ev x) (st.ev y) fun u => K (.c .undef) u
    | some _ => none
  | .nilCheck x => match st.ev x with
    | .c (.ptr id off) => K (.c (.ptr id off)) []
    | .c (.eptr id i off) => K (.c (.eptr id i off)) []
    | .c (.fptr t y off) => K (.c (.fptr t y off)) []
    | _ => none
  | .binOp op t x y _ => bif isNilI y then errK E.P op t (st.ev x) fun v => K v [] else binK E.P (rdH h lim) op t (st.ev x) (st.ev y) fun v => K v []
  | .unOp op _ x => unK op (st.ev x) fun v => K v []
  | .convert src dst x => bif isSliceT E.P src then convS E.P (rdH h lim) src dst (st.ev x) fun v => K v [] else convK E.P src dst (st.ev x) fun v => K v []
  | .makeFunc fn fs cs => opMakeFunc fn (evs st fs.toList) (evs st cs.toList) fun v => K v []
  | .makeSlice t l c => opMakeSlice E.P id h t (st.ev l) (st.ev c) K
  | .slice t x lo hi mx => opSlice E.P id h lim t (st.ev x) (lo.map st.ev) (hi.map st.ev) (mx.map st.ev) K
  | .fieldAddr s x f => opFieldAddr E.P s (st.ev x) f fun v => K v []
  | .field t x f => opField E.P t (st.ev x) f fun v => K v []
  | .indexAddr t x i => opIndexAddr E.P h lim t (st.ev x) (st.ev i) fun v => K v []
  | .index t x i => opIndex E.P t (st.ev x) (st.ev i) fun v => K v []
  | .extract x i => opExtract (st.ev x) i fun v => K v []
  | .call c => match qOf E c with
   | some q => (match lim with
    | none => q.run h (st.ep + 1) (evs st c.args.toList) fun v => K v []
    | some _ => none)
   | none => match c.callee with
    | .value f => match st.ev f with
      | .c (.fn f) => opCall E id h lim f (evs st c.args.toList) K
      | .c (.clo f ids) => opCall E id h lim f (app (evs st c.args.toList) (ptrVs ids)) K
      | _ => none
    | .builtin .len => match c.argTypes.toList, c.args.toList with
      | [t], [x] => opLen E.P h lim t (st.ev x) fun v => K v []
      | _, _ => none
    | .builtin .append => match lim, c.argTypes.toList, c.args.toList with
      | none, [t, t2], [x, y] => opAppend E.P id h t t2 (st.ev x) (st.ev y) K
      | _, _, _ => none
    | .builtin .clear => match lim, c.argTypes.toList, c.args.toList with
      | none, [t], [x] => opClear E.P h t (st.ev x) fun u => K (.c .undef) u
      | _, _, _ => none
    | .builtin .min => match minK (evs st c.args.toList) with
      | some v => K v []
      | none => none
    | .builtin .max => match maxK (evs st c.args.toList) with
      | some v => K v []
      | none => none
    | _ => none
  | _ => none
def St.put (st : St) (dst : Option Nat) (v : V) (u : Upd) : St :=
  { st with tmp := match dst with | some d => updT st.tmp d v | none => st.tmp, heap := updsH st.heap u }
def dstOk (st : St) (lim : Option Nat) (o : Oper) : Bool :=
  match o.dst with
  | some d => Nat.blt d st.n.n && !memN d st.n.pr
  | none => lim.isNone
def guardV (ops : Array Oper) (st : St) (j : Nat) : Option (Nat × Bool) :=
  match (ops[j]?).bind (·.dst) with
  | some d => match st.tmp d with
    | .c (.val .bool b) => some (d, b)
    | _ => none
  | none => none
def skipB (ops : Array Oper) (st : St) (j : Nat) : Bool :=
  match (ops[j]?).bind (·.dst) with
  | some d => match st.tmp d with
    | .tup [] => true
    | _ => false
  | none => false
def stepK (E : Env) (ops : Array Oper) (lim : Option Nat) (o : Oper) (st : St) (K : St → Option R) : Option R :=
  bif dstOk st lim o then
    match o.guard with
    | none => opK E st lim o fun v u => K (st.put o.dst v u)
    | some (j, want) => match guardV ops st j with
      | none => bif skipB ops st j then K (st.put o.dst (.tup []) []) else none
      | some (d, b) =>
        bif b then
          let st' := { st with tmp := updT st.tmp d (boolC true) }
          bif want then opK E st' lim o (fun v u => K (st'.put o.dst v u)) else K (st'.put o.dst (.tup []) [])
        else
          let st' := { st with tmp := updT st.tmp d (boolC false) }
          bif want then K (st'.put o.dst (.tup []) []) else opK E st' lim o (fun v u => K (st'.put o.dst v u))
  else none
def pureOp (P : Program) : Op → Bool
  | .move _ | .assign _ | .pick .. | .build .. | .makeFunc .. | .nilCheck _ | .unOp .. | .fieldAddr .. | .field .. | .index .. | .extract .. => true
  | .convert src _ _ => !isSliceT P src
  | .binOp _ t _ _ _ => match P.underlying t with | some (.slice _) => false | _ => true
  | .indexAddr t _ _ => match P.underlying t with | some (.array _ _) => true | _ => false
  | .call c => match c.callee with | .builtin .min | .builtin .max => true | _ => false
  | _ => false
def bitB (b : Array Nat) (j i : Nat) : Bool := (b.getD j 0).testBit i
def quietOp : Op → Bool
  | .load .. | .indexAddr .. => true
  | .call c => match c.callee with | .builtin .len => true | _ => false
  | _ => false
def calmOp (E : Env) (o : Op) : Bool := quietOp o || isQ E o
def allocOp : Op → Bool
  | .alloc _ => true
  | _ => false
def smallA (o : Oper) : Bool := allocOp o.op && (match o.dst with | some d => Nat.blt d 65536 | none => false)
def totB (P : Program) (cm : Op → Bool) (ops : List Oper) (b : Array Nat) (i : Nat) (q iq : Bool) : Bool :=
  go ops 0
where
  go : List Oper → Nat → Bool
    | [], _ => true
    | o :: r, j => (Nat.beq i j || pureOp P o.op || (q && cm o.op) || (iq && smallA o && Nat.blt i j) || bitB b i j || bitB b j i) && go r (j + 1)
def callFn : Op → Option Nat
  | .call c => match c.callee with | .value (.func f) => some f | _ => none
  | _ => none
def oneCall (C : Nat → List Sig) (o : Op) : Bool :=
  match callFn o with
  | some f => (match C f with | [_] => true | _ => false)
  | none => false
def appOp : Op → Bool
  | .call c => match c.callee with | .builtin .append => true | _ => false
  | _ => false
def appA (o : Oper) : Bool := appOp o.op && o.dst.isSome
def rowOp : Op → Bool
  | .buildSlice .. => true
  | _ => false
def totL (P : Program) (ops : List Oper) (b : Array Nat) (i : Nat) (one ap : Bool) : Bool :=
  go ops 0
where
  go : List Oper → Nat → Bool
    | [], _ => true
    | o :: r, j => (Nat.beq i j || pureOp P o.op || quietOp o.op || (one && allocOp o.op && Nat.blt i j) || (ap && rowOp o.op && Nat.blt i j) || bitB b i j || bitB b j i) && go r (j + 1)
def frozenB : Blk → Bool
  | .row _ _ true => true
  | _ => false
def isFn (o : Op) : Bool := match callFn o with | some _ => true | none => false
def qOk (st : St) : Op → Bool
  | .load _ x => match st.ev x with | .c (.ptr ..) => true | .c (.fptr ..) => true | _ => false
  | .indexAddr _ x _ => match st.ev x with | .c (.val ..) => true | .c (.ptr ..) => true | .c (.fptr ..) => true | _ => false
  | .call c => match c.args.toList with
    | [x] => match st.ev x with | .c (.val ..) => true | .c .nils => true | .c (.win ..) => true | _ => false
    | _ => false
  | _ => false
def appU (ops : List Oper) (b : Array Nat) (i : Nat) : Bool :=
  go ops 0
where
  go : List Oper → Nat → Bool
    | [], _ => false
    | o :: r, j => (appOp o.op && !Nat.beq i j && !bitB b i j && !bitB b j i) || go r (j + 1)
def geU (l0 : Nat) (fn : Bool) : Upd → Bool
  | [] => true
  | (i, b) :: r => (Nat.ble l0 i || (fn && frozenB b)) && geU l0 fn r
def semiU (l0 : Nat) (o : Op) (u : Upd) : Bool := geU l0 (match callFn o with | some _ => true | none => false) u || appOp o
def storeOp : Op → Bool
  | .store .. => true
  | _ => false
def rowLook : Op → Bool
  | .slice .. | .indexAddr .. => true
  | .call c => match c.callee with | .builtin .len => true | _ => false
  | _ => false
def dstOp : List Oper → Nat → Option Op
  | [], _ => none
  | o :: r, t => bif (match o.dst with | some d => Nat.beq d t | none => false) then some o.op else dstOp r t
def rootT (ops : List Oper) (t0 : Nat → V) : Nat → Nat → Option Nat
  | 0, _ => none
  | n + 1, t => match dstOp ops t with
    | some (.move (.tmp y)) => rootT ops t0 n y
    | some (.nilCheck (.tmp y)) => rootT ops t0 n y
    | some (.fieldAddr _ (.tmp y) _) => rootT ops t0 n y
    | some _ => none
    | none => match t0 t with
      | .c (.ptr id _) => some id
      | _ => none
def opRoot (ops : List Oper) (t0 : Nat → V) : Op → Option Nat
  | .load _ (.tmp t) => rootT ops t0 12 t
  | .store _ (.tmp t) _ => rootT ops t0 12 t
  | _ => none
def loadOp : Op → Bool
  | .load .. => true
  | _ => false
def sOp (E : Env) (o : Op) : Bool := storeOp o || (isFn o && !isQ E o)
def totS (P : Program) (ops : List Oper) (b : Array Nat) (t0 : Nat → V) (i : Nat) (sb : Bool) : Bool :=
  go ops 0
where
  go : List Oper → Nat → Bool
    | [], _ => true
    | o :: l, j => (Nat.beq i j || pureOp P o.op || (sb && rowLook o.op) || bitB b i j || bitB b j i || (loadOp o.op && (opRoot ops t0 o.op).isSome)) && go l (j + 1)
def stoU (E : Env) (ops : List Oper) (b : Array Nat) (i : Nat) : Bool :=
  go ops 0
where
  go : List Oper → Nat → Bool
    | [], _ => false
    | o :: r, j => (sOp E o.op && !Nat.beq i j && !bitB b i j && !bitB b j i) || go r (j + 1)
def rOk (ops : List Oper) (t0 : Nat → V) (st : St) : Op → Bool
  | .load t x => match opRoot ops t0 (.load t x) with
    | some a => (match st.ev x with | .c (.ptr id _) => Nat.beq id a | .c (.eptr ..) => false | _ => true)
    | none => true
  | _ => true
def qChk (E : Env) (ops : List Oper) (b : Array Nat) (t0 : Nat → V) (i : Nat) (st : St) (o : Op) : Bool := (!appU ops b i || qOk st o) && (!stoU E ops b i || rOk ops t0 st o)
def boxU : Upd → Bool
  | [] => true
  | (_, .box _ _) :: r => boxU r
  | _ => false
def notIn (a : Nat) : Upd → Bool
  | [] => true
  | (i, _) :: r => !Nat.beq i a && notIn a r
def avoidU (ops : List Oper) (b : Array Nat) (t0 : Nat → V) (i : Nat) (u : Upd) : Bool :=
  go ops 0
where
  go : List Oper → Nat → Bool
    | [], _ => true
    | o :: l, j => (!loadOp o.op || Nat.beq i j || bitB b i j || bitB b j i || (match opRoot ops t0 o.op with | some r => notIn r u | none => true)) && go l (j + 1)
def sChk (ops : List Oper) (b : Array Nat) (t0 : Nat → V) (i : Nat) (l0 : Nat) (semi : Bool) (o : Op) (u : Upd) : Bool := ((!storeOp o || boxU u) && avoidU ops b t0 i u) || (semi && semiU l0 o u)
def chkU (bx : Option (Upd → Bool)) (l0 : Nat) (o : Op) : Upd → Bool
  | [] => true
  | p :: u => match bx with | some f => f (p :: u) | none => semiU l0 o (p :: u)
def stepC (E : Env) (ops : Array Oper) (l0 : Nat) (bx : Option (Upd → Bool)) (o : Oper) (st : St) (K : St → Option R) : Option R :=
  bif dstOk st none o then
    match o.guard with
    | none => opK E st none o fun v u => bif chkU bx l0 o.op u then K (st.put o.dst v u) else none
    | some (j, want) => match guardV ops st j with
      | none => bif skipB ops st j then K (st.put o.dst (.tup []) []) else none
      | some (d, b) =>
        bif b then
          let st' := { st with tmp := updT st.tmp d (boolC true) }
          bif want then opK E st' none o (fun v u => bif chkU bx l0 o.op u then K (st'.put o.dst v u) else none) else K (st'.put o.dst (.tup []) [])
        else
          let st' := { st with tmp := updT st.tmp d (boolC false) }
          bif want then K (st'.put o.dst (.tup []) []) else opK E st' none o (fun v u => bif chkU bx l0 o.op u then K (st'.put o.dst v u) else none)
  else none
def opsK (E : Env) (ops : Array Oper) (draw : Bool) (b : Array Nat) (l0 : Nat) (t0 : Nat → V) : List Oper → Nat → St → (St → Option R) → Option R
  | [], _, st, K => K st
  | o :: r, i, st, K =>
    bif !draw || pureOp E.P o.op || totB E.P (calmOp E) ops.toList b i (calmOp E o.op) (isQ E o.op) then stepK E ops none o st fun st' => opsK E ops draw b l0 t0 r (i + 1) st' K
    else bif sOp E o.op && totS E.P ops.toList b t0 i (storeOp o.op) then stepC E ops l0 (some (sChk ops.toList b t0 i l0 (!quietOp o.op && !isQ E o.op && totL E.P ops.toList b i (oneCall E.C o.op) (appA o)) o.op)) o st fun st' => opsK E ops draw b l0 t0 r (i + 1) st' K
    else bif !quietOp o.op && !isQ E o.op && totL E.P ops.toList b i (oneCall E.C o.op) (appA o) then stepC E ops l0 none o st fun st' => opsK E ops draw b l0 t0 r (i + 1) st' K
    else bif quietOp o.op && (appU ops.toList b i || stoU E ops.toList b i) then (bif qChk E ops.toList b t0 i st o.op then stepK E ops (some l0) o st fun st' => opsK E ops draw b l0 t0 r (i + 1) st' K else none)
    else stepK E ops (some l0) o st fun st' => opsK E ops draw b l0 t0 r (i + 1) st' K
def lexB (ops : Array Oper) (b : Array Nat) : Bool := Region.noSelectB ops && rows ops.toList 0
where
  Region.noSelectB (ops : Array Oper) : Bool := ops.toList.all fun o => match o.op with | .select .. => false | _ => true
  rows : List Oper → Nat → Bool
    | [], _ => true
    | o :: r, i => (o.after.toList.all fun e => !Region.binds .any e || Nat.blt e.on i) && row o i r (i + 1) && rows r (i + 1)
  row (o : Oper) (i : Nat) : List Oper → Nat → Bool
    | [], _ => true
    | p :: r, j => (bitB b j i || Oper.apart ops o p) && row o i r (j + 1)
def iterK {R : Type} (step : (Ex → St → Option R) → St → Option R) (K : Ex → St → Option R) : Nat → St → Option R
  | 0, _ => none
  | n + 1, st => step (fun e s => match e with | .normal => iterK step K n s | e => K e s) st
noncomputable def exec (E : Env) : Code → (Ex → St → Option R) → St → Option R
  | .skip, K, st => K .normal st
  | .label _, K, st => K .normal st
  | .region _ ops draw, K, st =>
    bif !draw || lexB ops (Region.before ops) then
      opsK E ops draw (bif draw then Region.before ops else #[]) (nid st.ep 0 0) st.tmp ops.toList 0 st fun st' => K .normal { st' with ep := st'.ep + 1 }
    else none
  | .seq a b, K, st => exec E a (fun e s => match e with
    | .normal => match E.J (key b) with
      | some ls => match dec ls.inL s with
        | some x => (ls.F E.k x).bind fun o => out K s.n ls.exits o
        | none => none
      | none => exec E b K s
    | e => K e s) st
  | .cond c x y, K, st => match st.ev c with
    | .c (.val .bool bv) => bif bv then exec E x K st else exec E y K st
    | .c .anyb => both (exec E x K st) (exec E y K st)
    | _ => none
  | .block id c, K, st => exec E c (fun e s => match e with | .exit i => bif Nat.beq i id then K .normal s else K (.exit i) s | e => K e s) st
  | .loop c, K, st => match E.L (key c) with
    | some ls => match dec ls.inL st with
      | some x => (ls.F E.k x).bind fun o => out K st.n ls.exits o
      | none => none
    | none => iterK (exec E c) K (E.U (key c)) st
  | .exit id, K, st => K (.exit id) st
  | .ret, K, st => K .ret st
  | _, _, _ => none
where
  key : Code → Nat
    | .region id _ _ => id
    | .seq a _ => key a
    | .block _ c => key c
    | .loop c => key c + 1000000
    | _ => 0
  out {R : Type} (K : Ex → St → Option R) (n : Fr) : (l : List (Ex × Layout)) → Sum' l → Option R
    | [], x => nomatch x
    | [e], x => K e.1 (enc n e.2 x)
    | e :: e' :: r, x => Sum.elim (fun y => K e.1 (enc n e.2 y)) (fun y => out K n (e' :: r) y) x
def inj : (l : List (Ex × Layout)) → Ex → St → Option (Sum' l)
  | [], _, _ => none
  | [e], x, st => bif Ex.is e.1 x then dec e.2 st else none
  | e :: e' :: r, x, st => bif Ex.is e.1 x then (match dec e.2 st with | some y => some (.inl y) | none => none)
    else (match inj (e' :: r) x st with | some y => some (.inr y) | none => none)
def loopK (ls : LoopSig) (F : (lTy ls.inL).den → Option (Sum' ls.exits)) (e : Ex) (st : St) : Option (Sum' ls.exits) :=
  match e with
  | .normal => match dec ls.inL st with
    | some x => F x
    | none => none
  | e => inj ls.exits e st
def resVar (P : Program) (st : St) : ResultVar → Option V
  | .tmp t => some (st.tmp t)
  | .cell a t => opLoad P st.heap none t (st.tmp a) some
def resVars (P : Program) (st : St) : List ResultVar → Option (List V)
  | [] => some []
  | r :: rs => match resVar P st r with
    | some v => match resVars P st rs with
      | some vs => some (v :: vs)
      | none => none
    | none => none
def tmpsAt (f : Nat → V) : List Nat → List V
  | [] => []
  | p :: r => f p :: tmpsAt f r
def injO : (ls : List (List CK)) → St → Option (SumL ls)
  | [], _ => none
  | [l], st => bif Nat.beq st.n.n (len' l) then dec (lay 0 l) st else none
  | l :: l' :: r, st => match (bif Nat.beq st.n.n (len' l) then dec (lay 0 l) st else none) with
    | some y => some (.inl y)
    | none => match injO (l' :: r) st with
      | some y => some (.inr y)
      | none => none
def retK (P : Program) (fn : Func) (s : Sig) (e : Ex) (st : St) : Option (SumL s.outs) :=
  match e with
  | .exit _ => none
  | _ => match resVars P st fn.results.toList with
    | some rs => injO s.outs (argSt st.heap (app rs (tmpsAt st.tmp s.lent)))
    | none => none
def dstsL : List Oper → List Nat
  | [] => []
  | o :: r => match o.dst with | some d => d :: dstsL r | none => dstsL r
def storesB (h0 : Heap) (st : St) (ds : List Nat) : List Oper → Bool
  | [] => true
  | o :: r => (match o.op with
    | .store _ (.tmp x) _ => !memN x ds && (match st.tmp x with | .c (.ptr id _) => (match h0 id with | none => (st.heap id).isSome | some _ => false) | _ => false)
    | .store _ _ _ => false
    | _ => true) && storesB h0 st ds r
def qexec (E : Env) (h0 : Heap) : Code → (St → Option R) → St → Option R
  | .skip, K, st => K st
  | .label _, K, st => K st
  | .ret, K, st => K st
  | .region _ ops draw, K, st =>
    bif (!draw || lexB ops (Region.before ops)) && storesB h0 st (dstsL ops.toList) ops.toList then
      opsK E ops draw (bif draw then Region.before ops else #[]) (nid st.ep 0 0) st.tmp ops.toList 0 st fun st' => K { st' with ep := st'.ep + 1 }
    else none
  | .seq a b, K, st => qexec E h0 a (qexec E h0 b K) st
  | _, _, _ => none
def lookOp (P : Program) : Op → Bool
  | .move _ | .assign _ | .unOp .. | .fieldAddr .. | .field .. | .index .. | .indexAddr .. | .load .. | .binOp .. | .extract .. | .pick .. | .nilCheck _ | .alloc _ | .store .. => true
  | .call c => match c.callee with | .builtin .len => true | _ => false
  | _ => false
def lookOps (P : Program) : List Oper → Bool
  | [] => true
  | o :: r => lookOp P o.op && lookOps P r
def lookC (P : Program) : Code → Bool
  | .region _ ops _ => lookOps P ops.toList
  | .seq (.region _ ops _) b => lookOps P ops.toList && lookC P b
  | .skip | .label _ | .ret => true
  | _ => false
def E0 (P : Program) (G : GTab) : Env := ⟨P, G, fun _ => [], fun _ => none, fun _ => none, fun _ => 0, 0, fun _ => none, false⟩
def tupRes : List V → List (C ⊕ List C)
  | [] => []
  | v :: r => resV v :: tupRes r
def plainC : C → Bool
  | .undef | .val .. | .fptr .. | .fn _ | .nils | .nilp | .anyb => true
  | _ => false
def plainCs : List C → Bool
  | [] => true
  | c :: r => plainC c && plainCs r
def plainV : V → Bool
  | .c x => plainC x
  | .agg cs => plainCs cs
  | .tup _ => false
def qrun (P : Program) (G : GTab) (fn : Func) (h : Heap) (ep : Nat) (args : List V) (K : V → Option R) : Option R :=
  match fn.body with
  | some c => bif lookC P c && Nat.ble (len' args) fn.ntmps then
      qexec (E0 P G) h c (fun st => match resVars P st fn.results.toList with
        | some vs => bif plainV (tupV (tupRes vs)) then K (tupV (tupRes vs)) else none
        | none => none) ⟨listV args, h, ep, ⟨fn.ntmps, [], G⟩⟩
    else none
  | none => none
noncomputable def runF (E : Env) (fn : Func) (s : Sig) (x : (lTy (lay 0 s.ins)).den) : Option (SumL s.outs) :=
  match fn.body with
  | some c => exec E c (retK E.P fn s) (enc ⟨fn.ntmps, s.lent, E.G⟩ (lay 0 s.ins) x)
  | none => none
end
end ops
end Go.VM
