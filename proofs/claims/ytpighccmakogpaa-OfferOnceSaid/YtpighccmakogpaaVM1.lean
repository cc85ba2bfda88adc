/- The value machine: an interpreter of the model's Code over typed plain data. Definitions. -/
import Derived.Orders
import Derived.Laws.Sem
import Derived.KernelRfl
namespace Go.VM

/-! ### Types and data -/
inductive Ty where
  | int (k : IntKind) | bool | str | unit | pair (a b : Ty) | sl (t : Ty)

abbrev Ty.den : Ty → Type
  | .int _ => Int
  | .bool => Bool
  | .str => ByteArray
  | .unit => Unit
  | .pair a b => a.den × b.den
  | .sl t => List t.den

def Ty.dflt : (t : Ty) → t.den
  | .int _ => (0 : Int)
  | .bool => false
  | .str => ByteArray.empty
  | .unit => ()
  | .pair a b => (a.dflt, b.dflt)
  | .sl _ => []

def Ty.sz : Ty → Nat
  | .int _ | .bool | .str | .sl _ => 1
  | .unit => 0
  | .pair a b => a.sz + b.sz

def Ty.flat : Ty → Bool
  | .int _ | .bool | .str | .unit => true
  | .sl _ => false
  | .pair a b => a.flat && b.flat

/-- No slice in a slice. -/
def Ty.shallow : Ty → Bool
  | .int _ | .bool | .str | .unit => true
  | .sl t => t.flat
  | .pair a b => a.shallow && b.shallow

def Ty.eq : (t u : Ty) → Option (PLift (t = u))
  | .int k, .int k' => if h : k = k' then some ⟨h ▸ rfl⟩ else none
  | .bool, .bool => some ⟨rfl⟩
  | .str, .str => some ⟨rfl⟩
  | .unit, .unit => some ⟨rfl⟩
  | .pair a b, .pair c d =>
    match Ty.eq a c, Ty.eq b d with
    | some h, some k => some ⟨h.down ▸ k.down ▸ rfl⟩
    | _, _ => none
  | .sl t, .sl u =>
    match Ty.eq t u with
    | some h => some ⟨h.down ▸ rfl⟩
    | none => none
  | _, _ => none

def castTo {t : Ty} (u : Ty) (x : t.den) : Option u.den :=
  match Ty.eq t u with
  | some h => some (h.down ▸ x)
  | none => none

def tupT : List Ty → Ty
  | [] => .unit
  | t :: ts => .pair t (tupT ts)

/-! ### Values of the machine -/
inductive C where
  | undef
  | val (t : Ty) (x : t.den)
  | ref (id : Nat)
  | nils
  | nilp
  | ptr (id off : Nat)
  | eptr (id : Nat) (i : Int) (off : Nat)
  | fptr (t : Ty) (x : t.den) (off : Nat)
  | fn (f : Nat)

inductive V where
  | c (x : C)
  | agg (cs : List C)
  | tup (vs : List (C ⊕ List C))

inductive Blk where
  | box (cs : List C)
  | row (t : Ty) (xs : List t.den) (fz : Bool)
  | dead

abbrev Heap := Nat → Option Blk
abbrev Upd := List (Nat × Blk)

structure St where
  tmp : Nat → V
  heap : Heap
  ep : Nat
  n : Nat

def updT (f : Nat → V) (t : Nat) (v : V) : Nat → V := fun j => bif Nat.beq j t then v else f j
def updH (h : Heap) (i : Nat) (b : Blk) : Heap := fun j => bif Nat.beq j i then some b else h j
def updsH (h : Heap) : Upd → Heap
  | [] => h
  | (i, b) :: r => updsH (updH h i b) r

/-- A value's cells (none of what is not known, nor of a tuple). -/
def V.cells : V → Option (List C)
  | .c .undef => none
  | .c x => some [x]
  | .agg cs => some cs
  | .tup _ => none

def nth {α : Type} : List α → Nat → Option α
  | [], _ => none
  | x :: _, 0 => some x
  | _ :: l, n + 1 => nth l n
def cut {α : Type} : Nat → List α → List α
  | 0, l => l
  | _ + 1, [] => []
  | n + 1, _ :: l => cut n l
def first {α : Type} : Nat → List α → List α
  | 0, _ => []
  | _ + 1, [] => []
  | n + 1, x :: l => x :: first n l
def len' {α : Type} : List α → Nat
  | [] => 0
  | _ :: l => len' l + 1
def app {α : Type} : List α → List α → List α
  | [], m => m
  | x :: l, m => x :: app l m
/-- `l` with `m` laid over it from place `n` on. -/
def over {α : Type} : Nat → List α → List α → List α
  | 0, m, l => app m (cut (len' m) l)
  | n + 1, m, x :: l => x :: over n m l
  | _ + 1, _, [] => []

def rd {α : Type} (d : α) (xs : List α) (i : Int) : α := xs.getD i.toNat d
def bt (s : ByteArray) (i : Int) : Int := if h : i.toNat < s.size then ((s[i.toNat]'h).toNat : Int) else 0
def sliceOf {α : Type} (xs : List α) (l h : Int) : List α := (xs.take h.toNat).drop l.toNat

def explode : (t : Ty) → t.den → List C
  | .unit, _ => []
  | .pair a b, x => app (explode a x.1) (explode b x.2)
  | .int k, x => [.val (.int k) x]
  | .bool, x => [.val .bool x]
  | .str, x => [.val .str x]
  | .sl t, x => [.val (.sl t) x]

def takeVal (t : Ty) : List C → Option (t.den × List C × List Nat)
  | .val u x :: r => match castTo t (t := u) x with | some y => some (y, r, []) | none => none
  | _ => none
def takeSl (h : Heap) (t : Ty) : List C → Option ((Ty.sl t).den × List C × List Nat)
  | .val u x :: r => match castTo (.sl t) (t := u) x with | some y => some (y, r, []) | none => none
  | .nils :: r => some (([] : List t.den), r, [])
  | .ref id :: r =>
    match h id with
    | some (.row u xs _) => match castTo (.sl t) (t := .sl u) xs with | some y => some (y, r, [id]) | none => none
    | _ => none
  | _ => none
/-- Cells as typed data: the value, the cells that are left, the own rows that it takes in. -/
def implode (h : Heap) : (t : Ty) → List C → Option (t.den × List C × List Nat)
  | .unit, cs => some ((), cs, [])
  | .pair a b, cs =>
    match implode h a cs with
    | some (x, r, l) =>
      match implode h b r with
      | some (y, r', l') => some ((x, y), r', app l l')
      | none => none
    | none => none
  | .int k, cs => takeVal (.int k) cs
  | .bool, cs => takeVal .bool cs
  | .str, cs => takeVal .str cs
  | .sl t, cs => takeSl h t cs

/-- The rows `ids`, frozen. -/
def freezes (h : Heap) : List Nat → Upd
  | [] => []
  | id :: l => match h id with
    | some (.row t xs _) => (id, .row t xs true) :: freezes h l
    | _ => freezes h l

/-! ### Types of the program -/
def fieldsT (g : TypeId → Option Ty) : List Field → Option Ty
  | [] => some .unit
  | f :: fs => match g f.type with
    | some u => match fieldsT g fs with
      | some r => some (.pair u r)
      | none => none
    | none => none
def repT : Nat → Ty → Ty
  | 0, _ => .unit
  | n + 1, t => .pair t (repT n t)
def tyOf (P : Program) : Nat → TypeId → Option Ty
  | 0, _ => none
  | n + 1, t =>
    match P.underlying t with
    | some .bool => some .bool
    | some (.int k) => some (.int k)
    | some .string => some .str
    | some (.slice e) => match tyOf P n e with | some u => some (.sl u) | none => none
    | some (.struct fs) => fieldsT (tyOf P n) fs.toList
    | some (.array k e) => match tyOf P n e with | some u => some (repT k u) | none => none
    | _ => none

def absC : Value → C
  | .bool b => .val .bool b
  | .int k n => .val (.int k) n
  | .string s => .val .str s
  | .slice none 0 0 => .nils
  | .pointer none => .nilp
  | _ => .undef
def absCs : List Value → List C
  | [] => []
  | v :: r => absC v :: absCs r
def absV : Value → V
  | .func (.func f) ⟨[]⟩ ⟨[]⟩ => .c (.fn f)
  | v => .c (absC v)
def Ty.isAgg : Ty → Bool
  | .pair _ _ | .unit => true
  | _ => false
/-- A value's cells, where it is an aggregate just if its type says so. -/
def V.cellsAs (t : Ty) : V → Option (List C)
  | .c .undef => none
  | .c x => bif t.isAgg then none else some [x]
  | .agg cs => bif t.isAgg then some cs else none
  | .tup _ => none
/-- Each of these values takes one cell. -/
def oneB : List Value → Bool
  | [] => true
  | v :: r => v.oneCell' && oneB r

def St.ev (st : St) : Operand → V
  | .tmp t => st.tmp t
  | .const v => absV v
  | .global _ => .c .undef
  | .func f => .c (.fn f)

/-- The zero cells of a type are these values. -/
def zInt (k : IntKind) : List Value → Option (List Value)
  | .int k' n :: r => bif decide (k = k') && decide (n = 0) then some r else none
  | _ => none
def zBool : List Value → Option (List Value)
  | .bool b :: r => bif b then none else some r
  | _ => none
def zStr : List Value → Option (List Value)
  | .string s :: r => bif Nat.beq s.size 0 then some r else none
  | _ => none
def zSl : List Value → Option (List Value)
  | .slice none 0 0 :: r => some r
  | _ => none
def zeroB : Ty → List Value → Option (List Value)
  | .unit, l => some l
  | .pair a b, l => match zeroB a l with | some r => zeroB b r | none => none
  | .int k, l => zInt k l
  | .bool, l => zBool l
  | .str, l => zStr l
  | .sl _, l => zSl l

def aggD : TypeDesc → Bool
  | .struct _ | .array _ _ => true
  | _ => false

/-! ### Oracles -/
structure Sig where
  pt : List Ty
  rt : List Ty
  own : Bool
  f : (tupT pt).den → Option (tupT rt).den

inductive Ex where
  | normal | exit (id : Nat) | ret
def Ex.is : Ex → Ex → Bool
  | .normal, .normal => true
  | .exit i, .exit j => Nat.beq i j
  | .ret, .ret => true
  | _, _ => false

/-- What a place of the machine's state holds at a cut: a plain value; an own row; a box with such cells; the very row (or box) of another place. -/
inductive CK where
  | val (t : Ty) | row (t : Ty) | skip
inductive LK where
  | val (t : Ty) | row (t : Ty) | box (cs : List CK) | same (s : Nat)
abbrev Layout := List (Nat × LK)
def CK.ty : CK → Ty
  | .val t => t
  | .row t => .sl t
  | .skip => .unit
def ckTy : List CK → Ty
  | [] => .unit
  | k :: r => .pair k.ty (ckTy r)
def LK.ty : LK → Ty
  | .val t => t
  | .row t => .sl t
  | .box cs => ckTy cs
  | .same _ => .unit
def lTy : Layout → Ty
  | [] => .unit
  | (_, k) :: r => .pair k.ty (lTy r)

def Sum' : List (Ex × Layout) → Type
  | [] => Empty
  | [x] => (lTy x.2).den
  | x :: y :: r => (lTy x.2).den ⊕ Sum' (y :: r)

structure LoopSig where
  inL : Layout
  exits : List (Ex × Layout)
  F : Nat → (lTy inL).den → Option (Sum' exits)

structure Env where
  P : Program
  C : Nat → Option Sig
  L : Nat → Option LoopSig
  k : Nat

/-! ### Canonical states at a cut -/
def cid (s c : Nat) : Nat := s * 64 + c
def K' : Nat := 4194304      -- 65536 * 64
def nid (ep d c : Nat) : Nat := ep * K' + cid d c

def memN : Nat → List Nat → Bool
  | _, [] => false
  | n, m :: r => Nat.beq n m || memN n r
def nodupB : List Nat → Bool
  | [] => true
  | x :: r => !memN x r && nodupB r
def disjB : List Nat → List Nat → Bool
  | [], _ => true
  | x :: r, l => !memN x l && disjB r l
/-- One cell taken out; `ow`: the rows and boxes that stay the machine's own. -/
def decC (h : Heap) (ow : List Nat) : (k : CK) → C → Option k.ty.den
  | .val t, c => match implode h t [c] with
    | some (x, [], ids) => bif disjB ids ow && !t.isAgg then some x else none
    | _ => none
  | .row t, c => match c with
    | .nils => bif Nat.beq t.sz 0 then none else some ([] : List t.den)
    | .ref id => match h id with
      | some (.row u xs false) => castTo (.sl t) (t := .sl u) xs
      | _ => none
    | _ => none
  | .skip, _ => some ()
def decCs (h : Heap) (ow : List Nat) : (ks : List CK) → List C → Option (ckTy ks).den
  | [], [] => some ()
  | k :: ks, c :: cs => match decC h ow k c with
    | some x => match decCs h ow ks cs with
      | some y => some (x, y)
      | none => none
    | none => none
  | _, _ => none
/-- The own rows (and boxes) that a place takes with it. -/
def ownsC : CK → C → List Nat
  | .row _, .ref id => [id]
  | _, _ => []
def ownsCs : List CK → List C → List Nat
  | k :: ks, c :: cs => app (ownsC k c) (ownsCs ks cs)
  | _, _ => []
def ownsL (st : St) (s : Nat) : LK → List Nat
  | .row _ => match st.tmp s with | .c (.ref id) => [id] | _ => []
  | .box ks => match st.tmp s with
    | .c (.ptr id 0) => match st.heap id with | some (.box cs) => app (ownsCs ks cs) [id] | _ => []
    | _ => []
  | _ => []
def ownsLs (st : St) : Layout → List Nat
  | [] => []
  | (s, k) :: r => app (ownsL st s k) (ownsLs st r)
def isRowB : Option Blk → Bool
  | some (.row _ _ _) => true
  | _ => false
def sameV (h : Heap) : V → V → Bool
  | .c (.ref i), .c (.ref j) => Nat.beq i j && isRowB (h i)
  | .c (.ptr i 0), .c (.ptr j 0) => Nat.beq i j
  | _, _ => false
def decL (st : St) (ow : List Nat) (s : Nat) : (k : LK) → Option k.ty.den
  | .val t => match (st.tmp s).cellsAs t with
    | some cs => match implode st.heap t cs with
      | some (x, [], ids) => bif disjB ids ow then some x else none
      | _ => none
    | none => none
  | .row t => match st.tmp s with
    | .c c => decC st.heap ow (.row t) c
    | _ => none
  | .box ks => match st.tmp s with
    | .c (.ptr id 0) => match st.heap id with
      | some (.box cs) => decCs st.heap ow ks cs
      | _ => none
    | _ => none
  | .same s' => bif sameV st.heap (st.tmp s) (st.tmp s') then some () else none
def decLs (st : St) (ow : List Nat) : (l : Layout) → Option (lTy l).den
  | [] => some ()
  | (s, k) :: r => match decL st ow s k with
    | some x => match decLs st ow r with
      | some y => some (x, y)
      | none => none
    | none => none
def slotsB : Layout → List Nat
  | [] => []
  | (s, _) :: r => s :: slotsB r
def smallL (n : Nat) : Layout → Bool
  | [] => true
  | (s, k) :: r => Nat.blt s n && (match k with | .box ks => Nat.blt (len' ks) 63 | _ => true) && smallL n r
/-- The state's places, as plain data. -/
def dec (l : Layout) (st : St) : Option (lTy l).den :=
  bif nodupB (ownsLs st l) && nodupB (slotsB l) && smallL st.n l then decLs st (ownsLs st l) l else none

def encC (s c : Nat) : (k : CK) → k.ty.den → C × Upd
  | .val t, x => ((match explode t x with | [c] => c | _ => .undef), [])
  | .row t, x => (.ref (cid s c), [(cid s c, .row t x false)])
  | .skip, _ => (.undef, [])
def encCs (s c : Nat) : (ks : List CK) → (ckTy ks).den → List C × Upd
  | [], _ => ([], [])
  | k :: ks, x => ((encC s c k x.1).1 :: (encCs s (c + 1) ks x.2).1, app (encC s c k x.1).2 (encCs s (c + 1) ks x.2).2)
def valV (t : Ty) (x : t.den) : V := bif t.isAgg then .agg (explode t x) else (match explode t x with | [c] => .c c | _ => .c .undef)
def encL (tmp : Nat → V) (s : Nat) : (k : LK) → k.ty.den → V × Upd
  | .val t, x => (valV t x, [])
  | .row t, x => (.c (.ref (cid s 0)), [(cid s 0, .row t x false)])
  | .box ks, x => (.c (.ptr (cid s 0) 0), app (encCs s 1 ks x).2 [(cid s 0, .box (encCs s 1 ks x).1)])
  | .same s', _ => (tmp s', [])
def encLs (st : St) : (l : Layout) → (lTy l).den → St
  | [], _ => st
  | (s, k) :: r, x =>
    encLs { st with tmp := updT st.tmp s (encL st.tmp s k x.1).1, heap := updsH st.heap (encL st.tmp s k x.1).2 } r x.2
def enc (n : Nat) (l : Layout) (x : (lTy l).den) : St :=
  encLs { tmp := fun _ => .c .undef, heap := fun _ => none, ep := 1, n := n } l x

/-! ### Operations -/
section ops
variable {R : Type}

def intC (k : IntKind) (n : Int) : V := .c (.val (.int k) n)
def boolC (b : Bool) : V := .c (.val .bool b)
def strC (s : ByteArray) : V := .c (.val .str s)

def bitsOp (op : BinOp) (k : IntKind) (x y : Int) : Int :=
  let a := BitVec.ofInt k.bits x
  let b := BitVec.ofInt k.bits y
  match op with
  | .and => k.wrap (a &&& b).toNat
  | .or => k.wrap (a ||| b).toNat
  | .xor => k.wrap (a ^^^ b).toNat
  | _ => k.wrap (a &&& ~~~b).toNat

def binInt (op : BinOp) (k : IntKind) (a b : Int) (K : V → Option R) : Option R :=
  match op with
  | .add => K (intC k (k.wrap (a + b)))
  | .sub => K (intC k (k.wrap (a - b)))
  | .mul => K (intC k (k.wrap (a * b)))
  | .quo => bif decide (b = 0) then none else K (intC k (k.wrap (a.tdiv b)))
  | .rem => bif decide (b = 0) then none else K (intC k (a.tmod b))
  | .and => K (intC k (bitsOp .and k a b))
  | .or => K (intC k (bitsOp .or k a b))
  | .xor => K (intC k (bitsOp .xor k a b))
  | .andNot => K (intC k (bitsOp .andNot k a b))
  | .eql => K (boolC (a == b))
  | .neq => K (boolC (a != b))
  | .lss => K (boolC (decide (a < b)))
  | .leq => K (boolC (decide (a ≤ b)))
  | .gtr => K (boolC (decide (a > b)))
  | .geq => K (boolC (decide (a ≥ b)))
  | _ => none

def binStr (op : BinOp) (x y : ByteArray) (K : V → Option R) : Option R :=
  match op with
  | .add => bif decide (((x.size + y.size : Nat) : Int) ≤ 9223372036854775807) then K (strC (x ++ y)) else none
  | .eql => K (boolC (x.toList == y.toList))
  | .neq => K (boolC (!(x.toList == y.toList)))
  | .lss => K (boolC (Op.bytesLess x.toList y.toList))
  | .leq => K (boolC (Op.bytesLess x.toList y.toList || x.toList == y.toList))
  | .gtr => K (boolC (!(Op.bytesLess x.toList y.toList || x.toList == y.toList)))
  | .geq => K (boolC (!Op.bytesLess x.toList y.toList))
  | _ => none

/-- '==' of a pointer with nil. -/
def eqNilp : C → Option Bool
  | .nilp => some true
  | .ptr _ _ => some false
  | .eptr _ _ _ => some false
  | .fptr _ _ _ => some false
  | _ => none
/-- '==' along a type: whole numbers, bools, strings, structs and arrays of these. -/
def eqFs (P : Program) (g : TypeId → List C → List C → Option Bool) (cs ds : List C) : List Field → Option Bool
  | [] => some true
  | f :: fs => bif decide (f.name = "_") then none else
    match P.info? f.type, P.underlying f.type with
    | some i, some d =>
      bif Nat.ble (f.offset + i.size) (len' cs) && Nat.ble (f.offset + i.size) (len' ds) && (aggD d || Nat.beq i.size 1) then
        match g f.type (first i.size (cut f.offset cs)) (first i.size (cut f.offset ds)) with
        | some b => match eqFs P g cs ds fs with
          | some c => some (b && c)
          | none => none
        | none => none
      else none
    | _, _ => none
def eqAs (g : List C → List C → Option Bool) (sz : Nat) (cs ds : List C) : (n m : Nat) → Option Bool
  | 0, _ => some true
  | n + 1, m =>
    bif Nat.ble (m * sz + sz) (len' cs) && Nat.ble (m * sz + sz) (len' ds) then
      match g (first sz (cut (m * sz) cs)) (first sz (cut (m * sz) ds)) with
      | some b => match eqAs g sz cs ds n (m + 1) with
        | some c => some (b && c)
        | none => none
      | none => none
    else none
def eqT (P : Program) : Nat → TypeId → List C → List C → Option Bool
  | 0, _, _, _ => none
  | n + 1, t, cs, ds =>
    match P.underlying t with
    | some (.int _) => match cs, ds with
      | [.val (.int k) a], [.val (.int k') b] => bif decide (k = k') then some (a == b) else none
      | _, _ => none
    | some .bool => match cs, ds with
      | [.val .bool a], [.val .bool b] => some (a == b)
      | _, _ => none
    | some .string => match cs, ds with
      | [.val .str a], [.val .str b] => some (a == b)
      | _, _ => none
    | some (.struct fs) => bif P.stoodInHeld t then none else eqFs P (eqT P n) cs ds fs.toList
    | some (.array k e) => match P.info? e, P.underlying e with
      | some i, some d => bif aggD d || Nat.beq i.size 1 then eqAs (eqT P n e) i.size cs ds k 0 else none
      | _, _ => none
    | _ => none
/-- '==' of a slice with nil. -/
def eqNil (h : Heap) : C → Option Bool
  | .nils => some true
  | .ref id => match h id with
    | some (.row _ (_ :: _) _) => some false
    | _ => none
  | .val (.sl _) (_ :: _) => some false
  | _ => none

def shiftOp (op : BinOp) (k : IntKind) (a b : Int) (K : V → Option R) : Option R :=
  bif decide (b < 0) then none else
  match op with
  | .shl => K (intC k (k.wrap (a * 2 ^ (min b.toNat k.bits))))
  | _ => K (intC k (a.fdiv (2 ^ (min b.toNat k.bits))))

def isShift : BinOp → Bool
  | .shl | .shr => true
  | _ => false

def binK (P : Program) (h : Heap) (op : BinOp) (t : TypeId) (x y : V) (K : V → Option R) : Option R :=
  match x, y with
  | .c (.val (.int k) a), .c (.val (.int k') b) =>
    bif isShift op then shiftOp op k a b K else bif decide (k = k') then binInt op k a b K else none
  | .c (.val .str a), .c (.val .str b) => binStr op a b K
  | .c (.val .bool a), .c (.val .bool b) =>
    match P.underlying t, op with
    | some .bool, .eql => K (boolC (a == b))
    | some .bool, .neq => K (boolC (!(a == b)))
    | _, _ => none
  | .agg xs, .agg ys =>
    match P.underlying t with
    | some d => bif !aggD d || P.eqGuardType P.depth t then none else
      match eqT P 20 t xs ys, op with
      | some b, .eql => K (boolC b)
      | some b, .neq => K (boolC (!b))
      | _, _ => none
    | none => none
  | .c x, .c .nils =>
    match P.underlying t, eqNil h x, op with
    | some (.slice _), some b, .eql => K (boolC b)
    | some (.slice _), some b, .neq => K (boolC (!b))
    | _, _, _ => none
  | .c x, .c .nilp =>
    match P.underlying t, eqNilp x, op with
    | some (.pointer _), some b, .eql => K (boolC b)
    | some (.pointer _), some b, .neq => K (boolC (!b))
    | _, _, _ => none
  | _, _ => none

def unK (op : UnOp) (x : V) (K : V → Option R) : Option R :=
  match op, x with
  | .neg, .c (.val (.int k) a) => K (intC k (k.wrap (0 - a)))
  | .xor, .c (.val (.int k) a) => K (intC k (bitsOp .xor k (if k.signed then -1 else k.max) a))
  | .not, .c (.val .bool b) => K (boolC (!b))
  | _, _ => none

def convK (P : Program) (src dst : TypeId) (x : V) (K : V → Option R) : Option R :=
  match P.underlying src, P.underlying dst, x with
  | some (.int _), some (.int k), .c (.val (.int _) n) => K (intC k (k.wrap n))
  | some .string, some .string, .c (.val .str s) => K (strC s)
  | _, _, _ => none

/-- What a load of a type takes out of cells. -/
def loadCs (P : Program) (t : TypeId) (off : Nat) (cs : List C) (K : V → Option R) : Option R :=
  match P.info? t, P.underlying t with
  | some i, some d =>
    bif aggD d then
      bif Nat.ble (off + i.size) (len' cs) then K (.agg (first i.size (cut off cs))) else none
    else match nth cs off with
      | some c => K (.c c)
      | none => none
  | _, _ => none

/-- Reading the machine's own memory; under a limit only blocks that stood before the region began. -/
def rdH (h : Heap) (lim : Option Nat) (id : Nat) : Option Blk :=
  match lim with
  | none => h id
  | some l => bif Nat.blt id l then h id else none

def opLoad (P : Program) (h : Heap) (lim : Option Nat) (t : TypeId) (x : V) (K : V → Option R) : Option R :=
  match x with
  | .c (.ptr id off) => match rdH h lim id with
    | some (.box cs) => loadCs P t off cs K
    | _ => none
  | .c (.eptr id i off) => match rdH h lim id with
    | some (.row u xs _) => loadCs P t off (explode u (rd u.dflt xs i)) K
    | _ => none
  | .c (.fptr u x off) => loadCs P t off (explode u x) K
  | _ => none

/-- The cells that a value of this size lays over others. -/
def opStore (P : Program) (h : Heap) (t : TypeId) (x v : V) (K : Upd → Option R) : Option R :=
  match P.info? t, v.cells with
  | some i, some vc =>
    bif Nat.beq (len' vc) i.size then
      match x with
      | .c (.ptr id off) => match h id with
        | some (.box cs) => bif Nat.ble (off + i.size) (len' cs) then K [(id, .box (over off vc cs))] else none
        | _ => none
      | .c (.eptr id j off) => match h id with
        | some (.row u xs false) =>
          bif Nat.ble (off + i.size) u.sz then
            match implode h u (over off vc (explode u (rd u.dflt xs j))) with
            | some (y, [], l) => bif memN id l then none else K (app (freezes h l) [(id, .row u (xs.set j.toNat y) false)])
            | _ => none
          else none
        | _ => none
      | _ => none
    else none
  | _, _ => none

def fieldsOf (P : Program) (t : TypeId) : List Field :=
  match P.underlying t with
  | some (.struct fs) => fs.toList
  | _ => []

def opFieldAddr (P : Program) (s : TypeId) (x : V) (f : Nat) (K : V → Option R) : Option R :=
  match nth (fieldsOf P s) f with
  | some fd => match P.info? fd.type with
    | some i => bif Nat.beq i.size 0 then none else
      match x with
      | .c (.ptr id off) => K (.c (.ptr id (off + fd.offset)))
      | .c (.eptr id j off) => K (.c (.eptr id j (off + fd.offset)))
      | .c (.fptr u y off) => K (.c (.fptr u y (off + fd.offset)))
      | _ => none
    | none => none
  | none => none

def opField (P : Program) (t : TypeId) (x : V) (f : Nat) (K : V → Option R) : Option R :=
  match x, nth (fieldsOf P t) f with
  | .agg cs, some fd => loadCs P fd.type fd.offset cs K
  | _, _ => none

/-- Case by case over the places of an array. -/
def splitK (i : Int) (K : Nat → Option R) : (n m : Nat) → Option R
  | 0, _ => none
  | n + 1, m => bif (i == (m : Int)) then K m else splitK i K n (m + 1)

def opIndexAddr (P : Program) (h : Heap) (lim : Option Nat) (t : TypeId) (x i : V) (K : V → Option R) : Option R :=
  match i with
  | .c (.val (.int _) i) =>
    match P.underlying t with
    | some (.slice e) => match P.info? e with
      | some ie =>
        match x with
        | .c (.val (.sl u) xs) => bif Nat.beq ie.size u.sz then (bif decide (0 ≤ i) && decide (i < (xs.length : Int)) then K (.c (.fptr u (rd u.dflt xs i) 0)) else none) else none
        | .c (.ref id) => match rdH h lim id with
          | some (.row u xs _) => bif Nat.beq ie.size u.sz then (bif decide (0 ≤ i) && decide (i < (xs.length : Int)) then K (.c (.eptr id i 0)) else none) else none
          | _ => none
        | _ => none
      | none => none
    | some (.array n e) => match P.info? e with
      | some ie =>
        match x with
        | .c (.ptr id off) => splitK i (fun m => K (.c (.ptr id (off + m * ie.size)))) n 0
        | .c (.eptr id j off) => splitK i (fun m => K (.c (.eptr id j (off + m * ie.size)))) n 0
        | .c (.fptr u y off) => splitK i (fun m => K (.c (.fptr u y (off + m * ie.size)))) n 0
        | _ => none
      | none => none
    | _ => none
  | _ => none

def opIndex (P : Program) (t : TypeId) (x i : V) (K : V → Option R) : Option R :=
  match i with
  | .c (.val (.int _) i) =>
    match P.underlying t, x with
    | some .string, .c (.val .str s) => bif decide (0 ≤ i) && decide (i < (s.size : Int)) then K (intC .u8 (bt s i)) else none
    | some (.array n e), .agg cs => match P.info? e with
      | some ie => splitK i (fun m => loadCs P e (m * ie.size) cs K) n 0
      | none => none
    | _, _ => none
  | _ => none

def bndLo (x : Option V) : Option Int :=
  match x with
  | none => some 0
  | some (.c (.val (.int _) i)) => some i
  | _ => none
def bndHi (n : Int) (x : Option V) : Option Int :=
  match x with
  | none => some n
  | some (.c (.val (.int _) i)) => some i
  | _ => none

def sizeB (P : Program) (e : TypeId) (u : Ty) : Bool := match P.info? e with | some i => Nat.beq i.size u.sz | none => false
def opSlice (P : Program) (h : Heap) (lim : Option Nat) (t : TypeId) (x : V) (lo hi mx : Option V) (K : V → Upd → Option R) : Option R :=
  match mx with
  | some _ => none
  | none =>
    match P.underlying t, x with
    | some .string, .c (.val .str s) => match bndLo lo, bndHi s.size hi with
      | some l, some h => bif decide (0 ≤ l) && (decide (l ≤ h) && decide (h ≤ (s.size : Int))) then K (strC (s.extract l.toNat h.toNat)) [] else none
      | _, _ => none
    | some (.slice e), .c (.val (.sl u) xs) => match bndLo lo, bndHi xs.length hi with
      | some l, some h => bif sizeB P e u && (decide (0 ≤ l) && (decide (l ≤ h) && decide (h ≤ (xs.length : Int)))) then K (.c (.val (.sl u) (sliceOf xs l h))) [] else none
      | _, _ => none
    | some (.slice e), .c (.ref id) =>
      match lim, h id with
      | none, some (.row u xs _) => match bndLo lo, bndHi xs.length hi with
        | some l, some h => bif sizeB P e u && (decide (0 ≤ l) && (decide (l ≤ h) && decide (h ≤ (xs.length : Int)))) then K (.c (.val (.sl u) (sliceOf xs l h))) [(id, .row u xs true)] else none
        | _, _ => none
      | _, _ => none
    | some (.slice e), .c .nils => match bndLo lo, bndHi 0 hi with
      | some l, some h => bif (P.info? e).isSome && (decide (l = 0) && decide (h = 0)) then K (.c .nils) [] else none
      | _, _ => none
    | _, _ => none

def elemTy (P : Program) (t : TypeId) : Option (TypeId × TypeInfo × Ty) :=
  match P.underlying t with
  | some (.slice e) => match P.info? e with
    | some i => match tyOf P 20 e with
      | some u => bif Nat.beq i.size u.sz && !Nat.beq i.size 0 && (Nat.ble i.bytes 65536 && !Nat.beq i.bytes 0) then
          match i.zero with
          | some z => match zeroB u z.cells.toList with
            | some [] => some (e, i, u)
            | _ => none
          | none => none
        else none
      | none => none
    | none => none
  | _ => none

def opMakeSlice (P : Program) (id : Nat) (h : Heap) (t : TypeId) (l c : V) (K : V → Upd → Option R) : Option R :=
  match elemTy P t, l, c with
  | some (_, i, u), .c (.val (.int _) l), .c (.val (.int _) c) =>
    match h id with
    | none => bif decide (0 ≤ l) && (decide (l ≤ c) && decide ((i.bytes : Int) * c ≤ 281474976710656)) && decide (c ≤ 9223372036854775807) then
        K (.c (.ref id)) [(id, .row u (List.replicate l.toNat u.dflt) false)] else none
    | some _ => none
  | _, _, _ => none

/-- The parts 0, 1, .. of a literal, each taken in. -/
def litRow (h : Heap) (u : Ty) : Nat → List (Nat × V) → Option (List u.den × List Nat)
  | _, [] => some ([], [])
  | m, (i, v) :: r =>
    bif Nat.beq i m then
      match v.cells with
      | some vc => match implode h u vc with
        | some (x, [], l) => match litRow h u (m + 1) r with
          | some (xs, l') => some (x :: xs, app l l')
          | none => none
        | _ => none
      | none => none
    else none

def opBuildSlice (P : Program) (id : Nat) (h : Heap) (lim : Option Nat) (t : TypeId) (n : Nat) (parts : List (Nat × V)) (K : V → Upd → Option R) : Option R :=
  match elemTy P t, h id with
  | some (_, i, u), none =>
    bif Nat.beq n (len' parts) && Nat.ble (n * i.size) 16777216 then
      match litRow h u 0 parts with
      | some (xs, l) =>
        match lim, l with
        | some _, _ :: _ => none
        | _, _ => K (.c (.ref id)) (app (freezes h l) [(id, .row u xs false)])
      | none => none
    else none
  | _, _ => none

def opLen (P : Program) (h : Heap) (lim : Option Nat) (t : TypeId) (x : V) (K : V → Option R) : Option R :=
  match P.underlying t, x with
  | some .string, .c (.val .str s) => K (intC .i64 (s.size : Int))
  | some (.slice _), .c (.val (.sl _) xs) => K (intC .i64 (xs.length : Int))
  | some (.slice _), .c .nils => K (intC .i64 0)
  | some (.slice _), .c (.ref id) => match rdH h lim id with
    | some (.row _ xs _) => K (intC .i64 (xs.length : Int))
    | _ => none
  | some (.array n _), _ => K (intC .i64 (n : Int))
  | _, _ => none

/-- A slice's contents, for reading, as elements of kind `u`. -/
def readSl (h : Heap) (u : Ty) : V → Option (List u.den)
  | .c .nils => some []
  | .c (.val t xs) => castTo (.sl u) (t := t) xs
  | .c (.ref id) => match h id with
    | some (.row t xs _) => castTo (.sl u) (t := .sl t) xs
    | _ => none
  | _ => none

def roomN : Nat := 140737488355328      -- 2 ^ 47 bytes
def opAppend (P : Program) (id : Nat) (h : Heap) (t t2 : TypeId) (x y : V) (K : V → Upd → Option R) : Option R :=
  match elemTy P t, elemTy P t2, h id with
  | some (_, i, u), some _, none =>
    match readSl h u y with
    | some ys =>
      match x with
      | .c .nils => bif decide (ys.length * i.bytes ≤ roomN) then K (.c (.ref id)) [(id, .row u ys false)] else none
      | .c (.ref r) => match h r with
        | some (.row u' xs false) => match castTo (.sl u) (t := .sl u') xs with
          | some xs => bif decide ((xs.length + ys.length) * i.bytes ≤ roomN) then K (.c (.ref id)) [(r, .dead), (id, .row u (xs ++ ys) false)] else none
          | none => none
        | _ => none
      | _ => none
    | none => none
  | _, _, _ => none

def minK : List V → Option V
  | [] => none
  | x :: r => go x r
where
  go (x : V) : List V → Option V
    | [] => some x
    | y :: r => match x, y with
      | .c (.val (.int k) a), .c (.val (.int _) b) => go (intC k (if b < a then b else a)) r
      | _, _ => none
def maxK : List V → Option V
  | [] => none
  | x :: r => go x r
where
  go (x : V) : List V → Option V
    | [] => some x
    | y :: r => match x, y with
      | .c (.val (.int k) a), .c (.val (.int _) b) => go (intC k (if b > a then b else a)) r
      | _, _ => none

def opExtract (x : V) (i : Nat) (K : V → Option R) : Option R :=
  match x with
  | .tup vs => match nth vs i with
    | some (.inl c) => K (.c c)
    | some (.inr cs) => K (.agg cs)
    | none => none
  | _ => none

/-- A result's cells, its slices as rows of the caller's own (or frozen). -/
def resC (own : Bool) (base : Nat) : (t : Ty) → t.den → Nat → List C × Upd × Nat
  | .unit, _, c => ([], [], c)
  | .int k, x, c => ([.val (.int k) x], [], c)
  | .bool, x, c => ([.val .bool x], [], c)
  | .str, x, c => ([.val .str x], [], c)
  | .sl t, x, c => bif own then ([.ref (base + c)], [(base + c, .row t x false)], c + 1) else ([.val (.sl t) x], [], c)
  | .pair a b, x, c =>
    (app (resC own base a x.1 c).1 (resC own base b x.2 (resC own base a x.1 c).2.2).1,
     app (resC own base a x.1 c).2.1 (resC own base b x.2 (resC own base a x.1 c).2.2).2.1,
     (resC own base b x.2 (resC own base a x.1 c).2.2).2.2)
def resV (t : Ty) (cs : List C) : C ⊕ List C := bif t.isAgg then .inr cs else (match cs with | [c] => .inl c | cs => .inr cs)
def resVs (own : Bool) (base : Nat) : (ts : List Ty) → (tupT ts).den → Nat → List (C ⊕ List C) × Upd
  | [], _, _ => ([], [])
  | t :: ts, x, c =>
    (resV t (resC own base t x.1 c).1 :: (resVs own base ts x.2 (resC own base t x.1 c).2.2).1,
     app (resC own base t x.1 c).2.1 (resVs own base ts x.2 (resC own base t x.1 c).2.2).2)
def tupV : List (C ⊕ List C) → V
  | [.inl c] => .c c
  | [.inr cs] => .agg cs
  | l => .tup l
def sls : Ty → Nat
  | .sl _ => 1
  | .pair a b => sls a + sls b
  | _ => 0

def freeUpd (h : Heap) : Upd → Bool
  | [] => true
  | (i, _) :: r => (match h i with | none => true | some _ => false) && freeUpd h r
def ltAll (l : Nat) : List Nat → Bool
  | [] => true
  | x :: r => Nat.blt x l && ltAll l r

/-- Arguments one by one: each takes its own cells. -/
def argsIn (h : Heap) : (ts : List Ty) → List V → Option ((tupT ts).den × List Nat)
  | [], [] => some ((), [])
  | t :: ts, v :: vs => match v.cellsAs t with
    | some vc => match implode h t vc with
      | some (x, [], l) => match argsIn h ts vs with
        | some (y, l') => some ((x, y), app l l')
        | none => none
      | _ => none
    | none => none
  | _, _ => none

def opCall (E : Env) (id : Nat) (h : Heap) (lim : Option Nat) (f : Nat) (args : List V) (K : V → Upd → Option R) : Option R :=
  match E.C f with
  | some s =>
    match argsIn h s.pt args with
    | some (x, l) =>
      bif Nat.blt (sls (tupT s.rt)) 60 && (match lim with | none => true | some b => ltAll b l && ((tupT s.rt).shallow && s.own || (match l with | [] => true | _ => false))) then
        (s.f x).bind fun y =>
          bif freeUpd h (resVs s.own id s.rt y 0).2 then
            K (tupV (resVs s.own id s.rt y 0).1)
              (app (bif (tupT s.rt).shallow && s.own then [] else freezes h l) (resVs s.own id s.rt y 0).2)
          else none
      else none
    | none => none
  | none => none

def evs (st : St) : List Operand → List V
  | [] => []
  | x :: r => st.ev x :: evs st r
def evPs (st : St) : List (Nat × Operand) → List (Nat × V)
  | [] => []
  | (i, x) :: r => (i, st.ev x) :: evPs st r

/-- A struct or array literal. -/
def fillC (place : Nat → Option (Nat × Nat)) : List C → List (Nat × V) → Option (List C)
  | cs, [] => some cs
  | cs, (i, v) :: r => match place i with
    | some (off, size) => match v.cells with
      | some vc => bif Nat.beq (len' vc) size && Nat.ble (off + size) (len' cs) then fillC place (over off vc cs) r else none
      | none => none
    | none => none
def placesOf (P : Program) : List Field → Option (List (Nat × Nat))
  | [] => some []
  | f :: r => match P.info? f.type with
    | some i => match placesOf P r with
      | some l => some ((f.offset, i.size) :: l)
      | none => none
    | none => none
def opBuild (P : Program) (t : TypeId) (parts : List (Nat × V)) (K : V → Option R) : Option R :=
  match P.info? t with
  | some i => match i.zero with
    | some z => bif !oneB z.cells.toList then none else match P.underlying t with
      | some (.struct fs) => match placesOf P fs.toList with
        | some l => match fillC (nth l) (absCs z.cells.toList) parts with
          | some cs => K (.agg cs)
          | none => none
        | none => none
      | some (.array _ e) => match P.info? e with
        | some ie => match fillC (fun i => some (i * ie.size, ie.size)) (absCs z.cells.toList) parts with
          | some cs => K (.agg cs)
          | none => none
        | none => none
      | _ => none
    | none => none
  | none => none

def opK (E : Env) (st : St) (lim : Option Nat) (o : Oper) (K : V → Upd → Option R) : Option R :=
  let h := st.heap
  let id := nid st.ep (o.dst.getD 0) 0
  match o.op with
  | .move x | .assign x => K (st.ev x) []
  | .pick c a b => match st.ev c with
    | .c (.val .bool bv) => match st.ev a, st.ev b with
      | .c (.val .bool x), .c (.val .bool y) => K (boolC (bif bv then x else y)) []
      | va, vb => bif bv then K va [] else K vb []
    | _ => none
  | .alloc elem => match E.P.info? elem, h id with
    | some i, none => match i.zero with
      | some z => bif oneB z.cells.toList then K (.c (.ptr id 0)) [(id, .box (absCs z.cells.toList))] else none
      | none => none
    | _, _ => none
  | .box _ x => match (st.ev x).cells, h id with
    | some cs, none => K (.c (.ptr id 0)) [(id, .box cs)]
    | _, _ => none
  | .build t parts => opBuild E.P t (evPs st parts.toList) fun v => K v []
  | .buildSlice t n parts => opBuildSlice E.P id h lim t n (evPs st parts.toList) K
  | .load t x => opLoad E.P h lim t (st.ev x) fun v => K v []
  | .store t x y => match lim with
    | none => opStore E.P h t (st.ev x) (st.ev y) fun u => K (.c .undef) u
    | some _ => none
  | .nilCheck x => match st.ev x with
    | .c (.ptr id off) => K (.c (.ptr id off)) []
    | .c (.eptr id i off) => K (.c (.eptr id i off)) []
    | .c (.fptr t y off) => K (.c (.fptr t y off)) []
    | _ => none
  | .binOp op t x y _ => binK E.P (rdH h lim) op t (st.ev x) (st.ev y) fun v => K v []
  | .unOp op _ x => unK op (st.ev x) fun v => K v []
  | .convert src dst x => convK E.P src dst (st.ev x) fun v => K v []
  | .makeSlice t l c => opMakeSlice E.P id h t (st.ev l) (st.ev c) K
  | .slice t x lo hi mx => opSlice E.P h lim t (st.ev x) (lo.map st.ev) (hi.map st.ev) (mx.map st.ev) K
  | .fieldAddr s x f => opFieldAddr E.P s (st.ev x) f fun v => K v []
  | .field t x f => opField E.P t (st.ev x) f fun v => K v []
  | .indexAddr t x i => opIndexAddr E.P h lim t (st.ev x) (st.ev i) fun v => K v []
  | .index t x i => opIndex E.P t (st.ev x) (st.ev i) fun v => K v []
  | .extract x i => opExtract (st.ev x) i fun v => K v []
  | .call c => match c.callee with
    | .value f => match st.ev f with
      | .c (.fn f) => opCall E id h lim f (evs st c.args.toList) K
      | _ => none
    | .builtin .len => match c.argTypes.toList, c.args.toList with
      | [t], [x] => opLen E.P h lim t (st.ev x) fun v => K v []
      | _, _ => none
    | .builtin .append => match lim, c.argTypes.toList, c.args.toList with
      | none, [t, t2], [x, y] => opAppend E.P id h t t2 (st.ev x) (st.ev y) K
      | _, _, _ => none
    | .builtin .min => match minK (evs st c.args.toList) with
      | some v => K v []
      | none => none
    | .builtin .max => match maxK (evs st c.args.toList) with
      | some v => K v []
      | none => none
    | _ => none
  | _ => none

/-! ### Regions, code -/
def St.put (st : St) (dst : Option Nat) (v : V) (u : Upd) : St :=
  { st with tmp := match dst with | some d => updT st.tmp d v | none => st.tmp, heap := updsH st.heap u }

def dstOk (st : St) (lim : Option Nat) (o : Oper) : Bool :=
  match o.dst with
  | some d => Nat.blt d st.n
  | none => lim.isNone

/-- The guard's value, as far as it is known. -/
def guardV (ops : Array Oper) (st : St) (j : Nat) : Option (Nat × Bool) :=
  match (ops[j]?).bind (·.dst) with
  | some d => match st.tmp d with
    | .c (.val .bool b) => some (d, b)
    | _ => none
  | none => none

/-- The guard was not carried out. -/
def skipB (ops : Array Oper) (st : St) (j : Nat) : Bool :=
  match (ops[j]?).bind (·.dst) with
  | some d => match st.tmp d with
    | .tup [] => true
    | _ => false
  | none => false

/-- One operation, its guard asked. -/
def stepK (E : Env) (ops : Array Oper) (lim : Option Nat) (o : Oper) (st : St) (K : St → Option R) : Option R :=
  bif dstOk st lim o then
    match o.guard with
    | none => opK E st lim o fun v u => K (st.put o.dst v u)
    | some (j, want) => match guardV ops st j with
      | none => bif skipB ops st j then K (st.put o.dst (.tup []) []) else none
      | some (d, b) =>
        bif b then
          let st' := { st with tmp := updT st.tmp d (boolC true) }
          bif want then opK E st' lim o (fun v u => K (st'.put o.dst v u)) else K (st'.put o.dst (.tup []) [])
        else
          let st' := { st with tmp := updT st.tmp d (boolC false) }
          bif want then K (st'.put o.dst (.tup []) []) else opK E st' lim o (fun v u => K (st'.put o.dst v u))
  else none

/-- Operations that have nothing to do with memory. -/
def pureOp (P : Program) : Op → Bool
  | .move _ | .assign _ | .pick .. | .build .. | .nilCheck _ | .unOp .. | .fieldAddr .. | .field .. | .index .. | .extract .. | .convert .. => true
  | .binOp _ t _ _ _ => match P.underlying t with | some (.slice _) => false | _ => true
  | .indexAddr t _ _ => match P.underlying t with | some (.array _ _) => true | _ => false
  | .call c => match c.callee with | .builtin .min | .builtin .max => true | _ => false
  | _ => false

def bitB (b : Array Nat) (j i : Nat) : Bool := (b.getD j 0).testBit i
/-- Operation i is ordered against every other one that has to do with memory. -/
def totB (P : Program) (ops : List Oper) (b : Array Nat) (i : Nat) : Bool :=
  go ops 0
where
  go : List Oper → Nat → Bool
    | [], _ => true
    | o :: r, j => (Nat.beq i j || pureOp P o.op || bitB b i j || bitB b j i) && go r (j + 1)

/-- All operations, one after the other; in a region that draws, what is not ordered against all else is under the limit. -/
def opsK (E : Env) (ops : Array Oper) (draw : Bool) (b : Array Nat) (l0 : Nat) : List Oper → Nat → St → (St → Option R) → Option R
  | [], _, st, K => K st
  | o :: r, i, st, K =>
    stepK E ops (bif !draw || pureOp E.P o.op || totB E.P ops.toList b i then none else some l0) o st fun st' => opsK E ops draw b l0 r (i + 1) st' K

/-- Any two operations of the region are ordered, or apart. -/
def lexB (ops : Array Oper) (b : Array Nat) : Bool := Region.noSelectB ops && rows ops.toList 0
where
  Region.noSelectB (ops : Array Oper) : Bool := ops.toList.all fun o => match o.op with | .select .. => false | _ => true
  rows : List Oper → Nat → Bool
    | [], _ => true
    | o :: r, i => (o.after.toList.all fun e => !Region.binds .any e || Nat.blt e.on i) && row o i r (i + 1) && rows r (i + 1)
  row (o : Oper) (i : Nat) : List Oper → Nat → Bool
    | [], _ => true
    | p :: r, j => (bitB b j i || Oper.apart ops o p) && row o i r (j + 1)

def exec (E : Env) : Code → (Ex → St → Option R) → St → Option R
  | .skip, K, st => K .normal st
  | .label _, K, st => K .normal st
  | .region _ ops draw, K, st =>
    bif !draw || lexB ops (Region.before ops) then
      opsK E ops draw (bif draw then Region.before ops else #[]) (nid st.ep 0 0) ops.toList 0 st fun st' => K .normal { st' with ep := st'.ep + 1 }
    else none
  | .seq a b, K, st => exec E a (fun e s => match e with | .normal => exec E b K s | e => K e s) st
  | .cond c x y, K, st => match st.ev c with
    | .c (.val .bool bv) => bif bv then exec E x K st else exec E y K st
    | _ => none
  | .block id c, K, st => exec E c (fun e s => match e with | .exit i => bif Nat.beq i id then K .normal s else K (.exit i) s | e => K e s) st
  | .loop c, K, st => match E.L (key c) with
    | some ls => match dec ls.inL st with
      | some x => (ls.F E.k x).bind fun o => out K st.n ls.exits o
      | none => none
    | none => none
  | .exit id, K, st => K (.exit id) st
  | .ret, K, st => K .ret st
  | _, _, _ => none
where
  key : Code → Nat
    | .region id _ _ => id
    | .seq a _ => key a
    | .block _ c => key c
    | .loop c => key c
    | _ => 0
  out {R : Type} (K : Ex → St → Option R) (n : Nat) : (l : List (Ex × Layout)) → Sum' l → Option R
    | [], x => nomatch x
    | [e], x => K e.1 (enc n e.2 x)
    | e :: e' :: r, x => Sum.elim (fun y => K e.1 (enc n e.2 y)) (fun y => out K n (e' :: r) y) x

/-- At a loop's round's end. -/
def inj : (l : List (Ex × Layout)) → Ex → St → Option (Sum' l)
  | [], _, _ => none
  | [e], x, st => bif Ex.is e.1 x then dec e.2 st else none
  | e :: e' :: r, x, st => bif Ex.is e.1 x then (match dec e.2 st with | some y => some (.inl y) | none => none)
    else (match inj (e' :: r) x st with | some y => some (.inr y) | none => none)

def loopK (ls : LoopSig) (F : (lTy ls.inL).den → Option (Sum' ls.exits)) (e : Ex) (st : St) : Option (Sum' ls.exits) :=
  match e with
  | .normal => match dec ls.inL st with
    | some x => F x
    | none => none
  | e => inj ls.exits e st

/-! ### A function -/
def argV (t : Ty) (x : t.den) : V := valV t x
def initT : (ts : List Ty) → (tupT ts).den → Nat → (Nat → V)
  | [], _, _ => fun _ => .c .undef
  | t :: ts, x, i => updT (initT ts x.2 (i + 1)) i (argV t x.1)
def init (n : Nat) (ts : List Ty) (x : (tupT ts).den) : St := { tmp := initT ts x 0, heap := fun _ => none, ep := 1, n := n }

/-- A result variable's value. -/
def resVar (P : Program) (st : St) : ResultVar → Option V
  | .tmp t => some (st.tmp t)
  | .cell a t => opLoad P st.heap none t (st.tmp a) some
/-- Own rows out of cells: each once, none frozen; no frozen slice. -/
def ownC (h : Heap) : List C → Bool
  | [] => true
  | .ref id :: r => (match h id with | some (.row _ _ false) => true | _ => false) && ownC h r
  | .val (.sl _) _ :: _ => false
  | _ :: r => ownC h r
def takeRes (P : Program) (st : St) (own : Bool) : (ts : List Ty) → List ResultVar → Option ((tupT ts).den × List Nat)
  | [], [] => some ((), [])
  | t :: ts, r :: rs => match resVar P st r with
    | some v => match v.cellsAs t with
      | some vc => bif !own || ownC st.heap vc then
          match implode st.heap t vc with
          | some (x, [], l) => match takeRes P st own ts rs with
            | some (y, l') => some ((x, y), app l l')
            | none => none
          | _ => none
        else none
      | none => none
    | none => none
  | _, _ => none
def retK (P : Program) (fn : Func) (own : Bool) (rt : List Ty) (e : Ex) (st : St) : Option (tupT rt).den :=
  match e with
  | .exit _ => none
  | _ => match takeRes P st own rt fn.results.toList with
    | some (y, l) => bif !own || nodupB l then some y else none
    | none => none

def runF (E : Env) (fn : Func) (pt rt : List Ty) (own : Bool) (x : (tupT pt).den) : Option (tupT rt).den :=
  match fn.body with
  | some c => exec E c (retK E.P fn own rt) (init fn.ntmps pt x)
  | none => none
end ops
end Go.VM
