import Derived.Test.YticbohfmkiafiaaVM2
namespace Go.VM
section
variable {R : Type}
theorem cond_bind {α β : Type} (b : Bool) (x y : Option α) (f : α → Option β) : (bif b then x else y).bind f = bif b then x.bind f else y.bind f := by cases b <;> rfl
theorem binInt_nat (op : BinOp) (k : IntKind) (a b : Int) (K : V → Option R) : binInt op k a b K = (binInt op k a b some).bind K := by
  cases op <;> simp [binInt, cond_bind]
theorem shiftOp_nat (op : BinOp) (k : IntKind) (a b : Int) (K : V → Option R) : shiftOp op k a b K = (shiftOp op k a b some).bind K := by
  cases op <;> simp [shiftOp, cond_bind]
theorem binStr_nat (op : BinOp) (x y : ByteArray) (K : V → Option R) : binStr op x y K = (binStr op x y some).bind K := by
  cases op <;> simp [binStr, cond_bind]
theorem binV_nat (P : Program) (op : BinOp) (t : TypeId) (K : V → Option R) (u : Ty) (a : u.den) (u' : Ty) (b : u'.den) : binV P op t K u a u' b = (binV P op t some u a u' b).bind K := by
  unfold binV
  split
  · rw [cond_bind, cond_bind, shiftOp_nat, binInt_nat]; rfl
  · exact binStr_nat ..
  · split <;> simp
  · rfl
theorem eqNilK_nat {h : Heap} {c : C} {neg : Bool} {K : V → Option R} : eqNilK h c (fun a => K (ansV neg a)) = (eqNilK h c (fun a => some (ansV neg a))).bind K := by
  unfold eqNilK
  split
  · rfl
  · split
    · rw [cond_bind]; rfl
    · rfl
  · rw [cond_bind]; rfl
  · rfl
theorem binC_nat (P : Program) (h : Heap) (op : BinOp) (t : TypeId) (x y : C) (K : V → Option R) : binC P h op t x y K = (binC P h op t x y some).bind K := by
  unfold binC
  split
  · split
    · exact binV_nat ..
    · rfl
  · split
    · exact eqNilK_nat ..
    · exact eqNilK_nat ..
    · rfl
  · split <;> simp
  · rfl
theorem binK_nat (P : Program) (h : Heap) (op : BinOp) (t : TypeId) (x y : V) (K : V → Option R) : binK P h op t x y K = (binK P h op t x y some).bind K := by
  unfold binK
  split
  · exact binC_nat ..
  · split
    · rw [cond_bind]; congr 1; split <;> simp
    · rfl
  · rfl
theorem errK_nat (P : Program) (op : BinOp) (t : TypeId) (x : V) (K : V → Option R) : errK P op t x K = (errK P op t x some).bind K := by
  unfold errK
  split
  · split <;> rfl
  · rfl
theorem unK_nat (op : UnOp) (x : V) (K : V → Option R) : unK op x K = (unK op x some).bind K := by
  unfold unK; split <;> simp
theorem convS_nat (P : Program) (h : Nat → Option Blk) (src dst : TypeId) (x : V) (K : V → Option R) : convS P h src dst x K = (convS P h src dst x some).bind K := by
  unfold convS
  repeat' split
  all_goals simp
theorem convK_nat (P : Program) (src dst : TypeId) (x : V) (K : V → Option R) : convK P src dst x K = (convK P src dst x some).bind K := by
  unfold convK; split <;> simp
theorem loadCs_nat (P : Program) (t : TypeId) (off : Nat) (cs : List C) (K : V → Option R) : loadCs P t off cs K = (loadCs P t off cs some).bind K := by
  unfold loadCs; split <;> simp only [cond_bind, Option.bind_none]
  congr 1
  split <;> simp
theorem opLoad_nat (P : Program) (h : Heap) (lim : Option Nat) (t : TypeId) (x : V) (K : V → Option R) : opLoad P h lim t x K = (opLoad P h lim t x some).bind K := by
  unfold opLoad
  split
  · split
    · exact loadCs_nat ..
    · rfl
  · split
    · exact loadCs_nat ..
    · rfl
  · exact loadCs_nat ..
  · rfl
theorem opField_nat (P : Program) (t : TypeId) (x : V) (f : Nat) (K : V → Option R) : opField P t x f K = (opField P t x f some).bind K := by
  unfold opField; split
  · exact loadCs_nat ..
  · rfl
theorem opStore_nat (P : Program) (mk : Bool) (h : Heap) (t : TypeId) (x v : V) (K : Upd → Option R) : opStore P mk h t x v K = (opStore P mk h t x v some).bind K := by
  unfold opStore
  split
  · rw [cond_bind]
    congr 1
    split
    · split
      · rw [cond_bind]
        congr 1
        split
        · rfl
        · split
          · rfl
          · simp [cond_bind]
      · rfl
    · split
      · rw [cond_bind]
        congr 1
        split <;> simp [cond_bind]
      · rfl
    · rfl
  · rfl
theorem opFieldAddr_nat (P : Program) (s : TypeId) (x : V) (f : Nat) (K : V → Option R) : opFieldAddr P s x f K = (opFieldAddr P s x f some).bind K := by
  unfold opFieldAddr
  split
  · split
    · rw [cond_bind]
      congr 1
      split <;> simp
    · rfl
  · rfl
theorem splitK_nat (i : Int) {α : Type} (g : Nat → Option α) (K : α → Option R) : ∀ n m, splitK i (fun m => (g m).bind K) n m = (splitK i g n m).bind K
  | 0, _ => rfl
  | n + 1, m => by simp only [splitK, cond_bind]; rw [splitK_nat i g K n (m + 1)]
theorem opIndexAddr_nat (P : Program) (h : Heap) (lim : Option Nat) (t : TypeId) (x i : V) (K : V → Option R) : opIndexAddr P h lim t x i K = (opIndexAddr P h lim t x i some).bind K := by
  unfold opIndexAddr
  split
  · split
    · split
      · split
        · rw [cond_bind, cond_bind]; simp
        · split <;> simp [cond_bind]
        · split <;> simp [cond_bind]
        · split <;> simp [cond_bind]
        · rfl
      · rfl
    · split
      · split
        · rw [← splitK_nat]; simp
        · rw [← splitK_nat]; simp
        · rw [← splitK_nat]; simp
        · rfl
      · rfl
    · rfl
  · rfl
theorem opIndex_nat (P : Program) (t : TypeId) (x i : V) (K : V → Option R) : opIndex P t x i K = (opIndex P t x i some).bind K := by
  unfold opIndex
  split
  · split
    · rw [cond_bind]; simp
    · split
      · rw [← splitK_nat]; congr 1; funext m; exact loadCs_nat ..
      · rfl
    · rfl
  · rfl
noncomputable def two {α β : Type} (K : α → β → Option R) (p : α × β) : Option R := K p.1 p.2
noncomputable def mkp {α β : Type} (x : α) (y : β) : Option (α × β) := some (x, y)
theorem sliceRow_nat (P : Program) (e : TypeId) (id : Nat) (u : Ty) (xs ys : List u.den) (fz : Bool) (lo hi : Option V) (K : V → Upd → Option R) : sliceRow P e id u xs ys fz lo hi K = (sliceRow P e id u xs ys fz lo hi mkp).bind (two K) := by
  unfold sliceRow
  split
  · simp only [cond_bind]; rfl
  · rfl
theorem sliceRowL_nat (P : Program) (e : TypeId) (id : Nat) (u : Ty) (xs ys : List u.den) (fz : Bool) (lo hi : Option V) (K : V → Upd → Option R) : sliceRowL P e id u xs ys fz lo hi K = (sliceRowL P e id u xs ys fz lo hi mkp).bind (two K) := by
  unfold sliceRowL
  rw [cond_bind]
  congr 1
  exact sliceRow_nat ..
theorem opClear_nat (P : Program) (h : Heap) (t : TypeId) (x : V) (K : Upd → Option R) : opClear P h t x K = (opClear P h t x some).bind K := by
  unfold opClear
  split
  · split
    · split
      · rw [cond_bind]; rfl
      · rfl
    · rfl
  · rfl
theorem slice3_nat (h : Heap) (x : V) (lo hi : Option V) (m : V) (K : V → Upd → Option R) : slice3 h x lo hi m K = (slice3 h x lo hi m mkp).bind (two K) := by
  unfold slice3
  split
  · rw [cond_bind]; rfl
  · rfl
theorem opSlice_nat (P : Program) (id : Nat) (h : Heap) (lim : Option Nat) (t : TypeId) (x : V) (lo hi mx : Option V) (K : V → Upd → Option R) : opSlice P id h lim t x lo hi mx K = (opSlice P id h lim t x lo hi mx mkp).bind (two K) := by
  unfold opSlice
  split
  · split
    · rw [cond_bind]
      congr 1
      exact slice3_nat ..
    · rfl
  · split
    · split
      · rw [cond_bind]; rfl
      · rfl
    · split
      · rw [cond_bind]; rfl
      · rfl
    · split
      · split
        · exact sliceRow_nat ..
        · rfl
      · split
        · exact sliceRowL_nat ..
        · rfl
    · split
      · split
        · exact sliceRow_nat ..
        · rfl
      · split
        · exact sliceRowL_nat ..
        · rfl
    · split
      · rw [cond_bind]; rfl
      · rfl
    · rfl
theorem opMakeSlice_nat (P : Program) (id : Nat) (h : Heap) (t : TypeId) (l c : V) (K : V → Upd → Option R) : opMakeSlice P id h t l c K = (opMakeSlice P id h t l c mkp).bind (two K) := by
  unfold opMakeSlice
  split
  · split <;> simp [cond_bind, mkp, two]
  · rfl
theorem opBuildSlice_nat (P : Program) (id : Nat) (h : Heap) (lim : Option Nat) (t : TypeId) (n : Nat) (parts : List (Nat × V)) (K : V → Upd → Option R) : opBuildSlice P id h lim t n parts K = (opBuildSlice P id h lim t n parts mkp).bind (two K) := by
  unfold opBuildSlice
  split
  · rw [cond_bind]
    congr 1
    split
    · split <;> simp [mkp, two]
    · rfl
  · rfl
theorem opLen_nat (P : Program) (h : Heap) (lim : Option Nat) (t : TypeId) (x : V) (K : V → Option R) : opLen P h lim t x K = (opLen P h lim t x some).bind K := by
  unfold opLen
  split <;> try simp
  · split <;> simp
  · split <;> simp
theorem appStr_nat (P : Program) (id : Nat) (h : Heap) (t2 e : TypeId) (i : TypeInfo) (u : Ty) (x y : V) (K : V → Upd → Option R) : appStr P id h t2 e i u x y K = (appStr P id h t2 e i u x y mkp).bind (two K) := by
  unfold appStr
  split
  · split
    · split
      · simp [cond_bind, mkp, two]
      · rfl
    · rfl
  · rfl
theorem opAppend_nat (P : Program) (id : Nat) (h : Heap) (t t2 : TypeId) (x y : V) (K : V → Upd → Option R) : opAppend P id h t t2 x y K = (opAppend P id h t t2 x y mkp).bind (two K) := by
  unfold opAppend
  split
  · split
    · split
      · simp [cond_bind, mkp, two]
      · split
        · split <;> simp [cond_bind, mkp, two]
        · rfl
      · split
        · split <;> simp [cond_bind, mkp, two]
        · rfl
      · rfl
    · rfl
  · exact appStr_nat ..
  · rfl
theorem opExtract_nat (x : V) (i : Nat) (K : V → Option R) : opExtract x i K = (opExtract x i some).bind K := by
  unfold opExtract
  split
  · split <;> simp
  · rfl
theorem outK_nat {R S : Type} (K : (l : List CK) → (lTy (lay 0 l)).den → Option R) (M : (l : List CK) → (lTy (lay 0 l)).den → Option S) (f : S → Option R) (hK : ∀ l y, K l y = (M l y).bind f) :
    ∀ (ls : List (List CK)) (x : SumL ls), outK K ls x = (outK M ls x).bind f
  | [], x => nomatch x
  | [l], x => hK l x
  | l :: l' :: r, .inl x => hK l x
  | l :: l' :: r, .inr x => outK_nat K M f hK (l' :: r) x
theorem callOut_nat (base : Nat) (h : Heap) (lent : List Nat) (args : List V) (ow fz : List Nat) (K : V → Upd → Option R) (l : List CK) (y : (lTy (lay 0 l)).den) : callOut base h lent args ow fz K l y = (callOut base h lent args ow fz mkp l y).bind (two K) := by
  unfold callOut
  simp only [cond_bind]
  rfl
theorem callSigs_nat (id : Nat) (h : Heap) (lim : Option Nat) (args : List V) (K : V → Upd → Option R) : ∀ ss : List Sig, callSigs id h lim args K ss = (callSigs id h lim args mkp ss).bind (two K)
  | [] => rfl
  | s :: r => by
    simp only [callSigs]
    split
    · unfold callSig
      rw [cond_bind]
      congr 1
      rw [Option.bind_assoc]
      congr 1
      funext y
      exact outK_nat _ _ _ (fun l y => callOut_nat ..) _ _
    · exact callSigs_nat id h lim args K r
theorem opCall_nat (E : Env) (id : Nat) (h : Heap) (lim : Option Nat) (f : Nat) (args : List V) (K : V → Upd → Option R) : opCall E id h lim f args K = (opCall E id h lim f args mkp).bind (two K) := by
  unfold opCall
  rw [cond_bind, callSigs_nat]
  rfl
theorem opMakeFunc_nat (fn : Fn) (fs caps : List V) (K : V → Option R) : opMakeFunc fn fs caps K = (opMakeFunc fn fs caps some).bind K := by
  unfold opMakeFunc
  split
  · rfl
  · split <;> rfl
  · rfl
theorem opBuild_nat (P : Program) (t : TypeId) (parts : List (Nat × V)) (K : V → Option R) : opBuild P t parts K = (opBuild P t parts some).bind K := by
  unfold opBuild
  split
  · split
    · rw [cond_bind]
      congr 1
      split
      · split
        · split <;> simp
        · rfl
      · split
        · split <;> simp
        · rfl
      · rfl
    · rfl
  · rfl
theorem opK_nat (E : Env) (st : St) (lim : Option Nat) (o : Oper) (K : V → Upd → Option R) : opK E st lim o K = (opK E st lim o mkp).bind (two K) := by
  have lift : ∀ (g : {R : Type} → (V → Option R) → Option R), (∀ {R : Type} (K : V → Option R), g K = (g some).bind K) →
      g (fun v => K v []) = (g (fun v => mkp v ([] : Upd))).bind (two K) := by
    intro g hg
    rw [hg (fun v => K v []), hg (fun v => mkp v [])]
    cases g some <;> simp [mkp, two]
  unfold opK
  dsimp only
  split
  · simp [mkp, two]
  · simp [mkp, two]
  · split
    · split
      · simp [mkp, two]
      · rw [cond_bind]; simp [mkp, two]
    · rfl
  · split
    · split <;> simp [mkp, two, cond_bind]
    · rfl
  · split <;> simp [mkp, two]
  · exact lift (fun K => opBuild E.P _ _ K) (fun K => opBuild_nat ..)
  · exact opBuildSlice_nat ..
  · exact lift (fun K => opLoad E.P _ _ _ _ K) (fun K => opLoad_nat ..)
  · split
    · rw [opStore_nat, opStore_nat (K := fun u => mkp _ u), Option.bind_assoc]
      rfl
    · rfl
  · split <;> simp [mkp, two]
  · simp only [cond_bind]
    congr 1
    · exact lift (fun K => errK E.P _ _ _ K) (fun K => errK_nat ..)
    · exact lift (fun K => binK E.P _ _ _ _ _ K) (fun K => binK_nat ..)
  · exact lift (fun K => unK _ _ K) (fun K => unK_nat ..)
  · simp only [cond_bind]
    congr 1
    · exact lift (fun K => convS E.P _ _ _ _ K) (fun K => convS_nat ..)
    · exact lift (fun K => convK E.P _ _ _ K) (fun K => convK_nat ..)
  · exact lift (fun K => opMakeFunc _ _ _ K) (fun K => opMakeFunc_nat ..)
  · exact opMakeSlice_nat ..
  · exact opSlice_nat ..
  · exact lift (fun K => opFieldAddr E.P _ _ _ K) (fun K => opFieldAddr_nat ..)
  · exact lift (fun K => opField E.P _ _ _ K) (fun K => opField_nat ..)
  · exact lift (fun K => opIndexAddr E.P _ _ _ _ _ K) (fun K => opIndexAddr_nat ..)
  · exact lift (fun K => opIndex E.P _ _ _ K) (fun K => opIndex_nat ..)
  · exact lift (fun K => opExtract _ _ K) (fun K => opExtract_nat ..)
  · split
    · rename_i q _
      split
      · exact lift (fun K => q.run _ _ _ K) (fun K => q.nat ..)
      · rfl
    split
    · split
      · exact opCall_nat ..
      · exact opCall_nat ..
      · rfl
    · split
      · exact lift (fun K => opLen E.P _ _ _ _ K) (fun K => opLen_nat ..)
      · rfl
    · split
      · exact opAppend_nat ..
      · rfl
    · split
      · rw [opClear_nat, opClear_nat (K := fun u => mkp _ u), Option.bind_assoc]
        rfl
      · rfl
    · split <;> simp [mkp, two]
    · split <;> simp [mkp, two]
    · rfl
  · rfl
noncomputable def aop (E : Env) (st : St) (lim : Option Nat) (o : Oper) : Option (V × Upd) := opK E st lim o mkp
theorem opK_eq (E : Env) (st : St) (lim : Option Nat) (o : Oper) (K : V → Upd → Option R) : opK E st lim o K = (aop E st lim o).bind (two K) := opK_nat E st lim o K
end
end Go.VM
