import Derived.Test.YticbohfmkiafiaaVM30
import Derived.Test.YticbohfmkiafiaaVM23
import Derived.Test.YticbohfmkiafiaaChecked
namespace Go.Proofs.Yticbohfmkiafiaa.G
open Go.VM Go.Proofs
abbrev w64 (n : Int) : Int := IntKind.i64.wrap n
theorem mixed : Try.prog.follows .mixedOrders = true := by kernel_rfl
noncomputable def G0 : GTab := []
abbrev ty0 : Ty := .sl (.int .i64)
abbrev ck1 : CK := .val (.int .i64)
abbrev ck2 : CK := .row (.int .i64)
abbrev ck3 : CK := .val (.int .u64)
abbrev ck4 : CK := .val ty0
abbrev ty6 : Ty := .pair (.int .i64) (.pair (.int .i64) (.unit))
abbrev ck9 : CK := .val (.pair ty0 (.pair ty0 (.unit)))
abbrev ty10 : Ty := .pair (.int .i64) ty6
abbrev ck12 : CK := .row ty10
abbrev ty14 : Ty := .pair (.int .i64) (.pair (.int .i64) (.pair (.int .i64) (.pair (.bool) (.unit))))
abbrev ty15 : Ty := .pair (.int .i64) ty10
abbrev ck16 : CK := .cons ck1 (.cons ck1 (.cons ck1 (.nil)))
abbrev ck21 : CK := .box 75 (.val ty14)
abbrev ty22 : Ty := .pair (.int .u64) (.pair ty10 (.pair (.int .i64) (.unit)))
abbrev ty23 : Ty := .sl ty22
abbrev ck24 : CK := .cons (.cons ck2 (.cons ck2 (.nil))) (.cons ck1 (.cons ck1 (.nil)))
abbrev ty28 : Ty := .pair ty0 (.pair (.pair ty0 (.pair ty0 (.unit))) ty6)
abbrev ck30 : CK := .box 43 (.val ty28)
abbrev ck31 : CK := .box 43 (.cons ck2 ck24)
abbrev ty32 : Ty := .pair (.int .u8) (.pair (.int .i64) (.pair (.int .i64) (.pair (.sl ty15) (.unit))))
abbrev ck35 : CK := .val (.sl ty32)
abbrev ck37 : CK := .val (.pair ty6 (.pair ty6 (.pair ty6 (.pair ty6 (.unit)))))
abbrev ty38 : Ty := .pair (.str) (.pair (.int .i64) (.pair (.int .i64) (.pair (.sl ty32) (.pair ty0 (.pair (.bool) (.pair (.bool) (.pair (.sl ty14) ty10)))))))
abbrev ck40 : CK := .box 26 (.val ty38)
abbrev ck41 : CK := .cons ck1 (.cons ck1 (.cons (.row ty32) (.cons ck2 (.cons (.val (.bool)) (.cons (.val (.bool)) (.cons (.row ty14) ck16))))))
abbrev ck42 : CK := .box 26 (.cons (.val (.str)) ck41)
abbrev ck43 : CK := .box 26 (.cons (.val (.str)) (.cons ck1 (.cons ck1 (.cons (.row ty32) (.cons ck4 (.cons (.val (.bool)) (.cons (.val (.bool)) (.cons (.val (.sl ty14)) ck16))))))))
abbrev ty44 : Ty := .pair ty38 (.pair (.sl ty28) (.pair (.sl ty10) (.unit)))
abbrev ck45 : CK := .cons (.val ty38) (.cons (.row ty28) (.cons ck12 (.nil)))
noncomputable def f16 (k : Nat) : Option (((ByteArray×Int×Int×(List (Int×Int×Int×(List (Int×Int×Int×Int×Unit))×Unit))×(List Int)×Bool×Bool×(List (Int×Int×Int×Bool×Unit))×Int×Int×Int×Unit)×Unit)) :=
  some (((⟨#[84,73,67]⟩ : ByteArray),3,3,[(83,5,0,[],())],List.replicate (9 : Int).toNat (0 : Int),false,false,[(0,0,3,false,())],2,0,0,()),())
noncomputable def f16_sig (k : Nat) : Sig := ⟨[],[],[[.cons (.val (.str)) ck41]],fun x => f16 k⟩
noncomputable def E_f16 (k : Nat) : Env := ⟨Try.prog,G0,snil,tnil,tnil,unil,k,qnil,false⟩
theorem f16_run (k : Nat) (x : (lTy (lay 0 (f16_sig k).ins)).den) : runF (E_f16 k) Try.f16 (f16_sig k) x = (f16_sig k).F x := by kernel_rfl
theorem f16_ok [Dr] (k : Nat) : FnOK Try.prog G0 16 (f16_sig k) :=
  fn_ok2 (E := E_f16 k) (env_nil) (qenv_nil) mixed Try.func16 Try.call16 (by kernel_rfl) (by kernel_rfl) (m := 0) (by kernel_rfl) trivial (sk := []) (by kernel_rfl) trivial (f16_run k)
noncomputable def f17 (k : Nat) (x0 : Int) : Option (((Int×Int×Int×Unit)×Unit)) :=
  some (((-1),x0,0,()),())
noncomputable def f17_sig (k : Nat) : Sig := ⟨[.val (.int .i64)],[],[[.val ty10]],fun x => f17 k x.1⟩
noncomputable def E_f17 (k : Nat) : Env := ⟨Try.prog,G0,snil,tnil,tnil,unil,k,qnil,false⟩
theorem f17_run (k : Nat) (x : (lTy (lay 0 (f17_sig k).ins)).den) : runF (E_f17 k) Try.f17 (f17_sig k) x = (f17_sig k).F x := by kernel_rfl
theorem f17_ok [Dr] (k : Nat) : FnOK Try.prog G0 17 (f17_sig k) :=
  fn_ok2 (E := E_f17 k) (env_nil) (qenv_nil) mixed Try.func17 Try.call17 (by kernel_rfl) (by kernel_rfl) (m := 0) (by kernel_rfl) trivial (sk := []) (by kernel_rfl) trivial (f17_run k)
noncomputable def f62 (k : Nat) (x0 : Int) : Option ((Bool×Unit)) :=
  some (x0 != x0,())
noncomputable def f62_sig (k : Nat) : Sig := ⟨[.val (.int .u64)],[],[[.val (.bool)]],fun x => f62 k x.1⟩
noncomputable def E_f62 (k : Nat) : Env := ⟨Try.prog,G0,snil,tnil,tnil,unil,k,qnil,false⟩
theorem f62_run (k : Nat) (x : (lTy (lay 0 (f62_sig k).ins)).den) : runF (E_f62 k) Try.f62 (f62_sig k) x = (f62_sig k).F x := by kernel_rfl
theorem f62_ok [Dr] (k : Nat) : FnOK Try.prog G0 62 (f62_sig k) :=
  fn_ok2 (E := E_f62 k) (env_nil) (qenv_nil) mixed Try.func62 Try.call62 (by kernel_rfl) (by kernel_rfl) (m := 0) (by kernel_rfl) trivial (sk := []) (by kernel_rfl) trivial (f62_run k)
noncomputable def f43 (k : Nat) (x0 : Int) (x1 : Int) : Option ((Int×Unit)) :=
  (f62 k x0).bind fun r1 =>
  (f62 k x1).bind fun r2 =>
  bif r1.1 then
  bif r2.1 then
  some (0,())
  else
  some ((-1),())
  else
  bif r2.1 then
  some (1,())
  else
  bif decide (x0 < x1) then
  some ((-1),())
  else
  bif decide (x0 > x1) then
  some (1,())
  else
  some (0,())
noncomputable def f43_sig (k : Nat) : Sig := ⟨[.val (.int .u64),.val (.int .u64)],[],[[.val (.int .i64)]],fun x => f43 k x.1 x.2.1⟩
noncomputable def E_f43 (k : Nat) : Env := ⟨Try.prog,G0,scons 62 [f62_sig k] (snil),tnil,tnil,unil,k,qnil,false⟩
theorem f43_run (k : Nat) (x : (lTy (lay 0 (f43_sig k).ins)).den) : runF (E_f43 k) Try.f43 (f43_sig k) x = (f43_sig k).F x := by kernel_rfl
theorem f43_ok [Dr] (k : Nat) : FnOK Try.prog G0 43 (f43_sig k) :=
  fn_ok2 (E := E_f43 k) (env_cons (one_sig (f62_ok k)) (env_nil)) (qenv_nil) mixed Try.func43 Try.call43 (by kernel_rfl) (by kernel_rfl) (m := 0) (by kernel_rfl) trivial (sk := []) (by kernel_rfl) trivial (f43_run k)
noncomputable def f63 (k : Nat) (x0 : Int) : Option ((Bool×Unit)) :=
  some (x0 != x0,())
noncomputable def f63_sig (k : Nat) : Sig := ⟨[.val (.int .i64)],[],[[.val (.bool)]],fun x => f63 k x.1⟩
noncomputable def E_f63 (k : Nat) : Env := ⟨Try.prog,G0,snil,tnil,tnil,unil,k,qnil,false⟩
theorem f63_run (k : Nat) (x : (lTy (lay 0 (f63_sig k).ins)).den) : runF (E_f63 k) Try.f63 (f63_sig k) x = (f63_sig k).F x := by kernel_rfl
theorem f63_ok [Dr] (k : Nat) : FnOK Try.prog G0 63 (f63_sig k) :=
  fn_ok2 (E := E_f63 k) (env_nil) (qenv_nil) mixed Try.func63 Try.call63 (by kernel_rfl) (by kernel_rfl) (m := 0) (by kernel_rfl) trivial (sk := []) (by kernel_rfl) trivial (f63_run k)
noncomputable def f44 (k : Nat) (x0 : Int) (x1 : Int) : Option ((Int×Unit)) :=
  (f63 k x0).bind fun r1 =>
  (f63 k x1).bind fun r2 =>
  bif r1.1 then
  bif r2.1 then
  some (0,())
  else
  some ((-1),())
  else
  bif r2.1 then
  some (1,())
  else
  bif decide (x0 < x1) then
  some ((-1),())
  else
  bif decide (x0 > x1) then
  some (1,())
  else
  some (0,())
noncomputable def f44_sig (k : Nat) : Sig := ⟨[.val (.int .i64),.val (.int .i64)],[],[[.val (.int .i64)]],fun x => f44 k x.1 x.2.1⟩
noncomputable def E_f44 (k : Nat) : Env := ⟨Try.prog,G0,scons 63 [f63_sig k] (snil),tnil,tnil,unil,k,qnil,false⟩
theorem f44_run (k : Nat) (x : (lTy (lay 0 (f44_sig k).ins)).den) : runF (E_f44 k) Try.f44 (f44_sig k) x = (f44_sig k).F x := by kernel_rfl
theorem f44_ok [Dr] (k : Nat) : FnOK Try.prog G0 44 (f44_sig k) :=
  fn_ok2 (E := E_f44 k) (env_cons (one_sig (f63_ok k)) (env_nil)) (qenv_nil) mixed Try.func44 Try.call44 (by kernel_rfl) (by kernel_rfl) (m := 0) (by kernel_rfl) trivial (sk := []) (by kernel_rfl) trivial (f44_run k)
noncomputable def l42_3 (k : Nat) : Nat → Int → (List Int) → Int → Int → Option ((Int×Unit) ⊕ (Int×Unit))
 | 0,_,_,_,_ => none
 | j + 1,s3,s6,s7,s8 =>
  bif decide (s8 < s7) then
  bif decide (0 ≤ s8) && decide (s8 < (s6.length : Int)) then
  bif (rd (0 : Int) s6 s8) != s3 then
  some (.inr (rd (0 : Int) s6 s8,()))
  else
  l42_3 k j s3 s6 s7 (w64 (s8 + 1))
  else
  none
  else
  some (.inl (s3,()))
noncomputable def l42_3_sig (k : Nat) : LoopSig := ⟨[(3,.obj ck1),(6,.obj ck4),(7,.obj ck1),(8,.obj ck1)],[(.exit 0,[(3,.obj ck1)]),(.ret,[(2,.obj ck1)])],fun j x => l42_3 k j x.1 x.2.1 x.2.2.1 x.2.2.2.1⟩
noncomputable def f42 (k : Nat) (x0 : List Int) : Option ((Int×Unit)) :=
  (l42_3 k k 0 x0 (x0.length : Int) 0).bind fun q1 =>
  Sum.elim
  (fun y1 =>
  some y1)
  (fun y2 =>
  some y2)
  q1
noncomputable def f42_sig (k : Nat) : Sig := ⟨[.val ty0],[],[[.val (.int .i64)]],fun x => f42 k x.1⟩
noncomputable def E_f42 (k : Nat) : Env := ⟨Try.prog,G0,snil,tcons 3 (l42_3_sig k) (tnil),tnil,unil,k,qnil,false⟩
theorem l42_3_ok (k : Nat) : LoopOK (E_f42 k) ⟨Try.f42.ntmps,[],G0⟩ (nthC 0 (loopsIn (Try.f42.body.getD .skip))) :=
  loop_ok (ls := l42_3_sig k) (by kernel_rfl) (fun _ => by kernel_rfl) (fun j x => by kernel_rfl)
theorem f42_run (k : Nat) (x : (lTy (lay 0 (f42_sig k).ins)).den) : runF (E_f42 k) Try.f42 (f42_sig k) x = (f42_sig k).F x := by kernel_rfl
theorem f42_ok [Dr] (k : Nat) : FnOK Try.prog G0 42 (f42_sig k) :=
  fn_ok2 (E := E_f42 k) (env_nil) (qenv_nil) mixed Try.func42 Try.call42 (by kernel_rfl) (by kernel_rfl) (m := 1) (by kernel_rfl) ⟨trivial,l42_3_ok k⟩ (sk := []) (by kernel_rfl) trivial (f42_run k)
noncomputable def f26 (k : Nat) (x0 : Int×(Int×Int×Int×Unit)×Int×Unit) (x1 : Int×(Int×Int×Int×Unit)×Int×Unit) : Option ((Int×Unit)) :=
  (f43 k x0.1 x1.1).bind fun r1 =>
  (f44 k x0.2.1.1 x1.2.1.1).bind fun r2 =>
  (f44 k x0.2.1.2.1 x1.2.1.2.1).bind fun r3 =>
  (f44 k x0.2.1.2.2.1 x1.2.1.2.2.1).bind fun r4 =>
  (f42 k [r1.1,r2.1,r3.1,r4.1]).bind fun r5 =>
  some r5
noncomputable def f26_sig (k : Nat) : Sig := ⟨[.val ty22,.val ty22],[],[[.val (.int .i64)]],fun x => f26 k x.1 x.2.1⟩
noncomputable def E_f26 (k : Nat) : Env := ⟨Try.prog,G0,scons 44 [f44_sig k] (scons 43 [f43_sig k] (scons 42 [f42_sig k] (snil))),tnil,tnil,unil,k,qnil,false⟩
theorem f26_run (k : Nat) (x : (lTy (lay 0 (f26_sig k).ins)).den) : runF (E_f26 k) Try.f26 (f26_sig k) x = (f26_sig k).F x := by kernel_rfl
theorem f26_ok [Dr] (k : Nat) : FnOK Try.prog G0 26 (f26_sig k) :=
  fn_ok2 (E := E_f26 k) (env_cons (one_sig (f44_ok k)) (env_cons (one_sig (f43_ok k)) (env_cons (one_sig (f42_ok k)) (env_nil)))) (qenv_nil) mixed Try.func26 Try.call26 (by kernel_rfl) (by kernel_rfl) (m := 0) (by kernel_rfl) trivial (sk := []) (by kernel_rfl) trivial (f26_run k)
noncomputable def l18_4 (k : Nat) : Nat → (List (Int×(Int×Int×Int×Unit)×Int×Unit)) → (List (Int×(Int×Int×Int×Unit)×Int×Unit)) → Int → Int → Option (Unit ⊕ (Int×Unit))
 | 0,_,_,_,_ => none
 | j + 1,s0,s8,s9,s10 =>
  bif decide (s10 < s9) then
  bif decide (0 ≤ s10) && decide (s10 < (s8.length : Int)) then
  bif decide ((rd ((0,(0,0,0,()),0,()) : Int×(Int×Int×Int×Unit)×Int×Unit) s8 s10).2.2.1 < 1) then
  some (.inr (4,()))
  else
  bif decide ((rd ((0,(0,0,0,()),0,()) : Int×(Int×Int×Int×Unit)×Int×Unit) s8 s10).2.2.1 > 1000000) then
  some (.inr (4,()))
  else
  bif decide (s10 > 0) then
  bif decide (0 ≤ (w64 (s10 - 1))) && decide ((w64 (s10 - 1)) < (s0.length : Int)) then
  (f26 k (rd ((0,(0,0,0,()),0,()) : Int×(Int×Int×Int×Unit)×Int×Unit) s0 (w64 (s10 - 1))) (rd ((0,(0,0,0,()),0,()) : Int×(Int×Int×Int×Unit)×Int×Unit) s8 s10)).bind fun r1 =>
  bif decide (r1.1 ≥ 0) then
  some (.inr (3,()))
  else
  l18_4 k j s0 s8 s9 (w64 (s10 + 1))
  else
  none
  else
  l18_4 k j s0 s8 s9 (w64 (s10 + 1))
  else
  none
  else
  some (.inl ())
noncomputable def l18_4_sig (k : Nat) : LoopSig := ⟨[(0,.obj (.val ty23)),(8,.obj (.val ty23)),(9,.obj ck1),(10,.obj ck1)],[(.exit 0,[]),(.ret,[(2,.obj ck1)])],fun j x => l18_4 k j x.1 x.2.1 x.2.2.1 x.2.2.2.1⟩
noncomputable def f18 (k : Nat) (x0 : List (Int×(Int×Int×Int×Unit)×Int×Unit)) : Option ((Int×Unit)) :=
  bif decide ((x0.length : Int) > 1000) then
  some (2,())
  else
  (l18_4 k k x0 x0 (x0.length : Int) 0).bind fun q2 =>
  Sum.elim
  (fun y1 =>
  some (0,()))
  (fun y2 =>
  some y2)
  q2
noncomputable def f18_sig (k : Nat) : Sig := ⟨[.val ty23],[],[[.val (.int .i64)]],fun x => f18 k x.1⟩
noncomputable def E_f18 (k : Nat) : Env := ⟨Try.prog,G0,scons 26 [f26_sig k] (snil),tcons 4 (l18_4_sig k) (tnil),tnil,unil,k,qnil,false⟩
theorem l18_4_ok (k : Nat) : LoopOK (E_f18 k) ⟨Try.f18.ntmps,[],G0⟩ (nthC 0 (loopsIn (Try.f18.body.getD .skip))) :=
  loop_ok (ls := l18_4_sig k) (by kernel_rfl) (fun _ => by kernel_rfl) (fun j x => by kernel_rfl)
theorem f18_run (k : Nat) (x : (lTy (lay 0 (f18_sig k).ins)).den) : runF (E_f18 k) Try.f18 (f18_sig k) x = (f18_sig k).F x := by kernel_rfl
theorem f18_ok [Dr] (k : Nat) : FnOK Try.prog G0 18 (f18_sig k) :=
  fn_ok2 (E := E_f18 k) (env_cons (one_sig (f26_ok k)) (env_nil)) (qenv_nil) mixed Try.func18 Try.call18 (by kernel_rfl) (by kernel_rfl) (m := 1) (by kernel_rfl) ⟨trivial,l18_4_ok k⟩ (sk := []) (by kernel_rfl) trivial (f18_run k)
noncomputable def l73_4 (k : Nat) : Nat → ByteArray → Int → Int → Option (Unit ⊕ (Bool×Unit))
 | 0,_,_,_ => none
 | j + 1,s0,s22,s23 =>
  bif decide (s23 < s22) then
  bif decide (0 ≤ s23) && decide (s23 < (s0.size : Int)) then
  bif decide ((bt s0 s23) < 65) then
  bif decide (0 ≤ s23) && decide (s23 < (s0.size : Int)) then
  bif decide ((bt s0 s23) < 48) then
  some (.inr (false,()))
  else
  bif decide (0 ≤ s23) && decide (s23 < (s0.size : Int)) then
  bif decide ((bt s0 s23) > 57) then
  some (.inr (false,()))
  else
  l73_4 k j s0 s22 (w64 (s23 + 1))
  else
  none
  else
  none
  else
  bif decide (0 ≤ s23) && decide (s23 < (s0.size : Int)) then
  bif decide ((bt s0 s23) > 90) then
  bif decide (0 ≤ s23) && decide (s23 < (s0.size : Int)) then
  bif decide ((bt s0 s23) < 48) then
  some (.inr (false,()))
  else
  bif decide (0 ≤ s23) && decide (s23 < (s0.size : Int)) then
  bif decide ((bt s0 s23) > 57) then
  some (.inr (false,()))
  else
  l73_4 k j s0 s22 (w64 (s23 + 1))
  else
  none
  else
  none
  else
  l73_4 k j s0 s22 (w64 (s23 + 1))
  else
  none
  else
  none
  else
  some (.inl ())
noncomputable def l73_4_sig (k : Nat) : LoopSig := ⟨[(0,.obj (.val (.str))),(22,.obj ck1),(23,.obj ck1)],[(.exit 0,[]),(.ret,[(2,.obj (.val (.bool)))])],fun j x => l73_4 k j x.1 x.2.1 x.2.2.1⟩
noncomputable def f73 (k : Nat) (x0 : ByteArray) : Option ((Bool×Unit)) :=
  bif x0.toList == (⟨#[]⟩ : ByteArray).toList then
  some (false,())
  else
  bif decide ((x0.size : Int) > 8) then
  some (false,())
  else
  bif decide (0 < (x0.size : Int)) then
  bif decide ((bt x0 0) ≥ 48) then
  bif decide (0 < (x0.size : Int)) then
  bif decide ((bt x0 0) ≤ 57) then
  some (false,())
  else
  (l73_4 k k x0 (x0.size : Int) 0).bind fun q3 =>
  Sum.elim
  (fun y1 =>
  some (true,()))
  (fun y2 =>
  some y2)
  q3
  else
  none
  else
  (l73_4 k k x0 (x0.size : Int) 0).bind fun q4 =>
  Sum.elim
  (fun y3 =>
  some (true,()))
  (fun y4 =>
  some y4)
  q4
  else
  none
noncomputable def f73_sig (k : Nat) : Sig := ⟨[.val (.str)],[],[[.val (.bool)]],fun x => f73 k x.1⟩
noncomputable def E_f73 (k : Nat) : Env := ⟨Try.prog,G0,snil,tcons 4 (l73_4_sig k) (tnil),tnil,unil,k,qnil,false⟩
theorem l73_4_ok (k : Nat) : LoopOK (E_f73 k) ⟨Try.f73.ntmps,[],G0⟩ (nthC 0 (loopsIn (Try.f73.body.getD .skip))) :=
  loop_ok (ls := l73_4_sig k) (by kernel_rfl) (fun _ => by kernel_rfl) (fun j x => by kernel_rfl)
theorem f73_run (k : Nat) (x : (lTy (lay 0 (f73_sig k).ins)).den) : runF (E_f73 k) Try.f73 (f73_sig k) x = (f73_sig k).F x := by kernel_rfl
theorem f73_ok [Dr] (k : Nat) : FnOK Try.prog G0 73 (f73_sig k) :=
  fn_ok2 (E := E_f73 k) (env_nil) (qenv_nil) mixed Try.func73 Try.call73 (by kernel_rfl) (by kernel_rfl) (m := 1) (by kernel_rfl) ⟨trivial,l73_4_ok k⟩ (sk := []) (by kernel_rfl) trivial (f73_run k)
noncomputable def f90 (k : Nat) (x0 : Int×Int×Int×Int×Unit) : Option ((Int×Unit)) :=
  bif decide (x0.1 < (-7)) then
  some (4,())
  else
  bif decide (x0.1 > 7) then
  some (4,())
  else
  bif decide (x0.2.1 < (-7)) then
  some (4,())
  else
  bif decide (x0.2.1 > 7) then
  some (4,())
  else
  bif x0.1 == 0 then
  bif x0.2.1 == 0 then
  some (4,())
  else
  bif decide (x0.2.2.1 < 1) then
  some (4,())
  else
  bif decide (x0.2.2.1 > 7) then
  some (4,())
  else
  bif decide (x0.2.2.2.1 < 0) then
  some (4,())
  else
  bif decide (x0.2.2.2.1 > 2) then
  some (4,())
  else
  some (0,())
  else
  bif decide (x0.2.2.1 < 1) then
  some (4,())
  else
  bif decide (x0.2.2.1 > 7) then
  some (4,())
  else
  bif decide (x0.2.2.2.1 < 0) then
  some (4,())
  else
  bif decide (x0.2.2.2.1 > 2) then
  some (4,())
  else
  some (0,())
noncomputable def f90_sig (k : Nat) : Sig := ⟨[.val ty15],[],[[.val (.int .i64)]],fun x => f90 k x.1⟩
noncomputable def E_f90 (k : Nat) : Env := ⟨Try.prog,G0,snil,tnil,tnil,unil,k,qnil,false⟩
theorem f90_run (k : Nat) (x : (lTy (lay 0 (f90_sig k).ins)).den) : runF (E_f90 k) Try.f90 (f90_sig k) x = (f90_sig k).F x := by kernel_rfl
theorem f90_ok [Dr] (k : Nat) : FnOK Try.prog G0 90 (f90_sig k) :=
  fn_ok2 (E := E_f90 k) (env_nil) (qenv_nil) mixed Try.func90 Try.call90 (by kernel_rfl) (by kernel_rfl) (m := 0) (by kernel_rfl) trivial (sk := []) (by kernel_rfl) trivial (f90_run k)
noncomputable def l74_11 (k : Nat) : Nat → (List (Int×Int×Int×(List (Int×Int×Int×Int×Unit))×Unit)) → (Int×Int×Int×(List (Int×Int×Int×Int×Unit))×Unit) → (List (Int×Int×Int×(List (Int×Int×Int×Int×Unit))×Unit)) → Int → Int → (List (Int×Int×Int×(List (Int×Int×Int×Int×Unit))×Unit)) → Int → Int → Option (((List (Int×Int×Int×(List (Int×Int×Int×Int×Unit))×Unit))×(Int×Int×Int×(List (Int×Int×Int×Int×Unit))×Unit)×(List (Int×Int×Int×(List (Int×Int×Int×Int×Unit))×Unit))×Int×Int×Unit) ⊕ (Int×Unit))
 | 0,_,_,_,_,_,_,_,_ => none
 | j + 1,s0,s4,s18,s19,s20,s35,s36,s37 =>
  bif decide (s37 < s36) then
  bif decide (0 ≤ s37) && decide (s37 < (s35.length : Int)) then
  bif (rd ((0,0,0,[],()) : Int×Int×Int×(List (Int×Int×Int×Int×Unit))×Unit) s35 s37).1 == s4.1 then
  some (.inr (7,()))
  else
  l74_11 k j s0 s4 s18 s19 s20 s35 s36 (w64 (s37 + 1))
  else
  none
  else
  some (.inl (s0,s4,s18,s19,s20,()))
noncomputable def l74_11_sig (k : Nat) : LoopSig := ⟨[(0,.obj ck35),(4,.obj (.box 73 (.val ty32))),(18,.obj ck35),(19,.obj ck1),(20,.obj ck1),(35,.obj ck35),(36,.obj ck1),(37,.obj ck1)],[(.exit 3,[(0,.obj ck35),(4,.obj (.box 73 (.val ty32))),(18,.obj ck35),(19,.obj ck1),(20,.obj ck1)]),(.ret,[(2,.obj ck1)])],fun j x => l74_11 k j x.1 x.2.1 x.2.2.1 x.2.2.2.1 x.2.2.2.2.1 x.2.2.2.2.2.1 x.2.2.2.2.2.2.1 x.2.2.2.2.2.2.2.1⟩
noncomputable def l74_21 (k : Nat) : Nat → (List (Int×Int×Int×(List (Int×Int×Int×Int×Unit))×Unit)) → (List (Int×Int×Int×(List (Int×Int×Int×Int×Unit))×Unit)) → Int → Int → (List (Int×Int×Int×Int×Unit)) → Int → Int → Option (((List (Int×Int×Int×(List (Int×Int×Int×Int×Unit))×Unit))×(List (Int×Int×Int×(List (Int×Int×Int×Int×Unit))×Unit))×Int×Int×Unit) ⊕ (Int×Unit))
 | 0,_,_,_,_,_,_,_ => none
 | j + 1,s0,s18,s19,s20,s72,s73,s74 =>
  bif decide (s74 < s73) then
  bif decide (0 ≤ s74) && decide (s74 < (s72.length : Int)) then
  (f90 k (rd ((0,0,0,0,()) : Int×Int×Int×Int×Unit) s72 s74)).bind fun r1 =>
  bif r1.1 != 0 then
  some (.inr r1)
  else
  l74_21 k j s0 s18 s19 s20 s72 s73 (w64 (s74 + 1))
  else
  none
  else
  some (.inl (s0,s18,s19,s20,()))
noncomputable def l74_21_sig (k : Nat) : LoopSig := ⟨[(0,.obj ck35),(18,.obj ck35),(19,.obj ck1),(20,.obj ck1),(72,.obj (.val (.sl ty15))),(73,.obj ck1),(74,.obj ck1)],[(.exit 5,[(0,.obj ck35),(18,.obj ck35),(19,.obj ck1),(20,.obj ck1)]),(.ret,[(2,.obj ck1)])],fun j x => l74_21 k j x.1 x.2.1 x.2.2.1 x.2.2.2.1 x.2.2.2.2.1 x.2.2.2.2.2.1 x.2.2.2.2.2.2.1⟩
noncomputable def l74_6 (k : Nat) : Nat → (List (Int×Int×Int×(List (Int×Int×Int×Int×Unit))×Unit)) → (List (Int×Int×Int×(List (Int×Int×Int×Int×Unit))×Unit)) → Int → Int → Option (Unit ⊕ (Int×Unit))
 | 0,_,_,_,_ => none
 | j + 1,s0,s18,s19,s20 =>
  bif decide (s20 < s19) then
  bif decide (0 ≤ s20) && decide (s20 < (s18.length : Int)) then
  bif decide ((rd ((0,0,0,[],()) : Int×Int×Int×(List (Int×Int×Int×Int×Unit))×Unit) s18 s20).1 < 65) then
  some (.inr (6,()))
  else
  bif decide ((rd ((0,0,0,[],()) : Int×Int×Int×(List (Int×Int×Int×Int×Unit))×Unit) s18 s20).1 > 90) then
  some (.inr (6,()))
  else
  bif decide (0 ≤ s20) && decide (s20 ≤ (s0.length : Int)) then
  (l74_11 k k s0 (rd ((0,0,0,[],()) : Int×Int×Int×(List (Int×Int×Int×Int×Unit))×Unit) s18 s20) s18 s19 s20 (sliceOf s0 0 s20) ((sliceOf s0 0 s20).length : Int) 0).bind fun q5 =>
  Sum.elim
  (fun y1 =>
  bif decide (y1.2.1.2.1 < 0) then
  some (.inr (4,()))
  else
  bif decide (y1.2.1.2.1 > 64) then
  some (.inr (4,()))
  else
  bif decide (y1.2.1.2.2.1 < 0) then
  some (.inr (4,()))
  else
  bif decide (y1.2.1.2.2.1 > (y1.1.length : Int)) then
  some (.inr (4,()))
  else
  bif decide ((y1.2.1.2.2.2.1.length : Int) > 16) then
  some (.inr (2,()))
  else
  (l74_21 k k y1.1 y1.2.2.1 y1.2.2.2.1 y1.2.2.2.2.1 y1.2.1.2.2.2.1 (y1.2.1.2.2.2.1.length : Int) 0).bind fun q6 =>
  Sum.elim
  (fun y2 =>
  l74_6 k j y2.1 y2.2.1 y2.2.2.1 (w64 (y2.2.2.2.1 + 1)))
  (fun y3 =>
  some (.inr y3))
  q6)
  (fun y4 =>
  some (.inr y4))
  q5
  else
  none
  else
  none
  else
  some (.inl ())
noncomputable def l74_6_sig (k : Nat) : LoopSig := ⟨[(0,.obj ck35),(18,.obj ck35),(19,.obj ck1),(20,.obj ck1)],[(.exit 1,[]),(.ret,[(2,.obj ck1)])],fun j x => l74_6 k j x.1 x.2.1 x.2.2.1 x.2.2.2.1⟩
noncomputable def f74 (k : Nat) (x0 : List (Int×Int×Int×(List (Int×Int×Int×Int×Unit))×Unit)) : Option ((Int×Unit)) :=
  bif (x0.length : Int) == 0 then
  some (8,())
  else
  bif decide ((x0.length : Int) > 6) then
  some (2,())
  else
  (l74_6 k k x0 x0 (x0.length : Int) 0).bind fun q7 =>
  Sum.elim
  (fun y1 =>
  some (0,()))
  (fun y2 =>
  some y2)
  q7
noncomputable def f74_sig (k : Nat) : Sig := ⟨[.val (.sl ty32)],[],[[.val (.int .i64)]],fun x => f74 k x.1⟩
noncomputable def E_f74 (k : Nat) : Env := ⟨Try.prog,G0,scons 90 [f90_sig k] (snil),tcons 6 (l74_6_sig k) (tcons 21 (l74_21_sig k) (tcons 11 (l74_11_sig k) (tnil))),tnil,unil,k,qnil,false⟩
theorem l74_6_ok (k : Nat) : LoopOK (E_f74 k) ⟨Try.f74.ntmps,[],G0⟩ (nthC 0 (loopsIn (Try.f74.body.getD .skip))) :=
  loop_ok (ls := l74_6_sig k) (by kernel_rfl) (fun _ => by kernel_rfl) (fun j x => by kernel_rfl)
theorem l74_11_ok (k : Nat) : LoopOK (E_f74 k) ⟨Try.f74.ntmps,[],G0⟩ (nthC 1 (loopsIn (Try.f74.body.getD .skip))) :=
  loop_ok (ls := l74_11_sig k) (by kernel_rfl) (fun _ => by kernel_rfl) (fun j x => by kernel_rfl)
theorem l74_21_ok (k : Nat) : LoopOK (E_f74 k) ⟨Try.f74.ntmps,[],G0⟩ (nthC 2 (loopsIn (Try.f74.body.getD .skip))) :=
  loop_ok (ls := l74_21_sig k) (by kernel_rfl) (fun _ => by kernel_rfl) (fun j x => by kernel_rfl)
theorem f74_run (k : Nat) (x : (lTy (lay 0 (f74_sig k).ins)).den) : runF (E_f74 k) Try.f74 (f74_sig k) x = (f74_sig k).F x := by kernel_rfl
theorem f74_ok [Dr] (k : Nat) : FnOK Try.prog G0 74 (f74_sig k) :=
  fn_ok2 (E := E_f74 k) (env_cons (one_sig (f90_ok k)) (env_nil)) (qenv_nil) mixed Try.func74 Try.call74 (by kernel_rfl) (by kernel_rfl) (m := 3) (by kernel_rfl) ⟨⟨⟨trivial,l74_6_ok k⟩,l74_11_ok k⟩,l74_21_ok k⟩ (sk := []) (by kernel_rfl) trivial (f74_run k)
noncomputable def f75 (k : Nat) (x0 : Int×Int×Int×Bool×Unit) (x1 : Int) : Option ((Int×Unit)) :=
  bif x0.1 == 0 then
  bif x0.2.1 != 0 then
  some (4,())
  else
  bif decide (x0.2.2.1 < 1) then
  some (4,())
  else
  bif decide (x0.2.2.1 > 64) then
  some (4,())
  else
  some (0,())
  else
  bif x0.1 == 1 then
  bif decide (x0.2.1 < 0) then
  some (4,())
  else
  bif decide (x0.2.1 ≥ x1) then
  some (4,())
  else
  bif x0.2.2.1 != 0 then
  some (4,())
  else
  some (0,())
  else
  bif x0.1 == 2 then
  bif decide (x0.2.1 < 0) then
  some (4,())
  else
  bif decide (x0.2.1 ≥ x1) then
  some (4,())
  else
  bif decide (x0.2.2.1 < 1) then
  some (4,())
  else
  bif decide (x0.2.2.1 > 64) then
  some (4,())
  else
  some (0,())
  else
  some (1,())
noncomputable def f75_sig (k : Nat) : Sig := ⟨[.val ty14,.val (.int .i64)],[],[[.val (.int .i64)]],fun x => f75 k x.1 x.2.1⟩
noncomputable def E_f75 (k : Nat) : Env := ⟨Try.prog,G0,snil,tnil,tnil,unil,k,qnil,false⟩
theorem f75_run (k : Nat) (x : (lTy (lay 0 (f75_sig k).ins)).den) : runF (E_f75 k) Try.f75 (f75_sig k) x = (f75_sig k).F x := by kernel_rfl
theorem f75_ok [Dr] (k : Nat) : FnOK Try.prog G0 75 (f75_sig k) :=
  fn_ok2 (E := E_f75 k) (env_nil) (qenv_nil) mixed Try.func75 Try.call75 (by kernel_rfl) (by kernel_rfl) (m := 0) (by kernel_rfl) trivial (sk := []) (by kernel_rfl) trivial (f75_run k)
noncomputable def l64_11 (k : Nat) : Nat → (ByteArray×Int×Int×(List (Int×Int×Int×(List (Int×Int×Int×Int×Unit))×Unit))×(List Int)×Bool×Bool×(List (Int×Int×Int×Bool×Unit))×Int×Int×Int×Unit) → (List Int) → Int → Int → Option (((ByteArray×Int×Int×(List (Int×Int×Int×(List (Int×Int×Int×Int×Unit))×Unit))×(List Int)×Bool×Bool×(List (Int×Int×Int×Bool×Unit))×Int×Int×Int×Unit)×Unit) ⊕ (Int×Unit))
 | 0,_,_,_,_ => none
 | j + 1,s1,s49,s50,s51 =>
  bif decide (s51 < s50) then
  bif decide (0 ≤ s51) && decide (s51 < (s49.length : Int)) then
  bif decide ((rd (0 : Int) s49 s51) < 0) then
  some (.inr (4,()))
  else
  bif decide ((rd (0 : Int) s49 s51) > (w64 (2 * (s1.2.2.2.1.length : Int)))) then
  some (.inr (4,()))
  else
  l64_11 k j s1 s49 s50 (w64 (s51 + 1))
  else
  none
  else
  some (.inl (s1,()))
noncomputable def l64_11_sig (k : Nat) : LoopSig := ⟨[(1,.obj ck40),(49,.obj ck4),(50,.obj ck1),(51,.obj ck1)],[(.exit 1,[(1,.obj ck40)]),(.ret,[(2,.obj ck1)])],fun j x => l64_11 k j x.1 x.2.1 x.2.2.1 x.2.2.2.1⟩
noncomputable def l64_19 (k : Nat) : Nat → (ByteArray×Int×Int×(List (Int×Int×Int×(List (Int×Int×Int×Int×Unit))×Unit))×(List Int)×Bool×Bool×(List (Int×Int×Int×Bool×Unit))×Int×Int×Int×Unit) → (List (Int×Int×Int×Bool×Unit)) → Int → Int → Option (((ByteArray×Int×Int×(List (Int×Int×Int×(List (Int×Int×Int×Int×Unit))×Unit))×(List Int)×Bool×Bool×(List (Int×Int×Int×Bool×Unit))×Int×Int×Int×Unit)×Unit) ⊕ (Int×Unit))
 | 0,_,_,_,_ => none
 | j + 1,s1,s71,s72,s73 =>
  bif decide (s73 < s72) then
  bif decide (0 ≤ s73) && decide (s73 < (s71.length : Int)) then
  (f75 k (rd ((0,0,0,false,()) : Int×Int×Int×Bool×Unit) s71 s73) (s1.2.2.2.1.length : Int)).bind fun r1 =>
  bif r1.1 != 0 then
  some (.inr r1)
  else
  l64_19 k j s1 s71 s72 (w64 (s73 + 1))
  else
  none
  else
  some (.inl (s1,()))
noncomputable def l64_19_sig (k : Nat) : LoopSig := ⟨[(1,.obj ck40),(71,.obj (.val (.sl ty14))),(72,.obj ck1),(73,.obj ck1)],[(.exit 3,[(1,.obj ck40)]),(.ret,[(2,.obj ck1)])],fun j x => l64_19 k j x.1 x.2.1 x.2.2.1 x.2.2.2.1⟩
noncomputable def f64 (k : Nat) (x0 : ByteArray×Int×Int×(List (Int×Int×Int×(List (Int×Int×Int×Int×Unit))×Unit))×(List Int)×Bool×Bool×(List (Int×Int×Int×Bool×Unit))×Int×Int×Int×Unit) : Option ((Int×Unit)) :=
  (f73 k x0.1).bind fun r1 =>
  bif !r1.1 then
  some (6,())
  else
  bif decide (x0.2.1 < 1) then
  some (4,())
  else
  bif decide (x0.2.1 > 8) then
  some (4,())
  else
  bif decide (x0.2.2.1 < 1) then
  some (4,())
  else
  bif decide (x0.2.2.1 > 8) then
  some (4,())
  else
  (f74 k x0.2.2.2.1).bind fun r2 =>
  bif r2.1 != 0 then
  some r2
  else
  bif (x0.2.2.2.2.1.length : Int) != (w64 (x0.2.1 * x0.2.2.1)) then
  some (3,())
  else
  (l64_11 k k x0 x0.2.2.2.2.1 (x0.2.2.2.2.1.length : Int) 0).bind fun q8 =>
  Sum.elim
  (fun y3 =>
  bif decide ((y3.1.2.2.2.2.2.2.2.1.length : Int) > 6) then
  some (2,())
  else
  (l64_19 k k y3.1 y3.1.2.2.2.2.2.2.2.1 (y3.1.2.2.2.2.2.2.2.1.length : Int) 0).bind fun q9 =>
  Sum.elim
  (fun y4 =>
  bif decide (y4.1.2.2.2.2.2.2.2.2.1 < 0) then
  some (4,())
  else
  bif decide (y4.1.2.2.2.2.2.2.2.2.1 > 2) then
  some (4,())
  else
  bif decide (y4.1.2.2.2.2.2.2.2.2.2.1 < 0) then
  some (4,())
  else
  bif decide (y4.1.2.2.2.2.2.2.2.2.2.1 > 200) then
  some (4,())
  else
  bif decide (y4.1.2.2.2.2.2.2.2.2.2.2.1 < 0) then
  some (4,())
  else
  bif y4.1.2.2.2.2.2.2.2.2.2.2.1 == 1 then
  some (4,())
  else
  bif decide (y4.1.2.2.2.2.2.2.2.2.2.2.1 > 5) then
  some (4,())
  else
  some (0,()))
  (fun y5 =>
  some y5)
  q9)
  (fun y6 =>
  some y6)
  q8
noncomputable def f64_sig (k : Nat) : Sig := ⟨[.val ty38],[],[[.val (.int .i64)]],fun x => f64 k x.1⟩
noncomputable def E_f64 (k : Nat) : Env := ⟨Try.prog,G0,scons 75 [f75_sig k] (scons 74 [f74_sig k] (scons 73 [f73_sig k] (snil))),tcons 19 (l64_19_sig k) (tcons 11 (l64_11_sig k) (tnil)),tnil,unil,k,qnil,false⟩
theorem l64_11_ok (k : Nat) : LoopOK (E_f64 k) ⟨Try.f64.ntmps,[],G0⟩ (nthC 0 (loopsIn (Try.f64.body.getD .skip))) :=
  loop_ok (ls := l64_11_sig k) (by kernel_rfl) (fun _ => by kernel_rfl) (fun j x => by kernel_rfl)
theorem l64_19_ok (k : Nat) : LoopOK (E_f64 k) ⟨Try.f64.ntmps,[],G0⟩ (nthC 1 (loopsIn (Try.f64.body.getD .skip))) :=
  loop_ok (ls := l64_19_sig k) (by kernel_rfl) (fun _ => by kernel_rfl) (fun j x => by kernel_rfl)
theorem f64_run (k : Nat) (x : (lTy (lay 0 (f64_sig k).ins)).den) : runF (E_f64 k) Try.f64 (f64_sig k) x = (f64_sig k).F x := by kernel_rfl
theorem f64_ok [Dr] (k : Nat) : FnOK Try.prog G0 64 (f64_sig k) :=
  fn_ok2 (E := E_f64 k) (env_cons (one_sig (f75_ok k)) (env_cons (one_sig (f74_ok k)) (env_cons (one_sig (f73_ok k)) (env_nil)))) (qenv_nil) mixed Try.func64 Try.call64 (by kernel_rfl) (by kernel_rfl) (m := 2) (by kernel_rfl) ⟨⟨trivial,l64_11_ok k⟩,l64_19_ok k⟩ (sk := []) (by kernel_rfl) trivial (f64_run k)
noncomputable def f34 (k : Nat) (x0 : List Int) : Option (((List Int)×Unit)) :=
  bif nilB x0 then
  both (
  some ([],()))
  (
  bif decide ((([] : List Int).length + x0.length) * 8 ≤ roomN) then
  some ([] ++ x0,())
  else
  none)
  else
  bif decide ((([] : List Int).length + x0.length) * 8 ≤ roomN) then
  some ([] ++ x0,())
  else
  none
noncomputable def f34_sig (k : Nat) : Sig := ⟨[.val ty0],[],[[.row (.int .i64)]],fun x => f34 k x.1⟩
noncomputable def E_f34 (k : Nat) : Env := ⟨Try.prog,G0,snil,tnil,tnil,unil,k,qnil,false⟩
theorem f34_run (k : Nat) (x : (lTy (lay 0 (f34_sig k).ins)).den) : runF (E_f34 k) Try.f34 (f34_sig k) x = (f34_sig k).F x := by kernel_rfl
theorem f34_ok [Dr] (k : Nat) : FnOK Try.prog G0 34 (f34_sig k) :=
  fn_ok2 (E := E_f34 k) (env_nil) (qenv_nil) mixed Try.func34 Try.call34 (by kernel_rfl) (by kernel_rfl) (m := 0) (by kernel_rfl) trivial (sk := []) (by kernel_rfl) trivial (f34_run k)
noncomputable def l21_6 (k : Nat) : Nat → (ByteArray×Int×Int×(List (Int×Int×Int×(List (Int×Int×Int×Int×Unit))×Unit))×(List Int)×Bool×Bool×(List (Int×Int×Int×Bool×Unit))×Int×Int×Int×Unit) → ((List Int)×((List Int)×(List Int)×Unit)×Int×Int×Unit) → ((List Int)×((List Int)×(List Int)×Unit)×Int×Int×Unit) → Int → Int → (List (Int×Int×Int×(List (Int×Int×Int×Int×Unit))×Unit)) → Int → Int → Option (((ByteArray×Int×Int×(List (Int×Int×Int×(List (Int×Int×Int×Int×Unit))×Unit))×(List Int)×Bool×Bool×(List (Int×Int×Int×Bool×Unit))×Int×Int×Int×Unit)×((List Int)×((List Int)×(List Int)×Unit)×Int×Int×Unit)×((List Int)×((List Int)×(List Int)×Unit)×Int×Int×Unit)×Int×Unit))
 | 0,_,_,_,_,_,_,_,_ => none
 | j + 1,s1,s2,s3,s4,s11,s15,s16,s17 =>
  bif decide (s17 < s16) then
  bif decide (0 ≤ s17) && decide (s17 < (s15.length : Int)) then
  bif s4 == 0 then
  bif decide ((s3.2.1.1.length + [(rd ((0,0,0,[],()) : Int×Int×Int×(List (Int×Int×Int×Int×Unit))×Unit) s15 s17).2.1].length) * 8 ≤ roomN) then
  bif s4 == 0 then
  l21_6 k j s1 s2 (s3.1,(s3.2.1.1 ++ [(rd ((0,0,0,[],()) : Int×Int×Int×(List (Int×Int×Int×Int×Unit))×Unit) s15 s17).2.1],s3.2.1.2),s3.2.2) s4 s11 s15 s16 (w64 (s17 + 1))
  else
  bif s4 == 1 then
  none
  else
  none
  else
  none
  else
  bif s4 == 1 then
  bif decide ((s3.2.1.2.1.length + [(rd ((0,0,0,[],()) : Int×Int×Int×(List (Int×Int×Int×Int×Unit))×Unit) s15 s17).2.1].length) * 8 ≤ roomN) then
  bif s4 == 0 then
  none
  else
  bif s4 == 1 then
  l21_6 k j s1 s2 (s3.1,(s3.2.1.1,s3.2.1.2.1 ++ [(rd ((0,0,0,[],()) : Int×Int×Int×(List (Int×Int×Int×Int×Unit))×Unit) s15 s17).2.1],()),s3.2.2) s4 s11 s15 s16 (w64 (s17 + 1))
  else
  none
  else
  none
  else
  none
  else
  none
  else
  some (s1,s2,s3,s11,())
noncomputable def l21_6_sig (k : Nat) : LoopSig := ⟨[(1,.obj ck40),(2,.obj ck31),(3,.obj ck31),(4,.obj ck1),(11,.obj ck1),(15,.obj ck35),(16,.obj ck1),(17,.obj ck1)],[(.exit 2,[(1,.obj ck40),(2,.obj ck31),(3,.obj ck31),(11,.obj ck1)])],fun j x => l21_6 k j x.1 x.2.1 x.2.2.1 x.2.2.2.1 x.2.2.2.2.1 x.2.2.2.2.2.1 x.2.2.2.2.2.2.1 x.2.2.2.2.2.2.2.1⟩
noncomputable def l21_3 (k : Nat) : Nat → (ByteArray×Int×Int×(List (Int×Int×Int×(List (Int×Int×Int×Int×Unit))×Unit))×(List Int)×Bool×Bool×(List (Int×Int×Int×Bool×Unit))×Int×Int×Int×Unit) → ((List Int)×((List Int)×(List Int)×Unit)×Int×Int×Unit) → ((List Int)×((List Int)×(List Int)×Unit)×Int×Int×Unit) → Int → Option ((((List Int)×((List Int)×(List Int)×Unit)×Int×Int×Unit)×((List Int)×((List Int)×(List Int)×Unit)×Int×Int×Unit)×Unit))
 | 0,_,_,_,_ => none
 | j + 1,s1,s2,s3,s11 =>
  bif decide (s11 < 2) then
  (l21_6 k k s1 s2 s3 s11 s11 s1.2.2.2.1 (s1.2.2.2.1.length : Int) 0).bind fun o1 =>
  l21_3 k j o1.1 o1.2.1 o1.2.2.1 (w64 (o1.2.2.2.1 + 1))
  else
  some (s2,s3,())
noncomputable def l21_3_sig (k : Nat) : LoopSig := ⟨[(1,.obj ck40),(2,.obj ck31),(3,.obj ck31),(11,.obj ck1)],[(.exit 0,[(2,.obj ck31),(3,.obj ck31)])],fun j x => l21_3 k j x.1 x.2.1 x.2.2.1 x.2.2.2.1⟩
noncomputable def f21 (k : Nat) (x0 : ByteArray×Int×Int×(List (Int×Int×Int×(List (Int×Int×Int×Int×Unit))×Unit))×(List Int)×Bool×Bool×(List (Int×Int×Int×Bool×Unit))×Int×Int×Int×Unit) : Option ((((List Int)×((List Int)×(List Int)×Unit)×Int×Int×Unit)×Unit)) :=
  (f34 k x0.2.2.2.2.1).bind fun r1 =>
  (l21_3 k k x0 ([],([],[],()),0,0,()) (r1.1,([],[],()),0,0,()) 0).bind fun o2 =>
  some o2.2
noncomputable def f21_sig (k : Nat) : Sig := ⟨[.val ty38],[],[[.val ty28]],fun x => f21 k x.1⟩
noncomputable def E_f21 (k : Nat) : Env := ⟨Try.prog,G0,scons 34 [f34_sig k] (snil),tcons 3 (l21_3_sig k) (tcons 6 (l21_6_sig k) (tnil)),tnil,unil,k,qnil,false⟩
theorem l21_3_ok (k : Nat) : LoopOK (E_f21 k) ⟨Try.f21.ntmps,[],G0⟩ (nthC 0 (loopsIn (Try.f21.body.getD .skip))) :=
  loop_ok (ls := l21_3_sig k) (by kernel_rfl) (fun _ => by kernel_rfl) (fun j x => by kernel_rfl)
theorem l21_6_ok (k : Nat) : LoopOK (E_f21 k) ⟨Try.f21.ntmps,[],G0⟩ (nthC 1 (loopsIn (Try.f21.body.getD .skip))) :=
  loop_ok (ls := l21_6_sig k) (by kernel_rfl) (fun _ => by kernel_rfl) (fun j x => by kernel_rfl)
theorem f21_run (k : Nat) (x : (lTy (lay 0 (f21_sig k).ins)).den) : runF (E_f21 k) Try.f21 (f21_sig k) x = (f21_sig k).F x := by kernel_rfl
theorem f21_ok [Dr] (k : Nat) : FnOK Try.prog G0 21 (f21_sig k) :=
  fn_ok2 (E := E_f21 k) (env_cons (one_sig (f34_ok k)) (env_nil)) (qenv_nil) mixed Try.func21 Try.call21 (by kernel_rfl) (by kernel_rfl) (m := 2) (by kernel_rfl) ⟨⟨trivial,l21_3_ok k⟩,l21_6_ok k⟩ (sk := []) (by kernel_rfl) trivial (f21_run k)
noncomputable def f53 (k : Nat) (x0 : ByteArray×Int×Int×(List (Int×Int×Int×(List (Int×Int×Int×Int×Unit))×Unit))×(List Int)×Bool×Bool×(List (Int×Int×Int×Bool×Unit))×Int×Int×Int×Unit) : Option ((((List Int)×((List Int)×(List Int)×Unit)×Int×Int×Unit)×Int×Unit)) :=
  (f64 k x0).bind fun r1 =>
  bif r1.1 != 0 then
  some (([],([],[],()),0,0,()),r1)
  else
  (f21 k x0).bind fun r2 =>
  some (r2.1,0,())
noncomputable def f53_sig (k : Nat) : Sig := ⟨[.val ty38],[],[[.val ty28,.val (.int .i64)]],fun x => f53 k x.1⟩
noncomputable def E_f53 (k : Nat) : Env := ⟨Try.prog,G0,scons 64 [f64_sig k] (scons 21 [f21_sig k] (snil)),tnil,tnil,unil,k,qnil,false⟩
theorem f53_run (k : Nat) (x : (lTy (lay 0 (f53_sig k).ins)).den) : runF (E_f53 k) Try.f53 (f53_sig k) x = (f53_sig k).F x := by kernel_rfl
theorem f53_ok [Dr] (k : Nat) : FnOK Try.prog G0 53 (f53_sig k) :=
  fn_ok2 (E := E_f53 k) (env_cons (one_sig (f64_ok k)) (env_cons (one_sig (f21_ok k)) (env_nil))) (qenv_nil) mixed Try.func53 Try.call53 (by kernel_rfl) (by kernel_rfl) (m := 0) (by kernel_rfl) trivial (sk := []) (by kernel_rfl) trivial (f53_run k)
noncomputable def l54_4 (k : Nat) : Nat → (ByteArray×Int×Int×(List (Int×Int×Int×(List (Int×Int×Int×Int×Unit))×Unit))×(List Int)×Bool×Bool×(List (Int×Int×Int×Bool×Unit))×Int×Int×Int×Unit) → (ByteArray×Int×Int×(List (Int×Int×Int×(List (Int×Int×Int×Int×Unit))×Unit))×(List Int)×Bool×Bool×(List (Int×Int×Int×Bool×Unit))×Int×Int×Int×Unit) → (ByteArray×Int×Int×(List (Int×Int×Int×(List (Int×Int×Int×Int×Unit))×Unit))×(List Int)×Bool×Bool×(List (Int×Int×Int×Bool×Unit))×Int×Int×Int×Unit) → (List (Int×Int×Int×(List (Int×Int×Int×Int×Unit))×Unit)) → Int → Int → Option (((ByteArray×Int×Int×(List (Int×Int×Int×(List (Int×Int×Int×Int×Unit))×Unit))×(List Int)×Bool×Bool×(List (Int×Int×Int×Bool×Unit))×Int×Int×Int×Unit)×(ByteArray×Int×Int×(List (Int×Int×Int×(List (Int×Int×Int×Int×Unit))×Unit))×(List Int)×Bool×Bool×(List (Int×Int×Int×Bool×Unit))×Int×Int×Int×Unit)×(ByteArray×Int×Int×(List (Int×Int×Int×(List (Int×Int×Int×Int×Unit))×Unit))×(List Int)×Bool×Bool×(List (Int×Int×Int×Bool×Unit))×Int×Int×Int×Unit)×Unit))
 | 0,_,_,_,_,_,_ => none
 | j + 1,s1,s2,s3,s13,s14,s15 =>
  bif decide (s15 < s14) then
  bif decide (0 ≤ s15) && decide (s15 < (s13.length : Int)) then
  bif decide ((rd ((0,0,0,[],()) : Int×Int×Int×(List (Int×Int×Int×Int×Unit))×Unit) s13 s15).2.2.2.1.length * 32 ≤ roomN) then
  bif decide (0 ≤ s15) && decide (s15 < (s3.2.2.2.1.length : Int)) then
  l54_4 k j s1 s2 (s3.1,s3.2.1,s3.2.2.1,s3.2.2.2.1.set s15.toNat (rd ((0,0,0,[],()) : Int×Int×Int×(List (Int×Int×Int×Int×Unit))×Unit) s13 s15),s3.2.2.2.2) s13 s14 (w64 (s15 + 1))
  else
  none
  else
  none
  else
  none
  else
  some (s1,s2,s3,())
noncomputable def l54_4_sig (k : Nat) : LoopSig := ⟨[(1,.obj ck40),(2,.obj ck42),(3,.obj ck43),(13,.obj ck35),(14,.obj ck1),(15,.obj ck1)],[(.exit 0,[(1,.obj ck40),(2,.obj ck42),(3,.obj ck43)])],fun j x => l54_4 k j x.1 x.2.1 x.2.2.1 x.2.2.2.1 x.2.2.2.2.1 x.2.2.2.2.2.1⟩
noncomputable def f54 (k : Nat) (x0 : ByteArray×Int×Int×(List (Int×Int×Int×(List (Int×Int×Int×Int×Unit))×Unit))×(List Int)×Bool×Bool×(List (Int×Int×Int×Bool×Unit))×Int×Int×Int×Unit) : Option (((ByteArray×Int×Int×(List (Int×Int×Int×(List (Int×Int×Int×Int×Unit))×Unit))×(List Int)×Bool×Bool×(List (Int×Int×Int×Bool×Unit))×Int×Int×Int×Unit)×Unit)) :=
  bif decide (0 ≤ (x0.2.2.2.1.length : Int)) && (decide ((x0.2.2.2.1.length : Int) ≤ (x0.2.2.2.1.length : Int)) && decide (((48 : Nat) : Int) * (x0.2.2.2.1.length : Int) ≤ 281474976710656)) && decide ((x0.2.2.2.1.length : Int) ≤ 9223372036854775807) then
  (l54_4 k k x0 ((⟨#[]⟩ : ByteArray),0,0,[],[],false,false,[],0,0,0,()) (x0.1,x0.2.1,x0.2.2.1,List.replicate (x0.2.2.2.1.length : Int).toNat ((0,0,0,[],()) : Int×Int×Int×(List (Int×Int×Int×Int×Unit))×Unit),x0.2.2.2.2) x0.2.2.2.1 (x0.2.2.2.1.length : Int) 0).bind fun o1 =>
  bif decide (o1.1.2.2.2.2.1.length * 8 ≤ roomN) then
  bif decide (o1.1.2.2.2.2.2.2.2.1.length * 32 ≤ roomN) then
  some ((o1.2.2.1.1,o1.2.2.1.2.1,o1.2.2.1.2.2.1,o1.2.2.1.2.2.2.1,o1.1.2.2.2.2.1,o1.2.2.1.2.2.2.2.2.1,o1.2.2.1.2.2.2.2.2.2.1,o1.1.2.2.2.2.2.2.2.1,o1.2.2.1.2.2.2.2.2.2.2.2),())
  else
  none
  else
  none
  else
  none
noncomputable def f54_sig (k : Nat) : Sig := ⟨[.val ty38],[],[[.val ty38]],fun x => f54 k x.1⟩
noncomputable def E_f54 (k : Nat) : Env := ⟨Try.prog,G0,snil,tcons 4 (l54_4_sig k) (tnil),tnil,unil,k,qnil,false⟩
theorem l54_4_ok (k : Nat) : LoopOK (E_f54 k) ⟨Try.f54.ntmps,[],G0⟩ (nthC 0 (loopsIn (Try.f54.body.getD .skip))) :=
  loop_ok (ls := l54_4_sig k) (by kernel_rfl) (fun _ => by kernel_rfl) (fun j x => by kernel_rfl)
theorem f54_run (k : Nat) (x : (lTy (lay 0 (f54_sig k).ins)).den) : runF (E_f54 k) Try.f54 (f54_sig k) x = (f54_sig k).F x := by kernel_rfl
theorem f54_ok [Dr] (k : Nat) : FnOK Try.prog G0 54 (f54_sig k) :=
  fn_ok2 (E := E_f54 k) (env_nil) (qenv_nil) mixed Try.func54 Try.call54 (by kernel_rfl) (by kernel_rfl) (m := 1) (by kernel_rfl) ⟨trivial,l54_4_ok k⟩ (sk := []) (by kernel_rfl) trivial (f54_run k)
noncomputable def f30 (k : Nat) (x0 : ByteArray×Int×Int×(List (Int×Int×Int×(List (Int×Int×Int×Int×Unit))×Unit))×(List Int)×Bool×Bool×(List (Int×Int×Int×Bool×Unit))×Int×Int×Int×Unit) : Option ((((ByteArray×Int×Int×(List (Int×Int×Int×(List (Int×Int×Int×Int×Unit))×Unit))×(List Int)×Bool×Bool×(List (Int×Int×Int×Bool×Unit))×Int×Int×Int×Unit)×(List ((List Int)×((List Int)×(List Int)×Unit)×Int×Int×Unit))×(List (Int×Int×Int×Unit))×Unit)×Int×Unit) ⊕ (Unit×Int×Unit)) :=
  (f53 k x0).bind fun r1 =>
  bif r1.2.1 != 0 then
  some (.inr ((),r1.2))
  else
  (f54 k x0).bind fun r2 =>
  some (.inl ((r2.1,[r1.1],[],()),0,()))
noncomputable def f30_sig (k : Nat) : Sig := ⟨[.val ty38],[],[[.box 106 ck45,.val (.int .i64)],[.nilp,.val (.int .i64)]],fun x => f30 k x.1⟩
noncomputable def E_f30 (k : Nat) : Env := ⟨Try.prog,G0,scons 54 [f54_sig k] (scons 53 [f53_sig k] (snil)),tnil,tnil,unil,k,qnil,false⟩
theorem f30_run (k : Nat) (x : (lTy (lay 0 (f30_sig k).ins)).den) : runF (E_f30 k) Try.f30 (f30_sig k) x = (f30_sig k).F x := by kernel_rfl
theorem f30_ok [Dr] (k : Nat) : FnOK Try.prog G0 30 (f30_sig k) :=
  fn_ok2 (E := E_f30 k) (env_cons (one_sig (f54_ok k)) (env_cons (one_sig (f53_ok k)) (env_nil))) (qenv_nil) mixed Try.func30 Try.call30 (by kernel_rfl) (by kernel_rfl) (m := 0) (by kernel_rfl) trivial (sk := []) (by kernel_rfl) trivial (f30_run k)
noncomputable def f56 (k : Nat) (x0 : (ByteArray×Int×Int×(List (Int×Int×Int×(List (Int×Int×Int×Int×Unit))×Unit))×(List Int)×Bool×Bool×(List (Int×Int×Int×Bool×Unit))×Int×Int×Int×Unit)×(List ((List Int)×((List Int)×(List Int)×Unit)×Int×Int×Unit))×(List (Int×Int×Int×Unit))×Unit) : Option ((((List Int)×((List Int)×(List Int)×Unit)×Int×Int×Unit)×Unit)) :=
  bif decide (0 ≤ (w64 ((x0.2.1.length : Int) - 1))) && decide ((w64 ((x0.2.1.length : Int) - 1)) < (x0.2.1.length : Int)) then
  some (rd (([],([],[],()),0,0,()) : (List Int)×((List Int)×(List Int)×Unit)×Int×Int×Unit) x0.2.1 (w64 ((x0.2.1.length : Int) - 1)),())
  else
  none
noncomputable def f56_sig (k : Nat) : Sig := ⟨[.view ty44],[],[[.val ty28]],fun x => f56 k x.1⟩
noncomputable def E_f56 (k : Nat) : Env := ⟨Try.prog,G0,snil,tnil,tnil,unil,k,qnil,false⟩
theorem f56_run (k : Nat) (x : (lTy (lay 0 (f56_sig k).ins)).den) : runF (E_f56 k) Try.f56 (f56_sig k) x = (f56_sig k).F x := by kernel_rfl
theorem f56_ok [Dr] (k : Nat) : FnOK Try.prog G0 56 (f56_sig k) :=
  fn_ok2 (E := E_f56 k) (env_nil) (qenv_nil) mixed Try.func56 Try.call56 (by kernel_rfl) (by kernel_rfl) (m := 0) (by kernel_rfl) trivial (sk := []) (by kernel_rfl) trivial (f56_run k)
noncomputable def f47 (k : Nat) (x0 : Int) : Option ((Int×Unit)) :=
  bif x0 == 0 then
  some ((-1),())
  else
  some ((w64 (x0 - 1)).tmod 2,())
noncomputable def f47_sig (k : Nat) : Sig := ⟨[.val (.int .i64)],[],[[.val (.int .i64)]],fun x => f47 k x.1⟩
noncomputable def E_f47 (k : Nat) : Env := ⟨Try.prog,G0,snil,tnil,tnil,unil,k,qnil,false⟩
theorem f47_run (k : Nat) (x : (lTy (lay 0 (f47_sig k).ins)).den) : runF (E_f47 k) Try.f47 (f47_sig k) x = (f47_sig k).F x := by kernel_rfl
theorem f47_ok [Dr] (k : Nat) : FnOK Try.prog G0 47 (f47_sig k) :=
  fn_ok2 (E := E_f47 k) (env_nil) (qenv_nil) mixed Try.func47 Try.call47 (by kernel_rfl) (by kernel_rfl) (m := 0) (by kernel_rfl) trivial (sk := []) (by kernel_rfl) trivial (f47_run k)
noncomputable def l87_8 (k : Nat) : Nat → Int → Int → (ByteArray×Int×Int×(List (Int×Int×Int×(List (Int×Int×Int×Int×Unit))×Unit))×(List Int)×Bool×Bool×(List (Int×Int×Int×Bool×Unit))×Int×Int×Int×Unit) → ((List Int)×((List Int)×(List Int)×Unit)×Int×Int×Unit) → Int → (Int×Int×Unit) → Int → Int → Int → Int → Int → ((Int×Int×Unit)×(Int×Int×Unit)×(Int×Int×Unit)×(Int×Int×Unit)×Unit) → Int → Option ((Int×Int×(ByteArray×Int×Int×(List (Int×Int×Int×(List (Int×Int×Int×Int×Unit))×Unit))×(List Int)×Bool×Bool×(List (Int×Int×Int×Bool×Unit))×Int×Int×Int×Unit)×((List Int)×((List Int)×(List Int)×Unit)×Int×Int×Unit)×Int×Int×Int×Int×((Int×Int×Unit)×(Int×Int×Unit)×(Int×Int×Unit)×(Int×Int×Unit)×Unit)×Int×Unit))
 | 0,_,_,_,_,_,_,_,_,_,_,_,_,_ => none
 | j + 1,s2,s3,s4,s5,s9,s11,s12,s13,s14,s17,s18,s25,s26 =>
  bif decide (s12 ≥ 0) then
  bif decide (s12 < s4.2.1) then
  bif decide (s13 ≥ 0) then
  bif decide (s13 < s4.2.2.1) then
  bif decide (s14 < s3) then
  bif decide (0 ≤ (w64 ((w64 (s13 * s4.2.1)) + s12))) && decide ((w64 ((w64 (s13 * s4.2.1)) + s12)) < (s5.1.length : Int)) then
  (f47 k (rd (0 : Int) s5.1 (w64 ((w64 (s13 * s4.2.1)) + s12)))).bind fun r1 =>
  bif r1.1 == s2 then
  l87_8 k j s2 s3 s4 s5 s9 s11 (w64 (s12 + s11.1)) (w64 (s13 + s11.2.1)) (w64 (s14 + 1)) s17 s18 s25 s26
  else
  some (s2,s3,s4,s5,s9,s14,s17,s18,s25,s26,())
  else
  none
  else
  some (s2,s3,s4,s5,s9,s14,s17,s18,s25,s26,())
  else
  some (s2,s3,s4,s5,s9,s14,s17,s18,s25,s26,())
  else
  some (s2,s3,s4,s5,s9,s14,s17,s18,s25,s26,())
  else
  some (s2,s3,s4,s5,s9,s14,s17,s18,s25,s26,())
  else
  some (s2,s3,s4,s5,s9,s14,s17,s18,s25,s26,())
noncomputable def l87_8_sig (k : Nat) : LoopSig := ⟨[(2,.obj ck1),(3,.obj ck1),(4,.obj ck40),(5,.obj ck30),(9,.obj ck1),(11,.obj (.box 144 (.val ty6))),(12,.obj ck1),(13,.obj ck1),(14,.obj ck1),(17,.obj ck1),(18,.obj ck1),(25,.obj ck37),(26,.obj ck1)],[(.exit 4,[(2,.obj ck1),(3,.obj ck1),(4,.obj ck40),(5,.obj ck30),(9,.obj ck1),(14,.obj ck1),(17,.obj ck1),(18,.obj ck1),(25,.obj ck37),(26,.obj ck1)])],fun j x => l87_8 k j x.1 x.2.1 x.2.2.1 x.2.2.2.1 x.2.2.2.2.1 x.2.2.2.2.2.1 x.2.2.2.2.2.2.1 x.2.2.2.2.2.2.2.1 x.2.2.2.2.2.2.2.2.1 x.2.2.2.2.2.2.2.2.2.1 x.2.2.2.2.2.2.2.2.2.2.1 x.2.2.2.2.2.2.2.2.2.2.2.1 x.2.2.2.2.2.2.2.2.2.2.2.2.1⟩
noncomputable def l87_5 (k : Nat) : Nat → Int → Int → (ByteArray×Int×Int×(List (Int×Int×Int×(List (Int×Int×Int×Int×Unit))×Unit))×(List Int)×Bool×Bool×(List (Int×Int×Int×Bool×Unit))×Int×Int×Int×Unit) → ((List Int)×((List Int)×(List Int)×Unit)×Int×Int×Unit) → Int → Int → Int → ((Int×Int×Unit)×(Int×Int×Unit)×(Int×Int×Unit)×(Int×Int×Unit)×Unit) → Int → Option ((Int×Int×(ByteArray×Int×Int×(List (Int×Int×Int×(List (Int×Int×Int×Int×Unit))×Unit))×(List Int)×Bool×Bool×(List (Int×Int×Int×Bool×Unit))×Int×Int×Int×Unit)×((List Int)×((List Int)×(List Int)×Unit)×Int×Int×Unit)×Int×Int×Unit) ⊕ (Bool×Unit))
 | 0,_,_,_,_,_,_,_,_,_ => none
 | j + 1,s2,s3,s4,s5,s9,s17,s18,s25,s26 =>
  bif decide (s26 < 4) then
  bif s26 == 0 then
  bif decide (s4.2.1 = 0) then
  none
  else
  bif decide (s4.2.1 = 0) then
  none
  else
  (l87_8 k k s2 s3 s4 s5 s9 s25.1 (s9.tmod s4.2.1) (w64 (s9.tdiv s4.2.1)) 0 s17 s18 s25 s26).bind fun o1 =>
  bif o1.2.2.2.2.2.1 == o1.2.1 then
  some (.inr (true,()))
  else
  l87_5 k j o1.1 o1.2.1 o1.2.2.1 o1.2.2.2.1 o1.2.2.2.2.1 o1.2.2.2.2.2.2.1 o1.2.2.2.2.2.2.2.1 o1.2.2.2.2.2.2.2.2.1 (w64 (o1.2.2.2.2.2.2.2.2.2.1 + 1))
  else
  bif s26 == 1 then
  bif decide (s4.2.1 = 0) then
  none
  else
  bif decide (s4.2.1 = 0) then
  none
  else
  (l87_8 k k s2 s3 s4 s5 s9 s25.2.1 (s9.tmod s4.2.1) (w64 (s9.tdiv s4.2.1)) 0 s17 s18 s25 s26).bind fun o2 =>
  bif o2.2.2.2.2.2.1 == o2.2.1 then
  some (.inr (true,()))
  else
  l87_5 k j o2.1 o2.2.1 o2.2.2.1 o2.2.2.2.1 o2.2.2.2.2.1 o2.2.2.2.2.2.2.1 o2.2.2.2.2.2.2.2.1 o2.2.2.2.2.2.2.2.2.1 (w64 (o2.2.2.2.2.2.2.2.2.2.1 + 1))
  else
  bif s26 == 2 then
  bif decide (s4.2.1 = 0) then
  none
  else
  bif decide (s4.2.1 = 0) then
  none
  else
  (l87_8 k k s2 s3 s4 s5 s9 s25.2.2.1 (s9.tmod s4.2.1) (w64 (s9.tdiv s4.2.1)) 0 s17 s18 s25 s26).bind fun o3 =>
  bif o3.2.2.2.2.2.1 == o3.2.1 then
  some (.inr (true,()))
  else
  l87_5 k j o3.1 o3.2.1 o3.2.2.1 o3.2.2.2.1 o3.2.2.2.2.1 o3.2.2.2.2.2.2.1 o3.2.2.2.2.2.2.2.1 o3.2.2.2.2.2.2.2.2.1 (w64 (o3.2.2.2.2.2.2.2.2.2.1 + 1))
  else
  bif s26 == 3 then
  bif decide (s4.2.1 = 0) then
  none
  else
  bif decide (s4.2.1 = 0) then
  none
  else
  (l87_8 k k s2 s3 s4 s5 s9 s25.2.2.2.1 (s9.tmod s4.2.1) (w64 (s9.tdiv s4.2.1)) 0 s17 s18 s25 s26).bind fun o4 =>
  bif o4.2.2.2.2.2.1 == o4.2.1 then
  some (.inr (true,()))
  else
  l87_5 k j o4.1 o4.2.1 o4.2.2.1 o4.2.2.2.1 o4.2.2.2.2.1 o4.2.2.2.2.2.2.1 o4.2.2.2.2.2.2.2.1 o4.2.2.2.2.2.2.2.2.1 (w64 (o4.2.2.2.2.2.2.2.2.2.1 + 1))
  else
  none
  else
  some (.inl (s2,s3,s4,s5,s17,s18,()))
noncomputable def l87_5_sig (k : Nat) : LoopSig := ⟨[(2,.obj ck1),(3,.obj ck1),(4,.obj ck40),(5,.obj ck30),(9,.obj ck1),(17,.obj ck1),(18,.obj ck1),(25,.obj ck37),(26,.obj ck1)],[(.exit 2,[(2,.obj ck1),(3,.obj ck1),(4,.obj ck40),(5,.obj ck30),(17,.obj ck1),(18,.obj ck1)]),(.ret,[(8,.obj (.val (.bool)))])],fun j x => l87_5 k j x.1 x.2.1 x.2.2.1 x.2.2.2.1 x.2.2.2.2.1 x.2.2.2.2.2.1 x.2.2.2.2.2.2.1 x.2.2.2.2.2.2.2.1 x.2.2.2.2.2.2.2.2.1⟩
noncomputable def l87_2 (k : Nat) : Nat → Int → Int → (ByteArray×Int×Int×(List (Int×Int×Int×(List (Int×Int×Int×Int×Unit))×Unit))×(List Int)×Bool×Bool×(List (Int×Int×Int×Bool×Unit))×Int×Int×Int×Unit) → ((List Int)×((List Int)×(List Int)×Unit)×Int×Int×Unit) → Int → Int → Option (Unit ⊕ (Bool×Unit))
 | 0,_,_,_,_,_,_ => none
 | j + 1,s2,s3,s4,s5,s17,s18 =>
  bif decide (s18 < s17) then
  (l87_5 k k s2 s3 s4 s5 s18 s17 s18 ((1,0,()),(0,1,()),(1,1,()),(1,(-1),()),()) 0).bind fun q10 =>
  Sum.elim
  (fun y1 =>
  l87_2 k j y1.1 y1.2.1 y1.2.2.1 y1.2.2.2.1 y1.2.2.2.2.1 (w64 (y1.2.2.2.2.2.1 + 1)))
  (fun y2 =>
  some (.inr y2))
  q10
  else
  some (.inl ())
noncomputable def l87_2_sig (k : Nat) : LoopSig := ⟨[(2,.obj ck1),(3,.obj ck1),(4,.obj ck40),(5,.obj ck30),(17,.obj ck1),(18,.obj ck1)],[(.exit 0,[]),(.ret,[(8,.obj (.val (.bool)))])],fun j x => l87_2 k j x.1 x.2.1 x.2.2.1 x.2.2.2.1 x.2.2.2.2.1 x.2.2.2.2.2.1⟩
noncomputable def f87 (k : Nat) (x0 : ByteArray×Int×Int×(List (Int×Int×Int×(List (Int×Int×Int×Int×Unit))×Unit))×(List Int)×Bool×Bool×(List (Int×Int×Int×Bool×Unit))×Int×Int×Int×Unit) (x1 : (List Int)×((List Int)×(List Int)×Unit)×Int×Int×Unit) (x2 : Int) (x3 : Int) : Option ((Bool×Unit)) :=
  (l87_2 k k x2 x3 x0 x1 (x1.1.length : Int) 0).bind fun q11 =>
  Sum.elim
  (fun y1 =>
  some (false,()))
  (fun y2 =>
  some y2)
  q11
noncomputable def f87_sig (k : Nat) : Sig := ⟨[.val ty38,.val ty28,.val (.int .i64),.val (.int .i64)],[],[[.val (.bool)]],fun x => f87 k x.1 x.2.1 x.2.2.1 x.2.2.2.1⟩
noncomputable def E_f87 (k : Nat) : Env := ⟨Try.prog,G0,scons 47 [f47_sig k] (snil),tcons 2 (l87_2_sig k) (tcons 5 (l87_5_sig k) (tcons 8 (l87_8_sig k) (tnil))),tnil,unil,k,qnil,false⟩
theorem l87_2_ok (k : Nat) : LoopOK (E_f87 k) ⟨Try.f87.ntmps,[],G0⟩ (nthC 0 (loopsIn (Try.f87.body.getD .skip))) :=
  loop_ok (ls := l87_2_sig k) (by kernel_rfl) (fun _ => by kernel_rfl) (fun j x => by kernel_rfl)
theorem l87_5_ok (k : Nat) : LoopOK (E_f87 k) ⟨Try.f87.ntmps,[],G0⟩ (nthC 1 (loopsIn (Try.f87.body.getD .skip))) :=
  loop_ok (ls := l87_5_sig k) (by kernel_rfl) (fun _ => by kernel_rfl) (fun j x => by kernel_rfl)
theorem l87_8_ok (k : Nat) : LoopOK (E_f87 k) ⟨Try.f87.ntmps,[],G0⟩ (nthC 2 (loopsIn (Try.f87.body.getD .skip))) :=
  loop_ok (ls := l87_8_sig k) (by kernel_rfl) (fun _ => by kernel_rfl) (fun j x => by kernel_rfl)
theorem f87_run (k : Nat) (x : (lTy (lay 0 (f87_sig k).ins)).den) : runF (E_f87 k) Try.f87 (f87_sig k) x = (f87_sig k).F x := by kernel_rfl
theorem f87_ok [Dr] (k : Nat) : FnOK Try.prog G0 87 (f87_sig k) :=
  fn_ok2 (E := E_f87 k) (env_cons (one_sig (f47_ok k)) (env_nil)) (qenv_nil) mixed Try.func87 Try.call87 (by kernel_rfl) (by kernel_rfl) (m := 3) (by kernel_rfl) ⟨⟨⟨trivial,l87_2_ok k⟩,l87_5_ok k⟩,l87_8_ok k⟩ (sk := []) (by kernel_rfl) trivial (f87_run k)
noncomputable def f41 (k : Nat) (x0 : Int) (x1 : Int) : Option ((Int×Unit)) :=
  some (w64 ((w64 ((w64 (2 * x0)) + x1)) + 1),())
noncomputable def f41_sig (k : Nat) : Sig := ⟨[.val (.int .i64),.val (.int .i64)],[],[[.val (.int .i64)]],fun x => f41 k x.1 x.2.1⟩
noncomputable def E_f41 (k : Nat) : Env := ⟨Try.prog,G0,snil,tnil,tnil,unil,k,qnil,false⟩
theorem f41_run (k : Nat) (x : (lTy (lay 0 (f41_sig k).ins)).den) : runF (E_f41 k) Try.f41 (f41_sig k) x = (f41_sig k).F x := by kernel_rfl
theorem f41_ok [Dr] (k : Nat) : FnOK Try.prog G0 41 (f41_sig k) :=
  fn_ok2 (E := E_f41 k) (env_nil) (qenv_nil) mixed Try.func41 Try.call41 (by kernel_rfl) (by kernel_rfl) (m := 0) (by kernel_rfl) trivial (sk := []) (by kernel_rfl) trivial (f41_run k)
noncomputable def f76 (k : Nat) (x0 : ByteArray×Int×Int×(List (Int×Int×Int×(List (Int×Int×Int×Int×Unit))×Unit))×(List Int)×Bool×Bool×(List (Int×Int×Int×Bool×Unit))×Int×Int×Int×Unit) (x1 : Int) (x2 : Int) : Option ((Bool×Unit)) :=
  bif x1 == 0 then
  bif decide (x0.2.1 = 0) then
  none
  else
  some ((w64 (x2.tdiv x0.2.1)) == (w64 (x0.2.2.1 - 1)),())
  else
  bif decide (x0.2.1 = 0) then
  none
  else
  some ((w64 (x2.tdiv x0.2.1)) == 0,())
noncomputable def f76_sig (k : Nat) : Sig := ⟨[.val ty38,.val (.int .i64),.val (.int .i64)],[],[[.val (.bool)]],fun x => f76 k x.1 x.2.1 x.2.2.1⟩
noncomputable def E_f76 (k : Nat) : Env := ⟨Try.prog,G0,snil,tnil,tnil,unil,k,qnil,false⟩
theorem f76_run (k : Nat) (x : (lTy (lay 0 (f76_sig k).ins)).den) : runF (E_f76 k) Try.f76 (f76_sig k) x = (f76_sig k).F x := by kernel_rfl
theorem f76_ok [Dr] (k : Nat) : FnOK Try.prog G0 76 (f76_sig k) :=
  fn_ok2 (E := E_f76 k) (env_nil) (qenv_nil) mixed Try.func76 Try.call76 (by kernel_rfl) (by kernel_rfl) (m := 0) (by kernel_rfl) trivial (sk := []) (by kernel_rfl) trivial (f76_run k)
noncomputable def l69_7 (k : Nat) : Nat → (ByteArray×Int×Int×(List (Int×Int×Int×(List (Int×Int×Int×Int×Unit))×Unit))×(List Int)×Bool×Bool×(List (Int×Int×Int×Bool×Unit))×Int×Int×Int×Unit) → (Int×Int×Int×Bool×Unit) → Int → (List Int) → Int → Int → Option (Unit ⊕ (Bool×Unit))
 | 0,_,_,_,_,_,_ => none
 | j + 1,s3,s5,s7,s29,s30,s31 =>
  bif decide (s31 < s30) then
  bif decide (0 ≤ s31) && decide (s31 < (s29.length : Int)) then
  (f41 k s5.2.1 s7).bind fun r1 =>
  bif (rd (0 : Int) s29 s31) == r1.1 then
  (f76 k s3 s7 s31).bind fun r2 =>
  bif r2.1 then
  some (.inr (true,()))
  else
  l69_7 k j s3 s5 s7 s29 s30 (w64 (s31 + 1))
  else
  l69_7 k j s3 s5 s7 s29 s30 (w64 (s31 + 1))
  else
  none
  else
  some (.inl ())
noncomputable def l69_7_sig (k : Nat) : LoopSig := ⟨[(3,.obj ck40),(5,.obj ck21),(7,.obj ck1),(29,.obj ck4),(30,.obj ck1),(31,.obj ck1)],[(.exit 1,[]),(.ret,[(6,.obj (.val (.bool)))])],fun j x => l69_7 k j x.1 x.2.1 x.2.2.1 x.2.2.2.1 x.2.2.2.2.1 x.2.2.2.2.2.1⟩
noncomputable def l69_15 (k : Nat) : Nat → ((List Int)×((List Int)×(List Int)×Unit)×Int×Int×Unit) → (Int×Int×Int×Bool×Unit) → Int → (List Int) → Int → Int → Option (((Int×Int×Int×Bool×Unit)×Int×Unit))
 | 0,_,_,_,_,_,_ => none
 | j + 1,s4,s5,s10,s50,s51,s52 =>
  bif decide (s52 < s51) then
  bif decide (0 ≤ s52) && decide (s52 < (s50.length : Int)) then
  (f41 k s5.2.1 s4.2.2.1).bind fun r1 =>
  bif (rd (0 : Int) s50 s52) == r1.1 then
  l69_15 k j s4 s5 (w64 (s10 + 1)) s50 s51 (w64 (s52 + 1))
  else
  l69_15 k j s4 s5 s10 s50 s51 (w64 (s52 + 1))
  else
  none
  else
  some (s5,s10,())
noncomputable def l69_15_sig (k : Nat) : LoopSig := ⟨[(4,.obj ck30),(5,.obj ck21),(10,.obj ck1),(50,.obj ck4),(51,.obj ck1),(52,.obj ck1)],[(.exit 3,[(5,.obj ck21),(10,.obj ck1)])],fun j x => l69_15 k j x.1 x.2.1 x.2.2.1 x.2.2.2.1 x.2.2.2.2.1 x.2.2.2.2.2.1⟩
noncomputable def f69 (k : Nat) (x0 : ByteArray×Int×Int×(List (Int×Int×Int×(List (Int×Int×Int×Int×Unit))×Unit))×(List Int)×Bool×Bool×(List (Int×Int×Int×Bool×Unit))×Int×Int×Int×Unit) (x1 : (List Int)×((List Int)×(List Int)×Unit)×Int×Int×Unit) (x2 : Int×Int×Int×Bool×Unit) : Option ((Bool×Unit)) :=
  bif x2.1 == 0 then
  (f87 k x0 x1 (w64 (1 - x1.2.2.1)) x2.2.2.1).bind fun r1 =>
  some r1
  else
  bif x2.1 == 1 then
  (l69_7 k k x0 x2 (w64 (1 - x1.2.2.1)) x1.1 (x1.1.length : Int) 0).bind fun q12 =>
  Sum.elim
  (fun y2 =>
  some (false,()))
  (fun y3 =>
  some y3)
  q12
  else
  (l69_15 k k x1 x2 0 x1.1 (x1.1.length : Int) 0).bind fun o4 =>
  some (decide (o4.2.1 < o4.1.2.2.1),())
noncomputable def f69_sig (k : Nat) : Sig := ⟨[.val ty38,.val ty28,.val ty14],[],[[.val (.bool)]],fun x => f69 k x.1 x.2.1 x.2.2.1⟩
noncomputable def E_f69 (k : Nat) : Env := ⟨Try.prog,G0,scons 87 [f87_sig k] (scons 76 [f76_sig k] (scons 41 [f41_sig k] (snil))),tcons 15 (l69_15_sig k) (tcons 7 (l69_7_sig k) (tnil)),tnil,unil,k,qnil,false⟩
theorem l69_7_ok (k : Nat) : LoopOK (E_f69 k) ⟨Try.f69.ntmps,[],G0⟩ (nthC 0 (loopsIn (Try.f69.body.getD .skip))) :=
  loop_ok (ls := l69_7_sig k) (by kernel_rfl) (fun _ => by kernel_rfl) (fun j x => by kernel_rfl)
theorem l69_15_ok (k : Nat) : LoopOK (E_f69 k) ⟨Try.f69.ntmps,[],G0⟩ (nthC 1 (loopsIn (Try.f69.body.getD .skip))) :=
  loop_ok (ls := l69_15_sig k) (by kernel_rfl) (fun _ => by kernel_rfl) (fun j x => by kernel_rfl)
theorem f69_run (k : Nat) (x : (lTy (lay 0 (f69_sig k).ins)).den) : runF (E_f69 k) Try.f69 (f69_sig k) x = (f69_sig k).F x := by kernel_rfl
theorem f69_ok [Dr] (k : Nat) : FnOK Try.prog G0 69 (f69_sig k) :=
  fn_ok2 (E := E_f69 k) (env_cons (one_sig (f87_ok k)) (env_cons (one_sig (f76_ok k)) (env_cons (one_sig (f41_ok k)) (env_nil)))) (qenv_nil) mixed Try.func69 Try.call69 (by kernel_rfl) (by kernel_rfl) (m := 2) (by kernel_rfl) ⟨⟨trivial,l69_7_ok k⟩,l69_15_ok k⟩ (sk := []) (by kernel_rfl) trivial (f69_run k)
noncomputable def f70 (k : Nat) (x0 : Int) : Option ((Int×Unit)) :=
  some (w64 (1 + x0),())
noncomputable def f70_sig (k : Nat) : Sig := ⟨[.val (.int .i64)],[],[[.val (.int .i64)]],fun x => f70 k x.1⟩
noncomputable def E_f70 (k : Nat) : Env := ⟨Try.prog,G0,snil,tnil,tnil,unil,k,qnil,false⟩
theorem f70_run (k : Nat) (x : (lTy (lay 0 (f70_sig k).ins)).den) : runF (E_f70 k) Try.f70 (f70_sig k) x = (f70_sig k).F x := by kernel_rfl
theorem f70_ok [Dr] (k : Nat) : FnOK Try.prog G0 70 (f70_sig k) :=
  fn_ok2 (E := E_f70 k) (env_nil) (qenv_nil) mixed Try.func70 Try.call70 (by kernel_rfl) (by kernel_rfl) (m := 0) (by kernel_rfl) trivial (sk := []) (by kernel_rfl) trivial (f70_run k)
noncomputable def l46_5 (k : Nat) : Nat → (ByteArray×Int×Int×(List (Int×Int×Int×(List (Int×Int×Int×Int×Unit))×Unit))×(List Int)×Bool×Bool×(List (Int×Int×Int×Bool×Unit))×Int×Int×Int×Unit) → ((List Int)×((List Int)×(List Int)×Unit)×Int×Int×Unit) → Int → Option (Unit ⊕ (Bool×Unit))
 | 0,_,_,_ => none
 | j + 1,s3,s4,s7 =>
  bif decide (s7 ≥ 0) then
  bif decide (0 ≤ s7) && decide (s7 < (s4.1.length : Int)) then
  bif (rd (0 : Int) s4.1 s7) == 0 then
  some (.inr (false,()))
  else
  l46_5 k j s3 s4 (w64 (s7 - s3.2.1))
  else
  none
  else
  some (.inl ())
noncomputable def l46_5_sig (k : Nat) : LoopSig := ⟨[(3,.obj ck40),(4,.obj ck30),(7,.obj ck1)],[(.exit 0,[]),(.ret,[(6,.obj (.val (.bool)))])],fun j x => l46_5 k j x.1 x.2.1 x.2.2.1⟩
noncomputable def f46 (k : Nat) (x0 : ByteArray×Int×Int×(List (Int×Int×Int×(List (Int×Int×Int×Int×Unit))×Unit))×(List Int)×Bool×Bool×(List (Int×Int×Int×Bool×Unit))×Int×Int×Int×Unit) (x1 : (List Int)×((List Int)×(List Int)×Unit)×Int×Int×Unit) (x2 : Int) : Option ((Bool×Unit)) :=
  bif decide (0 ≤ x2) && decide (x2 < (x1.1.length : Int)) then
  bif (rd (0 : Int) x1.1 x2) != 0 then
  some (false,())
  else
  bif x0.2.2.2.2.2.1 then
  (l46_5 k k x0 x1 (w64 (x2 - x0.2.1))).bind fun q13 =>
  Sum.elim
  (fun y1 =>
  some (true,()))
  (fun y2 =>
  some y2)
  q13
  else
  some (true,())
  else
  none
noncomputable def f46_sig (k : Nat) : Sig := ⟨[.val ty38,.val ty28,.val (.int .i64)],[],[[.val (.bool)]],fun x => f46 k x.1 x.2.1 x.2.2.1⟩
noncomputable def E_f46 (k : Nat) : Env := ⟨Try.prog,G0,snil,tcons 5 (l46_5_sig k) (tnil),tnil,unil,k,qnil,false⟩
theorem l46_5_ok (k : Nat) : LoopOK (E_f46 k) ⟨Try.f46.ntmps,[],G0⟩ (nthC 0 (loopsIn (Try.f46.body.getD .skip))) :=
  loop_ok (ls := l46_5_sig k) (by kernel_rfl) (fun _ => by kernel_rfl) (fun j x => by kernel_rfl)
theorem f46_run (k : Nat) (x : (lTy (lay 0 (f46_sig k).ins)).den) : runF (E_f46 k) Try.f46 (f46_sig k) x = (f46_sig k).F x := by kernel_rfl
theorem f46_ok [Dr] (k : Nat) : FnOK Try.prog G0 46 (f46_sig k) :=
  fn_ok2 (E := E_f46 k) (env_nil) (qenv_nil) mixed Try.func46 Try.call46 (by kernel_rfl) (by kernel_rfl) (m := 1) (by kernel_rfl) ⟨trivial,l46_5_ok k⟩ (sk := []) (by kernel_rfl) trivial (f46_run k)
noncomputable def f40 (k : Nat) (x0 : Int) : Option ((Int×Unit)) :=
  some (w64 ((w64 (x0 - 1)).tdiv 2),())
noncomputable def f40_sig (k : Nat) : Sig := ⟨[.val (.int .i64)],[],[[.val (.int .i64)]],fun x => f40 k x.1⟩
noncomputable def E_f40 (k : Nat) : Env := ⟨Try.prog,G0,snil,tnil,tnil,unil,k,qnil,false⟩
theorem f40_run (k : Nat) (x : (lTy (lay 0 (f40_sig k).ins)).den) : runF (E_f40 k) Try.f40 (f40_sig k) x = (f40_sig k).F x := by kernel_rfl
theorem f40_ok [Dr] (k : Nat) : FnOK Try.prog G0 40 (f40_sig k) :=
  fn_ok2 (E := E_f40 k) (env_nil) (qenv_nil) mixed Try.func40 Try.call40 (by kernel_rfl) (by kernel_rfl) (m := 0) (by kernel_rfl) trivial (sk := []) (by kernel_rfl) trivial (f40_run k)
noncomputable def f65 (k : Nat) (x0 : ByteArray×Int×Int×(List (Int×Int×Int×(List (Int×Int×Int×Int×Unit))×Unit))×(List Int)×Bool×Bool×(List (Int×Int×Int×Bool×Unit))×Int×Int×Int×Unit) (x1 : Int) (x2 : Int) (x3 : Int) : Option ((Int×Unit)) :=
  bif decide (0 ≤ x2) && decide (x2 < (x0.2.2.2.1.length : Int)) then
  bif decide ((rd ((0,0,0,[],()) : Int×Int×Int×(List (Int×Int×Int×Int×Unit))×Unit) x0.2.2.2.1 x2).2.2.1 > 0) then
  (f76 k x0 x1 x3).bind fun r1 =>
  bif r1.1 then
  some (w64 ((rd ((0,0,0,[],()) : Int×Int×Int×(List (Int×Int×Int×Int×Unit))×Unit) x0.2.2.2.1 x2).2.2.1 - 1),())
  else
  some (x2,())
  else
  some (x2,())
  else
  none
noncomputable def f65_sig (k : Nat) : Sig := ⟨[.val ty38,.val (.int .i64),.val (.int .i64),.val (.int .i64)],[],[[.val (.int .i64)]],fun x => f65 k x.1 x.2.1 x.2.2.1 x.2.2.2.1⟩
noncomputable def E_f65 (k : Nat) : Env := ⟨Try.prog,G0,scons 76 [f76_sig k] (snil),tnil,tnil,unil,k,qnil,false⟩
theorem f65_run (k : Nat) (x : (lTy (lay 0 (f65_sig k).ins)).den) : runF (E_f65 k) Try.f65 (f65_sig k) x = (f65_sig k).F x := by kernel_rfl
theorem f65_ok [Dr] (k : Nat) : FnOK Try.prog G0 65 (f65_sig k) :=
  fn_ok2 (E := E_f65 k) (env_cons (one_sig (f76_ok k)) (env_nil)) (qenv_nil) mixed Try.func65 Try.call65 (by kernel_rfl) (by kernel_rfl) (m := 0) (by kernel_rfl) trivial (sk := []) (by kernel_rfl) trivial (f65_run k)
noncomputable def l48_7 (k : Nat) : Nat → (List (Int×Int×Int×Unit)) → Int → (ByteArray×Int×Int×(List (Int×Int×Int×(List (Int×Int×Int×Int×Unit))×Unit))×(List Int)×Bool×Bool×(List (Int×Int×Int×Bool×Unit))×Int×Int×Int×Unit) → ((List Int)×((List Int)×(List Int)×Unit)×Int×Int×Unit) → (Int×Int×Int×Int×Unit) → Int → Int → Int → Int → Int → Int → Option (((List (Int×Int×Int×Unit))×Unit) ⊕ ((List (Int×Int×Int×Unit))×Unit×Unit))
 | 0,_,_,_,_,_,_,_,_,_,_,_ => none
 | j + 1,s0,s3,s6,s7,s9,s11,s12,s13,s14,s39,s40 =>
  bif decide (s40 < s39) then
  bif decide ((w64 (s13 + s9.1)) < 0) then
  some (.inr (s0,(),()))
  else
  bif decide ((w64 (s13 + s9.1)) ≥ s6.2.1) then
  some (.inr (s0,(),()))
  else
  bif decide ((w64 (s14 + s12)) < 0) then
  some (.inr (s0,(),()))
  else
  bif decide ((w64 (s14 + s12)) ≥ s6.2.2.1) then
  some (.inr (s0,(),()))
  else
  bif decide (0 ≤ (w64 ((w64 ((w64 (s14 + s12)) * s6.2.1)) + (w64 (s13 + s9.1))))) && decide ((w64 ((w64 ((w64 (s14 + s12)) * s6.2.1)) + (w64 (s13 + s9.1)))) < (s7.1.length : Int)) then
  (f47 k (rd (0 : Int) s7.1 (w64 ((w64 ((w64 (s14 + s12)) * s6.2.1)) + (w64 (s13 + s9.1)))))).bind fun r1 =>
  bif decide (r1.1 < 0) then
  bif s9.2.2.2.1 != 2 then
  (f65 k s6 s7.2.2.1 s11 (w64 ((w64 ((w64 (s14 + s12)) * s6.2.1)) + (w64 (s13 + s9.1))))).bind fun r2 =>
  bif decide ((s0.length + ([(s3,w64 ((w64 ((w64 (s14 + s12)) * s6.2.1)) + (w64 (s13 + s9.1))),r2)] : List (Int×Int×Int×Unit)).length) * 24 ≤ roomN) then
  bif decide (r1.1 ≥ 0) then
  some (.inr (s0 ++ [(s3,w64 ((w64 ((w64 (s14 + s12)) * s6.2.1)) + (w64 (s13 + s9.1))),r2)],(),()))
  else
  l48_7 k j (s0 ++ [(s3,w64 ((w64 ((w64 (s14 + s12)) * s6.2.1)) + (w64 (s13 + s9.1))),r2)]) s3 s6 s7 s9 s11 s12 (w64 (s13 + s9.1)) (w64 (s14 + s12)) s39 (w64 (s40 + 1))
  else
  none
  else
  bif r1.1 == (w64 (1 - s7.2.2.1)) then
  bif s9.2.2.2.1 != 0 then
  (f65 k s6 s7.2.2.1 s11 (w64 ((w64 ((w64 (s14 + s12)) * s6.2.1)) + (w64 (s13 + s9.1))))).bind fun r3 =>
  bif decide ((s0.length + ([(s3,w64 ((w64 ((w64 (s14 + s12)) * s6.2.1)) + (w64 (s13 + s9.1))),r3)] : List (Int×Int×Int×Unit)).length) * 24 ≤ roomN) then
  bif decide (r1.1 ≥ 0) then
  some (.inr (s0 ++ [(s3,w64 ((w64 ((w64 (s14 + s12)) * s6.2.1)) + (w64 (s13 + s9.1))),r3)],(),()))
  else
  l48_7 k j (s0 ++ [(s3,w64 ((w64 ((w64 (s14 + s12)) * s6.2.1)) + (w64 (s13 + s9.1))),r3)]) s3 s6 s7 s9 s11 s12 (w64 (s13 + s9.1)) (w64 (s14 + s12)) s39 (w64 (s40 + 1))
  else
  none
  else
  bif decide (r1.1 ≥ 0) then
  some (.inr (s0,(),()))
  else
  l48_7 k j s0 s3 s6 s7 s9 s11 s12 (w64 (s13 + s9.1)) (w64 (s14 + s12)) s39 (w64 (s40 + 1))
  else
  bif decide (r1.1 ≥ 0) then
  some (.inr (s0,(),()))
  else
  l48_7 k j s0 s3 s6 s7 s9 s11 s12 (w64 (s13 + s9.1)) (w64 (s14 + s12)) s39 (w64 (s40 + 1))
  else
  bif r1.1 == (w64 (1 - s7.2.2.1)) then
  bif s9.2.2.2.1 != 0 then
  (f65 k s6 s7.2.2.1 s11 (w64 ((w64 ((w64 (s14 + s12)) * s6.2.1)) + (w64 (s13 + s9.1))))).bind fun r4 =>
  bif decide ((s0.length + ([(s3,w64 ((w64 ((w64 (s14 + s12)) * s6.2.1)) + (w64 (s13 + s9.1))),r4)] : List (Int×Int×Int×Unit)).length) * 24 ≤ roomN) then
  bif decide (r1.1 ≥ 0) then
  some (.inr (s0 ++ [(s3,w64 ((w64 ((w64 (s14 + s12)) * s6.2.1)) + (w64 (s13 + s9.1))),r4)],(),()))
  else
  l48_7 k j (s0 ++ [(s3,w64 ((w64 ((w64 (s14 + s12)) * s6.2.1)) + (w64 (s13 + s9.1))),r4)]) s3 s6 s7 s9 s11 s12 (w64 (s13 + s9.1)) (w64 (s14 + s12)) s39 (w64 (s40 + 1))
  else
  none
  else
  bif decide (r1.1 ≥ 0) then
  some (.inr (s0,(),()))
  else
  l48_7 k j s0 s3 s6 s7 s9 s11 s12 (w64 (s13 + s9.1)) (w64 (s14 + s12)) s39 (w64 (s40 + 1))
  else
  bif decide (r1.1 ≥ 0) then
  some (.inr (s0,(),()))
  else
  l48_7 k j s0 s3 s6 s7 s9 s11 s12 (w64 (s13 + s9.1)) (w64 (s14 + s12)) s39 (w64 (s40 + 1))
  else
  none
  else
  some (.inl (s0,()))
noncomputable def l48_7_sig (k : Nat) : LoopSig := ⟨[(0,.obj ck12),(3,.obj ck1),(6,.obj ck40),(7,.obj ck30),(9,.obj (.box 96 (.val ty15))),(11,.obj ck1),(12,.obj ck1),(13,.obj ck1),(14,.obj ck1),(39,.obj ck1),(40,.obj ck1)],[(.exit 0,[(0,.obj ck12)]),(.ret,[(0,.obj ck12),(10,.same 0)])],fun j x => l48_7 k j x.1 x.2.1 x.2.2.1 x.2.2.2.1 x.2.2.2.2.1 x.2.2.2.2.2.1 x.2.2.2.2.2.2.1 x.2.2.2.2.2.2.2.1 x.2.2.2.2.2.2.2.2.1 x.2.2.2.2.2.2.2.2.2.1 x.2.2.2.2.2.2.2.2.2.2.1⟩
noncomputable def f48 (k : Nat) (x0 : List (Int×Int×Int×Unit)) (x1 : ByteArray×Int×Int×(List (Int×Int×Int×(List (Int×Int×Int×Int×Unit))×Unit))×(List Int)×Bool×Bool×(List (Int×Int×Int×Bool×Unit))×Int×Int×Int×Unit) (x2 : (List Int)×((List Int)×(List Int)×Unit)×Int×Int×Unit) (x3 : Int) (x4 : Int×Int×Int×Int×Unit) : Option (((List (Int×Int×Int×Unit))×Unit)) :=
  bif decide (0 ≤ x3) && decide (x3 < (x2.1.length : Int)) then
  (f40 k (rd (0 : Int) x2.1 x3)).bind fun r1 =>
  bif x2.2.2.1 == 1 then
  bif decide (x1.2.1 = 0) then
  none
  else
  bif decide (x1.2.1 = 0) then
  none
  else
  (l48_7 k k x0 x3 x1 x2 x4 r1.1 (w64 (0 - x4.2.1)) (x3.tmod x1.2.1) (w64 (x3.tdiv x1.2.1)) x4.2.2.1 0).bind fun q14 =>
  Sum.elim
  (fun y2 =>
  some y2)
  (fun y3 =>
  some (y3.1,()))
  q14
  else
  bif decide (x1.2.1 = 0) then
  none
  else
  bif decide (x1.2.1 = 0) then
  none
  else
  (l48_7 k k x0 x3 x1 x2 x4 r1.1 x4.2.1 (x3.tmod x1.2.1) (w64 (x3.tdiv x1.2.1)) x4.2.2.1 0).bind fun q15 =>
  Sum.elim
  (fun y4 =>
  some y4)
  (fun y5 =>
  some (y5.1,()))
  q15
  else
  none
noncomputable def f48_sig (k : Nat) : Sig := ⟨[.row ty10,.val ty38,.val ty28,.val (.int .i64),.val ty15],[],[[.row ty10]],fun x => f48 k x.1 x.2.1 x.2.2.1 x.2.2.2.1 x.2.2.2.2.1⟩
noncomputable def E_f48 (k : Nat) : Env := ⟨Try.prog,G0,scons 65 [f65_sig k] (scons 47 [f47_sig k] (scons 40 [f40_sig k] (snil))),tcons 7 (l48_7_sig k) (tnil),tnil,unil,k,qnil,false⟩
theorem l48_7_ok (k : Nat) : LoopOK (E_f48 k) ⟨Try.f48.ntmps,[],G0⟩ (nthC 0 (loopsIn (Try.f48.body.getD .skip))) :=
  loop_ok (ls := l48_7_sig k) (by kernel_rfl) (fun _ => by kernel_rfl) (fun j x => by kernel_rfl)
theorem f48_run (k : Nat) (x : (lTy (lay 0 (f48_sig k).ins)).den) : runF (E_f48 k) Try.f48 (f48_sig k) x = (f48_sig k).F x := by kernel_rfl
theorem f48_ok [Dr] (k : Nat) : FnOK Try.prog G0 48 (f48_sig k) :=
  fn_ok2 (E := E_f48 k) (env_cons (one_sig (f65_ok k)) (env_cons (one_sig (f47_ok k)) (env_cons (one_sig (f40_ok k)) (env_nil)))) (qenv_nil) mixed Try.func48 Try.call48 (by kernel_rfl) (by kernel_rfl) (m := 1) (by kernel_rfl) ⟨trivial,l48_7_ok k⟩ (sk := []) (by kernel_rfl) trivial (f48_run k)
noncomputable def f50 (k : Nat) (x0 : Int×Int×Int×Unit) (x1 : Int×Int×Int×Unit) : Option ((Int×Unit)) :=
  (f44 k x0.1 x1.1).bind fun r1 =>
  (f44 k x0.2.1 x1.2.1).bind fun r2 =>
  (f44 k x0.2.2.1 x1.2.2.1).bind fun r3 =>
  (f42 k [r1.1,r2.1,r3.1]).bind fun r4 =>
  some r4
noncomputable def f50_sig (k : Nat) : Sig := ⟨[.val ty10,.val ty10],[],[[.val (.int .i64)]],fun x => f50 k x.1 x.2.1⟩
noncomputable def E_f50 (k : Nat) : Env := ⟨Try.prog,G0,scons 44 [f44_sig k] (scons 42 [f42_sig k] (snil)),tnil,tnil,unil,k,qnil,false⟩
theorem f50_run (k : Nat) (x : (lTy (lay 0 (f50_sig k).ins)).den) : runF (E_f50 k) Try.f50 (f50_sig k) x = (f50_sig k).F x := by kernel_rfl
theorem f50_ok [Dr] (k : Nat) : FnOK Try.prog G0 50 (f50_sig k) :=
  fn_ok2 (E := E_f50 k) (env_cons (one_sig (f44_ok k)) (env_cons (one_sig (f42_ok k)) (env_nil))) (qenv_nil) mixed Try.func50 Try.call50 (by kernel_rfl) (by kernel_rfl) (m := 0) (by kernel_rfl) trivial (sk := []) (by kernel_rfl) trivial (f50_run k)
open Go.Shelf in
def sortMv_ren : Go.Shelf.Ren := ⟨fun | 6 => 49 | 15 => 67 | 14 => 66 | 28 => 85 | 29 => 86 | 20 => 77 | 21 => 78 | 22 => 79 | 23 => 80 | 24 => 81 | 25 => 82 | 26 => 83 | 27 => 84 | 46 => 91 | 47 => 92 | 48 => 93 | 49 => 94 | 50 => 95 | 57 => 96 | n => n,fun | 22 => 27 | 24 => 47 | 25 => 99 | 3 => 3 | 39 => 90 | 0 => 0 | 53 => 132 | 55 => 45 | 4 => 4 | 46 => 126 | 45 => 125 | 50 => 64 | 5 => 5 | 9 => 9 | 66 => 138 | 70 => 142 | 76 => 146 | 77 => 147 | n => n,fun | n => n⟩
open Go.Shelf in
theorem sortMv : Go.Proofs.SlLaysF0.n6 Try.prog sortMv_ren := {
  mixed := by kernel_rfl
  f6 := ⟨Try.f49.name,by decide,Try.func49.trans (congrArg some (by kernel_rfl))⟩
  f14 := ⟨Try.f66.name,by decide,Try.func66.trans (congrArg some (by kernel_rfl))⟩
  f15 := Try.func67.trans (congrArg some (by kernel_rfl))
  f20 := ⟨Try.f77.name,by decide,Try.func77.trans (congrArg some (by kernel_rfl))⟩
  f21 := ⟨Try.f78.name,by decide,Try.func78.trans (congrArg some (by kernel_rfl))⟩
  f22 := ⟨Try.f79.name,by decide,Try.func79.trans (congrArg some (by kernel_rfl))⟩
  f23 := ⟨Try.f80.name,by decide,Try.func80.trans (congrArg some (by kernel_rfl))⟩
  f24 := ⟨Try.f81.name,by decide,Try.func81.trans (congrArg some (by kernel_rfl))⟩
  f25 := ⟨Try.f82.name,by decide,Try.func82.trans (congrArg some (by kernel_rfl))⟩
  f26 := ⟨Try.f83.name,by decide,Try.func83.trans (congrArg some (by kernel_rfl))⟩
  f27 := ⟨Try.f84.name,by decide,Try.func84.trans (congrArg some (by kernel_rfl))⟩
  f28 := Try.func85.trans (congrArg some (by kernel_rfl))
  f29 := Try.func86.trans (congrArg some (by kernel_rfl))
  f46 := ⟨Try.f91.name,by decide,Try.func91.trans (congrArg some (by kernel_rfl))⟩
  f47 := Try.func92.trans (congrArg some (by kernel_rfl))
  f48 := Try.func93.trans (congrArg some (by kernel_rfl))
  f49 := ⟨Try.f94.name,by decide,Try.func94.trans (congrArg some (by kernel_rfl))⟩
  f50 := ⟨Try.f95.name,by decide,Try.func95.trans (congrArg some (by kernel_rfl))⟩
  f57 := ⟨Try.f96.name,by decide,Try.func96.trans (congrArg some (by kernel_rfl))⟩
  t0 := Try.underlying0
  a0 := Try.isAgg0
  z0 := Try.sizeOf0
  v0 := Try.zeroValue0
  t3 := Try.underlying3
  a3 := Try.isAgg3
  z3 := Try.sizeOf3
  v3 := Try.zeroValue3
  t4 := Try.underlying4
  a4 := Try.isAgg4
  z4 := Try.sizeOf4
  v4 := Try.zeroValue4
  t5 := Try.underlying5
  a5 := Try.isAgg5
  z5 := Try.sizeOf5
  v5 := Try.zeroValue5
  t9 := Try.underlying9
  a9 := Try.isAgg9
  z9 := Try.sizeOf9
  v9 := Try.zeroValue9
  t22 := Try.underlying27
  a22 := Try.isAgg27
  z22 := Try.sizeOf27
  v22 := Try.zeroValue27
  t25 := Try.underlying99
  a25 := Try.isAgg99
  z25 := Try.sizeOf99
  v25 := Try.zeroValue99
  t39 := Try.underlying90
  a39 := Try.isAgg90
  z39 := Try.sizeOf90
  v39 := Try.zeroValue90
  t45 := Try.underlying125
  a45 := Try.isAgg125
  z45 := Try.sizeOf125
  v45 := Try.zeroValue125
  t46 := Try.underlying126
  a46 := Try.isAgg126
  z46 := Try.sizeOf126
  v46 := Try.zeroValue126
  t50 := Try.underlying64
  a50 := Try.isAgg64
  z50 := Try.sizeOf64
  v50 := Try.zeroValue64
  t53 := Try.underlying132
  a53 := Try.isAgg132
  z53 := Try.sizeOf132
  v53 := Try.zeroValue132
  t55 := Try.underlying45
  a55 := Try.isAgg45
  z55 := Try.sizeOf45
  v55 := Try.zeroValue45
  t66 := Try.underlying138
  a66 := Try.isAgg138
  z66 := Try.sizeOf138
  v66 := Try.zeroValue138
  t70 := Try.underlying142
  a70 := Try.isAgg142
  z70 := Try.sizeOf142
  v70 := Try.zeroValue142
  t76 := Try.underlying146
  a76 := Try.isAgg146
  z76 := Try.sizeOf146
  v76 := Try.zeroValue146
  t77 := Try.underlying147
  a77 := Try.isAgg147
  z77 := Try.sizeOf147
  v77 := Try.zeroValue147 }
def cmpI (a b : Int) : Int := bif decide (a < b) then -1 else bif decide (b < a) then 1 else 0
theorem cmpI_eq (k : Nat) (a b : Int) : f44 k a b = some (cmpI a b,()) := by
  have h0 : f63 k a = some (false,()) := by simp [f63]
  have h1 : f63 k b = some (false,()) := by simp [f63]
  unfold f44 cmpI
  rw [h0,h1]
  by_cases h : a < b <;> by_cases h' : b < a <;> simp [h,h']
def cmpM (x y : Int×Int×Int×Unit) : Int := bif cmpI x.1 y.1 != 0 then cmpI x.1 y.1 else bif cmpI x.2.1 y.2.1 != 0 then cmpI x.2.1 y.2.1 else cmpI x.2.2.1 y.2.2.1
theorem cmpOr_eq (k : Nat) (a b c : Int) : f42 (k + 5) [a,b,c] = some (bif a != 0 then a else bif b != 0 then b else c,()) := by
  unfold f42
  have e0 : ∀ a b c : Int,rd (0 : Int) [a,b,c] 0 = a := fun _ _ _ => rfl
  have e1 : ∀ a b c : Int,rd (0 : Int) [a,b,c] 1 = b := fun _ _ _ => rfl
  have e2 : ∀ a b c : Int,rd (0 : Int) [a,b,c] 2 = c := fun _ _ _ => rfl
  have w1 : w64 1 = 1 := by decide
  have w2 : w64 2 = 2 := by decide
  have w3 : w64 3 = 3 := by decide
  cases ha : (a != 0) <;> cases hb : (b != 0) <;> cases hc : (c != 0) <;> simp [l42_3,ha,hb,hc,e0,e1,e2,w1,w2,w3]
  have := bne_eq_false_iff_eq.1 hc
  exact this.symm
theorem cmpM_eq (k : Nat) (x y : Int×Int×Int×Unit) : f50 (k + 5) x y = some (cmpM x y,()) := by
  unfold f50 cmpM
  simp only [cmpI_eq,Option.bind_some,cmpOr_eq]
theorem cmpM_lt (x y : Int×Int×Int×Unit) : cmpM x y < 0 ↔ x.1 < y.1 ∨ x.1 = y.1 ∧ (x.2.1 < y.2.1 ∨ x.2.1 = y.2.1 ∧ x.2.2.1 < y.2.2.1) := by
  have e : ∀ a b : Int,cmpI a b = if a < b then -1 else if b < a then 1 else 0 := fun a b => by
    unfold cmpI; by_cases h : a < b <;> by_cases h' : b < a <;> simp [h,h']
  unfold cmpM
  simp only [e]
  obtain ⟨a,b,c,_⟩ := x; obtain ⟨a',b',c',_⟩ := y
  simp only
  rcases Int.lt_trichotomy a a' with h | h | h
  · simp [h]
  · subst h
    rcases Int.lt_trichotomy b b' with h | h | h
    · simp [h]
    · subst h
      rcases Int.lt_trichotomy c c' with h | h | h
      · simp [h]
      · subst h; simp
      · have h2 : ¬ c < c' := by omega
        simp [h,h2]
    · have h2 : ¬ b < b' := by omega
      have h3 : ¬ b = b' := by omega
      simp [h,h2,h3]
  · have h2 : ¬ a < a' := by omega
    have h3 : ¬ a = a' := by omega
    simp [h,h2,h3]
def mvLt (x y : Int×Int×Int×Unit) : Bool := decide (cmpM x y < 0)
noncomputable def f49 (k : Nat) (x0 : List (Int×Int×Int×Unit)) : Option (List (Int×Int×Int×Unit)×Unit) :=
  bif Nat.ble 5 k && decide (x0.length < 4611686018427387904) then some (List.mergeSort x0 (fun x y => !mvLt y x),()) else none
noncomputable def f49_sig (k : Nat) : Sig := ⟨[.row ty10,.fn 50],[0],[[.row ty10]],fun x => f49 k x.1⟩
theorem mv_swo : Go.Sort.SWO (Go.Proofs.ltOf cmpM) := by
  have e : ∀ x y,Go.Proofs.ltOf cmpM x y = true ↔ cmpM x y < 0 := fun x y => by simp [Go.Proofs.ltOf]
  have e' : ∀ x y,Go.Proofs.ltOf cmpM x y = false ↔ ¬ cmpM x y < 0 := fun x y => by simp [Go.Proofs.ltOf]
  refine ⟨fun x => ?_,fun x y z h1 h2 => ?_,fun x y z h1 h2 => ?_⟩
  · rw [e',cmpM_lt]; omega
  · rw [e,cmpM_lt] at *; omega
  · rw [e',cmpM_lt] at *; omega
theorem mv_tot (x y : Int×Int×Int×Unit) (h1 : Go.Proofs.ltOf cmpM x y = false) (h2 : Go.Proofs.ltOf cmpM y x = false) : x = y := by
  have e' : ∀ x y,Go.Proofs.ltOf cmpM x y = false ↔ ¬ cmpM x y < 0 := fun x y => by simp [Go.Proofs.ltOf]
  rw [e',cmpM_lt] at h1 h2
  obtain ⟨a,b,c,_⟩ := x; obtain ⟨a',b',c',_⟩ := y
  simp only at h1 h2
  have : a = a' ∧ b = b' ∧ c = c' := by omega
  obtain ⟨rfl,rfl,rfl⟩ := this
  rfl
theorem f49_ok [Dr] (k : Nat) : FnOK Try.prog G0 49 (f49_sig k) := by
  by_cases hk : 5 ≤ k
  · obtain ⟨j,rfl⟩ : ∃ j,k = j + 5 := ⟨k - 5,by omega⟩
    refine FnOK.weak (sortfunc_ok (ρ := sortMv_ren) sortMv (.pair (.int .i64) (.pair (.int .i64) (.pair (.int .i64) (.unit)))) rfl rfl Try.isAgg47 Try.sizeOf47 Try.call49 (@f50_ok ⟨True⟩ (j + 5)) cmpM (fun x y => cmpM_eq j x y) mv_swo mv_tot) (fun x y h => ?_)
    have h2 := cond_some (show (bif Nat.ble 5 (j + 5) && decide (List.length (α := Int×Int×Int×Unit) x.1 < 4611686018427387904) then some (List.mergeSort (α := Int×Int×Int×Unit) x.1 (fun x y => !mvLt y x),()) else none) = some y from h)
    have h3 := ((Bool.and_eq_true _ _).mp h2.1).2
    show (bif decide (List.length (α := Int×Int×Int×Unit) x.1 < 4611686018427387904) then _ else none) = some y
    rw [h3]
    exact h2.2
  · refine fn_none Try.call49 (fun x => ?_)
    show (bif Nat.ble 5 k && _ then _ else none) = none
    rw [show Nat.ble 5 k = false from by cases h : Nat.ble 5 k; rfl; exact absurd (Nat.le_of_ble_eq_true h) hk]
    rfl
noncomputable def l51_9 (k : Nat) : Nat → (List (Int×Int×Int×Unit)) → Int → (Int×Int) → Int → Option (((List (Int×Int×Int×Unit))×Int×Unit))
 | 0,_,_,_,_ => none
 | j + 1,s0,s3,s4,s5 =>
  bif decide (s5 < ((s4.2.toNat : Nat) : Int)) then
  bif decide (0 ≤ s5) && decide (s5 < ((s4.2.toNat : Nat) : Int)) then
  bif decide (0 ≤ (w64 (s5 - 1))) && decide ((w64 (s5 - 1)) < ((s4.2.toNat : Nat) : Int)) then
  bif !(((rd ((0,0,0,()) : Int×Int×Int×Unit) s0 (((s4.1.toNat : Nat) : Int) + s5)).1 == (rd ((0,0,0,()) : Int×Int×Int×Unit) s0 (((s4.1.toNat : Nat) : Int) + (w64 (s5 - 1)))).1) && (((rd ((0,0,0,()) : Int×Int×Int×Unit) s0 (((s4.1.toNat : Nat) : Int) + s5)).2.1 == (rd ((0,0,0,()) : Int×Int×Int×Unit) s0 (((s4.1.toNat : Nat) : Int) + (w64 (s5 - 1)))).2.1) && (((rd ((0,0,0,()) : Int×Int×Int×Unit) s0 (((s4.1.toNat : Nat) : Int) + s5)).2.2.1 == (rd ((0,0,0,()) : Int×Int×Int×Unit) s0 (((s4.1.toNat : Nat) : Int) + (w64 (s5 - 1)))).2.2.1) && true))) then
  bif decide (0 ≤ s5) && decide (s5 < ((s4.2.toNat : Nat) : Int)) then
  bif decide (0 ≤ s3) && decide (s3 < (s0.length : Int)) then
  l51_9 k j (s0.set s3.toNat (rd ((0,0,0,()) : Int×Int×Int×Unit) s0 (((s4.1.toNat : Nat) : Int) + s5))) (w64 (s3 + 1)) (((s4.1.toNat : Nat) : Int),((s4.2.toNat : Nat) : Int)) (w64 (s5 + 1))
  else
  none
  else
  none
  else
  l51_9 k j s0 s3 (((s4.1.toNat : Nat) : Int),((s4.2.toNat : Nat) : Int)) (w64 (s5 + 1))
  else
  none
  else
  none
  else
  some (s0,s3,())
noncomputable def l51_9_sig (k : Nat) : LoopSig := ⟨[(0,.obj ck12),(3,.obj ck1),(4,.win 0 3),(5,.obj ck1)],[(.exit 2,[(0,.obj ck12),(3,.obj ck1)])],fun j x => l51_9 k j x.1 x.2.1 x.2.2.1 x.2.2.2.1⟩
noncomputable def l51_4 (k : Nat) : Nat → (List (Int×Int×Int×Unit)) → Int → Option (((List (Int×Int×Int×Unit))×Unit) ⊕ ((List (Int×Int×Int×Unit))×Unit))
 | 0,_,_ => none
 | j + 1,s0,s3 =>
  bif decide (s3 < (s0.length : Int)) then
  bif decide (0 ≤ s3) && decide (s3 < (s0.length : Int)) then
  bif decide (0 ≤ (w64 (s3 - 1))) && decide ((w64 (s3 - 1)) < (s0.length : Int)) then
  bif ((rd ((0,0,0,()) : Int×Int×Int×Unit) s0 s3).1 == (rd ((0,0,0,()) : Int×Int×Int×Unit) s0 (w64 (s3 - 1))).1) && (((rd ((0,0,0,()) : Int×Int×Int×Unit) s0 s3).2.1 == (rd ((0,0,0,()) : Int×Int×Int×Unit) s0 (w64 (s3 - 1))).2.1) && (((rd ((0,0,0,()) : Int×Int×Int×Unit) s0 s3).2.2.1 == (rd ((0,0,0,()) : Int×Int×Int×Unit) s0 (w64 (s3 - 1))).2.2.1) && true)) then
  bif decide (0 ≤ s3) && (decide (s3 ≤ (s0.length : Int)) && decide ((s0.length : Int) ≤ (s0.length : Int))) then
  (l51_9 k k s0 s3 (((s3.toNat : Nat) : Int),((((s0.length : Int) - s3).toNat : Nat) : Int)) 1).bind fun o1 =>
  bif decide (0 ≤ o1.2.1) && (decide (o1.2.1 ≤ (o1.1.length : Int)) && decide ((o1.1.length : Int) ≤ (o1.1.length : Int))) then
  bif Nat.ble (o1.2.1.toNat + ((o1.1.length : Int) - o1.2.1).toNat) o1.1.length then
  bif decide (0 ≤ o1.2.1) && decide (o1.2.1 ≤ ((o1.1.take o1.2.1.toNat ++ (List.replicate ((o1.1.length : Int) - o1.2.1).toNat ((0,0,0,()) : Int×Int×Int×Unit) ++ o1.1.drop (o1.2.1.toNat + ((o1.1.length : Int) - o1.2.1).toNat))).length : Int)) then
  some (.inr (first o1.2.1.toNat (o1.1.take o1.2.1.toNat ++ (List.replicate ((o1.1.length : Int) - o1.2.1).toNat ((0,0,0,()) : Int×Int×Int×Unit) ++ o1.1.drop (o1.2.1.toNat + ((o1.1.length : Int) - o1.2.1).toNat))),()))
  else
  none
  else
  none
  else
  none
  else
  none
  else
  l51_4 k j s0 (w64 (s3 + 1))
  else
  none
  else
  none
  else
  some (.inl (s0,()))
noncomputable def l51_4_sig (k : Nat) : LoopSig := ⟨[(0,.obj ck12),(3,.obj ck1)],[(.exit 0,[(0,.obj ck12)]),(.ret,[(2,.obj ck12)])],fun j x => l51_4 k j x.1 x.2.1⟩
noncomputable def f51 (k : Nat) (x0 : List (Int×Int×Int×Unit)) : Option (((List (Int×Int×Int×Unit))×Unit)) :=
  bif decide ((x0.length : Int) < 2) then
  some (x0,())
  else
  (l51_4 k k x0 1).bind fun q16 =>
  Sum.elim
  (fun y1 =>
  some y1)
  (fun y2 =>
  some y2)
  q16
noncomputable def f51_sig (k : Nat) : Sig := ⟨[.row ty10],[],[[.row ty10]],fun x => f51 k x.1⟩
noncomputable def E_f51 (k : Nat) : Env := ⟨Try.prog,G0,snil,tcons 4 (l51_4_sig k) (tcons 9 (l51_9_sig k) (tnil)),tnil,unil,k,qnil,false⟩
theorem l51_4_ok (k : Nat) : LoopOK (E_f51 k) ⟨Try.f51.ntmps,[],G0⟩ (nthC 0 (loopsIn (Try.f51.body.getD .skip))) :=
  loop_ok (ls := l51_4_sig k) (by kernel_rfl) (fun _ => by kernel_rfl) (fun j x => by kernel_rfl)
theorem l51_9_ok (k : Nat) : LoopOK (E_f51 k) ⟨Try.f51.ntmps,[],G0⟩ (nthC 1 (loopsIn (Try.f51.body.getD .skip))) :=
  loop_ok (ls := l51_9_sig k) (by kernel_rfl) (fun _ => by kernel_rfl) (fun j x => by kernel_rfl)
theorem f51_run (k : Nat) (x : (lTy (lay 0 (f51_sig k).ins)).den) : runF (E_f51 k) Try.f51 (f51_sig k) x = (f51_sig k).F x := by kernel_rfl
theorem f51_ok [Dr] (k : Nat) : FnOK Try.prog G0 51 (f51_sig k) :=
  fn_ok2 (E := E_f51 k) (env_nil) (qenv_nil) mixed Try.func51 Try.call51 (by kernel_rfl) (by kernel_rfl) (m := 2) (by kernel_rfl) ⟨⟨trivial,l51_4_ok k⟩,l51_9_ok k⟩ (sk := []) (by kernel_rfl) trivial (f51_run k)
noncomputable def l28_6 (k : Nat) : Nat → (ByteArray×Int×Int×(List (Int×Int×Int×(List (Int×Int×Int×Int×Unit))×Unit))×(List Int)×Bool×Bool×(List (Int×Int×Int×Bool×Unit))×Int×Int×Int×Unit) → ((List Int)×((List Int)×(List Int)×Unit)×Int×Int×Unit) → (List (Int×Int×Int×Unit)) → Int → Int → (List Int) → Int → Int → Int → Int → Option (((ByteArray×Int×Int×(List (Int×Int×Int×(List (Int×Int×Int×Int×Unit))×Unit))×(List Int)×Bool×Bool×(List (Int×Int×Int×Bool×Unit))×Int×Int×Int×Unit)×((List Int)×((List Int)×(List Int)×Unit)×Int×Int×Unit)×(List (Int×Int×Int×Unit))×(List Int)×Int×Int×Unit))
 | 0,_,_,_,_,_,_,_,_,_,_ => none
 | j + 1,s2,s3,s5,s6,s7,s17,s18,s19,s26,s27 =>
  bif decide (s27 < s26) then
  bif decide (s7 > 0) then
  (f46 k s2 s3 s27).bind fun r1 =>
  bif r1.1 then
  bif decide ((s5.length + ([((-1),s27,s6,())] : List (Int×Int×Int×Unit)).length) * 24 ≤ roomN) then
  l28_6 k j s2 s3 (s5 ++ [((-1),s27,s6,())]) s6 s7 s17 s18 s19 s26 (w64 (s27 + 1))
  else
  none
  else
  l28_6 k j s2 s3 s5 s6 s7 s17 s18 s19 s26 (w64 (s27 + 1))
  else
  l28_6 k j s2 s3 s5 s6 s7 s17 s18 s19 s26 (w64 (s27 + 1))
  else
  some (s2,s3,s5,s17,s18,s19,())
noncomputable def l28_6_sig (k : Nat) : LoopSig := ⟨[(2,.obj ck40),(3,.obj ck30),(5,.obj ck12),(6,.obj ck1),(7,.obj ck1),(17,.obj ck4),(18,.obj ck1),(19,.obj ck1),(26,.obj ck1),(27,.obj ck1)],[(.exit 2,[(2,.obj ck40),(3,.obj ck30),(5,.obj ck12),(17,.obj ck4),(18,.obj ck1),(19,.obj ck1)])],fun j x => l28_6 k j x.1 x.2.1 x.2.2.1 x.2.2.2.1 x.2.2.2.2.1 x.2.2.2.2.2.1 x.2.2.2.2.2.2.1 x.2.2.2.2.2.2.2.1 x.2.2.2.2.2.2.2.2.1 x.2.2.2.2.2.2.2.2.2.1⟩
noncomputable def l28_3 (k : Nat) : Nat → (ByteArray×Int×Int×(List (Int×Int×Int×(List (Int×Int×Int×Int×Unit))×Unit))×(List Int)×Bool×Bool×(List (Int×Int×Int×Bool×Unit))×Int×Int×Int×Unit) → ((List Int)×((List Int)×(List Int)×Unit)×Int×Int×Unit) → (List (Int×Int×Int×Unit)) → (List Int) → Int → Int → Option (((ByteArray×Int×Int×(List (Int×Int×Int×(List (Int×Int×Int×Int×Unit))×Unit))×(List Int)×Bool×Bool×(List (Int×Int×Int×Bool×Unit))×Int×Int×Int×Unit)×((List Int)×((List Int)×(List Int)×Unit)×Int×Int×Unit)×(List (Int×Int×Int×Unit))×Unit))
 | 0,_,_,_,_,_,_ => none
 | j + 1,s2,s3,s5,s17,s18,s19 =>
  bif decide (s19 < s18) then
  bif decide (0 ≤ s19) && decide (s19 < (s17.length : Int)) then
  (l28_6 k k s2 s3 s5 s19 (rd (0 : Int) s17 s19) s17 s18 s19 (s3.1.length : Int) 0).bind fun o1 =>
  l28_3 k j o1.1 o1.2.1 o1.2.2.1 o1.2.2.2.1 o1.2.2.2.2.1 (w64 (o1.2.2.2.2.2.1 + 1))
  else
  none
  else
  some (s2,s3,s5,())
noncomputable def l28_3_sig (k : Nat) : LoopSig := ⟨[(2,.obj ck40),(3,.obj ck30),(5,.obj ck12),(17,.obj ck4),(18,.obj ck1),(19,.obj ck1)],[(.exit 0,[(2,.obj ck40),(3,.obj ck30),(5,.obj ck12)])],fun j x => l28_3 k j x.1 x.2.1 x.2.2.1 x.2.2.2.1 x.2.2.2.2.1 x.2.2.2.2.2.1⟩
noncomputable def l28_17 (k : Nat) : Nat → (ByteArray×Int×Int×(List (Int×Int×Int×(List (Int×Int×Int×Int×Unit))×Unit))×(List Int)×Bool×Bool×(List (Int×Int×Int×Bool×Unit))×Int×Int×Int×Unit) → ((List Int)×((List Int)×(List Int)×Unit)×Int×Int×Unit) → (List (Int×Int×Int×Unit)) → Int → (List Int) → Int → Int → (List (Int×Int×Int×Int×Unit)) → Int → Int → Option (((ByteArray×Int×Int×(List (Int×Int×Int×(List (Int×Int×Int×Int×Unit))×Unit))×(List Int)×Bool×Bool×(List (Int×Int×Int×Bool×Unit))×Int×Int×Int×Unit)×((List Int)×((List Int)×(List Int)×Unit)×Int×Int×Unit)×(List (Int×Int×Int×Unit))×(List Int)×Int×Int×Unit))
 | 0,_,_,_,_,_,_,_,_,_,_ => none
 | j + 1,s2,s3,s5,s9,s47,s48,s49,s65,s66,s67 =>
  bif decide (s67 < s66) then
  bif decide (0 ≤ s67) && decide (s67 < (s65.length : Int)) then
  (f48 k s5 s2 s3 s9 (rd ((0,0,0,0,()) : Int×Int×Int×Int×Unit) s65 s67)).bind fun r1 =>
  l28_17 k j s2 s3 r1.1 s9 s47 s48 s49 s65 s66 (w64 (s67 + 1))
  else
  none
  else
  some (s2,s3,s5,s47,s48,s49,())
noncomputable def l28_17_sig (k : Nat) : LoopSig := ⟨[(2,.obj ck40),(3,.obj ck30),(5,.obj ck12),(9,.obj ck1),(47,.obj ck4),(48,.obj ck1),(49,.obj ck1),(65,.obj (.val (.sl ty15))),(66,.obj ck1),(67,.obj ck1)],[(.exit 6,[(2,.obj ck40),(3,.obj ck30),(5,.obj ck12),(47,.obj ck4),(48,.obj ck1),(49,.obj ck1)])],fun j x => l28_17 k j x.1 x.2.1 x.2.2.1 x.2.2.2.1 x.2.2.2.2.1 x.2.2.2.2.2.1 x.2.2.2.2.2.2.1 x.2.2.2.2.2.2.2.1 x.2.2.2.2.2.2.2.2.1 x.2.2.2.2.2.2.2.2.2.1⟩
noncomputable def l28_13 (k : Nat) : Nat → (ByteArray×Int×Int×(List (Int×Int×Int×(List (Int×Int×Int×Int×Unit))×Unit))×(List Int)×Bool×Bool×(List (Int×Int×Int×Bool×Unit))×Int×Int×Int×Unit) → ((List Int)×((List Int)×(List Int)×Unit)×Int×Int×Unit) → (List (Int×Int×Int×Unit)) → (List Int) → Int → Int → Option (((List (Int×Int×Int×Unit))×Unit))
 | 0,_,_,_,_,_,_ => none
 | j + 1,s2,s3,s5,s47,s48,s49 =>
  bif decide (s49 < s48) then
  bif decide (0 ≤ s49) && decide (s49 < (s47.length : Int)) then
  (f47 k (rd (0 : Int) s47 s49)).bind fun r1 =>
  bif r1.1 == s3.2.2.1 then
  (f40 k (rd (0 : Int) s47 s49)).bind fun r2 =>
  bif decide (0 ≤ r2.1) && decide (r2.1 < (s2.2.2.2.1.length : Int)) then
  (l28_17 k k s2 s3 s5 s49 s47 s48 s49 (rd ((0,0,0,[],()) : Int×Int×Int×(List (Int×Int×Int×Int×Unit))×Unit) s2.2.2.2.1 r2.1).2.2.2.1 ((rd ((0,0,0,[],()) : Int×Int×Int×(List (Int×Int×Int×Int×Unit))×Unit) s2.2.2.2.1 r2.1).2.2.2.1.length : Int) 0).bind fun o3 =>
  l28_13 k j o3.1 o3.2.1 o3.2.2.1 o3.2.2.2.1 o3.2.2.2.2.1 (w64 (o3.2.2.2.2.2.1 + 1))
  else
  none
  else
  l28_13 k j s2 s3 s5 s47 s48 (w64 (s49 + 1))
  else
  none
  else
  some (s5,())
noncomputable def l28_13_sig (k : Nat) : LoopSig := ⟨[(2,.obj ck40),(3,.obj ck30),(5,.obj ck12),(47,.obj ck4),(48,.obj ck1),(49,.obj ck1)],[(.exit 4,[(5,.obj ck12)])],fun j x => l28_13 k j x.1 x.2.1 x.2.2.1 x.2.2.2.1 x.2.2.2.2.1 x.2.2.2.2.2.1⟩
noncomputable def f28 (k : Nat) (x0 : ByteArray×Int×Int×(List (Int×Int×Int×(List (Int×Int×Int×Int×Unit))×Unit))×(List Int)×Bool×Bool×(List (Int×Int×Int×Bool×Unit))×Int×Int×Int×Unit) (x1 : (List Int)×((List Int)×(List Int)×Unit)×Int×Int×Unit) : Option (((List (Int×Int×Int×Unit))×Unit)) :=
  bif x1.2.2.1 == 0 then
  (l28_3 k k x0 x1 [] x1.2.1.1 (x1.2.1.1.length : Int) 0).bind fun o1 =>
  (l28_13 k k o1.1 o1.2.1 o1.2.2.1 o1.2.1.1 (o1.2.1.1.length : Int) 0).bind fun o2 =>
  (f49 k o2.1).bind fun r3 =>
  (f51 k r3.1).bind fun r4 =>
  some r4
  else
  bif x1.2.2.1 == 1 then
  (l28_3 k k x0 x1 [] x1.2.1.2.1 (x1.2.1.2.1.length : Int) 0).bind fun o5 =>
  (l28_13 k k o5.1 o5.2.1 o5.2.2.1 o5.2.1.1 (o5.2.1.1.length : Int) 0).bind fun o6 =>
  (f49 k o6.1).bind fun r7 =>
  (f51 k r7.1).bind fun r8 =>
  some r8
  else
  none
noncomputable def f28_sig (k : Nat) : Sig := ⟨[.val ty38,.val ty28],[],[[.row ty10]],fun x => f28 k x.1 x.2.1⟩
noncomputable def E_f28 (k : Nat) : Env := ⟨Try.prog,G0,scons 51 [f51_sig k] (scons 49 [f49_sig k] (scons 48 [f48_sig k] (scons 47 [f47_sig k] (scons 46 [f46_sig k] (scons 40 [f40_sig k] (snil)))))),tcons 13 (l28_13_sig k) (tcons 17 (l28_17_sig k) (tcons 3 (l28_3_sig k) (tcons 6 (l28_6_sig k) (tnil)))),tnil,unil,k,qnil,false⟩
theorem l28_3_ok (k : Nat) : LoopOK (E_f28 k) ⟨Try.f28.ntmps,[],G0⟩ (nthC 0 (loopsIn (Try.f28.body.getD .skip))) :=
  loop_ok (ls := l28_3_sig k) (by kernel_rfl) (fun _ => by kernel_rfl) (fun j x => by kernel_rfl)
theorem l28_6_ok (k : Nat) : LoopOK (E_f28 k) ⟨Try.f28.ntmps,[],G0⟩ (nthC 1 (loopsIn (Try.f28.body.getD .skip))) :=
  loop_ok (ls := l28_6_sig k) (by kernel_rfl) (fun _ => by kernel_rfl) (fun j x => by kernel_rfl)
theorem l28_13_ok (k : Nat) : LoopOK (E_f28 k) ⟨Try.f28.ntmps,[],G0⟩ (nthC 2 (loopsIn (Try.f28.body.getD .skip))) :=
  loop_ok (ls := l28_13_sig k) (by kernel_rfl) (fun _ => by kernel_rfl) (fun j x => by kernel_rfl)
theorem l28_17_ok (k : Nat) : LoopOK (E_f28 k) ⟨Try.f28.ntmps,[],G0⟩ (nthC 3 (loopsIn (Try.f28.body.getD .skip))) :=
  loop_ok (ls := l28_17_sig k) (by kernel_rfl) (fun _ => by kernel_rfl) (fun j x => by kernel_rfl)
theorem f28_run (k : Nat) (x : (lTy (lay 0 (f28_sig k).ins)).den) : runF (E_f28 k) Try.f28 (f28_sig k) x = (f28_sig k).F x := by kernel_rfl
theorem f28_ok [Dr] (k : Nat) : FnOK Try.prog G0 28 (f28_sig k) :=
  fn_ok2 (E := E_f28 k) (env_cons (one_sig (f51_ok k)) (env_cons (one_sig (f49_ok k)) (env_cons (one_sig (f48_ok k)) (env_cons (one_sig (f47_ok k)) (env_cons (one_sig (f46_ok k)) (env_cons (one_sig (f40_ok k)) (env_nil))))))) (qenv_nil) mixed Try.func28 Try.call28 (by kernel_rfl) (by kernel_rfl) (m := 4) (by kernel_rfl) ⟨⟨⟨⟨trivial,l28_3_ok k⟩,l28_6_ok k⟩,l28_13_ok k⟩,l28_17_ok k⟩ (sk := []) (by kernel_rfl) trivial (f28_run k)
noncomputable def l57_3 (k : Nat) : Nat → (ByteArray×Int×Int×(List (Int×Int×Int×(List (Int×Int×Int×Int×Unit))×Unit))×(List Int)×Bool×Bool×(List (Int×Int×Int×Bool×Unit))×Int×Int×Int×Unit) → ((List Int)×((List Int)×(List Int)×Unit)×Int×Int×Unit) → Int → (List (Int×Int×Int×Bool×Unit)) → Int → Int → Option (((ByteArray×Int×Int×(List (Int×Int×Int×(List (Int×Int×Int×Int×Unit))×Unit))×(List Int)×Bool×Bool×(List (Int×Int×Int×Bool×Unit))×Int×Int×Int×Unit)×((List Int)×((List Int)×(List Int)×Unit)×Int×Int×Unit)×Int×Unit) ⊕ (Int×Unit))
 | 0,_,_,_,_,_,_ => none
 | j + 1,s2,s3,s5,s12,s13,s14 =>
  bif decide (s14 < s13) then
  bif decide (0 ≤ s14) && decide (s14 < (s12.length : Int)) then
  (f69 k s2 s3 (rd ((0,0,0,false,()) : Int×Int×Int×Bool×Unit) s12 s14)).bind fun r1 =>
  bif r1.1 then
  bif (rd ((0,0,0,false,()) : Int×Int×Int×Bool×Unit) s12 s14).2.2.2.1 then
  (f70 k s3.2.2.1).bind fun r2 =>
  some (.inr r2)
  else
  (f70 k s5).bind fun r3 =>
  some (.inr r3)
  else
  l57_3 k j s2 s3 s5 s12 s13 (w64 (s14 + 1))
  else
  none
  else
  some (.inl (s2,s3,s5,()))
noncomputable def l57_3_sig (k : Nat) : LoopSig := ⟨[(2,.obj ck40),(3,.obj ck30),(5,.obj ck1),(12,.obj (.val (.sl ty14))),(13,.obj ck1),(14,.obj ck1)],[(.exit 0,[(2,.obj ck40),(3,.obj ck30),(5,.obj ck1)]),(.ret,[(4,.obj ck1)])],fun j x => l57_3 k j x.1 x.2.1 x.2.2.1 x.2.2.2.1 x.2.2.2.2.1 x.2.2.2.2.2.1⟩
noncomputable def f57 (k : Nat) (x0 : ByteArray×Int×Int×(List (Int×Int×Int×(List (Int×Int×Int×Int×Unit))×Unit))×(List Int)×Bool×Bool×(List (Int×Int×Int×Bool×Unit))×Int×Int×Int×Unit) (x1 : (List Int)×((List Int)×(List Int)×Unit)×Int×Int×Unit) : Option ((Int×Unit)) :=
  (l57_3 k k x0 x1 (w64 (1 - x1.2.2.1)) x0.2.2.2.2.2.2.2.1 (x0.2.2.2.2.2.2.2.1.length : Int) 0).bind fun q17 =>
  Sum.elim
  (fun y1 =>
  bif decide (y1.1.2.2.2.2.2.2.2.2.2.1 > 0) then
  bif decide (y1.2.1.2.2.2.1 ≥ y1.1.2.2.2.2.2.2.2.2.2.1) then
  some (3,())
  else
  (f28 k y1.1 y1.2.1).bind fun r2 =>
  bif decide ((r2.1.length : Int) > 0) then
  some (0,())
  else
  bif y1.1.2.2.2.2.2.2.2.2.1 == 0 then
  (f70 k y1.2.2.1).bind fun r3 =>
  some r3
  else
  bif y1.1.2.2.2.2.2.2.2.2.1 == 1 then
  (f70 k y1.2.1.2.2.1).bind fun r4 =>
  some r4
  else
  some (3,())
  else
  (f28 k y1.1 y1.2.1).bind fun r5 =>
  bif decide ((r5.1.length : Int) > 0) then
  some (0,())
  else
  bif y1.1.2.2.2.2.2.2.2.2.1 == 0 then
  (f70 k y1.2.2.1).bind fun r6 =>
  some r6
  else
  bif y1.1.2.2.2.2.2.2.2.2.1 == 1 then
  (f70 k y1.2.1.2.2.1).bind fun r7 =>
  some r7
  else
  some (3,()))
  (fun y8 =>
  some y8)
  q17
noncomputable def f57_sig (k : Nat) : Sig := ⟨[.val ty38,.val ty28],[],[[.val (.int .i64)]],fun x => f57 k x.1 x.2.1⟩
noncomputable def E_f57 (k : Nat) : Env := ⟨Try.prog,G0,scons 70 [f70_sig k] (scons 69 [f69_sig k] (scons 28 [f28_sig k] (snil))),tcons 3 (l57_3_sig k) (tnil),tnil,unil,k,qnil,false⟩
theorem l57_3_ok (k : Nat) : LoopOK (E_f57 k) ⟨Try.f57.ntmps,[],G0⟩ (nthC 0 (loopsIn (Try.f57.body.getD .skip))) :=
  loop_ok (ls := l57_3_sig k) (by kernel_rfl) (fun _ => by kernel_rfl) (fun j x => by kernel_rfl)
theorem f57_run (k : Nat) (x : (lTy (lay 0 (f57_sig k).ins)).den) : runF (E_f57 k) Try.f57 (f57_sig k) x = (f57_sig k).F x := by kernel_rfl
theorem f57_ok [Dr] (k : Nat) : FnOK Try.prog G0 57 (f57_sig k) :=
  fn_ok2 (E := E_f57 k) (env_cons (one_sig (f70_ok k)) (env_cons (one_sig (f69_ok k)) (env_cons (one_sig (f28_ok k)) (env_nil)))) (qenv_nil) mixed Try.func57 Try.call57 (by kernel_rfl) (by kernel_rfl) (m := 1) (by kernel_rfl) ⟨trivial,l57_3_ok k⟩ (sk := []) (by kernel_rfl) trivial (f57_run k)
noncomputable def l88_4 (k : Nat) : Nat → (List Int) → (List Int) → Int → Int → Option (Unit ⊕ (Bool×Unit))
 | 0,_,_,_,_ => none
 | j + 1,s0,s1,s12,s13 =>
  bif decide (s13 < s12) then
  bif decide (0 ≤ s13) && decide (s13 < (s0.length : Int)) then
  bif decide (0 ≤ s13) && decide (s13 < (s1.length : Int)) then
  bif (rd (0 : Int) s0 s13) != (rd (0 : Int) s1 s13) then
  some (.inr (false,()))
  else
  l88_4 k j s0 s1 s12 (w64 (s13 + 1))
  else
  none
  else
  none
  else
  some (.inl ())
noncomputable def l88_4_sig (k : Nat) : LoopSig := ⟨[(0,.obj ck4),(1,.obj ck4),(12,.obj ck1),(13,.obj ck1)],[(.exit 0,[]),(.ret,[(4,.obj (.val (.bool)))])],fun j x => l88_4 k j x.1 x.2.1 x.2.2.1 x.2.2.2.1⟩
noncomputable def f88 (k : Nat) (x0 : List Int) (x1 : List Int) : Option ((Bool×Unit)) :=
  bif (x0.length : Int) != (x1.length : Int) then
  some (false,())
  else
  (l88_4 k k x0 x1 (x0.length : Int) 0).bind fun q18 =>
  Sum.elim
  (fun y1 =>
  some (true,()))
  (fun y2 =>
  some y2)
  q18
noncomputable def f88_sig (k : Nat) : Sig := ⟨[.val ty0,.val ty0],[],[[.val (.bool)]],fun x => f88 k x.1 x.2.1⟩
noncomputable def E_f88 (k : Nat) : Env := ⟨Try.prog,G0,snil,tcons 4 (l88_4_sig k) (tnil),tnil,unil,k,qnil,false⟩
theorem l88_4_ok (k : Nat) : LoopOK (E_f88 k) ⟨Try.f88.ntmps,[],G0⟩ (nthC 0 (loopsIn (Try.f88.body.getD .skip))) :=
  loop_ok (ls := l88_4_sig k) (by kernel_rfl) (fun _ => by kernel_rfl) (fun j x => by kernel_rfl)
theorem f88_run (k : Nat) (x : (lTy (lay 0 (f88_sig k).ins)).den) : runF (E_f88 k) Try.f88 (f88_sig k) x = (f88_sig k).F x := by kernel_rfl
theorem f88_ok [Dr] (k : Nat) : FnOK Try.prog G0 88 (f88_sig k) :=
  fn_ok2 (E := E_f88 k) (env_nil) (qenv_nil) mixed Try.func88 Try.call88 (by kernel_rfl) (by kernel_rfl) (m := 1) (by kernel_rfl) ⟨trivial,l88_4_ok k⟩ (sk := []) (by kernel_rfl) trivial (f88_run k)
noncomputable def f71 (k : Nat) (x0 : (List Int)×((List Int)×(List Int)×Unit)×Int×Int×Unit) (x1 : (List Int)×((List Int)×(List Int)×Unit)×Int×Int×Unit) : Option ((Bool×Unit)) :=
  bif x0.2.2.1 == x1.2.2.1 then
  (f88 k x0.1 x1.1).bind fun r1 =>
  bif r1.1 then
  (f88 k x0.2.1.1 x1.2.1.1).bind fun r2 =>
  bif r2.1 then
  (f88 k x0.2.1.2.1 x1.2.1.2.1).bind fun r3 =>
  some r3
  else
  some (false,())
  else
  some (false,())
  else
  some (false,())
noncomputable def f71_sig (k : Nat) : Sig := ⟨[.val ty28,.val ty28],[],[[.val (.bool)]],fun x => f71 k x.1 x.2.1⟩
noncomputable def E_f71 (k : Nat) : Env := ⟨Try.prog,G0,scons 88 [f88_sig k] (snil),tnil,tnil,unil,k,qnil,false⟩
theorem f71_run (k : Nat) (x : (lTy (lay 0 (f71_sig k).ins)).den) : runF (E_f71 k) Try.f71 (f71_sig k) x = (f71_sig k).F x := by kernel_rfl
theorem f71_ok [Dr] (k : Nat) : FnOK Try.prog G0 71 (f71_sig k) :=
  fn_ok2 (E := E_f71 k) (env_cons (one_sig (f88_ok k)) (env_nil)) (qenv_nil) mixed Try.func71 Try.call71 (by kernel_rfl) (by kernel_rfl) (m := 0) (by kernel_rfl) trivial (sk := []) (by kernel_rfl) trivial (f71_run k)
noncomputable def l58_3 (k : Nat) : Nat → ((ByteArray×Int×Int×(List (Int×Int×Int×(List (Int×Int×Int×Int×Unit))×Unit))×(List Int)×Bool×Bool×(List (Int×Int×Int×Bool×Unit))×Int×Int×Int×Unit)×(List ((List Int)×((List Int)×(List Int)×Unit)×Int×Int×Unit))×(List (Int×Int×Int×Unit))×Unit) → Int → (List ((List Int)×((List Int)×(List Int)×Unit)×Int×Int×Unit)) → Int → Int → Option ((Int×Unit))
 | 0,_,_,_,_,_ => none
 | j + 1,s0,s3,s9,s10,s11 =>
  bif decide (s11 < s10) then
  bif decide (0 ≤ s11) && decide (s11 < (s9.length : Int)) then
  (f56 k s0).bind fun r1 =>
  (f71 k (rd (([],([],[],()),0,0,()) : (List Int)×((List Int)×(List Int)×Unit)×Int×Int×Unit) s9 s11) r1.1).bind fun r2 =>
  bif r2.1 then
  l58_3 k j s0 (w64 (s3 + 1)) s9 s10 (w64 (s11 + 1))
  else
  l58_3 k j s0 s3 s9 s10 (w64 (s11 + 1))
  else
  none
  else
  some (s3,())
noncomputable def l58_3_sig (k : Nat) : LoopSig := ⟨[(0,.obj (.view ty44)),(3,.obj ck1),(9,.obj (.val (.sl ty28))),(10,.obj ck1),(11,.obj ck1)],[(.exit 0,[(3,.obj ck1)])],fun j x => l58_3 k j x.1 x.2.1 x.2.2.1 x.2.2.2.1 x.2.2.2.2.1⟩
noncomputable def f58 (k : Nat) (x0 : (ByteArray×Int×Int×(List (Int×Int×Int×(List (Int×Int×Int×Int×Unit))×Unit))×(List Int)×Bool×Bool×(List (Int×Int×Int×Bool×Unit))×Int×Int×Int×Unit)×(List ((List Int)×((List Int)×(List Int)×Unit)×Int×Int×Unit))×(List (Int×Int×Int×Unit))×Unit) : Option ((Int×Unit)) :=
  (l58_3 k k x0 0 x0.2.1 (x0.2.1.length : Int) 0).bind fun o1 =>
  some o1
noncomputable def f58_sig (k : Nat) : Sig := ⟨[.view ty44],[],[[.val (.int .i64)]],fun x => f58 k x.1⟩
noncomputable def E_f58 (k : Nat) : Env := ⟨Try.prog,G0,scons 71 [f71_sig k] (scons 56 [f56_sig k] (snil)),tcons 3 (l58_3_sig k) (tnil),tnil,unil,k,qnil,false⟩
theorem l58_3_ok (k : Nat) : LoopOK (E_f58 k) ⟨Try.f58.ntmps,[],G0⟩ (nthC 0 (loopsIn (Try.f58.body.getD .skip))) :=
  loop_ok (ls := l58_3_sig k) (by kernel_rfl) (fun _ => by kernel_rfl) (fun j x => by kernel_rfl)
theorem f58_run (k : Nat) (x : (lTy (lay 0 (f58_sig k).ins)).den) : runF (E_f58 k) Try.f58 (f58_sig k) x = (f58_sig k).F x := by kernel_rfl
theorem f58_ok [Dr] (k : Nat) : FnOK Try.prog G0 58 (f58_sig k) :=
  fn_ok2 (E := E_f58 k) (env_cons (one_sig (f71_ok k)) (env_cons (one_sig (f56_ok k)) (env_nil))) (qenv_nil) mixed Try.func58 Try.call58 (by kernel_rfl) (by kernel_rfl) (m := 1) (by kernel_rfl) ⟨trivial,l58_3_ok k⟩ (sk := []) (by kernel_rfl) trivial (f58_run k)
noncomputable def f58_q (k : Nat) : QFun := mkV [.view (.pair (.pair (.str) (.pair (.int .i64) (.pair (.int .i64) (.pair (.sl (.pair (.int .u8) (.pair (.int .i64) (.pair (.int .i64) (.pair (.sl (.pair (.int .i64) (.pair (.int .i64) (.pair (.int .i64) (.pair (.int .i64) (.unit)))))) (.unit)))))) (.pair (.sl (.int .i64)) (.pair (.bool) (.pair (.bool) (.pair (.sl (.pair (.int .i64) (.pair (.int .i64) (.pair (.int .i64) (.pair (.bool) (.unit)))))) (.pair (.int .i64) (.pair (.int .i64) (.pair (.int .i64) (.unit)))))))))))) (.pair (.sl (.pair (.sl (.int .i64)) (.pair (.pair (.sl (.int .i64)) (.pair (.sl (.int .i64)) (.unit))) (.pair (.int .i64) (.pair (.int .i64) (.unit)))))) (.pair (.sl (.pair (.int .i64) (.pair (.int .i64) (.pair (.int .i64) (.unit))))) (.unit))))] [.val (.int .i64)] (fun x => f58 k x.1)
theorem f58_qok [Dr] (k : Nat) : QOK Try.prog G0 58 (f58_q k) := v_ok (f58_ok k)
noncomputable def f33 (k : Nat) (x0 : (ByteArray×Int×Int×(List (Int×Int×Int×(List (Int×Int×Int×Int×Unit))×Unit))×(List Int)×Bool×Bool×(List (Int×Int×Int×Bool×Unit))×Int×Int×Int×Unit)×(List ((List Int)×((List Int)×(List Int)×Unit)×Int×Int×Unit))×(List (Int×Int×Int×Unit))×Unit) : Option ((Int×Unit)) :=
  (f56 k x0).bind fun r1 =>
  (f57 k x0.1 r1.1).bind fun r2 =>
  bif r2.1 == 0 then
  bif decide (x0.1.2.2.2.2.2.2.2.2.2.2.1 > 0) then
  (f58 k x0).bind fun r3 =>
  bif decide (r3.1 ≥ x0.1.2.2.2.2.2.2.2.2.2.2.1) then
  some (3,())
  else
  some r2
  else
  some r2
  else
  some r2
noncomputable def f33_sig (k : Nat) : Sig := ⟨[.view ty44],[],[[.val (.int .i64)]],fun x => f33 k x.1⟩
noncomputable def E_f33 (k : Nat) : Env := ⟨Try.prog,G0,scons 57 [f57_sig k] (scons 56 [f56_sig k] (snil)),tnil,tnil,unil,k,qcons 58 (f58_q k) (qnil),false⟩
theorem f33_run (k : Nat) (x : (lTy (lay 0 (f33_sig k).ins)).den) : runF (E_f33 k) Try.f33 (f33_sig k) x = (f33_sig k).F x := by kernel_rfl
theorem f33_ok [Dr] (k : Nat) : FnOK Try.prog G0 33 (f33_sig k) :=
  fn_ok2 (E := E_f33 k) (env_cons (one_sig (f57_ok k)) (env_cons (one_sig (f56_ok k)) (env_nil))) (qenv_cons (f58_qok k) (qenv_nil)) mixed Try.func33 Try.call33 (by kernel_rfl) (by kernel_rfl) (m := 0) (by kernel_rfl) trivial (sk := []) (by kernel_rfl) trivial (f33_run k)
noncomputable def f33_q (k : Nat) : QFun := mkV [.view (.pair (.pair (.str) (.pair (.int .i64) (.pair (.int .i64) (.pair (.sl (.pair (.int .u8) (.pair (.int .i64) (.pair (.int .i64) (.pair (.sl (.pair (.int .i64) (.pair (.int .i64) (.pair (.int .i64) (.pair (.int .i64) (.unit)))))) (.unit)))))) (.pair (.sl (.int .i64)) (.pair (.bool) (.pair (.bool) (.pair (.sl (.pair (.int .i64) (.pair (.int .i64) (.pair (.int .i64) (.pair (.bool) (.unit)))))) (.pair (.int .i64) (.pair (.int .i64) (.pair (.int .i64) (.unit)))))))))))) (.pair (.sl (.pair (.sl (.int .i64)) (.pair (.pair (.sl (.int .i64)) (.pair (.sl (.int .i64)) (.unit))) (.pair (.int .i64) (.pair (.int .i64) (.unit)))))) (.pair (.sl (.pair (.int .i64) (.pair (.int .i64) (.pair (.int .i64) (.unit))))) (.unit))))] [.val (.int .i64)] (fun x => f33 k x.1)
theorem f33_qok [Dr] (k : Nat) : QOK Try.prog G0 33 (f33_q k) := v_ok (f33_ok k)
noncomputable def l45_7 (k : Nat) : Nat → (ByteArray×Int×Int×(List (Int×Int×Int×(List (Int×Int×Int×Int×Unit))×Unit))×(List Int)×Bool×Bool×(List (Int×Int×Int×Bool×Unit))×Int×Int×Int×Unit) → ((List Int)×((List Int)×(List Int)×Unit)×Int×Int×Unit) → (List Int) → Int → Int → Option ((((List Int)×((List Int)×(List Int)×Unit)×Int×Int×Unit)×Unit) ⊕ (Int×Unit))
 | 0,_,_,_,_,_ => none
 | j + 1,s2,s3,s47,s48,s49 =>
  bif decide (s49 < s48) then
  bif decide (0 ≤ s49) && decide (s49 < (s47.length : Int)) then
  bif decide ((rd (0 : Int) s47 s49) < 0) then
  some (.inr (4,()))
  else
  bif decide ((rd (0 : Int) s47 s49) > (w64 (2 * (s2.2.2.2.1.length : Int)))) then
  some (.inr (4,()))
  else
  l45_7 k j s2 s3 s47 s48 (w64 (s49 + 1))
  else
  none
  else
  some (.inl (s3,()))
noncomputable def l45_7_sig (k : Nat) : LoopSig := ⟨[(2,.obj ck40),(3,.obj ck30),(47,.obj ck4),(48,.obj ck1),(49,.obj ck1)],[(.exit 0,[(3,.obj ck30)]),(.ret,[(4,.obj ck1)])],fun j x => l45_7 k j x.1 x.2.1 x.2.2.1 x.2.2.2.1 x.2.2.2.2.1⟩
noncomputable def l45_16 (k : Nat) : Nat → ((List Int)×((List Int)×(List Int)×Unit)×Int×Int×Unit) → ((List Int)×(List Int)×Unit) → Int → (List Int) → Int → Int → Option ((((List Int)×((List Int)×(List Int)×Unit)×Int×Int×Unit)×((List Int)×(List Int)×Unit)×Int×Unit) ⊕ (Int×Unit))
 | 0,_,_,_,_,_,_ => none
 | j + 1,s3,s65,s66,s69,s70,s71 =>
  bif decide (s71 < s70) then
  bif decide (0 ≤ s71) && decide (s71 < (s69.length : Int)) then
  bif decide ((rd (0 : Int) s69 s71) < 0) then
  some (.inr (4,()))
  else
  bif decide ((rd (0 : Int) s69 s71) > 1000) then
  some (.inr (4,()))
  else
  l45_16 k j s3 s65 s66 s69 s70 (w64 (s71 + 1))
  else
  none
  else
  some (.inl (s3,s65,s66,()))
noncomputable def l45_16_sig (k : Nat) : LoopSig := ⟨[(3,.obj ck30),(65,.obj ck9),(66,.obj ck1),(69,.obj ck4),(70,.obj ck1),(71,.obj ck1)],[(.exit 4,[(3,.obj ck30),(65,.obj ck9),(66,.obj ck1)]),(.ret,[(4,.obj ck1)])],fun j x => l45_16 k j x.1 x.2.1 x.2.2.1 x.2.2.2.1 x.2.2.2.2.1 x.2.2.2.2.2.1⟩
noncomputable def l45_13 (k : Nat) : Nat → ((List Int)×((List Int)×(List Int)×Unit)×Int×Int×Unit) → ((List Int)×(List Int)×Unit) → Int → Option ((((List Int)×((List Int)×(List Int)×Unit)×Int×Int×Unit)×Unit) ⊕ (Int×Unit))
 | 0,_,_,_ => none
 | j + 1,s3,s65,s66 =>
  bif decide (s66 < 2) then
  bif s66 == 0 then
  (l45_16 k k s3 s65 s66 s65.1 (s65.1.length : Int) 0).bind fun q19 =>
  Sum.elim
  (fun y1 =>
  l45_13 k j y1.1 y1.2.1 (w64 (y1.2.2.1 + 1)))
  (fun y2 =>
  some (.inr y2))
  q19
  else
  bif s66 == 1 then
  (l45_16 k k s3 s65 s66 s65.2.1 (s65.2.1.length : Int) 0).bind fun q20 =>
  Sum.elim
  (fun y3 =>
  l45_13 k j y3.1 y3.2.1 (w64 (y3.2.2.1 + 1)))
  (fun y4 =>
  some (.inr y4))
  q20
  else
  none
  else
  some (.inl (s3,()))
noncomputable def l45_13_sig (k : Nat) : LoopSig := ⟨[(3,.obj ck30),(65,.obj ck9),(66,.obj ck1)],[(.exit 2,[(3,.obj ck30)]),(.ret,[(4,.obj ck1)])],fun j x => l45_13 k j x.1 x.2.1 x.2.2.1⟩
noncomputable def f45 (k : Nat) (x0 : ByteArray×Int×Int×(List (Int×Int×Int×(List (Int×Int×Int×Int×Unit))×Unit))×(List Int)×Bool×Bool×(List (Int×Int×Int×Bool×Unit))×Int×Int×Int×Unit) (x1 : (List Int)×((List Int)×(List Int)×Unit)×Int×Int×Unit) : Option ((Int×Unit)) :=
  (f64 k x0).bind fun r1 =>
  bif r1.1 != 0 then
  some r1
  else
  bif (x1.1.length : Int) != (w64 (x0.2.1 * x0.2.2.1)) then
  some (3,())
  else
  bif (x1.2.1.1.length : Int) != (x0.2.2.2.1.length : Int) then
  some (3,())
  else
  bif (x1.2.1.2.1.length : Int) != (x0.2.2.2.1.length : Int) then
  some (3,())
  else
  (l45_7 k k x0 x1 x1.1 (x1.1.length : Int) 0).bind fun q21 =>
  Sum.elim
  (fun y2 =>
  (l45_13 k k y2.1 y2.1.2.1 0).bind fun q22 =>
  Sum.elim
  (fun y3 =>
  bif y3.1.2.2.1 != 0 then
  bif y3.1.2.2.1 != 1 then
  some (4,())
  else
  bif decide (y3.1.2.2.2.1 < 0) then
  some (4,())
  else
  bif decide (y3.1.2.2.2.1 > 200) then
  some (4,())
  else
  some (0,())
  else
  bif decide (y3.1.2.2.2.1 < 0) then
  some (4,())
  else
  bif decide (y3.1.2.2.2.1 > 200) then
  some (4,())
  else
  some (0,()))
  (fun y4 =>
  some y4)
  q22)
  (fun y5 =>
  some y5)
  q21
noncomputable def f45_sig (k : Nat) : Sig := ⟨[.val ty38,.val ty28],[],[[.val (.int .i64)]],fun x => f45 k x.1 x.2.1⟩
noncomputable def E_f45 (k : Nat) : Env := ⟨Try.prog,G0,scons 64 [f64_sig k] (snil),tcons 13 (l45_13_sig k) (tcons 16 (l45_16_sig k) (tcons 7 (l45_7_sig k) (tnil))),tnil,unil,k,qnil,false⟩
theorem l45_7_ok (k : Nat) : LoopOK (E_f45 k) ⟨Try.f45.ntmps,[],G0⟩ (nthC 0 (loopsIn (Try.f45.body.getD .skip))) :=
  loop_ok (ls := l45_7_sig k) (by kernel_rfl) (fun _ => by kernel_rfl) (fun j x => by kernel_rfl)
theorem l45_13_ok (k : Nat) : LoopOK (E_f45 k) ⟨Try.f45.ntmps,[],G0⟩ (nthC 1 (loopsIn (Try.f45.body.getD .skip))) :=
  loop_ok (ls := l45_13_sig k) (by kernel_rfl) (fun _ => by kernel_rfl) (fun j x => by kernel_rfl)
theorem l45_16_ok (k : Nat) : LoopOK (E_f45 k) ⟨Try.f45.ntmps,[],G0⟩ (nthC 2 (loopsIn (Try.f45.body.getD .skip))) :=
  loop_ok (ls := l45_16_sig k) (by kernel_rfl) (fun _ => by kernel_rfl) (fun j x => by kernel_rfl)
theorem f45_run (k : Nat) (x : (lTy (lay 0 (f45_sig k).ins)).den) : runF (E_f45 k) Try.f45 (f45_sig k) x = (f45_sig k).F x := by kernel_rfl
theorem f45_ok [Dr] (k : Nat) : FnOK Try.prog G0 45 (f45_sig k) :=
  fn_ok2 (E := E_f45 k) (env_cons (one_sig (f64_ok k)) (env_nil)) (qenv_nil) mixed Try.func45 Try.call45 (by kernel_rfl) (by kernel_rfl) (m := 3) (by kernel_rfl) ⟨⟨⟨trivial,l45_7_ok k⟩,l45_13_ok k⟩,l45_16_ok k⟩ (sk := []) (by kernel_rfl) trivial (f45_run k)
noncomputable def l52_2 (k : Nat) : Nat → (List (Int×Int×Int×Unit)) → (Int×Int×Int×Unit) → Int → Int → Option (Unit ⊕ (Int×Unit))
 | 0,_,_,_,_ => none
 | j + 1,s0,s3,s7,s8 =>
  bif decide (s8 < s7) then
  bif decide (0 ≤ s8) && decide (s8 < (s0.length : Int)) then
  bif (s3.1 == (rd ((0,0,0,()) : Int×Int×Int×Unit) s0 s8).1) && ((s3.2.1 == (rd ((0,0,0,()) : Int×Int×Int×Unit) s0 s8).2.1) && ((s3.2.2.1 == (rd ((0,0,0,()) : Int×Int×Int×Unit) s0 s8).2.2.1) && true)) then
  some (.inr (s8,()))
  else
  l52_2 k j s0 s3 s7 (w64 (s8 + 1))
  else
  none
  else
  some (.inl ())
noncomputable def l52_2_sig (k : Nat) : LoopSig := ⟨[(0,.obj (.val (.sl ty10))),(3,.obj (.box 47 (.val ty10))),(7,.obj ck1),(8,.obj ck1)],[(.exit 0,[]),(.ret,[(4,.obj ck1)])],fun j x => l52_2 k j x.1 x.2.1 x.2.2.1 x.2.2.2.1⟩
noncomputable def f52 (k : Nat) (x0 : List (Int×Int×Int×Unit)) (x1 : Int×Int×Int×Unit) : Option ((Int×Unit)) :=
  (l52_2 k k x0 x1 (x0.length : Int) 0).bind fun q23 =>
  Sum.elim
  (fun y1 =>
  some ((-1),()))
  (fun y2 =>
  some y2)
  q23
noncomputable def f52_sig (k : Nat) : Sig := ⟨[.val (.sl ty10),.val ty10],[],[[.val (.int .i64)]],fun x => f52 k x.1 x.2.1⟩
noncomputable def E_f52 (k : Nat) : Env := ⟨Try.prog,G0,snil,tcons 2 (l52_2_sig k) (tnil),tnil,unil,k,qnil,false⟩
theorem l52_2_ok (k : Nat) : LoopOK (E_f52 k) ⟨Try.f52.ntmps,[],G0⟩ (nthC 0 (loopsIn (Try.f52.body.getD .skip))) :=
  loop_ok (ls := l52_2_sig k) (by kernel_rfl) (fun _ => by kernel_rfl) (fun j x => by kernel_rfl)
theorem f52_run (k : Nat) (x : (lTy (lay 0 (f52_sig k).ins)).den) : runF (E_f52 k) Try.f52 (f52_sig k) x = (f52_sig k).F x := by kernel_rfl
theorem f52_ok [Dr] (k : Nat) : FnOK Try.prog G0 52 (f52_sig k) :=
  fn_ok2 (E := E_f52 k) (env_nil) (qenv_nil) mixed Try.func52 Try.call52 (by kernel_rfl) (by kernel_rfl) (m := 1) (by kernel_rfl) ⟨trivial,l52_2_ok k⟩ (sk := []) (by kernel_rfl) trivial (f52_run k)
noncomputable def f29 (k : Nat) (x0 : List (Int×Int×Int×Unit)) (x1 : Int×Int×Int×Unit) : Option ((Bool×Unit)) :=
  (f52 k x0 x1).bind fun r1 =>
  some (decide (r1.1 ≥ 0),())
noncomputable def f29_sig (k : Nat) : Sig := ⟨[.val (.sl ty10),.val ty10],[],[[.val (.bool)]],fun x => f29 k x.1 x.2.1⟩
noncomputable def E_f29 (k : Nat) : Env := ⟨Try.prog,G0,scons 52 [f52_sig k] (snil),tnil,tnil,unil,k,qnil,false⟩
theorem f29_run (k : Nat) (x : (lTy (lay 0 (f29_sig k).ins)).den) : runF (E_f29 k) Try.f29 (f29_sig k) x = (f29_sig k).F x := by kernel_rfl
theorem f29_ok [Dr] (k : Nat) : FnOK Try.prog G0 29 (f29_sig k) :=
  fn_ok2 (E := E_f29 k) (env_cons (one_sig (f52_ok k)) (env_nil)) (qenv_nil) mixed Try.func29 Try.call29 (by kernel_rfl) (by kernel_rfl) (m := 0) (by kernel_rfl) trivial (sk := []) (by kernel_rfl) trivial (f29_run k)
noncomputable def f68 (k : Nat) (x0 : ByteArray×Int×Int×(List (Int×Int×Int×(List (Int×Int×Int×Int×Unit))×Unit))×(List Int)×Bool×Bool×(List (Int×Int×Int×Bool×Unit))×Int×Int×Int×Unit) (x1 : (List Int)×((List Int)×(List Int)×Unit)×Int×Int×Unit) (x2 : Int×Int×Int×Unit) : Option ((Bool×Int×Unit)) :=
  (f45 k x0 x1).bind fun r1 =>
  bif r1.1 != 0 then
  some (false,r1)
  else
  (f28 k x0 x1).bind fun r2 =>
  (f29 k r2.1 x2).bind fun r3 =>
  some (r3.1,0,())
noncomputable def f68_sig (k : Nat) : Sig := ⟨[.val ty38,.val ty28,.val ty10],[],[[.val (.bool),.val (.int .i64)]],fun x => f68 k x.1 x.2.1 x.2.2.1⟩
noncomputable def E_f68 (k : Nat) : Env := ⟨Try.prog,G0,scons 45 [f45_sig k] (scons 29 [f29_sig k] (scons 28 [f28_sig k] (snil))),tnil,tnil,unil,k,qnil,false⟩
theorem f68_run (k : Nat) (x : (lTy (lay 0 (f68_sig k).ins)).den) : runF (E_f68 k) Try.f68 (f68_sig k) x = (f68_sig k).F x := by kernel_rfl
theorem f68_ok [Dr] (k : Nat) : FnOK Try.prog G0 68 (f68_sig k) :=
  fn_ok2 (E := E_f68 k) (env_cons (one_sig (f45_ok k)) (env_cons (one_sig (f29_ok k)) (env_cons (one_sig (f28_ok k)) (env_nil)))) (qenv_nil) mixed Try.func68 Try.call68 (by kernel_rfl) (by kernel_rfl) (m := 0) (by kernel_rfl) trivial (sk := []) (by kernel_rfl) trivial (f68_run k)
noncomputable def f39 (k : Nat) (x0 : (List Int)×((List Int)×(List Int)×Unit)×Int×Int×Unit) : Option ((((List Int)×((List Int)×(List Int)×Unit)×Int×Int×Unit)×Unit)) :=
  (f34 k x0.1).bind fun r1 =>
  (f34 k x0.2.1.1).bind fun r2 =>
  (f34 k x0.2.1.2.1).bind fun r3 =>
  some ((r1.1,(r2.1,r3),x0.2.2),())
noncomputable def f39_sig (k : Nat) : Sig := ⟨[.val ty28],[],[[.cons ck2 ck24]],fun x => f39 k x.1⟩
noncomputable def E_f39 (k : Nat) : Env := ⟨Try.prog,G0,scons 34 [f34_sig k] (snil),tnil,tnil,ucons 3 3 (unil),k,qnil,false⟩
theorem f39_run (k : Nat) (x : (lTy (lay 0 (f39_sig k).ins)).den) : runF (E_f39 k) Try.f39 (f39_sig k) x = (f39_sig k).F x := by kernel_rfl
theorem f39_ok [Dr] (k : Nat) : FnOK Try.prog G0 39 (f39_sig k) :=
  fn_ok2 (E := E_f39 k) (env_cons (one_sig (f34_ok k)) (env_nil)) (qenv_nil) mixed Try.func39 Try.call39 (by kernel_rfl) (by kernel_rfl) (m := 1) (by kernel_rfl) ⟨trivial,loop_none (by kernel_rfl)⟩ (sk := []) (by kernel_rfl) trivial (f39_run k)
noncomputable def f24 (k : Nat) (x0 : ByteArray×Int×Int×(List (Int×Int×Int×(List (Int×Int×Int×Int×Unit))×Unit))×(List Int)×Bool×Bool×(List (Int×Int×Int×Bool×Unit))×Int×Int×Int×Unit) (x1 : (List Int)×((List Int)×(List Int)×Unit)×Int×Int×Unit) (x2 : Int×Int×Int×Unit) : Option ((((List Int)×((List Int)×(List Int)×Unit)×Int×Int×Unit)×Unit)) :=
  (f39 k x1).bind fun r1 =>
  bif decide (x2.1 < 0) then
  bif x1.2.2.1 == 0 then
  bif decide (0 ≤ x2.2.2.1) && decide (x2.2.2.1 < (r1.1.2.1.1.length : Int)) then
  bif decide (0 ≤ x2.2.2.1) && decide (x2.2.2.1 < (r1.1.2.1.1.length : Int)) then
  bif decide (0 ≤ x2.2.1) && decide (x2.2.1 < (x1.1.length : Int)) then
  bif (rd (0 : Int) x1.1 x2.2.1) != 0 then
  bif x1.2.2.1 == 0 then
  bif x0.2.2.2.2.2.2.1 then
  (f40 k (rd (0 : Int) x1.1 x2.2.1)).bind fun r2 =>
  (f40 k (rd (0 : Int) x1.1 x2.2.1)).bind fun r3 =>
  bif decide (0 ≤ r3.1) && decide (r3.1 < ((r1.1.2.1.1.set x2.2.2.1.toNat (w64 ((rd (0 : Int) r1.1.2.1.1 x2.2.2.1) - 1))).length : Int)) then
  bif decide (0 ≤ r2.1) && decide (r2.1 < ((r1.1.2.1.1.set x2.2.2.1.toNat (w64 ((rd (0 : Int) r1.1.2.1.1 x2.2.2.1) - 1))).length : Int)) then
  (f41 k x2.2.2.1 x1.2.2.1).bind fun r4 =>
  bif decide (0 ≤ x2.2.1) && decide (x2.2.1 < (r1.1.1.length : Int)) then
  some ((r1.1.1.set x2.2.1.toNat r4.1,((r1.1.2.1.1.set x2.2.2.1.toNat (w64 ((rd (0 : Int) r1.1.2.1.1 x2.2.2.1) - 1))).set r2.1.toNat (if 1000 < (w64 ((rd (0 : Int) (r1.1.2.1.1.set x2.2.2.1.toNat (w64 ((rd (0 : Int) r1.1.2.1.1 x2.2.2.1) - 1))) r3.1) + 1)) then 1000 else w64 ((rd (0 : Int) (r1.1.2.1.1.set x2.2.2.1.toNat (w64 ((rd (0 : Int) r1.1.2.1.1 x2.2.2.1) - 1))) r3.1) + 1)),r1.1.2.1.2),w64 (1 - x1.2.2.1),0,()),())
  else
  none
  else
  none
  else
  none
  else
  (f41 k x2.2.2.1 x1.2.2.1).bind fun r5 =>
  bif decide (0 ≤ x2.2.1) && decide (x2.2.1 < (r1.1.1.length : Int)) then
  some ((r1.1.1.set x2.2.1.toNat r5.1,(r1.1.2.1.1.set x2.2.2.1.toNat (w64 ((rd (0 : Int) r1.1.2.1.1 x2.2.2.1) - 1)),r1.1.2.1.2),w64 (1 - x1.2.2.1),0,()),())
  else
  none
  else
  bif x1.2.2.1 == 1 then
  bif x0.2.2.2.2.2.2.1 then
  (f40 k (rd (0 : Int) x1.1 x2.2.1)).bind fun r6 =>
  (f40 k (rd (0 : Int) x1.1 x2.2.1)).bind fun r7 =>
  bif decide (0 ≤ r7.1) && decide (r7.1 < (r1.1.2.1.2.1.length : Int)) then
  bif decide (0 ≤ r6.1) && decide (r6.1 < (r1.1.2.1.2.1.length : Int)) then
  (f41 k x2.2.2.1 x1.2.2.1).bind fun r8 =>
  bif decide (0 ≤ x2.2.1) && decide (x2.2.1 < (r1.1.1.length : Int)) then
  some ((r1.1.1.set x2.2.1.toNat r8.1,(r1.1.2.1.1.set x2.2.2.1.toNat (w64 ((rd (0 : Int) r1.1.2.1.1 x2.2.2.1) - 1)),r1.1.2.1.2.1.set r6.1.toNat (if 1000 < (w64 ((rd (0 : Int) r1.1.2.1.2.1 r7.1) + 1)) then 1000 else w64 ((rd (0 : Int) r1.1.2.1.2.1 r7.1) + 1)),()),w64 (1 - x1.2.2.1),0,()),())
  else
  none
  else
  none
  else
  none
  else
  (f41 k x2.2.2.1 x1.2.2.1).bind fun r9 =>
  bif decide (0 ≤ x2.2.1) && decide (x2.2.1 < (r1.1.1.length : Int)) then
  some ((r1.1.1.set x2.2.1.toNat r9.1,(r1.1.2.1.1.set x2.2.2.1.toNat (w64 ((rd (0 : Int) r1.1.2.1.1 x2.2.2.1) - 1)),r1.1.2.1.2),w64 (1 - x1.2.2.1),0,()),())
  else
  none
  else
  none
  else
  (f41 k x2.2.2.1 x1.2.2.1).bind fun r10 =>
  bif decide (0 ≤ x2.2.1) && decide (x2.2.1 < (r1.1.1.length : Int)) then
  some ((r1.1.1.set x2.2.1.toNat r10.1,(r1.1.2.1.1.set x2.2.2.1.toNat (w64 ((rd (0 : Int) r1.1.2.1.1 x2.2.2.1) - 1)),r1.1.2.1.2),w64 (1 - x1.2.2.1),0,()),())
  else
  none
  else
  none
  else
  none
  else
  none
  else
  bif x1.2.2.1 == 1 then
  bif decide (0 ≤ x2.2.2.1) && decide (x2.2.2.1 < (r1.1.2.1.2.1.length : Int)) then
  bif decide (0 ≤ x2.2.2.1) && decide (x2.2.2.1 < (r1.1.2.1.2.1.length : Int)) then
  bif decide (0 ≤ x2.2.1) && decide (x2.2.1 < (x1.1.length : Int)) then
  bif (rd (0 : Int) x1.1 x2.2.1) != 0 then
  bif x1.2.2.1 == 0 then
  bif x0.2.2.2.2.2.2.1 then
  (f40 k (rd (0 : Int) x1.1 x2.2.1)).bind fun r11 =>
  (f40 k (rd (0 : Int) x1.1 x2.2.1)).bind fun r12 =>
  bif decide (0 ≤ r12.1) && decide (r12.1 < (r1.1.2.1.1.length : Int)) then
  bif decide (0 ≤ r11.1) && decide (r11.1 < (r1.1.2.1.1.length : Int)) then
  (f41 k x2.2.2.1 x1.2.2.1).bind fun r13 =>
  bif decide (0 ≤ x2.2.1) && decide (x2.2.1 < (r1.1.1.length : Int)) then
  some ((r1.1.1.set x2.2.1.toNat r13.1,(r1.1.2.1.1.set r11.1.toNat (if 1000 < (w64 ((rd (0 : Int) r1.1.2.1.1 r12.1) + 1)) then 1000 else w64 ((rd (0 : Int) r1.1.2.1.1 r12.1) + 1)),r1.1.2.1.2.1.set x2.2.2.1.toNat (w64 ((rd (0 : Int) r1.1.2.1.2.1 x2.2.2.1) - 1)),()),w64 (1 - x1.2.2.1),0,()),())
  else
  none
  else
  none
  else
  none
  else
  (f41 k x2.2.2.1 x1.2.2.1).bind fun r14 =>
  bif decide (0 ≤ x2.2.1) && decide (x2.2.1 < (r1.1.1.length : Int)) then
  some ((r1.1.1.set x2.2.1.toNat r14.1,(r1.1.2.1.1,r1.1.2.1.2.1.set x2.2.2.1.toNat (w64 ((rd (0 : Int) r1.1.2.1.2.1 x2.2.2.1) - 1)),()),w64 (1 - x1.2.2.1),0,()),())
  else
  none
  else
  bif x1.2.2.1 == 1 then
  bif x0.2.2.2.2.2.2.1 then
  (f40 k (rd (0 : Int) x1.1 x2.2.1)).bind fun r15 =>
  (f40 k (rd (0 : Int) x1.1 x2.2.1)).bind fun r16 =>
  bif decide (0 ≤ r16.1) && decide (r16.1 < ((r1.1.2.1.2.1.set x2.2.2.1.toNat (w64 ((rd (0 : Int) r1.1.2.1.2.1 x2.2.2.1) - 1))).length : Int)) then
  bif decide (0 ≤ r15.1) && decide (r15.1 < ((r1.1.2.1.2.1.set x2.2.2.1.toNat (w64 ((rd (0 : Int) r1.1.2.1.2.1 x2.2.2.1) - 1))).length : Int)) then
  (f41 k x2.2.2.1 x1.2.2.1).bind fun r17 =>
  bif decide (0 ≤ x2.2.1) && decide (x2.2.1 < (r1.1.1.length : Int)) then
  some ((r1.1.1.set x2.2.1.toNat r17.1,(r1.1.2.1.1,(r1.1.2.1.2.1.set x2.2.2.1.toNat (w64 ((rd (0 : Int) r1.1.2.1.2.1 x2.2.2.1) - 1))).set r15.1.toNat (if 1000 < (w64 ((rd (0 : Int) (r1.1.2.1.2.1.set x2.2.2.1.toNat (w64 ((rd (0 : Int) r1.1.2.1.2.1 x2.2.2.1) - 1))) r16.1) + 1)) then 1000 else w64 ((rd (0 : Int) (r1.1.2.1.2.1.set x2.2.2.1.toNat (w64 ((rd (0 : Int) r1.1.2.1.2.1 x2.2.2.1) - 1))) r16.1) + 1)),()),w64 (1 - x1.2.2.1),0,()),())
  else
  none
  else
  none
  else
  none
  else
  (f41 k x2.2.2.1 x1.2.2.1).bind fun r18 =>
  bif decide (0 ≤ x2.2.1) && decide (x2.2.1 < (r1.1.1.length : Int)) then
  some ((r1.1.1.set x2.2.1.toNat r18.1,(r1.1.2.1.1,r1.1.2.1.2.1.set x2.2.2.1.toNat (w64 ((rd (0 : Int) r1.1.2.1.2.1 x2.2.2.1) - 1)),()),w64 (1 - x1.2.2.1),0,()),())
  else
  none
  else
  none
  else
  (f41 k x2.2.2.1 x1.2.2.1).bind fun r19 =>
  bif decide (0 ≤ x2.2.1) && decide (x2.2.1 < (r1.1.1.length : Int)) then
  some ((r1.1.1.set x2.2.1.toNat r19.1,(r1.1.2.1.1,r1.1.2.1.2.1.set x2.2.2.1.toNat (w64 ((rd (0 : Int) r1.1.2.1.2.1 x2.2.2.1) - 1)),()),w64 (1 - x1.2.2.1),0,()),())
  else
  none
  else
  none
  else
  none
  else
  none
  else
  none
  else
  bif decide (0 ≤ x2.1) && decide (x2.1 < (r1.1.1.length : Int)) then
  bif decide (0 ≤ x2.2.1) && decide (x2.2.1 < (x1.1.length : Int)) then
  bif (rd (0 : Int) x1.1 x2.2.1) != 0 then
  bif x1.2.2.1 == 0 then
  bif x0.2.2.2.2.2.2.1 then
  (f40 k (rd (0 : Int) x1.1 x2.2.1)).bind fun r20 =>
  (f40 k (rd (0 : Int) x1.1 x2.2.1)).bind fun r21 =>
  bif decide (0 ≤ r21.1) && decide (r21.1 < (r1.1.2.1.1.length : Int)) then
  bif decide (0 ≤ r20.1) && decide (r20.1 < (r1.1.2.1.1.length : Int)) then
  (f41 k x2.2.2.1 x1.2.2.1).bind fun r22 =>
  bif decide (0 ≤ x2.2.1) && decide (x2.2.1 < ((r1.1.1.set x2.1.toNat 0).length : Int)) then
  some (((r1.1.1.set x2.1.toNat 0).set x2.2.1.toNat r22.1,(r1.1.2.1.1.set r20.1.toNat (if 1000 < (w64 ((rd (0 : Int) r1.1.2.1.1 r21.1) + 1)) then 1000 else w64 ((rd (0 : Int) r1.1.2.1.1 r21.1) + 1)),r1.1.2.1.2),w64 (1 - x1.2.2.1),0,()),())
  else
  none
  else
  none
  else
  none
  else
  (f41 k x2.2.2.1 x1.2.2.1).bind fun r23 =>
  bif decide (0 ≤ x2.2.1) && decide (x2.2.1 < ((r1.1.1.set x2.1.toNat 0).length : Int)) then
  some (((r1.1.1.set x2.1.toNat 0).set x2.2.1.toNat r23.1,r1.1.2.1,w64 (1 - x1.2.2.1),0,()),())
  else
  none
  else
  bif x1.2.2.1 == 1 then
  bif x0.2.2.2.2.2.2.1 then
  (f40 k (rd (0 : Int) x1.1 x2.2.1)).bind fun r24 =>
  (f40 k (rd (0 : Int) x1.1 x2.2.1)).bind fun r25 =>
  bif decide (0 ≤ r25.1) && decide (r25.1 < (r1.1.2.1.2.1.length : Int)) then
  bif decide (0 ≤ r24.1) && decide (r24.1 < (r1.1.2.1.2.1.length : Int)) then
  (f41 k x2.2.2.1 x1.2.2.1).bind fun r26 =>
  bif decide (0 ≤ x2.2.1) && decide (x2.2.1 < ((r1.1.1.set x2.1.toNat 0).length : Int)) then
  some (((r1.1.1.set x2.1.toNat 0).set x2.2.1.toNat r26.1,(r1.1.2.1.1,r1.1.2.1.2.1.set r24.1.toNat (if 1000 < (w64 ((rd (0 : Int) r1.1.2.1.2.1 r25.1) + 1)) then 1000 else w64 ((rd (0 : Int) r1.1.2.1.2.1 r25.1) + 1)),()),w64 (1 - x1.2.2.1),0,()),())
  else
  none
  else
  none
  else
  none
  else
  (f41 k x2.2.2.1 x1.2.2.1).bind fun r27 =>
  bif decide (0 ≤ x2.2.1) && decide (x2.2.1 < ((r1.1.1.set x2.1.toNat 0).length : Int)) then
  some (((r1.1.1.set x2.1.toNat 0).set x2.2.1.toNat r27.1,r1.1.2.1,w64 (1 - x1.2.2.1),0,()),())
  else
  none
  else
  none
  else
  (f41 k x2.2.2.1 x1.2.2.1).bind fun r28 =>
  bif decide (0 ≤ x2.2.1) && decide (x2.2.1 < ((r1.1.1.set x2.1.toNat 0).length : Int)) then
  some (((r1.1.1.set x2.1.toNat 0).set x2.2.1.toNat r28.1,r1.1.2.1,w64 (1 - x1.2.2.1),if 200 < (w64 (x1.2.2.2.1 + 1)) then 200 else w64 (x1.2.2.2.1 + 1),()),())
  else
  none
  else
  none
  else
  none
noncomputable def f24_sig (k : Nat) : Sig := ⟨[.val ty38,.val ty28,.val ty10],[],[[.cons ck2 ck24]],fun x => f24 k x.1 x.2.1 x.2.2.1⟩
noncomputable def E_f24 (k : Nat) : Env := ⟨Try.prog,G0,scons 41 [f41_sig k] (scons 40 [f40_sig k] (scons 39 [f39_sig k] (snil))),tnil,tnil,unil,k,qnil,false⟩
theorem f24_run (k : Nat) (x : (lTy (lay 0 (f24_sig k).ins)).den) : runF (E_f24 k) Try.f24 (f24_sig k) x = (f24_sig k).F x := by kernel_rfl
theorem f24_ok [Dr] (k : Nat) : FnOK Try.prog G0 24 (f24_sig k) :=
  fn_ok2 (E := E_f24 k) (env_cons (one_sig (f41_ok k)) (env_cons (one_sig (f40_ok k)) (env_cons (one_sig (f39_ok k)) (env_nil)))) (qenv_nil) mixed Try.func24 Try.call24 (by kernel_rfl) (by kernel_rfl) (m := 0) (by kernel_rfl) trivial (sk := []) (by kernel_rfl) trivial (f24_run k)
noncomputable def f55 (k : Nat) (x0 : ByteArray×Int×Int×(List (Int×Int×Int×(List (Int×Int×Int×Int×Unit))×Unit))×(List Int)×Bool×Bool×(List (Int×Int×Int×Bool×Unit))×Int×Int×Int×Unit) (x1 : (List Int)×((List Int)×(List Int)×Unit)×Int×Int×Unit) (x2 : Int×Int×Int×Unit) : Option ((((List Int)×((List Int)×(List Int)×Unit)×Int×Int×Unit)×Int×Unit)) :=
  (f68 k x0 x1 x2).bind fun r1 =>
  bif r1.2.1 != 0 then
  some (([],([],[],()),0,0,()),r1.2)
  else
  bif !r1.1 then
  some (([],([],[],()),0,0,()),13,())
  else
  (f24 k x0 x1 x2).bind fun r2 =>
  some (r2.1,0,())
noncomputable def f55_sig (k : Nat) : Sig := ⟨[.val ty38,.val ty28,.val ty10],[],[[.val ty28,.val (.int .i64)]],fun x => f55 k x.1 x.2.1 x.2.2.1⟩
noncomputable def E_f55 (k : Nat) : Env := ⟨Try.prog,G0,scons 68 [f68_sig k] (scons 24 [f24_sig k] (snil)),tnil,tnil,unil,k,qnil,false⟩
theorem f55_run (k : Nat) (x : (lTy (lay 0 (f55_sig k).ins)).den) : runF (E_f55 k) Try.f55 (f55_sig k) x = (f55_sig k).F x := by kernel_rfl
theorem f55_ok [Dr] (k : Nat) : FnOK Try.prog G0 55 (f55_sig k) :=
  fn_ok2 (E := E_f55 k) (env_cons (one_sig (f68_ok k)) (env_cons (one_sig (f24_ok k)) (env_nil))) (qenv_nil) mixed Try.func55 Try.call55 (by kernel_rfl) (by kernel_rfl) (m := 0) (by kernel_rfl) trivial (sk := []) (by kernel_rfl) trivial (f55_run k)
noncomputable def f31 (k : Nat) (x0 : (ByteArray×Int×Int×(List (Int×Int×Int×(List (Int×Int×Int×Int×Unit))×Unit))×(List Int)×Bool×Bool×(List (Int×Int×Int×Bool×Unit))×Int×Int×Int×Unit)×(List ((List Int)×((List Int)×(List Int)×Unit)×Int×Int×Unit))×(List (Int×Int×Int×Unit))×Unit) (x1 : Int×Int×Int×Unit) : Option ((Int×((ByteArray×Int×Int×(List (Int×Int×Int×(List (Int×Int×Int×Int×Unit))×Unit))×(List Int)×Bool×Bool×(List (Int×Int×Int×Bool×Unit))×Int×Int×Int×Unit)×(List ((List Int)×((List Int)×(List Int)×Unit)×Int×Int×Unit))×(List (Int×Int×Int×Unit))×Unit)×Unit)) :=
  (f33 k x0).bind fun r1 =>
  bif r1.1 != 0 then
  some (14,x0,())
  else
  bif decide (0 ≤ (w64 ((x0.2.1.length : Int) - 1))) && decide ((w64 ((x0.2.1.length : Int) - 1)) < (x0.2.1.length : Int)) then
  (f55 k x0.1 (rd (([],([],[],()),0,0,()) : (List Int)×((List Int)×(List Int)×Unit)×Int×Int×Unit) x0.2.1 (w64 ((x0.2.1.length : Int) - 1))) x1).bind fun r2 =>
  bif r2.2.1 != 0 then
  some (13,x0,())
  else
  bif (x0.2.2.1.length : Int) == 400 then
  some (9,x0,())
  else
  bif decide ((x0.2.1.length + ([r2.1] : List ((List Int)×((List Int)×(List Int)×Unit)×Int×Int×Unit)).length) * 88 ≤ roomN) then
  bif decide ((x0.2.2.1.length + ([x1] : List (Int×Int×Int×Unit)).length) * 24 ≤ roomN) then
  some (0,(x0.1,x0.2.1 ++ [r2.1],x0.2.2.1 ++ [x1],()),())
  else
  none
  else
  none
  else
  none
noncomputable def f31_sig (k : Nat) : Sig := ⟨[.box 106 ck45,.val ty10],[0],[[.val (.int .i64),.box 106 ck45]],fun x => f31 k x.1 x.2.1⟩
noncomputable def E_f31 (k : Nat) : Env := ⟨Try.prog,G0,scons 55 [f55_sig k] (snil),tnil,tnil,unil,k,qcons 33 (f33_q k) (qcons 56 (mkQ Try.prog G0 Try.f56) (qnil)),false⟩
theorem f31_run (k : Nat) (x : (lTy (lay 0 (f31_sig k).ins)).den) : runF (E_f31 k) Try.f31 (f31_sig k) x = (f31_sig k).F x := by kernel_rfl
theorem f31_ok [Dr] (k : Nat) : FnOK Try.prog G0 31 (f31_sig k) :=
  fn_ok2 (E := E_f31 k) (env_cons (one_sig (f55_ok k)) (env_nil)) (qenv_cons (f33_qok k) (qenv_cons (q_ok mixed Try.func56 Try.call56) (qenv_nil))) mixed Try.func31 Try.call31 (by kernel_rfl) (by kernel_rfl) (m := 0) (by kernel_rfl) trivial (sk := []) (by kernel_rfl) trivial (f31_run k)
noncomputable def f32 (k : Nat) (x0 : (ByteArray×Int×Int×(List (Int×Int×Int×(List (Int×Int×Int×Int×Unit))×Unit))×(List Int)×Bool×Bool×(List (Int×Int×Int×Bool×Unit))×Int×Int×Int×Unit)×(List ((List Int)×((List Int)×(List Int)×Unit)×Int×Int×Unit))×(List (Int×Int×Int×Unit))×Unit) : Option ((((List Int)×((List Int)×(List Int)×Unit)×Int×Int×Unit)×Unit)) :=
  (f56 k x0).bind fun r1 =>
  (f39 k r1.1).bind fun r2 =>
  some r2
noncomputable def f32_sig (k : Nat) : Sig := ⟨[.view ty44],[],[[.cons ck2 ck24]],fun x => f32 k x.1⟩
noncomputable def E_f32 (k : Nat) : Env := ⟨Try.prog,G0,scons 56 [f56_sig k] (scons 39 [f39_sig k] (snil)),tnil,tnil,unil,k,qnil,false⟩
theorem f32_run (k : Nat) (x : (lTy (lay 0 (f32_sig k).ins)).den) : runF (E_f32 k) Try.f32 (f32_sig k) x = (f32_sig k).F x := by kernel_rfl
theorem f32_ok [Dr] (k : Nat) : FnOK Try.prog G0 32 (f32_sig k) :=
  fn_ok2 (E := E_f32 k) (env_cons (one_sig (f56_ok k)) (env_cons (one_sig (f39_ok k)) (env_nil))) (qenv_nil) mixed Try.func32 Try.call32 (by kernel_rfl) (by kernel_rfl) (m := 0) (by kernel_rfl) trivial (sk := []) (by kernel_rfl) trivial (f32_run k)
noncomputable def f32_q (k : Nat) : QFun := mkW [.view (.pair (.pair (.str) (.pair (.int .i64) (.pair (.int .i64) (.pair (.sl (.pair (.int .u8) (.pair (.int .i64) (.pair (.int .i64) (.pair (.sl (.pair (.int .i64) (.pair (.int .i64) (.pair (.int .i64) (.pair (.int .i64) (.unit)))))) (.unit)))))) (.pair (.sl (.int .i64)) (.pair (.bool) (.pair (.bool) (.pair (.sl (.pair (.int .i64) (.pair (.int .i64) (.pair (.int .i64) (.pair (.bool) (.unit)))))) (.pair (.int .i64) (.pair (.int .i64) (.pair (.int .i64) (.unit)))))))))))) (.pair (.sl (.pair (.sl (.int .i64)) (.pair (.pair (.sl (.int .i64)) (.pair (.sl (.int .i64)) (.unit))) (.pair (.int .i64) (.pair (.int .i64) (.unit)))))) (.pair (.sl (.pair (.int .i64) (.pair (.int .i64) (.pair (.int .i64) (.unit))))) (.unit))))] (.cons (.row (.int .i64)) (.cons (.cons (.row (.int .i64)) (.cons (.row (.int .i64)) (.nil))) (.cons (.val (.int .i64)) (.cons (.val (.int .i64)) (.nil))))) (fun x => f32 k x.1)
theorem f32_qok [Dr] (k : Nat) : QOK Try.prog G0 32 (f32_q k) := w_ok (f32_ok k)
noncomputable def l19_5 (k : Nat) : Nat → ((List Int)×((List Int)×(List Int)×Unit)×Int×Int×Unit) → ((ByteArray×Int×Int×(List (Int×Int×Int×(List (Int×Int×Int×Int×Unit))×Unit))×(List Int)×Bool×Bool×(List (Int×Int×Int×Bool×Unit))×Int×Int×Int×Unit)×(List ((List Int)×((List Int)×(List Int)×Unit)×Int×Int×Unit))×(List (Int×Int×Int×Unit))×Unit) → (List (Int×Int×Int×Unit)) → Int → Int → Option ((((List Int)×((List Int)×(List Int)×Unit)×Int×Int×Unit)×((ByteArray×Int×Int×(List (Int×Int×Int×(List (Int×Int×Int×Int×Unit))×Unit))×(List Int)×Bool×Bool×(List (Int×Int×Int×Bool×Unit))×Int×Int×Int×Unit)×(List ((List Int)×((List Int)×(List Int)×Unit)×Int×Int×Unit))×(List (Int×Int×Int×Unit))×Unit)×Unit) ⊕ (((List Int)×((List Int)×(List Int)×Unit)×Int×Int×Unit)×Int×Int×Unit))
 | 0,_,_,_,_,_ => none
 | j + 1,s4,s7,s21,s22,s23 =>
  bif decide (s23 < s22) then
  bif decide (0 ≤ s23) && decide (s23 < (s21.length : Int)) then
  (f31 k s7 (rd ((0,0,0,()) : Int×Int×Int×Unit) s21 s23)).bind fun r1 =>
  bif r1.1 != 0 then
  some (.inr (([],([],[],()),0,0,()),0,r1.1,()))
  else
  l19_5 k j s4 r1.2.1 s21 s22 (w64 (s23 + 1))
  else
  none
  else
  some (.inl (s4,s7,()))
noncomputable def l19_5_sig (k : Nat) : LoopSig := ⟨[(4,.obj ck31),(7,.obj (.box 106 ck45)),(21,.obj (.val (.sl ty10))),(22,.obj ck1),(23,.obj ck1)],[(.exit 0,[(4,.obj ck31),(7,.obj (.box 106 ck45))]),(.ret,[(4,.obj ck31),(5,.obj ck1),(6,.obj ck1)])],fun j x => l19_5 k j x.1 x.2.1 x.2.2.1 x.2.2.2.1 x.2.2.2.2.1⟩
noncomputable def f19 (k : Nat) (x0 : ByteArray×Int×Int×(List (Int×Int×Int×(List (Int×Int×Int×Int×Unit))×Unit))×(List Int)×Bool×Bool×(List (Int×Int×Int×Bool×Unit))×Int×Int×Int×Unit) (x1 : List (Int×Int×Int×Unit)) : Option ((((List Int)×((List Int)×(List Int)×Unit)×Int×Int×Unit)×Int×Int×Unit)) :=
  (f30 k x0).bind fun q24 =>
  Sum.elim
  (fun y1 =>
  bif y1.2.1 != 0 then
  some (([],([],[],()),0,0,()),0,y1.2)
  else
  (l19_5 k k ([],([],[],()),0,0,()) y1.1 x1 (x1.length : Int) 0).bind fun q25 =>
  Sum.elim
  (fun y2 =>
  (f32 k y2.2.1).bind fun r3 =>
  (f33 k y2.2.1).bind fun r4 =>
  some (r3.1,r4.1,0,()))
  (fun y5 =>
  some y5)
  q25)
  (fun y6 =>
  bif y6.2.1 != 0 then
  some (([],([],[],()),0,0,()),0,y6.2)
  else
  none)
  q24
noncomputable def f19_sig (k : Nat) : Sig := ⟨[.val ty38,.val (.sl ty10)],[],[[.val ty28,.val (.int .i64),.val (.int .i64)]],fun x => f19 k x.1 x.2.1⟩
noncomputable def E_f19 (k : Nat) : Env := ⟨Try.prog,G0,scons 31 [f31_sig k] (scons 30 [f30_sig k] (snil)),tcons 5 (l19_5_sig k) (tnil),tnil,unil,k,qcons 33 (f33_q k) (qcons 32 (f32_q k) (qnil)),false⟩
theorem l19_5_ok (k : Nat) : LoopOK (E_f19 k) ⟨Try.f19.ntmps,[],G0⟩ (nthC 0 (loopsIn (Try.f19.body.getD .skip))) :=
  loop_ok (ls := l19_5_sig k) (by kernel_rfl) (fun _ => by kernel_rfl) (fun j x => by kernel_rfl)
theorem f19_run (k : Nat) (x : (lTy (lay 0 (f19_sig k).ins)).den) : runF (E_f19 k) Try.f19 (f19_sig k) x = (f19_sig k).F x := by kernel_rfl
theorem f19_ok [Dr] (k : Nat) : FnOK Try.prog G0 19 (f19_sig k) :=
  fn_ok2 (E := E_f19 k) (env_cons (one_sig (f31_ok k)) (env_cons (one_sig (f30_ok k)) (env_nil))) (qenv_cons (f33_qok k) (qenv_cons (f32_qok k) (qenv_nil))) mixed Try.func19 Try.call19 (by kernel_rfl) (by kernel_rfl) (m := 1) (by kernel_rfl) ⟨trivial,l19_5_ok k⟩ (sk := []) (by kernel_rfl) trivial (f19_run k)
noncomputable def f20 (k : Nat) (x0 : List (Int×(Int×Int×Int×Unit)×Int×Unit)) : Option (((List (Int×(Int×Int×Int×Unit)×Int×Unit))×Unit)) :=
  bif nilB x0 then
  both (
  some ([],()))
  (
  bif decide ((([] : List (Int×(Int×Int×Int×Unit)×Int×Unit)).length + x0.length) * 40 ≤ roomN) then
  some ([] ++ x0,())
  else
  none)
  else
  bif decide ((([] : List (Int×(Int×Int×Int×Unit)×Int×Unit)).length + x0.length) * 40 ≤ roomN) then
  some ([] ++ x0,())
  else
  none
noncomputable def f20_sig (k : Nat) : Sig := ⟨[.val ty23],[],[[.row ty22]],fun x => f20 k x.1⟩
noncomputable def E_f20 (k : Nat) : Env := ⟨Try.prog,G0,snil,tnil,tnil,unil,k,qnil,false⟩
theorem f20_run (k : Nat) (x : (lTy (lay 0 (f20_sig k).ins)).den) : runF (E_f20 k) Try.f20 (f20_sig k) x = (f20_sig k).F x := by kernel_rfl
theorem f20_ok [Dr] (k : Nat) : FnOK Try.prog G0 20 (f20_sig k) :=
  fn_ok2 (E := E_f20 k) (env_nil) (qenv_nil) mixed Try.func20 Try.call20 (by kernel_rfl) (by kernel_rfl) (m := 0) (by kernel_rfl) trivial (sk := []) (by kernel_rfl) trivial (f20_run k)
noncomputable def f61 (k : Nat) (x0 : Int) : Option ((Int×Unit)) :=
  some (bitsOp .xor .u64 (IntKind.u64.wrap ((bitsOp .xor .u64 (IntKind.u64.wrap ((bitsOp .xor .u64 (IntKind.u64.wrap ((IntKind.u64.wrap ((IntKind.u64.wrap x0) + 1)) * 11400714819323198485)) ((IntKind.u64.wrap ((IntKind.u64.wrap ((IntKind.u64.wrap x0) + 1)) * 11400714819323198485)).fdiv (2 ^ (min (30 : Int).toNat 64)))) * 13787848793156543929)) ((IntKind.u64.wrap ((bitsOp .xor .u64 (IntKind.u64.wrap ((IntKind.u64.wrap ((IntKind.u64.wrap x0) + 1)) * 11400714819323198485)) ((IntKind.u64.wrap ((IntKind.u64.wrap ((IntKind.u64.wrap x0) + 1)) * 11400714819323198485)).fdiv (2 ^ (min (30 : Int).toNat 64)))) * 13787848793156543929)).fdiv (2 ^ (min (27 : Int).toNat 64)))) * 10723151780598845931)) ((IntKind.u64.wrap ((bitsOp .xor .u64 (IntKind.u64.wrap ((bitsOp .xor .u64 (IntKind.u64.wrap ((IntKind.u64.wrap ((IntKind.u64.wrap x0) + 1)) * 11400714819323198485)) ((IntKind.u64.wrap ((IntKind.u64.wrap ((IntKind.u64.wrap x0) + 1)) * 11400714819323198485)).fdiv (2 ^ (min (30 : Int).toNat 64)))) * 13787848793156543929)) ((IntKind.u64.wrap ((bitsOp .xor .u64 (IntKind.u64.wrap ((IntKind.u64.wrap ((IntKind.u64.wrap x0) + 1)) * 11400714819323198485)) ((IntKind.u64.wrap ((IntKind.u64.wrap ((IntKind.u64.wrap x0) + 1)) * 11400714819323198485)).fdiv (2 ^ (min (30 : Int).toNat 64)))) * 13787848793156543929)).fdiv (2 ^ (min (27 : Int).toNat 64)))) * 10723151780598845931)).fdiv (2 ^ (min (31 : Int).toNat 64))),())
noncomputable def f61_sig (k : Nat) : Sig := ⟨[.val (.int .i64)],[],[[.val (.int .u64)]],fun x => f61 k x.1⟩
noncomputable def E_f61 (k : Nat) : Env := ⟨Try.prog,G0,snil,tnil,tnil,unil,k,qnil,false⟩
theorem f61_run (k : Nat) (x : (lTy (lay 0 (f61_sig k).ins)).den) : runF (E_f61 k) Try.f61 (f61_sig k) x = (f61_sig k).F x := by kernel_rfl
theorem f61_ok [Dr] (k : Nat) : FnOK Try.prog G0 61 (f61_sig k) :=
  fn_ok2 (E := E_f61 k) (env_nil) (qenv_nil) mixed Try.func61 Try.call61 (by kernel_rfl) (by kernel_rfl) (m := 0) (by kernel_rfl) trivial (sk := []) (by kernel_rfl) trivial (f61_run k)
noncomputable def f36 (k : Nat) (x0 : Int) : Option ((Int×Unit)) :=
  (f61 k 3000).bind fun r1 =>
  some (IntKind.u64.wrap ((IntKind.u64.wrap x0) * r1.1),())
noncomputable def f36_sig (k : Nat) : Sig := ⟨[.val (.int .i64)],[],[[.val (.int .u64)]],fun x => f36 k x.1⟩
noncomputable def E_f36 (k : Nat) : Env := ⟨Try.prog,G0,scons 61 [f61_sig k] (snil),tnil,tnil,unil,k,qnil,false⟩
theorem f36_run (k : Nat) (x : (lTy (lay 0 (f36_sig k).ins)).den) : runF (E_f36 k) Try.f36 (f36_sig k) x = (f36_sig k).F x := by kernel_rfl
theorem f36_ok [Dr] (k : Nat) : FnOK Try.prog G0 36 (f36_sig k) :=
  fn_ok2 (E := E_f36 k) (env_cons (one_sig (f61_ok k)) (env_nil)) (qenv_nil) mixed Try.func36 Try.call36 (by kernel_rfl) (by kernel_rfl) (m := 0) (by kernel_rfl) trivial (sk := []) (by kernel_rfl) trivial (f36_run k)
noncomputable def f37 (k : Nat) (x0 : Int) (x1 : Int) : Option ((Int×Unit)) :=
  bif x1 == 0 then
  some (0,())
  else
  (f61 k (w64 ((w64 (16 * x0)) + x1))).bind fun r1 =>
  some r1
noncomputable def f37_sig (k : Nat) : Sig := ⟨[.val (.int .i64),.val (.int .i64)],[],[[.val (.int .u64)]],fun x => f37 k x.1 x.2.1⟩
noncomputable def E_f37 (k : Nat) : Env := ⟨Try.prog,G0,scons 61 [f61_sig k] (snil),tnil,tnil,unil,k,qnil,false⟩
theorem f37_run (k : Nat) (x : (lTy (lay 0 (f37_sig k).ins)).den) : runF (E_f37 k) Try.f37 (f37_sig k) x = (f37_sig k).F x := by kernel_rfl
theorem f37_ok [Dr] (k : Nat) : FnOK Try.prog G0 37 (f37_sig k) :=
  fn_ok2 (E := E_f37 k) (env_cons (one_sig (f61_ok k)) (env_nil)) (qenv_nil) mixed Try.func37 Try.call37 (by kernel_rfl) (by kernel_rfl) (m := 0) (by kernel_rfl) trivial (sk := []) (by kernel_rfl) trivial (f37_run k)
noncomputable def f38 (k : Nat) (x0 : Int) (x1 : Int) (x2 : Int) : Option ((Int×Unit)) :=
  (f61 k (w64 ((w64 (2000 + (w64 (8 * x0)))) + x1))).bind fun r1 =>
  some (IntKind.u64.wrap ((IntKind.u64.wrap x2) * r1.1),())
noncomputable def f38_sig (k : Nat) : Sig := ⟨[.val (.int .i64),.val (.int .i64),.val (.int .i64)],[],[[.val (.int .u64)]],fun x => f38 k x.1 x.2.1 x.2.2.1⟩
noncomputable def E_f38 (k : Nat) : Env := ⟨Try.prog,G0,scons 61 [f61_sig k] (snil),tnil,tnil,unil,k,qnil,false⟩
theorem f38_run (k : Nat) (x : (lTy (lay 0 (f38_sig k).ins)).den) : runF (E_f38 k) Try.f38 (f38_sig k) x = (f38_sig k).F x := by kernel_rfl
theorem f38_ok [Dr] (k : Nat) : FnOK Try.prog G0 38 (f38_sig k) :=
  fn_ok2 (E := E_f38 k) (env_cons (one_sig (f61_ok k)) (env_nil)) (qenv_nil) mixed Try.func38 Try.call38 (by kernel_rfl) (by kernel_rfl) (m := 0) (by kernel_rfl) trivial (sk := []) (by kernel_rfl) trivial (f38_run k)
noncomputable def l23_3 (k : Nat) : Nat → ((List Int)×((List Int)×(List Int)×Unit)×Int×Int×Unit) → Int → (List Int) → Int → Int → Option ((((List Int)×((List Int)×(List Int)×Unit)×Int×Int×Unit)×Int×Unit))
 | 0,_,_,_,_,_ => none
 | j + 1,s1,s3,s14,s15,s16 =>
  bif decide (s16 < s15) then
  bif decide (0 ≤ s16) && decide (s16 < (s14.length : Int)) then
  (f37 k s16 (rd (0 : Int) s14 s16)).bind fun r1 =>
  l23_3 k j s1 (IntKind.u64.wrap (s3 + r1.1)) s14 s15 (w64 (s16 + 1))
  else
  none
  else
  some (s1,s3,())
noncomputable def l23_3_sig (k : Nat) : LoopSig := ⟨[(1,.obj ck30),(3,.obj ck3),(14,.obj ck4),(15,.obj ck1),(16,.obj ck1)],[(.exit 0,[(1,.obj ck30),(3,.obj ck3)])],fun j x => l23_3 k j x.1 x.2.1 x.2.2.1 x.2.2.2.1 x.2.2.2.2.1⟩
noncomputable def l23_11 (k : Nat) : Nat → Int → Int → ((List Int)×(List Int)×Unit) → Int → (List Int) → Int → Int → Option ((Int×((List Int)×(List Int)×Unit)×Int×Unit))
 | 0,_,_,_,_,_,_,_ => none
 | j + 1,s3,s6,s28,s29,s33,s34,s35 =>
  bif decide (s35 < s34) then
  bif decide (0 ≤ s35) && decide (s35 < (s33.length : Int)) then
  (f38 k s6 s35 (rd (0 : Int) s33 s35)).bind fun r1 =>
  l23_11 k j (IntKind.u64.wrap (s3 + r1.1)) s6 s28 s29 s33 s34 (w64 (s35 + 1))
  else
  none
  else
  some (s3,s28,s29,())
noncomputable def l23_11_sig (k : Nat) : LoopSig := ⟨[(3,.obj ck3),(6,.obj ck1),(28,.obj ck9),(29,.obj ck1),(33,.obj ck4),(34,.obj ck1),(35,.obj ck1)],[(.exit 4,[(3,.obj ck3),(28,.obj ck9),(29,.obj ck1)])],fun j x => l23_11 k j x.1 x.2.1 x.2.2.1 x.2.2.2.1 x.2.2.2.2.1 x.2.2.2.2.2.1 x.2.2.2.2.2.2.1⟩
noncomputable def l23_8 (k : Nat) : Nat → Int → ((List Int)×(List Int)×Unit) → Int → Option ((Int×Unit))
 | 0,_,_,_ => none
 | j + 1,s3,s28,s29 =>
  bif decide (s29 < 2) then
  bif s29 == 0 then
  (l23_11 k k s3 s29 s28 s29 s28.1 (s28.1.length : Int) 0).bind fun o1 =>
  l23_8 k j o1.1 o1.2.1 (w64 (o1.2.2.1 + 1))
  else
  bif s29 == 1 then
  (l23_11 k k s3 s29 s28 s29 s28.2.1 (s28.2.1.length : Int) 0).bind fun o2 =>
  l23_8 k j o2.1 o2.2.1 (w64 (o2.2.2.1 + 1))
  else
  none
  else
  some (s3,())
noncomputable def l23_8_sig (k : Nat) : LoopSig := ⟨[(3,.obj ck3),(28,.obj ck9),(29,.obj ck1)],[(.exit 2,[(3,.obj ck3)])],fun j x => l23_8 k j x.1 x.2.1 x.2.2.1⟩
noncomputable def f23 (k : Nat) (x0 : (List Int)×((List Int)×(List Int)×Unit)×Int×Int×Unit) : Option ((Int×Unit)) :=
  (f36 k x0.2.2.1).bind fun r1 =>
  (l23_3 k k x0 r1.1 x0.1 (x0.1.length : Int) 0).bind fun o2 =>
  (l23_8 k k o2.2.1 o2.1.2.1 0).bind fun o3 =>
  some o3
noncomputable def f23_sig (k : Nat) : Sig := ⟨[.val ty28],[],[[.val (.int .u64)]],fun x => f23 k x.1⟩
noncomputable def E_f23 (k : Nat) : Env := ⟨Try.prog,G0,scons 38 [f38_sig k] (scons 37 [f37_sig k] (scons 36 [f36_sig k] (snil))),tcons 8 (l23_8_sig k) (tcons 11 (l23_11_sig k) (tcons 3 (l23_3_sig k) (tnil))),tnil,unil,k,qnil,false⟩
theorem l23_3_ok (k : Nat) : LoopOK (E_f23 k) ⟨Try.f23.ntmps,[],G0⟩ (nthC 0 (loopsIn (Try.f23.body.getD .skip))) :=
  loop_ok (ls := l23_3_sig k) (by kernel_rfl) (fun _ => by kernel_rfl) (fun j x => by kernel_rfl)
theorem l23_8_ok (k : Nat) : LoopOK (E_f23 k) ⟨Try.f23.ntmps,[],G0⟩ (nthC 1 (loopsIn (Try.f23.body.getD .skip))) :=
  loop_ok (ls := l23_8_sig k) (by kernel_rfl) (fun _ => by kernel_rfl) (fun j x => by kernel_rfl)
theorem l23_11_ok (k : Nat) : LoopOK (E_f23 k) ⟨Try.f23.ntmps,[],G0⟩ (nthC 2 (loopsIn (Try.f23.body.getD .skip))) :=
  loop_ok (ls := l23_11_sig k) (by kernel_rfl) (fun _ => by kernel_rfl) (fun j x => by kernel_rfl)
theorem f23_run (k : Nat) (x : (lTy (lay 0 (f23_sig k).ins)).den) : runF (E_f23 k) Try.f23 (f23_sig k) x = (f23_sig k).F x := by kernel_rfl
theorem f23_ok [Dr] (k : Nat) : FnOK Try.prog G0 23 (f23_sig k) :=
  fn_ok2 (E := E_f23 k) (env_cons (one_sig (f38_ok k)) (env_cons (one_sig (f37_ok k)) (env_cons (one_sig (f36_ok k)) (env_nil)))) (qenv_nil) mixed Try.func23 Try.call23 (by kernel_rfl) (by kernel_rfl) (m := 3) (by kernel_rfl) ⟨⟨⟨trivial,l23_3_ok k⟩,l23_8_ok k⟩,l23_11_ok k⟩ (sk := []) (by kernel_rfl) trivial (f23_run k)
noncomputable def l25_3 (k : Nat) : Nat → (List (Int×(Int×Int×Int×Unit)×Int×Unit)) → Unit → (Int×(Int×Int×Int×Unit)×Int×Unit) → Int → Int → Int → Option (((List (Int×(Int×Int×Int×Unit)×Int×Unit))×Unit×(Int×(Int×Int×Int×Unit)×Int×Unit)×Int×Int×Unit))
 | 0,_,_,_,_,_,_ => none
 | j + 1,s0,s2,s4,s8,s9,s10 =>
  bif decide (s9 < s10) then
  bif decide (0 ≤ (w64 ((IntKind.u64.wrap (w64 (s9 + s10))).fdiv (2 ^ (min (1 : Int).toNat 64))))) && decide ((w64 ((IntKind.u64.wrap (w64 (s9 + s10))).fdiv (2 ^ (min (1 : Int).toNat 64)))) < (s0.length : Int)) then
  (f26 k (rd ((0,(0,0,0,()),0,()) : Int×(Int×Int×Int×Unit)×Int×Unit) s0 (w64 ((IntKind.u64.wrap (w64 (s9 + s10))).fdiv (2 ^ (min (1 : Int).toNat 64))))) s4).bind fun r1 =>
  bif decide (r1.1 < 0) then
  l25_3 k j s0 () s4 s8 (w64 ((w64 ((IntKind.u64.wrap (w64 (s9 + s10))).fdiv (2 ^ (min (1 : Int).toNat 64)))) + 1)) s10
  else
  l25_3 k j s0 () s4 s8 s9 (w64 ((IntKind.u64.wrap (w64 (s9 + s10))).fdiv (2 ^ (min (1 : Int).toNat 64))))
  else
  none
  else
  some (s0,(),s4,s8,s9,())
noncomputable def l25_3_sig (k : Nat) : LoopSig := ⟨[(0,.obj (.row ty22)),(2,.obj (.fn 26)),(4,.obj (.box 49 (.val ty22))),(8,.obj ck1),(9,.obj ck1),(10,.obj ck1)],[(.exit 0,[(0,.obj (.row ty22)),(2,.obj (.fn 26)),(4,.obj (.box 49 (.val ty22))),(8,.obj ck1),(9,.obj ck1)])],fun j x => l25_3 k j x.1 x.2.1 x.2.2.1 x.2.2.2.1 x.2.2.2.2.1 x.2.2.2.2.2.1⟩
noncomputable def f25 (k : Nat) (x0 : List (Int×(Int×Int×Int×Unit)×Int×Unit)) (x1 : Int×(Int×Int×Int×Unit)×Int×Unit) : Option ((Int×Bool×(List (Int×(Int×Int×Int×Unit)×Int×Unit))×Unit)) :=
  (l25_3 k k x0 () x1 (x0.length : Int) 0 (x0.length : Int)).bind fun o1 =>
  bif decide (o1.2.2.2.2.1 < o1.2.2.2.1) then
  bif decide (0 ≤ o1.2.2.2.2.1) && decide (o1.2.2.2.2.1 < (o1.1.length : Int)) then
  (f26 k (rd ((0,(0,0,0,()),0,()) : Int×(Int×Int×Int×Unit)×Int×Unit) o1.1 o1.2.2.2.2.1) o1.2.2.1).bind fun r2 =>
  some (o1.2.2.2.2.1,r2.1 == 0,o1.1,())
  else
  none
  else
  some (o1.2.2.2.2.1,false,o1.1,())
noncomputable def f25_sig (k : Nat) : Sig := ⟨[.row ty22,.val ty22,.fn 26],[0],[[.val (.int .i64),.val (.bool),.row ty22]],fun x => f25 k x.1 x.2.1⟩
noncomputable def E_f25 (k : Nat) : Env := ⟨Try.prog,G0,scons 26 [f26_sig k] (snil),tcons 3 (l25_3_sig k) (tnil),tnil,unil,k,qnil,false⟩
theorem l25_3_ok (k : Nat) : LoopOK (E_f25 k) ⟨Try.f25.ntmps,[0],G0⟩ (nthC 0 (loopsIn (Try.f25.body.getD .skip))) :=
  loop_ok (ls := l25_3_sig k) (by kernel_rfl) (fun _ => by kernel_rfl) (fun j x => by kernel_rfl)
theorem f25_run (k : Nat) (x : (lTy (lay 0 (f25_sig k).ins)).den) : runF (E_f25 k) Try.f25 (f25_sig k) x = (f25_sig k).F x := by kernel_rfl
theorem f25_ok [Dr] (k : Nat) : FnOK Try.prog G0 25 (f25_sig k) :=
  fn_ok2 (E := E_f25 k) (env_cons (one_sig (f26_ok k)) (env_nil)) (qenv_nil) mixed Try.func25 Try.call25 (by kernel_rfl) (by kernel_rfl) (m := 1) (by kernel_rfl) ⟨trivial,l25_3_ok k⟩ (sk := []) (by kernel_rfl) trivial (f25_run k)
open Go.Shelf in
def insL_ren : Go.Shelf.Ren := ⟨fun | 22 => 35 | 29 => 59 | 30 => 60 | n => n,fun | 0 => 0 | 3 => 3 | 4 => 4 | 9 => 49 | 24 => 31 | n => n,fun | n => n⟩
theorem insL0 : InsL0 Try.prog insL_ren := {
  mixed := by kernel_rfl
  f22 := ⟨"slices.Insert[[]gamehall/api.BookEntry,gamehall/api.BookEntry]",by decide,Try.func35.trans (congrArg some (by kernel_rfl))⟩
  f29 := ⟨"slices.overlaps[gamehall/api.BookEntry]",by decide,Try.func59.trans (congrArg some (by kernel_rfl)),by kernel_rfl,by kernel_rfl⟩
  t0 := Try.underlying0
  a0 := Try.isAgg0
  z0 := Try.sizeOf0
  v0 := Try.zeroValue0
  t3 := Try.underlying3
  a3 := Try.isAgg3
  z3 := Try.sizeOf3
  v3 := Try.zeroValue3
  t4 := Try.underlying4
  a4 := Try.isAgg4
  z4 := Try.sizeOf4
  v4 := Try.zeroValue4
  t24 := Try.underlying31
  a24 := Try.isAgg31
  z24 := Try.sizeOf31
  v24 := Try.zeroValue31
  }
noncomputable def f35 (k : Nat) (x0 : List (Int×(Int×Int×Int×Unit)×Int×Unit)) (x1 : Int) (x2 : List (Int×(Int×Int×Int×Unit)×Int×Unit)) : Option (List (Int×(Int×Int×Int×Unit)×Int×Unit)×Unit) := insF (.pair (.int .u64) (.pair (.pair (.int .i64) (.pair (.int .i64) (.pair (.int .i64) (.unit)))) (.pair (.int .i64) (.unit)))) 40 x0 x1 x2
noncomputable def f35_sig (k : Nat) : Sig := ⟨[.row ty22,.val (.int .i64),.row ty22],[],[[.row ty22]],fun x => f35 k x.1 x.2.1 x.2.2.1⟩
theorem f35_ok [Dr] (k : Nat) : FnOK Try.prog G0 35 (f35_sig k) := insertT_ok (ρ := insL_ren) (t := .pair (.int .u64) (.pair (.pair (.int .i64) (.pair (.int .i64) (.pair (.int .i64) (.unit)))) (.pair (.int .i64) (.unit)))) (k := 40) insL0 Try.sizeOf49 (by kernel_rfl) Try.call35
noncomputable def f22 (k : Nat) (x0 : List (Int×(Int×Int×Int×Unit)×Int×Unit)) (x1 : Int×(Int×Int×Int×Unit)×Int×Unit) : Option (((List (Int×(Int×Int×Int×Unit)×Int×Unit))×Unit)) :=
  (f25 k x0 x1).bind fun r1 =>
  bif r1.2.1 then
  bif decide (0 ≤ r1.1) && decide (r1.1 < (r1.2.2.1.length : Int)) then
  bif decide (0 ≤ r1.1) && decide (r1.1 < (r1.2.2.1.length : Int)) then
  some (r1.2.2.1.set r1.1.toNat ((rd ((0,(0,0,0,()),0,()) : Int×(Int×Int×Int×Unit)×Int×Unit) r1.2.2.1 r1.1).1,(rd ((0,(0,0,0,()),0,()) : Int×(Int×Int×Int×Unit)×Int×Unit) r1.2.2.1 r1.1).2.1,if 1000000 < (w64 ((rd ((0,(0,0,0,()),0,()) : Int×(Int×Int×Int×Unit)×Int×Unit) r1.2.2.1 r1.1).2.2.1 + x1.2.2.1)) then 1000000 else w64 ((rd ((0,(0,0,0,()),0,()) : Int×(Int×Int×Int×Unit)×Int×Unit) r1.2.2.1 r1.1).2.2.1 + x1.2.2.1),()),())
  else
  none
  else
  none
  else
  (f35 k r1.2.2.1 r1.1 [x1]).bind fun r2 =>
  some r2
noncomputable def f22_sig (k : Nat) : Sig := ⟨[.row ty22,.val ty22],[],[[.row ty22]],fun x => f22 k x.1 x.2.1⟩
noncomputable def E_f22 (k : Nat) : Env := ⟨Try.prog,G0,scons 35 [f35_sig k] (scons 25 [f25_sig k] (snil)),tnil,tnil,unil,k,qnil,false⟩
theorem f22_run (k : Nat) (x : (lTy (lay 0 (f22_sig k).ins)).den) : runF (E_f22 k) Try.f22 (f22_sig k) x = (f22_sig k).F x := by kernel_rfl
theorem f22_ok [Dr] (k : Nat) : FnOK Try.prog G0 22 (f22_sig k) :=
  fn_ok2 (E := E_f22 k) (env_cons (one_sig (f35_ok k)) (env_cons (one_sig (f25_ok k)) (env_nil))) (qenv_nil) mixed Try.func22 Try.call22 (by kernel_rfl) (by kernel_rfl) (m := 0) (by kernel_rfl) trivial (sk := []) (by kernel_rfl) trivial (f22_run k)
noncomputable def l10_12 (k : Nat) : Nat → Int → (ByteArray×Int×Int×(List (Int×Int×Int×(List (Int×Int×Int×Int×Unit))×Unit))×(List Int)×Bool×Bool×(List (Int×Int×Int×Bool×Unit))×Int×Int×Int×Unit) → (List (Int×(Int×Int×Int×Unit)×Int×Unit)) → ((List Int)×((List Int)×(List Int)×Unit)×Int×Int×Unit) → (List (Int×Int×Int×Unit)) → Int → Int → Option (((List (Int×(Int×Int×Int×Unit)×Int×Unit))×Unit))
 | 0,_,_,_,_,_,_,_ => none
 | j + 1,s4,s5,s16,s17,s54,s55,s56 =>
  bif decide (s56 < s55) then
  bif decide (0 ≤ s56) && decide (s56 < (s54.length : Int)) then
  (f23 k s17).bind fun r1 =>
  (f22 k s16 (r1.1,rd ((0,0,0,()) : Int×Int×Int×Unit) s54 s56,s4,())).bind fun r2 =>
  (f24 k s5 s17 (rd ((0,0,0,()) : Int×Int×Int×Unit) s54 s56)).bind fun r3 =>
  l10_12 k j s4 s5 r2.1 r3.1 s54 s55 (w64 (s56 + 1))
  else
  none
  else
  some (s16,())
noncomputable def l10_12_sig (k : Nat) : LoopSig := ⟨[(4,.obj ck1),(5,.obj ck40),(16,.obj (.row ty22)),(17,.obj ck30),(54,.obj (.val (.sl ty10))),(55,.obj ck1),(56,.obj ck1)],[(.exit 0,[(16,.obj (.row ty22))])],fun j x => l10_12 k j x.1 x.2.1 x.2.2.1 x.2.2.2.1 x.2.2.2.2.1 x.2.2.2.2.2.1 x.2.2.2.2.2.2.1⟩
noncomputable def f10 (k : Nat) (x0 : ByteArray×Int×Int×(List (Int×Int×Int×(List (Int×Int×Int×Int×Unit))×Unit))×(List Int)×Bool×Bool×(List (Int×Int×Int×Bool×Unit))×Int×Int×Int×Unit) (x1 : List (Int×(Int×Int×Int×Unit)×Int×Unit)) (x2 : List (Int×Int×Int×Unit)) (x3 : Int) (x4 : Int) : Option (((List (Int×(Int×Int×Int×Unit)×Int×Unit))×Int×Unit)) :=
  (f18 k x1).bind fun r1 =>
  bif r1.1 != 0 then
  some ([],r1)
  else
  (f19 k x0 x2).bind fun r2 =>
  bif r2.2.2.1 != 0 then
  some ([],r2.2.2)
  else
  bif decide (x3 < 0) then
  some ([],4,())
  else
  bif decide (x4 < 1) then
  some ([],4,())
  else
  bif decide (x4 > 1000000) then
  some ([],4,())
  else
  (f20 k x1).bind fun r3 =>
  (f21 k x0).bind fun r4 =>
  bif decide (0 ≤ (if (x2.length : Int) < x3 then (x2.length : Int) else x3)) && decide ((if (x2.length : Int) < x3 then (x2.length : Int) else x3) ≤ (x2.length : Int)) then
  (l10_12 k k x4 x0 r3.1 r4.1 (sliceOf x2 0 (if (x2.length : Int) < x3 then (x2.length : Int) else x3)) ((sliceOf x2 0 (if (x2.length : Int) < x3 then (x2.length : Int) else x3)).length : Int) 0).bind fun o5 =>
  bif decide ((o5.1.length : Int) > 1000) then
  some ([],9,())
  else
  some (o5.1,0,())
  else
  none
noncomputable def f10_sig (k : Nat) : Sig := ⟨[.val ty38,.val ty23,.val (.sl ty10),.val (.int .i64),.val (.int .i64)],[],[[.row ty22,.val (.int .i64)]],fun x => f10 k x.1 x.2.1 x.2.2.1 x.2.2.2.1 x.2.2.2.2.1⟩
noncomputable def E_f10 (k : Nat) : Env := ⟨Try.prog,G0,scons 24 [f24_sig k] (scons 23 [f23_sig k] (scons 22 [f22_sig k] (scons 21 [f21_sig k] (scons 20 [f20_sig k] (scons 19 [f19_sig k] (scons 18 [f18_sig k] (snil))))))),tcons 12 (l10_12_sig k) (tnil),tnil,unil,k,qnil,false⟩
theorem l10_12_ok (k : Nat) : LoopOK (E_f10 k) ⟨Try.f10.ntmps,[],G0⟩ (nthC 0 (loopsIn (Try.f10.body.getD .skip))) :=
  loop_ok (ls := l10_12_sig k) (by kernel_rfl) (fun _ => by kernel_rfl) (fun j x => by kernel_rfl)
theorem f10_run (k : Nat) (x : (lTy (lay 0 (f10_sig k).ins)).den) : runF (E_f10 k) Try.f10 (f10_sig k) x = (f10_sig k).F x := by kernel_rfl
theorem f10_ok [Dr] (k : Nat) : FnOK Try.prog G0 10 (f10_sig k) :=
  fn_ok2 (E := E_f10 k) (env_cons (one_sig (f24_ok k)) (env_cons (one_sig (f23_ok k)) (env_cons (one_sig (f22_ok k)) (env_cons (one_sig (f21_ok k)) (env_cons (one_sig (f20_ok k)) (env_cons (one_sig (f19_ok k)) (env_cons (one_sig (f18_ok k)) (env_nil)))))))) (qenv_nil) mixed Try.func10 Try.call10 (by kernel_rfl) (by kernel_rfl) (m := 1) (by kernel_rfl) ⟨trivial,l10_12_ok k⟩ (sk := []) (by kernel_rfl) trivial (f10_run k)
noncomputable def f7 (k : Nat) : Option ((Bool×Unit)) :=
  (f16 k).bind fun r1 =>
  (f17 k 4).bind fun r2 =>
  (f10 k r1.1 [] [r2.1] 1 7).bind fun r3 =>
  bif r3.2.1 == 0 then
  bif (r3.1.length : Int) == 1 then
  bif decide (0 < (r3.1.length : Int)) then
  some ((rd ((0,(0,0,0,()),0,()) : Int×(Int×Int×Int×Unit)×Int×Unit) r3.1 0).2.2.1 == 7,())
  else
  none
  else
  some (false,())
  else
  some (false,())
noncomputable def f7_sig (k : Nat) : Sig := ⟨[],[],[[.val (.bool)]],fun x => f7 k⟩
noncomputable def E_f7 (k : Nat) : Env := ⟨Try.prog,G0,scons 17 [f17_sig k] (scons 16 [f16_sig k] (scons 10 [f10_sig k] (snil))),tnil,tnil,unil,k,qnil,false⟩
theorem f7_run (k : Nat) (x : (lTy (lay 0 (f7_sig k).ins)).den) : runF (E_f7 k) Try.f7 (f7_sig k) x = (f7_sig k).F x := by kernel_rfl
theorem f7_ok [Dr] (k : Nat) : FnOK Try.prog G0 7 (f7_sig k) :=
  fn_ok2 (E := E_f7 k) (env_cons (one_sig (f17_ok k)) (env_cons (one_sig (f16_ok k)) (env_cons (one_sig (f10_ok k)) (env_nil)))) (qenv_nil) mixed Try.func7 Try.call7 (by kernel_rfl) (by kernel_rfl) (m := 0) (by kernel_rfl) trivial (sk := []) (by kernel_rfl) trivial (f7_run k)
noncomputable def l11_10 (k : Nat) : Nat → (List (Int×(Int×Int×Int×Unit)×Int×Unit)) → (List (Int×(Int×Int×Int×Unit)×Int×Unit)) → Int → Int → Option (((List (Int×(Int×Int×Int×Unit)×Int×Unit))×Unit))
 | 0,_,_,_,_ => none
 | j + 1,s9,s28,s29,s30 =>
  bif decide (s30 < s29) then
  bif decide (0 ≤ s30) && decide (s30 < (s28.length : Int)) then
  (f22 k s9 (rd ((0,(0,0,0,()),0,()) : Int×(Int×Int×Int×Unit)×Int×Unit) s28 s30)).bind fun r1 =>
  l11_10 k j r1.1 s28 s29 (w64 (s30 + 1))
  else
  none
  else
  some (s9,())
noncomputable def l11_10_sig (k : Nat) : LoopSig := ⟨[(9,.obj (.row ty22)),(28,.obj (.val ty23)),(29,.obj ck1),(30,.obj ck1)],[(.exit 2,[(9,.obj (.row ty22))])],fun j x => l11_10 k j x.1 x.2.1 x.2.2.1 x.2.2.2.1⟩
noncomputable def f11 (k : Nat) (x0 : List (Int×(Int×Int×Int×Unit)×Int×Unit)) (x1 : List (Int×(Int×Int×Int×Unit)×Int×Unit)) : Option (((List (Int×(Int×Int×Int×Unit)×Int×Unit))×Int×Unit)) :=
  (f18 k (rd [] [x0,x1] 0)).bind fun r1 =>
  bif r1.1 != 0 then
  some ([],r1)
  else
  (f18 k (rd [] [x0,x1] 1)).bind fun r2 =>
  bif r2.1 != 0 then
  some ([],r2)
  else
  (f20 k x0).bind fun r3 =>
  (l11_10 k k r3.1 x1 (x1.length : Int) 0).bind fun o4 =>
  bif decide ((o4.1.length : Int) > 1000) then
  some ([],9,())
  else
  some (o4.1,0,())
noncomputable def f11_sig (k : Nat) : Sig := ⟨[.val ty23,.val ty23],[],[[.row ty22,.val (.int .i64)]],fun x => f11 k x.1 x.2.1⟩
noncomputable def E_f11 (k : Nat) : Env := ⟨Try.prog,G0,scons 22 [f22_sig k] (scons 20 [f20_sig k] (scons 18 [f18_sig k] (snil))),tcons 10 (l11_10_sig k) (tnil),tnil,ucons 2 3 (unil),k,qnil,false⟩
theorem l11_10_ok (k : Nat) : LoopOK (E_f11 k) ⟨Try.f11.ntmps,[],G0⟩ (nthC 1 (loopsIn (Try.f11.body.getD .skip))) :=
  loop_ok (ls := l11_10_sig k) (by kernel_rfl) (fun _ => by kernel_rfl) (fun j x => by kernel_rfl)
theorem f11_run (k : Nat) (x : (lTy (lay 0 (f11_sig k).ins)).den) : runF (E_f11 k) Try.f11 (f11_sig k) x = (f11_sig k).F x := by kernel_rfl
theorem f11_ok [Dr] (k : Nat) : FnOK Try.prog G0 11 (f11_sig k) :=
  fn_ok2 (E := E_f11 k) (env_cons (one_sig (f22_ok k)) (env_cons (one_sig (f20_ok k)) (env_cons (one_sig (f18_ok k)) (env_nil)))) (qenv_nil) mixed Try.func11 Try.call11 (by kernel_rfl) (by kernel_rfl) (m := 2) (by kernel_rfl) ⟨⟨trivial,loop_none (by kernel_rfl)⟩,l11_10_ok k⟩ (sk := []) (by kernel_rfl) trivial (f11_run k)
noncomputable def l12_4 (k : Nat) : Nat → (List (Int×(Int×Int×Int×Unit)×Int×Unit)) → (List (Int×(Int×Int×Int×Unit)×Int×Unit)) → Int → Int → Option (Unit ⊕ (Bool×Unit))
 | 0,_,_,_,_ => none
 | j + 1,s0,s1,s12,s13 =>
  bif decide (s13 < s12) then
  bif decide (0 ≤ s13) && decide (s13 < (s0.length : Int)) then
  bif decide (0 ≤ s13) && decide (s13 < (s1.length : Int)) then
  bif !(((rd ((0,(0,0,0,()),0,()) : Int×(Int×Int×Int×Unit)×Int×Unit) s0 s13).1 == (rd ((0,(0,0,0,()),0,()) : Int×(Int×Int×Int×Unit)×Int×Unit) s1 s13).1) && ((((rd ((0,(0,0,0,()),0,()) : Int×(Int×Int×Int×Unit)×Int×Unit) s0 s13).2.1.1 == (rd ((0,(0,0,0,()),0,()) : Int×(Int×Int×Int×Unit)×Int×Unit) s1 s13).2.1.1) && (((rd ((0,(0,0,0,()),0,()) : Int×(Int×Int×Int×Unit)×Int×Unit) s0 s13).2.1.2.1 == (rd ((0,(0,0,0,()),0,()) : Int×(Int×Int×Int×Unit)×Int×Unit) s1 s13).2.1.2.1) && (((rd ((0,(0,0,0,()),0,()) : Int×(Int×Int×Int×Unit)×Int×Unit) s0 s13).2.1.2.2.1 == (rd ((0,(0,0,0,()),0,()) : Int×(Int×Int×Int×Unit)×Int×Unit) s1 s13).2.1.2.2.1) && true))) && (((rd ((0,(0,0,0,()),0,()) : Int×(Int×Int×Int×Unit)×Int×Unit) s0 s13).2.2.1 == (rd ((0,(0,0,0,()),0,()) : Int×(Int×Int×Int×Unit)×Int×Unit) s1 s13).2.2.1) && true))) then
  some (.inr (false,()))
  else
  l12_4 k j s0 s1 s12 (w64 (s13 + 1))
  else
  none
  else
  none
  else
  some (.inl ())
noncomputable def l12_4_sig (k : Nat) : LoopSig := ⟨[(0,.obj (.val ty23)),(1,.obj (.val ty23)),(12,.obj ck1),(13,.obj ck1)],[(.exit 0,[]),(.ret,[(4,.obj (.val (.bool)))])],fun j x => l12_4 k j x.1 x.2.1 x.2.2.1 x.2.2.2.1⟩
noncomputable def f12 (k : Nat) (x0 : List (Int×(Int×Int×Int×Unit)×Int×Unit)) (x1 : List (Int×(Int×Int×Int×Unit)×Int×Unit)) : Option ((Bool×Unit)) :=
  bif (x0.length : Int) != (x1.length : Int) then
  some (false,())
  else
  (l12_4 k k x0 x1 (x0.length : Int) 0).bind fun q26 =>
  Sum.elim
  (fun y1 =>
  some (true,()))
  (fun y2 =>
  some y2)
  q26
noncomputable def f12_sig (k : Nat) : Sig := ⟨[.val ty23,.val ty23],[],[[.val (.bool)]],fun x => f12 k x.1 x.2.1⟩
noncomputable def E_f12 (k : Nat) : Env := ⟨Try.prog,G0,snil,tcons 4 (l12_4_sig k) (tnil),tnil,unil,k,qnil,false⟩
theorem l12_4_ok (k : Nat) : LoopOK (E_f12 k) ⟨Try.f12.ntmps,[],G0⟩ (nthC 0 (loopsIn (Try.f12.body.getD .skip))) :=
  loop_ok (ls := l12_4_sig k) (by kernel_rfl) (fun _ => by kernel_rfl) (fun j x => by kernel_rfl)
theorem f12_run (k : Nat) (x : (lTy (lay 0 (f12_sig k).ins)).den) : runF (E_f12 k) Try.f12 (f12_sig k) x = (f12_sig k).F x := by kernel_rfl
theorem f12_ok [Dr] (k : Nat) : FnOK Try.prog G0 12 (f12_sig k) :=
  fn_ok2 (E := E_f12 k) (env_nil) (qenv_nil) mixed Try.func12 Try.call12 (by kernel_rfl) (by kernel_rfl) (m := 1) (by kernel_rfl) ⟨trivial,l12_4_ok k⟩ (sk := []) (by kernel_rfl) trivial (f12_run k)
noncomputable def f4 (k : Nat) (x0 : List (Int×(Int×Int×Int×Unit)×Int×Unit)) (x1 : List (Int×(Int×Int×Int×Unit)×Int×Unit)) : Option ((Bool×Unit)) :=
  (f7 k).bind fun r1 =>
  bif !r1.1 then
  some (false,())
  else
  bif decide (0 ≤ (if 40 < (x0.length : Int) then 40 else (x0.length : Int))) && decide ((if 40 < (x0.length : Int) then 40 else (x0.length : Int)) ≤ (x0.length : Int)) then
  bif decide (0 ≤ (if 40 < (x1.length : Int) then 40 else (x1.length : Int))) && decide ((if 40 < (x1.length : Int) then 40 else (x1.length : Int)) ≤ (x1.length : Int)) then
  (f11 k (sliceOf x0 0 (if 40 < (x0.length : Int) then 40 else (x0.length : Int))) (sliceOf x1 0 (if 40 < (x1.length : Int) then 40 else (x1.length : Int)))).bind fun r2 =>
  (f11 k (sliceOf x1 0 (if 40 < (x1.length : Int) then 40 else (x1.length : Int))) (sliceOf x0 0 (if 40 < (x0.length : Int) then 40 else (x0.length : Int)))).bind fun r3 =>
  bif (r2.2.1 == 0) == (r3.2.1 == 0) then
  (f12 k r2.1 r3.1).bind fun r4 =>
  some r4
  else
  some (false,())
  else
  none
  else
  none
noncomputable def f4_sig (k : Nat) : Sig := ⟨[.val ty23,.val ty23],[],[[.val (.bool)]],fun x => f4 k x.1 x.2.1⟩
noncomputable def E_f4 (k : Nat) : Env := ⟨Try.prog,G0,scons 12 [f12_sig k] (scons 11 [f11_sig k] (scons 7 [f7_sig k] (snil))),tnil,tnil,unil,k,qnil,false⟩
theorem f4_run (k : Nat) (x : (lTy (lay 0 (f4_sig k).ins)).den) : runF (E_f4 k) Try.f4 (f4_sig k) x = (f4_sig k).F x := by kernel_rfl
theorem f4_ok [Dr] (k : Nat) : FnOK Try.prog G0 4 (f4_sig k) :=
  fn_ok2 (E := E_f4 k) (env_cons (one_sig (f12_ok k)) (env_cons (one_sig (f11_ok k)) (env_cons (one_sig (f7_ok k)) (env_nil)))) (qenv_nil) mixed Try.func4 Try.call4 (by kernel_rfl) (by kernel_rfl) (m := 0) (by kernel_rfl) trivial (sk := []) (by kernel_rfl) trivial (f4_run k)
end Go.Proofs.Yticbohfmkiafiaa.G
