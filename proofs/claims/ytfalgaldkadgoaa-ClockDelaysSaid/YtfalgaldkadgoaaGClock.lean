import Derived.Test.YtfalgaldkadgoaaVM21
import Derived.Test.YtfalgaldkadgoaaChecked
namespace Go.Proofs.Ytfalgaldkadgoaa.G
open Go.VM Go.Proofs

abbrev w64 (n : Int) : Int := IntKind.i64.wrap n
theorem mixed : Try.prog.follows .mixedOrders = true := by kernel_rfl

/-! ### gamehall/gamehallkeep3.minute: function 44 -/
noncomputable def f44 (k : Nat) : Option ((((List (Int × Int × Unit)) × Int × Int × Unit) × Unit)) :=
  some (([(0, 60000, ())], 1000, 0, ()), ())
noncomputable def f44_sig (k : Nat) : Sig := ⟨[], [], [[.cons (.row (.pair (.int .i64) (.pair (.int .i64) (.unit)))) (.cons (.val (.int .i64)) (.cons (.val (.int .i64)) (.nil)))]], fun x => f44 k⟩
noncomputable def E_f44 (k : Nat) : Env := ⟨Try.prog, snil, tnil, tnil, unil, k⟩
theorem f44_run (k : Nat) (x : (lTy (lay 0 (f44_sig k).ins)).den) : runF (E_f44 k) Try.f44 (f44_sig k) x = (f44_sig k).F x := by kernel_rfl
theorem f44_ok (k : Nat) : FnOK Try.prog 44 (f44_sig k) :=
  fn_ok2 (E := E_f44 k) (env_nil) mixed Try.func44 Try.call44 (by kernel_rfl) (by kernel_rfl) (m := 0) (by kernel_rfl) trivial (sk := []) (by kernel_rfl) trivial (f44_run k)

/-! ### gamehall/clock.Check: function 60 -/
noncomputable def l60_6 (k : Nat) : Nat → ((List (Int × Int × Unit)) × Int × Int × Unit) → (List (Int × Int × Unit)) → Int → Int → Option (Unit ⊕ (Int × Unit))
  | 0, _, _, _, _ => none
  | j + 1, s1, s30, s31, s32 =>
    bif decide (s32 < s31) then
      bif decide (0 ≤ s32) && decide (s32 < (s30.length : Int)) then
        bif decide ((rd ((0, 0, ()) : Int × Int × Unit) s30 s32).1 < 0) then
          some (.inr (4, ()))
        else
        bif decide ((rd ((0, 0, ()) : Int × Int × Unit) s30 s32).1 > 400) then
          some (.inr (4, ()))
        else
        bif decide ((rd ((0, 0, ()) : Int × Int × Unit) s30 s32).2.1 < 1) then
          some (.inr (4, ()))
        else
        bif decide ((rd ((0, 0, ()) : Int × Int × Unit) s30 s32).2.1 > 100000000) then
          some (.inr (4, ()))
        else
        bif !(((rd ((0, 0, ()) : Int × Int × Unit) s30 s32).1 == 0) == (s32 == (w64 ((s1.1.length : Int) - 1)))) then
          some (.inr (3, ()))
        else
          l60_6 k j s1 s30 s31 (w64 (s32 + 1))
      else
        none
    else
      some (.inl ())
noncomputable def l60_6_sig (k : Nat) : LoopSig := ⟨[(1, .obj (.box (.val (.pair (.sl (.pair (.int .i64) (.pair (.int .i64) (.unit)))) (.pair (.int .i64) (.pair (.int .i64) (.unit))))))), (30, .obj (.val (.sl (.pair (.int .i64) (.pair (.int .i64) (.unit)))))), (31, .obj (.val (.int .i64))), (32, .obj (.val (.int .i64)))], [(.exit 0, []), (.ret, [(2, .obj (.val (.int .i64)))])], fun j x => l60_6 k j x.1 x.2.1 x.2.2.1 x.2.2.2.1⟩
noncomputable def f60 (k : Nat) (x0 : (List (Int × Int × Unit)) × Int × Int × Unit) : Option ((Int × Unit)) :=
  bif (x0.1.length : Int) == 0 then
    some (2, ())
  else
  bif decide ((x0.1.length : Int) > 5) then
    some (2, ())
  else
  bif decide ((if x0.2.2.1 < x0.2.1 then x0.2.2.1 else x0.2.1) < 0) then
    some (4, ())
  else
  bif decide ((if x0.2.2.1 > x0.2.1 then x0.2.2.1 else x0.2.1) > 100000000) then
    some (4, ())
  else
    (l60_6 k k x0 x0.1 (x0.1.length : Int) 0).bind fun w1 =>
    Sum.elim
      (fun y1 =>
        some (0, ()))
      (fun y2 =>
        some y2)
      w1
noncomputable def f60_sig (k : Nat) : Sig := ⟨[.val (.pair (.sl (.pair (.int .i64) (.pair (.int .i64) (.unit)))) (.pair (.int .i64) (.pair (.int .i64) (.unit))))], [], [[.val (.int .i64)]], fun x => f60 k x.1⟩
noncomputable def E_f60 (k : Nat) : Env := ⟨Try.prog, snil, tcons 6 (l60_6_sig k) (tnil), tnil, unil, k⟩
theorem l60_6_ok (k : Nat) : LoopOK (E_f60 k) ⟨Try.f60.ntmps, []⟩ (nthC 0 (loopsIn (Try.f60.body.getD .skip))) :=
  loop_ok (ls := l60_6_sig k) (by kernel_rfl) (fun _ => by kernel_rfl) (fun j x => by kernel_rfl)
theorem f60_run (k : Nat) (x : (lTy (lay 0 (f60_sig k).ins)).den) : runF (E_f60 k) Try.f60 (f60_sig k) x = (f60_sig k).F x := by kernel_rfl
theorem f60_ok (k : Nat) : FnOK Try.prog 60 (f60_sig k) :=
  fn_ok2 (E := E_f60 k) (env_nil) mixed Try.func60 Try.call60 (by kernel_rfl) (by kernel_rfl) (m := 1) (by kernel_rfl) ⟨trivial, l60_6_ok k⟩ (sk := []) (by kernel_rfl) trivial (f60_run k)

/-! ### gamehall/clock.Start: function 43 -/
noncomputable def f43 (k : Nat) (x0 : (List (Int × Int × Unit)) × Int × Int × Unit) (x1 : Int) : Option ((((Int × Int × Unit) × (Int × Int × Unit) × (Int × Int × Unit) × Int × Int × Bool × Int × Unit) × Int × Unit)) :=
  (f60 k x0).bind fun r1 =>
  bif r1.1 != 0 then
    some (((0, 0, ()), (0, 0, ()), (0, 0, ()), 0, 0, false, 0, ()), r1)
  else
  bif decide (x1 < 0) then
    some (((0, 0, ()), (0, 0, ()), (0, 0, ()), 0, 0, false, 0, ()), 11, ())
  else
  bif decide (x1 > 100000000) then
    some (((0, 0, ()), (0, 0, ()), (0, 0, ()), 0, 0, false, 0, ()), 11, ())
  else
  bif decide (0 < (x0.1.length : Int)) then
    some ((((rd ((0, 0, ()) : Int × Int × Unit) x0.1 0).2.1, (rd ((0, 0, ()) : Int × Int × Unit) x0.1 0).2), (0, 0, ()), (0, 0, ()), 0, x1, false, (-1), ()), 0, ())
  else
    none
noncomputable def f43_sig (k : Nat) : Sig := ⟨[.val (.pair (.sl (.pair (.int .i64) (.pair (.int .i64) (.unit)))) (.pair (.int .i64) (.pair (.int .i64) (.unit)))), .val (.int .i64)], [], [[.val (.pair (.pair (.int .i64) (.pair (.int .i64) (.unit))) (.pair (.pair (.int .i64) (.pair (.int .i64) (.unit))) (.pair (.pair (.int .i64) (.pair (.int .i64) (.unit))) (.pair (.int .i64) (.pair (.int .i64) (.pair (.bool) (.pair (.int .i64) (.unit)))))))), .val (.int .i64)]], fun x => f43 k x.1 x.2.1⟩
noncomputable def E_f43 (k : Nat) : Env := ⟨Try.prog, scons 60 [f60_sig k] (snil), tnil, tnil, unil, k⟩
theorem f43_run (k : Nat) (x : (lTy (lay 0 (f43_sig k).ins)).den) : runF (E_f43 k) Try.f43 (f43_sig k) x = (f43_sig k).F x := by kernel_rfl
theorem f43_ok (k : Nat) : FnOK Try.prog 43 (f43_sig k) :=
  fn_ok2 (E := E_f43 k) (env_cons (one_sig (f60_ok k)) (env_nil)) mixed Try.func43 Try.call43 (by kernel_rfl) (by kernel_rfl) (m := 0) (by kernel_rfl) trivial (sk := []) (by kernel_rfl) trivial (f43_run k)

/-! ### gamehall/gamehallkeep3.ticks: function 20 -/
noncomputable def f20 (k : Nat) : Option ((Bool × Unit)) :=
  (f44 k).bind fun r1 =>
  (f43 k r1.1 5).bind fun r2 =>
  bif r2.2.1 == 0 then
    some ((r2.1.1.1 == 60000) && ((r2.1.1.2.1 == 60000) && true), ())
  else
    some (false, ())
noncomputable def f20_sig (k : Nat) : Sig := ⟨[], [], [[.val (.bool)]], fun x => f20 k⟩
noncomputable def E_f20 (k : Nat) : Env := ⟨Try.prog, scons 44 [f44_sig k] (scons 43 [f43_sig k] (snil)), tnil, tnil, unil, k⟩
theorem f20_run (k : Nat) (x : (lTy (lay 0 (f20_sig k).ins)).den) : runF (E_f20 k) Try.f20 (f20_sig k) x = (f20_sig k).F x := by kernel_rfl
theorem f20_ok (k : Nat) : FnOK Try.prog 20 (f20_sig k) :=
  fn_ok2 (E := E_f20 k) (env_cons (one_sig (f44_ok k)) (env_cons (one_sig (f43_ok k)) (env_nil))) mixed Try.func20 Try.call20 (by kernel_rfl) (by kernel_rfl) (m := 0) (by kernel_rfl) trivial (sk := []) (by kernel_rfl) trivial (f20_run k)

/-! ### gamehall/clock.Valid: function 49 -/
noncomputable def f49 (k : Nat) (x0 : (List (Int × Int × Unit)) × Int × Int × Unit) (x1 : (Int × Int × Unit) × (Int × Int × Unit) × (Int × Int × Unit) × Int × Int × Bool × Int × Unit) : Option ((Int × Unit)) :=
  (f60 k x0).bind fun r1 =>
  bif r1.1 != 0 then
    some r1
  else
  bif decide (x1.2.2.2.1 < 0) then
    some (4, ())
  else
  bif decide (x1.2.2.2.1 > 1) then
    some (4, ())
  else
  bif decide (x1.2.2.2.2.2.2.1 < (-1)) then
    some (4, ())
  else
  bif decide (x1.2.2.2.2.2.2.1 > 1) then
    some (4, ())
  else
  bif decide (x1.2.2.2.2.1 < 0) then
    some (4, ())
  else
  bif decide (x1.2.2.2.2.1 > 100000000) then
    some (4, ())
  else
  bif decide (x1.2.2.1.1 < 0) then
    some (4, ())
  else
  bif decide (x1.2.2.1.1 ≥ (x0.1.length : Int)) then
    some (4, ())
  else
  bif decide (x1.2.1.1 < 0) then
    some (4, ())
  else
  bif decide (x1.2.1.1 > 400) then
    some (4, ())
  else
  bif decide (x1.1.1 < 0) then
    some (4, ())
  else
  bif decide (x1.1.1 > 100000000000) then
    some (4, ())
  else
  bif decide (x1.2.2.1.2.1 < 0) then
    some (4, ())
  else
  bif decide (x1.2.2.1.2.1 ≥ (x0.1.length : Int)) then
    some (4, ())
  else
  bif decide (x1.2.1.2.1 < 0) then
    some (4, ())
  else
  bif decide (x1.2.1.2.1 > 400) then
    some (4, ())
  else
  bif decide (x1.1.2.1 < 0) then
    some (4, ())
  else
  bif decide (x1.1.2.1 > 100000000000) then
    some (4, ())
  else
    some (0, ())
noncomputable def f49_sig (k : Nat) : Sig := ⟨[.val (.pair (.sl (.pair (.int .i64) (.pair (.int .i64) (.unit)))) (.pair (.int .i64) (.pair (.int .i64) (.unit)))), .val (.pair (.pair (.int .i64) (.pair (.int .i64) (.unit))) (.pair (.pair (.int .i64) (.pair (.int .i64) (.unit))) (.pair (.pair (.int .i64) (.pair (.int .i64) (.unit))) (.pair (.int .i64) (.pair (.int .i64) (.pair (.bool) (.pair (.int .i64) (.unit))))))))], [], [[.val (.int .i64)]], fun x => f49 k x.1 x.2.1⟩
noncomputable def E_f49 (k : Nat) : Env := ⟨Try.prog, scons 60 [f60_sig k] (snil), tnil, tnil, ucons 7 3 (unil), k⟩
theorem f49_run (k : Nat) (x : (lTy (lay 0 (f49_sig k).ins)).den) : runF (E_f49 k) Try.f49 (f49_sig k) x = (f49_sig k).F x := by kernel_rfl
theorem f49_ok (k : Nat) : FnOK Try.prog 49 (f49_sig k) :=
  fn_ok2 (E := E_f49 k) (env_cons (one_sig (f60_ok k)) (env_nil)) mixed Try.func49 Try.call49 (by kernel_rfl) (by kernel_rfl) (m := 1) (by kernel_rfl) ⟨trivial, loop_none (by kernel_rfl)⟩ (sk := []) (by kernel_rfl) trivial (f49_run k)

/-! ### gamehall/clock.used: function 45 -/
noncomputable def f45 (k : Nat) (x0 : (List (Int × Int × Unit)) × Int × Int × Unit) (x1 : (Int × Int × Unit) × (Int × Int × Unit) × (Int × Int × Unit) × Int × Int × Bool × Int × Unit) (x2 : Int) : Option ((Int × Unit)) :=
  bif x1.2.2.2.2.2.1 then
    some (0, ())
  else
    some (if (w64 ((w64 (x2 - x1.2.2.2.2.1)) - x0.2.2.1)) > 0 then w64 ((w64 (x2 - x1.2.2.2.2.1)) - x0.2.2.1) else 0, ())
noncomputable def f45_sig (k : Nat) : Sig := ⟨[.val (.pair (.sl (.pair (.int .i64) (.pair (.int .i64) (.unit)))) (.pair (.int .i64) (.pair (.int .i64) (.unit)))), .val (.pair (.pair (.int .i64) (.pair (.int .i64) (.unit))) (.pair (.pair (.int .i64) (.pair (.int .i64) (.unit))) (.pair (.pair (.int .i64) (.pair (.int .i64) (.unit))) (.pair (.int .i64) (.pair (.int .i64) (.pair (.bool) (.pair (.int .i64) (.unit)))))))), .val (.int .i64)], [], [[.val (.int .i64)]], fun x => f45 k x.1 x.2.1 x.2.2.1⟩
noncomputable def E_f45 (k : Nat) : Env := ⟨Try.prog, snil, tnil, tnil, unil, k⟩
theorem f45_run (k : Nat) (x : (lTy (lay 0 (f45_sig k).ins)).den) : runF (E_f45 k) Try.f45 (f45_sig k) x = (f45_sig k).F x := by kernel_rfl
theorem f45_ok (k : Nat) : FnOK Try.prog 45 (f45_sig k) :=
  fn_ok2 (E := E_f45 k) (env_nil) mixed Try.func45 Try.call45 (by kernel_rfl) (by kernel_rfl) (m := 0) (by kernel_rfl) trivial (sk := []) (by kernel_rfl) trivial (f45_run k)

/-! ### gamehall/clock.Look: function 28 -/
noncomputable def f28 (k : Nat) (x0 : (List (Int × Int × Unit)) × Int × Int × Unit) (x1 : (Int × Int × Unit) × (Int × Int × Unit) × (Int × Int × Unit) × Int × Int × Bool × Int × Unit) (x2 : Int) : Option ((((Int × Int × Unit) × (Int × Int × Unit) × (Int × Int × Unit) × Int × Int × Bool × Int × Unit) × Int × Unit)) :=
  (f49 k x0 x1).bind fun r1 =>
  bif r1.1 != 0 then
    some (((0, 0, ()), (0, 0, ()), (0, 0, ()), 0, 0, false, 0, ()), r1)
  else
  bif decide (x2 < x1.2.2.2.2.1) then
    some (((0, 0, ()), (0, 0, ()), (0, 0, ()), 0, 0, false, 0, ()), 11, ())
  else
  bif decide (x2 > 100000000) then
    some (((0, 0, ()), (0, 0, ()), (0, 0, ()), 0, 0, false, 0, ()), 11, ())
  else
  bif decide (x1.2.2.2.2.2.2.1 < 0) then
    (f45 k x0 x1 x2).bind fun r2 =>
    bif x1.2.2.2.1 == 0 then
      bif decide (r2.1 > x1.1.1) then
        bif x1.2.2.2.1 == 0 then
          some (((0, x1.1.2), x1.2.1, x1.2.2.1, x1.2.2.2.1, x1.2.2.2.2.1, x1.2.2.2.2.2.1, x1.2.2.2.1, ()), 0, ())
        else
        bif x1.2.2.2.1 == 1 then
          some (((x1.1.1, 0, ()), x1.2.1, x1.2.2.1, x1.2.2.2.1, x1.2.2.2.2.1, x1.2.2.2.2.2.1, x1.2.2.2.1, ()), 0, ())
        else
          none
      else
        some (x1, 0, ())
    else
    bif x1.2.2.2.1 == 1 then
      bif decide (r2.1 > x1.1.2.1) then
        bif x1.2.2.2.1 == 0 then
          some (((0, x1.1.2), x1.2.1, x1.2.2.1, x1.2.2.2.1, x1.2.2.2.2.1, x1.2.2.2.2.2.1, x1.2.2.2.1, ()), 0, ())
        else
        bif x1.2.2.2.1 == 1 then
          some (((x1.1.1, 0, ()), x1.2.1, x1.2.2.1, x1.2.2.2.1, x1.2.2.2.2.1, x1.2.2.2.2.2.1, x1.2.2.2.1, ()), 0, ())
        else
          none
      else
        some (x1, 0, ())
    else
      none
  else
    some (x1, 0, ())
noncomputable def f28_sig (k : Nat) : Sig := ⟨[.val (.pair (.sl (.pair (.int .i64) (.pair (.int .i64) (.unit)))) (.pair (.int .i64) (.pair (.int .i64) (.unit)))), .val (.pair (.pair (.int .i64) (.pair (.int .i64) (.unit))) (.pair (.pair (.int .i64) (.pair (.int .i64) (.unit))) (.pair (.pair (.int .i64) (.pair (.int .i64) (.unit))) (.pair (.int .i64) (.pair (.int .i64) (.pair (.bool) (.pair (.int .i64) (.unit)))))))), .val (.int .i64)], [], [[.val (.pair (.pair (.int .i64) (.pair (.int .i64) (.unit))) (.pair (.pair (.int .i64) (.pair (.int .i64) (.unit))) (.pair (.pair (.int .i64) (.pair (.int .i64) (.unit))) (.pair (.int .i64) (.pair (.int .i64) (.pair (.bool) (.pair (.int .i64) (.unit)))))))), .val (.int .i64)]], fun x => f28 k x.1 x.2.1 x.2.2.1⟩
noncomputable def E_f28 (k : Nat) : Env := ⟨Try.prog, scons 49 [f49_sig k] (scons 45 [f45_sig k] (snil)), tnil, tnil, unil, k⟩
theorem f28_run (k : Nat) (x : (lTy (lay 0 (f28_sig k).ins)).den) : runF (E_f28 k) Try.f28 (f28_sig k) x = (f28_sig k).F x := by kernel_rfl
theorem f28_ok (k : Nat) : FnOK Try.prog 28 (f28_sig k) :=
  fn_ok2 (E := E_f28 k) (env_cons (one_sig (f49_ok k)) (env_cons (one_sig (f45_ok k)) (env_nil))) mixed Try.func28 Try.call28 (by kernel_rfl) (by kernel_rfl) (m := 0) (by kernel_rfl) trivial (sk := []) (by kernel_rfl) trivial (f28_run k)

/-! ### gamehall/clock.Left: function 21 -/
noncomputable def f21 (k : Nat) (x0 : (List (Int × Int × Unit)) × Int × Int × Unit) (x1 : (Int × Int × Unit) × (Int × Int × Unit) × (Int × Int × Unit) × Int × Int × Bool × Int × Unit) (x2 : Int) (x3 : Int) : Option ((Int × Int × Unit)) :=
  bif decide (x2 < 0) then
    some (0, 1, ())
  else
  bif decide (x2 > 1) then
    some (0, 1, ())
  else
    (f28 k x0 x1 x3).bind fun r1 =>
    bif r1.2.1 != 0 then
      some (0, r1.2)
    else
    bif decide (r1.1.2.2.2.2.2.2.1 ≥ 0) then
      bif x2 == 0 then
        some (r1.1.1.1, 0, ())
      else
      bif x2 == 1 then
        some (r1.1.1.2.1, 0, ())
      else
        none
    else
    bif x2 != r1.1.2.2.2.1 then
      bif x2 == 0 then
        some (r1.1.1.1, 0, ())
      else
      bif x2 == 1 then
        some (r1.1.1.2.1, 0, ())
      else
        none
    else
    bif x2 == 0 then
      (f45 k x0 r1.1 x3).bind fun r2 =>
      some (w64 (r1.1.1.1 - r2.1), 0, ())
    else
    bif x2 == 1 then
      (f45 k x0 r1.1 x3).bind fun r3 =>
      some (w64 (r1.1.1.2.1 - r3.1), 0, ())
    else
      none
noncomputable def f21_sig (k : Nat) : Sig := ⟨[.val (.pair (.sl (.pair (.int .i64) (.pair (.int .i64) (.unit)))) (.pair (.int .i64) (.pair (.int .i64) (.unit)))), .val (.pair (.pair (.int .i64) (.pair (.int .i64) (.unit))) (.pair (.pair (.int .i64) (.pair (.int .i64) (.unit))) (.pair (.pair (.int .i64) (.pair (.int .i64) (.unit))) (.pair (.int .i64) (.pair (.int .i64) (.pair (.bool) (.pair (.int .i64) (.unit)))))))), .val (.int .i64), .val (.int .i64)], [], [[.val (.int .i64), .val (.int .i64)]], fun x => f21 k x.1 x.2.1 x.2.2.1 x.2.2.2.1⟩
noncomputable def E_f21 (k : Nat) : Env := ⟨Try.prog, scons 45 [f45_sig k] (scons 28 [f28_sig k] (snil)), tnil, tnil, unil, k⟩
theorem f21_run (k : Nat) (x : (lTy (lay 0 (f21_sig k).ins)).den) : runF (E_f21 k) Try.f21 (f21_sig k) x = (f21_sig k).F x := by kernel_rfl
theorem f21_ok (k : Nat) : FnOK Try.prog 21 (f21_sig k) :=
  fn_ok2 (E := E_f21 k) (env_cons (one_sig (f45_ok k)) (env_cons (one_sig (f28_ok k)) (env_nil))) mixed Try.func21 Try.call21 (by kernel_rfl) (by kernel_rfl) (m := 0) (by kernel_rfl) trivial (sk := []) (by kernel_rfl) trivial (f21_run k)

/-! ### gamehall/gamehallkeep3.ClockLater: function 4 -/
noncomputable def f4 (k : Nat) (x0 : (List (Int × Int × Unit)) × Int × Int × Unit) (x1 : (Int × Int × Unit) × (Int × Int × Unit) × (Int × Int × Unit) × Int × Int × Bool × Int × Unit) (x2 : Int) (x3 : Int) : Option ((Bool × Unit)) :=
  (f20 k).bind fun r1 =>
  bif !r1.1 then
    some (false, ())
  else
  bif decide (x2 > x3) then
    (f21 k x0 x1 x1.2.2.2.1 x3).bind fun r2 =>
    (f21 k x0 x1 x1.2.2.2.1 x2).bind fun r3 =>
    (f21 k x0 x1 (w64 (1 - x1.2.2.2.1)) x3).bind fun r4 =>
    (f21 k x0 x1 (w64 (1 - x1.2.2.2.1)) x2).bind fun r5 =>
    bif r2.2.1 != 0 then
      bif r2.2.1 != 0 then
        bif r2.1 == 0 then
          some (true, ())
        else
        bif r3.2.1 != 0 then
          some (r3.1 == 0, ())
        else
          some (false, ())
      else
      bif r3.2.1 != 0 then
        some (r3.1 == 0, ())
      else
        some (false, ())
    else
    bif r3.2.1 != 0 then
      bif r2.2.1 != 0 then
        bif r2.1 == 0 then
          some (true, ())
        else
        bif r3.2.1 != 0 then
          some (r3.1 == 0, ())
        else
          some (false, ())
      else
      bif r3.2.1 != 0 then
        some (r3.1 == 0, ())
      else
        some (false, ())
    else
    bif r4.2.1 != 0 then
      bif r2.2.1 != 0 then
        bif r2.1 == 0 then
          some (true, ())
        else
        bif r3.2.1 != 0 then
          some (r3.1 == 0, ())
        else
          some (false, ())
      else
      bif r3.2.1 != 0 then
        some (r3.1 == 0, ())
      else
        some (false, ())
    else
    bif r5.2.1 != 0 then
      bif r2.2.1 != 0 then
        bif r2.1 == 0 then
          some (true, ())
        else
        bif r3.2.1 != 0 then
          some (r3.1 == 0, ())
        else
          some (false, ())
      else
      bif r3.2.1 != 0 then
        some (r3.1 == 0, ())
      else
        some (false, ())
    else
    bif decide (r2.1 ≥ r3.1) then
      bif decide (r3.1 ≥ 0) then
        some (r4.1 == r5.1, ())
      else
        some (false, ())
    else
      some (false, ())
  else
    (f21 k x0 x1 x1.2.2.2.1 x2).bind fun r6 =>
    (f21 k x0 x1 x1.2.2.2.1 x3).bind fun r7 =>
    (f21 k x0 x1 (w64 (1 - x1.2.2.2.1)) x2).bind fun r8 =>
    (f21 k x0 x1 (w64 (1 - x1.2.2.2.1)) x3).bind fun r9 =>
    bif r6.2.1 != 0 then
      bif r6.2.1 != 0 then
        bif r6.1 == 0 then
          some (true, ())
        else
        bif r7.2.1 != 0 then
          some (r7.1 == 0, ())
        else
          some (false, ())
      else
      bif r7.2.1 != 0 then
        some (r7.1 == 0, ())
      else
        some (false, ())
    else
    bif r7.2.1 != 0 then
      bif r6.2.1 != 0 then
        bif r6.1 == 0 then
          some (true, ())
        else
        bif r7.2.1 != 0 then
          some (r7.1 == 0, ())
        else
          some (false, ())
      else
      bif r7.2.1 != 0 then
        some (r7.1 == 0, ())
      else
        some (false, ())
    else
    bif r8.2.1 != 0 then
      bif r6.2.1 != 0 then
        bif r6.1 == 0 then
          some (true, ())
        else
        bif r7.2.1 != 0 then
          some (r7.1 == 0, ())
        else
          some (false, ())
      else
      bif r7.2.1 != 0 then
        some (r7.1 == 0, ())
      else
        some (false, ())
    else
    bif r9.2.1 != 0 then
      bif r6.2.1 != 0 then
        bif r6.1 == 0 then
          some (true, ())
        else
        bif r7.2.1 != 0 then
          some (r7.1 == 0, ())
        else
          some (false, ())
      else
      bif r7.2.1 != 0 then
        some (r7.1 == 0, ())
      else
        some (false, ())
    else
    bif decide (r6.1 ≥ r7.1) then
      bif decide (r7.1 ≥ 0) then
        some (r8.1 == r9.1, ())
      else
        some (false, ())
    else
      some (false, ())
noncomputable def f4_sig (k : Nat) : Sig := ⟨[.val (.pair (.sl (.pair (.int .i64) (.pair (.int .i64) (.unit)))) (.pair (.int .i64) (.pair (.int .i64) (.unit)))), .val (.pair (.pair (.int .i64) (.pair (.int .i64) (.unit))) (.pair (.pair (.int .i64) (.pair (.int .i64) (.unit))) (.pair (.pair (.int .i64) (.pair (.int .i64) (.unit))) (.pair (.int .i64) (.pair (.int .i64) (.pair (.bool) (.pair (.int .i64) (.unit)))))))), .val (.int .i64), .val (.int .i64)], [], [[.val (.bool)]], fun x => f4 k x.1 x.2.1 x.2.2.1 x.2.2.2.1⟩
noncomputable def E_f4 (k : Nat) : Env := ⟨Try.prog, scons 21 [f21_sig k] (scons 20 [f20_sig k] (snil)), tnil, tnil, unil, k⟩
theorem f4_run (k : Nat) (x : (lTy (lay 0 (f4_sig k).ins)).den) : runF (E_f4 k) Try.f4 (f4_sig k) x = (f4_sig k).F x := by kernel_rfl
theorem f4_ok (k : Nat) : FnOK Try.prog 4 (f4_sig k) :=
  fn_ok2 (E := E_f4 k) (env_cons (one_sig (f21_ok k)) (env_cons (one_sig (f20_ok k)) (env_nil))) mixed Try.func4 Try.call4 (by kernel_rfl) (by kernel_rfl) (m := 0) (by kernel_rfl) trivial (sk := []) (by kernel_rfl) trivial (f4_run k)

/-! ### gamehall/clock.Press: function 22 -/
noncomputable def c22_15 (k : Nat) (s2 : Int) (s3 : (List (Int × Int × Unit)) × Int × Int × Unit) (s6 : (Int × Int × Unit) × (Int × Int × Unit) × (Int × Int × Unit) × Int × Int × Bool × Int × Unit) (s8 : (Int × Int × Unit) × (Int × Int × Unit) × (Int × Int × Unit) × Int × Int × Bool × Int × Unit) (s10 : Int) : Option ((Int × ((Int × Int × Unit) × (Int × Int × Unit) × (Int × Int × Unit) × Int × Int × Bool × Int × Unit) × ((Int × Int × Unit) × (Int × Int × Unit) × (Int × Int × Unit) × Int × Int × Bool × Int × Unit) × Int × Unit)) :=
  bif s10 == 0 then
    bif s10 == 0 then
      bif decide (0 ≤ s8.2.2.1.1) && decide (s8.2.2.1.1 < (s3.1.length : Int)) then
        bif s10 == 0 then
          some (s2, s6, ((w64 (s8.1.1 + (rd ((0, 0, ()) : Int × Int × Unit) s3.1 s8.2.2.1.1).2.1), s8.1.2), s8.2), s10, ())
        else
        bif s10 == 1 then
          some (s2, s6, ((s8.1.1, w64 (s8.1.1 + (rd ((0, 0, ()) : Int × Int × Unit) s3.1 s8.2.2.1.1).2.1), ()), s8.2), s10, ())
        else
          none
      else
        none
    else
    bif s10 == 1 then
      bif decide (0 ≤ s8.2.2.1.2.1) && decide (s8.2.2.1.2.1 < (s3.1.length : Int)) then
        bif s10 == 0 then
          some (s2, s6, ((w64 (s8.1.1 + (rd ((0, 0, ()) : Int × Int × Unit) s3.1 s8.2.2.1.2.1).2.1), s8.1.2), s8.2), s10, ())
        else
        bif s10 == 1 then
          some (s2, s6, ((s8.1.1, w64 (s8.1.1 + (rd ((0, 0, ()) : Int × Int × Unit) s3.1 s8.2.2.1.2.1).2.1), ()), s8.2), s10, ())
        else
          none
      else
        none
    else
      none
  else
  bif s10 == 1 then
    bif s10 == 0 then
      bif decide (0 ≤ s8.2.2.1.1) && decide (s8.2.2.1.1 < (s3.1.length : Int)) then
        bif s10 == 0 then
          some (s2, s6, ((w64 (s8.1.2.1 + (rd ((0, 0, ()) : Int × Int × Unit) s3.1 s8.2.2.1.1).2.1), s8.1.2), s8.2), s10, ())
        else
        bif s10 == 1 then
          some (s2, s6, ((s8.1.1, w64 (s8.1.2.1 + (rd ((0, 0, ()) : Int × Int × Unit) s3.1 s8.2.2.1.1).2.1), ()), s8.2), s10, ())
        else
          none
      else
        none
    else
    bif s10 == 1 then
      bif decide (0 ≤ s8.2.2.1.2.1) && decide (s8.2.2.1.2.1 < (s3.1.length : Int)) then
        bif s10 == 0 then
          some (s2, s6, ((w64 (s8.1.2.1 + (rd ((0, 0, ()) : Int × Int × Unit) s3.1 s8.2.2.1.2.1).2.1), s8.1.2), s8.2), s10, ())
        else
        bif s10 == 1 then
          some (s2, s6, ((s8.1.1, w64 (s8.1.2.1 + (rd ((0, 0, ()) : Int × Int × Unit) s3.1 s8.2.2.1.2.1).2.1), ()), s8.2), s10, ())
        else
          none
      else
        none
    else
      none
  else
    none
noncomputable def c22_15_sig (k : Nat) : LoopSig := ⟨[(2, .obj (.val (.int .i64))), (3, .obj (.box (.val (.pair (.sl (.pair (.int .i64) (.pair (.int .i64) (.unit)))) (.pair (.int .i64) (.pair (.int .i64) (.unit))))))), (6, .obj (.box (.val (.pair (.pair (.int .i64) (.pair (.int .i64) (.unit))) (.pair (.pair (.int .i64) (.pair (.int .i64) (.unit))) (.pair (.pair (.int .i64) (.pair (.int .i64) (.unit))) (.pair (.int .i64) (.pair (.int .i64) (.pair (.bool) (.pair (.int .i64) (.unit))))))))))), (8, .obj (.box (.val (.pair (.pair (.int .i64) (.pair (.int .i64) (.unit))) (.pair (.pair (.int .i64) (.pair (.int .i64) (.unit))) (.pair (.pair (.int .i64) (.pair (.int .i64) (.unit))) (.pair (.int .i64) (.pair (.int .i64) (.pair (.bool) (.pair (.int .i64) (.unit))))))))))), (10, .obj (.val (.int .i64)))], [(.normal, [(2, .obj (.val (.int .i64))), (6, .obj (.box (.val (.pair (.pair (.int .i64) (.pair (.int .i64) (.unit))) (.pair (.pair (.int .i64) (.pair (.int .i64) (.unit))) (.pair (.pair (.int .i64) (.pair (.int .i64) (.unit))) (.pair (.int .i64) (.pair (.int .i64) (.pair (.bool) (.pair (.int .i64) (.unit))))))))))), (8, .obj (.box (.val (.pair (.pair (.int .i64) (.pair (.int .i64) (.unit))) (.pair (.pair (.int .i64) (.pair (.int .i64) (.unit))) (.pair (.pair (.int .i64) (.pair (.int .i64) (.unit))) (.pair (.int .i64) (.pair (.int .i64) (.pair (.bool) (.pair (.int .i64) (.unit))))))))))), (10, .obj (.val (.int .i64)))])], fun _ x => c22_15 k x.1 x.2.1 x.2.2.1 x.2.2.2.1 x.2.2.2.2.1⟩
noncomputable def c22_12 (k : Nat) (s2 : Int) (s3 : (List (Int × Int × Unit)) × Int × Int × Unit) (s6 : (Int × Int × Unit) × (Int × Int × Unit) × (Int × Int × Unit) × Int × Int × Bool × Int × Unit) (s8 : (Int × Int × Unit) × (Int × Int × Unit) × (Int × Int × Unit) × Int × Int × Bool × Int × Unit) (s10 : Int) (s11 : Int × Int × Unit) : Option ((Int × ((Int × Int × Unit) × (Int × Int × Unit) × (Int × Int × Unit) × Int × Int × Bool × Int × Unit) × ((Int × Int × Unit) × (Int × Int × Unit) × (Int × Int × Unit) × Int × Int × Bool × Int × Unit) × Int × Unit)) :=
  bif decide (s11.1 > 0) then
    bif s10 == 0 then
      bif decide (s8.2.1.1 ≥ s11.1) then
        bif s10 == 0 then
          bif s10 == 0 then
            bif s10 == 0 then
              (c22_15 k s2 s3 s6 (s8.1, (0, s8.2.1.2), (w64 (s8.2.2.1.1 + 1), s8.2.2.1.2), s8.2.2.2) s10).bind fun o1 =>
              some o1
            else
            bif s10 == 1 then
              (c22_15 k s2 s3 s6 (s8.1, (s8.2.1.1, 0, ()), (w64 (s8.2.2.1.1 + 1), s8.2.2.1.2), s8.2.2.2) s10).bind fun o2 =>
              some o2
            else
              none
          else
          bif s10 == 1 then
            bif s10 == 0 then
              (c22_15 k s2 s3 s6 (s8.1, (0, s8.2.1.2), (s8.2.2.1.1, w64 (s8.2.2.1.1 + 1), ()), s8.2.2.2) s10).bind fun o3 =>
              some o3
            else
            bif s10 == 1 then
              (c22_15 k s2 s3 s6 (s8.1, (s8.2.1.1, 0, ()), (s8.2.2.1.1, w64 (s8.2.2.1.1 + 1), ()), s8.2.2.2) s10).bind fun o4 =>
              some o4
            else
              none
          else
            none
        else
        bif s10 == 1 then
          bif s10 == 0 then
            bif s10 == 0 then
              (c22_15 k s2 s3 s6 (s8.1, (0, s8.2.1.2), (w64 (s8.2.2.1.2.1 + 1), s8.2.2.1.2), s8.2.2.2) s10).bind fun o5 =>
              some o5
            else
            bif s10 == 1 then
              (c22_15 k s2 s3 s6 (s8.1, (s8.2.1.1, 0, ()), (w64 (s8.2.2.1.2.1 + 1), s8.2.2.1.2), s8.2.2.2) s10).bind fun o6 =>
              some o6
            else
              none
          else
          bif s10 == 1 then
            bif s10 == 0 then
              (c22_15 k s2 s3 s6 (s8.1, (0, s8.2.1.2), (s8.2.2.1.1, w64 (s8.2.2.1.2.1 + 1), ()), s8.2.2.2) s10).bind fun o7 =>
              some o7
            else
            bif s10 == 1 then
              (c22_15 k s2 s3 s6 (s8.1, (s8.2.1.1, 0, ()), (s8.2.2.1.1, w64 (s8.2.2.1.2.1 + 1), ()), s8.2.2.2) s10).bind fun o8 =>
              some o8
            else
              none
          else
            none
        else
          none
      else
        some (s2, s6, s8, s10, ())
    else
    bif s10 == 1 then
      bif decide (s8.2.1.2.1 ≥ s11.1) then
        bif s10 == 0 then
          bif s10 == 0 then
            bif s10 == 0 then
              (c22_15 k s2 s3 s6 (s8.1, (0, s8.2.1.2), (w64 (s8.2.2.1.1 + 1), s8.2.2.1.2), s8.2.2.2) s10).bind fun o9 =>
              some o9
            else
            bif s10 == 1 then
              (c22_15 k s2 s3 s6 (s8.1, (s8.2.1.1, 0, ()), (w64 (s8.2.2.1.1 + 1), s8.2.2.1.2), s8.2.2.2) s10).bind fun o10 =>
              some o10
            else
              none
          else
          bif s10 == 1 then
            bif s10 == 0 then
              (c22_15 k s2 s3 s6 (s8.1, (0, s8.2.1.2), (s8.2.2.1.1, w64 (s8.2.2.1.1 + 1), ()), s8.2.2.2) s10).bind fun o11 =>
              some o11
            else
            bif s10 == 1 then
              (c22_15 k s2 s3 s6 (s8.1, (s8.2.1.1, 0, ()), (s8.2.2.1.1, w64 (s8.2.2.1.1 + 1), ()), s8.2.2.2) s10).bind fun o12 =>
              some o12
            else
              none
          else
            none
        else
        bif s10 == 1 then
          bif s10 == 0 then
            bif s10 == 0 then
              (c22_15 k s2 s3 s6 (s8.1, (0, s8.2.1.2), (w64 (s8.2.2.1.2.1 + 1), s8.2.2.1.2), s8.2.2.2) s10).bind fun o13 =>
              some o13
            else
            bif s10 == 1 then
              (c22_15 k s2 s3 s6 (s8.1, (s8.2.1.1, 0, ()), (w64 (s8.2.2.1.2.1 + 1), s8.2.2.1.2), s8.2.2.2) s10).bind fun o14 =>
              some o14
            else
              none
          else
          bif s10 == 1 then
            bif s10 == 0 then
              (c22_15 k s2 s3 s6 (s8.1, (0, s8.2.1.2), (s8.2.2.1.1, w64 (s8.2.2.1.2.1 + 1), ()), s8.2.2.2) s10).bind fun o15 =>
              some o15
            else
            bif s10 == 1 then
              (c22_15 k s2 s3 s6 (s8.1, (s8.2.1.1, 0, ()), (s8.2.2.1.1, w64 (s8.2.2.1.2.1 + 1), ()), s8.2.2.2) s10).bind fun o16 =>
              some o16
            else
              none
          else
            none
        else
          none
      else
        some (s2, s6, s8, s10, ())
    else
      none
  else
    some (s2, s6, s8, s10, ())
noncomputable def c22_12_sig (k : Nat) : LoopSig := ⟨[(2, .obj (.val (.int .i64))), (3, .obj (.box (.val (.pair (.sl (.pair (.int .i64) (.pair (.int .i64) (.unit)))) (.pair (.int .i64) (.pair (.int .i64) (.unit))))))), (6, .obj (.box (.val (.pair (.pair (.int .i64) (.pair (.int .i64) (.unit))) (.pair (.pair (.int .i64) (.pair (.int .i64) (.unit))) (.pair (.pair (.int .i64) (.pair (.int .i64) (.unit))) (.pair (.int .i64) (.pair (.int .i64) (.pair (.bool) (.pair (.int .i64) (.unit))))))))))), (8, .obj (.box (.val (.pair (.pair (.int .i64) (.pair (.int .i64) (.unit))) (.pair (.pair (.int .i64) (.pair (.int .i64) (.unit))) (.pair (.pair (.int .i64) (.pair (.int .i64) (.unit))) (.pair (.int .i64) (.pair (.int .i64) (.pair (.bool) (.pair (.int .i64) (.unit))))))))))), (10, .obj (.val (.int .i64))), (11, .obj (.box (.val (.pair (.int .i64) (.pair (.int .i64) (.unit))))))], [(.normal, [(2, .obj (.val (.int .i64))), (6, .obj (.box (.val (.pair (.pair (.int .i64) (.pair (.int .i64) (.unit))) (.pair (.pair (.int .i64) (.pair (.int .i64) (.unit))) (.pair (.pair (.int .i64) (.pair (.int .i64) (.unit))) (.pair (.int .i64) (.pair (.int .i64) (.pair (.bool) (.pair (.int .i64) (.unit))))))))))), (8, .obj (.box (.val (.pair (.pair (.int .i64) (.pair (.int .i64) (.unit))) (.pair (.pair (.int .i64) (.pair (.int .i64) (.unit))) (.pair (.pair (.int .i64) (.pair (.int .i64) (.unit))) (.pair (.int .i64) (.pair (.int .i64) (.pair (.bool) (.pair (.int .i64) (.unit))))))))))), (10, .obj (.val (.int .i64)))])], fun _ x => c22_12 k x.1 x.2.1 x.2.2.1 x.2.2.2.1 x.2.2.2.2.1 x.2.2.2.2.2.1⟩
noncomputable def c22_11 (k : Nat) (s2 : Int) (s3 : (List (Int × Int × Unit)) × Int × Int × Unit) (s6 : (Int × Int × Unit) × (Int × Int × Unit) × (Int × Int × Unit) × Int × Int × Bool × Int × Unit) (s8 : (Int × Int × Unit) × (Int × Int × Unit) × (Int × Int × Unit) × Int × Int × Bool × Int × Unit) (s10 : Int) : Option ((((Int × Int × Unit) × (Int × Int × Unit) × (Int × Int × Unit) × Int × Int × Bool × Int × Unit) × Int × Unit)) :=
  bif s10 == 0 then
    bif decide (0 ≤ s8.2.2.1.1) && decide (s8.2.2.1.1 < (s3.1.length : Int)) then
      (c22_12 k s2 s3 s6 s8 s10 (rd ((0, 0, ()) : Int × Int × Unit) s3.1 s8.2.2.1.1)).bind fun o1 =>
      bif o1.2.2.2.1 == 0 then
        bif o1.2.2.2.1 == 0 then
          some (((if 100000000000 < o1.2.2.1.1.1 then 100000000000 else o1.2.2.1.1.1, o1.2.2.1.1.2), o1.2.2.1.2.1, o1.2.2.1.2.2.1, w64 (1 - o1.2.2.2.1), o1.1, o1.2.2.1.2.2.2.2.2), 0, ())
        else
        bif o1.2.2.2.1 == 1 then
          some (((o1.2.2.1.1.1, if 100000000000 < o1.2.2.1.1.1 then 100000000000 else o1.2.2.1.1.1, ()), o1.2.2.1.2.1, o1.2.2.1.2.2.1, w64 (1 - o1.2.2.2.1), o1.1, o1.2.2.1.2.2.2.2.2), 0, ())
        else
          none
      else
      bif o1.2.2.2.1 == 1 then
        bif o1.2.2.2.1 == 0 then
          some (((if 100000000000 < o1.2.2.1.1.2.1 then 100000000000 else o1.2.2.1.1.2.1, o1.2.2.1.1.2), o1.2.2.1.2.1, o1.2.2.1.2.2.1, w64 (1 - o1.2.2.2.1), o1.1, o1.2.2.1.2.2.2.2.2), 0, ())
        else
        bif o1.2.2.2.1 == 1 then
          some (((o1.2.2.1.1.1, if 100000000000 < o1.2.2.1.1.2.1 then 100000000000 else o1.2.2.1.1.2.1, ()), o1.2.2.1.2.1, o1.2.2.1.2.2.1, w64 (1 - o1.2.2.2.1), o1.1, o1.2.2.1.2.2.2.2.2), 0, ())
        else
          none
      else
        none
    else
      none
  else
  bif s10 == 1 then
    bif decide (0 ≤ s8.2.2.1.2.1) && decide (s8.2.2.1.2.1 < (s3.1.length : Int)) then
      (c22_12 k s2 s3 s6 s8 s10 (rd ((0, 0, ()) : Int × Int × Unit) s3.1 s8.2.2.1.2.1)).bind fun o2 =>
      bif o2.2.2.2.1 == 0 then
        bif o2.2.2.2.1 == 0 then
          some (((if 100000000000 < o2.2.2.1.1.1 then 100000000000 else o2.2.2.1.1.1, o2.2.2.1.1.2), o2.2.2.1.2.1, o2.2.2.1.2.2.1, w64 (1 - o2.2.2.2.1), o2.1, o2.2.2.1.2.2.2.2.2), 0, ())
        else
        bif o2.2.2.2.1 == 1 then
          some (((o2.2.2.1.1.1, if 100000000000 < o2.2.2.1.1.1 then 100000000000 else o2.2.2.1.1.1, ()), o2.2.2.1.2.1, o2.2.2.1.2.2.1, w64 (1 - o2.2.2.2.1), o2.1, o2.2.2.1.2.2.2.2.2), 0, ())
        else
          none
      else
      bif o2.2.2.2.1 == 1 then
        bif o2.2.2.2.1 == 0 then
          some (((if 100000000000 < o2.2.2.1.1.2.1 then 100000000000 else o2.2.2.1.1.2.1, o2.2.2.1.1.2), o2.2.2.1.2.1, o2.2.2.1.2.2.1, w64 (1 - o2.2.2.2.1), o2.1, o2.2.2.1.2.2.2.2.2), 0, ())
        else
        bif o2.2.2.2.1 == 1 then
          some (((o2.2.2.1.1.1, if 100000000000 < o2.2.2.1.1.2.1 then 100000000000 else o2.2.2.1.1.2.1, ()), o2.2.2.1.2.1, o2.2.2.1.2.2.1, w64 (1 - o2.2.2.2.1), o2.1, o2.2.2.1.2.2.2.2.2), 0, ())
        else
          none
      else
        none
    else
      none
  else
    none
noncomputable def c22_11_sig (k : Nat) : LoopSig := ⟨[(2, .obj (.val (.int .i64))), (3, .obj (.box (.val (.pair (.sl (.pair (.int .i64) (.pair (.int .i64) (.unit)))) (.pair (.int .i64) (.pair (.int .i64) (.unit))))))), (6, .obj (.box (.val (.pair (.pair (.int .i64) (.pair (.int .i64) (.unit))) (.pair (.pair (.int .i64) (.pair (.int .i64) (.unit))) (.pair (.pair (.int .i64) (.pair (.int .i64) (.unit))) (.pair (.int .i64) (.pair (.int .i64) (.pair (.bool) (.pair (.int .i64) (.unit))))))))))), (8, .obj (.box (.val (.pair (.pair (.int .i64) (.pair (.int .i64) (.unit))) (.pair (.pair (.int .i64) (.pair (.int .i64) (.unit))) (.pair (.pair (.int .i64) (.pair (.int .i64) (.unit))) (.pair (.int .i64) (.pair (.int .i64) (.pair (.bool) (.pair (.int .i64) (.unit))))))))))), (10, .obj (.val (.int .i64)))], [(.ret, [(6, .obj (.box (.val (.pair (.pair (.int .i64) (.pair (.int .i64) (.unit))) (.pair (.pair (.int .i64) (.pair (.int .i64) (.unit))) (.pair (.pair (.int .i64) (.pair (.int .i64) (.unit))) (.pair (.int .i64) (.pair (.int .i64) (.pair (.bool) (.pair (.int .i64) (.unit))))))))))), (7, .obj (.val (.int .i64)))])], fun _ x => c22_11 k x.1 x.2.1 x.2.2.1 x.2.2.2.1 x.2.2.2.2.1⟩
noncomputable def f22 (k : Nat) (x0 : (List (Int × Int × Unit)) × Int × Int × Unit) (x1 : (Int × Int × Unit) × (Int × Int × Unit) × (Int × Int × Unit) × Int × Int × Bool × Int × Unit) (x2 : Int) : Option ((((Int × Int × Unit) × (Int × Int × Unit) × (Int × Int × Unit) × Int × Int × Bool × Int × Unit) × Int × Unit)) :=
  (f28 k x0 x1 x2).bind fun r1 =>
  bif r1.2.1 != 0 then
    some (((0, 0, ()), (0, 0, ()), (0, 0, ()), 0, 0, false, 0, ()), r1.2)
  else
  bif decide (r1.1.2.2.2.2.2.2.1 ≥ 0) then
    some (((0, 0, ()), (0, 0, ()), (0, 0, ()), 0, 0, false, 0, ()), 14, ())
  else
  bif r1.1.2.2.2.2.2.1 then
    some (((0, 0, ()), (0, 0, ()), (0, 0, ()), 0, 0, false, 0, ()), 10, ())
  else
  bif r1.1.2.2.2.1 == 0 then
    (f45 k x0 r1.1 x2).bind fun r2 =>
    bif r1.1.2.2.2.1 == 0 then
      bif r1.1.2.2.2.1 == 0 then
        bif r1.1.2.2.2.1 == 0 then
          (c22_11 k x2 x0 ((0, 0, ()), (0, 0, ()), (0, 0, ()), 0, 0, false, 0, ()) ((w64 (r1.1.1.1 + (w64 (x0.2.1 - r2.1))), r1.1.1.2), (if 400 < (w64 (r1.1.2.1.1 + 1)) then 400 else w64 (r1.1.2.1.1 + 1), r1.1.2.1.2), r1.1.2.2) r1.1.2.2.2.1).bind fun o3 =>
          some o3
        else
        bif r1.1.2.2.2.1 == 1 then
          (c22_11 k x2 x0 ((0, 0, ()), (0, 0, ()), (0, 0, ()), 0, 0, false, 0, ()) ((w64 (r1.1.1.1 + (w64 (x0.2.1 - r2.1))), r1.1.1.2), (r1.1.2.1.1, if 400 < (w64 (r1.1.2.1.1 + 1)) then 400 else w64 (r1.1.2.1.1 + 1), ()), r1.1.2.2) r1.1.2.2.2.1).bind fun o4 =>
          some o4
        else
          none
      else
      bif r1.1.2.2.2.1 == 1 then
        bif r1.1.2.2.2.1 == 0 then
          (c22_11 k x2 x0 ((0, 0, ()), (0, 0, ()), (0, 0, ()), 0, 0, false, 0, ()) ((w64 (r1.1.1.1 + (w64 (x0.2.1 - r2.1))), r1.1.1.2), (if 400 < (w64 (r1.1.2.1.2.1 + 1)) then 400 else w64 (r1.1.2.1.2.1 + 1), r1.1.2.1.2), r1.1.2.2) r1.1.2.2.2.1).bind fun o5 =>
          some o5
        else
        bif r1.1.2.2.2.1 == 1 then
          (c22_11 k x2 x0 ((0, 0, ()), (0, 0, ()), (0, 0, ()), 0, 0, false, 0, ()) ((w64 (r1.1.1.1 + (w64 (x0.2.1 - r2.1))), r1.1.1.2), (r1.1.2.1.1, if 400 < (w64 (r1.1.2.1.2.1 + 1)) then 400 else w64 (r1.1.2.1.2.1 + 1), ()), r1.1.2.2) r1.1.2.2.2.1).bind fun o6 =>
          some o6
        else
          none
      else
        none
    else
    bif r1.1.2.2.2.1 == 1 then
      bif r1.1.2.2.2.1 == 0 then
        bif r1.1.2.2.2.1 == 0 then
          (c22_11 k x2 x0 ((0, 0, ()), (0, 0, ()), (0, 0, ()), 0, 0, false, 0, ()) ((r1.1.1.1, w64 (r1.1.1.1 + (w64 (x0.2.1 - r2.1))), ()), (if 400 < (w64 (r1.1.2.1.1 + 1)) then 400 else w64 (r1.1.2.1.1 + 1), r1.1.2.1.2), r1.1.2.2) r1.1.2.2.2.1).bind fun o7 =>
          some o7
        else
        bif r1.1.2.2.2.1 == 1 then
          (c22_11 k x2 x0 ((0, 0, ()), (0, 0, ()), (0, 0, ()), 0, 0, false, 0, ()) ((r1.1.1.1, w64 (r1.1.1.1 + (w64 (x0.2.1 - r2.1))), ()), (r1.1.2.1.1, if 400 < (w64 (r1.1.2.1.1 + 1)) then 400 else w64 (r1.1.2.1.1 + 1), ()), r1.1.2.2) r1.1.2.2.2.1).bind fun o8 =>
          some o8
        else
          none
      else
      bif r1.1.2.2.2.1 == 1 then
        bif r1.1.2.2.2.1 == 0 then
          (c22_11 k x2 x0 ((0, 0, ()), (0, 0, ()), (0, 0, ()), 0, 0, false, 0, ()) ((r1.1.1.1, w64 (r1.1.1.1 + (w64 (x0.2.1 - r2.1))), ()), (if 400 < (w64 (r1.1.2.1.2.1 + 1)) then 400 else w64 (r1.1.2.1.2.1 + 1), r1.1.2.1.2), r1.1.2.2) r1.1.2.2.2.1).bind fun o9 =>
          some o9
        else
        bif r1.1.2.2.2.1 == 1 then
          (c22_11 k x2 x0 ((0, 0, ()), (0, 0, ()), (0, 0, ()), 0, 0, false, 0, ()) ((r1.1.1.1, w64 (r1.1.1.1 + (w64 (x0.2.1 - r2.1))), ()), (r1.1.2.1.1, if 400 < (w64 (r1.1.2.1.2.1 + 1)) then 400 else w64 (r1.1.2.1.2.1 + 1), ()), r1.1.2.2) r1.1.2.2.2.1).bind fun o10 =>
          some o10
        else
          none
      else
        none
    else
      none
  else
  bif r1.1.2.2.2.1 == 1 then
    (f45 k x0 r1.1 x2).bind fun r11 =>
    bif r1.1.2.2.2.1 == 0 then
      bif r1.1.2.2.2.1 == 0 then
        bif r1.1.2.2.2.1 == 0 then
          (c22_11 k x2 x0 ((0, 0, ()), (0, 0, ()), (0, 0, ()), 0, 0, false, 0, ()) ((w64 (r1.1.1.2.1 + (w64 (x0.2.1 - r11.1))), r1.1.1.2), (if 400 < (w64 (r1.1.2.1.1 + 1)) then 400 else w64 (r1.1.2.1.1 + 1), r1.1.2.1.2), r1.1.2.2) r1.1.2.2.2.1).bind fun o12 =>
          some o12
        else
        bif r1.1.2.2.2.1 == 1 then
          (c22_11 k x2 x0 ((0, 0, ()), (0, 0, ()), (0, 0, ()), 0, 0, false, 0, ()) ((w64 (r1.1.1.2.1 + (w64 (x0.2.1 - r11.1))), r1.1.1.2), (r1.1.2.1.1, if 400 < (w64 (r1.1.2.1.1 + 1)) then 400 else w64 (r1.1.2.1.1 + 1), ()), r1.1.2.2) r1.1.2.2.2.1).bind fun o13 =>
          some o13
        else
          none
      else
      bif r1.1.2.2.2.1 == 1 then
        bif r1.1.2.2.2.1 == 0 then
          (c22_11 k x2 x0 ((0, 0, ()), (0, 0, ()), (0, 0, ()), 0, 0, false, 0, ()) ((w64 (r1.1.1.2.1 + (w64 (x0.2.1 - r11.1))), r1.1.1.2), (if 400 < (w64 (r1.1.2.1.2.1 + 1)) then 400 else w64 (r1.1.2.1.2.1 + 1), r1.1.2.1.2), r1.1.2.2) r1.1.2.2.2.1).bind fun o14 =>
          some o14
        else
        bif r1.1.2.2.2.1 == 1 then
          (c22_11 k x2 x0 ((0, 0, ()), (0, 0, ()), (0, 0, ()), 0, 0, false, 0, ()) ((w64 (r1.1.1.2.1 + (w64 (x0.2.1 - r11.1))), r1.1.1.2), (r1.1.2.1.1, if 400 < (w64 (r1.1.2.1.2.1 + 1)) then 400 else w64 (r1.1.2.1.2.1 + 1), ()), r1.1.2.2) r1.1.2.2.2.1).bind fun o15 =>
          some o15
        else
          none
      else
        none
    else
    bif r1.1.2.2.2.1 == 1 then
      bif r1.1.2.2.2.1 == 0 then
        bif r1.1.2.2.2.1 == 0 then
          (c22_11 k x2 x0 ((0, 0, ()), (0, 0, ()), (0, 0, ()), 0, 0, false, 0, ()) ((r1.1.1.1, w64 (r1.1.1.2.1 + (w64 (x0.2.1 - r11.1))), ()), (if 400 < (w64 (r1.1.2.1.1 + 1)) then 400 else w64 (r1.1.2.1.1 + 1), r1.1.2.1.2), r1.1.2.2) r1.1.2.2.2.1).bind fun o16 =>
          some o16
        else
        bif r1.1.2.2.2.1 == 1 then
          (c22_11 k x2 x0 ((0, 0, ()), (0, 0, ()), (0, 0, ()), 0, 0, false, 0, ()) ((r1.1.1.1, w64 (r1.1.1.2.1 + (w64 (x0.2.1 - r11.1))), ()), (r1.1.2.1.1, if 400 < (w64 (r1.1.2.1.1 + 1)) then 400 else w64 (r1.1.2.1.1 + 1), ()), r1.1.2.2) r1.1.2.2.2.1).bind fun o17 =>
          some o17
        else
          none
      else
      bif r1.1.2.2.2.1 == 1 then
        bif r1.1.2.2.2.1 == 0 then
          (c22_11 k x2 x0 ((0, 0, ()), (0, 0, ()), (0, 0, ()), 0, 0, false, 0, ()) ((r1.1.1.1, w64 (r1.1.1.2.1 + (w64 (x0.2.1 - r11.1))), ()), (if 400 < (w64 (r1.1.2.1.2.1 + 1)) then 400 else w64 (r1.1.2.1.2.1 + 1), r1.1.2.1.2), r1.1.2.2) r1.1.2.2.2.1).bind fun o18 =>
          some o18
        else
        bif r1.1.2.2.2.1 == 1 then
          (c22_11 k x2 x0 ((0, 0, ()), (0, 0, ()), (0, 0, ()), 0, 0, false, 0, ()) ((r1.1.1.1, w64 (r1.1.1.2.1 + (w64 (x0.2.1 - r11.1))), ()), (r1.1.2.1.1, if 400 < (w64 (r1.1.2.1.2.1 + 1)) then 400 else w64 (r1.1.2.1.2.1 + 1), ()), r1.1.2.2) r1.1.2.2.2.1).bind fun o19 =>
          some o19
        else
          none
      else
        none
    else
      none
  else
    none
noncomputable def f22_sig (k : Nat) : Sig := ⟨[.val (.pair (.sl (.pair (.int .i64) (.pair (.int .i64) (.unit)))) (.pair (.int .i64) (.pair (.int .i64) (.unit)))), .val (.pair (.pair (.int .i64) (.pair (.int .i64) (.unit))) (.pair (.pair (.int .i64) (.pair (.int .i64) (.unit))) (.pair (.pair (.int .i64) (.pair (.int .i64) (.unit))) (.pair (.int .i64) (.pair (.int .i64) (.pair (.bool) (.pair (.int .i64) (.unit)))))))), .val (.int .i64)], [], [[.val (.pair (.pair (.int .i64) (.pair (.int .i64) (.unit))) (.pair (.pair (.int .i64) (.pair (.int .i64) (.unit))) (.pair (.pair (.int .i64) (.pair (.int .i64) (.unit))) (.pair (.int .i64) (.pair (.int .i64) (.pair (.bool) (.pair (.int .i64) (.unit)))))))), .val (.int .i64)]], fun x => f22 k x.1 x.2.1 x.2.2.1⟩
noncomputable def E_f22 (k : Nat) : Env := ⟨Try.prog, scons 45 [f45_sig k] (scons 28 [f28_sig k] (snil)), tnil, tcons 11 (c22_11_sig k) (tcons 12 (c22_12_sig k) (tcons 15 (c22_15_sig k) (tnil))), unil, k⟩
theorem c22_15_ok (k : Nat) : CutOK (E_f22 k) ⟨Try.f22.ntmps, []⟩ (nthC 15 (seqsIn (Try.f22.body.getD .skip))) :=
  cut_ok (ls := c22_15_sig k) (by kernel_rfl) (fun x => by kernel_rfl)
theorem c22_12_ok (k : Nat) : CutOK (E_f22 k) ⟨Try.f22.ntmps, []⟩ (nthC 12 (seqsIn (Try.f22.body.getD .skip))) :=
  cut_ok (ls := c22_12_sig k) (by kernel_rfl) (fun x => by kernel_rfl)
theorem c22_11_ok (k : Nat) : CutOK (E_f22 k) ⟨Try.f22.ntmps, []⟩ (nthC 11 (seqsIn (Try.f22.body.getD .skip))) :=
  cut_ok (ls := c22_11_sig k) (by kernel_rfl) (fun x => by kernel_rfl)
theorem f22_run (k : Nat) (x : (lTy (lay 0 (f22_sig k).ins)).den) : runF (E_f22 k) Try.f22 (f22_sig k) x = (f22_sig k).F x := by kernel_rfl
theorem f22_ok (k : Nat) : FnOK Try.prog 22 (f22_sig k) :=
  fn_ok2 (E := E_f22 k) (env_cons (one_sig (f45_ok k)) (env_cons (one_sig (f28_ok k)) (env_nil))) mixed Try.func22 Try.call22 (by kernel_rfl) (by kernel_rfl) (m := 0) (by kernel_rfl) trivial (sk := [11, 12, 15]) (by kernel_rfl) ⟨c22_11_ok k, ⟨c22_12_ok k, ⟨c22_15_ok k, trivial⟩⟩⟩ (f22_run k)

/-! ### gamehall/gamehallkeep3.ClockDelays: function 5 -/
noncomputable def f5 (k : Nat) (x0 : (List (Int × Int × Unit)) × Int × Int × Unit) (x1 : (Int × Int × Unit) × (Int × Int × Unit) × (Int × Int × Unit) × Int × Int × Bool × Int × Unit) (x2 : Int) (x3 : Int) : Option ((Bool × Unit)) :=
  (f20 k).bind fun r1 =>
  bif !r1.1 then
    some (false, ())
  else
    (f22 k x0 x1 x3).bind fun r2 =>
    bif r2.2.1 != 0 then
      some (((r2.1.1.1 == 0) && ((r2.1.1.2.1 == 0) && true)) && (((r2.1.2.1.1 == 0) && ((r2.1.2.1.2.1 == 0) && true)) && (((r2.1.2.2.1.1 == 0) && ((r2.1.2.2.1.2.1 == 0) && true)) && ((r2.1.2.2.2.1 == 0) && ((r2.1.2.2.2.2.1 == 0) && ((r2.1.2.2.2.2.2.1 == false) && ((r2.1.2.2.2.2.2.2.1 == 0) && true)))))), ())
    else
      (f22 k (x0.1, x0.2.1, if 100000000 < (w64 (x0.2.2.1 + (if (if 1000 < x2 then 1000 else x2) > 0 then if 1000 < x2 then 1000 else x2 else 0))) then 100000000 else w64 (x0.2.2.1 + (if (if 1000 < x2 then 1000 else x2) > 0 then if 1000 < x2 then 1000 else x2 else 0)), ()) x1 x3).bind fun r3 =>
      bif r3.2.1 == 0 then
        bif x1.2.2.2.1 == 0 then
          bif x1.2.2.2.1 == 0 then
            bif decide (r3.1.1.1 ≥ r2.1.1.1) then
              bif (w64 (1 - x1.2.2.2.1)) == 0 then
                bif (w64 (1 - x1.2.2.2.1)) == 0 then
                  bif r3.1.1.1 == r2.1.1.1 then
                    some ((r3.1.2.1.1 == r2.1.2.1.1) && ((r3.1.2.1.2.1 == r2.1.2.1.2.1) && true), ())
                  else
                    some (false, ())
                else
                bif (w64 (1 - x1.2.2.2.1)) == 1 then
                  bif r3.1.1.1 == r2.1.1.2.1 then
                    some ((r3.1.2.1.1 == r2.1.2.1.1) && ((r3.1.2.1.2.1 == r2.1.2.1.2.1) && true), ())
                  else
                    some (false, ())
                else
                  none
              else
              bif (w64 (1 - x1.2.2.2.1)) == 1 then
                bif (w64 (1 - x1.2.2.2.1)) == 0 then
                  bif r3.1.1.2.1 == r2.1.1.1 then
                    some ((r3.1.2.1.1 == r2.1.2.1.1) && ((r3.1.2.1.2.1 == r2.1.2.1.2.1) && true), ())
                  else
                    some (false, ())
                else
                bif (w64 (1 - x1.2.2.2.1)) == 1 then
                  bif r3.1.1.2.1 == r2.1.1.2.1 then
                    some ((r3.1.2.1.1 == r2.1.2.1.1) && ((r3.1.2.1.2.1 == r2.1.2.1.2.1) && true), ())
                  else
                    some (false, ())
                else
                  none
              else
                none
            else
              some (false, ())
          else
          bif x1.2.2.2.1 == 1 then
            bif decide (r3.1.1.1 ≥ r2.1.1.2.1) then
              bif (w64 (1 - x1.2.2.2.1)) == 0 then
                bif (w64 (1 - x1.2.2.2.1)) == 0 then
                  bif r3.1.1.1 == r2.1.1.1 then
                    some ((r3.1.2.1.1 == r2.1.2.1.1) && ((r3.1.2.1.2.1 == r2.1.2.1.2.1) && true), ())
                  else
                    some (false, ())
                else
                bif (w64 (1 - x1.2.2.2.1)) == 1 then
                  bif r3.1.1.1 == r2.1.1.2.1 then
                    some ((r3.1.2.1.1 == r2.1.2.1.1) && ((r3.1.2.1.2.1 == r2.1.2.1.2.1) && true), ())
                  else
                    some (false, ())
                else
                  none
              else
              bif (w64 (1 - x1.2.2.2.1)) == 1 then
                bif (w64 (1 - x1.2.2.2.1)) == 0 then
                  bif r3.1.1.2.1 == r2.1.1.1 then
                    some ((r3.1.2.1.1 == r2.1.2.1.1) && ((r3.1.2.1.2.1 == r2.1.2.1.2.1) && true), ())
                  else
                    some (false, ())
                else
                bif (w64 (1 - x1.2.2.2.1)) == 1 then
                  bif r3.1.1.2.1 == r2.1.1.2.1 then
                    some ((r3.1.2.1.1 == r2.1.2.1.1) && ((r3.1.2.1.2.1 == r2.1.2.1.2.1) && true), ())
                  else
                    some (false, ())
                else
                  none
              else
                none
            else
              some (false, ())
          else
            none
        else
        bif x1.2.2.2.1 == 1 then
          bif x1.2.2.2.1 == 0 then
            bif decide (r3.1.1.2.1 ≥ r2.1.1.1) then
              bif (w64 (1 - x1.2.2.2.1)) == 0 then
                bif (w64 (1 - x1.2.2.2.1)) == 0 then
                  bif r3.1.1.1 == r2.1.1.1 then
                    some ((r3.1.2.1.1 == r2.1.2.1.1) && ((r3.1.2.1.2.1 == r2.1.2.1.2.1) && true), ())
                  else
                    some (false, ())
                else
                bif (w64 (1 - x1.2.2.2.1)) == 1 then
                  bif r3.1.1.1 == r2.1.1.2.1 then
                    some ((r3.1.2.1.1 == r2.1.2.1.1) && ((r3.1.2.1.2.1 == r2.1.2.1.2.1) && true), ())
                  else
                    some (false, ())
                else
                  none
              else
              bif (w64 (1 - x1.2.2.2.1)) == 1 then
                bif (w64 (1 - x1.2.2.2.1)) == 0 then
                  bif r3.1.1.2.1 == r2.1.1.1 then
                    some ((r3.1.2.1.1 == r2.1.2.1.1) && ((r3.1.2.1.2.1 == r2.1.2.1.2.1) && true), ())
                  else
                    some (false, ())
                else
                bif (w64 (1 - x1.2.2.2.1)) == 1 then
                  bif r3.1.1.2.1 == r2.1.1.2.1 then
                    some ((r3.1.2.1.1 == r2.1.2.1.1) && ((r3.1.2.1.2.1 == r2.1.2.1.2.1) && true), ())
                  else
                    some (false, ())
                else
                  none
              else
                none
            else
              some (false, ())
          else
          bif x1.2.2.2.1 == 1 then
            bif decide (r3.1.1.2.1 ≥ r2.1.1.2.1) then
              bif (w64 (1 - x1.2.2.2.1)) == 0 then
                bif (w64 (1 - x1.2.2.2.1)) == 0 then
                  bif r3.1.1.1 == r2.1.1.1 then
                    some ((r3.1.2.1.1 == r2.1.2.1.1) && ((r3.1.2.1.2.1 == r2.1.2.1.2.1) && true), ())
                  else
                    some (false, ())
                else
                bif (w64 (1 - x1.2.2.2.1)) == 1 then
                  bif r3.1.1.1 == r2.1.1.2.1 then
                    some ((r3.1.2.1.1 == r2.1.2.1.1) && ((r3.1.2.1.2.1 == r2.1.2.1.2.1) && true), ())
                  else
                    some (false, ())
                else
                  none
              else
              bif (w64 (1 - x1.2.2.2.1)) == 1 then
                bif (w64 (1 - x1.2.2.2.1)) == 0 then
                  bif r3.1.1.2.1 == r2.1.1.1 then
                    some ((r3.1.2.1.1 == r2.1.2.1.1) && ((r3.1.2.1.2.1 == r2.1.2.1.2.1) && true), ())
                  else
                    some (false, ())
                else
                bif (w64 (1 - x1.2.2.2.1)) == 1 then
                  bif r3.1.1.2.1 == r2.1.1.2.1 then
                    some ((r3.1.2.1.1 == r2.1.2.1.1) && ((r3.1.2.1.2.1 == r2.1.2.1.2.1) && true), ())
                  else
                    some (false, ())
                else
                  none
              else
                none
            else
              some (false, ())
          else
            none
        else
          none
      else
        some (false, ())
noncomputable def f5_sig (k : Nat) : Sig := ⟨[.val (.pair (.sl (.pair (.int .i64) (.pair (.int .i64) (.unit)))) (.pair (.int .i64) (.pair (.int .i64) (.unit)))), .val (.pair (.pair (.int .i64) (.pair (.int .i64) (.unit))) (.pair (.pair (.int .i64) (.pair (.int .i64) (.unit))) (.pair (.pair (.int .i64) (.pair (.int .i64) (.unit))) (.pair (.int .i64) (.pair (.int .i64) (.pair (.bool) (.pair (.int .i64) (.unit)))))))), .val (.int .i64), .val (.int .i64)], [], [[.val (.bool)]], fun x => f5 k x.1 x.2.1 x.2.2.1 x.2.2.2.1⟩
noncomputable def E_f5 (k : Nat) : Env := ⟨Try.prog, scons 22 [f22_sig k] (scons 20 [f20_sig k] (snil)), tnil, tnil, unil, k⟩
theorem f5_run (k : Nat) (x : (lTy (lay 0 (f5_sig k).ins)).den) : runF (E_f5 k) Try.f5 (f5_sig k) x = (f5_sig k).F x := by kernel_rfl
theorem f5_ok (k : Nat) : FnOK Try.prog 5 (f5_sig k) :=
  fn_ok2 (E := E_f5 k) (env_cons (one_sig (f22_ok k)) (env_cons (one_sig (f20_ok k)) (env_nil))) mixed Try.func5 Try.call5 (by kernel_rfl) (by kernel_rfl) (m := 0) (by kernel_rfl) trivial (sk := []) (by kernel_rfl) trivial (f5_run k)

/-! ### gamehall/clock.Stop: function 23 -/
noncomputable def f23 (k : Nat) (x0 : (List (Int × Int × Unit)) × Int × Int × Unit) (x1 : (Int × Int × Unit) × (Int × Int × Unit) × (Int × Int × Unit) × Int × Int × Bool × Int × Unit) (x2 : Int) : Option ((((Int × Int × Unit) × (Int × Int × Unit) × (Int × Int × Unit) × Int × Int × Bool × Int × Unit) × Int × Unit)) :=
  (f28 k x0 x1 x2).bind fun r1 =>
  bif r1.2.1 != 0 then
    some (((0, 0, ()), (0, 0, ()), (0, 0, ()), 0, 0, false, 0, ()), r1.2)
  else
  bif decide (r1.1.2.2.2.2.2.2.1 ≥ 0) then
    some (((0, 0, ()), (0, 0, ()), (0, 0, ()), 0, 0, false, 0, ()), 14, ())
  else
  bif r1.1.2.2.2.2.2.1 then
    some (((0, 0, ()), (0, 0, ()), (0, 0, ()), 0, 0, false, 0, ()), 10, ())
  else
  bif r1.1.2.2.2.1 == 0 then
    (f45 k x0 r1.1 x2).bind fun r2 =>
    bif r1.1.2.2.2.1 == 0 then
      some (((w64 (r1.1.1.1 - r2.1), r1.1.1.2), r1.1.2.1, r1.1.2.2.1, r1.1.2.2.2.1, x2, true, r1.1.2.2.2.2.2.2), 0, ())
    else
    bif r1.1.2.2.2.1 == 1 then
      some (((r1.1.1.1, w64 (r1.1.1.1 - r2.1), ()), r1.1.2.1, r1.1.2.2.1, r1.1.2.2.2.1, x2, true, r1.1.2.2.2.2.2.2), 0, ())
    else
      none
  else
  bif r1.1.2.2.2.1 == 1 then
    (f45 k x0 r1.1 x2).bind fun r3 =>
    bif r1.1.2.2.2.1 == 0 then
      some (((w64 (r1.1.1.2.1 - r3.1), r1.1.1.2), r1.1.2.1, r1.1.2.2.1, r1.1.2.2.2.1, x2, true, r1.1.2.2.2.2.2.2), 0, ())
    else
    bif r1.1.2.2.2.1 == 1 then
      some (((r1.1.1.1, w64 (r1.1.1.2.1 - r3.1), ()), r1.1.2.1, r1.1.2.2.1, r1.1.2.2.2.1, x2, true, r1.1.2.2.2.2.2.2), 0, ())
    else
      none
  else
    none
noncomputable def f23_sig (k : Nat) : Sig := ⟨[.val (.pair (.sl (.pair (.int .i64) (.pair (.int .i64) (.unit)))) (.pair (.int .i64) (.pair (.int .i64) (.unit)))), .val (.pair (.pair (.int .i64) (.pair (.int .i64) (.unit))) (.pair (.pair (.int .i64) (.pair (.int .i64) (.unit))) (.pair (.pair (.int .i64) (.pair (.int .i64) (.unit))) (.pair (.int .i64) (.pair (.int .i64) (.pair (.bool) (.pair (.int .i64) (.unit)))))))), .val (.int .i64)], [], [[.val (.pair (.pair (.int .i64) (.pair (.int .i64) (.unit))) (.pair (.pair (.int .i64) (.pair (.int .i64) (.unit))) (.pair (.pair (.int .i64) (.pair (.int .i64) (.unit))) (.pair (.int .i64) (.pair (.int .i64) (.pair (.bool) (.pair (.int .i64) (.unit)))))))), .val (.int .i64)]], fun x => f23 k x.1 x.2.1 x.2.2.1⟩
noncomputable def E_f23 (k : Nat) : Env := ⟨Try.prog, scons 45 [f45_sig k] (scons 28 [f28_sig k] (snil)), tnil, tnil, unil, k⟩
theorem f23_run (k : Nat) (x : (lTy (lay 0 (f23_sig k).ins)).den) : runF (E_f23 k) Try.f23 (f23_sig k) x = (f23_sig k).F x := by kernel_rfl
theorem f23_ok (k : Nat) : FnOK Try.prog 23 (f23_sig k) :=
  fn_ok2 (E := E_f23 k) (env_cons (one_sig (f45_ok k)) (env_cons (one_sig (f28_ok k)) (env_nil))) mixed Try.func23 Try.call23 (by kernel_rfl) (by kernel_rfl) (m := 0) (by kernel_rfl) trivial (sk := []) (by kernel_rfl) trivial (f23_run k)

/-! ### gamehall/clock.Go: function 24 -/
noncomputable def f24 (k : Nat) (x0 : (List (Int × Int × Unit)) × Int × Int × Unit) (x1 : (Int × Int × Unit) × (Int × Int × Unit) × (Int × Int × Unit) × Int × Int × Bool × Int × Unit) (x2 : Int) : Option ((((Int × Int × Unit) × (Int × Int × Unit) × (Int × Int × Unit) × Int × Int × Bool × Int × Unit) × Int × Unit)) :=
  (f28 k x0 x1 x2).bind fun r1 =>
  bif r1.2.1 != 0 then
    some (((0, 0, ()), (0, 0, ()), (0, 0, ()), 0, 0, false, 0, ()), r1.2)
  else
  bif decide (r1.1.2.2.2.2.2.2.1 ≥ 0) then
    some (((0, 0, ()), (0, 0, ()), (0, 0, ()), 0, 0, false, 0, ()), 14, ())
  else
  bif !r1.1.2.2.2.2.2.1 then
    some (((0, 0, ()), (0, 0, ()), (0, 0, ()), 0, 0, false, 0, ()), 10, ())
  else
    some ((r1.1.1, r1.1.2.1, r1.1.2.2.1, r1.1.2.2.2.1, x2, false, r1.1.2.2.2.2.2.2), 0, ())
noncomputable def f24_sig (k : Nat) : Sig := ⟨[.val (.pair (.sl (.pair (.int .i64) (.pair (.int .i64) (.unit)))) (.pair (.int .i64) (.pair (.int .i64) (.unit)))), .val (.pair (.pair (.int .i64) (.pair (.int .i64) (.unit))) (.pair (.pair (.int .i64) (.pair (.int .i64) (.unit))) (.pair (.pair (.int .i64) (.pair (.int .i64) (.unit))) (.pair (.int .i64) (.pair (.int .i64) (.pair (.bool) (.pair (.int .i64) (.unit)))))))), .val (.int .i64)], [], [[.val (.pair (.pair (.int .i64) (.pair (.int .i64) (.unit))) (.pair (.pair (.int .i64) (.pair (.int .i64) (.unit))) (.pair (.pair (.int .i64) (.pair (.int .i64) (.unit))) (.pair (.int .i64) (.pair (.int .i64) (.pair (.bool) (.pair (.int .i64) (.unit)))))))), .val (.int .i64)]], fun x => f24 k x.1 x.2.1 x.2.2.1⟩
noncomputable def E_f24 (k : Nat) : Env := ⟨Try.prog, scons 28 [f28_sig k] (snil), tnil, tnil, unil, k⟩
theorem f24_run (k : Nat) (x : (lTy (lay 0 (f24_sig k).ins)).den) : runF (E_f24 k) Try.f24 (f24_sig k) x = (f24_sig k).F x := by kernel_rfl
theorem f24_ok (k : Nat) : FnOK Try.prog 24 (f24_sig k) :=
  fn_ok2 (E := E_f24 k) (env_cons (one_sig (f28_ok k)) (env_nil)) mixed Try.func24 Try.call24 (by kernel_rfl) (by kernel_rfl) (m := 0) (by kernel_rfl) trivial (sk := []) (by kernel_rfl) trivial (f24_run k)

/-! ### gamehall/gamehallkeep3.ClockAgain: function 6 -/
noncomputable def f6 (k : Nat) (x0 : (List (Int × Int × Unit)) × Int × Int × Unit) (x1 : (Int × Int × Unit) × (Int × Int × Unit) × (Int × Int × Unit) × Int × Int × Bool × Int × Unit) (x2 : Int) : Option ((Bool × Unit)) :=
  (f20 k).bind fun r1 =>
  bif !r1.1 then
    some (false, ())
  else
    (f23 k (x0.1, x0.2.1, 0, ()) x1 x2).bind fun r2 =>
    bif r2.2.1 != 0 then
      some (((r2.1.1.1 == 0) && ((r2.1.1.2.1 == 0) && true)) && (((r2.1.2.1.1 == 0) && ((r2.1.2.1.2.1 == 0) && true)) && (((r2.1.2.2.1.1 == 0) && ((r2.1.2.2.1.2.1 == 0) && true)) && ((r2.1.2.2.2.1 == 0) && ((r2.1.2.2.2.2.1 == 0) && ((r2.1.2.2.2.2.2.1 == false) && ((r2.1.2.2.2.2.2.2.1 == 0) && true)))))), ())
    else
      (f24 k (x0.1, x0.2.1, 0, ()) r2.1 x2).bind fun r3 =>
      (f21 k (x0.1, x0.2.1, 0, ()) x1 0 x2).bind fun r4 =>
      (f21 k (x0.1, x0.2.1, 0, ()) r3.1 0 x2).bind fun r5 =>
      bif r4.2.1 != 0 then
        some (false, ())
      else
      bif r5.2.1 != 0 then
        some (false, ())
      else
      bif r4.1 != r5.1 then
        some (false, ())
      else
        (f21 k (x0.1, x0.2.1, 0, ()) x1 1 x2).bind fun r6 =>
        (f21 k (x0.1, x0.2.1, 0, ()) r3.1 1 x2).bind fun r7 =>
        bif r6.2.1 != 0 then
          some (false, ())
        else
        bif r7.2.1 != 0 then
          some (false, ())
        else
        bif r6.1 != r7.1 then
          some (false, ())
        else
        bif r3.2.1 == 0 then
          bif r3.1.2.2.2.1 == x1.2.2.2.1 then
            some (!r3.1.2.2.2.2.2.1, ())
          else
            some (false, ())
        else
          some (false, ())
noncomputable def f6_sig (k : Nat) : Sig := ⟨[.val (.pair (.sl (.pair (.int .i64) (.pair (.int .i64) (.unit)))) (.pair (.int .i64) (.pair (.int .i64) (.unit)))), .val (.pair (.pair (.int .i64) (.pair (.int .i64) (.unit))) (.pair (.pair (.int .i64) (.pair (.int .i64) (.unit))) (.pair (.pair (.int .i64) (.pair (.int .i64) (.unit))) (.pair (.int .i64) (.pair (.int .i64) (.pair (.bool) (.pair (.int .i64) (.unit)))))))), .val (.int .i64)], [], [[.val (.bool)]], fun x => f6 k x.1 x.2.1 x.2.2.1⟩
noncomputable def E_f6 (k : Nat) : Env := ⟨Try.prog, scons 24 [f24_sig k] (scons 23 [f23_sig k] (scons 21 [f21_sig k] (scons 20 [f20_sig k] (snil)))), tnil, tnil, ucons 9 3 (unil), k⟩
theorem f6_run (k : Nat) (x : (lTy (lay 0 (f6_sig k).ins)).den) : runF (E_f6 k) Try.f6 (f6_sig k) x = (f6_sig k).F x := by kernel_rfl
theorem f6_ok (k : Nat) : FnOK Try.prog 6 (f6_sig k) :=
  fn_ok2 (E := E_f6 k) (env_cons (one_sig (f24_ok k)) (env_cons (one_sig (f23_ok k)) (env_cons (one_sig (f21_ok k)) (env_cons (one_sig (f20_ok k)) (env_nil))))) mixed Try.func6 Try.call6 (by kernel_rfl) (by kernel_rfl) (m := 1) (by kernel_rfl) ⟨trivial, loop_none (by kernel_rfl)⟩ (sk := []) (by kernel_rfl) trivial (f6_run k)

/-! ### gamehall/clock.Fall: function 27 -/
noncomputable def f27 (k : Nat) (x0 : (List (Int × Int × Unit)) × Int × Int × Unit) (x1 : (Int × Int × Unit) × (Int × Int × Unit) × (Int × Int × Unit) × Int × Int × Bool × Int × Unit) : Option ((Int × Int × Unit)) :=
  (f49 k x0 x1).bind fun r1 =>
  bif r1.1 != 0 then
    some (0, r1)
  else
  bif decide (x1.2.2.2.2.2.2.1 ≥ 0) then
    some (0, 14, ())
  else
  bif x1.2.2.2.2.2.1 then
    some (0, 10, ())
  else
  bif x1.2.2.2.1 == 0 then
    bif decide ((w64 ((w64 ((w64 (x1.2.2.2.2.1 + x0.2.2.1)) + x1.1.1)) + 1)) > 100000000) then
      some (0, 8, ())
    else
      some (w64 ((w64 ((w64 (x1.2.2.2.2.1 + x0.2.2.1)) + x1.1.1)) + 1), 0, ())
  else
  bif x1.2.2.2.1 == 1 then
    bif decide ((w64 ((w64 ((w64 (x1.2.2.2.2.1 + x0.2.2.1)) + x1.1.2.1)) + 1)) > 100000000) then
      some (0, 8, ())
    else
      some (w64 ((w64 ((w64 (x1.2.2.2.2.1 + x0.2.2.1)) + x1.1.2.1)) + 1), 0, ())
  else
    none
noncomputable def f27_sig (k : Nat) : Sig := ⟨[.val (.pair (.sl (.pair (.int .i64) (.pair (.int .i64) (.unit)))) (.pair (.int .i64) (.pair (.int .i64) (.unit)))), .val (.pair (.pair (.int .i64) (.pair (.int .i64) (.unit))) (.pair (.pair (.int .i64) (.pair (.int .i64) (.unit))) (.pair (.pair (.int .i64) (.pair (.int .i64) (.unit))) (.pair (.int .i64) (.pair (.int .i64) (.pair (.bool) (.pair (.int .i64) (.unit))))))))], [], [[.val (.int .i64), .val (.int .i64)]], fun x => f27 k x.1 x.2.1⟩
noncomputable def E_f27 (k : Nat) : Env := ⟨Try.prog, scons 49 [f49_sig k] (snil), tnil, tnil, unil, k⟩
theorem f27_run (k : Nat) (x : (lTy (lay 0 (f27_sig k).ins)).den) : runF (E_f27 k) Try.f27 (f27_sig k) x = (f27_sig k).F x := by kernel_rfl
theorem f27_ok (k : Nat) : FnOK Try.prog 27 (f27_sig k) :=
  fn_ok2 (E := E_f27 k) (env_cons (one_sig (f49_ok k)) (env_nil)) mixed Try.func27 Try.call27 (by kernel_rfl) (by kernel_rfl) (m := 0) (by kernel_rfl) trivial (sk := []) (by kernel_rfl) trivial (f27_run k)

/-! ### gamehall/gamehallkeep3.ClockFalls: function 8 -/
noncomputable def f8 (k : Nat) (x0 : (List (Int × Int × Unit)) × Int × Int × Unit) (x1 : (Int × Int × Unit) × (Int × Int × Unit) × (Int × Int × Unit) × Int × Int × Bool × Int × Unit) (x2 : Int) : Option ((Bool × Unit)) :=
  (f20 k).bind fun r1 =>
  bif !r1.1 then
    some (false, ())
  else
    (f27 k x0 x1).bind fun r2 =>
    bif r2.2.1 != 0 then
      bif r2.2.1 == 0 then
        some (true, ())
      else
        some (r2.1 == 0, ())
    else
    bif decide (x2 < r2.1) then
      bif r2.2.1 == 0 then
        some (true, ())
      else
        some (r2.1 == 0, ())
    else
    bif decide (x2 > 100000000) then
      bif r2.2.1 == 0 then
        some (true, ())
      else
        some (r2.1 == 0, ())
    else
      (f28 k x0 x1 x2).bind fun r3 =>
      (f28 k x0 r3.1 x2).bind fun r4 =>
      (f22 k x0 x1 x2).bind fun r5 =>
      (f23 k x0 r3.1 x2).bind fun r6 =>
      bif r3.2.1 == 0 then
        bif r3.1.2.2.2.2.2.2.1 == x1.2.2.2.1 then
          bif r4.2.1 == 0 then
            bif ((r4.1.1.1 == r3.1.1.1) && ((r4.1.1.2.1 == r3.1.1.2.1) && true)) && (((r4.1.2.1.1 == r3.1.2.1.1) && ((r4.1.2.1.2.1 == r3.1.2.1.2.1) && true)) && (((r4.1.2.2.1.1 == r3.1.2.2.1.1) && ((r4.1.2.2.1.2.1 == r3.1.2.2.1.2.1) && true)) && ((r4.1.2.2.2.1 == r3.1.2.2.2.1) && ((r4.1.2.2.2.2.1 == r3.1.2.2.2.2.1) && ((r4.1.2.2.2.2.2.1 == r3.1.2.2.2.2.2.1) && ((r4.1.2.2.2.2.2.2.1 == r3.1.2.2.2.2.2.2.1) && true)))))) then
              bif r5.2.1 == 14 then
                some (r6.2.1 == 14, ())
              else
                some (false, ())
            else
              some (false, ())
          else
            some (false, ())
        else
          some (false, ())
      else
        some (false, ())
noncomputable def f8_sig (k : Nat) : Sig := ⟨[.val (.pair (.sl (.pair (.int .i64) (.pair (.int .i64) (.unit)))) (.pair (.int .i64) (.pair (.int .i64) (.unit)))), .val (.pair (.pair (.int .i64) (.pair (.int .i64) (.unit))) (.pair (.pair (.int .i64) (.pair (.int .i64) (.unit))) (.pair (.pair (.int .i64) (.pair (.int .i64) (.unit))) (.pair (.int .i64) (.pair (.int .i64) (.pair (.bool) (.pair (.int .i64) (.unit)))))))), .val (.int .i64)], [], [[.val (.bool)]], fun x => f8 k x.1 x.2.1 x.2.2.1⟩
noncomputable def E_f8 (k : Nat) : Env := ⟨Try.prog, scons 28 [f28_sig k] (scons 27 [f27_sig k] (scons 23 [f23_sig k] (scons 22 [f22_sig k] (scons 20 [f20_sig k] (snil))))), tnil, tnil, unil, k⟩
theorem f8_run (k : Nat) (x : (lTy (lay 0 (f8_sig k).ins)).den) : runF (E_f8 k) Try.f8 (f8_sig k) x = (f8_sig k).F x := by kernel_rfl
theorem f8_ok (k : Nat) : FnOK Try.prog 8 (f8_sig k) :=
  fn_ok2 (E := E_f8 k) (env_cons (one_sig (f28_ok k)) (env_cons (one_sig (f27_ok k)) (env_cons (one_sig (f23_ok k)) (env_cons (one_sig (f22_ok k)) (env_cons (one_sig (f20_ok k)) (env_nil)))))) mixed Try.func8 Try.call8 (by kernel_rfl) (by kernel_rfl) (m := 0) (by kernel_rfl) trivial (sk := []) (by kernel_rfl) trivial (f8_run k)
end Go.Proofs.Ytfalgaldkadgoaa.G
