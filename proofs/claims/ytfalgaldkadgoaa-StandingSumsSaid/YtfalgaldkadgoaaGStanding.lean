import Derived.Test.YtfalgaldkadgoaaVM21
import Derived.Test.YtfalgaldkadgoaaChecked
namespace Go.Proofs.Ytfalgaldkadgoaa.G
open Go.VM Go.Proofs

abbrev w64 (n : Int) : Int := IntKind.i64.wrap n
theorem mixed : Try.prog.follows .mixedOrders = true := by kernel_rfl

/-! ### gamehall/standing.Check: function 67 -/
noncomputable def l67_4 (k : Nat) : Nat → Int → (List (Int × Int × Int × Unit)) → Int → Int → Option (Unit ⊕ (Int × Unit))
  | 0, _, _, _, _ => none
  | j + 1, s0, s18, s19, s20 =>
    bif decide (s20 < s19) then
      bif decide (0 ≤ s20) && decide (s20 < (s18.length : Int)) then
        bif decide ((if (rd ((0, 0, 0, ()) : Int × Int × Int × Unit) s18 s20).2.1 < (rd ((0, 0, 0, ()) : Int × Int × Int × Unit) s18 s20).1 then (rd ((0, 0, 0, ()) : Int × Int × Int × Unit) s18 s20).2.1 else (rd ((0, 0, 0, ()) : Int × Int × Int × Unit) s18 s20).1) < 0) then
          some (.inr (3, ()))
        else
        bif decide ((if (rd ((0, 0, 0, ()) : Int × Int × Int × Unit) s18 s20).2.1 > (rd ((0, 0, 0, ()) : Int × Int × Int × Unit) s18 s20).1 then (rd ((0, 0, 0, ()) : Int × Int × Int × Unit) s18 s20).2.1 else (rd ((0, 0, 0, ()) : Int × Int × Int × Unit) s18 s20).1) ≥ s0) then
          some (.inr (3, ()))
        else
        bif (rd ((0, 0, 0, ()) : Int × Int × Int × Unit) s18 s20).1 == (rd ((0, 0, 0, ()) : Int × Int × Int × Unit) s18 s20).2.1 then
          some (.inr (3, ()))
        else
        bif decide ((rd ((0, 0, 0, ()) : Int × Int × Int × Unit) s18 s20).2.2.1 < 0) then
          some (.inr (4, ()))
        else
        bif decide ((rd ((0, 0, 0, ()) : Int × Int × Int × Unit) s18 s20).2.2.1 > 2) then
          some (.inr (4, ()))
        else
          l67_4 k j s0 s18 s19 (w64 (s20 + 1))
      else
        none
    else
      some (.inl ())
noncomputable def l67_4_sig (k : Nat) : LoopSig := ⟨[(0, .obj (.val (.int .i64))), (18, .obj (.val (.sl (.pair (.int .i64) (.pair (.int .i64) (.pair (.int .i64) (.unit))))))), (19, .obj (.val (.int .i64))), (20, .obj (.val (.int .i64)))], [(.exit 0, []), (.ret, [(4, .obj (.val (.int .i64)))])], fun j x => l67_4 k j x.1 x.2.1 x.2.2.1 x.2.2.2.1⟩
noncomputable def f67 (k : Nat) (x0 : Int) (x1 : List (Int × Int × Int × Unit)) : Option ((Int × Unit)) :=
  bif decide (x0 < 1) then
    some (2, ())
  else
  bif decide (x0 > 32) then
    some (2, ())
  else
  bif decide ((x1.length : Int) > 600) then
    some (2, ())
  else
    (l67_4 k k x0 x1 (x1.length : Int) 0).bind fun w1 =>
    Sum.elim
      (fun y1 =>
        some (0, ()))
      (fun y2 =>
        some y2)
      w1
noncomputable def f67_sig (k : Nat) : Sig := ⟨[.val (.int .i64), .val (.sl (.pair (.int .i64) (.pair (.int .i64) (.pair (.int .i64) (.unit)))))], [], [[.val (.int .i64)]], fun x => f67 k x.1 x.2.1⟩
noncomputable def E_f67 (k : Nat) : Env := ⟨Try.prog, snil, tcons 4 (l67_4_sig k) (tnil), tnil, unil, k⟩
theorem l67_4_ok (k : Nat) : LoopOK (E_f67 k) ⟨Try.f67.ntmps, []⟩ (nthC 0 (loopsIn (Try.f67.body.getD .skip))) :=
  loop_ok (ls := l67_4_sig k) (by kernel_rfl) (fun _ => by kernel_rfl) (fun j x => by kernel_rfl)
theorem f67_run (k : Nat) (x : (lTy (lay 0 (f67_sig k).ins)).den) : runF (E_f67 k) Try.f67 (f67_sig k) x = (f67_sig k).F x := by kernel_rfl
theorem f67_ok (k : Nat) : FnOK Try.prog 67 (f67_sig k) :=
  fn_ok2 (E := E_f67 k) (env_nil) mixed Try.func67 Try.call67 (by kernel_rfl) (by kernel_rfl) (m := 1) (by kernel_rfl) ⟨trivial, l67_4_ok k⟩ (sk := []) (by kernel_rfl) trivial (f67_run k)

/-! ### gamehall/standing.Points: function 56 -/
noncomputable def l56_6 (k : Nat) : Nat → (List Int) → (List (Int × Int × Int × Unit)) → Int → Int → Option (((List Int) × Unit))
  | 0, _, _, _, _ => none
  | j + 1, s7, s18, s19, s20 =>
    bif decide (s20 < s19) then
      bif decide (0 ≤ s20) && decide (s20 < (s18.length : Int)) then
        bif decide (0 ≤ (rd ((0, 0, 0, ()) : Int × Int × Int × Unit) s18 s20).1) && decide ((rd ((0, 0, 0, ()) : Int × Int × Int × Unit) s18 s20).1 < (s7.length : Int)) then
          bif decide (0 ≤ (rd ((0, 0, 0, ()) : Int × Int × Int × Unit) s18 s20).1) && decide ((rd ((0, 0, 0, ()) : Int × Int × Int × Unit) s18 s20).1 < (s7.length : Int)) then
            bif decide (0 ≤ (rd ((0, 0, 0, ()) : Int × Int × Int × Unit) s18 s20).2.1) && decide ((rd ((0, 0, 0, ()) : Int × Int × Int × Unit) s18 s20).2.1 < ((s7.set (rd ((0, 0, 0, ()) : Int × Int × Int × Unit) s18 s20).1.toNat (w64 ((rd 0 s7 (rd ((0, 0, 0, ()) : Int × Int × Int × Unit) s18 s20).1) + (rd ((0, 0, 0, ()) : Int × Int × Int × Unit) s18 s20).2.2.1))).length : Int)) then
              bif decide (0 ≤ (rd ((0, 0, 0, ()) : Int × Int × Int × Unit) s18 s20).2.1) && decide ((rd ((0, 0, 0, ()) : Int × Int × Int × Unit) s18 s20).2.1 < ((s7.set (rd ((0, 0, 0, ()) : Int × Int × Int × Unit) s18 s20).1.toNat (w64 ((rd 0 s7 (rd ((0, 0, 0, ()) : Int × Int × Int × Unit) s18 s20).1) + (rd ((0, 0, 0, ()) : Int × Int × Int × Unit) s18 s20).2.2.1))).length : Int)) then
                l56_6 k j ((s7.set (rd ((0, 0, 0, ()) : Int × Int × Int × Unit) s18 s20).1.toNat (w64 ((rd 0 s7 (rd ((0, 0, 0, ()) : Int × Int × Int × Unit) s18 s20).1) + (rd ((0, 0, 0, ()) : Int × Int × Int × Unit) s18 s20).2.2.1))).set (rd ((0, 0, 0, ()) : Int × Int × Int × Unit) s18 s20).2.1.toNat (w64 ((rd 0 (s7.set (rd ((0, 0, 0, ()) : Int × Int × Int × Unit) s18 s20).1.toNat (w64 ((rd 0 s7 (rd ((0, 0, 0, ()) : Int × Int × Int × Unit) s18 s20).1) + (rd ((0, 0, 0, ()) : Int × Int × Int × Unit) s18 s20).2.2.1))) (rd ((0, 0, 0, ()) : Int × Int × Int × Unit) s18 s20).2.1) + (w64 (2 - (rd ((0, 0, 0, ()) : Int × Int × Int × Unit) s18 s20).2.2.1))))) s18 s19 (w64 (s20 + 1))
              else
                none
            else
              none
          else
            none
        else
          none
      else
        none
    else
      some (s7, ())
noncomputable def l56_6_sig (k : Nat) : LoopSig := ⟨[(7, .obj (.row (.int .i64))), (18, .obj (.val (.sl (.pair (.int .i64) (.pair (.int .i64) (.pair (.int .i64) (.unit))))))), (19, .obj (.val (.int .i64))), (20, .obj (.val (.int .i64)))], [(.exit 0, [(7, .obj (.row (.int .i64)))])], fun j x => l56_6 k j x.1 x.2.1 x.2.2.1 x.2.2.2.1⟩
noncomputable def f56 (k : Nat) (x0 : Int) (x1 : List (Int × Int × Int × Unit)) : Option (((List Int) × Int × Unit)) :=
  (f67 k x0 x1).bind fun r1 =>
  bif r1.1 != 0 then
    some ([], r1)
  else
  bif decide (0 ≤ x0) && (decide (x0 ≤ x0) && decide (((8 : Nat) : Int) * x0 ≤ 281474976710656)) && decide (x0 ≤ 9223372036854775807) then
    (l56_6 k k (List.replicate x0.toNat 0) x1 (x1.length : Int) 0).bind fun o2 =>
    some (o2.1, 0, ())
  else
    none
noncomputable def f56_sig (k : Nat) : Sig := ⟨[.val (.int .i64), .val (.sl (.pair (.int .i64) (.pair (.int .i64) (.pair (.int .i64) (.unit)))))], [], [[.row (.int .i64), .val (.int .i64)]], fun x => f56 k x.1 x.2.1⟩
noncomputable def E_f56 (k : Nat) : Env := ⟨Try.prog, scons 67 [f67_sig k] (snil), tcons 6 (l56_6_sig k) (tnil), tnil, unil, k⟩
theorem l56_6_ok (k : Nat) : LoopOK (E_f56 k) ⟨Try.f56.ntmps, []⟩ (nthC 0 (loopsIn (Try.f56.body.getD .skip))) :=
  loop_ok (ls := l56_6_sig k) (by kernel_rfl) (fun _ => by kernel_rfl) (fun j x => by kernel_rfl)
theorem f56_run (k : Nat) (x : (lTy (lay 0 (f56_sig k).ins)).den) : runF (E_f56 k) Try.f56 (f56_sig k) x = (f56_sig k).F x := by kernel_rfl
theorem f56_ok (k : Nat) : FnOK Try.prog 56 (f56_sig k) :=
  fn_ok2 (E := E_f56 k) (env_cons (one_sig (f67_ok k)) (env_nil)) mixed Try.func56 Try.call56 (by kernel_rfl) (by kernel_rfl) (m := 1) (by kernel_rfl) ⟨trivial, l56_6_ok k⟩ (sk := []) (by kernel_rfl) trivial (f56_run k)

/-! ### gamehall/standing.mine: function 68 -/
noncomputable def f68 (k : Nat) (x0 : Int × Int × Int × Unit) (x1 : Int) : Option ((Int × Int × Bool × Unit)) :=
  bif x1 == x0.1 then
    some (x0.2.1, x0.2.2.1, true, ())
  else
  bif x1 == x0.2.1 then
    some (x0.1, w64 (2 - x0.2.2.1), true, ())
  else
    some (0, 0, false, ())
noncomputable def f68_sig (k : Nat) : Sig := ⟨[.val (.pair (.int .i64) (.pair (.int .i64) (.pair (.int .i64) (.unit)))), .val (.int .i64)], [], [[.val (.int .i64), .val (.int .i64), .val (.bool)]], fun x => f68 k x.1 x.2.1⟩
noncomputable def E_f68 (k : Nat) : Env := ⟨Try.prog, snil, tnil, tnil, unil, k⟩
theorem f68_run (k : Nat) (x : (lTy (lay 0 (f68_sig k).ins)).den) : runF (E_f68 k) Try.f68 (f68_sig k) x = (f68_sig k).F x := by kernel_rfl
theorem f68_ok (k : Nat) : FnOK Try.prog 68 (f68_sig k) :=
  fn_ok2 (E := E_f68 k) (env_nil) mixed Try.func68 Try.call68 (by kernel_rfl) (by kernel_rfl) (m := 0) (by kernel_rfl) trivial (sk := []) (by kernel_rfl) trivial (f68_run k)

/-! ### gamehall/standing.Breaks: function 57 -/
noncomputable def l57_8 (k : Nat) : Nat → Int → (Int × Int × Int × Int × Unit) → (List Int) → (Int × Int × Int × Int × Unit) → (List (Int × Int × Int × Unit)) → Int → Int → Option (((Int × Int × Int × Int × Unit) × (Int × Int × Int × Int × Unit) × Unit))
  | 0, _, _, _, _, _, _, _ => none
  | j + 1, s2, s6, s8, s10, s34, s35, s36 =>
    bif decide (s36 < s35) then
      bif decide (0 ≤ s36) && decide (s36 < (s34.length : Int)) then
        (f68 k (rd ((0, 0, 0, ()) : Int × Int × Int × Unit) s34 s36) s2).bind fun r1 =>
        bif !r1.2.2.1 then
          l57_8 k j s2 s6 s8 s10 s34 s35 (w64 (s36 + 1))
        else
        bif decide (0 ≤ r1.1) && decide (r1.1 < (s8.length : Int)) then
          bif decide (0 ≤ r1.1) && decide (r1.1 < (s8.length : Int)) then
            bif r1.2.1 == 2 then
              bif s2 == (rd ((0, 0, 0, ()) : Int × Int × Int × Unit) s34 s36).2.1 then
                l57_8 k j s2 s6 s8 (w64 (s10.1 + (rd 0 s8 r1.1)), w64 (s10.2.1 + (w64 (r1.2.1 * (rd 0 s8 r1.1)))), w64 (s10.2.2.1 + 1), w64 (s10.2.2.2.1 + 1), ()) s34 s35 (w64 (s36 + 1))
              else
                l57_8 k j s2 s6 s8 (w64 (s10.1 + (rd 0 s8 r1.1)), w64 (s10.2.1 + (w64 (r1.2.1 * (rd 0 s8 r1.1)))), w64 (s10.2.2.1 + 1), s10.2.2.2) s34 s35 (w64 (s36 + 1))
            else
            bif s2 == (rd ((0, 0, 0, ()) : Int × Int × Int × Unit) s34 s36).2.1 then
              l57_8 k j s2 s6 s8 (w64 (s10.1 + (rd 0 s8 r1.1)), w64 (s10.2.1 + (w64 (r1.2.1 * (rd 0 s8 r1.1)))), s10.2.2.1, w64 (s10.2.2.2.1 + 1), ()) s34 s35 (w64 (s36 + 1))
            else
              l57_8 k j s2 s6 s8 (w64 (s10.1 + (rd 0 s8 r1.1)), w64 (s10.2.1 + (w64 (r1.2.1 * (rd 0 s8 r1.1)))), s10.2.2) s34 s35 (w64 (s36 + 1))
          else
            none
        else
          none
      else
        none
    else
      some (s6, s10, ())
noncomputable def l57_8_sig (k : Nat) : LoopSig := ⟨[(2, .obj (.val (.int .i64))), (6, .obj (.box (.val (.pair (.int .i64) (.pair (.int .i64) (.pair (.int .i64) (.pair (.int .i64) (.unit)))))))), (8, .obj (.row (.int .i64))), (10, .obj (.box (.val (.pair (.int .i64) (.pair (.int .i64) (.pair (.int .i64) (.pair (.int .i64) (.unit)))))))), (34, .obj (.val (.sl (.pair (.int .i64) (.pair (.int .i64) (.pair (.int .i64) (.unit))))))), (35, .obj (.val (.int .i64))), (36, .obj (.val (.int .i64)))], [(.exit 0, [(6, .obj (.box (.val (.pair (.int .i64) (.pair (.int .i64) (.pair (.int .i64) (.pair (.int .i64) (.unit)))))))), (10, .obj (.box (.val (.pair (.int .i64) (.pair (.int .i64) (.pair (.int .i64) (.pair (.int .i64) (.unit))))))))])], fun j x => l57_8 k j x.1 x.2.1 x.2.2.1 x.2.2.2.1 x.2.2.2.2.1 x.2.2.2.2.2.1 x.2.2.2.2.2.2.1⟩
noncomputable def f57 (k : Nat) (x0 : Int) (x1 : List (Int × Int × Int × Unit)) (x2 : Int) : Option (((Int × Int × Int × Int × Unit) × Int × Unit)) :=
  (f56 k x0 x1).bind fun r1 =>
  bif r1.2.1 != 0 then
    some ((0, 0, 0, 0, ()), r1.2)
  else
  bif decide (x2 < 0) then
    some ((0, 0, 0, 0, ()), 1, ())
  else
  bif decide (x2 ≥ x0) then
    some ((0, 0, 0, 0, ()), 1, ())
  else
    (l57_8 k k x2 (0, 0, 0, 0, ()) r1.1 (0, 0, 0, 0, ()) x1 (x1.length : Int) 0).bind fun o2 =>
    some (o2.2.1, 0, ())
noncomputable def f57_sig (k : Nat) : Sig := ⟨[.val (.int .i64), .val (.sl (.pair (.int .i64) (.pair (.int .i64) (.pair (.int .i64) (.unit))))), .val (.int .i64)], [], [[.val (.pair (.int .i64) (.pair (.int .i64) (.pair (.int .i64) (.pair (.int .i64) (.unit))))), .val (.int .i64)]], fun x => f57 k x.1 x.2.1 x.2.2.1⟩
noncomputable def E_f57 (k : Nat) : Env := ⟨Try.prog, scons 68 [f68_sig k] (scons 56 [f56_sig k] (snil)), tcons 8 (l57_8_sig k) (tnil), tnil, unil, k⟩
theorem l57_8_ok (k : Nat) : LoopOK (E_f57 k) ⟨Try.f57.ntmps, []⟩ (nthC 0 (loopsIn (Try.f57.body.getD .skip))) :=
  loop_ok (ls := l57_8_sig k) (by kernel_rfl) (fun _ => by kernel_rfl) (fun j x => by kernel_rfl)
theorem f57_run (k : Nat) (x : (lTy (lay 0 (f57_sig k).ins)).den) : runF (E_f57 k) Try.f57 (f57_sig k) x = (f57_sig k).F x := by kernel_rfl
theorem f57_ok (k : Nat) : FnOK Try.prog 57 (f57_sig k) :=
  fn_ok2 (E := E_f57 k) (env_cons (one_sig (f68_ok k)) (env_cons (one_sig (f56_ok k)) (env_nil))) mixed Try.func57 Try.call57 (by kernel_rfl) (by kernel_rfl) (m := 1) (by kernel_rfl) ⟨trivial, l57_8_ok k⟩ (sk := []) (by kernel_rfl) trivial (f57_run k)

/-! ### cmp.isNaN[int]: function 78 -/
noncomputable def f78 (k : Nat) (x0 : Int) : Option ((Bool × Unit)) :=
  some (x0 != x0, ())
noncomputable def f78_sig (k : Nat) : Sig := ⟨[.val (.int .i64)], [], [[.val (.bool)]], fun x => f78 k x.1⟩
noncomputable def E_f78 (k : Nat) : Env := ⟨Try.prog, snil, tnil, tnil, unil, k⟩
theorem f78_run (k : Nat) (x : (lTy (lay 0 (f78_sig k).ins)).den) : runF (E_f78 k) Try.f78 (f78_sig k) x = (f78_sig k).F x := by kernel_rfl
theorem f78_ok (k : Nat) : FnOK Try.prog 78 (f78_sig k) :=
  fn_ok2 (E := E_f78 k) (env_nil) mixed Try.func78 Try.call78 (by kernel_rfl) (by kernel_rfl) (m := 0) (by kernel_rfl) trivial (sk := []) (by kernel_rfl) trivial (f78_run k)

/-! ### cmp.Compare[int]: function 70 -/
noncomputable def f70 (k : Nat) (x0 : Int) (x1 : Int) : Option ((Int × Unit)) :=
  (f78 k x0).bind fun r1 =>
  (f78 k x1).bind fun r2 =>
  bif r1.1 then
    bif r2.1 then
      some (0, ())
    else
      some ((-1), ())
  else
  bif r2.1 then
    some (1, ())
  else
  bif decide (x0 < x1) then
    some ((-1), ())
  else
  bif decide (x0 > x1) then
    some (1, ())
  else
    some (0, ())
noncomputable def f70_sig (k : Nat) : Sig := ⟨[.val (.int .i64), .val (.int .i64)], [], [[.val (.int .i64)]], fun x => f70 k x.1 x.2.1⟩
noncomputable def E_f70 (k : Nat) : Env := ⟨Try.prog, scons 78 [f78_sig k] (snil), tnil, tnil, unil, k⟩
theorem f70_run (k : Nat) (x : (lTy (lay 0 (f70_sig k).ins)).den) : runF (E_f70 k) Try.f70 (f70_sig k) x = (f70_sig k).F x := by kernel_rfl
theorem f70_ok (k : Nat) : FnOK Try.prog 70 (f70_sig k) :=
  fn_ok2 (E := E_f70 k) (env_cons (one_sig (f78_ok k)) (env_nil)) mixed Try.func70 Try.call70 (by kernel_rfl) (by kernel_rfl) (m := 0) (by kernel_rfl) trivial (sk := []) (by kernel_rfl) trivial (f70_run k)

/-! ### gamehall/standing.order: function 59 -/
noncomputable def f59 (k : Nat) (x0 : Int × Int × (Int × Int × Int × Int × Unit) × Int × Int × Unit) (x1 : Int × Int × (Int × Int × Int × Int × Unit) × Int × Int × Unit) : Option ((Int × Unit)) :=
  (f70 k x1.2.1 x0.2.1).bind fun r1 =>
  bif r1.1 != 0 then
    some r1
  else
    (f70 k x1.2.2.1.1 x0.2.2.1.1).bind fun r2 =>
    bif r2.1 != 0 then
      some r2
    else
      (f70 k x1.2.2.1.2.1 x0.2.2.1.2.1).bind fun r3 =>
      bif r3.1 != 0 then
        some r3
      else
        (f70 k x1.2.2.1.2.2.1 x0.2.2.1.2.2.1).bind fun r4 =>
        bif r4.1 != 0 then
          some r4
        else
          (f70 k x1.2.2.1.2.2.2.1 x0.2.2.1.2.2.2.1).bind fun r5 =>
          bif r5.1 != 0 then
            some r5
          else
            some (0, ())
noncomputable def f59_sig (k : Nat) : Sig := ⟨[.val (.pair (.int .i64) (.pair (.int .i64) (.pair (.pair (.int .i64) (.pair (.int .i64) (.pair (.int .i64) (.pair (.int .i64) (.unit))))) (.pair (.int .i64) (.pair (.int .i64) (.unit)))))), .val (.pair (.int .i64) (.pair (.int .i64) (.pair (.pair (.int .i64) (.pair (.int .i64) (.pair (.int .i64) (.pair (.int .i64) (.unit))))) (.pair (.int .i64) (.pair (.int .i64) (.unit))))))], [], [[.val (.int .i64)]], fun x => f59 k x.1 x.2.1⟩
noncomputable def E_f59 (k : Nat) : Env := ⟨Try.prog, scons 70 [f70_sig k] (snil), tnil, tnil, ucons 5 5 (unil), k⟩
theorem f59_run (k : Nat) (x : (lTy (lay 0 (f59_sig k).ins)).den) : runF (E_f59 k) Try.f59 (f59_sig k) x = (f59_sig k).F x := by kernel_rfl
theorem f59_ok (k : Nat) : FnOK Try.prog 59 (f59_sig k) :=
  fn_ok2 (E := E_f59 k) (env_cons (one_sig (f70_ok k)) (env_nil)) mixed Try.func59 Try.call59 (by kernel_rfl) (by kernel_rfl) (m := 1) (by kernel_rfl) ⟨trivial, loop_none (by kernel_rfl)⟩ (sk := []) (by kernel_rfl) trivial (f59_run k)

/-! ### slices.insertionSortCmpFunc[gamehall/api.StandingRow]: function 76 -/
noncomputable def l76_4 (k : Nat) : Nat → (List (Int × Int × (Int × Int × Int × Int × Unit) × Int × Int × Unit)) → Int → Int → Unit → Int → Int → Option (((List (Int × Int × (Int × Int × Int × Int × Unit) × Int × Int × Unit)) × Int × Int × Unit × Int × Unit))
  | 0, _, _, _, _, _, _ => none
  | j + 1, s0, s1, s2, s3, s8, s9 =>
    bif decide (s9 > s1) then
      bif decide (0 ≤ s9) && decide (s9 < (s0.length : Int)) then
        bif decide (0 ≤ (w64 (s9 - 1))) && decide ((w64 (s9 - 1)) < (s0.length : Int)) then
          (f59 k (rd ((0, 0, (0, 0, 0, 0, ()), 0, 0, ()) : Int × Int × (Int × Int × Int × Int × Unit) × Int × Int × Unit) s0 s9) (rd ((0, 0, (0, 0, 0, 0, ()), 0, 0, ()) : Int × Int × (Int × Int × Int × Int × Unit) × Int × Int × Unit) s0 (w64 (s9 - 1)))).bind fun r1 =>
          bif decide (r1.1 < 0) then
            bif decide (0 ≤ (w64 (s9 - 1))) && decide ((w64 (s9 - 1)) < (s0.length : Int)) then
              bif decide (0 ≤ s9) && decide (s9 < (s0.length : Int)) then
                bif decide (0 ≤ s9) && decide (s9 < (s0.length : Int)) then
                  bif decide (0 ≤ (w64 (s9 - 1))) && decide ((w64 (s9 - 1)) < ((s0.set s9.toNat (rd ((0, 0, (0, 0, 0, 0, ()), 0, 0, ()) : Int × Int × (Int × Int × Int × Int × Unit) × Int × Int × Unit) s0 (w64 (s9 - 1)))).length : Int)) then
                    l76_4 k j ((s0.set s9.toNat (rd ((0, 0, (0, 0, 0, 0, ()), 0, 0, ()) : Int × Int × (Int × Int × Int × Int × Unit) × Int × Int × Unit) s0 (w64 (s9 - 1)))).set (w64 (s9 - 1)).toNat (rd ((0, 0, (0, 0, 0, 0, ()), 0, 0, ()) : Int × Int × (Int × Int × Int × Int × Unit) × Int × Int × Unit) s0 s9)) s1 s2 () s8 (w64 (s9 - 1))
                  else
                    none
                else
                  none
              else
                none
            else
              none
          else
            some (s0, s1, s2, (), s8, ())
        else
          none
      else
        none
    else
      some (s0, s1, s2, (), s8, ())
noncomputable def l76_4_sig (k : Nat) : LoopSig := ⟨[(0, .obj (.row (.pair (.int .i64) (.pair (.int .i64) (.pair (.pair (.int .i64) (.pair (.int .i64) (.pair (.int .i64) (.pair (.int .i64) (.unit))))) (.pair (.int .i64) (.pair (.int .i64) (.unit)))))))), (1, .obj (.val (.int .i64))), (2, .obj (.val (.int .i64))), (3, .obj (.fn 59)), (8, .obj (.val (.int .i64))), (9, .obj (.val (.int .i64)))], [(.exit 2, [(0, .obj (.row (.pair (.int .i64) (.pair (.int .i64) (.pair (.pair (.int .i64) (.pair (.int .i64) (.pair (.int .i64) (.pair (.int .i64) (.unit))))) (.pair (.int .i64) (.pair (.int .i64) (.unit)))))))), (1, .obj (.val (.int .i64))), (2, .obj (.val (.int .i64))), (3, .obj (.fn 59)), (8, .obj (.val (.int .i64)))])], fun j x => l76_4 k j x.1 x.2.1 x.2.2.1 x.2.2.2.1 x.2.2.2.2.1 x.2.2.2.2.2.1⟩
noncomputable def l76_1 (k : Nat) : Nat → (List (Int × Int × (Int × Int × Int × Int × Unit) × Int × Int × Unit)) → Int → Int → Unit → Int → Option (((List (Int × Int × (Int × Int × Int × Int × Unit) × Int × Int × Unit)) × Unit))
  | 0, _, _, _, _, _ => none
  | j + 1, s0, s1, s2, s3, s8 =>
    bif decide (s8 < s2) then
      (l76_4 k k s0 s1 s2 () s8 s8).bind fun o1 =>
      l76_1 k j o1.1 o1.2.1 o1.2.2.1 () (w64 (o1.2.2.2.2.1 + 1))
    else
      some (s0, ())
noncomputable def l76_1_sig (k : Nat) : LoopSig := ⟨[(0, .obj (.row (.pair (.int .i64) (.pair (.int .i64) (.pair (.pair (.int .i64) (.pair (.int .i64) (.pair (.int .i64) (.pair (.int .i64) (.unit))))) (.pair (.int .i64) (.pair (.int .i64) (.unit)))))))), (1, .obj (.val (.int .i64))), (2, .obj (.val (.int .i64))), (3, .obj (.fn 59)), (8, .obj (.val (.int .i64)))], [(.exit 0, [(0, .obj (.row (.pair (.int .i64) (.pair (.int .i64) (.pair (.pair (.int .i64) (.pair (.int .i64) (.pair (.int .i64) (.pair (.int .i64) (.unit))))) (.pair (.int .i64) (.pair (.int .i64) (.unit))))))))])], fun j x => l76_1 k j x.1 x.2.1 x.2.2.1 x.2.2.2.1 x.2.2.2.2.1⟩
noncomputable def f76 (k : Nat) (x0 : List (Int × Int × (Int × Int × Int × Int × Unit) × Int × Int × Unit)) (x1 : Int) (x2 : Int) : Option (((List (Int × Int × (Int × Int × Int × Int × Unit) × Int × Int × Unit)) × Unit)) :=
  (l76_1 k k x0 x1 x2 () (w64 (x1 + 1))).bind fun o1 =>
  some o1
noncomputable def f76_sig (k : Nat) : Sig := ⟨[.row (.pair (.int .i64) (.pair (.int .i64) (.pair (.pair (.int .i64) (.pair (.int .i64) (.pair (.int .i64) (.pair (.int .i64) (.unit))))) (.pair (.int .i64) (.pair (.int .i64) (.unit)))))), .val (.int .i64), .val (.int .i64), .fn 59], [0], [[.row (.pair (.int .i64) (.pair (.int .i64) (.pair (.pair (.int .i64) (.pair (.int .i64) (.pair (.int .i64) (.pair (.int .i64) (.unit))))) (.pair (.int .i64) (.pair (.int .i64) (.unit))))))]], fun x => f76 k x.1 x.2.1 x.2.2.1⟩
noncomputable def E_f76 (k : Nat) : Env := ⟨Try.prog, scons 59 [f59_sig k] (snil), tcons 1 (l76_1_sig k) (tcons 4 (l76_4_sig k) (tnil)), tnil, unil, k⟩
theorem l76_1_ok (k : Nat) : LoopOK (E_f76 k) ⟨Try.f76.ntmps, [0]⟩ (nthC 0 (loopsIn (Try.f76.body.getD .skip))) :=
  loop_ok (ls := l76_1_sig k) (by kernel_rfl) (fun _ => by kernel_rfl) (fun j x => by kernel_rfl)
theorem l76_4_ok (k : Nat) : LoopOK (E_f76 k) ⟨Try.f76.ntmps, [0]⟩ (nthC 1 (loopsIn (Try.f76.body.getD .skip))) :=
  loop_ok (ls := l76_4_sig k) (by kernel_rfl) (fun _ => by kernel_rfl) (fun j x => by kernel_rfl)
theorem f76_run (k : Nat) (x : (lTy (lay 0 (f76_sig k).ins)).den) : runF (E_f76 k) Try.f76 (f76_sig k) x = (f76_sig k).F x := by kernel_rfl
theorem f76_ok (k : Nat) : FnOK Try.prog 76 (f76_sig k) :=
  fn_ok2 (E := E_f76 k) (env_cons (one_sig (f59_ok k)) (env_nil)) mixed Try.func76 Try.call76 (by kernel_rfl) (by kernel_rfl) (m := 2) (by kernel_rfl) ⟨⟨trivial, l76_1_ok k⟩, l76_4_ok k⟩ (sk := []) (by kernel_rfl) trivial (f76_run k)

/-! ### slices.swapRangeCmpFunc[gamehall/api.StandingRow]: function 81 -/
noncomputable def l81_1 (k : Nat) : Nat → (List (Int × Int × (Int × Int × Int × Int × Unit) × Int × Int × Unit)) → Int → Int → Int → Int → Option (((List (Int × Int × (Int × Int × Int × Int × Unit) × Int × Int × Unit)) × Unit))
  | 0, _, _, _, _, _ => none
  | j + 1, s0, s1, s2, s3, s10 =>
    bif decide (s10 < s3) then
      bif decide (0 ≤ (w64 (s2 + s10))) && decide ((w64 (s2 + s10)) < (s0.length : Int)) then
        bif decide (0 ≤ (w64 (s1 + s10))) && decide ((w64 (s1 + s10)) < (s0.length : Int)) then
          bif decide (0 ≤ (w64 (s1 + s10))) && decide ((w64 (s1 + s10)) < (s0.length : Int)) then
            bif decide (0 ≤ (w64 (s2 + s10))) && decide ((w64 (s2 + s10)) < ((s0.set (w64 (s1 + s10)).toNat (rd ((0, 0, (0, 0, 0, 0, ()), 0, 0, ()) : Int × Int × (Int × Int × Int × Int × Unit) × Int × Int × Unit) s0 (w64 (s2 + s10)))).length : Int)) then
              l81_1 k j ((s0.set (w64 (s1 + s10)).toNat (rd ((0, 0, (0, 0, 0, 0, ()), 0, 0, ()) : Int × Int × (Int × Int × Int × Int × Unit) × Int × Int × Unit) s0 (w64 (s2 + s10)))).set (w64 (s2 + s10)).toNat (rd ((0, 0, (0, 0, 0, 0, ()), 0, 0, ()) : Int × Int × (Int × Int × Int × Int × Unit) × Int × Int × Unit) s0 (w64 (s1 + s10)))) s1 s2 s3 (w64 (s10 + 1))
            else
              none
          else
            none
        else
          none
      else
        none
    else
      some (s0, ())
noncomputable def l81_1_sig (k : Nat) : LoopSig := ⟨[(0, .obj (.row (.pair (.int .i64) (.pair (.int .i64) (.pair (.pair (.int .i64) (.pair (.int .i64) (.pair (.int .i64) (.pair (.int .i64) (.unit))))) (.pair (.int .i64) (.pair (.int .i64) (.unit)))))))), (1, .obj (.val (.int .i64))), (2, .obj (.val (.int .i64))), (3, .obj (.val (.int .i64))), (10, .obj (.val (.int .i64)))], [(.exit 0, [(0, .obj (.row (.pair (.int .i64) (.pair (.int .i64) (.pair (.pair (.int .i64) (.pair (.int .i64) (.pair (.int .i64) (.pair (.int .i64) (.unit))))) (.pair (.int .i64) (.pair (.int .i64) (.unit))))))))])], fun j x => l81_1 k j x.1 x.2.1 x.2.2.1 x.2.2.2.1 x.2.2.2.2.1⟩
noncomputable def f81 (k : Nat) (x0 : List (Int × Int × (Int × Int × Int × Int × Unit) × Int × Int × Unit)) (x1 : Int) (x2 : Int) (x3 : Int) : Option (((List (Int × Int × (Int × Int × Int × Int × Unit) × Int × Int × Unit)) × Unit)) :=
  (l81_1 k k x0 x1 x2 x3 0).bind fun o1 =>
  some o1
noncomputable def f81_sig (k : Nat) : Sig := ⟨[.row (.pair (.int .i64) (.pair (.int .i64) (.pair (.pair (.int .i64) (.pair (.int .i64) (.pair (.int .i64) (.pair (.int .i64) (.unit))))) (.pair (.int .i64) (.pair (.int .i64) (.unit)))))), .val (.int .i64), .val (.int .i64), .val (.int .i64), .fn 59], [0], [[.row (.pair (.int .i64) (.pair (.int .i64) (.pair (.pair (.int .i64) (.pair (.int .i64) (.pair (.int .i64) (.pair (.int .i64) (.unit))))) (.pair (.int .i64) (.pair (.int .i64) (.unit))))))]], fun x => f81 k x.1 x.2.1 x.2.2.1 x.2.2.2.1⟩
noncomputable def E_f81 (k : Nat) : Env := ⟨Try.prog, snil, tcons 1 (l81_1_sig k) (tnil), tnil, unil, k⟩
theorem l81_1_ok (k : Nat) : LoopOK (E_f81 k) ⟨Try.f81.ntmps, [0]⟩ (nthC 0 (loopsIn (Try.f81.body.getD .skip))) :=
  loop_ok (ls := l81_1_sig k) (by kernel_rfl) (fun _ => by kernel_rfl) (fun j x => by kernel_rfl)
theorem f81_run (k : Nat) (x : (lTy (lay 0 (f81_sig k).ins)).den) : runF (E_f81 k) Try.f81 (f81_sig k) x = (f81_sig k).F x := by kernel_rfl
theorem f81_ok (k : Nat) : FnOK Try.prog 81 (f81_sig k) :=
  fn_ok2 (E := E_f81 k) (env_nil) mixed Try.func81 Try.call81 (by kernel_rfl) (by kernel_rfl) (m := 1) (by kernel_rfl) ⟨trivial, l81_1_ok k⟩ (sk := []) (by kernel_rfl) trivial (f81_run k)

/-! ### slices.rotateCmpFunc[gamehall/api.StandingRow]: function 80 -/
noncomputable def l80_2 (k : Nat) : Nat → (List (Int × Int × (Int × Int × Int × Int × Unit) × Int × Int × Unit)) → Int → Unit → Int → Int → Option (((List (Int × Int × (Int × Int × Int × Int × Unit) × Int × Int × Unit)) × Int × Unit × Int × Unit))
  | 0, _, _, _, _, _ => none
  | j + 1, s0, s2, s4, s10, s11 =>
    bif s10 != s11 then
      bif decide (s10 > s11) then
        (f81 k s0 (w64 (s2 - s10)) s2 s11).bind fun r1 =>
        l80_2 k j r1.1 s2 () (w64 (s10 - s11)) s11
      else
        (f81 k s0 (w64 (s2 - s10)) (w64 ((w64 (s2 + s11)) - s10)) s10).bind fun r2 =>
        l80_2 k j r2.1 s2 () s10 (w64 (s11 - s10))
    else
      some (s0, s2, (), s10, ())
noncomputable def l80_2_sig (k : Nat) : LoopSig := ⟨[(0, .obj (.row (.pair (.int .i64) (.pair (.int .i64) (.pair (.pair (.int .i64) (.pair (.int .i64) (.pair (.int .i64) (.pair (.int .i64) (.unit))))) (.pair (.int .i64) (.pair (.int .i64) (.unit)))))))), (2, .obj (.val (.int .i64))), (4, .obj (.fn 59)), (10, .obj (.val (.int .i64))), (11, .obj (.val (.int .i64)))], [(.exit 0, [(0, .obj (.row (.pair (.int .i64) (.pair (.int .i64) (.pair (.pair (.int .i64) (.pair (.int .i64) (.pair (.int .i64) (.pair (.int .i64) (.unit))))) (.pair (.int .i64) (.pair (.int .i64) (.unit)))))))), (2, .obj (.val (.int .i64))), (4, .obj (.fn 59)), (10, .obj (.val (.int .i64)))])], fun j x => l80_2 k j x.1 x.2.1 x.2.2.1 x.2.2.2.1 x.2.2.2.2.1⟩
noncomputable def f80 (k : Nat) (x0 : List (Int × Int × (Int × Int × Int × Int × Unit) × Int × Int × Unit)) (x1 : Int) (x2 : Int) (x3 : Int) : Option (((List (Int × Int × (Int × Int × Int × Int × Unit) × Int × Int × Unit)) × Unit)) :=
  (l80_2 k k x0 x2 () (w64 (x2 - x1)) (w64 (x3 - x2))).bind fun o1 =>
  (f81 k o1.1 (w64 (o1.2.1 - o1.2.2.2.1)) o1.2.1 o1.2.2.2.1).bind fun r2 =>
  some r2
noncomputable def f80_sig (k : Nat) : Sig := ⟨[.row (.pair (.int .i64) (.pair (.int .i64) (.pair (.pair (.int .i64) (.pair (.int .i64) (.pair (.int .i64) (.pair (.int .i64) (.unit))))) (.pair (.int .i64) (.pair (.int .i64) (.unit)))))), .val (.int .i64), .val (.int .i64), .val (.int .i64), .fn 59], [0], [[.row (.pair (.int .i64) (.pair (.int .i64) (.pair (.pair (.int .i64) (.pair (.int .i64) (.pair (.int .i64) (.pair (.int .i64) (.unit))))) (.pair (.int .i64) (.pair (.int .i64) (.unit))))))]], fun x => f80 k x.1 x.2.1 x.2.2.1 x.2.2.2.1⟩
noncomputable def E_f80 (k : Nat) : Env := ⟨Try.prog, scons 81 [f81_sig k] (snil), tcons 2 (l80_2_sig k) (tnil), tnil, unil, k⟩
theorem l80_2_ok (k : Nat) : LoopOK (E_f80 k) ⟨Try.f80.ntmps, [0]⟩ (nthC 0 (loopsIn (Try.f80.body.getD .skip))) :=
  loop_ok (ls := l80_2_sig k) (by kernel_rfl) (fun _ => by kernel_rfl) (fun j x => by kernel_rfl)
theorem f80_run (k : Nat) (x : (lTy (lay 0 (f80_sig k).ins)).den) : runF (E_f80 k) Try.f80 (f80_sig k) x = (f80_sig k).F x := by kernel_rfl
theorem f80_ok (k : Nat) : FnOK Try.prog 80 (f80_sig k) :=
  fn_ok2 (E := E_f80 k) (env_cons (one_sig (f81_ok k)) (env_nil)) mixed Try.func80 Try.call80 (by kernel_rfl) (by kernel_rfl) (m := 1) (by kernel_rfl) ⟨trivial, l80_2_ok k⟩ (sk := []) (by kernel_rfl) trivial (f80_run k)

/-! ### slices.symMergeCmpFunc[gamehall/api.StandingRow]: function 77 -/
noncomputable def l77_3 (k : Nat) (rec : (List (Int × Int × (Int × Int × Int × Int × Unit) × Int × Int × Unit)) → Int → Int → Int → Option (((List (Int × Int × (Int × Int × Int × Int × Unit) × Int × Int × Unit)) × Unit))) : Nat → (List (Int × Int × (Int × Int × Int × Int × Unit) × Int × Int × Unit)) → Int → Unit → Int → Int → Option (((List (Int × Int × (Int × Int × Int × Int × Unit) × Int × Int × Unit)) × Int × Int × Unit))
  | 0, _, _, _, _, _ => none
  | j + 1, s0, s1, s4, s10, s11 =>
    bif decide (s10 < s11) then
      bif decide (0 ≤ (w64 ((IntKind.u64.wrap (w64 (s10 + s11))).fdiv (2 ^ (min (1 : Int).toNat 64))))) && decide ((w64 ((IntKind.u64.wrap (w64 (s10 + s11))).fdiv (2 ^ (min (1 : Int).toNat 64)))) < (s0.length : Int)) then
        bif decide (0 ≤ s1) && decide (s1 < (s0.length : Int)) then
          (f59 k (rd ((0, 0, (0, 0, 0, 0, ()), 0, 0, ()) : Int × Int × (Int × Int × Int × Int × Unit) × Int × Int × Unit) s0 (w64 ((IntKind.u64.wrap (w64 (s10 + s11))).fdiv (2 ^ (min (1 : Int).toNat 64))))) (rd ((0, 0, (0, 0, 0, 0, ()), 0, 0, ()) : Int × Int × (Int × Int × Int × Int × Unit) × Int × Int × Unit) s0 s1)).bind fun r1 =>
          bif decide (r1.1 < 0) then
            l77_3 k rec j s0 s1 () (w64 ((w64 ((IntKind.u64.wrap (w64 (s10 + s11))).fdiv (2 ^ (min (1 : Int).toNat 64)))) + 1)) s11
          else
            l77_3 k rec j s0 s1 () s10 (w64 ((IntKind.u64.wrap (w64 (s10 + s11))).fdiv (2 ^ (min (1 : Int).toNat 64))))
        else
          none
      else
        none
    else
      some (s0, s1, s10, ())
noncomputable def l77_9 (k : Nat) (rec : (List (Int × Int × (Int × Int × Int × Int × Unit) × Int × Int × Unit)) → Int → Int → Int → Option (((List (Int × Int × (Int × Int × Int × Int × Unit) × Int × Int × Unit)) × Unit))) : Nat → (List (Int × Int × (Int × Int × Int × Int × Unit) × Int × Int × Unit)) → Int → Int → Option (((List (Int × Int × (Int × Int × Int × Int × Unit) × Int × Int × Unit)) × Unit))
  | 0, _, _, _ => none
  | j + 1, s0, s10, s13 =>
    bif decide (s13 < (w64 (s10 - 1))) then
      bif decide (0 ≤ (w64 (s13 + 1))) && decide ((w64 (s13 + 1)) < (s0.length : Int)) then
        bif decide (0 ≤ s13) && decide (s13 < (s0.length : Int)) then
          bif decide (0 ≤ s13) && decide (s13 < (s0.length : Int)) then
            bif decide (0 ≤ (w64 (s13 + 1))) && decide ((w64 (s13 + 1)) < ((s0.set s13.toNat (rd ((0, 0, (0, 0, 0, 0, ()), 0, 0, ()) : Int × Int × (Int × Int × Int × Int × Unit) × Int × Int × Unit) s0 (w64 (s13 + 1)))).length : Int)) then
              l77_9 k rec j ((s0.set s13.toNat (rd ((0, 0, (0, 0, 0, 0, ()), 0, 0, ()) : Int × Int × (Int × Int × Int × Int × Unit) × Int × Int × Unit) s0 (w64 (s13 + 1)))).set (w64 (s13 + 1)).toNat (rd ((0, 0, (0, 0, 0, 0, ()), 0, 0, ()) : Int × Int × (Int × Int × Int × Int × Unit) × Int × Int × Unit) s0 s13)) s10 (w64 (s13 + 1))
            else
              none
          else
            none
        else
          none
      else
        none
    else
      some (s0, ())
noncomputable def l77_15 (k : Nat) (rec : (List (Int × Int × (Int × Int × Int × Int × Unit) × Int × Int × Unit)) → Int → Int → Int → Option (((List (Int × Int × (Int × Int × Int × Int × Unit) × Int × Int × Unit)) × Unit))) : Nat → (List (Int × Int × (Int × Int × Int × Int × Unit) × Int × Int × Unit)) → Int → Unit → Int → Int → Option (((List (Int × Int × (Int × Int × Int × Int × Unit) × Int × Int × Unit)) × Int × Int × Unit))
  | 0, _, _, _, _, _ => none
  | j + 1, s0, s2, s4, s14, s15 =>
    bif decide (s14 < s15) then
      bif decide (0 ≤ s2) && decide (s2 < (s0.length : Int)) then
        bif decide (0 ≤ (w64 ((IntKind.u64.wrap (w64 (s14 + s15))).fdiv (2 ^ (min (1 : Int).toNat 64))))) && decide ((w64 ((IntKind.u64.wrap (w64 (s14 + s15))).fdiv (2 ^ (min (1 : Int).toNat 64)))) < (s0.length : Int)) then
          (f59 k (rd ((0, 0, (0, 0, 0, 0, ()), 0, 0, ()) : Int × Int × (Int × Int × Int × Int × Unit) × Int × Int × Unit) s0 s2) (rd ((0, 0, (0, 0, 0, 0, ()), 0, 0, ()) : Int × Int × (Int × Int × Int × Int × Unit) × Int × Int × Unit) s0 (w64 ((IntKind.u64.wrap (w64 (s14 + s15))).fdiv (2 ^ (min (1 : Int).toNat 64)))))).bind fun r1 =>
          bif !(decide (r1.1 < 0)) then
            l77_15 k rec j s0 s2 () (w64 ((w64 ((IntKind.u64.wrap (w64 (s14 + s15))).fdiv (2 ^ (min (1 : Int).toNat 64)))) + 1)) s15
          else
            l77_15 k rec j s0 s2 () s14 (w64 ((IntKind.u64.wrap (w64 (s14 + s15))).fdiv (2 ^ (min (1 : Int).toNat 64))))
        else
          none
      else
        none
    else
      some (s0, s2, s14, ())
noncomputable def l77_21 (k : Nat) (rec : (List (Int × Int × (Int × Int × Int × Int × Unit) × Int × Int × Unit)) → Int → Int → Int → Option (((List (Int × Int × (Int × Int × Int × Int × Unit) × Int × Int × Unit)) × Unit))) : Nat → (List (Int × Int × (Int × Int × Int × Int × Unit) × Int × Int × Unit)) → Int → Int → Option (((List (Int × Int × (Int × Int × Int × Int × Unit) × Int × Int × Unit)) × Unit))
  | 0, _, _, _ => none
  | j + 1, s0, s14, s17 =>
    bif decide (s17 > s14) then
      bif decide (0 ≤ (w64 (s17 - 1))) && decide ((w64 (s17 - 1)) < (s0.length : Int)) then
        bif decide (0 ≤ s17) && decide (s17 < (s0.length : Int)) then
          bif decide (0 ≤ s17) && decide (s17 < (s0.length : Int)) then
            bif decide (0 ≤ (w64 (s17 - 1))) && decide ((w64 (s17 - 1)) < ((s0.set s17.toNat (rd ((0, 0, (0, 0, 0, 0, ()), 0, 0, ()) : Int × Int × (Int × Int × Int × Int × Unit) × Int × Int × Unit) s0 (w64 (s17 - 1)))).length : Int)) then
              l77_21 k rec j ((s0.set s17.toNat (rd ((0, 0, (0, 0, 0, 0, ()), 0, 0, ()) : Int × Int × (Int × Int × Int × Int × Unit) × Int × Int × Unit) s0 (w64 (s17 - 1)))).set (w64 (s17 - 1)).toNat (rd ((0, 0, (0, 0, 0, 0, ()), 0, 0, ()) : Int × Int × (Int × Int × Int × Int × Unit) × Int × Int × Unit) s0 s17)) s14 (w64 (s17 - 1))
            else
              none
          else
            none
        else
          none
      else
        none
    else
      some (s0, ())
noncomputable def l77_33 (k : Nat) (rec : (List (Int × Int × (Int × Int × Int × Int × Unit) × Int × Int × Unit)) → Int → Int → Int → Option (((List (Int × Int × (Int × Int × Int × Int × Unit) × Int × Int × Unit)) × Unit))) : Nat → (List (Int × Int × (Int × Int × Int × Int × Unit) × Int × Int × Unit)) → Int → Int → Int → Unit → Int → Int → Int → Int → Int → Option (((List (Int × Int × (Int × Int × Int × Int × Unit) × Int × Int × Unit)) × Int × Int × Int × Unit × Int × Int × Int × Unit))
  | 0, _, _, _, _, _, _, _, _, _, _ => none
  | j + 1, s0, s1, s2, s3, s4, s18, s19, s20, s21, s22 =>
    bif decide (s20 < s21) then
      bif decide (0 ≤ (w64 (s22 - (w64 ((IntKind.u64.wrap (w64 (s20 + s21))).fdiv (2 ^ (min (1 : Int).toNat 64))))))) && decide ((w64 (s22 - (w64 ((IntKind.u64.wrap (w64 (s20 + s21))).fdiv (2 ^ (min (1 : Int).toNat 64)))))) < (s0.length : Int)) then
        bif decide (0 ≤ (w64 ((IntKind.u64.wrap (w64 (s20 + s21))).fdiv (2 ^ (min (1 : Int).toNat 64))))) && decide ((w64 ((IntKind.u64.wrap (w64 (s20 + s21))).fdiv (2 ^ (min (1 : Int).toNat 64)))) < (s0.length : Int)) then
          (f59 k (rd ((0, 0, (0, 0, 0, 0, ()), 0, 0, ()) : Int × Int × (Int × Int × Int × Int × Unit) × Int × Int × Unit) s0 (w64 (s22 - (w64 ((IntKind.u64.wrap (w64 (s20 + s21))).fdiv (2 ^ (min (1 : Int).toNat 64))))))) (rd ((0, 0, (0, 0, 0, 0, ()), 0, 0, ()) : Int × Int × (Int × Int × Int × Int × Unit) × Int × Int × Unit) s0 (w64 ((IntKind.u64.wrap (w64 (s20 + s21))).fdiv (2 ^ (min (1 : Int).toNat 64)))))).bind fun r1 =>
          bif !(decide (r1.1 < 0)) then
            l77_33 k rec j s0 s1 s2 s3 () s18 s19 (w64 ((w64 ((IntKind.u64.wrap (w64 (s20 + s21))).fdiv (2 ^ (min (1 : Int).toNat 64)))) + 1)) s21 s22
          else
            l77_33 k rec j s0 s1 s2 s3 () s18 s19 s20 (w64 ((IntKind.u64.wrap (w64 (s20 + s21))).fdiv (2 ^ (min (1 : Int).toNat 64)))) s22
        else
          none
      else
        none
    else
      some (s0, s1, s2, s3, (), s18, s19, s20, ())
noncomputable def c77_41 (k : Nat) (rec : (List (Int × Int × (Int × Int × Int × Int × Unit) × Int × Int × Unit)) → Int → Int → Int → Option (((List (Int × Int × (Int × Int × Int × Int × Unit) × Int × Int × Unit)) × Unit))) (s0 : List (Int × Int × (Int × Int × Int × Int × Unit) × Int × Int × Unit)) (s1 : Int) (s3 : Int) (s4 : Unit) (s18 : Int) (s20 : Int) (s24 : Int) : Option (((List (Int × Int × (Int × Int × Int × Int × Unit) × Int × Int × Unit)) × Unit)) :=
  bif decide (s1 < s20) then
    bif decide (s20 < s18) then
      (rec s0 s1 s20 s18).bind fun r1 =>
      bif decide (s18 < s24) then
        bif decide (s24 < s3) then
          (rec r1.1 s18 s24 s3).bind fun r2 =>
          some r2
        else
          some r1
      else
        some r1
    else
    bif decide (s18 < s24) then
      bif decide (s24 < s3) then
        (rec s0 s18 s24 s3).bind fun r3 =>
        some r3
      else
        some (s0, ())
    else
      some (s0, ())
  else
  bif decide (s18 < s24) then
    bif decide (s24 < s3) then
      (rec s0 s18 s24 s3).bind fun r4 =>
      some r4
    else
      some (s0, ())
  else
    some (s0, ())
noncomputable def f77_body (k : Nat) (rec : (List (Int × Int × (Int × Int × Int × Int × Unit) × Int × Int × Unit)) → Int → Int → Int → Option (((List (Int × Int × (Int × Int × Int × Int × Unit) × Int × Int × Unit)) × Unit))) (x0 : List (Int × Int × (Int × Int × Int × Int × Unit) × Int × Int × Unit)) (x1 : Int) (x2 : Int) (x3 : Int) : Option (((List (Int × Int × (Int × Int × Int × Int × Unit) × Int × Int × Unit)) × Unit)) :=
  bif (w64 (x2 - x1)) == 1 then
    (l77_3 k rec k x0 x1 () x2 x3).bind fun o1 =>
    (l77_9 k rec k o1.1 o1.2.2.1 o1.2.1).bind fun o2 =>
    some o2
  else
  bif (w64 (x3 - x2)) == 1 then
    (l77_15 k rec k x0 x2 () x1 x2).bind fun o3 =>
    (l77_21 k rec k o3.1 o3.2.2.1 o3.2.1).bind fun o4 =>
    some o4
  else
  bif decide (x2 > (w64 ((IntKind.u64.wrap (w64 (x1 + x3))).fdiv (2 ^ (min (1 : Int).toNat 64))))) then
    (l77_33 k rec k x0 x1 x2 x3 () (w64 ((IntKind.u64.wrap (w64 (x1 + x3))).fdiv (2 ^ (min (1 : Int).toNat 64)))) (w64 ((w64 ((IntKind.u64.wrap (w64 (x1 + x3))).fdiv (2 ^ (min (1 : Int).toNat 64)))) + x2)) (w64 ((w64 ((w64 ((IntKind.u64.wrap (w64 (x1 + x3))).fdiv (2 ^ (min (1 : Int).toNat 64)))) + x2)) - x3)) (w64 ((IntKind.u64.wrap (w64 (x1 + x3))).fdiv (2 ^ (min (1 : Int).toNat 64)))) (w64 ((w64 ((w64 ((IntKind.u64.wrap (w64 (x1 + x3))).fdiv (2 ^ (min (1 : Int).toNat 64)))) + x2)) - 1))).bind fun o5 =>
    bif decide (o5.2.2.2.2.2.2.2.1 < o5.2.2.1) then
      bif decide (o5.2.2.1 < (w64 (o5.2.2.2.2.2.2.1 - o5.2.2.2.2.2.2.2.1))) then
        (f80 k o5.1 o5.2.2.2.2.2.2.2.1 o5.2.2.1 (w64 (o5.2.2.2.2.2.2.1 - o5.2.2.2.2.2.2.2.1))).bind fun r6 =>
        (c77_41 k rec r6.1 o5.2.1 o5.2.2.2.1 () o5.2.2.2.2.2.1 o5.2.2.2.2.2.2.2.1 (w64 (o5.2.2.2.2.2.2.1 - o5.2.2.2.2.2.2.2.1))).bind fun o7 =>
        some o7
      else
        (c77_41 k rec o5.1 o5.2.1 o5.2.2.2.1 () o5.2.2.2.2.2.1 o5.2.2.2.2.2.2.2.1 (w64 (o5.2.2.2.2.2.2.1 - o5.2.2.2.2.2.2.2.1))).bind fun o8 =>
        some o8
    else
      (c77_41 k rec o5.1 o5.2.1 o5.2.2.2.1 () o5.2.2.2.2.2.1 o5.2.2.2.2.2.2.2.1 (w64 (o5.2.2.2.2.2.2.1 - o5.2.2.2.2.2.2.2.1))).bind fun o9 =>
      some o9
  else
    (l77_33 k rec k x0 x1 x2 x3 () (w64 ((IntKind.u64.wrap (w64 (x1 + x3))).fdiv (2 ^ (min (1 : Int).toNat 64)))) (w64 ((w64 ((IntKind.u64.wrap (w64 (x1 + x3))).fdiv (2 ^ (min (1 : Int).toNat 64)))) + x2)) x1 x2 (w64 ((w64 ((w64 ((IntKind.u64.wrap (w64 (x1 + x3))).fdiv (2 ^ (min (1 : Int).toNat 64)))) + x2)) - 1))).bind fun o10 =>
    bif decide (o10.2.2.2.2.2.2.2.1 < o10.2.2.1) then
      bif decide (o10.2.2.1 < (w64 (o10.2.2.2.2.2.2.1 - o10.2.2.2.2.2.2.2.1))) then
        (f80 k o10.1 o10.2.2.2.2.2.2.2.1 o10.2.2.1 (w64 (o10.2.2.2.2.2.2.1 - o10.2.2.2.2.2.2.2.1))).bind fun r11 =>
        (c77_41 k rec r11.1 o10.2.1 o10.2.2.2.1 () o10.2.2.2.2.2.1 o10.2.2.2.2.2.2.2.1 (w64 (o10.2.2.2.2.2.2.1 - o10.2.2.2.2.2.2.2.1))).bind fun o12 =>
        some o12
      else
        (c77_41 k rec o10.1 o10.2.1 o10.2.2.2.1 () o10.2.2.2.2.2.1 o10.2.2.2.2.2.2.2.1 (w64 (o10.2.2.2.2.2.2.1 - o10.2.2.2.2.2.2.2.1))).bind fun o13 =>
        some o13
    else
      (c77_41 k rec o10.1 o10.2.1 o10.2.2.2.1 () o10.2.2.2.2.2.1 o10.2.2.2.2.2.2.2.1 (w64 (o10.2.2.2.2.2.2.1 - o10.2.2.2.2.2.2.2.1))).bind fun o14 =>
      some o14
noncomputable def f77_at (k : Nat) : Nat → (List (Int × Int × (Int × Int × Int × Int × Unit) × Int × Int × Unit)) → Int → Int → Int → Option (((List (Int × Int × (Int × Int × Int × Int × Unit) × Int × Int × Unit)) × Unit))
  | 0, _, _, _, _ => none
  | d + 1, x0, x1, x2, x3 => f77_body k (f77_at k d) x0 x1 x2 x3
noncomputable def f77 (k : Nat) (x0 : List (Int × Int × (Int × Int × Int × Int × Unit) × Int × Int × Unit)) (x1 : Int) (x2 : Int) (x3 : Int) : Option (((List (Int × Int × (Int × Int × Int × Int × Unit) × Int × Int × Unit)) × Unit)) := f77_at k k x0 x1 x2 x3
noncomputable def l77_3_sig (k d : Nat) : LoopSig := ⟨[(0, .obj (.row (.pair (.int .i64) (.pair (.int .i64) (.pair (.pair (.int .i64) (.pair (.int .i64) (.pair (.int .i64) (.pair (.int .i64) (.unit))))) (.pair (.int .i64) (.pair (.int .i64) (.unit)))))))), (1, .obj (.val (.int .i64))), (4, .obj (.fn 59)), (10, .obj (.val (.int .i64))), (11, .obj (.val (.int .i64)))], [(.exit 0, [(0, .obj (.row (.pair (.int .i64) (.pair (.int .i64) (.pair (.pair (.int .i64) (.pair (.int .i64) (.pair (.int .i64) (.pair (.int .i64) (.unit))))) (.pair (.int .i64) (.pair (.int .i64) (.unit)))))))), (1, .obj (.val (.int .i64))), (10, .obj (.val (.int .i64)))])], fun j x => l77_3 k (f77_at k d) j x.1 x.2.1 x.2.2.1 x.2.2.2.1 x.2.2.2.2.1⟩
noncomputable def l77_9_sig (k d : Nat) : LoopSig := ⟨[(0, .obj (.row (.pair (.int .i64) (.pair (.int .i64) (.pair (.pair (.int .i64) (.pair (.int .i64) (.pair (.int .i64) (.pair (.int .i64) (.unit))))) (.pair (.int .i64) (.pair (.int .i64) (.unit)))))))), (10, .obj (.val (.int .i64))), (13, .obj (.val (.int .i64)))], [(.exit 2, [(0, .obj (.row (.pair (.int .i64) (.pair (.int .i64) (.pair (.pair (.int .i64) (.pair (.int .i64) (.pair (.int .i64) (.pair (.int .i64) (.unit))))) (.pair (.int .i64) (.pair (.int .i64) (.unit))))))))])], fun j x => l77_9 k (f77_at k d) j x.1 x.2.1 x.2.2.1⟩
noncomputable def l77_15_sig (k d : Nat) : LoopSig := ⟨[(0, .obj (.row (.pair (.int .i64) (.pair (.int .i64) (.pair (.pair (.int .i64) (.pair (.int .i64) (.pair (.int .i64) (.pair (.int .i64) (.unit))))) (.pair (.int .i64) (.pair (.int .i64) (.unit)))))))), (2, .obj (.val (.int .i64))), (4, .obj (.fn 59)), (14, .obj (.val (.int .i64))), (15, .obj (.val (.int .i64)))], [(.exit 4, [(0, .obj (.row (.pair (.int .i64) (.pair (.int .i64) (.pair (.pair (.int .i64) (.pair (.int .i64) (.pair (.int .i64) (.pair (.int .i64) (.unit))))) (.pair (.int .i64) (.pair (.int .i64) (.unit)))))))), (2, .obj (.val (.int .i64))), (14, .obj (.val (.int .i64)))])], fun j x => l77_15 k (f77_at k d) j x.1 x.2.1 x.2.2.1 x.2.2.2.1 x.2.2.2.2.1⟩
noncomputable def l77_21_sig (k d : Nat) : LoopSig := ⟨[(0, .obj (.row (.pair (.int .i64) (.pair (.int .i64) (.pair (.pair (.int .i64) (.pair (.int .i64) (.pair (.int .i64) (.pair (.int .i64) (.unit))))) (.pair (.int .i64) (.pair (.int .i64) (.unit)))))))), (14, .obj (.val (.int .i64))), (17, .obj (.val (.int .i64)))], [(.exit 6, [(0, .obj (.row (.pair (.int .i64) (.pair (.int .i64) (.pair (.pair (.int .i64) (.pair (.int .i64) (.pair (.int .i64) (.pair (.int .i64) (.unit))))) (.pair (.int .i64) (.pair (.int .i64) (.unit))))))))])], fun j x => l77_21 k (f77_at k d) j x.1 x.2.1 x.2.2.1⟩
noncomputable def l77_33_sig (k d : Nat) : LoopSig := ⟨[(0, .obj (.row (.pair (.int .i64) (.pair (.int .i64) (.pair (.pair (.int .i64) (.pair (.int .i64) (.pair (.int .i64) (.pair (.int .i64) (.unit))))) (.pair (.int .i64) (.pair (.int .i64) (.unit)))))))), (1, .obj (.val (.int .i64))), (2, .obj (.val (.int .i64))), (3, .obj (.val (.int .i64))), (4, .obj (.fn 59)), (18, .obj (.val (.int .i64))), (19, .obj (.val (.int .i64))), (20, .obj (.val (.int .i64))), (21, .obj (.val (.int .i64))), (22, .obj (.val (.int .i64)))], [(.exit 8, [(0, .obj (.row (.pair (.int .i64) (.pair (.int .i64) (.pair (.pair (.int .i64) (.pair (.int .i64) (.pair (.int .i64) (.pair (.int .i64) (.unit))))) (.pair (.int .i64) (.pair (.int .i64) (.unit)))))))), (1, .obj (.val (.int .i64))), (2, .obj (.val (.int .i64))), (3, .obj (.val (.int .i64))), (4, .obj (.fn 59)), (18, .obj (.val (.int .i64))), (19, .obj (.val (.int .i64))), (20, .obj (.val (.int .i64)))])], fun j x => l77_33 k (f77_at k d) j x.1 x.2.1 x.2.2.1 x.2.2.2.1 x.2.2.2.2.1 x.2.2.2.2.2.1 x.2.2.2.2.2.2.1 x.2.2.2.2.2.2.2.1 x.2.2.2.2.2.2.2.2.1 x.2.2.2.2.2.2.2.2.2.1⟩
noncomputable def c77_41_sig (k d : Nat) : LoopSig := ⟨[(0, .obj (.row (.pair (.int .i64) (.pair (.int .i64) (.pair (.pair (.int .i64) (.pair (.int .i64) (.pair (.int .i64) (.pair (.int .i64) (.unit))))) (.pair (.int .i64) (.pair (.int .i64) (.unit)))))))), (1, .obj (.val (.int .i64))), (3, .obj (.val (.int .i64))), (4, .obj (.fn 59)), (18, .obj (.val (.int .i64))), (20, .obj (.val (.int .i64))), (24, .obj (.val (.int .i64)))], [(.normal, [(0, .obj (.row (.pair (.int .i64) (.pair (.int .i64) (.pair (.pair (.int .i64) (.pair (.int .i64) (.pair (.int .i64) (.pair (.int .i64) (.unit))))) (.pair (.int .i64) (.pair (.int .i64) (.unit))))))))])], fun _ x => c77_41 k (f77_at k d) x.1 x.2.1 x.2.2.1 x.2.2.2.1 x.2.2.2.2.1 x.2.2.2.2.2.1 x.2.2.2.2.2.2.1⟩
noncomputable def f77_sig_at (k d : Nat) : Sig := ⟨[.row (.pair (.int .i64) (.pair (.int .i64) (.pair (.pair (.int .i64) (.pair (.int .i64) (.pair (.int .i64) (.pair (.int .i64) (.unit))))) (.pair (.int .i64) (.pair (.int .i64) (.unit)))))), .val (.int .i64), .val (.int .i64), .val (.int .i64), .fn 59], [0], [[.row (.pair (.int .i64) (.pair (.int .i64) (.pair (.pair (.int .i64) (.pair (.int .i64) (.pair (.int .i64) (.pair (.int .i64) (.unit))))) (.pair (.int .i64) (.pair (.int .i64) (.unit))))))]], fun x => f77_at k d x.1 x.2.1 x.2.2.1 x.2.2.2.1⟩
noncomputable def f77_sig (k : Nat) : Sig := ⟨[.row (.pair (.int .i64) (.pair (.int .i64) (.pair (.pair (.int .i64) (.pair (.int .i64) (.pair (.int .i64) (.pair (.int .i64) (.unit))))) (.pair (.int .i64) (.pair (.int .i64) (.unit)))))), .val (.int .i64), .val (.int .i64), .val (.int .i64), .fn 59], [0], [[.row (.pair (.int .i64) (.pair (.int .i64) (.pair (.pair (.int .i64) (.pair (.int .i64) (.pair (.int .i64) (.pair (.int .i64) (.unit))))) (.pair (.int .i64) (.pair (.int .i64) (.unit))))))]], fun x => f77 k x.1 x.2.1 x.2.2.1 x.2.2.2.1⟩
noncomputable def E_f77 (k d : Nat) : Env := ⟨Try.prog, scons 80 [f80_sig k] (scons 59 [f59_sig k] (scons 77 [f77_sig_at k d] (snil))), tcons 33 (l77_33_sig k d) (tcons 21 (l77_21_sig k d) (tcons 15 (l77_15_sig k d) (tcons 9 (l77_9_sig k d) (tcons 3 (l77_3_sig k d) (tnil))))), tcons 41 (c77_41_sig k d) (tnil), unil, k⟩
theorem l77_3_ok (k d : Nat) : LoopOK (E_f77 k d) ⟨Try.f77.ntmps, [0]⟩ (nthC 0 (loopsIn (Try.f77.body.getD .skip))) :=
  loop_ok (ls := l77_3_sig k d) (by kernel_rfl) (fun _ => by kernel_rfl) (fun j x => by kernel_rfl)
theorem l77_9_ok (k d : Nat) : LoopOK (E_f77 k d) ⟨Try.f77.ntmps, [0]⟩ (nthC 1 (loopsIn (Try.f77.body.getD .skip))) :=
  loop_ok (ls := l77_9_sig k d) (by kernel_rfl) (fun _ => by kernel_rfl) (fun j x => by kernel_rfl)
theorem l77_15_ok (k d : Nat) : LoopOK (E_f77 k d) ⟨Try.f77.ntmps, [0]⟩ (nthC 2 (loopsIn (Try.f77.body.getD .skip))) :=
  loop_ok (ls := l77_15_sig k d) (by kernel_rfl) (fun _ => by kernel_rfl) (fun j x => by kernel_rfl)
theorem l77_21_ok (k d : Nat) : LoopOK (E_f77 k d) ⟨Try.f77.ntmps, [0]⟩ (nthC 3 (loopsIn (Try.f77.body.getD .skip))) :=
  loop_ok (ls := l77_21_sig k d) (by kernel_rfl) (fun _ => by kernel_rfl) (fun j x => by kernel_rfl)
theorem l77_33_ok (k d : Nat) : LoopOK (E_f77 k d) ⟨Try.f77.ntmps, [0]⟩ (nthC 4 (loopsIn (Try.f77.body.getD .skip))) :=
  loop_ok (ls := l77_33_sig k d) (by kernel_rfl) (fun _ => by kernel_rfl) (fun j x => by kernel_rfl)
theorem c77_41_ok (k d : Nat) : CutOK (E_f77 k d) ⟨Try.f77.ntmps, [0]⟩ (nthC 43 (seqsIn (Try.f77.body.getD .skip))) :=
  cut_ok (ls := c77_41_sig k d) (by kernel_rfl) (fun x => by kernel_rfl)
theorem f77_run (k d : Nat) (x : (lTy (lay 0 (f77_sig_at k (d + 1)).ins)).den) : runF (E_f77 k d) Try.f77 (f77_sig_at k (d + 1)) x = (f77_sig_at k (d + 1)).F x := by kernel_rfl
theorem f77_ok_at (k : Nat) : (d : Nat) → FnOK Try.prog 77 (f77_sig_at k d)
  | 0 => fn_none Try.call77 (fun _ => rfl)
  | d + 1 => fn_ok2 (E := E_f77 k d) (env_cons (one_sig (f80_ok k)) (env_cons (one_sig (f59_ok k)) (env_cons (one_sig (f77_ok_at k d)) (env_nil)))) mixed Try.func77 Try.call77 (by kernel_rfl) (by kernel_rfl) (m := 5) (by kernel_rfl) ⟨⟨⟨⟨⟨trivial, l77_3_ok k d⟩, l77_9_ok k d⟩, l77_15_ok k d⟩, l77_21_ok k d⟩, l77_33_ok k d⟩ (sk := [43]) (by kernel_rfl) ⟨c77_41_ok k d, trivial⟩ (f77_run k d)
theorem f77_ok (k : Nat) : FnOK Try.prog 77 (f77_sig k) := f77_ok_at k k

/-! ### slices.stableCmpFunc[gamehall/api.StandingRow]: function 69 -/
noncomputable def l69_2 (k : Nat) : Nat → (List (Int × Int × (Int × Int × Int × Int × Unit) × Int × Int × Unit)) → Int → Unit → Int → Int → Int → Option (((List (Int × Int × (Int × Int × Int × Int × Unit) × Int × Int × Unit)) × Int × Unit × Int × Int × Unit))
  | 0, _, _, _, _, _, _ => none
  | j + 1, s0, s1, s2, s6, s7, s8 =>
    bif decide (s8 ≤ s1) then
      (f76 k s0 s7 s8).bind fun r1 =>
      l69_2 k j r1.1 s1 () s6 s8 (w64 (s8 + s6))
    else
      some (s0, s1, (), s6, s7, ())
noncomputable def l69_2_sig (k : Nat) : LoopSig := ⟨[(0, .obj (.row (.pair (.int .i64) (.pair (.int .i64) (.pair (.pair (.int .i64) (.pair (.int .i64) (.pair (.int .i64) (.pair (.int .i64) (.unit))))) (.pair (.int .i64) (.pair (.int .i64) (.unit)))))))), (1, .obj (.val (.int .i64))), (2, .obj (.fn 59)), (6, .obj (.val (.int .i64))), (7, .obj (.val (.int .i64))), (8, .obj (.val (.int .i64)))], [(.exit 0, [(0, .obj (.row (.pair (.int .i64) (.pair (.int .i64) (.pair (.pair (.int .i64) (.pair (.int .i64) (.pair (.int .i64) (.pair (.int .i64) (.unit))))) (.pair (.int .i64) (.pair (.int .i64) (.unit)))))))), (1, .obj (.val (.int .i64))), (2, .obj (.fn 59)), (6, .obj (.val (.int .i64))), (7, .obj (.val (.int .i64)))])], fun j x => l69_2 k j x.1 x.2.1 x.2.2.1 x.2.2.2.1 x.2.2.2.2.1 x.2.2.2.2.2.1⟩
noncomputable def l69_9 (k : Nat) : Nat → (List (Int × Int × (Int × Int × Int × Int × Unit) × Int × Int × Unit)) → Int → Unit → Int → Int → Int → Option (((List (Int × Int × (Int × Int × Int × Int × Unit) × Int × Int × Unit)) × Int × Unit × Int × Int × Unit))
  | 0, _, _, _, _, _, _ => none
  | j + 1, s0, s1, s2, s6, s7, s8 =>
    bif decide (s8 ≤ s1) then
      (f77 k s0 s7 (w64 (s7 + s6)) s8).bind fun r1 =>
      l69_9 k j r1.1 s1 () s6 s8 (w64 (s8 + (w64 (2 * s6))))
    else
      some (s0, s1, (), s6, s7, ())
noncomputable def l69_9_sig (k : Nat) : LoopSig := ⟨[(0, .obj (.row (.pair (.int .i64) (.pair (.int .i64) (.pair (.pair (.int .i64) (.pair (.int .i64) (.pair (.int .i64) (.pair (.int .i64) (.unit))))) (.pair (.int .i64) (.pair (.int .i64) (.unit)))))))), (1, .obj (.val (.int .i64))), (2, .obj (.fn 59)), (6, .obj (.val (.int .i64))), (7, .obj (.val (.int .i64))), (8, .obj (.val (.int .i64)))], [(.exit 4, [(0, .obj (.row (.pair (.int .i64) (.pair (.int .i64) (.pair (.pair (.int .i64) (.pair (.int .i64) (.pair (.int .i64) (.pair (.int .i64) (.unit))))) (.pair (.int .i64) (.pair (.int .i64) (.unit)))))))), (1, .obj (.val (.int .i64))), (2, .obj (.fn 59)), (6, .obj (.val (.int .i64))), (7, .obj (.val (.int .i64)))])], fun j x => l69_9 k j x.1 x.2.1 x.2.2.1 x.2.2.2.1 x.2.2.2.2.1 x.2.2.2.2.2.1⟩
noncomputable def l69_7 (k : Nat) : Nat → (List (Int × Int × (Int × Int × Int × Int × Unit) × Int × Int × Unit)) → Int → Unit → Int → Option (((List (Int × Int × (Int × Int × Int × Int × Unit) × Int × Int × Unit)) × Unit))
  | 0, _, _, _, _ => none
  | j + 1, s0, s1, s2, s6 =>
    bif decide (s6 < s1) then
      (l69_9 k k s0 s1 () s6 0 (w64 (2 * s6))).bind fun o1 =>
      bif decide ((w64 (o1.2.2.2.2.1 + o1.2.2.2.1)) < o1.2.1) then
        (f77 k o1.1 o1.2.2.2.2.1 (w64 (o1.2.2.2.2.1 + o1.2.2.2.1)) o1.2.1).bind fun r2 =>
        l69_7 k j r2.1 o1.2.1 () (w64 (o1.2.2.2.1 * 2))
      else
        l69_7 k j o1.1 o1.2.1 () (w64 (o1.2.2.2.1 * 2))
    else
      some (s0, ())
noncomputable def l69_7_sig (k : Nat) : LoopSig := ⟨[(0, .obj (.row (.pair (.int .i64) (.pair (.int .i64) (.pair (.pair (.int .i64) (.pair (.int .i64) (.pair (.int .i64) (.pair (.int .i64) (.unit))))) (.pair (.int .i64) (.pair (.int .i64) (.unit)))))))), (1, .obj (.val (.int .i64))), (2, .obj (.fn 59)), (6, .obj (.val (.int .i64)))], [(.exit 2, [(0, .obj (.row (.pair (.int .i64) (.pair (.int .i64) (.pair (.pair (.int .i64) (.pair (.int .i64) (.pair (.int .i64) (.pair (.int .i64) (.unit))))) (.pair (.int .i64) (.pair (.int .i64) (.unit))))))))])], fun j x => l69_7 k j x.1 x.2.1 x.2.2.1 x.2.2.2.1⟩
noncomputable def f69 (k : Nat) (x0 : List (Int × Int × (Int × Int × Int × Int × Unit) × Int × Int × Unit)) (x1 : Int) : Option (((List (Int × Int × (Int × Int × Int × Int × Unit) × Int × Int × Unit)) × Unit)) :=
  (l69_2 k k x0 x1 () 20 0 20).bind fun o1 =>
  (f76 k o1.1 o1.2.2.2.2.1 o1.2.1).bind fun r2 =>
  (l69_7 k k r2.1 o1.2.1 () o1.2.2.2.1).bind fun o3 =>
  some o3
noncomputable def f69_sig (k : Nat) : Sig := ⟨[.row (.pair (.int .i64) (.pair (.int .i64) (.pair (.pair (.int .i64) (.pair (.int .i64) (.pair (.int .i64) (.pair (.int .i64) (.unit))))) (.pair (.int .i64) (.pair (.int .i64) (.unit)))))), .val (.int .i64), .fn 59], [0], [[.row (.pair (.int .i64) (.pair (.int .i64) (.pair (.pair (.int .i64) (.pair (.int .i64) (.pair (.int .i64) (.pair (.int .i64) (.unit))))) (.pair (.int .i64) (.pair (.int .i64) (.unit))))))]], fun x => f69 k x.1 x.2.1⟩
noncomputable def E_f69 (k : Nat) : Env := ⟨Try.prog, scons 77 [f77_sig k] (scons 76 [f76_sig k] (snil)), tcons 7 (l69_7_sig k) (tcons 9 (l69_9_sig k) (tcons 2 (l69_2_sig k) (tnil))), tnil, unil, k⟩
theorem l69_2_ok (k : Nat) : LoopOK (E_f69 k) ⟨Try.f69.ntmps, [0]⟩ (nthC 0 (loopsIn (Try.f69.body.getD .skip))) :=
  loop_ok (ls := l69_2_sig k) (by kernel_rfl) (fun _ => by kernel_rfl) (fun j x => by kernel_rfl)
theorem l69_7_ok (k : Nat) : LoopOK (E_f69 k) ⟨Try.f69.ntmps, [0]⟩ (nthC 1 (loopsIn (Try.f69.body.getD .skip))) :=
  loop_ok (ls := l69_7_sig k) (by kernel_rfl) (fun _ => by kernel_rfl) (fun j x => by kernel_rfl)
theorem l69_9_ok (k : Nat) : LoopOK (E_f69 k) ⟨Try.f69.ntmps, [0]⟩ (nthC 2 (loopsIn (Try.f69.body.getD .skip))) :=
  loop_ok (ls := l69_9_sig k) (by kernel_rfl) (fun _ => by kernel_rfl) (fun j x => by kernel_rfl)
theorem f69_run (k : Nat) (x : (lTy (lay 0 (f69_sig k).ins)).den) : runF (E_f69 k) Try.f69 (f69_sig k) x = (f69_sig k).F x := by kernel_rfl
theorem f69_ok (k : Nat) : FnOK Try.prog 69 (f69_sig k) :=
  fn_ok2 (E := E_f69 k) (env_cons (one_sig (f77_ok k)) (env_cons (one_sig (f76_ok k)) (env_nil))) mixed Try.func69 Try.call69 (by kernel_rfl) (by kernel_rfl) (m := 3) (by kernel_rfl) ⟨⟨⟨trivial, l69_2_ok k⟩, l69_7_ok k⟩, l69_9_ok k⟩ (sk := []) (by kernel_rfl) trivial (f69_run k)

/-! ### slices.SortStableFunc[[]gamehall/api.StandingRow,gamehall/api.StandingRow]: function 58 -/
noncomputable def f58 (k : Nat) (x0 : List (Int × Int × (Int × Int × Int × Int × Unit) × Int × Int × Unit)) : Option (((List (Int × Int × (Int × Int × Int × Int × Unit) × Int × Int × Unit)) × Unit)) :=
  (f69 k x0 (x0.length : Int)).bind fun r1 =>
  some r1
noncomputable def f58_sig (k : Nat) : Sig := ⟨[.row (.pair (.int .i64) (.pair (.int .i64) (.pair (.pair (.int .i64) (.pair (.int .i64) (.pair (.int .i64) (.pair (.int .i64) (.unit))))) (.pair (.int .i64) (.pair (.int .i64) (.unit)))))), .fn 59], [0], [[.row (.pair (.int .i64) (.pair (.int .i64) (.pair (.pair (.int .i64) (.pair (.int .i64) (.pair (.int .i64) (.pair (.int .i64) (.unit))))) (.pair (.int .i64) (.pair (.int .i64) (.unit))))))]], fun x => f58 k x.1⟩
noncomputable def E_f58 (k : Nat) : Env := ⟨Try.prog, scons 69 [f69_sig k] (snil), tnil, tnil, unil, k⟩
theorem f58_run (k : Nat) (x : (lTy (lay 0 (f58_sig k).ins)).den) : runF (E_f58 k) Try.f58 (f58_sig k) x = (f58_sig k).F x := by kernel_rfl
theorem f58_ok (k : Nat) : FnOK Try.prog 58 (f58_sig k) :=
  fn_ok2 (E := E_f58 k) (env_cons (one_sig (f69_ok k)) (env_nil)) mixed Try.func58 Try.call58 (by kernel_rfl) (by kernel_rfl) (m := 0) (by kernel_rfl) trivial (sk := []) (by kernel_rfl) trivial (f58_run k)

/-! ### gamehall/standing.Table: function 38 -/
noncomputable def l38_6 (k : Nat) : Nat → Int → (List (Int × Int × Int × Unit)) → (List Int) → (List (Int × Int × (Int × Int × Int × Int × Unit) × Int × Int × Unit)) → Int → Int → Option ((Int × (List (Int × Int × (Int × Int × Int × Int × Unit) × Int × Int × Unit)) × Unit))
  | 0, _, _, _, _, _, _ => none
  | j + 1, s0, s1, s6, s8, s22, s23 =>
    bif decide (s23 < s22) then
      (f57 k s0 s1 s23).bind fun r1 =>
      bif decide (0 ≤ s23) && decide (s23 < (s6.length : Int)) then
        bif decide ((s8.length + ([(s23, rd 0 s6 s23, r1.1, 0, 0, ())] : List (Int × Int × (Int × Int × Int × Int × Unit) × Int × Int × Unit)).length) * 64 ≤ roomN) then
          l38_6 k j s0 s1 s6 (s8 ++ [(s23, rd 0 s6 s23, r1.1, 0, 0, ())]) s22 (w64 (s23 + 1))
        else
          none
      else
        none
    else
      some (s0, s8, ())
noncomputable def l38_6_sig (k : Nat) : LoopSig := ⟨[(0, .obj (.val (.int .i64))), (1, .obj (.val (.sl (.pair (.int .i64) (.pair (.int .i64) (.pair (.int .i64) (.unit))))))), (6, .obj (.row (.int .i64))), (8, .obj (.row (.pair (.int .i64) (.pair (.int .i64) (.pair (.pair (.int .i64) (.pair (.int .i64) (.pair (.int .i64) (.pair (.int .i64) (.unit))))) (.pair (.int .i64) (.pair (.int .i64) (.unit)))))))), (22, .obj (.val (.int .i64))), (23, .obj (.val (.int .i64)))], [(.exit 0, [(0, .obj (.val (.int .i64))), (8, .obj (.row (.pair (.int .i64) (.pair (.int .i64) (.pair (.pair (.int .i64) (.pair (.int .i64) (.pair (.int .i64) (.pair (.int .i64) (.unit))))) (.pair (.int .i64) (.pair (.int .i64) (.unit))))))))])], fun j x => l38_6 k j x.1 x.2.1 x.2.2.1 x.2.2.2.1 x.2.2.2.2.1 x.2.2.2.2.2.1⟩
noncomputable def l38_16 (k : Nat) : Nat → Int → (List (Int × Int × (Int × Int × Int × Int × Unit) × Int × Int × Unit)) → Int → Int → Int → Option ((Int × (List (Int × Int × (Int × Int × Int × Int × Unit) × Int × Int × Unit)) × Int × Int × Int × Unit))
  | 0, _, _, _, _, _ => none
  | j + 1, s0, s8, s12, s47, s48 =>
    bif decide (0 ≤ s12) && decide (s12 < (s8.length : Int)) then
      bif decide ((rd ((0, 0, (0, 0, 0, 0, ()), 0, 0, ()) : Int × Int × (Int × Int × Int × Int × Unit) × Int × Int × Unit) s8 s12).2.2.2.1 > 0) then
        bif decide (0 ≤ s12) && decide (s12 < (s8.length : Int)) then
          bif decide (0 ≤ (w64 ((rd ((0, 0, (0, 0, 0, 0, ()), 0, 0, ()) : Int × Int × (Int × Int × Int × Int × Unit) × Int × Int × Unit) s8 s12).2.2.2.1 - 1))) && decide ((w64 ((rd ((0, 0, (0, 0, 0, 0, ()), 0, 0, ()) : Int × Int × (Int × Int × Int × Int × Unit) × Int × Int × Unit) s8 s12).2.2.2.1 - 1)) < (s8.length : Int)) then
            bif decide (0 ≤ s12) && decide (s12 < (s8.length : Int)) then
              (f59 k (rd ((0, 0, (0, 0, 0, 0, ()), 0, 0, ()) : Int × Int × (Int × Int × Int × Int × Unit) × Int × Int × Unit) s8 (w64 ((rd ((0, 0, (0, 0, 0, 0, ()), 0, 0, ()) : Int × Int × (Int × Int × Int × Int × Unit) × Int × Int × Unit) s8 s12).2.2.2.1 - 1))) (rd ((0, 0, (0, 0, 0, 0, ()), 0, 0, ()) : Int × Int × (Int × Int × Int × Int × Unit) × Int × Int × Unit) s8 s12)).bind fun r1 =>
              bif r1.1 == 0 then
                bif decide (0 ≤ s12) && decide (s12 < (s8.length : Int)) then
                  bif decide (0 ≤ s12) && decide (s12 < (s8.length : Int)) then
                    l38_16 k j s0 (s8.set s12.toNat ((rd ((0, 0, (0, 0, 0, 0, ()), 0, 0, ()) : Int × Int × (Int × Int × Int × Int × Unit) × Int × Int × Unit) s8 s12).1, (rd ((0, 0, (0, 0, 0, 0, ()), 0, 0, ()) : Int × Int × (Int × Int × Int × Int × Unit) × Int × Int × Unit) s8 s12).2.1, (rd ((0, 0, (0, 0, 0, 0, ()), 0, 0, ()) : Int × Int × (Int × Int × Int × Int × Unit) × Int × Int × Unit) s8 s12).2.2.1, w64 ((rd ((0, 0, (0, 0, 0, 0, ()), 0, 0, ()) : Int × Int × (Int × Int × Int × Int × Unit) × Int × Int × Unit) s8 s12).2.2.2.1 - 1), (rd ((0, 0, (0, 0, 0, 0, ()), 0, 0, ()) : Int × Int × (Int × Int × Int × Int × Unit) × Int × Int × Unit) s8 s12).2.2.2.2)) s12 s47 s48
                  else
                    none
                else
                  none
              else
                some (s0, s8, s12, s47, s48, ())
            else
              none
          else
            none
        else
          none
      else
        some (s0, s8, s12, s47, s48, ())
    else
      none
noncomputable def l38_16_sig (k : Nat) : LoopSig := ⟨[(0, .obj (.val (.int .i64))), (8, .obj (.row (.pair (.int .i64) (.pair (.int .i64) (.pair (.pair (.int .i64) (.pair (.int .i64) (.pair (.int .i64) (.pair (.int .i64) (.unit))))) (.pair (.int .i64) (.pair (.int .i64) (.unit)))))))), (12, .obj (.val (.int .i64))), (47, .obj (.val (.int .i64))), (48, .obj (.val (.int .i64)))], [(.exit 4, [(0, .obj (.val (.int .i64))), (8, .obj (.row (.pair (.int .i64) (.pair (.int .i64) (.pair (.pair (.int .i64) (.pair (.int .i64) (.pair (.int .i64) (.pair (.int .i64) (.unit))))) (.pair (.int .i64) (.pair (.int .i64) (.unit)))))))), (12, .obj (.val (.int .i64))), (47, .obj (.val (.int .i64))), (48, .obj (.val (.int .i64)))])], fun j x => l38_16 k j x.1 x.2.1 x.2.2.1 x.2.2.2.1 x.2.2.2.2.1⟩
noncomputable def l38_19 (k : Nat) : Nat → Int → (List (Int × Int × (Int × Int × Int × Int × Unit) × Int × Int × Unit)) → Int → Int → Int → Option ((Int × (List (Int × Int × (Int × Int × Int × Int × Unit) × Int × Int × Unit)) × Int × Int × Int × Unit))
  | 0, _, _, _, _, _ => none
  | j + 1, s0, s8, s12, s47, s48 =>
    bif decide (0 ≤ s12) && decide (s12 < (s8.length : Int)) then
      bif decide ((w64 ((rd ((0, 0, (0, 0, 0, 0, ()), 0, 0, ()) : Int × Int × (Int × Int × Int × Int × Unit) × Int × Int × Unit) s8 s12).2.2.2.2.1 + 1)) < s0) then
        bif decide (0 ≤ s12) && decide (s12 < (s8.length : Int)) then
          bif decide (0 ≤ (w64 ((rd ((0, 0, (0, 0, 0, 0, ()), 0, 0, ()) : Int × Int × (Int × Int × Int × Int × Unit) × Int × Int × Unit) s8 s12).2.2.2.2.1 + 1))) && decide ((w64 ((rd ((0, 0, (0, 0, 0, 0, ()), 0, 0, ()) : Int × Int × (Int × Int × Int × Int × Unit) × Int × Int × Unit) s8 s12).2.2.2.2.1 + 1)) < (s8.length : Int)) then
            bif decide (0 ≤ s12) && decide (s12 < (s8.length : Int)) then
              (f59 k (rd ((0, 0, (0, 0, 0, 0, ()), 0, 0, ()) : Int × Int × (Int × Int × Int × Int × Unit) × Int × Int × Unit) s8 (w64 ((rd ((0, 0, (0, 0, 0, 0, ()), 0, 0, ()) : Int × Int × (Int × Int × Int × Int × Unit) × Int × Int × Unit) s8 s12).2.2.2.2.1 + 1))) (rd ((0, 0, (0, 0, 0, 0, ()), 0, 0, ()) : Int × Int × (Int × Int × Int × Int × Unit) × Int × Int × Unit) s8 s12)).bind fun r1 =>
              bif r1.1 == 0 then
                bif decide (0 ≤ s12) && decide (s12 < (s8.length : Int)) then
                  bif decide (0 ≤ s12) && decide (s12 < (s8.length : Int)) then
                    l38_19 k j s0 (s8.set s12.toNat ((rd ((0, 0, (0, 0, 0, 0, ()), 0, 0, ()) : Int × Int × (Int × Int × Int × Int × Unit) × Int × Int × Unit) s8 s12).1, (rd ((0, 0, (0, 0, 0, 0, ()), 0, 0, ()) : Int × Int × (Int × Int × Int × Int × Unit) × Int × Int × Unit) s8 s12).2.1, (rd ((0, 0, (0, 0, 0, 0, ()), 0, 0, ()) : Int × Int × (Int × Int × Int × Int × Unit) × Int × Int × Unit) s8 s12).2.2.1, (rd ((0, 0, (0, 0, 0, 0, ()), 0, 0, ()) : Int × Int × (Int × Int × Int × Int × Unit) × Int × Int × Unit) s8 s12).2.2.2.1, w64 ((rd ((0, 0, (0, 0, 0, 0, ()), 0, 0, ()) : Int × Int × (Int × Int × Int × Int × Unit) × Int × Int × Unit) s8 s12).2.2.2.2.1 + 1), ())) s12 s47 s48
                  else
                    none
                else
                  none
              else
                some (s0, s8, s12, s47, s48, ())
            else
              none
          else
            none
        else
          none
      else
        some (s0, s8, s12, s47, s48, ())
    else
      none
noncomputable def l38_19_sig (k : Nat) : LoopSig := ⟨[(0, .obj (.val (.int .i64))), (8, .obj (.row (.pair (.int .i64) (.pair (.int .i64) (.pair (.pair (.int .i64) (.pair (.int .i64) (.pair (.int .i64) (.pair (.int .i64) (.unit))))) (.pair (.int .i64) (.pair (.int .i64) (.unit)))))))), (12, .obj (.val (.int .i64))), (47, .obj (.val (.int .i64))), (48, .obj (.val (.int .i64)))], [(.exit 6, [(0, .obj (.val (.int .i64))), (8, .obj (.row (.pair (.int .i64) (.pair (.int .i64) (.pair (.pair (.int .i64) (.pair (.int .i64) (.pair (.int .i64) (.pair (.int .i64) (.unit))))) (.pair (.int .i64) (.pair (.int .i64) (.unit)))))))), (12, .obj (.val (.int .i64))), (47, .obj (.val (.int .i64))), (48, .obj (.val (.int .i64)))])], fun j x => l38_19 k j x.1 x.2.1 x.2.2.1 x.2.2.2.1 x.2.2.2.2.1⟩
noncomputable def l38_13 (k : Nat) : Nat → Int → (List (Int × Int × (Int × Int × Int × Int × Unit) × Int × Int × Unit)) → Int → Int → Option (((List (Int × Int × (Int × Int × Int × Int × Unit) × Int × Int × Unit)) × Unit))
  | 0, _, _, _, _ => none
  | j + 1, s0, s8, s47, s48 =>
    bif decide (s48 < s47) then
      bif decide (0 ≤ s48) && decide (s48 < (s8.length : Int)) then
        (l38_16 k k s0 (s8.set s48.toNat ((rd ((0, 0, (0, 0, 0, 0, ()), 0, 0, ()) : Int × Int × (Int × Int × Int × Int × Unit) × Int × Int × Unit) s8 s48).1, (rd ((0, 0, (0, 0, 0, 0, ()), 0, 0, ()) : Int × Int × (Int × Int × Int × Int × Unit) × Int × Int × Unit) s8 s48).2.1, (rd ((0, 0, (0, 0, 0, 0, ()), 0, 0, ()) : Int × Int × (Int × Int × Int × Int × Unit) × Int × Int × Unit) s8 s48).2.2.1, s48, (rd ((0, 0, (0, 0, 0, 0, ()), 0, 0, ()) : Int × Int × (Int × Int × Int × Int × Unit) × Int × Int × Unit) s8 s48).2.2.2.2)) s48 s47 s48).bind fun o1 =>
        bif decide (0 ≤ o1.2.2.1) && decide (o1.2.2.1 < (o1.2.1.length : Int)) then
          (l38_19 k k o1.1 (o1.2.1.set o1.2.2.1.toNat ((rd ((0, 0, (0, 0, 0, 0, ()), 0, 0, ()) : Int × Int × (Int × Int × Int × Int × Unit) × Int × Int × Unit) o1.2.1 o1.2.2.1).1, (rd ((0, 0, (0, 0, 0, 0, ()), 0, 0, ()) : Int × Int × (Int × Int × Int × Int × Unit) × Int × Int × Unit) o1.2.1 o1.2.2.1).2.1, (rd ((0, 0, (0, 0, 0, 0, ()), 0, 0, ()) : Int × Int × (Int × Int × Int × Int × Unit) × Int × Int × Unit) o1.2.1 o1.2.2.1).2.2.1, (rd ((0, 0, (0, 0, 0, 0, ()), 0, 0, ()) : Int × Int × (Int × Int × Int × Int × Unit) × Int × Int × Unit) o1.2.1 o1.2.2.1).2.2.2.1, o1.2.2.1, ())) o1.2.2.1 o1.2.2.2.1 o1.2.2.2.2.1).bind fun o2 =>
          bif decide (0 ≤ o2.2.2.1) && decide (o2.2.2.1 < (o2.2.1.length : Int)) then
            bif decide (0 ≤ o2.2.2.1) && decide (o2.2.2.1 < (o2.2.1.length : Int)) then
              bif decide (0 ≤ o2.2.2.1) && decide (o2.2.2.1 < ((o2.2.1.set o2.2.2.1.toNat ((rd ((0, 0, (0, 0, 0, 0, ()), 0, 0, ()) : Int × Int × (Int × Int × Int × Int × Unit) × Int × Int × Unit) o2.2.1 o2.2.2.1).1, (rd ((0, 0, (0, 0, 0, 0, ()), 0, 0, ()) : Int × Int × (Int × Int × Int × Int × Unit) × Int × Int × Unit) o2.2.1 o2.2.2.1).2.1, (rd ((0, 0, (0, 0, 0, 0, ()), 0, 0, ()) : Int × Int × (Int × Int × Int × Int × Unit) × Int × Int × Unit) o2.2.1 o2.2.2.1).2.2.1, w64 ((rd ((0, 0, (0, 0, 0, 0, ()), 0, 0, ()) : Int × Int × (Int × Int × Int × Int × Unit) × Int × Int × Unit) o2.2.1 o2.2.2.1).2.2.2.1 + 1), (rd ((0, 0, (0, 0, 0, 0, ()), 0, 0, ()) : Int × Int × (Int × Int × Int × Int × Unit) × Int × Int × Unit) o2.2.1 o2.2.2.1).2.2.2.2)).length : Int)) then
                bif decide (0 ≤ o2.2.2.1) && decide (o2.2.2.1 < ((o2.2.1.set o2.2.2.1.toNat ((rd ((0, 0, (0, 0, 0, 0, ()), 0, 0, ()) : Int × Int × (Int × Int × Int × Int × Unit) × Int × Int × Unit) o2.2.1 o2.2.2.1).1, (rd ((0, 0, (0, 0, 0, 0, ()), 0, 0, ()) : Int × Int × (Int × Int × Int × Int × Unit) × Int × Int × Unit) o2.2.1 o2.2.2.1).2.1, (rd ((0, 0, (0, 0, 0, 0, ()), 0, 0, ()) : Int × Int × (Int × Int × Int × Int × Unit) × Int × Int × Unit) o2.2.1 o2.2.2.1).2.2.1, w64 ((rd ((0, 0, (0, 0, 0, 0, ()), 0, 0, ()) : Int × Int × (Int × Int × Int × Int × Unit) × Int × Int × Unit) o2.2.1 o2.2.2.1).2.2.2.1 + 1), (rd ((0, 0, (0, 0, 0, 0, ()), 0, 0, ()) : Int × Int × (Int × Int × Int × Int × Unit) × Int × Int × Unit) o2.2.1 o2.2.2.1).2.2.2.2)).length : Int)) then
                  l38_13 k j o2.1 ((o2.2.1.set o2.2.2.1.toNat ((rd ((0, 0, (0, 0, 0, 0, ()), 0, 0, ()) : Int × Int × (Int × Int × Int × Int × Unit) × Int × Int × Unit) o2.2.1 o2.2.2.1).1, (rd ((0, 0, (0, 0, 0, 0, ()), 0, 0, ()) : Int × Int × (Int × Int × Int × Int × Unit) × Int × Int × Unit) o2.2.1 o2.2.2.1).2.1, (rd ((0, 0, (0, 0, 0, 0, ()), 0, 0, ()) : Int × Int × (Int × Int × Int × Int × Unit) × Int × Int × Unit) o2.2.1 o2.2.2.1).2.2.1, w64 ((rd ((0, 0, (0, 0, 0, 0, ()), 0, 0, ()) : Int × Int × (Int × Int × Int × Int × Unit) × Int × Int × Unit) o2.2.1 o2.2.2.1).2.2.2.1 + 1), (rd ((0, 0, (0, 0, 0, 0, ()), 0, 0, ()) : Int × Int × (Int × Int × Int × Int × Unit) × Int × Int × Unit) o2.2.1 o2.2.2.1).2.2.2.2)).set o2.2.2.1.toNat ((rd ((0, 0, (0, 0, 0, 0, ()), 0, 0, ()) : Int × Int × (Int × Int × Int × Int × Unit) × Int × Int × Unit) (o2.2.1.set o2.2.2.1.toNat ((rd ((0, 0, (0, 0, 0, 0, ()), 0, 0, ()) : Int × Int × (Int × Int × Int × Int × Unit) × Int × Int × Unit) o2.2.1 o2.2.2.1).1, (rd ((0, 0, (0, 0, 0, 0, ()), 0, 0, ()) : Int × Int × (Int × Int × Int × Int × Unit) × Int × Int × Unit) o2.2.1 o2.2.2.1).2.1, (rd ((0, 0, (0, 0, 0, 0, ()), 0, 0, ()) : Int × Int × (Int × Int × Int × Int × Unit) × Int × Int × Unit) o2.2.1 o2.2.2.1).2.2.1, w64 ((rd ((0, 0, (0, 0, 0, 0, ()), 0, 0, ()) : Int × Int × (Int × Int × Int × Int × Unit) × Int × Int × Unit) o2.2.1 o2.2.2.1).2.2.2.1 + 1), (rd ((0, 0, (0, 0, 0, 0, ()), 0, 0, ()) : Int × Int × (Int × Int × Int × Int × Unit) × Int × Int × Unit) o2.2.1 o2.2.2.1).2.2.2.2)) o2.2.2.1).1, (rd ((0, 0, (0, 0, 0, 0, ()), 0, 0, ()) : Int × Int × (Int × Int × Int × Int × Unit) × Int × Int × Unit) (o2.2.1.set o2.2.2.1.toNat ((rd ((0, 0, (0, 0, 0, 0, ()), 0, 0, ()) : Int × Int × (Int × Int × Int × Int × Unit) × Int × Int × Unit) o2.2.1 o2.2.2.1).1, (rd ((0, 0, (0, 0, 0, 0, ()), 0, 0, ()) : Int × Int × (Int × Int × Int × Int × Unit) × Int × Int × Unit) o2.2.1 o2.2.2.1).2.1, (rd ((0, 0, (0, 0, 0, 0, ()), 0, 0, ()) : Int × Int × (Int × Int × Int × Int × Unit) × Int × Int × Unit) o2.2.1 o2.2.2.1).2.2.1, w64 ((rd ((0, 0, (0, 0, 0, 0, ()), 0, 0, ()) : Int × Int × (Int × Int × Int × Int × Unit) × Int × Int × Unit) o2.2.1 o2.2.2.1).2.2.2.1 + 1), (rd ((0, 0, (0, 0, 0, 0, ()), 0, 0, ()) : Int × Int × (Int × Int × Int × Int × Unit) × Int × Int × Unit) o2.2.1 o2.2.2.1).2.2.2.2)) o2.2.2.1).2.1, (rd ((0, 0, (0, 0, 0, 0, ()), 0, 0, ()) : Int × Int × (Int × Int × Int × Int × Unit) × Int × Int × Unit) (o2.2.1.set o2.2.2.1.toNat ((rd ((0, 0, (0, 0, 0, 0, ()), 0, 0, ()) : Int × Int × (Int × Int × Int × Int × Unit) × Int × Int × Unit) o2.2.1 o2.2.2.1).1, (rd ((0, 0, (0, 0, 0, 0, ()), 0, 0, ()) : Int × Int × (Int × Int × Int × Int × Unit) × Int × Int × Unit) o2.2.1 o2.2.2.1).2.1, (rd ((0, 0, (0, 0, 0, 0, ()), 0, 0, ()) : Int × Int × (Int × Int × Int × Int × Unit) × Int × Int × Unit) o2.2.1 o2.2.2.1).2.2.1, w64 ((rd ((0, 0, (0, 0, 0, 0, ()), 0, 0, ()) : Int × Int × (Int × Int × Int × Int × Unit) × Int × Int × Unit) o2.2.1 o2.2.2.1).2.2.2.1 + 1), (rd ((0, 0, (0, 0, 0, 0, ()), 0, 0, ()) : Int × Int × (Int × Int × Int × Int × Unit) × Int × Int × Unit) o2.2.1 o2.2.2.1).2.2.2.2)) o2.2.2.1).2.2.1, (rd ((0, 0, (0, 0, 0, 0, ()), 0, 0, ()) : Int × Int × (Int × Int × Int × Int × Unit) × Int × Int × Unit) (o2.2.1.set o2.2.2.1.toNat ((rd ((0, 0, (0, 0, 0, 0, ()), 0, 0, ()) : Int × Int × (Int × Int × Int × Int × Unit) × Int × Int × Unit) o2.2.1 o2.2.2.1).1, (rd ((0, 0, (0, 0, 0, 0, ()), 0, 0, ()) : Int × Int × (Int × Int × Int × Int × Unit) × Int × Int × Unit) o2.2.1 o2.2.2.1).2.1, (rd ((0, 0, (0, 0, 0, 0, ()), 0, 0, ()) : Int × Int × (Int × Int × Int × Int × Unit) × Int × Int × Unit) o2.2.1 o2.2.2.1).2.2.1, w64 ((rd ((0, 0, (0, 0, 0, 0, ()), 0, 0, ()) : Int × Int × (Int × Int × Int × Int × Unit) × Int × Int × Unit) o2.2.1 o2.2.2.1).2.2.2.1 + 1), (rd ((0, 0, (0, 0, 0, 0, ()), 0, 0, ()) : Int × Int × (Int × Int × Int × Int × Unit) × Int × Int × Unit) o2.2.1 o2.2.2.1).2.2.2.2)) o2.2.2.1).2.2.2.1, w64 ((rd ((0, 0, (0, 0, 0, 0, ()), 0, 0, ()) : Int × Int × (Int × Int × Int × Int × Unit) × Int × Int × Unit) (o2.2.1.set o2.2.2.1.toNat ((rd ((0, 0, (0, 0, 0, 0, ()), 0, 0, ()) : Int × Int × (Int × Int × Int × Int × Unit) × Int × Int × Unit) o2.2.1 o2.2.2.1).1, (rd ((0, 0, (0, 0, 0, 0, ()), 0, 0, ()) : Int × Int × (Int × Int × Int × Int × Unit) × Int × Int × Unit) o2.2.1 o2.2.2.1).2.1, (rd ((0, 0, (0, 0, 0, 0, ()), 0, 0, ()) : Int × Int × (Int × Int × Int × Int × Unit) × Int × Int × Unit) o2.2.1 o2.2.2.1).2.2.1, w64 ((rd ((0, 0, (0, 0, 0, 0, ()), 0, 0, ()) : Int × Int × (Int × Int × Int × Int × Unit) × Int × Int × Unit) o2.2.1 o2.2.2.1).2.2.2.1 + 1), (rd ((0, 0, (0, 0, 0, 0, ()), 0, 0, ()) : Int × Int × (Int × Int × Int × Int × Unit) × Int × Int × Unit) o2.2.1 o2.2.2.1).2.2.2.2)) o2.2.2.1).2.2.2.2.1 + 1), ())) o2.2.2.2.1 (w64 (o2.2.2.2.2.1 + 1))
                else
                  none
              else
                none
            else
              none
          else
            none
        else
          none
      else
        none
    else
      some (s8, ())
noncomputable def l38_13_sig (k : Nat) : LoopSig := ⟨[(0, .obj (.val (.int .i64))), (8, .obj (.row (.pair (.int .i64) (.pair (.int .i64) (.pair (.pair (.int .i64) (.pair (.int .i64) (.pair (.int .i64) (.pair (.int .i64) (.unit))))) (.pair (.int .i64) (.pair (.int .i64) (.unit)))))))), (47, .obj (.val (.int .i64))), (48, .obj (.val (.int .i64)))], [(.exit 2, [(8, .obj (.row (.pair (.int .i64) (.pair (.int .i64) (.pair (.pair (.int .i64) (.pair (.int .i64) (.pair (.int .i64) (.pair (.int .i64) (.unit))))) (.pair (.int .i64) (.pair (.int .i64) (.unit))))))))])], fun j x => l38_13 k j x.1 x.2.1 x.2.2.1 x.2.2.2.1⟩
noncomputable def f38 (k : Nat) (x0 : Int) (x1 : List (Int × Int × Int × Unit)) : Option (((List (Int × Int × (Int × Int × Int × Int × Unit) × Int × Int × Unit)) × Int × Unit)) :=
  (f56 k x0 x1).bind fun r1 =>
  bif r1.2.1 != 0 then
    some ([], r1.2)
  else
    (l38_6 k k x0 x1 r1.1 [] x0 0).bind fun o2 =>
    (f58 k o2.2.1).bind fun r3 =>
    (l38_13 k k o2.1 r3.1 (r3.1.length : Int) 0).bind fun o4 =>
    some (o4.1, 0, ())
noncomputable def f38_sig (k : Nat) : Sig := ⟨[.val (.int .i64), .val (.sl (.pair (.int .i64) (.pair (.int .i64) (.pair (.int .i64) (.unit)))))], [], [[.row (.pair (.int .i64) (.pair (.int .i64) (.pair (.pair (.int .i64) (.pair (.int .i64) (.pair (.int .i64) (.pair (.int .i64) (.unit))))) (.pair (.int .i64) (.pair (.int .i64) (.unit)))))), .val (.int .i64)]], fun x => f38 k x.1 x.2.1⟩
noncomputable def E_f38 (k : Nat) : Env := ⟨Try.prog, scons 59 [f59_sig k] (scons 58 [f58_sig k] (scons 57 [f57_sig k] (scons 56 [f56_sig k] (snil)))), tcons 13 (l38_13_sig k) (tcons 19 (l38_19_sig k) (tcons 16 (l38_16_sig k) (tcons 6 (l38_6_sig k) (tnil)))), tnil, unil, k⟩
theorem l38_6_ok (k : Nat) : LoopOK (E_f38 k) ⟨Try.f38.ntmps, []⟩ (nthC 0 (loopsIn (Try.f38.body.getD .skip))) :=
  loop_ok (ls := l38_6_sig k) (by kernel_rfl) (fun _ => by kernel_rfl) (fun j x => by kernel_rfl)
theorem l38_13_ok (k : Nat) : LoopOK (E_f38 k) ⟨Try.f38.ntmps, []⟩ (nthC 1 (loopsIn (Try.f38.body.getD .skip))) :=
  loop_ok (ls := l38_13_sig k) (by kernel_rfl) (fun _ => by kernel_rfl) (fun j x => by kernel_rfl)
theorem l38_16_ok (k : Nat) : LoopOK (E_f38 k) ⟨Try.f38.ntmps, []⟩ (nthC 2 (loopsIn (Try.f38.body.getD .skip))) :=
  loop_ok (ls := l38_16_sig k) (by kernel_rfl) (fun _ => by kernel_rfl) (fun j x => by kernel_rfl)
theorem l38_19_ok (k : Nat) : LoopOK (E_f38 k) ⟨Try.f38.ntmps, []⟩ (nthC 3 (loopsIn (Try.f38.body.getD .skip))) :=
  loop_ok (ls := l38_19_sig k) (by kernel_rfl) (fun _ => by kernel_rfl) (fun j x => by kernel_rfl)
theorem f38_run (k : Nat) (x : (lTy (lay 0 (f38_sig k).ins)).den) : runF (E_f38 k) Try.f38 (f38_sig k) x = (f38_sig k).F x := by kernel_rfl
theorem f38_ok (k : Nat) : FnOK Try.prog 38 (f38_sig k) :=
  fn_ok2 (E := E_f38 k) (env_cons (one_sig (f59_ok k)) (env_cons (one_sig (f58_ok k)) (env_cons (one_sig (f57_ok k)) (env_cons (one_sig (f56_ok k)) (env_nil))))) mixed Try.func38 Try.call38 (by kernel_rfl) (by kernel_rfl) (m := 4) (by kernel_rfl) ⟨⟨⟨⟨trivial, l38_6_ok k⟩, l38_13_ok k⟩, l38_16_ok k⟩, l38_19_ok k⟩ (sk := []) (by kernel_rfl) trivial (f38_run k)

/-! ### gamehall/gamehallkeep3.tables: function 37 -/
noncomputable def f37 (k : Nat) : Option ((Bool × Unit)) :=
  (f38 k 1 []).bind fun r1 =>
  bif r1.2.1 == 0 then
    bif (r1.1.length : Int) == 1 then
      bif decide (0 < (r1.1.length : Int)) then
        some ((rd ((0, 0, (0, 0, 0, 0, ()), 0, 0, ()) : Int × Int × (Int × Int × Int × Int × Unit) × Int × Int × Unit) r1.1 0).2.2.2.1 == 1, ())
      else
        none
    else
      some (false, ())
  else
    some (false, ())
noncomputable def f37_sig (k : Nat) : Sig := ⟨[], [], [[.val (.bool)]], fun x => f37 k⟩
noncomputable def E_f37 (k : Nat) : Env := ⟨Try.prog, scons 38 [f38_sig k] (snil), tnil, tnil, unil, k⟩
theorem f37_run (k : Nat) (x : (lTy (lay 0 (f37_sig k).ins)).den) : runF (E_f37 k) Try.f37 (f37_sig k) x = (f37_sig k).F x := by kernel_rfl
theorem f37_ok (k : Nat) : FnOK Try.prog 37 (f37_sig k) :=
  fn_ok2 (E := E_f37 k) (env_cons (one_sig (f38_ok k)) (env_nil)) mixed Try.func37 Try.call37 (by kernel_rfl) (by kernel_rfl) (m := 0) (by kernel_rfl) trivial (sk := []) (by kernel_rfl) trivial (f37_run k)

/-! ### gamehall/gamehallkeep3.StandingSums: function 13 -/
noncomputable def l13_9 (k : Nat) : Nat → Int → (List (Int × Int × Int × Unit)) → (List (Int × Int × (Int × Int × Int × Int × Unit) × Int × Int × Unit)) → Int → Unit → Int → Int → Option ((Int × (List (Int × Int × Int × Unit)) × (List (Int × Int × (Int × Int × Int × Int × Unit) × Int × Int × Unit)) × Int × Unit) ⊕ (Bool × Unit))
  | 0, _, _, _, _, _, _, _ => none
  | j + 1, s0, s1, s5, s7, s28, s29, s30 =>
    bif decide (s30 < s29) then
      bif decide (0 ≤ s30) && decide (s30 < (s5.length : Int)) then
        bif decide (s30 > 0) then
          bif decide (0 ≤ (w64 (s30 - 1))) && decide ((w64 (s30 - 1)) < (s5.length : Int)) then
            bif decide ((rd ((0, 0, (0, 0, 0, 0, ()), 0, 0, ()) : Int × Int × (Int × Int × Int × Int × Unit) × Int × Int × Unit) s5 (w64 (s30 - 1))).2.1 < (rd ((0, 0, (0, 0, 0, 0, ()), 0, 0, ()) : Int × Int × (Int × Int × Int × Int × Unit) × Int × Int × Unit) s5 s30).2.1) then
              some (.inr (false, ()))
            else
            bif decide (0 ≤ (w64 (s30 - 1))) && decide ((w64 (s30 - 1)) < (s5.length : Int)) then
              bif decide ((rd ((0, 0, (0, 0, 0, 0, ()), 0, 0, ()) : Int × Int × (Int × Int × Int × Int × Unit) × Int × Int × Unit) s5 (w64 (s30 - 1))).2.2.2.1 > (rd ((0, 0, (0, 0, 0, 0, ()), 0, 0, ()) : Int × Int × (Int × Int × Int × Int × Unit) × Int × Int × Unit) s5 s30).2.2.2.1) then
                some (.inr (false, ()))
              else
                l13_9 k j s0 s1 s5 (w64 (s7 + (rd ((0, 0, (0, 0, 0, 0, ()), 0, 0, ()) : Int × Int × (Int × Int × Int × Int × Unit) × Int × Int × Unit) s5 s30).2.1)) () s29 (w64 (s30 + 1))
            else
              none
          else
            none
        else
          l13_9 k j s0 s1 s5 (w64 (s7 + (rd ((0, 0, (0, 0, 0, 0, ()), 0, 0, ()) : Int × Int × (Int × Int × Int × Int × Unit) × Int × Int × Unit) s5 s30).2.1)) () s29 (w64 (s30 + 1))
      else
        none
    else
      some (.inl (s0, s1, s5, s7, ()))
noncomputable def l13_9_sig (k : Nat) : LoopSig := ⟨[(0, .obj (.val (.int .i64))), (1, .obj (.val (.sl (.pair (.int .i64) (.pair (.int .i64) (.pair (.int .i64) (.unit))))))), (5, .obj (.row (.pair (.int .i64) (.pair (.int .i64) (.pair (.pair (.int .i64) (.pair (.int .i64) (.pair (.int .i64) (.pair (.int .i64) (.unit))))) (.pair (.int .i64) (.pair (.int .i64) (.unit)))))))), (7, .obj (.val (.int .i64))), (28, .same 5), (29, .obj (.val (.int .i64))), (30, .obj (.val (.int .i64)))], [(.exit 0, [(0, .obj (.val (.int .i64))), (1, .obj (.val (.sl (.pair (.int .i64) (.pair (.int .i64) (.pair (.int .i64) (.unit))))))), (5, .obj (.row (.pair (.int .i64) (.pair (.int .i64) (.pair (.pair (.int .i64) (.pair (.int .i64) (.pair (.int .i64) (.pair (.int .i64) (.unit))))) (.pair (.int .i64) (.pair (.int .i64) (.unit)))))))), (7, .obj (.val (.int .i64)))]), (.ret, [(4, .obj (.val (.bool)))])], fun j x => l13_9 k j x.1 x.2.1 x.2.2.1 x.2.2.2.1 x.2.2.2.2.1 x.2.2.2.2.2.1 x.2.2.2.2.2.2.1⟩
noncomputable def f13 (k : Nat) (x0 : Int) (x1 : List (Int × Int × Int × Unit)) : Option ((Bool × Unit)) :=
  (f37 k).bind fun r1 =>
  bif !r1.1 then
    some (false, ())
  else
  bif decide (0 ≤ (if 60 < (x1.length : Int) then 60 else (x1.length : Int))) && decide ((if 60 < (x1.length : Int) then 60 else (x1.length : Int)) ≤ (x1.length : Int)) then
    (f38 k x0 (sliceOf x1 0 (if 60 < (x1.length : Int) then 60 else (x1.length : Int)))).bind fun r2 =>
    bif r2.2.1 != 0 then
      some ((r2.1.length : Int) == 0, ())
    else
      (l13_9 k k x0 (sliceOf x1 0 (if 60 < (x1.length : Int) then 60 else (x1.length : Int))) r2.1 0 () (r2.1.length : Int) 0).bind fun w2 =>
      Sum.elim
        (fun y3 =>
          bif y3.2.2.2.1 == (w64 (2 * (y3.2.1.length : Int))) then
            some ((y3.2.2.1.length : Int) == y3.1, ())
          else
            some (false, ()))
        (fun y4 =>
          some y4)
        w2
  else
    none
noncomputable def f13_sig (k : Nat) : Sig := ⟨[.val (.int .i64), .val (.sl (.pair (.int .i64) (.pair (.int .i64) (.pair (.int .i64) (.unit)))))], [], [[.val (.bool)]], fun x => f13 k x.1 x.2.1⟩
noncomputable def E_f13 (k : Nat) : Env := ⟨Try.prog, scons 38 [f38_sig k] (scons 37 [f37_sig k] (snil)), tcons 9 (l13_9_sig k) (tnil), tnil, unil, k⟩
theorem l13_9_ok (k : Nat) : LoopOK (E_f13 k) ⟨Try.f13.ntmps, []⟩ (nthC 0 (loopsIn (Try.f13.body.getD .skip))) :=
  loop_ok (ls := l13_9_sig k) (by kernel_rfl) (fun _ => by kernel_rfl) (fun j x => by kernel_rfl)
theorem f13_run (k : Nat) (x : (lTy (lay 0 (f13_sig k).ins)).den) : runF (E_f13 k) Try.f13 (f13_sig k) x = (f13_sig k).F x := by kernel_rfl
theorem f13_ok (k : Nat) : FnOK Try.prog 13 (f13_sig k) :=
  fn_ok2 (E := E_f13 k) (env_cons (one_sig (f38_ok k)) (env_cons (one_sig (f37_ok k)) (env_nil))) mixed Try.func13 Try.call13 (by kernel_rfl) (by kernel_rfl) (m := 1) (by kernel_rfl) ⟨trivial, l13_9_ok k⟩ (sk := []) (by kernel_rfl) trivial (f13_run k)

/-! ### gamehall/standing.Prizes: function 39 -/
noncomputable def l39_4 (k : Nat) : Nat → (List (Int × Int × (Int × Int × Int × Int × Unit) × Int × Int × Unit)) → (List Int) → (List Int) → Int → Int → Option (((List (Int × Int × (Int × Int × Int × Int × Unit) × Int × Int × Unit)) × (List Int) × Unit) ⊕ ((List Int) × Int × Unit))
  | 0, _, _, _, _, _ => none
  | j + 1, s0, s1, s24, s25, s26 =>
    bif decide (s26 < s25) then
      bif decide (0 ≤ s26) && decide (s26 < (s24.length : Int)) then
        bif decide ((rd 0 s24 s26) < 0) then
          some (.inr ([], 4, ()))
        else
        bif decide ((rd 0 s24 s26) > 100000000) then
          some (.inr ([], 4, ()))
        else
          l39_4 k j s0 s1 s24 s25 (w64 (s26 + 1))
      else
        none
    else
      some (.inl (s0, s1, ()))
noncomputable def l39_4_sig (k : Nat) : LoopSig := ⟨[(0, .obj (.val (.sl (.pair (.int .i64) (.pair (.int .i64) (.pair (.pair (.int .i64) (.pair (.int .i64) (.pair (.int .i64) (.pair (.int .i64) (.unit))))) (.pair (.int .i64) (.pair (.int .i64) (.unit))))))))), (1, .obj (.val (.sl (.int .i64)))), (24, .obj (.val (.sl (.int .i64)))), (25, .obj (.val (.int .i64))), (26, .obj (.val (.int .i64)))], [(.exit 0, [(0, .obj (.val (.sl (.pair (.int .i64) (.pair (.int .i64) (.pair (.pair (.int .i64) (.pair (.int .i64) (.pair (.int .i64) (.pair (.int .i64) (.unit))))) (.pair (.int .i64) (.pair (.int .i64) (.unit))))))))), (1, .obj (.val (.sl (.int .i64))))]), (.ret, [(4, .obj (.row (.int .i64))), (5, .obj (.val (.int .i64)))])], fun j x => l39_4 k j x.1 x.2.1 x.2.2.1 x.2.2.2.1 x.2.2.2.2.1⟩
noncomputable def l39_10 (k : Nat) : Nat → (List (Int × Int × (Int × Int × Int × Int × Unit) × Int × Int × Unit)) → (List Int) → (List (Int × Int × (Int × Int × Int × Int × Unit) × Int × Int × Unit)) → Int → Int → Option (((List (Int × Int × (Int × Int × Int × Int × Unit) × Int × Int × Unit)) × (List Int) × Unit) ⊕ ((List Int) × Int × Unit))
  | 0, _, _, _, _, _ => none
  | j + 1, s0, s1, s37, s38, s39 =>
    bif decide (s39 < s38) then
      bif decide (0 ≤ s39) && decide (s39 < (s37.length : Int)) then
        bif decide ((rd ((0, 0, (0, 0, 0, 0, ()), 0, 0, ()) : Int × Int × (Int × Int × Int × Int × Unit) × Int × Int × Unit) s37 s39).2.2.2.1 < 1) then
          some (.inr ([], 3, ()))
        else
        bif decide ((rd ((0, 0, (0, 0, 0, 0, ()), 0, 0, ()) : Int × Int × (Int × Int × Int × Int × Unit) × Int × Int × Unit) s37 s39).2.2.2.1 > (w64 (s39 + 1))) then
          some (.inr ([], 3, ()))
        else
        bif decide ((rd ((0, 0, (0, 0, 0, 0, ()), 0, 0, ()) : Int × Int × (Int × Int × Int × Int × Unit) × Int × Int × Unit) s37 s39).2.2.2.2.1 < (w64 (s39 + 1))) then
          some (.inr ([], 3, ()))
        else
        bif decide ((rd ((0, 0, (0, 0, 0, 0, ()), 0, 0, ()) : Int × Int × (Int × Int × Int × Int × Unit) × Int × Int × Unit) s37 s39).2.2.2.2.1 > (s0.length : Int)) then
          some (.inr ([], 3, ()))
        else
        bif decide (0 ≤ (w64 ((rd ((0, 0, (0, 0, 0, 0, ()), 0, 0, ()) : Int × Int × (Int × Int × Int × Int × Unit) × Int × Int × Unit) s37 s39).2.2.2.1 - 1))) && decide ((w64 ((rd ((0, 0, (0, 0, 0, 0, ()), 0, 0, ()) : Int × Int × (Int × Int × Int × Int × Unit) × Int × Int × Unit) s37 s39).2.2.2.1 - 1)) < (s0.length : Int)) then
          bif (rd ((0, 0, (0, 0, 0, 0, ()), 0, 0, ()) : Int × Int × (Int × Int × Int × Int × Unit) × Int × Int × Unit) s0 (w64 ((rd ((0, 0, (0, 0, 0, 0, ()), 0, 0, ()) : Int × Int × (Int × Int × Int × Int × Unit) × Int × Int × Unit) s37 s39).2.2.2.1 - 1))).2.2.2.1 != (rd ((0, 0, (0, 0, 0, 0, ()), 0, 0, ()) : Int × Int × (Int × Int × Int × Int × Unit) × Int × Int × Unit) s37 s39).2.2.2.1 then
            some (.inr ([], 3, ()))
          else
          bif decide (0 ≤ (w64 ((rd ((0, 0, (0, 0, 0, 0, ()), 0, 0, ()) : Int × Int × (Int × Int × Int × Int × Unit) × Int × Int × Unit) s37 s39).2.2.2.1 - 1))) && decide ((w64 ((rd ((0, 0, (0, 0, 0, 0, ()), 0, 0, ()) : Int × Int × (Int × Int × Int × Int × Unit) × Int × Int × Unit) s37 s39).2.2.2.1 - 1)) < (s0.length : Int)) then
            bif (rd ((0, 0, (0, 0, 0, 0, ()), 0, 0, ()) : Int × Int × (Int × Int × Int × Int × Unit) × Int × Int × Unit) s0 (w64 ((rd ((0, 0, (0, 0, 0, 0, ()), 0, 0, ()) : Int × Int × (Int × Int × Int × Int × Unit) × Int × Int × Unit) s37 s39).2.2.2.1 - 1))).2.2.2.2.1 != (rd ((0, 0, (0, 0, 0, 0, ()), 0, 0, ()) : Int × Int × (Int × Int × Int × Int × Unit) × Int × Int × Unit) s37 s39).2.2.2.2.1 then
              some (.inr ([], 3, ()))
            else
              l39_10 k j s0 s1 s37 s38 (w64 (s39 + 1))
          else
            none
        else
          none
      else
        none
    else
      some (.inl (s0, s1, ()))
noncomputable def l39_10_sig (k : Nat) : LoopSig := ⟨[(0, .obj (.val (.sl (.pair (.int .i64) (.pair (.int .i64) (.pair (.pair (.int .i64) (.pair (.int .i64) (.pair (.int .i64) (.pair (.int .i64) (.unit))))) (.pair (.int .i64) (.pair (.int .i64) (.unit))))))))), (1, .obj (.val (.sl (.int .i64)))), (37, .obj (.val (.sl (.pair (.int .i64) (.pair (.int .i64) (.pair (.pair (.int .i64) (.pair (.int .i64) (.pair (.int .i64) (.pair (.int .i64) (.unit))))) (.pair (.int .i64) (.pair (.int .i64) (.unit))))))))), (38, .obj (.val (.int .i64))), (39, .obj (.val (.int .i64)))], [(.exit 2, [(0, .obj (.val (.sl (.pair (.int .i64) (.pair (.int .i64) (.pair (.pair (.int .i64) (.pair (.int .i64) (.pair (.int .i64) (.pair (.int .i64) (.unit))))) (.pair (.int .i64) (.pair (.int .i64) (.unit))))))))), (1, .obj (.val (.sl (.int .i64))))]), (.ret, [(4, .obj (.row (.int .i64))), (5, .obj (.val (.int .i64)))])], fun j x => l39_10 k j x.1 x.2.1 x.2.2.1 x.2.2.2.1 x.2.2.2.2.1⟩
noncomputable def l39_21 (k : Nat) : Nat → (List Int) → (List Int) → Int → (Int × Int × (Int × Int × Int × Int × Unit) × Int × Int × Unit) → Int → Int → (List (Int × Int × (Int × Int × Int × Int × Unit) × Int × Int × Unit)) → Int → Int → Option (((List Int) × (List Int) × Int × (Int × Int × (Int × Int × Int × Int × Unit) × Int × Int × Unit) × Int × (List (Int × Int × (Int × Int × Int × Int × Unit) × Int × Int × Unit)) × Int × Int × Unit))
  | 0, _, _, _, _, _, _, _, _, _ => none
  | j + 1, s1, s10, s11, s12, s13, s14, s96, s97, s98 =>
    bif decide (s14 < s12.2.2.2.2.1) then
      bif decide (s14 < (s1.length : Int)) then
        bif decide (0 ≤ s14) && decide (s14 < (s1.length : Int)) then
          l39_21 k j s1 s10 s11 s12 (w64 (s13 + (rd 0 s1 s14))) (w64 (s14 + 1)) s96 s97 s98
        else
          none
      else
        some (s1, s10, s11, s12, s13, s96, s97, s98, ())
    else
      some (s1, s10, s11, s12, s13, s96, s97, s98, ())
noncomputable def l39_21_sig (k : Nat) : LoopSig := ⟨[(1, .obj (.val (.sl (.int .i64)))), (10, .obj (.row (.int .i64))), (11, .obj (.val (.int .i64))), (12, .obj (.box (.val (.pair (.int .i64) (.pair (.int .i64) (.pair (.pair (.int .i64) (.pair (.int .i64) (.pair (.int .i64) (.pair (.int .i64) (.unit))))) (.pair (.int .i64) (.pair (.int .i64) (.unit))))))))), (13, .obj (.val (.int .i64))), (14, .obj (.val (.int .i64))), (96, .obj (.val (.sl (.pair (.int .i64) (.pair (.int .i64) (.pair (.pair (.int .i64) (.pair (.int .i64) (.pair (.int .i64) (.pair (.int .i64) (.unit))))) (.pair (.int .i64) (.pair (.int .i64) (.unit))))))))), (97, .obj (.val (.int .i64))), (98, .obj (.val (.int .i64)))], [(.exit 6, [(1, .obj (.val (.sl (.int .i64)))), (10, .obj (.row (.int .i64))), (11, .obj (.val (.int .i64))), (12, .obj (.box (.val (.pair (.int .i64) (.pair (.int .i64) (.pair (.pair (.int .i64) (.pair (.int .i64) (.pair (.int .i64) (.pair (.int .i64) (.unit))))) (.pair (.int .i64) (.pair (.int .i64) (.unit))))))))), (13, .obj (.val (.int .i64))), (96, .obj (.val (.sl (.pair (.int .i64) (.pair (.int .i64) (.pair (.pair (.int .i64) (.pair (.int .i64) (.pair (.int .i64) (.pair (.int .i64) (.unit))))) (.pair (.int .i64) (.pair (.int .i64) (.unit))))))))), (97, .obj (.val (.int .i64))), (98, .obj (.val (.int .i64)))])], fun j x => l39_21 k j x.1 x.2.1 x.2.2.1 x.2.2.2.1 x.2.2.2.2.1 x.2.2.2.2.2.1 x.2.2.2.2.2.2.1 x.2.2.2.2.2.2.2.1 x.2.2.2.2.2.2.2.2.1⟩
noncomputable def l39_17 (k : Nat) : Nat → (List Int) → (List Int) → (List (Int × Int × (Int × Int × Int × Int × Unit) × Int × Int × Unit)) → Int → Int → Option (((List Int) × Unit))
  | 0, _, _, _, _, _ => none
  | j + 1, s1, s10, s96, s97, s98 =>
    bif decide (s98 < s97) then
      bif decide (0 ≤ s98) && decide (s98 < (s96.length : Int)) then
        (l39_21 k k s1 s10 s98 (rd ((0, 0, (0, 0, 0, 0, ()), 0, 0, ()) : Int × Int × (Int × Int × Int × Int × Unit) × Int × Int × Unit) s96 s98) 0 (w64 ((rd ((0, 0, (0, 0, 0, 0, ()), 0, 0, ()) : Int × Int × (Int × Int × Int × Int × Unit) × Int × Int × Unit) s96 s98).2.2.2.1 - 1)) s96 s97 s98).bind fun o1 =>
        bif decide (w64 ((w64 (o1.2.2.2.1.2.2.2.2.1 - o1.2.2.2.1.2.2.2.1)) + 1) = 0) then
          none
        else
        bif decide (0 ≤ o1.2.2.1) && decide (o1.2.2.1 < (o1.2.1.length : Int)) then
          bif decide (w64 ((w64 (o1.2.2.2.1.2.2.2.2.1 - o1.2.2.2.1.2.2.2.1)) + 1) = 0) then
            none
          else
          bif decide ((w64 ((w64 (o1.2.2.1 - o1.2.2.2.1.2.2.2.1)) + 1)) < (o1.2.2.2.2.1.tmod (w64 ((w64 (o1.2.2.2.1.2.2.2.2.1 - o1.2.2.2.1.2.2.2.1)) + 1)))) then
            bif decide (0 ≤ o1.2.2.1) && decide (o1.2.2.1 < ((o1.2.1.set o1.2.2.1.toNat (w64 (o1.2.2.2.2.1.tdiv (w64 ((w64 (o1.2.2.2.1.2.2.2.2.1 - o1.2.2.2.1.2.2.2.1)) + 1))))).length : Int)) then
              bif decide (0 ≤ o1.2.2.1) && decide (o1.2.2.1 < ((o1.2.1.set o1.2.2.1.toNat (w64 (o1.2.2.2.2.1.tdiv (w64 ((w64 (o1.2.2.2.1.2.2.2.2.1 - o1.2.2.2.1.2.2.2.1)) + 1))))).length : Int)) then
                l39_17 k j o1.1 ((o1.2.1.set o1.2.2.1.toNat (w64 (o1.2.2.2.2.1.tdiv (w64 ((w64 (o1.2.2.2.1.2.2.2.2.1 - o1.2.2.2.1.2.2.2.1)) + 1))))).set o1.2.2.1.toNat (w64 ((rd 0 (o1.2.1.set o1.2.2.1.toNat (w64 (o1.2.2.2.2.1.tdiv (w64 ((w64 (o1.2.2.2.1.2.2.2.2.1 - o1.2.2.2.1.2.2.2.1)) + 1))))) o1.2.2.1) + 1))) o1.2.2.2.2.2.1 o1.2.2.2.2.2.2.1 (w64 (o1.2.2.2.2.2.2.2.1 + 1))
              else
                none
            else
              none
          else
            l39_17 k j o1.1 (o1.2.1.set o1.2.2.1.toNat (w64 (o1.2.2.2.2.1.tdiv (w64 ((w64 (o1.2.2.2.1.2.2.2.2.1 - o1.2.2.2.1.2.2.2.1)) + 1))))) o1.2.2.2.2.2.1 o1.2.2.2.2.2.2.1 (w64 (o1.2.2.2.2.2.2.2.1 + 1))
        else
          none
      else
        none
    else
      some (s10, ())
noncomputable def l39_17_sig (k : Nat) : LoopSig := ⟨[(1, .obj (.val (.sl (.int .i64)))), (10, .obj (.row (.int .i64))), (96, .obj (.val (.sl (.pair (.int .i64) (.pair (.int .i64) (.pair (.pair (.int .i64) (.pair (.int .i64) (.pair (.int .i64) (.pair (.int .i64) (.unit))))) (.pair (.int .i64) (.pair (.int .i64) (.unit))))))))), (97, .obj (.val (.int .i64))), (98, .obj (.val (.int .i64)))], [(.exit 4, [(10, .obj (.row (.int .i64)))])], fun j x => l39_17 k j x.1 x.2.1 x.2.2.1 x.2.2.2.1 x.2.2.2.2.1⟩
noncomputable def f39 (k : Nat) (x0 : List (Int × Int × (Int × Int × Int × Int × Unit) × Int × Int × Unit)) (x1 : List Int) : Option (((List Int) × Int × Unit)) :=
  bif decide ((x0.length : Int) > 32) then
    some ([], 2, ())
  else
  bif decide ((x1.length : Int) > 32) then
    some ([], 2, ())
  else
    (l39_4 k k x0 x1 x1 (x1.length : Int) 0).bind fun w3 =>
    Sum.elim
      (fun y1 =>
        (l39_10 k k y1.1 y1.2.1 y1.1 (y1.1.length : Int) 0).bind fun w4 =>
        Sum.elim
          (fun y2 =>
            bif decide (0 ≤ (y2.1.length : Int)) && (decide ((y2.1.length : Int) ≤ (y2.1.length : Int)) && decide (((8 : Nat) : Int) * (y2.1.length : Int) ≤ 281474976710656)) && decide ((y2.1.length : Int) ≤ 9223372036854775807) then
              (l39_17 k k y2.2.1 (List.replicate (y2.1.length : Int).toNat 0) y2.1 (y2.1.length : Int) 0).bind fun o3 =>
              some (o3.1, 0, ())
            else
              none)
          (fun y4 =>
            some y4)
          w4)
      (fun y5 =>
        some y5)
      w3
noncomputable def f39_sig (k : Nat) : Sig := ⟨[.val (.sl (.pair (.int .i64) (.pair (.int .i64) (.pair (.pair (.int .i64) (.pair (.int .i64) (.pair (.int .i64) (.pair (.int .i64) (.unit))))) (.pair (.int .i64) (.pair (.int .i64) (.unit))))))), .val (.sl (.int .i64))], [], [[.row (.int .i64), .val (.int .i64)]], fun x => f39 k x.1 x.2.1⟩
noncomputable def E_f39 (k : Nat) : Env := ⟨Try.prog, snil, tcons 17 (l39_17_sig k) (tcons 21 (l39_21_sig k) (tcons 10 (l39_10_sig k) (tcons 4 (l39_4_sig k) (tnil)))), tnil, unil, k⟩
theorem l39_4_ok (k : Nat) : LoopOK (E_f39 k) ⟨Try.f39.ntmps, []⟩ (nthC 0 (loopsIn (Try.f39.body.getD .skip))) :=
  loop_ok (ls := l39_4_sig k) (by kernel_rfl) (fun _ => by kernel_rfl) (fun j x => by kernel_rfl)
theorem l39_10_ok (k : Nat) : LoopOK (E_f39 k) ⟨Try.f39.ntmps, []⟩ (nthC 1 (loopsIn (Try.f39.body.getD .skip))) :=
  loop_ok (ls := l39_10_sig k) (by kernel_rfl) (fun _ => by kernel_rfl) (fun j x => by kernel_rfl)
theorem l39_17_ok (k : Nat) : LoopOK (E_f39 k) ⟨Try.f39.ntmps, []⟩ (nthC 2 (loopsIn (Try.f39.body.getD .skip))) :=
  loop_ok (ls := l39_17_sig k) (by kernel_rfl) (fun _ => by kernel_rfl) (fun j x => by kernel_rfl)
theorem l39_21_ok (k : Nat) : LoopOK (E_f39 k) ⟨Try.f39.ntmps, []⟩ (nthC 3 (loopsIn (Try.f39.body.getD .skip))) :=
  loop_ok (ls := l39_21_sig k) (by kernel_rfl) (fun _ => by kernel_rfl) (fun j x => by kernel_rfl)
theorem f39_run (k : Nat) (x : (lTy (lay 0 (f39_sig k).ins)).den) : runF (E_f39 k) Try.f39 (f39_sig k) x = (f39_sig k).F x := by kernel_rfl
theorem f39_ok (k : Nat) : FnOK Try.prog 39 (f39_sig k) :=
  fn_ok2 (E := E_f39 k) (env_nil) mixed Try.func39 Try.call39 (by kernel_rfl) (by kernel_rfl) (m := 4) (by kernel_rfl) ⟨⟨⟨⟨trivial, l39_4_ok k⟩, l39_10_ok k⟩, l39_17_ok k⟩, l39_21_ok k⟩ (sk := []) (by kernel_rfl) trivial (f39_run k)

/-! ### gamehall/gamehallkeep3.StandingShares: function 14 -/
noncomputable def l14_14 (k : Nat) : Nat → (List Int) → (List (Int × Int × (Int × Int × Int × Int × Unit) × Int × Int × Unit)) → (List Int) → Int → Int → Int → Int → Option ((Int × Int × Unit) ⊕ (Bool × Unit))
  | 0, _, _, _, _, _, _, _ => none
  | j + 1, s2, s7, s9, s11, s12, s54, s55 =>
    bif decide (s55 < s54) then
      bif decide (s55 < (s2.length : Int)) then
        bif decide (0 ≤ s55) && decide (s55 < (s2.length : Int)) then
          bif decide (0 ≤ s55) && decide (s55 < (s9.length : Int)) then
            bif decide (s55 > 0) then
              bif decide (0 ≤ s55) && decide (s55 < (s7.length : Int)) then
                bif decide (0 ≤ (w64 (s55 - 1))) && decide ((w64 (s55 - 1)) < (s7.length : Int)) then
                  bif (rd ((0, 0, (0, 0, 0, 0, ()), 0, 0, ()) : Int × Int × (Int × Int × Int × Int × Unit) × Int × Int × Unit) s7 s55).2.2.2.1 == (rd ((0, 0, (0, 0, 0, 0, ()), 0, 0, ()) : Int × Int × (Int × Int × Int × Int × Unit) × Int × Int × Unit) s7 (w64 (s55 - 1))).2.2.2.1 then
                    bif decide (0 ≤ s55) && decide (s55 < (s9.length : Int)) then
                      bif decide (0 ≤ (w64 (s55 - 1))) && decide ((w64 (s55 - 1)) < (s9.length : Int)) then
                        bif decide ((rd 0 s9 s55) > (rd 0 s9 (w64 (s55 - 1)))) then
                          some (.inr (false, ()))
                        else
                        bif decide (0 ≤ s55) && decide (s55 < (s9.length : Int)) then
                          bif decide (0 ≤ (w64 (s55 - 1))) && decide ((w64 (s55 - 1)) < (s9.length : Int)) then
                            bif decide ((rd 0 s9 s55) < (w64 ((rd 0 s9 (w64 (s55 - 1))) - 1))) then
                              some (.inr (false, ()))
                            else
                              l14_14 k j s2 s7 s9 (w64 (s11 + (rd 0 s2 s55))) (w64 (s12 + (rd 0 s9 s55))) s54 (w64 (s55 + 1))
                          else
                            none
                        else
                          none
                      else
                        none
                    else
                      none
                  else
                    l14_14 k j s2 s7 s9 (w64 (s11 + (rd 0 s2 s55))) (w64 (s12 + (rd 0 s9 s55))) s54 (w64 (s55 + 1))
                else
                  none
              else
                none
            else
              l14_14 k j s2 s7 s9 (w64 (s11 + (rd 0 s2 s55))) (w64 (s12 + (rd 0 s9 s55))) s54 (w64 (s55 + 1))
          else
            none
        else
          none
      else
      bif decide (0 ≤ s55) && decide (s55 < (s9.length : Int)) then
        bif decide (s55 > 0) then
          bif decide (0 ≤ s55) && decide (s55 < (s7.length : Int)) then
            bif decide (0 ≤ (w64 (s55 - 1))) && decide ((w64 (s55 - 1)) < (s7.length : Int)) then
              bif (rd ((0, 0, (0, 0, 0, 0, ()), 0, 0, ()) : Int × Int × (Int × Int × Int × Int × Unit) × Int × Int × Unit) s7 s55).2.2.2.1 == (rd ((0, 0, (0, 0, 0, 0, ()), 0, 0, ()) : Int × Int × (Int × Int × Int × Int × Unit) × Int × Int × Unit) s7 (w64 (s55 - 1))).2.2.2.1 then
                bif decide (0 ≤ s55) && decide (s55 < (s9.length : Int)) then
                  bif decide (0 ≤ (w64 (s55 - 1))) && decide ((w64 (s55 - 1)) < (s9.length : Int)) then
                    bif decide ((rd 0 s9 s55) > (rd 0 s9 (w64 (s55 - 1)))) then
                      some (.inr (false, ()))
                    else
                    bif decide (0 ≤ s55) && decide (s55 < (s9.length : Int)) then
                      bif decide (0 ≤ (w64 (s55 - 1))) && decide ((w64 (s55 - 1)) < (s9.length : Int)) then
                        bif decide ((rd 0 s9 s55) < (w64 ((rd 0 s9 (w64 (s55 - 1))) - 1))) then
                          some (.inr (false, ()))
                        else
                          l14_14 k j s2 s7 s9 s11 (w64 (s12 + (rd 0 s9 s55))) s54 (w64 (s55 + 1))
                      else
                        none
                    else
                      none
                  else
                    none
                else
                  none
              else
                l14_14 k j s2 s7 s9 s11 (w64 (s12 + (rd 0 s9 s55))) s54 (w64 (s55 + 1))
            else
              none
          else
            none
        else
          l14_14 k j s2 s7 s9 s11 (w64 (s12 + (rd 0 s9 s55))) s54 (w64 (s55 + 1))
      else
        none
    else
      some (.inl (s11, s12, ()))
noncomputable def l14_14_sig (k : Nat) : LoopSig := ⟨[(2, .obj (.val (.sl (.int .i64)))), (7, .obj (.row (.pair (.int .i64) (.pair (.int .i64) (.pair (.pair (.int .i64) (.pair (.int .i64) (.pair (.int .i64) (.pair (.int .i64) (.unit))))) (.pair (.int .i64) (.pair (.int .i64) (.unit)))))))), (9, .obj (.row (.int .i64))), (11, .obj (.val (.int .i64))), (12, .obj (.val (.int .i64))), (54, .obj (.val (.int .i64))), (55, .obj (.val (.int .i64)))], [(.exit 0, [(11, .obj (.val (.int .i64))), (12, .obj (.val (.int .i64)))]), (.ret, [(6, .obj (.val (.bool)))])], fun j x => l14_14 k j x.1 x.2.1 x.2.2.1 x.2.2.2.1 x.2.2.2.2.1 x.2.2.2.2.2.1 x.2.2.2.2.2.2.1⟩
noncomputable def f14 (k : Nat) (x0 : Int) (x1 : List (Int × Int × Int × Unit)) (x2 : List Int) : Option ((Bool × Unit)) :=
  (f37 k).bind fun r1 =>
  bif !r1.1 then
    some (false, ())
  else
  bif decide (0 ≤ (if 60 < (x1.length : Int) then 60 else (x1.length : Int))) && decide ((if 60 < (x1.length : Int) then 60 else (x1.length : Int)) ≤ (x1.length : Int)) then
    bif decide (0 ≤ (if 30 < (x2.length : Int) then 30 else (x2.length : Int))) && decide ((if 30 < (x2.length : Int) then 30 else (x2.length : Int)) ≤ (x2.length : Int)) then
      (f38 k x0 (sliceOf x1 0 (if 60 < (x1.length : Int) then 60 else (x1.length : Int)))).bind fun r2 =>
      bif r2.2.1 != 0 then
        some (true, ())
      else
        (f39 k r2.1 (sliceOf x2 0 (if 30 < (x2.length : Int) then 30 else (x2.length : Int)))).bind fun r3 =>
        bif r3.2.1 != 0 then
          bif r3.2.1 == 4 then
            some ((r3.1.length : Int) == 0, ())
          else
            some (false, ())
        else
        bif (r3.1.length : Int) != x0 then
          some (false, ())
        else
          (l14_14 k k (sliceOf x2 0 (if 30 < (x2.length : Int) then 30 else (x2.length : Int))) r2.1 r3.1 0 0 (r3.1.length : Int) 0).bind fun w5 =>
          Sum.elim
            (fun y4 =>
              some (y4.2.1 == y4.1, ()))
            (fun y5 =>
              some y5)
            w5
    else
      none
  else
    none
noncomputable def f14_sig (k : Nat) : Sig := ⟨[.val (.int .i64), .val (.sl (.pair (.int .i64) (.pair (.int .i64) (.pair (.int .i64) (.unit))))), .val (.sl (.int .i64))], [], [[.val (.bool)]], fun x => f14 k x.1 x.2.1 x.2.2.1⟩
noncomputable def E_f14 (k : Nat) : Env := ⟨Try.prog, scons 39 [f39_sig k] (scons 38 [f38_sig k] (scons 37 [f37_sig k] (snil))), tcons 14 (l14_14_sig k) (tnil), tnil, unil, k⟩
theorem l14_14_ok (k : Nat) : LoopOK (E_f14 k) ⟨Try.f14.ntmps, []⟩ (nthC 0 (loopsIn (Try.f14.body.getD .skip))) :=
  loop_ok (ls := l14_14_sig k) (by kernel_rfl) (fun _ => by kernel_rfl) (fun j x => by kernel_rfl)
theorem f14_run (k : Nat) (x : (lTy (lay 0 (f14_sig k).ins)).den) : runF (E_f14 k) Try.f14 (f14_sig k) x = (f14_sig k).F x := by kernel_rfl
theorem f14_ok (k : Nat) : FnOK Try.prog 14 (f14_sig k) :=
  fn_ok2 (E := E_f14 k) (env_cons (one_sig (f39_ok k)) (env_cons (one_sig (f38_ok k)) (env_cons (one_sig (f37_ok k)) (env_nil)))) mixed Try.func14 Try.call14 (by kernel_rfl) (by kernel_rfl) (m := 1) (by kernel_rfl) ⟨trivial, l14_14_ok k⟩ (sk := []) (by kernel_rfl) trivial (f14_run k)
end Go.Proofs.Ytfalgaldkadgoaa.G
