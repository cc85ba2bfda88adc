import Derived.Test.YtphgopfhobockaaVM24
import Derived.Test.YtphgopfhobockaaChecked
namespace Go.Proofs.Ytphgopfhobockaa.G
open Go.VM Go.Proofs

abbrev w64 (n : Int) : Int := IntKind.i64.wrap n
theorem mixed : Try.prog.follows .mixedOrders = true := by kernel_rfl
def G0 : GTab := []

/-! ### gamehall/gamehallkeep3.tic: function 39 -/
noncomputable def f39 (k : Nat) : Option (((ByteArray × Int × Int × (List (Int × Int × Int × (List (Int × Int × Int × Int × Unit)) × Unit)) × (List Int) × Bool × Bool × (List (Int × Int × Int × Bool × Unit)) × Int × Int × Int × Unit) × Unit)) :=
  some (((⟨#[84, 73, 67]⟩ : ByteArray), 3, 3, [(83, 5, 0, [], ())], List.replicate (9 : Int).toNat 0, false, false, [(0, 0, 3, false, ())], 2, 0, 0, ()), ())
noncomputable def f39_sig (k : Nat) : Sig := ⟨[], [], [[.cons (.val (.str)) (.cons (.val (.int .i64)) (.cons (.val (.int .i64)) (.cons (.row (.pair (.int .u8) (.pair (.int .i64) (.pair (.int .i64) (.pair (.sl (.pair (.int .i64) (.pair (.int .i64) (.pair (.int .i64) (.pair (.int .i64) (.unit)))))) (.unit)))))) (.cons (.row (.int .i64)) (.cons (.val (.bool)) (.cons (.val (.bool)) (.cons (.row (.pair (.int .i64) (.pair (.int .i64) (.pair (.int .i64) (.pair (.bool) (.unit)))))) (.cons (.val (.int .i64)) (.cons (.val (.int .i64)) (.cons (.val (.int .i64)) (.nil)))))))))))]], fun x => f39 k⟩
noncomputable def E_f39 (k : Nat) : Env := ⟨Try.prog, G0, snil, tnil, tnil, unil, k, qnil⟩
theorem f39_run (k : Nat) (x : (lTy (lay 0 (f39_sig k).ins)).den) : runF (E_f39 k) Try.f39 (f39_sig k) x = (f39_sig k).F x := by kernel_rfl
theorem f39_ok [Dr] (k : Nat) : FnOK Try.prog G0 39 (f39_sig k) :=
  fn_ok2 (E := E_f39 k) (env_nil) (qenv_nil) mixed Try.func39 Try.call39 (by kernel_rfl) (by kernel_rfl) (m := 0) (by kernel_rfl) trivial (sk := []) (by kernel_rfl) trivial (f39_run k)

/-! ### gamehall/rules.Name: function 66 -/
noncomputable def l66_4 (k : Nat) : Nat → ByteArray → Int → Int → Option (Unit ⊕ (Bool × Unit))
  | 0, _, _, _ => none
  | j + 1, s0, s22, s23 =>
    bif decide (s23 < s22) then
      bif decide (0 ≤ s23) && decide (s23 < (s0.size : Int)) then
        bif decide ((bt s0 s23) < 65) then
          bif decide (0 ≤ s23) && decide (s23 < (s0.size : Int)) then
            bif decide ((bt s0 s23) < 48) then
              some (.inr (false, ()))
            else
            bif decide (0 ≤ s23) && decide (s23 < (s0.size : Int)) then
              bif decide ((bt s0 s23) > 57) then
                some (.inr (false, ()))
              else
                l66_4 k j s0 s22 (w64 (s23 + 1))
            else
              none
          else
            none
        else
        bif decide (0 ≤ s23) && decide (s23 < (s0.size : Int)) then
          bif decide ((bt s0 s23) > 90) then
            bif decide (0 ≤ s23) && decide (s23 < (s0.size : Int)) then
              bif decide ((bt s0 s23) < 48) then
                some (.inr (false, ()))
              else
              bif decide (0 ≤ s23) && decide (s23 < (s0.size : Int)) then
                bif decide ((bt s0 s23) > 57) then
                  some (.inr (false, ()))
                else
                  l66_4 k j s0 s22 (w64 (s23 + 1))
              else
                none
            else
              none
          else
            l66_4 k j s0 s22 (w64 (s23 + 1))
        else
          none
      else
        none
    else
      some (.inl ())
noncomputable def l66_4_sig (k : Nat) : LoopSig := ⟨[(0, .obj (.val (.str))), (22, .obj (.val (.int .i64))), (23, .obj (.val (.int .i64)))], [(.exit 0, []), (.ret, [(2, .obj (.val (.bool)))])], fun j x => l66_4 k j x.1 x.2.1 x.2.2.1⟩
noncomputable def f66 (k : Nat) (x0 : ByteArray) : Option ((Bool × Unit)) :=
  bif x0.toList == (⟨#[]⟩ : ByteArray).toList then
    some (false, ())
  else
  bif decide ((x0.size : Int) > 8) then
    some (false, ())
  else
  bif decide (0 < (x0.size : Int)) then
    bif decide ((bt x0 0) ≥ 48) then
      bif decide (0 < (x0.size : Int)) then
        bif decide ((bt x0 0) ≤ 57) then
          some (false, ())
        else
          (l66_4 k k x0 (x0.size : Int) 0).bind fun w1 =>
          Sum.elim
            (fun y1 =>
              some (true, ()))
            (fun y2 =>
              some y2)
            w1
      else
        none
    else
      (l66_4 k k x0 (x0.size : Int) 0).bind fun w2 =>
      Sum.elim
        (fun y3 =>
          some (true, ()))
        (fun y4 =>
          some y4)
        w2
  else
    none
noncomputable def f66_sig (k : Nat) : Sig := ⟨[.val (.str)], [], [[.val (.bool)]], fun x => f66 k x.1⟩
noncomputable def E_f66 (k : Nat) : Env := ⟨Try.prog, G0, snil, tcons 4 (l66_4_sig k) (tnil), tnil, unil, k, qnil⟩
theorem l66_4_ok (k : Nat) : LoopOK (E_f66 k) ⟨Try.f66.ntmps, [], G0⟩ (nthC 0 (loopsIn (Try.f66.body.getD .skip))) :=
  loop_ok (ls := l66_4_sig k) (by kernel_rfl) (fun _ => by kernel_rfl) (fun j x => by kernel_rfl)
theorem f66_run (k : Nat) (x : (lTy (lay 0 (f66_sig k).ins)).den) : runF (E_f66 k) Try.f66 (f66_sig k) x = (f66_sig k).F x := by kernel_rfl
theorem f66_ok [Dr] (k : Nat) : FnOK Try.prog G0 66 (f66_sig k) :=
  fn_ok2 (E := E_f66 k) (env_nil) (qenv_nil) mixed Try.func66 Try.call66 (by kernel_rfl) (by kernel_rfl) (m := 1) (by kernel_rfl) ⟨trivial, l66_4_ok k⟩ (sk := []) (by kernel_rfl) trivial (f66_run k)

/-! ### gamehall/rules.way: function 95 -/
noncomputable def f95 (k : Nat) (x0 : Int × Int × Int × Int × Unit) : Option ((Int × Unit)) :=
  bif decide (x0.1 < (-7)) then
    some (4, ())
  else
  bif decide (x0.1 > 7) then
    some (4, ())
  else
  bif decide (x0.2.1 < (-7)) then
    some (4, ())
  else
  bif decide (x0.2.1 > 7) then
    some (4, ())
  else
  bif x0.1 == 0 then
    bif x0.2.1 == 0 then
      some (4, ())
    else
    bif decide (x0.2.2.1 < 1) then
      some (4, ())
    else
    bif decide (x0.2.2.1 > 7) then
      some (4, ())
    else
    bif decide (x0.2.2.2.1 < 0) then
      some (4, ())
    else
    bif decide (x0.2.2.2.1 > 2) then
      some (4, ())
    else
      some (0, ())
  else
  bif decide (x0.2.2.1 < 1) then
    some (4, ())
  else
  bif decide (x0.2.2.1 > 7) then
    some (4, ())
  else
  bif decide (x0.2.2.2.1 < 0) then
    some (4, ())
  else
  bif decide (x0.2.2.2.1 > 2) then
    some (4, ())
  else
    some (0, ())
noncomputable def f95_sig (k : Nat) : Sig := ⟨[.val (.pair (.int .i64) (.pair (.int .i64) (.pair (.int .i64) (.pair (.int .i64) (.unit)))))], [], [[.val (.int .i64)]], fun x => f95 k x.1⟩
noncomputable def E_f95 (k : Nat) : Env := ⟨Try.prog, G0, snil, tnil, tnil, unil, k, qnil⟩
theorem f95_run (k : Nat) (x : (lTy (lay 0 (f95_sig k).ins)).den) : runF (E_f95 k) Try.f95 (f95_sig k) x = (f95_sig k).F x := by kernel_rfl
theorem f95_ok [Dr] (k : Nat) : FnOK Try.prog G0 95 (f95_sig k) :=
  fn_ok2 (E := E_f95 k) (env_nil) (qenv_nil) mixed Try.func95 Try.call95 (by kernel_rfl) (by kernel_rfl) (m := 0) (by kernel_rfl) trivial (sk := []) (by kernel_rfl) trivial (f95_run k)

/-! ### gamehall/rules.pieces: function 67 -/
noncomputable def l67_11 (k : Nat) : Nat → (List (Int × Int × Int × (List (Int × Int × Int × Int × Unit)) × Unit)) → (Int × Int × Int × (List (Int × Int × Int × Int × Unit)) × Unit) → (List (Int × Int × Int × (List (Int × Int × Int × Int × Unit)) × Unit)) → Int → Int → (List (Int × Int × Int × (List (Int × Int × Int × Int × Unit)) × Unit)) → Int → Int → Option (((List (Int × Int × Int × (List (Int × Int × Int × Int × Unit)) × Unit)) × (Int × Int × Int × (List (Int × Int × Int × Int × Unit)) × Unit) × (List (Int × Int × Int × (List (Int × Int × Int × Int × Unit)) × Unit)) × Int × Int × Unit) ⊕ (Int × Unit))
  | 0, _, _, _, _, _, _, _, _ => none
  | j + 1, s0, s4, s18, s19, s20, s35, s36, s37 =>
    bif decide (s37 < s36) then
      bif decide (0 ≤ s37) && decide (s37 < (s35.length : Int)) then
        bif (rd ((0, 0, 0, [], ()) : Int × Int × Int × (List (Int × Int × Int × Int × Unit)) × Unit) s35 s37).1 == s4.1 then
          some (.inr (7, ()))
        else
          l67_11 k j s0 s4 s18 s19 s20 s35 s36 (w64 (s37 + 1))
      else
        none
    else
      some (.inl (s0, s4, s18, s19, s20, ()))
noncomputable def l67_11_sig (k : Nat) : LoopSig := ⟨[(0, .obj (.val (.sl (.pair (.int .u8) (.pair (.int .i64) (.pair (.int .i64) (.pair (.sl (.pair (.int .i64) (.pair (.int .i64) (.pair (.int .i64) (.pair (.int .i64) (.unit)))))) (.unit)))))))), (4, .obj (.box (.val (.pair (.int .u8) (.pair (.int .i64) (.pair (.int .i64) (.pair (.sl (.pair (.int .i64) (.pair (.int .i64) (.pair (.int .i64) (.pair (.int .i64) (.unit)))))) (.unit)))))))), (18, .obj (.val (.sl (.pair (.int .u8) (.pair (.int .i64) (.pair (.int .i64) (.pair (.sl (.pair (.int .i64) (.pair (.int .i64) (.pair (.int .i64) (.pair (.int .i64) (.unit)))))) (.unit)))))))), (19, .obj (.val (.int .i64))), (20, .obj (.val (.int .i64))), (35, .obj (.val (.sl (.pair (.int .u8) (.pair (.int .i64) (.pair (.int .i64) (.pair (.sl (.pair (.int .i64) (.pair (.int .i64) (.pair (.int .i64) (.pair (.int .i64) (.unit)))))) (.unit)))))))), (36, .obj (.val (.int .i64))), (37, .obj (.val (.int .i64)))], [(.exit 3, [(0, .obj (.val (.sl (.pair (.int .u8) (.pair (.int .i64) (.pair (.int .i64) (.pair (.sl (.pair (.int .i64) (.pair (.int .i64) (.pair (.int .i64) (.pair (.int .i64) (.unit)))))) (.unit)))))))), (4, .obj (.box (.val (.pair (.int .u8) (.pair (.int .i64) (.pair (.int .i64) (.pair (.sl (.pair (.int .i64) (.pair (.int .i64) (.pair (.int .i64) (.pair (.int .i64) (.unit)))))) (.unit)))))))), (18, .obj (.val (.sl (.pair (.int .u8) (.pair (.int .i64) (.pair (.int .i64) (.pair (.sl (.pair (.int .i64) (.pair (.int .i64) (.pair (.int .i64) (.pair (.int .i64) (.unit)))))) (.unit)))))))), (19, .obj (.val (.int .i64))), (20, .obj (.val (.int .i64)))]), (.ret, [(2, .obj (.val (.int .i64)))])], fun j x => l67_11 k j x.1 x.2.1 x.2.2.1 x.2.2.2.1 x.2.2.2.2.1 x.2.2.2.2.2.1 x.2.2.2.2.2.2.1 x.2.2.2.2.2.2.2.1⟩
noncomputable def l67_21 (k : Nat) : Nat → (List (Int × Int × Int × (List (Int × Int × Int × Int × Unit)) × Unit)) → (List (Int × Int × Int × (List (Int × Int × Int × Int × Unit)) × Unit)) → Int → Int → (List (Int × Int × Int × Int × Unit)) → Int → Int → Option (((List (Int × Int × Int × (List (Int × Int × Int × Int × Unit)) × Unit)) × (List (Int × Int × Int × (List (Int × Int × Int × Int × Unit)) × Unit)) × Int × Int × Unit) ⊕ (Int × Unit))
  | 0, _, _, _, _, _, _, _ => none
  | j + 1, s0, s18, s19, s20, s72, s73, s74 =>
    bif decide (s74 < s73) then
      bif decide (0 ≤ s74) && decide (s74 < (s72.length : Int)) then
        (f95 k (rd ((0, 0, 0, 0, ()) : Int × Int × Int × Int × Unit) s72 s74)).bind fun r1 =>
        bif r1.1 != 0 then
          some (.inr r1)
        else
          l67_21 k j s0 s18 s19 s20 s72 s73 (w64 (s74 + 1))
      else
        none
    else
      some (.inl (s0, s18, s19, s20, ()))
noncomputable def l67_21_sig (k : Nat) : LoopSig := ⟨[(0, .obj (.val (.sl (.pair (.int .u8) (.pair (.int .i64) (.pair (.int .i64) (.pair (.sl (.pair (.int .i64) (.pair (.int .i64) (.pair (.int .i64) (.pair (.int .i64) (.unit)))))) (.unit)))))))), (18, .obj (.val (.sl (.pair (.int .u8) (.pair (.int .i64) (.pair (.int .i64) (.pair (.sl (.pair (.int .i64) (.pair (.int .i64) (.pair (.int .i64) (.pair (.int .i64) (.unit)))))) (.unit)))))))), (19, .obj (.val (.int .i64))), (20, .obj (.val (.int .i64))), (72, .obj (.val (.sl (.pair (.int .i64) (.pair (.int .i64) (.pair (.int .i64) (.pair (.int .i64) (.unit)))))))), (73, .obj (.val (.int .i64))), (74, .obj (.val (.int .i64)))], [(.exit 5, [(0, .obj (.val (.sl (.pair (.int .u8) (.pair (.int .i64) (.pair (.int .i64) (.pair (.sl (.pair (.int .i64) (.pair (.int .i64) (.pair (.int .i64) (.pair (.int .i64) (.unit)))))) (.unit)))))))), (18, .obj (.val (.sl (.pair (.int .u8) (.pair (.int .i64) (.pair (.int .i64) (.pair (.sl (.pair (.int .i64) (.pair (.int .i64) (.pair (.int .i64) (.pair (.int .i64) (.unit)))))) (.unit)))))))), (19, .obj (.val (.int .i64))), (20, .obj (.val (.int .i64)))]), (.ret, [(2, .obj (.val (.int .i64)))])], fun j x => l67_21 k j x.1 x.2.1 x.2.2.1 x.2.2.2.1 x.2.2.2.2.1 x.2.2.2.2.2.1 x.2.2.2.2.2.2.1⟩
noncomputable def l67_6 (k : Nat) : Nat → (List (Int × Int × Int × (List (Int × Int × Int × Int × Unit)) × Unit)) → (List (Int × Int × Int × (List (Int × Int × Int × Int × Unit)) × Unit)) → Int → Int → Option (Unit ⊕ (Int × Unit))
  | 0, _, _, _, _ => none
  | j + 1, s0, s18, s19, s20 =>
    bif decide (s20 < s19) then
      bif decide (0 ≤ s20) && decide (s20 < (s18.length : Int)) then
        bif decide ((rd ((0, 0, 0, [], ()) : Int × Int × Int × (List (Int × Int × Int × Int × Unit)) × Unit) s18 s20).1 < 65) then
          some (.inr (6, ()))
        else
        bif decide ((rd ((0, 0, 0, [], ()) : Int × Int × Int × (List (Int × Int × Int × Int × Unit)) × Unit) s18 s20).1 > 90) then
          some (.inr (6, ()))
        else
        bif decide (0 ≤ s20) && decide (s20 ≤ (s0.length : Int)) then
          (l67_11 k k s0 (rd ((0, 0, 0, [], ()) : Int × Int × Int × (List (Int × Int × Int × Int × Unit)) × Unit) s18 s20) s18 s19 s20 (sliceOf s0 0 s20) ((sliceOf s0 0 s20).length : Int) 0).bind fun w3 =>
          Sum.elim
            (fun y1 =>
              bif decide (y1.2.1.2.1 < 0) then
                some (.inr (4, ()))
              else
              bif decide (y1.2.1.2.1 > 64) then
                some (.inr (4, ()))
              else
              bif decide (y1.2.1.2.2.1 < 0) then
                some (.inr (4, ()))
              else
              bif decide (y1.2.1.2.2.1 > (y1.1.length : Int)) then
                some (.inr (4, ()))
              else
              bif decide ((y1.2.1.2.2.2.1.length : Int) > 16) then
                some (.inr (2, ()))
              else
                (l67_21 k k y1.1 y1.2.2.1 y1.2.2.2.1 y1.2.2.2.2.1 y1.2.1.2.2.2.1 (y1.2.1.2.2.2.1.length : Int) 0).bind fun w4 =>
                Sum.elim
                  (fun y2 =>
                    l67_6 k j y2.1 y2.2.1 y2.2.2.1 (w64 (y2.2.2.2.1 + 1)))
                  (fun y3 =>
                    some (.inr y3))
                  w4)
            (fun y4 =>
              some (.inr y4))
            w3
        else
          none
      else
        none
    else
      some (.inl ())
noncomputable def l67_6_sig (k : Nat) : LoopSig := ⟨[(0, .obj (.val (.sl (.pair (.int .u8) (.pair (.int .i64) (.pair (.int .i64) (.pair (.sl (.pair (.int .i64) (.pair (.int .i64) (.pair (.int .i64) (.pair (.int .i64) (.unit)))))) (.unit)))))))), (18, .obj (.val (.sl (.pair (.int .u8) (.pair (.int .i64) (.pair (.int .i64) (.pair (.sl (.pair (.int .i64) (.pair (.int .i64) (.pair (.int .i64) (.pair (.int .i64) (.unit)))))) (.unit)))))))), (19, .obj (.val (.int .i64))), (20, .obj (.val (.int .i64)))], [(.exit 1, []), (.ret, [(2, .obj (.val (.int .i64)))])], fun j x => l67_6 k j x.1 x.2.1 x.2.2.1 x.2.2.2.1⟩
noncomputable def f67 (k : Nat) (x0 : List (Int × Int × Int × (List (Int × Int × Int × Int × Unit)) × Unit)) : Option ((Int × Unit)) :=
  bif (x0.length : Int) == 0 then
    some (8, ())
  else
  bif decide ((x0.length : Int) > 6) then
    some (2, ())
  else
    (l67_6 k k x0 x0 (x0.length : Int) 0).bind fun w5 =>
    Sum.elim
      (fun y1 =>
        some (0, ()))
      (fun y2 =>
        some y2)
      w5
noncomputable def f67_sig (k : Nat) : Sig := ⟨[.val (.sl (.pair (.int .u8) (.pair (.int .i64) (.pair (.int .i64) (.pair (.sl (.pair (.int .i64) (.pair (.int .i64) (.pair (.int .i64) (.pair (.int .i64) (.unit)))))) (.unit))))))], [], [[.val (.int .i64)]], fun x => f67 k x.1⟩
noncomputable def E_f67 (k : Nat) : Env := ⟨Try.prog, G0, scons 95 [f95_sig k] (snil), tcons 6 (l67_6_sig k) (tcons 21 (l67_21_sig k) (tcons 11 (l67_11_sig k) (tnil))), tnil, unil, k, qnil⟩
theorem l67_6_ok (k : Nat) : LoopOK (E_f67 k) ⟨Try.f67.ntmps, [], G0⟩ (nthC 0 (loopsIn (Try.f67.body.getD .skip))) :=
  loop_ok (ls := l67_6_sig k) (by kernel_rfl) (fun _ => by kernel_rfl) (fun j x => by kernel_rfl)
theorem l67_11_ok (k : Nat) : LoopOK (E_f67 k) ⟨Try.f67.ntmps, [], G0⟩ (nthC 1 (loopsIn (Try.f67.body.getD .skip))) :=
  loop_ok (ls := l67_11_sig k) (by kernel_rfl) (fun _ => by kernel_rfl) (fun j x => by kernel_rfl)
theorem l67_21_ok (k : Nat) : LoopOK (E_f67 k) ⟨Try.f67.ntmps, [], G0⟩ (nthC 2 (loopsIn (Try.f67.body.getD .skip))) :=
  loop_ok (ls := l67_21_sig k) (by kernel_rfl) (fun _ => by kernel_rfl) (fun j x => by kernel_rfl)
theorem f67_run (k : Nat) (x : (lTy (lay 0 (f67_sig k).ins)).den) : runF (E_f67 k) Try.f67 (f67_sig k) x = (f67_sig k).F x := by kernel_rfl
theorem f67_ok [Dr] (k : Nat) : FnOK Try.prog G0 67 (f67_sig k) :=
  fn_ok2 (E := E_f67 k) (env_cons (one_sig (f95_ok k)) (env_nil)) (qenv_nil) mixed Try.func67 Try.call67 (by kernel_rfl) (by kernel_rfl) (m := 3) (by kernel_rfl) ⟨⟨⟨trivial, l67_6_ok k⟩, l67_11_ok k⟩, l67_21_ok k⟩ (sk := []) (by kernel_rfl) trivial (f67_run k)

/-! ### gamehall/rules.end: function 68 -/
noncomputable def f68 (k : Nat) (x0 : Int × Int × Int × Bool × Unit) (x1 : Int) : Option ((Int × Unit)) :=
  bif x0.1 == 0 then
    bif x0.2.1 != 0 then
      some (4, ())
    else
    bif decide (x0.2.2.1 < 1) then
      some (4, ())
    else
    bif decide (x0.2.2.1 > 64) then
      some (4, ())
    else
      some (0, ())
  else
  bif x0.1 == 1 then
    bif decide (x0.2.1 < 0) then
      some (4, ())
    else
    bif decide (x0.2.1 ≥ x1) then
      some (4, ())
    else
    bif x0.2.2.1 != 0 then
      some (4, ())
    else
      some (0, ())
  else
  bif x0.1 == 2 then
    bif decide (x0.2.1 < 0) then
      some (4, ())
    else
    bif decide (x0.2.1 ≥ x1) then
      some (4, ())
    else
    bif decide (x0.2.2.1 < 1) then
      some (4, ())
    else
    bif decide (x0.2.2.1 > 64) then
      some (4, ())
    else
      some (0, ())
  else
    some (1, ())
noncomputable def f68_sig (k : Nat) : Sig := ⟨[.val (.pair (.int .i64) (.pair (.int .i64) (.pair (.int .i64) (.pair (.bool) (.unit))))), .val (.int .i64)], [], [[.val (.int .i64)]], fun x => f68 k x.1 x.2.1⟩
noncomputable def E_f68 (k : Nat) : Env := ⟨Try.prog, G0, snil, tnil, tnil, unil, k, qnil⟩
theorem f68_run (k : Nat) (x : (lTy (lay 0 (f68_sig k).ins)).den) : runF (E_f68 k) Try.f68 (f68_sig k) x = (f68_sig k).F x := by kernel_rfl
theorem f68_ok [Dr] (k : Nat) : FnOK Try.prog G0 68 (f68_sig k) :=
  fn_ok2 (E := E_f68 k) (env_nil) (qenv_nil) mixed Try.func68 Try.call68 (by kernel_rfl) (by kernel_rfl) (m := 0) (by kernel_rfl) trivial (sk := []) (by kernel_rfl) trivial (f68_run k)

/-! ### gamehall/rules.Check: function 41 -/
noncomputable def l41_11 (k : Nat) : Nat → (ByteArray × Int × Int × (List (Int × Int × Int × (List (Int × Int × Int × Int × Unit)) × Unit)) × (List Int) × Bool × Bool × (List (Int × Int × Int × Bool × Unit)) × Int × Int × Int × Unit) → (List Int) → Int → Int → Option (((ByteArray × Int × Int × (List (Int × Int × Int × (List (Int × Int × Int × Int × Unit)) × Unit)) × (List Int) × Bool × Bool × (List (Int × Int × Int × Bool × Unit)) × Int × Int × Int × Unit) × Unit) ⊕ (Int × Unit))
  | 0, _, _, _, _ => none
  | j + 1, s1, s49, s50, s51 =>
    bif decide (s51 < s50) then
      bif decide (0 ≤ s51) && decide (s51 < (s49.length : Int)) then
        bif decide ((rd (0 : Int) s49 s51) < 0) then
          some (.inr (4, ()))
        else
        bif decide ((rd (0 : Int) s49 s51) > (w64 (2 * (s1.2.2.2.1.length : Int)))) then
          some (.inr (4, ()))
        else
          l41_11 k j s1 s49 s50 (w64 (s51 + 1))
      else
        none
    else
      some (.inl (s1, ()))
noncomputable def l41_11_sig (k : Nat) : LoopSig := ⟨[(1, .obj (.box (.val (.pair (.str) (.pair (.int .i64) (.pair (.int .i64) (.pair (.sl (.pair (.int .u8) (.pair (.int .i64) (.pair (.int .i64) (.pair (.sl (.pair (.int .i64) (.pair (.int .i64) (.pair (.int .i64) (.pair (.int .i64) (.unit)))))) (.unit)))))) (.pair (.sl (.int .i64)) (.pair (.bool) (.pair (.bool) (.pair (.sl (.pair (.int .i64) (.pair (.int .i64) (.pair (.int .i64) (.pair (.bool) (.unit)))))) (.pair (.int .i64) (.pair (.int .i64) (.pair (.int .i64) (.unit))))))))))))))), (49, .obj (.val (.sl (.int .i64)))), (50, .obj (.val (.int .i64))), (51, .obj (.val (.int .i64)))], [(.exit 1, [(1, .obj (.box (.val (.pair (.str) (.pair (.int .i64) (.pair (.int .i64) (.pair (.sl (.pair (.int .u8) (.pair (.int .i64) (.pair (.int .i64) (.pair (.sl (.pair (.int .i64) (.pair (.int .i64) (.pair (.int .i64) (.pair (.int .i64) (.unit)))))) (.unit)))))) (.pair (.sl (.int .i64)) (.pair (.bool) (.pair (.bool) (.pair (.sl (.pair (.int .i64) (.pair (.int .i64) (.pair (.int .i64) (.pair (.bool) (.unit)))))) (.pair (.int .i64) (.pair (.int .i64) (.pair (.int .i64) (.unit)))))))))))))))]), (.ret, [(2, .obj (.val (.int .i64)))])], fun j x => l41_11 k j x.1 x.2.1 x.2.2.1 x.2.2.2.1⟩
noncomputable def l41_19 (k : Nat) : Nat → (ByteArray × Int × Int × (List (Int × Int × Int × (List (Int × Int × Int × Int × Unit)) × Unit)) × (List Int) × Bool × Bool × (List (Int × Int × Int × Bool × Unit)) × Int × Int × Int × Unit) → (List (Int × Int × Int × Bool × Unit)) → Int → Int → Option (((ByteArray × Int × Int × (List (Int × Int × Int × (List (Int × Int × Int × Int × Unit)) × Unit)) × (List Int) × Bool × Bool × (List (Int × Int × Int × Bool × Unit)) × Int × Int × Int × Unit) × Unit) ⊕ (Int × Unit))
  | 0, _, _, _, _ => none
  | j + 1, s1, s71, s72, s73 =>
    bif decide (s73 < s72) then
      bif decide (0 ≤ s73) && decide (s73 < (s71.length : Int)) then
        (f68 k (rd ((0, 0, 0, false, ()) : Int × Int × Int × Bool × Unit) s71 s73) (s1.2.2.2.1.length : Int)).bind fun r1 =>
        bif r1.1 != 0 then
          some (.inr r1)
        else
          l41_19 k j s1 s71 s72 (w64 (s73 + 1))
      else
        none
    else
      some (.inl (s1, ()))
noncomputable def l41_19_sig (k : Nat) : LoopSig := ⟨[(1, .obj (.box (.val (.pair (.str) (.pair (.int .i64) (.pair (.int .i64) (.pair (.sl (.pair (.int .u8) (.pair (.int .i64) (.pair (.int .i64) (.pair (.sl (.pair (.int .i64) (.pair (.int .i64) (.pair (.int .i64) (.pair (.int .i64) (.unit)))))) (.unit)))))) (.pair (.sl (.int .i64)) (.pair (.bool) (.pair (.bool) (.pair (.sl (.pair (.int .i64) (.pair (.int .i64) (.pair (.int .i64) (.pair (.bool) (.unit)))))) (.pair (.int .i64) (.pair (.int .i64) (.pair (.int .i64) (.unit))))))))))))))), (71, .obj (.val (.sl (.pair (.int .i64) (.pair (.int .i64) (.pair (.int .i64) (.pair (.bool) (.unit)))))))), (72, .obj (.val (.int .i64))), (73, .obj (.val (.int .i64)))], [(.exit 3, [(1, .obj (.box (.val (.pair (.str) (.pair (.int .i64) (.pair (.int .i64) (.pair (.sl (.pair (.int .u8) (.pair (.int .i64) (.pair (.int .i64) (.pair (.sl (.pair (.int .i64) (.pair (.int .i64) (.pair (.int .i64) (.pair (.int .i64) (.unit)))))) (.unit)))))) (.pair (.sl (.int .i64)) (.pair (.bool) (.pair (.bool) (.pair (.sl (.pair (.int .i64) (.pair (.int .i64) (.pair (.int .i64) (.pair (.bool) (.unit)))))) (.pair (.int .i64) (.pair (.int .i64) (.pair (.int .i64) (.unit)))))))))))))))]), (.ret, [(2, .obj (.val (.int .i64)))])], fun j x => l41_19 k j x.1 x.2.1 x.2.2.1 x.2.2.2.1⟩
noncomputable def f41 (k : Nat) (x0 : ByteArray × Int × Int × (List (Int × Int × Int × (List (Int × Int × Int × Int × Unit)) × Unit)) × (List Int) × Bool × Bool × (List (Int × Int × Int × Bool × Unit)) × Int × Int × Int × Unit) : Option ((Int × Unit)) :=
  (f66 k x0.1).bind fun r1 =>
  bif !r1.1 then
    some (6, ())
  else
  bif decide (x0.2.1 < 1) then
    some (4, ())
  else
  bif decide (x0.2.1 > 8) then
    some (4, ())
  else
  bif decide (x0.2.2.1 < 1) then
    some (4, ())
  else
  bif decide (x0.2.2.1 > 8) then
    some (4, ())
  else
    (f67 k x0.2.2.2.1).bind fun r2 =>
    bif r2.1 != 0 then
      some r2
    else
    bif (x0.2.2.2.2.1.length : Int) != (w64 (x0.2.1 * x0.2.2.1)) then
      some (3, ())
    else
      (l41_11 k k x0 x0.2.2.2.2.1 (x0.2.2.2.2.1.length : Int) 0).bind fun w6 =>
      Sum.elim
        (fun y3 =>
          bif decide ((y3.1.2.2.2.2.2.2.2.1.length : Int) > 6) then
            some (2, ())
          else
            (l41_19 k k y3.1 y3.1.2.2.2.2.2.2.2.1 (y3.1.2.2.2.2.2.2.2.1.length : Int) 0).bind fun w7 =>
            Sum.elim
              (fun y4 =>
                bif decide (y4.1.2.2.2.2.2.2.2.2.1 < 0) then
                  some (4, ())
                else
                bif decide (y4.1.2.2.2.2.2.2.2.2.1 > 2) then
                  some (4, ())
                else
                bif decide (y4.1.2.2.2.2.2.2.2.2.2.1 < 0) then
                  some (4, ())
                else
                bif decide (y4.1.2.2.2.2.2.2.2.2.2.1 > 200) then
                  some (4, ())
                else
                bif decide (y4.1.2.2.2.2.2.2.2.2.2.2.1 < 0) then
                  some (4, ())
                else
                bif y4.1.2.2.2.2.2.2.2.2.2.2.1 == 1 then
                  some (4, ())
                else
                bif decide (y4.1.2.2.2.2.2.2.2.2.2.2.1 > 5) then
                  some (4, ())
                else
                  some (0, ()))
              (fun y5 =>
                some y5)
              w7)
        (fun y6 =>
          some y6)
        w6
noncomputable def f41_sig (k : Nat) : Sig := ⟨[.val (.pair (.str) (.pair (.int .i64) (.pair (.int .i64) (.pair (.sl (.pair (.int .u8) (.pair (.int .i64) (.pair (.int .i64) (.pair (.sl (.pair (.int .i64) (.pair (.int .i64) (.pair (.int .i64) (.pair (.int .i64) (.unit)))))) (.unit)))))) (.pair (.sl (.int .i64)) (.pair (.bool) (.pair (.bool) (.pair (.sl (.pair (.int .i64) (.pair (.int .i64) (.pair (.int .i64) (.pair (.bool) (.unit)))))) (.pair (.int .i64) (.pair (.int .i64) (.pair (.int .i64) (.unit))))))))))))], [], [[.val (.int .i64)]], fun x => f41 k x.1⟩
noncomputable def E_f41 (k : Nat) : Env := ⟨Try.prog, G0, scons 68 [f68_sig k] (scons 67 [f67_sig k] (scons 66 [f66_sig k] (snil))), tcons 19 (l41_19_sig k) (tcons 11 (l41_11_sig k) (tnil)), tnil, unil, k, qnil⟩
theorem l41_11_ok (k : Nat) : LoopOK (E_f41 k) ⟨Try.f41.ntmps, [], G0⟩ (nthC 0 (loopsIn (Try.f41.body.getD .skip))) :=
  loop_ok (ls := l41_11_sig k) (by kernel_rfl) (fun _ => by kernel_rfl) (fun j x => by kernel_rfl)
theorem l41_19_ok (k : Nat) : LoopOK (E_f41 k) ⟨Try.f41.ntmps, [], G0⟩ (nthC 1 (loopsIn (Try.f41.body.getD .skip))) :=
  loop_ok (ls := l41_19_sig k) (by kernel_rfl) (fun _ => by kernel_rfl) (fun j x => by kernel_rfl)
theorem f41_run (k : Nat) (x : (lTy (lay 0 (f41_sig k).ins)).den) : runF (E_f41 k) Try.f41 (f41_sig k) x = (f41_sig k).F x := by kernel_rfl
theorem f41_ok [Dr] (k : Nat) : FnOK Try.prog G0 41 (f41_sig k) :=
  fn_ok2 (E := E_f41 k) (env_cons (one_sig (f68_ok k)) (env_cons (one_sig (f67_ok k)) (env_cons (one_sig (f66_ok k)) (env_nil)))) (qenv_nil) mixed Try.func41 Try.call41 (by kernel_rfl) (by kernel_rfl) (m := 2) (by kernel_rfl) ⟨⟨trivial, l41_11_ok k⟩, l41_19_ok k⟩ (sk := []) (by kernel_rfl) trivial (f41_run k)

/-! ### slices.Clone[[]int,int]: function 82 -/
noncomputable def f82 (k : Nat) (x0 : List Int) : Option (((List Int) × Unit)) :=
  bif nilB x0 then
    both (
      some ([], ()))
    (
      bif decide ((([] : List Int).length + x0.length) * 8 ≤ roomN) then
        some ([] ++ x0, ())
      else
        none)
  else
  bif decide ((([] : List Int).length + x0.length) * 8 ≤ roomN) then
    some ([] ++ x0, ())
  else
    none
noncomputable def f82_sig (k : Nat) : Sig := ⟨[.val (.sl (.int .i64))], [], [[.row (.int .i64)]], fun x => f82 k x.1⟩
noncomputable def E_f82 (k : Nat) : Env := ⟨Try.prog, G0, snil, tnil, tnil, unil, k, qnil⟩
theorem f82_run (k : Nat) (x : (lTy (lay 0 (f82_sig k).ins)).den) : runF (E_f82 k) Try.f82 (f82_sig k) x = (f82_sig k).F x := by kernel_rfl
theorem f82_ok [Dr] (k : Nat) : FnOK Try.prog G0 82 (f82_sig k) :=
  fn_ok2 (E := E_f82 k) (env_nil) (qenv_nil) mixed Try.func82 Try.call82 (by kernel_rfl) (by kernel_rfl) (m := 0) (by kernel_rfl) trivial (sk := []) (by kernel_rfl) trivial (f82_run k)

/-! ### gamehall/place.Fresh: function 49 -/
noncomputable def l49_6 (k : Nat) : Nat → (ByteArray × Int × Int × (List (Int × Int × Int × (List (Int × Int × Int × Int × Unit)) × Unit)) × (List Int) × Bool × Bool × (List (Int × Int × Int × Bool × Unit)) × Int × Int × Int × Unit) → ((List Int) × ((List Int) × (List Int) × Unit) × Int × Int × Unit) → ((List Int) × ((List Int) × (List Int) × Unit) × Int × Int × Unit) → Int → Int → (List (Int × Int × Int × (List (Int × Int × Int × Int × Unit)) × Unit)) → Int → Int → Option (((ByteArray × Int × Int × (List (Int × Int × Int × (List (Int × Int × Int × Int × Unit)) × Unit)) × (List Int) × Bool × Bool × (List (Int × Int × Int × Bool × Unit)) × Int × Int × Int × Unit) × ((List Int) × ((List Int) × (List Int) × Unit) × Int × Int × Unit) × ((List Int) × ((List Int) × (List Int) × Unit) × Int × Int × Unit) × Int × Unit))
  | 0, _, _, _, _, _, _, _, _ => none
  | j + 1, s1, s2, s3, s4, s11, s15, s16, s17 =>
    bif decide (s17 < s16) then
      bif decide (0 ≤ s17) && decide (s17 < (s15.length : Int)) then
        bif s4 == 0 then
          bif decide ((s3.2.1.1.length + [(rd ((0, 0, 0, [], ()) : Int × Int × Int × (List (Int × Int × Int × Int × Unit)) × Unit) s15 s17).2.1].length) * 8 ≤ roomN) then
            bif s4 == 0 then
              l49_6 k j s1 s2 (s3.1, (s3.2.1.1 ++ [(rd ((0, 0, 0, [], ()) : Int × Int × Int × (List (Int × Int × Int × Int × Unit)) × Unit) s15 s17).2.1], s3.2.1.2), s3.2.2) s4 s11 s15 s16 (w64 (s17 + 1))
            else
            bif s4 == 1 then
              none
            else
              none
          else
            none
        else
        bif s4 == 1 then
          bif decide ((s3.2.1.2.1.length + [(rd ((0, 0, 0, [], ()) : Int × Int × Int × (List (Int × Int × Int × Int × Unit)) × Unit) s15 s17).2.1].length) * 8 ≤ roomN) then
            bif s4 == 0 then
              none
            else
            bif s4 == 1 then
              l49_6 k j s1 s2 (s3.1, (s3.2.1.1, s3.2.1.2.1 ++ [(rd ((0, 0, 0, [], ()) : Int × Int × Int × (List (Int × Int × Int × Int × Unit)) × Unit) s15 s17).2.1], ()), s3.2.2) s4 s11 s15 s16 (w64 (s17 + 1))
            else
              none
          else
            none
        else
          none
      else
        none
    else
      some (s1, s2, s3, s11, ())
noncomputable def l49_6_sig (k : Nat) : LoopSig := ⟨[(1, .obj (.box (.val (.pair (.str) (.pair (.int .i64) (.pair (.int .i64) (.pair (.sl (.pair (.int .u8) (.pair (.int .i64) (.pair (.int .i64) (.pair (.sl (.pair (.int .i64) (.pair (.int .i64) (.pair (.int .i64) (.pair (.int .i64) (.unit)))))) (.unit)))))) (.pair (.sl (.int .i64)) (.pair (.bool) (.pair (.bool) (.pair (.sl (.pair (.int .i64) (.pair (.int .i64) (.pair (.int .i64) (.pair (.bool) (.unit)))))) (.pair (.int .i64) (.pair (.int .i64) (.pair (.int .i64) (.unit))))))))))))))), (2, .obj (.box (.cons (.row (.int .i64)) (.cons (.cons (.row (.int .i64)) (.cons (.row (.int .i64)) (.nil))) (.cons (.val (.int .i64)) (.cons (.val (.int .i64)) (.nil))))))), (3, .obj (.box (.cons (.row (.int .i64)) (.cons (.cons (.row (.int .i64)) (.cons (.row (.int .i64)) (.nil))) (.cons (.val (.int .i64)) (.cons (.val (.int .i64)) (.nil))))))), (4, .obj (.val (.int .i64))), (11, .obj (.val (.int .i64))), (15, .obj (.val (.sl (.pair (.int .u8) (.pair (.int .i64) (.pair (.int .i64) (.pair (.sl (.pair (.int .i64) (.pair (.int .i64) (.pair (.int .i64) (.pair (.int .i64) (.unit)))))) (.unit)))))))), (16, .obj (.val (.int .i64))), (17, .obj (.val (.int .i64)))], [(.exit 2, [(1, .obj (.box (.val (.pair (.str) (.pair (.int .i64) (.pair (.int .i64) (.pair (.sl (.pair (.int .u8) (.pair (.int .i64) (.pair (.int .i64) (.pair (.sl (.pair (.int .i64) (.pair (.int .i64) (.pair (.int .i64) (.pair (.int .i64) (.unit)))))) (.unit)))))) (.pair (.sl (.int .i64)) (.pair (.bool) (.pair (.bool) (.pair (.sl (.pair (.int .i64) (.pair (.int .i64) (.pair (.int .i64) (.pair (.bool) (.unit)))))) (.pair (.int .i64) (.pair (.int .i64) (.pair (.int .i64) (.unit))))))))))))))), (2, .obj (.box (.cons (.row (.int .i64)) (.cons (.cons (.row (.int .i64)) (.cons (.row (.int .i64)) (.nil))) (.cons (.val (.int .i64)) (.cons (.val (.int .i64)) (.nil))))))), (3, .obj (.box (.cons (.row (.int .i64)) (.cons (.cons (.row (.int .i64)) (.cons (.row (.int .i64)) (.nil))) (.cons (.val (.int .i64)) (.cons (.val (.int .i64)) (.nil))))))), (11, .obj (.val (.int .i64)))])], fun j x => l49_6 k j x.1 x.2.1 x.2.2.1 x.2.2.2.1 x.2.2.2.2.1 x.2.2.2.2.2.1 x.2.2.2.2.2.2.1 x.2.2.2.2.2.2.2.1⟩
noncomputable def l49_3 (k : Nat) : Nat → (ByteArray × Int × Int × (List (Int × Int × Int × (List (Int × Int × Int × Int × Unit)) × Unit)) × (List Int) × Bool × Bool × (List (Int × Int × Int × Bool × Unit)) × Int × Int × Int × Unit) → ((List Int) × ((List Int) × (List Int) × Unit) × Int × Int × Unit) → ((List Int) × ((List Int) × (List Int) × Unit) × Int × Int × Unit) → Int → Option ((((List Int) × ((List Int) × (List Int) × Unit) × Int × Int × Unit) × ((List Int) × ((List Int) × (List Int) × Unit) × Int × Int × Unit) × Unit))
  | 0, _, _, _, _ => none
  | j + 1, s1, s2, s3, s11 =>
    bif decide (s11 < 2) then
      (l49_6 k k s1 s2 s3 s11 s11 s1.2.2.2.1 (s1.2.2.2.1.length : Int) 0).bind fun o1 =>
      l49_3 k j o1.1 o1.2.1 o1.2.2.1 (w64 (o1.2.2.2.1 + 1))
    else
      some (s2, s3, ())
noncomputable def l49_3_sig (k : Nat) : LoopSig := ⟨[(1, .obj (.box (.val (.pair (.str) (.pair (.int .i64) (.pair (.int .i64) (.pair (.sl (.pair (.int .u8) (.pair (.int .i64) (.pair (.int .i64) (.pair (.sl (.pair (.int .i64) (.pair (.int .i64) (.pair (.int .i64) (.pair (.int .i64) (.unit)))))) (.unit)))))) (.pair (.sl (.int .i64)) (.pair (.bool) (.pair (.bool) (.pair (.sl (.pair (.int .i64) (.pair (.int .i64) (.pair (.int .i64) (.pair (.bool) (.unit)))))) (.pair (.int .i64) (.pair (.int .i64) (.pair (.int .i64) (.unit))))))))))))))), (2, .obj (.box (.cons (.row (.int .i64)) (.cons (.cons (.row (.int .i64)) (.cons (.row (.int .i64)) (.nil))) (.cons (.val (.int .i64)) (.cons (.val (.int .i64)) (.nil))))))), (3, .obj (.box (.cons (.row (.int .i64)) (.cons (.cons (.row (.int .i64)) (.cons (.row (.int .i64)) (.nil))) (.cons (.val (.int .i64)) (.cons (.val (.int .i64)) (.nil))))))), (11, .obj (.val (.int .i64)))], [(.exit 0, [(2, .obj (.box (.cons (.row (.int .i64)) (.cons (.cons (.row (.int .i64)) (.cons (.row (.int .i64)) (.nil))) (.cons (.val (.int .i64)) (.cons (.val (.int .i64)) (.nil))))))), (3, .obj (.box (.cons (.row (.int .i64)) (.cons (.cons (.row (.int .i64)) (.cons (.row (.int .i64)) (.nil))) (.cons (.val (.int .i64)) (.cons (.val (.int .i64)) (.nil)))))))])], fun j x => l49_3 k j x.1 x.2.1 x.2.2.1 x.2.2.2.1⟩
noncomputable def f49 (k : Nat) (x0 : ByteArray × Int × Int × (List (Int × Int × Int × (List (Int × Int × Int × Int × Unit)) × Unit)) × (List Int) × Bool × Bool × (List (Int × Int × Int × Bool × Unit)) × Int × Int × Int × Unit) : Option ((((List Int) × ((List Int) × (List Int) × Unit) × Int × Int × Unit) × Unit)) :=
  (f82 k x0.2.2.2.2.1).bind fun r1 =>
  (l49_3 k k x0 ([], ([], [], ()), 0, 0, ()) (r1.1, ([], [], ()), 0, 0, ()) 0).bind fun o2 =>
  some o2.2
noncomputable def f49_sig (k : Nat) : Sig := ⟨[.val (.pair (.str) (.pair (.int .i64) (.pair (.int .i64) (.pair (.sl (.pair (.int .u8) (.pair (.int .i64) (.pair (.int .i64) (.pair (.sl (.pair (.int .i64) (.pair (.int .i64) (.pair (.int .i64) (.pair (.int .i64) (.unit)))))) (.unit)))))) (.pair (.sl (.int .i64)) (.pair (.bool) (.pair (.bool) (.pair (.sl (.pair (.int .i64) (.pair (.int .i64) (.pair (.int .i64) (.pair (.bool) (.unit)))))) (.pair (.int .i64) (.pair (.int .i64) (.pair (.int .i64) (.unit))))))))))))], [], [[.val (.pair (.sl (.int .i64)) (.pair (.pair (.sl (.int .i64)) (.pair (.sl (.int .i64)) (.unit))) (.pair (.int .i64) (.pair (.int .i64) (.unit)))))]], fun x => f49 k x.1⟩
noncomputable def E_f49 (k : Nat) : Env := ⟨Try.prog, G0, scons 82 [f82_sig k] (snil), tcons 3 (l49_3_sig k) (tcons 6 (l49_6_sig k) (tnil)), tnil, unil, k, qnil⟩
theorem l49_3_ok (k : Nat) : LoopOK (E_f49 k) ⟨Try.f49.ntmps, [], G0⟩ (nthC 0 (loopsIn (Try.f49.body.getD .skip))) :=
  loop_ok (ls := l49_3_sig k) (by kernel_rfl) (fun _ => by kernel_rfl) (fun j x => by kernel_rfl)
theorem l49_6_ok (k : Nat) : LoopOK (E_f49 k) ⟨Try.f49.ntmps, [], G0⟩ (nthC 1 (loopsIn (Try.f49.body.getD .skip))) :=
  loop_ok (ls := l49_6_sig k) (by kernel_rfl) (fun _ => by kernel_rfl) (fun j x => by kernel_rfl)
theorem f49_run (k : Nat) (x : (lTy (lay 0 (f49_sig k).ins)).den) : runF (E_f49 k) Try.f49 (f49_sig k) x = (f49_sig k).F x := by kernel_rfl
theorem f49_ok [Dr] (k : Nat) : FnOK Try.prog G0 49 (f49_sig k) :=
  fn_ok2 (E := E_f49 k) (env_cons (one_sig (f82_ok k)) (env_nil)) (qenv_nil) mixed Try.func49 Try.call49 (by kernel_rfl) (by kernel_rfl) (m := 2) (by kernel_rfl) ⟨⟨trivial, l49_3_ok k⟩, l49_6_ok k⟩ (sk := []) (by kernel_rfl) trivial (f49_run k)

/-! ### gamehall/place.Begin: function 38 -/
noncomputable def f38 (k : Nat) (x0 : ByteArray × Int × Int × (List (Int × Int × Int × (List (Int × Int × Int × Int × Unit)) × Unit)) × (List Int) × Bool × Bool × (List (Int × Int × Int × Bool × Unit)) × Int × Int × Int × Unit) : Option ((((List Int) × ((List Int) × (List Int) × Unit) × Int × Int × Unit) × Int × Unit)) :=
  (f41 k x0).bind fun r1 =>
  bif r1.1 != 0 then
    some (([], ([], [], ()), 0, 0, ()), r1)
  else
    (f49 k x0).bind fun r2 =>
    some (r2.1, 0, ())
noncomputable def f38_sig (k : Nat) : Sig := ⟨[.val (.pair (.str) (.pair (.int .i64) (.pair (.int .i64) (.pair (.sl (.pair (.int .u8) (.pair (.int .i64) (.pair (.int .i64) (.pair (.sl (.pair (.int .i64) (.pair (.int .i64) (.pair (.int .i64) (.pair (.int .i64) (.unit)))))) (.unit)))))) (.pair (.sl (.int .i64)) (.pair (.bool) (.pair (.bool) (.pair (.sl (.pair (.int .i64) (.pair (.int .i64) (.pair (.int .i64) (.pair (.bool) (.unit)))))) (.pair (.int .i64) (.pair (.int .i64) (.pair (.int .i64) (.unit))))))))))))], [], [[.val (.pair (.sl (.int .i64)) (.pair (.pair (.sl (.int .i64)) (.pair (.sl (.int .i64)) (.unit))) (.pair (.int .i64) (.pair (.int .i64) (.unit))))), .val (.int .i64)]], fun x => f38 k x.1⟩
noncomputable def E_f38 (k : Nat) : Env := ⟨Try.prog, G0, scons 49 [f49_sig k] (scons 41 [f41_sig k] (snil)), tnil, tnil, unil, k, qnil⟩
theorem f38_run (k : Nat) (x : (lTy (lay 0 (f38_sig k).ins)).den) : runF (E_f38 k) Try.f38 (f38_sig k) x = (f38_sig k).F x := by kernel_rfl
theorem f38_ok [Dr] (k : Nat) : FnOK Try.prog G0 38 (f38_sig k) :=
  fn_ok2 (E := E_f38 k) (env_cons (one_sig (f49_ok k)) (env_cons (one_sig (f41_ok k)) (env_nil))) (qenv_nil) mixed Try.func38 Try.call38 (by kernel_rfl) (by kernel_rfl) (m := 0) (by kernel_rfl) trivial (sk := []) (by kernel_rfl) trivial (f38_run k)

/-! ### gamehall/gamehallkeep3.drop: function 40 -/
noncomputable def f40 (k : Nat) (x0 : Int) : Option (((Int × Int × Int × Unit) × Unit)) :=
  some (((-1), x0, 0, ()), ())
noncomputable def f40_sig (k : Nat) : Sig := ⟨[.val (.int .i64)], [], [[.val (.pair (.int .i64) (.pair (.int .i64) (.pair (.int .i64) (.unit))))]], fun x => f40 k x.1⟩
noncomputable def E_f40 (k : Nat) : Env := ⟨Try.prog, G0, snil, tnil, tnil, unil, k, qnil⟩
theorem f40_run (k : Nat) (x : (lTy (lay 0 (f40_sig k).ins)).den) : runF (E_f40 k) Try.f40 (f40_sig k) x = (f40_sig k).F x := by kernel_rfl
theorem f40_ok [Dr] (k : Nat) : FnOK Try.prog G0 40 (f40_sig k) :=
  fn_ok2 (E := E_f40 k) (env_nil) (qenv_nil) mixed Try.func40 Try.call40 (by kernel_rfl) (by kernel_rfl) (m := 0) (by kernel_rfl) trivial (sk := []) (by kernel_rfl) trivial (f40_run k)

/-! ### gamehall/place.Check: function 13 -/
noncomputable def l13_7 (k : Nat) : Nat → (ByteArray × Int × Int × (List (Int × Int × Int × (List (Int × Int × Int × Int × Unit)) × Unit)) × (List Int) × Bool × Bool × (List (Int × Int × Int × Bool × Unit)) × Int × Int × Int × Unit) → ((List Int) × ((List Int) × (List Int) × Unit) × Int × Int × Unit) → (List Int) → Int → Int → Option ((((List Int) × ((List Int) × (List Int) × Unit) × Int × Int × Unit) × Unit) ⊕ (Int × Unit))
  | 0, _, _, _, _, _ => none
  | j + 1, s2, s3, s47, s48, s49 =>
    bif decide (s49 < s48) then
      bif decide (0 ≤ s49) && decide (s49 < (s47.length : Int)) then
        bif decide ((rd (0 : Int) s47 s49) < 0) then
          some (.inr (4, ()))
        else
        bif decide ((rd (0 : Int) s47 s49) > (w64 (2 * (s2.2.2.2.1.length : Int)))) then
          some (.inr (4, ()))
        else
          l13_7 k j s2 s3 s47 s48 (w64 (s49 + 1))
      else
        none
    else
      some (.inl (s3, ()))
noncomputable def l13_7_sig (k : Nat) : LoopSig := ⟨[(2, .obj (.box (.val (.pair (.str) (.pair (.int .i64) (.pair (.int .i64) (.pair (.sl (.pair (.int .u8) (.pair (.int .i64) (.pair (.int .i64) (.pair (.sl (.pair (.int .i64) (.pair (.int .i64) (.pair (.int .i64) (.pair (.int .i64) (.unit)))))) (.unit)))))) (.pair (.sl (.int .i64)) (.pair (.bool) (.pair (.bool) (.pair (.sl (.pair (.int .i64) (.pair (.int .i64) (.pair (.int .i64) (.pair (.bool) (.unit)))))) (.pair (.int .i64) (.pair (.int .i64) (.pair (.int .i64) (.unit))))))))))))))), (3, .obj (.box (.val (.pair (.sl (.int .i64)) (.pair (.pair (.sl (.int .i64)) (.pair (.sl (.int .i64)) (.unit))) (.pair (.int .i64) (.pair (.int .i64) (.unit)))))))), (47, .obj (.val (.sl (.int .i64)))), (48, .obj (.val (.int .i64))), (49, .obj (.val (.int .i64)))], [(.exit 0, [(3, .obj (.box (.val (.pair (.sl (.int .i64)) (.pair (.pair (.sl (.int .i64)) (.pair (.sl (.int .i64)) (.unit))) (.pair (.int .i64) (.pair (.int .i64) (.unit))))))))]), (.ret, [(4, .obj (.val (.int .i64)))])], fun j x => l13_7 k j x.1 x.2.1 x.2.2.1 x.2.2.2.1 x.2.2.2.2.1⟩
noncomputable def l13_16 (k : Nat) : Nat → ((List Int) × ((List Int) × (List Int) × Unit) × Int × Int × Unit) → ((List Int) × (List Int) × Unit) → Int → (List Int) → Int → Int → Option ((((List Int) × ((List Int) × (List Int) × Unit) × Int × Int × Unit) × ((List Int) × (List Int) × Unit) × Int × Unit) ⊕ (Int × Unit))
  | 0, _, _, _, _, _, _ => none
  | j + 1, s3, s65, s66, s69, s70, s71 =>
    bif decide (s71 < s70) then
      bif decide (0 ≤ s71) && decide (s71 < (s69.length : Int)) then
        bif decide ((rd (0 : Int) s69 s71) < 0) then
          some (.inr (4, ()))
        else
        bif decide ((rd (0 : Int) s69 s71) > 1000) then
          some (.inr (4, ()))
        else
          l13_16 k j s3 s65 s66 s69 s70 (w64 (s71 + 1))
      else
        none
    else
      some (.inl (s3, s65, s66, ()))
noncomputable def l13_16_sig (k : Nat) : LoopSig := ⟨[(3, .obj (.box (.val (.pair (.sl (.int .i64)) (.pair (.pair (.sl (.int .i64)) (.pair (.sl (.int .i64)) (.unit))) (.pair (.int .i64) (.pair (.int .i64) (.unit)))))))), (65, .obj (.val (.pair (.sl (.int .i64)) (.pair (.sl (.int .i64)) (.unit))))), (66, .obj (.val (.int .i64))), (69, .obj (.val (.sl (.int .i64)))), (70, .obj (.val (.int .i64))), (71, .obj (.val (.int .i64)))], [(.exit 4, [(3, .obj (.box (.val (.pair (.sl (.int .i64)) (.pair (.pair (.sl (.int .i64)) (.pair (.sl (.int .i64)) (.unit))) (.pair (.int .i64) (.pair (.int .i64) (.unit)))))))), (65, .obj (.val (.pair (.sl (.int .i64)) (.pair (.sl (.int .i64)) (.unit))))), (66, .obj (.val (.int .i64)))]), (.ret, [(4, .obj (.val (.int .i64)))])], fun j x => l13_16 k j x.1 x.2.1 x.2.2.1 x.2.2.2.1 x.2.2.2.2.1 x.2.2.2.2.2.1⟩
noncomputable def l13_13 (k : Nat) : Nat → ((List Int) × ((List Int) × (List Int) × Unit) × Int × Int × Unit) → ((List Int) × (List Int) × Unit) → Int → Option ((((List Int) × ((List Int) × (List Int) × Unit) × Int × Int × Unit) × Unit) ⊕ (Int × Unit))
  | 0, _, _, _ => none
  | j + 1, s3, s65, s66 =>
    bif decide (s66 < 2) then
      bif s66 == 0 then
        (l13_16 k k s3 s65 s66 s65.1 (s65.1.length : Int) 0).bind fun w8 =>
        Sum.elim
          (fun y1 =>
            l13_13 k j y1.1 y1.2.1 (w64 (y1.2.2.1 + 1)))
          (fun y2 =>
            some (.inr y2))
          w8
      else
      bif s66 == 1 then
        (l13_16 k k s3 s65 s66 s65.2.1 (s65.2.1.length : Int) 0).bind fun w9 =>
        Sum.elim
          (fun y3 =>
            l13_13 k j y3.1 y3.2.1 (w64 (y3.2.2.1 + 1)))
          (fun y4 =>
            some (.inr y4))
          w9
      else
        none
    else
      some (.inl (s3, ()))
noncomputable def l13_13_sig (k : Nat) : LoopSig := ⟨[(3, .obj (.box (.val (.pair (.sl (.int .i64)) (.pair (.pair (.sl (.int .i64)) (.pair (.sl (.int .i64)) (.unit))) (.pair (.int .i64) (.pair (.int .i64) (.unit)))))))), (65, .obj (.val (.pair (.sl (.int .i64)) (.pair (.sl (.int .i64)) (.unit))))), (66, .obj (.val (.int .i64)))], [(.exit 2, [(3, .obj (.box (.val (.pair (.sl (.int .i64)) (.pair (.pair (.sl (.int .i64)) (.pair (.sl (.int .i64)) (.unit))) (.pair (.int .i64) (.pair (.int .i64) (.unit))))))))]), (.ret, [(4, .obj (.val (.int .i64)))])], fun j x => l13_13 k j x.1 x.2.1 x.2.2.1⟩
noncomputable def f13 (k : Nat) (x0 : ByteArray × Int × Int × (List (Int × Int × Int × (List (Int × Int × Int × Int × Unit)) × Unit)) × (List Int) × Bool × Bool × (List (Int × Int × Int × Bool × Unit)) × Int × Int × Int × Unit) (x1 : (List Int) × ((List Int) × (List Int) × Unit) × Int × Int × Unit) : Option ((Int × Unit)) :=
  (f41 k x0).bind fun r1 =>
  bif r1.1 != 0 then
    some r1
  else
  bif (x1.1.length : Int) != (w64 (x0.2.1 * x0.2.2.1)) then
    some (3, ())
  else
  bif (x1.2.1.1.length : Int) != (x0.2.2.2.1.length : Int) then
    some (3, ())
  else
  bif (x1.2.1.2.1.length : Int) != (x0.2.2.2.1.length : Int) then
    some (3, ())
  else
    (l13_7 k k x0 x1 x1.1 (x1.1.length : Int) 0).bind fun w10 =>
    Sum.elim
      (fun y2 =>
        (l13_13 k k y2.1 y2.1.2.1 0).bind fun w11 =>
        Sum.elim
          (fun y3 =>
            bif y3.1.2.2.1 != 0 then
              bif y3.1.2.2.1 != 1 then
                some (4, ())
              else
              bif decide (y3.1.2.2.2.1 < 0) then
                some (4, ())
              else
              bif decide (y3.1.2.2.2.1 > 200) then
                some (4, ())
              else
                some (0, ())
            else
            bif decide (y3.1.2.2.2.1 < 0) then
              some (4, ())
            else
            bif decide (y3.1.2.2.2.1 > 200) then
              some (4, ())
            else
              some (0, ()))
          (fun y4 =>
            some y4)
          w11)
      (fun y5 =>
        some y5)
      w10
noncomputable def f13_sig (k : Nat) : Sig := ⟨[.val (.pair (.str) (.pair (.int .i64) (.pair (.int .i64) (.pair (.sl (.pair (.int .u8) (.pair (.int .i64) (.pair (.int .i64) (.pair (.sl (.pair (.int .i64) (.pair (.int .i64) (.pair (.int .i64) (.pair (.int .i64) (.unit)))))) (.unit)))))) (.pair (.sl (.int .i64)) (.pair (.bool) (.pair (.bool) (.pair (.sl (.pair (.int .i64) (.pair (.int .i64) (.pair (.int .i64) (.pair (.bool) (.unit)))))) (.pair (.int .i64) (.pair (.int .i64) (.pair (.int .i64) (.unit)))))))))))), .val (.pair (.sl (.int .i64)) (.pair (.pair (.sl (.int .i64)) (.pair (.sl (.int .i64)) (.unit))) (.pair (.int .i64) (.pair (.int .i64) (.unit)))))], [], [[.val (.int .i64)]], fun x => f13 k x.1 x.2.1⟩
noncomputable def E_f13 (k : Nat) : Env := ⟨Try.prog, G0, scons 41 [f41_sig k] (snil), tcons 13 (l13_13_sig k) (tcons 16 (l13_16_sig k) (tcons 7 (l13_7_sig k) (tnil))), tnil, unil, k, qnil⟩
theorem l13_7_ok (k : Nat) : LoopOK (E_f13 k) ⟨Try.f13.ntmps, [], G0⟩ (nthC 0 (loopsIn (Try.f13.body.getD .skip))) :=
  loop_ok (ls := l13_7_sig k) (by kernel_rfl) (fun _ => by kernel_rfl) (fun j x => by kernel_rfl)
theorem l13_13_ok (k : Nat) : LoopOK (E_f13 k) ⟨Try.f13.ntmps, [], G0⟩ (nthC 1 (loopsIn (Try.f13.body.getD .skip))) :=
  loop_ok (ls := l13_13_sig k) (by kernel_rfl) (fun _ => by kernel_rfl) (fun j x => by kernel_rfl)
theorem l13_16_ok (k : Nat) : LoopOK (E_f13 k) ⟨Try.f13.ntmps, [], G0⟩ (nthC 2 (loopsIn (Try.f13.body.getD .skip))) :=
  loop_ok (ls := l13_16_sig k) (by kernel_rfl) (fun _ => by kernel_rfl) (fun j x => by kernel_rfl)
theorem f13_run (k : Nat) (x : (lTy (lay 0 (f13_sig k).ins)).den) : runF (E_f13 k) Try.f13 (f13_sig k) x = (f13_sig k).F x := by kernel_rfl
theorem f13_ok [Dr] (k : Nat) : FnOK Try.prog G0 13 (f13_sig k) :=
  fn_ok2 (E := E_f13 k) (env_cons (one_sig (f41_ok k)) (env_nil)) (qenv_nil) mixed Try.func13 Try.call13 (by kernel_rfl) (by kernel_rfl) (m := 3) (by kernel_rfl) ⟨⟨⟨trivial, l13_7_ok k⟩, l13_13_ok k⟩, l13_16_ok k⟩ (sk := []) (by kernel_rfl) trivial (f13_run k)

/-! ### gamehall/moves.open: function 69 -/
noncomputable def l69_5 (k : Nat) : Nat → (ByteArray × Int × Int × (List (Int × Int × Int × (List (Int × Int × Int × Int × Unit)) × Unit)) × (List Int) × Bool × Bool × (List (Int × Int × Int × Bool × Unit)) × Int × Int × Int × Unit) → ((List Int) × ((List Int) × (List Int) × Unit) × Int × Int × Unit) → Int → Option (Unit ⊕ (Bool × Unit))
  | 0, _, _, _ => none
  | j + 1, s3, s4, s7 =>
    bif decide (s7 ≥ 0) then
      bif decide (0 ≤ s7) && decide (s7 < (s4.1.length : Int)) then
        bif (rd (0 : Int) s4.1 s7) == 0 then
          some (.inr (false, ()))
        else
          l69_5 k j s3 s4 (w64 (s7 - s3.2.1))
      else
        none
    else
      some (.inl ())
noncomputable def l69_5_sig (k : Nat) : LoopSig := ⟨[(3, .obj (.box (.val (.pair (.str) (.pair (.int .i64) (.pair (.int .i64) (.pair (.sl (.pair (.int .u8) (.pair (.int .i64) (.pair (.int .i64) (.pair (.sl (.pair (.int .i64) (.pair (.int .i64) (.pair (.int .i64) (.pair (.int .i64) (.unit)))))) (.unit)))))) (.pair (.sl (.int .i64)) (.pair (.bool) (.pair (.bool) (.pair (.sl (.pair (.int .i64) (.pair (.int .i64) (.pair (.int .i64) (.pair (.bool) (.unit)))))) (.pair (.int .i64) (.pair (.int .i64) (.pair (.int .i64) (.unit))))))))))))))), (4, .obj (.box (.val (.pair (.sl (.int .i64)) (.pair (.pair (.sl (.int .i64)) (.pair (.sl (.int .i64)) (.unit))) (.pair (.int .i64) (.pair (.int .i64) (.unit)))))))), (7, .obj (.val (.int .i64)))], [(.exit 0, []), (.ret, [(6, .obj (.val (.bool)))])], fun j x => l69_5 k j x.1 x.2.1 x.2.2.1⟩
noncomputable def f69 (k : Nat) (x0 : ByteArray × Int × Int × (List (Int × Int × Int × (List (Int × Int × Int × Int × Unit)) × Unit)) × (List Int) × Bool × Bool × (List (Int × Int × Int × Bool × Unit)) × Int × Int × Int × Unit) (x1 : (List Int) × ((List Int) × (List Int) × Unit) × Int × Int × Unit) (x2 : Int) : Option ((Bool × Unit)) :=
  bif decide (0 ≤ x2) && decide (x2 < (x1.1.length : Int)) then
    bif (rd (0 : Int) x1.1 x2) != 0 then
      some (false, ())
    else
    bif x0.2.2.2.2.2.1 then
      (l69_5 k k x0 x1 (w64 (x2 - x0.2.1))).bind fun w12 =>
      Sum.elim
        (fun y1 =>
          some (true, ()))
        (fun y2 =>
          some y2)
        w12
    else
      some (true, ())
  else
    none
noncomputable def f69_sig (k : Nat) : Sig := ⟨[.val (.pair (.str) (.pair (.int .i64) (.pair (.int .i64) (.pair (.sl (.pair (.int .u8) (.pair (.int .i64) (.pair (.int .i64) (.pair (.sl (.pair (.int .i64) (.pair (.int .i64) (.pair (.int .i64) (.pair (.int .i64) (.unit)))))) (.unit)))))) (.pair (.sl (.int .i64)) (.pair (.bool) (.pair (.bool) (.pair (.sl (.pair (.int .i64) (.pair (.int .i64) (.pair (.int .i64) (.pair (.bool) (.unit)))))) (.pair (.int .i64) (.pair (.int .i64) (.pair (.int .i64) (.unit)))))))))))), .val (.pair (.sl (.int .i64)) (.pair (.pair (.sl (.int .i64)) (.pair (.sl (.int .i64)) (.unit))) (.pair (.int .i64) (.pair (.int .i64) (.unit))))), .val (.int .i64)], [], [[.val (.bool)]], fun x => f69 k x.1 x.2.1 x.2.2.1⟩
noncomputable def E_f69 (k : Nat) : Env := ⟨Try.prog, G0, snil, tcons 5 (l69_5_sig k) (tnil), tnil, unil, k, qnil⟩
theorem l69_5_ok (k : Nat) : LoopOK (E_f69 k) ⟨Try.f69.ntmps, [], G0⟩ (nthC 0 (loopsIn (Try.f69.body.getD .skip))) :=
  loop_ok (ls := l69_5_sig k) (by kernel_rfl) (fun _ => by kernel_rfl) (fun j x => by kernel_rfl)
theorem f69_run (k : Nat) (x : (lTy (lay 0 (f69_sig k).ins)).den) : runF (E_f69 k) Try.f69 (f69_sig k) x = (f69_sig k).F x := by kernel_rfl
theorem f69_ok [Dr] (k : Nat) : FnOK Try.prog G0 69 (f69_sig k) :=
  fn_ok2 (E := E_f69 k) (env_nil) (qenv_nil) mixed Try.func69 Try.call69 (by kernel_rfl) (by kernel_rfl) (m := 1) (by kernel_rfl) ⟨trivial, l69_5_ok k⟩ (sk := []) (by kernel_rfl) trivial (f69_run k)

/-! ### gamehall/moves.Owner: function 64 -/
noncomputable def f64 (k : Nat) (x0 : Int) : Option ((Int × Unit)) :=
  bif x0 == 0 then
    some ((-1), ())
  else
    some ((w64 (x0 - 1)).tmod 2, ())
noncomputable def f64_sig (k : Nat) : Sig := ⟨[.val (.int .i64)], [], [[.val (.int .i64)]], fun x => f64 k x.1⟩
noncomputable def E_f64 (k : Nat) : Env := ⟨Try.prog, G0, snil, tnil, tnil, unil, k, qnil⟩
theorem f64_run (k : Nat) (x : (lTy (lay 0 (f64_sig k).ins)).den) : runF (E_f64 k) Try.f64 (f64_sig k) x = (f64_sig k).F x := by kernel_rfl
theorem f64_ok [Dr] (k : Nat) : FnOK Try.prog G0 64 (f64_sig k) :=
  fn_ok2 (E := E_f64 k) (env_nil) (qenv_nil) mixed Try.func64 Try.call64 (by kernel_rfl) (by kernel_rfl) (m := 0) (by kernel_rfl) trivial (sk := []) (by kernel_rfl) trivial (f64_run k)

/-! ### gamehall/moves.Kind: function 70 -/
noncomputable def f70 (k : Nat) (x0 : Int) : Option ((Int × Unit)) :=
  some (w64 ((w64 (x0 - 1)).tdiv 2), ())
noncomputable def f70_sig (k : Nat) : Sig := ⟨[.val (.int .i64)], [], [[.val (.int .i64)]], fun x => f70 k x.1⟩
noncomputable def E_f70 (k : Nat) : Env := ⟨Try.prog, G0, snil, tnil, tnil, unil, k, qnil⟩
theorem f70_run (k : Nat) (x : (lTy (lay 0 (f70_sig k).ins)).den) : runF (E_f70 k) Try.f70 (f70_sig k) x = (f70_sig k).F x := by kernel_rfl
theorem f70_ok [Dr] (k : Nat) : FnOK Try.prog G0 70 (f70_sig k) :=
  fn_ok2 (E := E_f70 k) (env_nil) (qenv_nil) mixed Try.func70 Try.call70 (by kernel_rfl) (by kernel_rfl) (m := 0) (by kernel_rfl) trivial (sk := []) (by kernel_rfl) trivial (f70_run k)

/-! ### gamehall/rules.Far: function 115 -/
noncomputable def f115 (k : Nat) (x0 : ByteArray × Int × Int × (List (Int × Int × Int × (List (Int × Int × Int × Int × Unit)) × Unit)) × (List Int) × Bool × Bool × (List (Int × Int × Int × Bool × Unit)) × Int × Int × Int × Unit) (x1 : Int) (x2 : Int) : Option ((Bool × Unit)) :=
  bif x1 == 0 then
    bif decide (x0.2.1 = 0) then
      none
    else
      some ((w64 (x2.tdiv x0.2.1)) == (w64 (x0.2.2.1 - 1)), ())
  else
  bif decide (x0.2.1 = 0) then
    none
  else
    some ((w64 (x2.tdiv x0.2.1)) == 0, ())
noncomputable def f115_sig (k : Nat) : Sig := ⟨[.val (.pair (.str) (.pair (.int .i64) (.pair (.int .i64) (.pair (.sl (.pair (.int .u8) (.pair (.int .i64) (.pair (.int .i64) (.pair (.sl (.pair (.int .i64) (.pair (.int .i64) (.pair (.int .i64) (.pair (.int .i64) (.unit)))))) (.unit)))))) (.pair (.sl (.int .i64)) (.pair (.bool) (.pair (.bool) (.pair (.sl (.pair (.int .i64) (.pair (.int .i64) (.pair (.int .i64) (.pair (.bool) (.unit)))))) (.pair (.int .i64) (.pair (.int .i64) (.pair (.int .i64) (.unit)))))))))))), .val (.int .i64), .val (.int .i64)], [], [[.val (.bool)]], fun x => f115 k x.1 x.2.1 x.2.2.1⟩
noncomputable def E_f115 (k : Nat) : Env := ⟨Try.prog, G0, snil, tnil, tnil, unil, k, qnil⟩
theorem f115_run (k : Nat) (x : (lTy (lay 0 (f115_sig k).ins)).den) : runF (E_f115 k) Try.f115 (f115_sig k) x = (f115_sig k).F x := by kernel_rfl
theorem f115_ok [Dr] (k : Nat) : FnOK Try.prog G0 115 (f115_sig k) :=
  fn_ok2 (E := E_f115 k) (env_nil) (qenv_nil) mixed Try.func115 Try.call115 (by kernel_rfl) (by kernel_rfl) (m := 0) (by kernel_rfl) trivial (sk := []) (by kernel_rfl) trivial (f115_run k)

/-! ### gamehall/moves.arrives: function 96 -/
noncomputable def f96 (k : Nat) (x0 : ByteArray × Int × Int × (List (Int × Int × Int × (List (Int × Int × Int × Int × Unit)) × Unit)) × (List Int) × Bool × Bool × (List (Int × Int × Int × Bool × Unit)) × Int × Int × Int × Unit) (x1 : Int) (x2 : Int) (x3 : Int) : Option ((Int × Unit)) :=
  bif decide (0 ≤ x2) && decide (x2 < (x0.2.2.2.1.length : Int)) then
    bif decide ((rd ((0, 0, 0, [], ()) : Int × Int × Int × (List (Int × Int × Int × Int × Unit)) × Unit) x0.2.2.2.1 x2).2.2.1 > 0) then
      (f115 k x0 x1 x3).bind fun r1 =>
      bif r1.1 then
        some (w64 ((rd ((0, 0, 0, [], ()) : Int × Int × Int × (List (Int × Int × Int × Int × Unit)) × Unit) x0.2.2.2.1 x2).2.2.1 - 1), ())
      else
        some (x2, ())
    else
      some (x2, ())
  else
    none
noncomputable def f96_sig (k : Nat) : Sig := ⟨[.val (.pair (.str) (.pair (.int .i64) (.pair (.int .i64) (.pair (.sl (.pair (.int .u8) (.pair (.int .i64) (.pair (.int .i64) (.pair (.sl (.pair (.int .i64) (.pair (.int .i64) (.pair (.int .i64) (.pair (.int .i64) (.unit)))))) (.unit)))))) (.pair (.sl (.int .i64)) (.pair (.bool) (.pair (.bool) (.pair (.sl (.pair (.int .i64) (.pair (.int .i64) (.pair (.int .i64) (.pair (.bool) (.unit)))))) (.pair (.int .i64) (.pair (.int .i64) (.pair (.int .i64) (.unit)))))))))))), .val (.int .i64), .val (.int .i64), .val (.int .i64)], [], [[.val (.int .i64)]], fun x => f96 k x.1 x.2.1 x.2.2.1 x.2.2.2.1⟩
noncomputable def E_f96 (k : Nat) : Env := ⟨Try.prog, G0, scons 115 [f115_sig k] (snil), tnil, tnil, unil, k, qnil⟩
theorem f96_run (k : Nat) (x : (lTy (lay 0 (f96_sig k).ins)).den) : runF (E_f96 k) Try.f96 (f96_sig k) x = (f96_sig k).F x := by kernel_rfl
theorem f96_ok [Dr] (k : Nat) : FnOK Try.prog G0 96 (f96_sig k) :=
  fn_ok2 (E := E_f96 k) (env_cons (one_sig (f115_ok k)) (env_nil)) (qenv_nil) mixed Try.func96 Try.call96 (by kernel_rfl) (by kernel_rfl) (m := 0) (by kernel_rfl) trivial (sk := []) (by kernel_rfl) trivial (f96_run k)

/-! ### gamehall/moves.along: function 71 -/
noncomputable def l71_7 (k : Nat) : Nat → (List (Int × Int × Int × Unit)) → Int → (ByteArray × Int × Int × (List (Int × Int × Int × (List (Int × Int × Int × Int × Unit)) × Unit)) × (List Int) × Bool × Bool × (List (Int × Int × Int × Bool × Unit)) × Int × Int × Int × Unit) → ((List Int) × ((List Int) × (List Int) × Unit) × Int × Int × Unit) → (Int × Int × Int × Int × Unit) → Int → Int → Int → Int → Int → Int → Option (((List (Int × Int × Int × Unit)) × Unit) ⊕ ((List (Int × Int × Int × Unit)) × Unit × Unit))
  | 0, _, _, _, _, _, _, _, _, _, _, _ => none
  | j + 1, s0, s3, s6, s7, s9, s11, s12, s13, s14, s39, s40 =>
    bif decide (s40 < s39) then
      bif decide ((w64 (s13 + s9.1)) < 0) then
        some (.inr (s0, (), ()))
      else
      bif decide ((w64 (s13 + s9.1)) ≥ s6.2.1) then
        some (.inr (s0, (), ()))
      else
      bif decide ((w64 (s14 + s12)) < 0) then
        some (.inr (s0, (), ()))
      else
      bif decide ((w64 (s14 + s12)) ≥ s6.2.2.1) then
        some (.inr (s0, (), ()))
      else
      bif decide (0 ≤ (w64 ((w64 ((w64 (s14 + s12)) * s6.2.1)) + (w64 (s13 + s9.1))))) && decide ((w64 ((w64 ((w64 (s14 + s12)) * s6.2.1)) + (w64 (s13 + s9.1)))) < (s7.1.length : Int)) then
        (f64 k (rd (0 : Int) s7.1 (w64 ((w64 ((w64 (s14 + s12)) * s6.2.1)) + (w64 (s13 + s9.1)))))).bind fun r1 =>
        bif decide (r1.1 < 0) then
          bif s9.2.2.2.1 != 2 then
            (f96 k s6 s7.2.2.1 s11 (w64 ((w64 ((w64 (s14 + s12)) * s6.2.1)) + (w64 (s13 + s9.1))))).bind fun r2 =>
            bif decide ((s0.length + ([(s3, w64 ((w64 ((w64 (s14 + s12)) * s6.2.1)) + (w64 (s13 + s9.1))), r2)] : List (Int × Int × Int × Unit)).length) * 24 ≤ roomN) then
              bif decide (r1.1 ≥ 0) then
                some (.inr (s0 ++ [(s3, w64 ((w64 ((w64 (s14 + s12)) * s6.2.1)) + (w64 (s13 + s9.1))), r2)], (), ()))
              else
                l71_7 k j (s0 ++ [(s3, w64 ((w64 ((w64 (s14 + s12)) * s6.2.1)) + (w64 (s13 + s9.1))), r2)]) s3 s6 s7 s9 s11 s12 (w64 (s13 + s9.1)) (w64 (s14 + s12)) s39 (w64 (s40 + 1))
            else
              none
          else
          bif r1.1 == (w64 (1 - s7.2.2.1)) then
            bif s9.2.2.2.1 != 0 then
              (f96 k s6 s7.2.2.1 s11 (w64 ((w64 ((w64 (s14 + s12)) * s6.2.1)) + (w64 (s13 + s9.1))))).bind fun r3 =>
              bif decide ((s0.length + ([(s3, w64 ((w64 ((w64 (s14 + s12)) * s6.2.1)) + (w64 (s13 + s9.1))), r3)] : List (Int × Int × Int × Unit)).length) * 24 ≤ roomN) then
                bif decide (r1.1 ≥ 0) then
                  some (.inr (s0 ++ [(s3, w64 ((w64 ((w64 (s14 + s12)) * s6.2.1)) + (w64 (s13 + s9.1))), r3)], (), ()))
                else
                  l71_7 k j (s0 ++ [(s3, w64 ((w64 ((w64 (s14 + s12)) * s6.2.1)) + (w64 (s13 + s9.1))), r3)]) s3 s6 s7 s9 s11 s12 (w64 (s13 + s9.1)) (w64 (s14 + s12)) s39 (w64 (s40 + 1))
              else
                none
            else
            bif decide (r1.1 ≥ 0) then
              some (.inr (s0, (), ()))
            else
              l71_7 k j s0 s3 s6 s7 s9 s11 s12 (w64 (s13 + s9.1)) (w64 (s14 + s12)) s39 (w64 (s40 + 1))
          else
          bif decide (r1.1 ≥ 0) then
            some (.inr (s0, (), ()))
          else
            l71_7 k j s0 s3 s6 s7 s9 s11 s12 (w64 (s13 + s9.1)) (w64 (s14 + s12)) s39 (w64 (s40 + 1))
        else
        bif r1.1 == (w64 (1 - s7.2.2.1)) then
          bif s9.2.2.2.1 != 0 then
            (f96 k s6 s7.2.2.1 s11 (w64 ((w64 ((w64 (s14 + s12)) * s6.2.1)) + (w64 (s13 + s9.1))))).bind fun r4 =>
            bif decide ((s0.length + ([(s3, w64 ((w64 ((w64 (s14 + s12)) * s6.2.1)) + (w64 (s13 + s9.1))), r4)] : List (Int × Int × Int × Unit)).length) * 24 ≤ roomN) then
              bif decide (r1.1 ≥ 0) then
                some (.inr (s0 ++ [(s3, w64 ((w64 ((w64 (s14 + s12)) * s6.2.1)) + (w64 (s13 + s9.1))), r4)], (), ()))
              else
                l71_7 k j (s0 ++ [(s3, w64 ((w64 ((w64 (s14 + s12)) * s6.2.1)) + (w64 (s13 + s9.1))), r4)]) s3 s6 s7 s9 s11 s12 (w64 (s13 + s9.1)) (w64 (s14 + s12)) s39 (w64 (s40 + 1))
            else
              none
          else
          bif decide (r1.1 ≥ 0) then
            some (.inr (s0, (), ()))
          else
            l71_7 k j s0 s3 s6 s7 s9 s11 s12 (w64 (s13 + s9.1)) (w64 (s14 + s12)) s39 (w64 (s40 + 1))
        else
        bif decide (r1.1 ≥ 0) then
          some (.inr (s0, (), ()))
        else
          l71_7 k j s0 s3 s6 s7 s9 s11 s12 (w64 (s13 + s9.1)) (w64 (s14 + s12)) s39 (w64 (s40 + 1))
      else
        none
    else
      some (.inl (s0, ()))
noncomputable def l71_7_sig (k : Nat) : LoopSig := ⟨[(0, .obj (.row (.pair (.int .i64) (.pair (.int .i64) (.pair (.int .i64) (.unit)))))), (3, .obj (.val (.int .i64))), (6, .obj (.box (.val (.pair (.str) (.pair (.int .i64) (.pair (.int .i64) (.pair (.sl (.pair (.int .u8) (.pair (.int .i64) (.pair (.int .i64) (.pair (.sl (.pair (.int .i64) (.pair (.int .i64) (.pair (.int .i64) (.pair (.int .i64) (.unit)))))) (.unit)))))) (.pair (.sl (.int .i64)) (.pair (.bool) (.pair (.bool) (.pair (.sl (.pair (.int .i64) (.pair (.int .i64) (.pair (.int .i64) (.pair (.bool) (.unit)))))) (.pair (.int .i64) (.pair (.int .i64) (.pair (.int .i64) (.unit))))))))))))))), (7, .obj (.box (.val (.pair (.sl (.int .i64)) (.pair (.pair (.sl (.int .i64)) (.pair (.sl (.int .i64)) (.unit))) (.pair (.int .i64) (.pair (.int .i64) (.unit)))))))), (9, .obj (.box (.val (.pair (.int .i64) (.pair (.int .i64) (.pair (.int .i64) (.pair (.int .i64) (.unit)))))))), (11, .obj (.val (.int .i64))), (12, .obj (.val (.int .i64))), (13, .obj (.val (.int .i64))), (14, .obj (.val (.int .i64))), (39, .obj (.val (.int .i64))), (40, .obj (.val (.int .i64)))], [(.exit 0, [(0, .obj (.row (.pair (.int .i64) (.pair (.int .i64) (.pair (.int .i64) (.unit))))))]), (.ret, [(0, .obj (.row (.pair (.int .i64) (.pair (.int .i64) (.pair (.int .i64) (.unit)))))), (10, .same 0)])], fun j x => l71_7 k j x.1 x.2.1 x.2.2.1 x.2.2.2.1 x.2.2.2.2.1 x.2.2.2.2.2.1 x.2.2.2.2.2.2.1 x.2.2.2.2.2.2.2.1 x.2.2.2.2.2.2.2.2.1 x.2.2.2.2.2.2.2.2.2.1 x.2.2.2.2.2.2.2.2.2.2.1⟩
noncomputable def f71 (k : Nat) (x0 : List (Int × Int × Int × Unit)) (x1 : ByteArray × Int × Int × (List (Int × Int × Int × (List (Int × Int × Int × Int × Unit)) × Unit)) × (List Int) × Bool × Bool × (List (Int × Int × Int × Bool × Unit)) × Int × Int × Int × Unit) (x2 : (List Int) × ((List Int) × (List Int) × Unit) × Int × Int × Unit) (x3 : Int) (x4 : Int × Int × Int × Int × Unit) : Option (((List (Int × Int × Int × Unit)) × Unit)) :=
  bif decide (0 ≤ x3) && decide (x3 < (x2.1.length : Int)) then
    (f70 k (rd (0 : Int) x2.1 x3)).bind fun r1 =>
    bif x2.2.2.1 == 1 then
      bif decide (x1.2.1 = 0) then
        none
      else
      bif decide (x1.2.1 = 0) then
        none
      else
        (l71_7 k k x0 x3 x1 x2 x4 r1.1 (w64 (0 - x4.2.1)) (x3.tmod x1.2.1) (w64 (x3.tdiv x1.2.1)) x4.2.2.1 0).bind fun w13 =>
        Sum.elim
          (fun y2 =>
            some y2)
          (fun y3 =>
            some (y3.1, ()))
          w13
    else
    bif decide (x1.2.1 = 0) then
      none
    else
    bif decide (x1.2.1 = 0) then
      none
    else
      (l71_7 k k x0 x3 x1 x2 x4 r1.1 x4.2.1 (x3.tmod x1.2.1) (w64 (x3.tdiv x1.2.1)) x4.2.2.1 0).bind fun w14 =>
      Sum.elim
        (fun y4 =>
          some y4)
        (fun y5 =>
          some (y5.1, ()))
        w14
  else
    none
noncomputable def f71_sig (k : Nat) : Sig := ⟨[.row (.pair (.int .i64) (.pair (.int .i64) (.pair (.int .i64) (.unit)))), .val (.pair (.str) (.pair (.int .i64) (.pair (.int .i64) (.pair (.sl (.pair (.int .u8) (.pair (.int .i64) (.pair (.int .i64) (.pair (.sl (.pair (.int .i64) (.pair (.int .i64) (.pair (.int .i64) (.pair (.int .i64) (.unit)))))) (.unit)))))) (.pair (.sl (.int .i64)) (.pair (.bool) (.pair (.bool) (.pair (.sl (.pair (.int .i64) (.pair (.int .i64) (.pair (.int .i64) (.pair (.bool) (.unit)))))) (.pair (.int .i64) (.pair (.int .i64) (.pair (.int .i64) (.unit)))))))))))), .val (.pair (.sl (.int .i64)) (.pair (.pair (.sl (.int .i64)) (.pair (.sl (.int .i64)) (.unit))) (.pair (.int .i64) (.pair (.int .i64) (.unit))))), .val (.int .i64), .val (.pair (.int .i64) (.pair (.int .i64) (.pair (.int .i64) (.pair (.int .i64) (.unit)))))], [], [[.row (.pair (.int .i64) (.pair (.int .i64) (.pair (.int .i64) (.unit))))]], fun x => f71 k x.1 x.2.1 x.2.2.1 x.2.2.2.1 x.2.2.2.2.1⟩
noncomputable def E_f71 (k : Nat) : Env := ⟨Try.prog, G0, scons 96 [f96_sig k] (scons 70 [f70_sig k] (scons 64 [f64_sig k] (snil))), tcons 7 (l71_7_sig k) (tnil), tnil, unil, k, qnil⟩
theorem l71_7_ok (k : Nat) : LoopOK (E_f71 k) ⟨Try.f71.ntmps, [], G0⟩ (nthC 0 (loopsIn (Try.f71.body.getD .skip))) :=
  loop_ok (ls := l71_7_sig k) (by kernel_rfl) (fun _ => by kernel_rfl) (fun j x => by kernel_rfl)
theorem f71_run (k : Nat) (x : (lTy (lay 0 (f71_sig k).ins)).den) : runF (E_f71 k) Try.f71 (f71_sig k) x = (f71_sig k).F x := by kernel_rfl
theorem f71_ok [Dr] (k : Nat) : FnOK Try.prog G0 71 (f71_sig k) :=
  fn_ok2 (E := E_f71 k) (env_cons (one_sig (f96_ok k)) (env_cons (one_sig (f70_ok k)) (env_cons (one_sig (f64_ok k)) (env_nil)))) (qenv_nil) mixed Try.func71 Try.call71 (by kernel_rfl) (by kernel_rfl) (m := 1) (by kernel_rfl) ⟨trivial, l71_7_ok k⟩ (sk := []) (by kernel_rfl) trivial (f71_run k)

/-! ### cmp.isNaN[int]: function 126 -/
noncomputable def f126 (k : Nat) (x0 : Int) : Option ((Bool × Unit)) :=
  some (x0 != x0, ())
noncomputable def f126_sig (k : Nat) : Sig := ⟨[.val (.int .i64)], [], [[.val (.bool)]], fun x => f126 k x.1⟩
noncomputable def E_f126 (k : Nat) : Env := ⟨Try.prog, G0, snil, tnil, tnil, unil, k, qnil⟩
theorem f126_run (k : Nat) (x : (lTy (lay 0 (f126_sig k).ins)).den) : runF (E_f126 k) Try.f126 (f126_sig k) x = (f126_sig k).F x := by kernel_rfl
theorem f126_ok [Dr] (k : Nat) : FnOK Try.prog G0 126 (f126_sig k) :=
  fn_ok2 (E := E_f126 k) (env_nil) (qenv_nil) mixed Try.func126 Try.call126 (by kernel_rfl) (by kernel_rfl) (m := 0) (by kernel_rfl) trivial (sk := []) (by kernel_rfl) trivial (f126_run k)

/-! ### cmp.Compare[int]: function 100 -/
noncomputable def f100 (k : Nat) (x0 : Int) (x1 : Int) : Option ((Int × Unit)) :=
  (f126 k x0).bind fun r1 =>
  (f126 k x1).bind fun r2 =>
  bif r1.1 then
    bif r2.1 then
      some (0, ())
    else
      some ((-1), ())
  else
  bif r2.1 then
    some (1, ())
  else
  bif decide (x0 < x1) then
    some ((-1), ())
  else
  bif decide (x0 > x1) then
    some (1, ())
  else
    some (0, ())
noncomputable def f100_sig (k : Nat) : Sig := ⟨[.val (.int .i64), .val (.int .i64)], [], [[.val (.int .i64)]], fun x => f100 k x.1 x.2.1⟩
noncomputable def E_f100 (k : Nat) : Env := ⟨Try.prog, G0, scons 126 [f126_sig k] (snil), tnil, tnil, unil, k, qnil⟩
theorem f100_run (k : Nat) (x : (lTy (lay 0 (f100_sig k).ins)).den) : runF (E_f100 k) Try.f100 (f100_sig k) x = (f100_sig k).F x := by kernel_rfl
theorem f100_ok [Dr] (k : Nat) : FnOK Try.prog G0 100 (f100_sig k) :=
  fn_ok2 (E := E_f100 k) (env_cons (one_sig (f126_ok k)) (env_nil)) (qenv_nil) mixed Try.func100 Try.call100 (by kernel_rfl) (by kernel_rfl) (m := 0) (by kernel_rfl) trivial (sk := []) (by kernel_rfl) trivial (f100_run k)

/-! ### cmp.Or[int]: function 99 -/
noncomputable def l99_3 (k : Nat) : Nat → Int → (List Int) → Int → Int → Option ((Int × Unit) ⊕ (Int × Unit))
  | 0, _, _, _, _ => none
  | j + 1, s3, s6, s7, s8 =>
    bif decide (s8 < s7) then
      bif decide (0 ≤ s8) && decide (s8 < (s6.length : Int)) then
        bif (rd (0 : Int) s6 s8) != s3 then
          some (.inr (rd (0 : Int) s6 s8, ()))
        else
          l99_3 k j s3 s6 s7 (w64 (s8 + 1))
      else
        none
    else
      some (.inl (s3, ()))
noncomputable def l99_3_sig (k : Nat) : LoopSig := ⟨[(3, .obj (.val (.int .i64))), (6, .obj (.val (.sl (.int .i64)))), (7, .obj (.val (.int .i64))), (8, .obj (.val (.int .i64)))], [(.exit 0, [(3, .obj (.val (.int .i64)))]), (.ret, [(2, .obj (.val (.int .i64)))])], fun j x => l99_3 k j x.1 x.2.1 x.2.2.1 x.2.2.2.1⟩
noncomputable def f99 (k : Nat) (x0 : List Int) : Option ((Int × Unit)) :=
  (l99_3 k k 0 x0 (x0.length : Int) 0).bind fun w15 =>
  Sum.elim
    (fun y1 =>
      some y1)
    (fun y2 =>
      some y2)
    w15
noncomputable def f99_sig (k : Nat) : Sig := ⟨[.val (.sl (.int .i64))], [], [[.val (.int .i64)]], fun x => f99 k x.1⟩
noncomputable def E_f99 (k : Nat) : Env := ⟨Try.prog, G0, snil, tcons 3 (l99_3_sig k) (tnil), tnil, unil, k, qnil⟩
theorem l99_3_ok (k : Nat) : LoopOK (E_f99 k) ⟨Try.f99.ntmps, [], G0⟩ (nthC 0 (loopsIn (Try.f99.body.getD .skip))) :=
  loop_ok (ls := l99_3_sig k) (by kernel_rfl) (fun _ => by kernel_rfl) (fun j x => by kernel_rfl)
theorem f99_run (k : Nat) (x : (lTy (lay 0 (f99_sig k).ins)).den) : runF (E_f99 k) Try.f99 (f99_sig k) x = (f99_sig k).F x := by kernel_rfl
theorem f99_ok [Dr] (k : Nat) : FnOK Try.prog G0 99 (f99_sig k) :=
  fn_ok2 (E := E_f99 k) (env_nil) (qenv_nil) mixed Try.func99 Try.call99 (by kernel_rfl) (by kernel_rfl) (m := 1) (by kernel_rfl) ⟨trivial, l99_3_ok k⟩ (sk := []) (by kernel_rfl) trivial (f99_run k)

/-! ### gamehall/moves.compare: function 73 -/
noncomputable def f73 (k : Nat) (x0 : Int × Int × Int × Unit) (x1 : Int × Int × Int × Unit) : Option ((Int × Unit)) :=
  (f100 k x0.1 x1.1).bind fun r1 =>
  (f100 k x0.2.1 x1.2.1).bind fun r2 =>
  (f100 k x0.2.2.1 x1.2.2.1).bind fun r3 =>
  (f99 k [r1.1, r2.1, r3.1]).bind fun r4 =>
  some r4
noncomputable def f73_sig (k : Nat) : Sig := ⟨[.val (.pair (.int .i64) (.pair (.int .i64) (.pair (.int .i64) (.unit)))), .val (.pair (.int .i64) (.pair (.int .i64) (.pair (.int .i64) (.unit))))], [], [[.val (.int .i64)]], fun x => f73 k x.1 x.2.1⟩
noncomputable def E_f73 (k : Nat) : Env := ⟨Try.prog, G0, scons 100 [f100_sig k] (scons 99 [f99_sig k] (snil)), tnil, tnil, unil, k, qnil⟩
theorem f73_run (k : Nat) (x : (lTy (lay 0 (f73_sig k).ins)).den) : runF (E_f73 k) Try.f73 (f73_sig k) x = (f73_sig k).F x := by kernel_rfl
theorem f73_ok [Dr] (k : Nat) : FnOK Try.prog G0 73 (f73_sig k) :=
  fn_ok2 (E := E_f73 k) (env_cons (one_sig (f100_ok k)) (env_cons (one_sig (f99_ok k)) (env_nil))) (qenv_nil) mixed Try.func73 Try.call73 (by kernel_rfl) (by kernel_rfl) (m := 0) (by kernel_rfl) trivial (sk := []) (by kernel_rfl) trivial (f73_run k)

/-! ### slices.SortFunc: function 72, out of the library's own contract -/
open Go.Shelf in
def sortMv_ren : Go.Shelf.Ren := ⟨fun | 6 => 72 | 15 => 98 | 14 => 97 | 28 => 124 | 29 => 125 | 20 => 116 | 21 => 117 | 22 => 118 | 23 => 119 | 24 => 120 | 25 => 121 | 26 => 122 | 27 => 123 | 46 => 136 | 47 => 137 | 48 => 138 | 49 => 139 | 50 => 140 | 57 => 142 | n => n, fun | 22 => 48 | 24 => 38 | 25 => 130 | 3 => 3 | 39 => 162 | 0 => 0 | 53 => 184 | 55 => 167 | 4 => 4 | 46 => 177 | 45 => 176 | 50 => 181 | 5 => 5 | 9 => 9 | 66 => 202 | 70 => 206 | 76 => 210 | 77 => 211 | n => n, fun | n => n⟩
open Go.Shelf in
theorem sortMv : Go.Proofs.SlLaysF0.n6 Try.prog sortMv_ren := {
  mixed := by kernel_rfl
  f6 := ⟨Try.f72.name, by decide, Try.func72.trans (congrArg some (by kernel_rfl))⟩
  f14 := ⟨Try.f97.name, by decide, Try.func97.trans (congrArg some (by kernel_rfl))⟩
  f15 := Try.func98.trans (congrArg some (by kernel_rfl))
  f20 := ⟨Try.f116.name, by decide, Try.func116.trans (congrArg some (by kernel_rfl))⟩
  f21 := ⟨Try.f117.name, by decide, Try.func117.trans (congrArg some (by kernel_rfl))⟩
  f22 := ⟨Try.f118.name, by decide, Try.func118.trans (congrArg some (by kernel_rfl))⟩
  f23 := ⟨Try.f119.name, by decide, Try.func119.trans (congrArg some (by kernel_rfl))⟩
  f24 := ⟨Try.f120.name, by decide, Try.func120.trans (congrArg some (by kernel_rfl))⟩
  f25 := ⟨Try.f121.name, by decide, Try.func121.trans (congrArg some (by kernel_rfl))⟩
  f26 := ⟨Try.f122.name, by decide, Try.func122.trans (congrArg some (by kernel_rfl))⟩
  f27 := ⟨Try.f123.name, by decide, Try.func123.trans (congrArg some (by kernel_rfl))⟩
  f28 := Try.func124.trans (congrArg some (by kernel_rfl))
  f29 := Try.func125.trans (congrArg some (by kernel_rfl))
  f46 := ⟨Try.f136.name, by decide, Try.func136.trans (congrArg some (by kernel_rfl))⟩
  f47 := Try.func137.trans (congrArg some (by kernel_rfl))
  f48 := Try.func138.trans (congrArg some (by kernel_rfl))
  f49 := ⟨Try.f139.name, by decide, Try.func139.trans (congrArg some (by kernel_rfl))⟩
  f50 := ⟨Try.f140.name, by decide, Try.func140.trans (congrArg some (by kernel_rfl))⟩
  f57 := ⟨Try.f142.name, by decide, Try.func142.trans (congrArg some (by kernel_rfl))⟩
  t0 := Try.underlying0
  a0 := Try.isAgg0
  z0 := Try.sizeOf0
  v0 := Try.zeroValue0
  t3 := Try.underlying3
  a3 := Try.isAgg3
  z3 := Try.sizeOf3
  v3 := Try.zeroValue3
  t4 := Try.underlying4
  a4 := Try.isAgg4
  z4 := Try.sizeOf4
  v4 := Try.zeroValue4
  t5 := Try.underlying5
  a5 := Try.isAgg5
  z5 := Try.sizeOf5
  v5 := Try.zeroValue5
  t9 := Try.underlying9
  a9 := Try.isAgg9
  z9 := Try.sizeOf9
  v9 := Try.zeroValue9
  t22 := Try.underlying48
  a22 := Try.isAgg48
  z22 := Try.sizeOf48
  v22 := Try.zeroValue48
  t25 := Try.underlying130
  a25 := Try.isAgg130
  z25 := Try.sizeOf130
  v25 := Try.zeroValue130
  t39 := Try.underlying162
  a39 := Try.isAgg162
  z39 := Try.sizeOf162
  v39 := Try.zeroValue162
  t45 := Try.underlying176
  a45 := Try.isAgg176
  z45 := Try.sizeOf176
  v45 := Try.zeroValue176
  t46 := Try.underlying177
  a46 := Try.isAgg177
  z46 := Try.sizeOf177
  v46 := Try.zeroValue177
  t50 := Try.underlying181
  a50 := Try.isAgg181
  z50 := Try.sizeOf181
  v50 := Try.zeroValue181
  t53 := Try.underlying184
  a53 := Try.isAgg184
  z53 := Try.sizeOf184
  v53 := Try.zeroValue184
  t55 := Try.underlying167
  a55 := Try.isAgg167
  z55 := Try.sizeOf167
  v55 := Try.zeroValue167
  t66 := Try.underlying202
  a66 := Try.isAgg202
  z66 := Try.sizeOf202
  v66 := Try.zeroValue202
  t70 := Try.underlying206
  a70 := Try.isAgg206
  z70 := Try.sizeOf206
  v70 := Try.zeroValue206
  t76 := Try.underlying210
  a76 := Try.isAgg210
  z76 := Try.sizeOf210
  v76 := Try.zeroValue210
  t77 := Try.underlying211
  a77 := Try.isAgg211
  z77 := Try.sizeOf211
  v77 := Try.zeroValue211 }

def cmpI (a b : Int) : Int := bif decide (a < b) then -1 else bif decide (b < a) then 1 else 0
theorem cmpI_eq (k : Nat) (a b : Int) : f100 k a b = some (cmpI a b, ()) := by
  have h0 : f126 k a = some (false, ()) := by simp [f126]
  have h1 : f126 k b = some (false, ()) := by simp [f126]
  unfold f100 cmpI
  rw [h0, h1]
  by_cases h : a < b <;> by_cases h' : b < a <;> simp [h, h']
def cmpM (x y : Int × Int × Int × Unit) : Int := bif cmpI x.1 y.1 != 0 then cmpI x.1 y.1 else bif cmpI x.2.1 y.2.1 != 0 then cmpI x.2.1 y.2.1 else cmpI x.2.2.1 y.2.2.1
theorem cmpOr_eq (k : Nat) (a b c : Int) : f99 (k + 5) [a, b, c] = some (bif a != 0 then a else bif b != 0 then b else c, ()) := by
  unfold f99
  have e0 : ∀ a b c : Int, rd (0 : Int) [a, b, c] 0 = a := fun _ _ _ => rfl
  have e1 : ∀ a b c : Int, rd (0 : Int) [a, b, c] 1 = b := fun _ _ _ => rfl
  have e2 : ∀ a b c : Int, rd (0 : Int) [a, b, c] 2 = c := fun _ _ _ => rfl
  have w1 : w64 1 = 1 := by decide
  have w2 : w64 2 = 2 := by decide
  have w3 : w64 3 = 3 := by decide
  cases ha : (a != 0) <;> cases hb : (b != 0) <;> cases hc : (c != 0) <;> simp [l99_3, ha, hb, hc, e0, e1, e2, w1, w2, w3]
  have := bne_eq_false_iff_eq.1 hc
  exact this.symm
theorem cmpM_eq (k : Nat) (x y : Int × Int × Int × Unit) : f73 (k + 5) x y = some (cmpM x y, ()) := by
  unfold f73 cmpM
  simp only [cmpI_eq, Option.bind_some, cmpOr_eq]
theorem cmpM_lt (x y : Int × Int × Int × Unit) : cmpM x y < 0 ↔ x.1 < y.1 ∨ x.1 = y.1 ∧ (x.2.1 < y.2.1 ∨ x.2.1 = y.2.1 ∧ x.2.2.1 < y.2.2.1) := by
  have e : ∀ a b : Int, cmpI a b = if a < b then -1 else if b < a then 1 else 0 := fun a b => by
    unfold cmpI; by_cases h : a < b <;> by_cases h' : b < a <;> simp [h, h']
  unfold cmpM
  simp only [e]
  obtain ⟨a, b, c, _⟩ := x; obtain ⟨a', b', c', _⟩ := y
  simp only
  rcases Int.lt_trichotomy a a' with h | h | h
  · simp [h]
  · subst h
    rcases Int.lt_trichotomy b b' with h | h | h
    · simp [h]
    · subst h
      rcases Int.lt_trichotomy c c' with h | h | h
      · simp [h]
      · subst h; simp
      · have h2 : ¬ c < c' := by omega
        simp [h, h2]
    · have h2 : ¬ b < b' := by omega
      have h3 : ¬ b = b' := by omega
      simp [h, h2, h3]
  · have h2 : ¬ a < a' := by omega
    have h3 : ¬ a = a' := by omega
    simp [h, h2, h3]
/-- The order of moves. -/
def mvLt (x y : Int × Int × Int × Unit) : Bool := decide (cmpM x y < 0)
noncomputable def f72 (k : Nat) (x0 : List (Int × Int × Int × Unit)) : Option (List (Int × Int × Int × Unit) × Unit) :=
  bif Nat.ble 5 k && decide (x0.length < 4611686018427387904) then some (List.mergeSort x0 (fun x y => !mvLt y x), ()) else none
noncomputable def f72_sig (k : Nat) : Sig := ⟨[.row (.pair (.int .i64) (.pair (.int .i64) (.pair (.int .i64) (.unit)))), .fn 73], [0], [[.row (.pair (.int .i64) (.pair (.int .i64) (.pair (.int .i64) (.unit))))]], fun x => f72 k x.1⟩
theorem mv_swo : Go.Sort.SWO (Go.Proofs.ltOf cmpM) := by
  have e : ∀ x y, Go.Proofs.ltOf cmpM x y = true ↔ cmpM x y < 0 := fun x y => by simp [Go.Proofs.ltOf]
  have e' : ∀ x y, Go.Proofs.ltOf cmpM x y = false ↔ ¬ cmpM x y < 0 := fun x y => by simp [Go.Proofs.ltOf]
  refine ⟨fun x => ?_, fun x y z h1 h2 => ?_, fun x y z h1 h2 => ?_⟩
  · rw [e', cmpM_lt]; omega
  · rw [e, cmpM_lt] at *; omega
  · rw [e', cmpM_lt] at *; omega
theorem mv_tot (x y : Int × Int × Int × Unit) (h1 : Go.Proofs.ltOf cmpM x y = false) (h2 : Go.Proofs.ltOf cmpM y x = false) : x = y := by
  have e' : ∀ x y, Go.Proofs.ltOf cmpM x y = false ↔ ¬ cmpM x y < 0 := fun x y => by simp [Go.Proofs.ltOf]
  rw [e', cmpM_lt] at h1 h2
  obtain ⟨a, b, c, _⟩ := x; obtain ⟨a', b', c', _⟩ := y
  simp only at h1 h2
  have : a = a' ∧ b = b' ∧ c = c' := by omega
  obtain ⟨rfl, rfl, rfl⟩ := this
  rfl
theorem f72_ok [Dr] (k : Nat) : FnOK Try.prog G0 72 (f72_sig k) := by
  by_cases hk : 5 ≤ k
  · obtain ⟨j, rfl⟩ : ∃ j, k = j + 5 := ⟨k - 5, by omega⟩
    refine FnOK.weak (sortfunc_ok (ρ := sortMv_ren) sortMv (.pair (.int .i64) (.pair (.int .i64) (.pair (.int .i64) (.unit)))) rfl rfl Try.isAgg38 Try.sizeOf38 Try.call72 (@f73_ok ⟨True⟩ (j + 5)) cmpM (fun x y => cmpM_eq j x y) mv_swo mv_tot) (fun x y h => ?_)
    have h2 := cond_some (show (bif Nat.ble 5 (j + 5) && decide (List.length (α := Int × Int × Int × Unit) x.1 < 4611686018427387904) then some (List.mergeSort (α := Int × Int × Int × Unit) x.1 (fun x y => !mvLt y x), ()) else none) = some y from h)
    have h3 := ((Bool.and_eq_true _ _).mp h2.1).2
    show (bif decide (List.length (α := Int × Int × Int × Unit) x.1 < 4611686018427387904) then _ else none) = some y
    rw [h3]
    exact h2.2
  · refine fn_none Try.call72 (fun x => ?_)
    show (bif Nat.ble 5 k && _ then _ else none) = none
    rw [show Nat.ble 5 k = false from by cases h : Nat.ble 5 k; rfl; exact absurd (Nat.le_of_ble_eq_true h) hk]
    rfl


/-! ### slices.Compact[[]gamehall/api.Move,gamehall/api.Move]: function 74 -/
noncomputable def l74_9 (k : Nat) : Nat → (List (Int × Int × Int × Unit)) → Int → (Int × Int) → Int → Option (((List (Int × Int × Int × Unit)) × Int × Unit))
  | 0, _, _, _, _ => none
  | j + 1, s0, s3, s4, s5 =>
    bif decide (s5 < ((s4.2.toNat : Nat) : Int)) then
      bif decide (0 ≤ s5) && decide (s5 < ((s4.2.toNat : Nat) : Int)) then
        bif decide (0 ≤ (w64 (s5 - 1))) && decide ((w64 (s5 - 1)) < ((s4.2.toNat : Nat) : Int)) then
          bif !(((rd ((0, 0, 0, ()) : Int × Int × Int × Unit) s0 (((s4.1.toNat : Nat) : Int) + s5)).1 == (rd ((0, 0, 0, ()) : Int × Int × Int × Unit) s0 (((s4.1.toNat : Nat) : Int) + (w64 (s5 - 1)))).1) && (((rd ((0, 0, 0, ()) : Int × Int × Int × Unit) s0 (((s4.1.toNat : Nat) : Int) + s5)).2.1 == (rd ((0, 0, 0, ()) : Int × Int × Int × Unit) s0 (((s4.1.toNat : Nat) : Int) + (w64 (s5 - 1)))).2.1) && (((rd ((0, 0, 0, ()) : Int × Int × Int × Unit) s0 (((s4.1.toNat : Nat) : Int) + s5)).2.2.1 == (rd ((0, 0, 0, ()) : Int × Int × Int × Unit) s0 (((s4.1.toNat : Nat) : Int) + (w64 (s5 - 1)))).2.2.1) && true))) then
            bif decide (0 ≤ s5) && decide (s5 < ((s4.2.toNat : Nat) : Int)) then
              bif decide (0 ≤ s3) && decide (s3 < (s0.length : Int)) then
                l74_9 k j (s0.set s3.toNat (rd ((0, 0, 0, ()) : Int × Int × Int × Unit) s0 (((s4.1.toNat : Nat) : Int) + s5))) (w64 (s3 + 1)) (((s4.1.toNat : Nat) : Int), ((s4.2.toNat : Nat) : Int)) (w64 (s5 + 1))
              else
                none
            else
              none
          else
            l74_9 k j s0 s3 (((s4.1.toNat : Nat) : Int), ((s4.2.toNat : Nat) : Int)) (w64 (s5 + 1))
        else
          none
      else
        none
    else
      some (s0, s3, ())
noncomputable def l74_9_sig (k : Nat) : LoopSig := ⟨[(0, .obj (.row (.pair (.int .i64) (.pair (.int .i64) (.pair (.int .i64) (.unit)))))), (3, .obj (.val (.int .i64))), (4, .win 0 3), (5, .obj (.val (.int .i64)))], [(.exit 2, [(0, .obj (.row (.pair (.int .i64) (.pair (.int .i64) (.pair (.int .i64) (.unit)))))), (3, .obj (.val (.int .i64)))])], fun j x => l74_9 k j x.1 x.2.1 x.2.2.1 x.2.2.2.1⟩
noncomputable def l74_4 (k : Nat) : Nat → (List (Int × Int × Int × Unit)) → Int → Option (((List (Int × Int × Int × Unit)) × Unit) ⊕ ((List (Int × Int × Int × Unit)) × (List (Int × Int × Int × Unit)) × Unit))
  | 0, _, _ => none
  | j + 1, s0, s3 =>
    bif decide (s3 < (s0.length : Int)) then
      bif decide (0 ≤ s3) && decide (s3 < (s0.length : Int)) then
        bif decide (0 ≤ (w64 (s3 - 1))) && decide ((w64 (s3 - 1)) < (s0.length : Int)) then
          bif ((rd ((0, 0, 0, ()) : Int × Int × Int × Unit) s0 s3).1 == (rd ((0, 0, 0, ()) : Int × Int × Int × Unit) s0 (w64 (s3 - 1))).1) && (((rd ((0, 0, 0, ()) : Int × Int × Int × Unit) s0 s3).2.1 == (rd ((0, 0, 0, ()) : Int × Int × Int × Unit) s0 (w64 (s3 - 1))).2.1) && (((rd ((0, 0, 0, ()) : Int × Int × Int × Unit) s0 s3).2.2.1 == (rd ((0, 0, 0, ()) : Int × Int × Int × Unit) s0 (w64 (s3 - 1))).2.2.1) && true)) then
            bif decide (0 ≤ s3) && (decide (s3 ≤ (s0.length : Int)) && decide ((s0.length : Int) ≤ (s0.length : Int))) then
              (l74_9 k k s0 s3 (((s3.toNat : Nat) : Int), ((((s0.length : Int) - s3).toNat : Nat) : Int)) 1).bind fun o1 =>
              bif decide (0 ≤ o1.2.1) && (decide (o1.2.1 ≤ (o1.1.length : Int)) && decide ((o1.1.length : Int) ≤ (o1.1.length : Int))) then
                bif Nat.ble (o1.2.1.toNat + ((o1.1.length : Int) - o1.2.1).toNat) o1.1.length then
                  bif decide (0 ≤ o1.2.1) && decide (o1.2.1 ≤ ((o1.1.take o1.2.1.toNat ++ (List.replicate ((o1.1.length : Int) - o1.2.1).toNat ((0, 0, 0, ()) : Int × Int × Int × Unit) ++ o1.1.drop (o1.2.1.toNat + ((o1.1.length : Int) - o1.2.1).toNat))).length : Int)) then
                    some (.inr (o1.1.take o1.2.1.toNat ++ (List.replicate ((o1.1.length : Int) - o1.2.1).toNat ((0, 0, 0, ()) : Int × Int × Int × Unit) ++ o1.1.drop (o1.2.1.toNat + ((o1.1.length : Int) - o1.2.1).toNat)), first o1.2.1.toNat (o1.1.take o1.2.1.toNat ++ (List.replicate ((o1.1.length : Int) - o1.2.1).toNat ((0, 0, 0, ()) : Int × Int × Int × Unit) ++ o1.1.drop (o1.2.1.toNat + ((o1.1.length : Int) - o1.2.1).toNat))), ()))
                  else
                    none
                else
                  none
              else
                none
            else
              none
          else
            l74_4 k j s0 (w64 (s3 + 1))
        else
          none
      else
        none
    else
      some (.inl (s0, ()))
noncomputable def l74_4_sig (k : Nat) : LoopSig := ⟨[(0, .obj (.row (.pair (.int .i64) (.pair (.int .i64) (.pair (.int .i64) (.unit)))))), (3, .obj (.val (.int .i64)))], [(.exit 0, [(0, .obj (.row (.pair (.int .i64) (.pair (.int .i64) (.pair (.int .i64) (.unit))))))]), (.ret, [(0, .obj (.val (.sl (.pair (.int .i64) (.pair (.int .i64) (.pair (.int .i64) (.unit))))))), (2, .obj (.val (.sl (.pair (.int .i64) (.pair (.int .i64) (.pair (.int .i64) (.unit)))))))])], fun j x => l74_4 k j x.1 x.2.1⟩
noncomputable def f74 (k : Nat) (x0 : List (Int × Int × Int × Unit)) : Option (((List (Int × Int × Int × Unit)) × (List (Int × Int × Int × Unit)) × Unit)) :=
  bif decide ((x0.length : Int) < 2) then
    some (x0, x0, ())
  else
    (l74_4 k k x0 1).bind fun w16 =>
    Sum.elim
      (fun y1 =>
        some (y1.1, y1))
      (fun y2 =>
        some (y2.2.1, y2.1, ()))
      w16
noncomputable def f74_sig (k : Nat) : Sig := ⟨[.row (.pair (.int .i64) (.pair (.int .i64) (.pair (.int .i64) (.unit))))], [0], [[.val (.sl (.pair (.int .i64) (.pair (.int .i64) (.pair (.int .i64) (.unit))))), .val (.sl (.pair (.int .i64) (.pair (.int .i64) (.pair (.int .i64) (.unit)))))]], fun x => f74 k x.1⟩
noncomputable def E_f74 (k : Nat) : Env := ⟨Try.prog, G0, snil, tcons 4 (l74_4_sig k) (tcons 9 (l74_9_sig k) (tnil)), tnil, unil, k, qnil⟩
theorem l74_4_ok (k : Nat) : LoopOK (E_f74 k) ⟨Try.f74.ntmps, [0], G0⟩ (nthC 0 (loopsIn (Try.f74.body.getD .skip))) :=
  loop_ok (ls := l74_4_sig k) (by kernel_rfl) (fun _ => by kernel_rfl) (fun j x => by kernel_rfl)
theorem l74_9_ok (k : Nat) : LoopOK (E_f74 k) ⟨Try.f74.ntmps, [0], G0⟩ (nthC 1 (loopsIn (Try.f74.body.getD .skip))) :=
  loop_ok (ls := l74_9_sig k) (by kernel_rfl) (fun _ => by kernel_rfl) (fun j x => by kernel_rfl)
theorem f74_run (k : Nat) (x : (lTy (lay 0 (f74_sig k).ins)).den) : runF (E_f74 k) Try.f74 (f74_sig k) x = (f74_sig k).F x := by kernel_rfl
theorem f74_ok [Dr] (k : Nat) : FnOK Try.prog G0 74 (f74_sig k) :=
  fn_ok2 (E := E_f74 k) (env_nil) (qenv_nil) mixed Try.func74 Try.call74 (by kernel_rfl) (by kernel_rfl) (m := 2) (by kernel_rfl) ⟨⟨trivial, l74_4_ok k⟩, l74_9_ok k⟩ (sk := []) (by kernel_rfl) trivial (f74_run k)

/-! ### gamehall/moves.Gen: function 42 -/
noncomputable def l42_6 (k : Nat) : Nat → (ByteArray × Int × Int × (List (Int × Int × Int × (List (Int × Int × Int × Int × Unit)) × Unit)) × (List Int) × Bool × Bool × (List (Int × Int × Int × Bool × Unit)) × Int × Int × Int × Unit) → ((List Int) × ((List Int) × (List Int) × Unit) × Int × Int × Unit) → (List (Int × Int × Int × Unit)) → Int → Int → (List Int) → Int → Int → Int → Int → Option (((ByteArray × Int × Int × (List (Int × Int × Int × (List (Int × Int × Int × Int × Unit)) × Unit)) × (List Int) × Bool × Bool × (List (Int × Int × Int × Bool × Unit)) × Int × Int × Int × Unit) × ((List Int) × ((List Int) × (List Int) × Unit) × Int × Int × Unit) × (List (Int × Int × Int × Unit)) × (List Int) × Int × Int × Unit))
  | 0, _, _, _, _, _, _, _, _, _, _ => none
  | j + 1, s2, s3, s5, s6, s7, s17, s18, s19, s26, s27 =>
    bif decide (s27 < s26) then
      bif decide (s7 > 0) then
        (f69 k s2 s3 s27).bind fun r1 =>
        bif r1.1 then
          bif decide ((s5.length + ([((-1), s27, s6, ())] : List (Int × Int × Int × Unit)).length) * 24 ≤ roomN) then
            l42_6 k j s2 s3 (s5 ++ [((-1), s27, s6, ())]) s6 s7 s17 s18 s19 s26 (w64 (s27 + 1))
          else
            none
        else
          l42_6 k j s2 s3 s5 s6 s7 s17 s18 s19 s26 (w64 (s27 + 1))
      else
        l42_6 k j s2 s3 s5 s6 s7 s17 s18 s19 s26 (w64 (s27 + 1))
    else
      some (s2, s3, s5, s17, s18, s19, ())
noncomputable def l42_6_sig (k : Nat) : LoopSig := ⟨[(2, .obj (.box (.val (.pair (.str) (.pair (.int .i64) (.pair (.int .i64) (.pair (.sl (.pair (.int .u8) (.pair (.int .i64) (.pair (.int .i64) (.pair (.sl (.pair (.int .i64) (.pair (.int .i64) (.pair (.int .i64) (.pair (.int .i64) (.unit)))))) (.unit)))))) (.pair (.sl (.int .i64)) (.pair (.bool) (.pair (.bool) (.pair (.sl (.pair (.int .i64) (.pair (.int .i64) (.pair (.int .i64) (.pair (.bool) (.unit)))))) (.pair (.int .i64) (.pair (.int .i64) (.pair (.int .i64) (.unit))))))))))))))), (3, .obj (.box (.val (.pair (.sl (.int .i64)) (.pair (.pair (.sl (.int .i64)) (.pair (.sl (.int .i64)) (.unit))) (.pair (.int .i64) (.pair (.int .i64) (.unit)))))))), (5, .obj (.row (.pair (.int .i64) (.pair (.int .i64) (.pair (.int .i64) (.unit)))))), (6, .obj (.val (.int .i64))), (7, .obj (.val (.int .i64))), (17, .obj (.val (.sl (.int .i64)))), (18, .obj (.val (.int .i64))), (19, .obj (.val (.int .i64))), (26, .obj (.val (.int .i64))), (27, .obj (.val (.int .i64)))], [(.exit 2, [(2, .obj (.box (.val (.pair (.str) (.pair (.int .i64) (.pair (.int .i64) (.pair (.sl (.pair (.int .u8) (.pair (.int .i64) (.pair (.int .i64) (.pair (.sl (.pair (.int .i64) (.pair (.int .i64) (.pair (.int .i64) (.pair (.int .i64) (.unit)))))) (.unit)))))) (.pair (.sl (.int .i64)) (.pair (.bool) (.pair (.bool) (.pair (.sl (.pair (.int .i64) (.pair (.int .i64) (.pair (.int .i64) (.pair (.bool) (.unit)))))) (.pair (.int .i64) (.pair (.int .i64) (.pair (.int .i64) (.unit))))))))))))))), (3, .obj (.box (.val (.pair (.sl (.int .i64)) (.pair (.pair (.sl (.int .i64)) (.pair (.sl (.int .i64)) (.unit))) (.pair (.int .i64) (.pair (.int .i64) (.unit)))))))), (5, .obj (.row (.pair (.int .i64) (.pair (.int .i64) (.pair (.int .i64) (.unit)))))), (17, .obj (.val (.sl (.int .i64)))), (18, .obj (.val (.int .i64))), (19, .obj (.val (.int .i64)))])], fun j x => l42_6 k j x.1 x.2.1 x.2.2.1 x.2.2.2.1 x.2.2.2.2.1 x.2.2.2.2.2.1 x.2.2.2.2.2.2.1 x.2.2.2.2.2.2.2.1 x.2.2.2.2.2.2.2.2.1 x.2.2.2.2.2.2.2.2.2.1⟩
noncomputable def l42_3 (k : Nat) : Nat → (ByteArray × Int × Int × (List (Int × Int × Int × (List (Int × Int × Int × Int × Unit)) × Unit)) × (List Int) × Bool × Bool × (List (Int × Int × Int × Bool × Unit)) × Int × Int × Int × Unit) → ((List Int) × ((List Int) × (List Int) × Unit) × Int × Int × Unit) → (List (Int × Int × Int × Unit)) → (List Int) → Int → Int → Option (((ByteArray × Int × Int × (List (Int × Int × Int × (List (Int × Int × Int × Int × Unit)) × Unit)) × (List Int) × Bool × Bool × (List (Int × Int × Int × Bool × Unit)) × Int × Int × Int × Unit) × ((List Int) × ((List Int) × (List Int) × Unit) × Int × Int × Unit) × (List (Int × Int × Int × Unit)) × Unit))
  | 0, _, _, _, _, _, _ => none
  | j + 1, s2, s3, s5, s17, s18, s19 =>
    bif decide (s19 < s18) then
      bif decide (0 ≤ s19) && decide (s19 < (s17.length : Int)) then
        (l42_6 k k s2 s3 s5 s19 (rd (0 : Int) s17 s19) s17 s18 s19 (s3.1.length : Int) 0).bind fun o1 =>
        l42_3 k j o1.1 o1.2.1 o1.2.2.1 o1.2.2.2.1 o1.2.2.2.2.1 (w64 (o1.2.2.2.2.2.1 + 1))
      else
        none
    else
      some (s2, s3, s5, ())
noncomputable def l42_3_sig (k : Nat) : LoopSig := ⟨[(2, .obj (.box (.val (.pair (.str) (.pair (.int .i64) (.pair (.int .i64) (.pair (.sl (.pair (.int .u8) (.pair (.int .i64) (.pair (.int .i64) (.pair (.sl (.pair (.int .i64) (.pair (.int .i64) (.pair (.int .i64) (.pair (.int .i64) (.unit)))))) (.unit)))))) (.pair (.sl (.int .i64)) (.pair (.bool) (.pair (.bool) (.pair (.sl (.pair (.int .i64) (.pair (.int .i64) (.pair (.int .i64) (.pair (.bool) (.unit)))))) (.pair (.int .i64) (.pair (.int .i64) (.pair (.int .i64) (.unit))))))))))))))), (3, .obj (.box (.val (.pair (.sl (.int .i64)) (.pair (.pair (.sl (.int .i64)) (.pair (.sl (.int .i64)) (.unit))) (.pair (.int .i64) (.pair (.int .i64) (.unit)))))))), (5, .obj (.row (.pair (.int .i64) (.pair (.int .i64) (.pair (.int .i64) (.unit)))))), (17, .obj (.val (.sl (.int .i64)))), (18, .obj (.val (.int .i64))), (19, .obj (.val (.int .i64)))], [(.exit 0, [(2, .obj (.box (.val (.pair (.str) (.pair (.int .i64) (.pair (.int .i64) (.pair (.sl (.pair (.int .u8) (.pair (.int .i64) (.pair (.int .i64) (.pair (.sl (.pair (.int .i64) (.pair (.int .i64) (.pair (.int .i64) (.pair (.int .i64) (.unit)))))) (.unit)))))) (.pair (.sl (.int .i64)) (.pair (.bool) (.pair (.bool) (.pair (.sl (.pair (.int .i64) (.pair (.int .i64) (.pair (.int .i64) (.pair (.bool) (.unit)))))) (.pair (.int .i64) (.pair (.int .i64) (.pair (.int .i64) (.unit))))))))))))))), (3, .obj (.box (.val (.pair (.sl (.int .i64)) (.pair (.pair (.sl (.int .i64)) (.pair (.sl (.int .i64)) (.unit))) (.pair (.int .i64) (.pair (.int .i64) (.unit)))))))), (5, .obj (.row (.pair (.int .i64) (.pair (.int .i64) (.pair (.int .i64) (.unit))))))])], fun j x => l42_3 k j x.1 x.2.1 x.2.2.1 x.2.2.2.1 x.2.2.2.2.1 x.2.2.2.2.2.1⟩
noncomputable def l42_17 (k : Nat) : Nat → (ByteArray × Int × Int × (List (Int × Int × Int × (List (Int × Int × Int × Int × Unit)) × Unit)) × (List Int) × Bool × Bool × (List (Int × Int × Int × Bool × Unit)) × Int × Int × Int × Unit) → ((List Int) × ((List Int) × (List Int) × Unit) × Int × Int × Unit) → (List (Int × Int × Int × Unit)) → Int → (List Int) → Int → Int → (List (Int × Int × Int × Int × Unit)) → Int → Int → Option (((ByteArray × Int × Int × (List (Int × Int × Int × (List (Int × Int × Int × Int × Unit)) × Unit)) × (List Int) × Bool × Bool × (List (Int × Int × Int × Bool × Unit)) × Int × Int × Int × Unit) × ((List Int) × ((List Int) × (List Int) × Unit) × Int × Int × Unit) × (List (Int × Int × Int × Unit)) × (List Int) × Int × Int × Unit))
  | 0, _, _, _, _, _, _, _, _, _, _ => none
  | j + 1, s2, s3, s5, s9, s47, s48, s49, s65, s66, s67 =>
    bif decide (s67 < s66) then
      bif decide (0 ≤ s67) && decide (s67 < (s65.length : Int)) then
        (f71 k s5 s2 s3 s9 (rd ((0, 0, 0, 0, ()) : Int × Int × Int × Int × Unit) s65 s67)).bind fun r1 =>
        l42_17 k j s2 s3 r1.1 s9 s47 s48 s49 s65 s66 (w64 (s67 + 1))
      else
        none
    else
      some (s2, s3, s5, s47, s48, s49, ())
noncomputable def l42_17_sig (k : Nat) : LoopSig := ⟨[(2, .obj (.box (.val (.pair (.str) (.pair (.int .i64) (.pair (.int .i64) (.pair (.sl (.pair (.int .u8) (.pair (.int .i64) (.pair (.int .i64) (.pair (.sl (.pair (.int .i64) (.pair (.int .i64) (.pair (.int .i64) (.pair (.int .i64) (.unit)))))) (.unit)))))) (.pair (.sl (.int .i64)) (.pair (.bool) (.pair (.bool) (.pair (.sl (.pair (.int .i64) (.pair (.int .i64) (.pair (.int .i64) (.pair (.bool) (.unit)))))) (.pair (.int .i64) (.pair (.int .i64) (.pair (.int .i64) (.unit))))))))))))))), (3, .obj (.box (.val (.pair (.sl (.int .i64)) (.pair (.pair (.sl (.int .i64)) (.pair (.sl (.int .i64)) (.unit))) (.pair (.int .i64) (.pair (.int .i64) (.unit)))))))), (5, .obj (.row (.pair (.int .i64) (.pair (.int .i64) (.pair (.int .i64) (.unit)))))), (9, .obj (.val (.int .i64))), (47, .obj (.val (.sl (.int .i64)))), (48, .obj (.val (.int .i64))), (49, .obj (.val (.int .i64))), (65, .obj (.val (.sl (.pair (.int .i64) (.pair (.int .i64) (.pair (.int .i64) (.pair (.int .i64) (.unit)))))))), (66, .obj (.val (.int .i64))), (67, .obj (.val (.int .i64)))], [(.exit 6, [(2, .obj (.box (.val (.pair (.str) (.pair (.int .i64) (.pair (.int .i64) (.pair (.sl (.pair (.int .u8) (.pair (.int .i64) (.pair (.int .i64) (.pair (.sl (.pair (.int .i64) (.pair (.int .i64) (.pair (.int .i64) (.pair (.int .i64) (.unit)))))) (.unit)))))) (.pair (.sl (.int .i64)) (.pair (.bool) (.pair (.bool) (.pair (.sl (.pair (.int .i64) (.pair (.int .i64) (.pair (.int .i64) (.pair (.bool) (.unit)))))) (.pair (.int .i64) (.pair (.int .i64) (.pair (.int .i64) (.unit))))))))))))))), (3, .obj (.box (.val (.pair (.sl (.int .i64)) (.pair (.pair (.sl (.int .i64)) (.pair (.sl (.int .i64)) (.unit))) (.pair (.int .i64) (.pair (.int .i64) (.unit)))))))), (5, .obj (.row (.pair (.int .i64) (.pair (.int .i64) (.pair (.int .i64) (.unit)))))), (47, .obj (.val (.sl (.int .i64)))), (48, .obj (.val (.int .i64))), (49, .obj (.val (.int .i64)))])], fun j x => l42_17 k j x.1 x.2.1 x.2.2.1 x.2.2.2.1 x.2.2.2.2.1 x.2.2.2.2.2.1 x.2.2.2.2.2.2.1 x.2.2.2.2.2.2.2.1 x.2.2.2.2.2.2.2.2.1 x.2.2.2.2.2.2.2.2.2.1⟩
noncomputable def l42_13 (k : Nat) : Nat → (ByteArray × Int × Int × (List (Int × Int × Int × (List (Int × Int × Int × Int × Unit)) × Unit)) × (List Int) × Bool × Bool × (List (Int × Int × Int × Bool × Unit)) × Int × Int × Int × Unit) → ((List Int) × ((List Int) × (List Int) × Unit) × Int × Int × Unit) → (List (Int × Int × Int × Unit)) → (List Int) → Int → Int → Option (((List (Int × Int × Int × Unit)) × Unit))
  | 0, _, _, _, _, _, _ => none
  | j + 1, s2, s3, s5, s47, s48, s49 =>
    bif decide (s49 < s48) then
      bif decide (0 ≤ s49) && decide (s49 < (s47.length : Int)) then
        (f64 k (rd (0 : Int) s47 s49)).bind fun r1 =>
        bif r1.1 == s3.2.2.1 then
          (f70 k (rd (0 : Int) s47 s49)).bind fun r2 =>
          bif decide (0 ≤ r2.1) && decide (r2.1 < (s2.2.2.2.1.length : Int)) then
            (l42_17 k k s2 s3 s5 s49 s47 s48 s49 (rd ((0, 0, 0, [], ()) : Int × Int × Int × (List (Int × Int × Int × Int × Unit)) × Unit) s2.2.2.2.1 r2.1).2.2.2.1 ((rd ((0, 0, 0, [], ()) : Int × Int × Int × (List (Int × Int × Int × Int × Unit)) × Unit) s2.2.2.2.1 r2.1).2.2.2.1.length : Int) 0).bind fun o3 =>
            l42_13 k j o3.1 o3.2.1 o3.2.2.1 o3.2.2.2.1 o3.2.2.2.2.1 (w64 (o3.2.2.2.2.2.1 + 1))
          else
            none
        else
          l42_13 k j s2 s3 s5 s47 s48 (w64 (s49 + 1))
      else
        none
    else
      some (s5, ())
noncomputable def l42_13_sig (k : Nat) : LoopSig := ⟨[(2, .obj (.box (.val (.pair (.str) (.pair (.int .i64) (.pair (.int .i64) (.pair (.sl (.pair (.int .u8) (.pair (.int .i64) (.pair (.int .i64) (.pair (.sl (.pair (.int .i64) (.pair (.int .i64) (.pair (.int .i64) (.pair (.int .i64) (.unit)))))) (.unit)))))) (.pair (.sl (.int .i64)) (.pair (.bool) (.pair (.bool) (.pair (.sl (.pair (.int .i64) (.pair (.int .i64) (.pair (.int .i64) (.pair (.bool) (.unit)))))) (.pair (.int .i64) (.pair (.int .i64) (.pair (.int .i64) (.unit))))))))))))))), (3, .obj (.box (.val (.pair (.sl (.int .i64)) (.pair (.pair (.sl (.int .i64)) (.pair (.sl (.int .i64)) (.unit))) (.pair (.int .i64) (.pair (.int .i64) (.unit)))))))), (5, .obj (.row (.pair (.int .i64) (.pair (.int .i64) (.pair (.int .i64) (.unit)))))), (47, .obj (.val (.sl (.int .i64)))), (48, .obj (.val (.int .i64))), (49, .obj (.val (.int .i64)))], [(.exit 4, [(5, .obj (.row (.pair (.int .i64) (.pair (.int .i64) (.pair (.int .i64) (.unit))))))])], fun j x => l42_13 k j x.1 x.2.1 x.2.2.1 x.2.2.2.1 x.2.2.2.2.1 x.2.2.2.2.2.1⟩
noncomputable def f42 (k : Nat) (x0 : ByteArray × Int × Int × (List (Int × Int × Int × (List (Int × Int × Int × Int × Unit)) × Unit)) × (List Int) × Bool × Bool × (List (Int × Int × Int × Bool × Unit)) × Int × Int × Int × Unit) (x1 : (List Int) × ((List Int) × (List Int) × Unit) × Int × Int × Unit) : Option (((List (Int × Int × Int × Unit)) × Unit)) :=
  bif x1.2.2.1 == 0 then
    (l42_3 k k x0 x1 [] x1.2.1.1 (x1.2.1.1.length : Int) 0).bind fun o1 =>
    (l42_13 k k o1.1 o1.2.1 o1.2.2.1 o1.2.1.1 (o1.2.1.1.length : Int) 0).bind fun o2 =>
    (f72 k o2.1).bind fun r3 =>
    (f74 k r3.1).bind fun r4 =>
    some (r4.1, ())
  else
  bif x1.2.2.1 == 1 then
    (l42_3 k k x0 x1 [] x1.2.1.2.1 (x1.2.1.2.1.length : Int) 0).bind fun o5 =>
    (l42_13 k k o5.1 o5.2.1 o5.2.2.1 o5.2.1.1 (o5.2.1.1.length : Int) 0).bind fun o6 =>
    (f72 k o6.1).bind fun r7 =>
    (f74 k r7.1).bind fun r8 =>
    some (r8.1, ())
  else
    none
noncomputable def f42_sig (k : Nat) : Sig := ⟨[.val (.pair (.str) (.pair (.int .i64) (.pair (.int .i64) (.pair (.sl (.pair (.int .u8) (.pair (.int .i64) (.pair (.int .i64) (.pair (.sl (.pair (.int .i64) (.pair (.int .i64) (.pair (.int .i64) (.pair (.int .i64) (.unit)))))) (.unit)))))) (.pair (.sl (.int .i64)) (.pair (.bool) (.pair (.bool) (.pair (.sl (.pair (.int .i64) (.pair (.int .i64) (.pair (.int .i64) (.pair (.bool) (.unit)))))) (.pair (.int .i64) (.pair (.int .i64) (.pair (.int .i64) (.unit)))))))))))), .val (.pair (.sl (.int .i64)) (.pair (.pair (.sl (.int .i64)) (.pair (.sl (.int .i64)) (.unit))) (.pair (.int .i64) (.pair (.int .i64) (.unit)))))], [], [[.val (.sl (.pair (.int .i64) (.pair (.int .i64) (.pair (.int .i64) (.unit)))))]], fun x => f42 k x.1 x.2.1⟩
noncomputable def E_f42 (k : Nat) : Env := ⟨Try.prog, G0, scons 74 [f74_sig k] (scons 72 [f72_sig k] (scons 71 [f71_sig k] (scons 70 [f70_sig k] (scons 69 [f69_sig k] (scons 64 [f64_sig k] (snil)))))), tcons 13 (l42_13_sig k) (tcons 17 (l42_17_sig k) (tcons 3 (l42_3_sig k) (tcons 6 (l42_6_sig k) (tnil)))), tnil, unil, k, qnil⟩
theorem l42_3_ok (k : Nat) : LoopOK (E_f42 k) ⟨Try.f42.ntmps, [], G0⟩ (nthC 0 (loopsIn (Try.f42.body.getD .skip))) :=
  loop_ok (ls := l42_3_sig k) (by kernel_rfl) (fun _ => by kernel_rfl) (fun j x => by kernel_rfl)
theorem l42_6_ok (k : Nat) : LoopOK (E_f42 k) ⟨Try.f42.ntmps, [], G0⟩ (nthC 1 (loopsIn (Try.f42.body.getD .skip))) :=
  loop_ok (ls := l42_6_sig k) (by kernel_rfl) (fun _ => by kernel_rfl) (fun j x => by kernel_rfl)
theorem l42_13_ok (k : Nat) : LoopOK (E_f42 k) ⟨Try.f42.ntmps, [], G0⟩ (nthC 2 (loopsIn (Try.f42.body.getD .skip))) :=
  loop_ok (ls := l42_13_sig k) (by kernel_rfl) (fun _ => by kernel_rfl) (fun j x => by kernel_rfl)
theorem l42_17_ok (k : Nat) : LoopOK (E_f42 k) ⟨Try.f42.ntmps, [], G0⟩ (nthC 3 (loopsIn (Try.f42.body.getD .skip))) :=
  loop_ok (ls := l42_17_sig k) (by kernel_rfl) (fun _ => by kernel_rfl) (fun j x => by kernel_rfl)
theorem f42_run (k : Nat) (x : (lTy (lay 0 (f42_sig k).ins)).den) : runF (E_f42 k) Try.f42 (f42_sig k) x = (f42_sig k).F x := by kernel_rfl
theorem f42_ok [Dr] (k : Nat) : FnOK Try.prog G0 42 (f42_sig k) :=
  fn_ok2 (E := E_f42 k) (env_cons (one_sig (f74_ok k)) (env_cons (one_sig (f72_ok k)) (env_cons (one_sig (f71_ok k)) (env_cons (one_sig (f70_ok k)) (env_cons (one_sig (f69_ok k)) (env_cons (one_sig (f64_ok k)) (env_nil))))))) (qenv_nil) mixed Try.func42 Try.call42 (by kernel_rfl) (by kernel_rfl) (m := 4) (by kernel_rfl) ⟨⟨⟨⟨trivial, l42_3_ok k⟩, l42_6_ok k⟩, l42_13_ok k⟩, l42_17_ok k⟩ (sk := []) (by kernel_rfl) trivial (f42_run k)

/-! ### gamehall/movetext.square: function 75 -/
noncomputable def f75 (k : Nat) (x0 : ByteArray × Int × Int × (List (Int × Int × Int × (List (Int × Int × Int × Int × Unit)) × Unit)) × (List Int) × Bool × Bool × (List (Int × Int × Int × Bool × Unit)) × Int × Int × Int × Unit) (x1 : Int) : Option ((ByteArray × Unit)) :=
  bif decide (x0.2.1 = 0) then
    none
  else
  bif decide (x0.2.1 = 0) then
    none
  else
    some (bytesOf [IntKind.u8.wrap (w64 (97 + (x1.tmod x0.2.1))), IntKind.u8.wrap (w64 (49 + (w64 (x1.tdiv x0.2.1))))], ())
noncomputable def f75_sig (k : Nat) : Sig := ⟨[.val (.pair (.str) (.pair (.int .i64) (.pair (.int .i64) (.pair (.sl (.pair (.int .u8) (.pair (.int .i64) (.pair (.int .i64) (.pair (.sl (.pair (.int .i64) (.pair (.int .i64) (.pair (.int .i64) (.pair (.int .i64) (.unit)))))) (.unit)))))) (.pair (.sl (.int .i64)) (.pair (.bool) (.pair (.bool) (.pair (.sl (.pair (.int .i64) (.pair (.int .i64) (.pair (.int .i64) (.pair (.bool) (.unit)))))) (.pair (.int .i64) (.pair (.int .i64) (.pair (.int .i64) (.unit)))))))))))), .val (.int .i64)], [], [[.val (.str)]], fun x => f75 k x.1 x.2.1⟩
noncomputable def E_f75 (k : Nat) : Env := ⟨Try.prog, G0, snil, tnil, tnil, unil, k, qnil⟩
theorem f75_run (k : Nat) (x : (lTy (lay 0 (f75_sig k).ins)).den) : runF (E_f75 k) Try.f75 (f75_sig k) x = (f75_sig k).F x := by kernel_rfl
theorem f75_ok [Dr] (k : Nat) : FnOK Try.prog G0 75 (f75_sig k) :=
  fn_ok2 (E := E_f75 k) (env_nil) (qenv_nil) mixed Try.func75 Try.call75 (by kernel_rfl) (by kernel_rfl) (m := 0) (by kernel_rfl) trivial (sk := []) (by kernel_rfl) trivial (f75_run k)

/-! ### gamehall/movetext.from: function 76 -/
noncomputable def l76_3 (k : Nat) : Nat → (ByteArray × Int × Int × (List (Int × Int × Int × (List (Int × Int × Int × Int × Unit)) × Unit)) × (List Int) × Bool × Bool × (List (Int × Int × Int × Bool × Unit)) × Int × Int × Int × Unit) → ((List Int) × ((List Int) × (List Int) × Unit) × Int × Int × Unit) → (Int × Int × Int × Unit) → Bool → Bool → Bool → (List (Int × Int × Int × Unit)) → Int → Int → Option (((ByteArray × Int × Int × (List (Int × Int × Int × (List (Int × Int × Int × Int × Unit)) × Unit)) × (List Int) × Bool × Bool × (List (Int × Int × Int × Bool × Unit)) × Int × Int × Int × Unit) × (Int × Int × Int × Unit) × Bool × Bool × Bool × Unit))
  | 0, _, _, _, _, _, _, _, _, _ => none
  | j + 1, s4, s5, s7, s9, s10, s11, s15, s16, s17 =>
    bif decide (s17 < s16) then
      bif decide (0 ≤ s17) && decide (s17 < (s15.length : Int)) then
        bif decide ((rd ((0, 0, 0, ()) : Int × Int × Int × Unit) s15 s17).1 < 0) then
          l76_3 k j s4 s5 s7 s9 s10 s11 s15 s16 (w64 (s17 + 1))
        else
        bif (rd ((0, 0, 0, ()) : Int × Int × Int × Unit) s15 s17).1 == s7.1 then
          l76_3 k j s4 s5 s7 s9 s10 s11 s15 s16 (w64 (s17 + 1))
        else
        bif (rd ((0, 0, 0, ()) : Int × Int × Int × Unit) s15 s17).2.1 != s7.2.1 then
          l76_3 k j s4 s5 s7 s9 s10 s11 s15 s16 (w64 (s17 + 1))
        else
        bif decide (0 ≤ (rd ((0, 0, 0, ()) : Int × Int × Int × Unit) s15 s17).1) && decide ((rd ((0, 0, 0, ()) : Int × Int × Int × Unit) s15 s17).1 < (s5.1.length : Int)) then
          (f70 k (rd (0 : Int) s5.1 (rd ((0, 0, 0, ()) : Int × Int × Int × Unit) s15 s17).1)).bind fun r1 =>
          bif decide (0 ≤ s7.1) && decide (s7.1 < (s5.1.length : Int)) then
            (f70 k (rd (0 : Int) s5.1 s7.1)).bind fun r2 =>
            bif r1.1 != r2.1 then
              l76_3 k j s4 s5 s7 s9 s10 s11 s15 s16 (w64 (s17 + 1))
            else
            bif s9 then
              bif s10 then
                l76_3 k j s4 s5 s7 true true true s15 s16 (w64 (s17 + 1))
              else
              bif decide (s4.2.1 = 0) then
                none
              else
              bif decide (s4.2.1 = 0) then
                none
              else
                l76_3 k j s4 s5 s7 true ((w64 ((rd ((0, 0, 0, ()) : Int × Int × Int × Unit) s15 s17).1.tdiv s4.2.1)) == (w64 (s7.1.tdiv s4.2.1))) true s15 s16 (w64 (s17 + 1))
            else
            bif decide (s4.2.1 = 0) then
              none
            else
            bif decide (s4.2.1 = 0) then
              none
            else
            bif s10 then
              l76_3 k j s4 s5 s7 (((rd ((0, 0, 0, ()) : Int × Int × Int × Unit) s15 s17).1.tmod s4.2.1) == (s7.1.tmod s4.2.1)) true true s15 s16 (w64 (s17 + 1))
            else
            bif decide (s4.2.1 = 0) then
              none
            else
            bif decide (s4.2.1 = 0) then
              none
            else
              l76_3 k j s4 s5 s7 (((rd ((0, 0, 0, ()) : Int × Int × Int × Unit) s15 s17).1.tmod s4.2.1) == (s7.1.tmod s4.2.1)) ((w64 ((rd ((0, 0, 0, ()) : Int × Int × Int × Unit) s15 s17).1.tdiv s4.2.1)) == (w64 (s7.1.tdiv s4.2.1))) true s15 s16 (w64 (s17 + 1))
          else
            none
        else
          none
      else
        none
    else
      some (s4, s7, s9, s10, s11, ())
noncomputable def l76_3_sig (k : Nat) : LoopSig := ⟨[(4, .obj (.box (.val (.pair (.str) (.pair (.int .i64) (.pair (.int .i64) (.pair (.sl (.pair (.int .u8) (.pair (.int .i64) (.pair (.int .i64) (.pair (.sl (.pair (.int .i64) (.pair (.int .i64) (.pair (.int .i64) (.pair (.int .i64) (.unit)))))) (.unit)))))) (.pair (.sl (.int .i64)) (.pair (.bool) (.pair (.bool) (.pair (.sl (.pair (.int .i64) (.pair (.int .i64) (.pair (.int .i64) (.pair (.bool) (.unit)))))) (.pair (.int .i64) (.pair (.int .i64) (.pair (.int .i64) (.unit))))))))))))))), (5, .obj (.box (.val (.pair (.sl (.int .i64)) (.pair (.pair (.sl (.int .i64)) (.pair (.sl (.int .i64)) (.unit))) (.pair (.int .i64) (.pair (.int .i64) (.unit)))))))), (7, .obj (.box (.val (.pair (.int .i64) (.pair (.int .i64) (.pair (.int .i64) (.unit))))))), (9, .obj (.val (.bool))), (10, .obj (.val (.bool))), (11, .obj (.val (.bool))), (15, .obj (.val (.sl (.pair (.int .i64) (.pair (.int .i64) (.pair (.int .i64) (.unit))))))), (16, .obj (.val (.int .i64))), (17, .obj (.val (.int .i64)))], [(.exit 0, [(4, .obj (.box (.val (.pair (.str) (.pair (.int .i64) (.pair (.int .i64) (.pair (.sl (.pair (.int .u8) (.pair (.int .i64) (.pair (.int .i64) (.pair (.sl (.pair (.int .i64) (.pair (.int .i64) (.pair (.int .i64) (.pair (.int .i64) (.unit)))))) (.unit)))))) (.pair (.sl (.int .i64)) (.pair (.bool) (.pair (.bool) (.pair (.sl (.pair (.int .i64) (.pair (.int .i64) (.pair (.int .i64) (.pair (.bool) (.unit)))))) (.pair (.int .i64) (.pair (.int .i64) (.pair (.int .i64) (.unit))))))))))))))), (7, .obj (.box (.val (.pair (.int .i64) (.pair (.int .i64) (.pair (.int .i64) (.unit))))))), (9, .obj (.val (.bool))), (10, .obj (.val (.bool))), (11, .obj (.val (.bool)))])], fun j x => l76_3 k j x.1 x.2.1 x.2.2.1 x.2.2.2.1 x.2.2.2.2.1 x.2.2.2.2.2.1 x.2.2.2.2.2.2.1 x.2.2.2.2.2.2.2.1 x.2.2.2.2.2.2.2.2.1⟩
noncomputable def f76 (k : Nat) (x0 : ByteArray × Int × Int × (List (Int × Int × Int × (List (Int × Int × Int × Int × Unit)) × Unit)) × (List Int) × Bool × Bool × (List (Int × Int × Int × Bool × Unit)) × Int × Int × Int × Unit) (x1 : (List Int) × ((List Int) × (List Int) × Unit) × Int × Int × Unit) (x2 : List (Int × Int × Int × Unit)) (x3 : Int × Int × Int × Unit) : Option ((ByteArray × Unit)) :=
  (l76_3 k k x0 x1 x3 false false false x2 (x2.length : Int) 0).bind fun o1 =>
  (f75 k o1.1 o1.2.1.1).bind fun r2 =>
  bif !o1.2.2.2.2.1 then
    some ((⟨#[]⟩ : ByteArray), ())
  else
  bif !o1.2.2.1 then
    bif decide (1 ≤ (r2.1.size : Int)) then
      some (r2.1.extract (0 : Int).toNat (1 : Int).toNat, ())
    else
      none
  else
  bif !o1.2.2.2.1 then
    bif decide (1 ≤ (r2.1.size : Int)) && decide ((r2.1.size : Int) ≤ (r2.1.size : Int)) then
      some (r2.1.extract (1 : Int).toNat (r2.1.size : Int).toNat, ())
    else
      none
  else
    some r2
noncomputable def f76_sig (k : Nat) : Sig := ⟨[.val (.pair (.str) (.pair (.int .i64) (.pair (.int .i64) (.pair (.sl (.pair (.int .u8) (.pair (.int .i64) (.pair (.int .i64) (.pair (.sl (.pair (.int .i64) (.pair (.int .i64) (.pair (.int .i64) (.pair (.int .i64) (.unit)))))) (.unit)))))) (.pair (.sl (.int .i64)) (.pair (.bool) (.pair (.bool) (.pair (.sl (.pair (.int .i64) (.pair (.int .i64) (.pair (.int .i64) (.pair (.bool) (.unit)))))) (.pair (.int .i64) (.pair (.int .i64) (.pair (.int .i64) (.unit)))))))))))), .val (.pair (.sl (.int .i64)) (.pair (.pair (.sl (.int .i64)) (.pair (.sl (.int .i64)) (.unit))) (.pair (.int .i64) (.pair (.int .i64) (.unit))))), .val (.sl (.pair (.int .i64) (.pair (.int .i64) (.pair (.int .i64) (.unit))))), .val (.pair (.int .i64) (.pair (.int .i64) (.pair (.int .i64) (.unit))))], [], [[.val (.str)]], fun x => f76 k x.1 x.2.1 x.2.2.1 x.2.2.2.1⟩
noncomputable def E_f76 (k : Nat) : Env := ⟨Try.prog, G0, scons 75 [f75_sig k] (scons 70 [f70_sig k] (snil)), tcons 3 (l76_3_sig k) (tnil), tnil, unil, k, qnil⟩
theorem l76_3_ok (k : Nat) : LoopOK (E_f76 k) ⟨Try.f76.ntmps, [], G0⟩ (nthC 0 (loopsIn (Try.f76.body.getD .skip))) :=
  loop_ok (ls := l76_3_sig k) (by kernel_rfl) (fun _ => by kernel_rfl) (fun j x => by kernel_rfl)
theorem f76_run (k : Nat) (x : (lTy (lay 0 (f76_sig k).ins)).den) : runF (E_f76 k) Try.f76 (f76_sig k) x = (f76_sig k).F x := by kernel_rfl
theorem f76_ok [Dr] (k : Nat) : FnOK Try.prog G0 76 (f76_sig k) :=
  fn_ok2 (E := E_f76 k) (env_cons (one_sig (f75_ok k)) (env_cons (one_sig (f70_ok k)) (env_nil))) (qenv_nil) mixed Try.func76 Try.call76 (by kernel_rfl) (by kernel_rfl) (m := 1) (by kernel_rfl) ⟨trivial, l76_3_ok k⟩ (sk := []) (by kernel_rfl) trivial (f76_run k)

/-! ### gamehall/movetext.text: function 43 -/
noncomputable def f43 (k : Nat) (x0 : ByteArray × Int × Int × (List (Int × Int × Int × (List (Int × Int × Int × Int × Unit)) × Unit)) × (List Int) × Bool × Bool × (List (Int × Int × Int × Bool × Unit)) × Int × Int × Int × Unit) (x1 : (List Int) × ((List Int) × (List Int) × Unit) × Int × Int × Unit) (x2 : List (Int × Int × Int × Unit)) (x3 : Int × Int × Int × Unit) : Option ((ByteArray × Unit)) :=
  bif decide (x3.1 < 0) then
    bif decide (0 ≤ x3.2.2.1) && decide (x3.2.2.1 < (x0.2.2.2.1.length : Int)) then
      bif fitsS (encS (rd ((0, 0, 0, [], ()) : Int × Int × Int × (List (Int × Int × Int × Int × Unit)) × Unit) x0.2.2.2.1 x3.2.2.1).1) (⟨#[64]⟩ : ByteArray) then
        (f75 k x0 x3.2.1).bind fun r1 =>
        bif fitsS ((encS (rd ((0, 0, 0, [], ()) : Int × Int × Int × (List (Int × Int × Int × Int × Unit)) × Unit) x0.2.2.2.1 x3.2.2.1).1) ++ (⟨#[64]⟩ : ByteArray)) r1.1 then
          some (((encS (rd ((0, 0, 0, [], ()) : Int × Int × Int × (List (Int × Int × Int × Int × Unit)) × Unit) x0.2.2.2.1 x3.2.2.1).1) ++ (⟨#[64]⟩ : ByteArray)) ++ r1.1, ())
        else
          none
      else
        none
    else
      none
  else
  bif decide (0 ≤ x3.1) && decide (x3.1 < (x1.1.length : Int)) then
    (f70 k (rd (0 : Int) x1.1 x3.1)).bind fun r2 =>
    bif decide (0 ≤ r2.1) && decide (r2.1 < (x0.2.2.2.1.length : Int)) then
      (f76 k x0 x1 x2 x3).bind fun r3 =>
      bif fitsS (encS (rd ((0, 0, 0, [], ()) : Int × Int × Int × (List (Int × Int × Int × Int × Unit)) × Unit) x0.2.2.2.1 r2.1).1) r3.1 then
        bif decide (0 ≤ x3.2.1) && decide (x3.2.1 < (x1.1.length : Int)) then
          bif (rd (0 : Int) x1.1 x3.2.1) != 0 then
            bif fitsS ((encS (rd ((0, 0, 0, [], ()) : Int × Int × Int × (List (Int × Int × Int × Int × Unit)) × Unit) x0.2.2.2.1 r2.1).1) ++ r3.1) (⟨#[120]⟩ : ByteArray) then
              (f75 k x0 x3.2.1).bind fun r4 =>
              bif fitsS (((encS (rd ((0, 0, 0, [], ()) : Int × Int × Int × (List (Int × Int × Int × Int × Unit)) × Unit) x0.2.2.2.1 r2.1).1) ++ r3.1) ++ (⟨#[120]⟩ : ByteArray)) r4.1 then
                bif x3.2.2.1 != r2.1 then
                  bif decide (0 ≤ x3.2.2.1) && decide (x3.2.2.1 < (x0.2.2.2.1.length : Int)) then
                    bif fitsS (⟨#[61]⟩ : ByteArray) (encS (rd ((0, 0, 0, [], ()) : Int × Int × Int × (List (Int × Int × Int × Int × Unit)) × Unit) x0.2.2.2.1 x3.2.2.1).1) then
                      bif fitsS ((((encS (rd ((0, 0, 0, [], ()) : Int × Int × Int × (List (Int × Int × Int × Int × Unit)) × Unit) x0.2.2.2.1 r2.1).1) ++ r3.1) ++ (⟨#[120]⟩ : ByteArray)) ++ r4.1) ((⟨#[61]⟩ : ByteArray) ++ (encS (rd ((0, 0, 0, [], ()) : Int × Int × Int × (List (Int × Int × Int × Int × Unit)) × Unit) x0.2.2.2.1 x3.2.2.1).1)) then
                        some (((((encS (rd ((0, 0, 0, [], ()) : Int × Int × Int × (List (Int × Int × Int × Int × Unit)) × Unit) x0.2.2.2.1 r2.1).1) ++ r3.1) ++ (⟨#[120]⟩ : ByteArray)) ++ r4.1) ++ ((⟨#[61]⟩ : ByteArray) ++ (encS (rd ((0, 0, 0, [], ()) : Int × Int × Int × (List (Int × Int × Int × Int × Unit)) × Unit) x0.2.2.2.1 x3.2.2.1).1)), ())
                      else
                        none
                    else
                      none
                  else
                    none
                else
                  some ((((encS (rd ((0, 0, 0, [], ()) : Int × Int × Int × (List (Int × Int × Int × Int × Unit)) × Unit) x0.2.2.2.1 r2.1).1) ++ r3.1) ++ (⟨#[120]⟩ : ByteArray)) ++ r4.1, ())
              else
                none
            else
              none
          else
            (f75 k x0 x3.2.1).bind fun r5 =>
            bif fitsS ((encS (rd ((0, 0, 0, [], ()) : Int × Int × Int × (List (Int × Int × Int × Int × Unit)) × Unit) x0.2.2.2.1 r2.1).1) ++ r3.1) r5.1 then
              bif x3.2.2.1 != r2.1 then
                bif decide (0 ≤ x3.2.2.1) && decide (x3.2.2.1 < (x0.2.2.2.1.length : Int)) then
                  bif fitsS (⟨#[61]⟩ : ByteArray) (encS (rd ((0, 0, 0, [], ()) : Int × Int × Int × (List (Int × Int × Int × Int × Unit)) × Unit) x0.2.2.2.1 x3.2.2.1).1) then
                    bif fitsS (((encS (rd ((0, 0, 0, [], ()) : Int × Int × Int × (List (Int × Int × Int × Int × Unit)) × Unit) x0.2.2.2.1 r2.1).1) ++ r3.1) ++ r5.1) ((⟨#[61]⟩ : ByteArray) ++ (encS (rd ((0, 0, 0, [], ()) : Int × Int × Int × (List (Int × Int × Int × Int × Unit)) × Unit) x0.2.2.2.1 x3.2.2.1).1)) then
                      some ((((encS (rd ((0, 0, 0, [], ()) : Int × Int × Int × (List (Int × Int × Int × Int × Unit)) × Unit) x0.2.2.2.1 r2.1).1) ++ r3.1) ++ r5.1) ++ ((⟨#[61]⟩ : ByteArray) ++ (encS (rd ((0, 0, 0, [], ()) : Int × Int × Int × (List (Int × Int × Int × Int × Unit)) × Unit) x0.2.2.2.1 x3.2.2.1).1)), ())
                    else
                      none
                  else
                    none
                else
                  none
              else
                some (((encS (rd ((0, 0, 0, [], ()) : Int × Int × Int × (List (Int × Int × Int × Int × Unit)) × Unit) x0.2.2.2.1 r2.1).1) ++ r3.1) ++ r5.1, ())
            else
              none
        else
          none
      else
        none
    else
      none
  else
    none
noncomputable def f43_sig (k : Nat) : Sig := ⟨[.val (.pair (.str) (.pair (.int .i64) (.pair (.int .i64) (.pair (.sl (.pair (.int .u8) (.pair (.int .i64) (.pair (.int .i64) (.pair (.sl (.pair (.int .i64) (.pair (.int .i64) (.pair (.int .i64) (.pair (.int .i64) (.unit)))))) (.unit)))))) (.pair (.sl (.int .i64)) (.pair (.bool) (.pair (.bool) (.pair (.sl (.pair (.int .i64) (.pair (.int .i64) (.pair (.int .i64) (.pair (.bool) (.unit)))))) (.pair (.int .i64) (.pair (.int .i64) (.pair (.int .i64) (.unit)))))))))))), .val (.pair (.sl (.int .i64)) (.pair (.pair (.sl (.int .i64)) (.pair (.sl (.int .i64)) (.unit))) (.pair (.int .i64) (.pair (.int .i64) (.unit))))), .val (.sl (.pair (.int .i64) (.pair (.int .i64) (.pair (.int .i64) (.unit))))), .val (.pair (.int .i64) (.pair (.int .i64) (.pair (.int .i64) (.unit))))], [], [[.val (.str)]], fun x => f43 k x.1 x.2.1 x.2.2.1 x.2.2.2.1⟩
noncomputable def E_f43 (k : Nat) : Env := ⟨Try.prog, G0, scons 76 [f76_sig k] (scons 75 [f75_sig k] (scons 70 [f70_sig k] (snil))), tnil, tnil, unil, k, qnil⟩
theorem f43_run (k : Nat) (x : (lTy (lay 0 (f43_sig k).ins)).den) : runF (E_f43 k) Try.f43 (f43_sig k) x = (f43_sig k).F x := by kernel_rfl
theorem f43_ok [Dr] (k : Nat) : FnOK Try.prog G0 43 (f43_sig k) :=
  fn_ok2 (E := E_f43 k) (env_cons (one_sig (f76_ok k)) (env_cons (one_sig (f75_ok k)) (env_cons (one_sig (f70_ok k)) (env_nil)))) (qenv_nil) mixed Try.func43 Try.call43 (by kernel_rfl) (by kernel_rfl) (m := 0) (by kernel_rfl) trivial (sk := []) (by kernel_rfl) trivial (f43_run k)

/-! ### gamehall/movetext.Text: function 16 -/
noncomputable def l16_6 (k : Nat) : Nat → (ByteArray × Int × Int × (List (Int × Int × Int × (List (Int × Int × Int × Int × Unit)) × Unit)) × (List Int) × Bool × Bool × (List (Int × Int × Int × Bool × Unit)) × Int × Int × Int × Unit) → ((List Int) × ((List Int) × (List Int) × Unit) × Int × Int × Unit) → (Int × Int × Int × Unit) → (List (Int × Int × Int × Unit)) → (List (Int × Int × Int × Unit)) → Int → Int → Option (Unit ⊕ (ByteArray × Int × Unit))
  | 0, _, _, _, _, _, _, _ => none
  | j + 1, s3, s4, s5, s9, s21, s22, s23 =>
    bif decide (s23 < s22) then
      bif decide (0 ≤ s23) && decide (s23 < (s21.length : Int)) then
        bif ((rd ((0, 0, 0, ()) : Int × Int × Int × Unit) s21 s23).1 == s5.1) && (((rd ((0, 0, 0, ()) : Int × Int × Int × Unit) s21 s23).2.1 == s5.2.1) && (((rd ((0, 0, 0, ()) : Int × Int × Int × Unit) s21 s23).2.2.1 == s5.2.2.1) && true)) then
          (f43 k s3 s4 s9 s5).bind fun r1 =>
          some (.inr (r1.1, 0, ()))
        else
          l16_6 k j s3 s4 s5 s9 s21 s22 (w64 (s23 + 1))
      else
        none
    else
      some (.inl ())
noncomputable def l16_6_sig (k : Nat) : LoopSig := ⟨[(3, .obj (.box (.val (.pair (.str) (.pair (.int .i64) (.pair (.int .i64) (.pair (.sl (.pair (.int .u8) (.pair (.int .i64) (.pair (.int .i64) (.pair (.sl (.pair (.int .i64) (.pair (.int .i64) (.pair (.int .i64) (.pair (.int .i64) (.unit)))))) (.unit)))))) (.pair (.sl (.int .i64)) (.pair (.bool) (.pair (.bool) (.pair (.sl (.pair (.int .i64) (.pair (.int .i64) (.pair (.int .i64) (.pair (.bool) (.unit)))))) (.pair (.int .i64) (.pair (.int .i64) (.pair (.int .i64) (.unit))))))))))))))), (4, .obj (.box (.val (.pair (.sl (.int .i64)) (.pair (.pair (.sl (.int .i64)) (.pair (.sl (.int .i64)) (.unit))) (.pair (.int .i64) (.pair (.int .i64) (.unit)))))))), (5, .obj (.box (.val (.pair (.int .i64) (.pair (.int .i64) (.pair (.int .i64) (.unit))))))), (9, .obj (.val (.sl (.pair (.int .i64) (.pair (.int .i64) (.pair (.int .i64) (.unit))))))), (21, .obj (.val (.sl (.pair (.int .i64) (.pair (.int .i64) (.pair (.int .i64) (.unit))))))), (22, .obj (.val (.int .i64))), (23, .obj (.val (.int .i64)))], [(.exit 0, []), (.ret, [(6, .obj (.val (.str))), (7, .obj (.val (.int .i64)))])], fun j x => l16_6 k j x.1 x.2.1 x.2.2.1 x.2.2.2.1 x.2.2.2.2.1 x.2.2.2.2.2.1 x.2.2.2.2.2.2.1⟩
noncomputable def f16 (k : Nat) (x0 : ByteArray × Int × Int × (List (Int × Int × Int × (List (Int × Int × Int × Int × Unit)) × Unit)) × (List Int) × Bool × Bool × (List (Int × Int × Int × Bool × Unit)) × Int × Int × Int × Unit) (x1 : (List Int) × ((List Int) × (List Int) × Unit) × Int × Int × Unit) (x2 : Int × Int × Int × Unit) : Option ((ByteArray × Int × Unit)) :=
  (f13 k x0 x1).bind fun r1 =>
  bif r1.1 != 0 then
    some ((⟨#[]⟩ : ByteArray), r1)
  else
    (f42 k x0 x1).bind fun r2 =>
    (l16_6 k k x0 x1 x2 r2.1 r2.1 (r2.1.length : Int) 0).bind fun w17 =>
    Sum.elim
      (fun y3 =>
        some ((⟨#[]⟩ : ByteArray), 13, ()))
      (fun y4 =>
        some y4)
      w17
noncomputable def f16_sig (k : Nat) : Sig := ⟨[.val (.pair (.str) (.pair (.int .i64) (.pair (.int .i64) (.pair (.sl (.pair (.int .u8) (.pair (.int .i64) (.pair (.int .i64) (.pair (.sl (.pair (.int .i64) (.pair (.int .i64) (.pair (.int .i64) (.pair (.int .i64) (.unit)))))) (.unit)))))) (.pair (.sl (.int .i64)) (.pair (.bool) (.pair (.bool) (.pair (.sl (.pair (.int .i64) (.pair (.int .i64) (.pair (.int .i64) (.pair (.bool) (.unit)))))) (.pair (.int .i64) (.pair (.int .i64) (.pair (.int .i64) (.unit)))))))))))), .val (.pair (.sl (.int .i64)) (.pair (.pair (.sl (.int .i64)) (.pair (.sl (.int .i64)) (.unit))) (.pair (.int .i64) (.pair (.int .i64) (.unit))))), .val (.pair (.int .i64) (.pair (.int .i64) (.pair (.int .i64) (.unit))))], [], [[.val (.str), .val (.int .i64)]], fun x => f16 k x.1 x.2.1 x.2.2.1⟩
noncomputable def E_f16 (k : Nat) : Env := ⟨Try.prog, G0, scons 43 [f43_sig k] (scons 42 [f42_sig k] (scons 13 [f13_sig k] (snil))), tcons 6 (l16_6_sig k) (tnil), tnil, unil, k, qnil⟩
theorem l16_6_ok (k : Nat) : LoopOK (E_f16 k) ⟨Try.f16.ntmps, [], G0⟩ (nthC 0 (loopsIn (Try.f16.body.getD .skip))) :=
  loop_ok (ls := l16_6_sig k) (by kernel_rfl) (fun _ => by kernel_rfl) (fun j x => by kernel_rfl)
theorem f16_run (k : Nat) (x : (lTy (lay 0 (f16_sig k).ins)).den) : runF (E_f16 k) Try.f16 (f16_sig k) x = (f16_sig k).F x := by kernel_rfl
theorem f16_ok [Dr] (k : Nat) : FnOK Try.prog G0 16 (f16_sig k) :=
  fn_ok2 (E := E_f16 k) (env_cons (one_sig (f43_ok k)) (env_cons (one_sig (f42_ok k)) (env_cons (one_sig (f13_ok k)) (env_nil)))) (qenv_nil) mixed Try.func16 Try.call16 (by kernel_rfl) (by kernel_rfl) (m := 1) (by kernel_rfl) ⟨trivial, l16_6_ok k⟩ (sk := []) (by kernel_rfl) trivial (f16_run k)

/-! ### gamehall/gamehallkeep3.writes: function 11 -/
noncomputable def f11 (k : Nat) : Option ((Bool × Unit)) :=
  (f39 k).bind fun r1 =>
  (f38 k r1.1).bind fun r2 =>
  (f39 k).bind fun r3 =>
  (f40 k 4).bind fun r4 =>
  (f16 k r3.1 r2.1 r4.1).bind fun r5 =>
  bif r2.2.1 == 0 then
    bif r5.2.1 == 0 then
      some (r5.1.toList == (⟨#[83, 64, 98, 50]⟩ : ByteArray).toList, ())
    else
      some (false, ())
  else
    some (false, ())
noncomputable def f11_sig (k : Nat) : Sig := ⟨[], [], [[.val (.bool)]], fun x => f11 k⟩
noncomputable def E_f11 (k : Nat) : Env := ⟨Try.prog, G0, scons 40 [f40_sig k] (scons 39 [f39_sig k] (scons 38 [f38_sig k] (scons 16 [f16_sig k] (snil)))), tnil, tnil, unil, k, qnil⟩
theorem f11_run (k : Nat) (x : (lTy (lay 0 (f11_sig k).ins)).den) : runF (E_f11 k) Try.f11 (f11_sig k) x = (f11_sig k).F x := by kernel_rfl
theorem f11_ok [Dr] (k : Nat) : FnOK Try.prog G0 11 (f11_sig k) :=
  fn_ok2 (E := E_f11 k) (env_cons (one_sig (f40_ok k)) (env_cons (one_sig (f39_ok k)) (env_cons (one_sig (f38_ok k)) (env_cons (one_sig (f16_ok k)) (env_nil))))) (qenv_nil) mixed Try.func11 Try.call11 (by kernel_rfl) (by kernel_rfl) (m := 0) (by kernel_rfl) trivial (sk := []) (by kernel_rfl) trivial (f11_run k)

/-! ### gamehall/gamehallkeep3.cut: function 23 -/
noncomputable def f23 (k : Nat) (x0 : List (Int × Int × Int × Unit)) : Option (((List (Int × Int × Int × Unit)) × Unit)) :=
  bif decide (0 ≤ (if 40 < (x0.length : Int) then 40 else (x0.length : Int))) && decide ((if 40 < (x0.length : Int) then 40 else (x0.length : Int)) ≤ (x0.length : Int)) then
    some (sliceOf x0 0 (if 40 < (x0.length : Int) then 40 else (x0.length : Int)), ())
  else
    none
noncomputable def f23_sig (k : Nat) : Sig := ⟨[.val (.sl (.pair (.int .i64) (.pair (.int .i64) (.pair (.int .i64) (.unit)))))], [], [[.val (.sl (.pair (.int .i64) (.pair (.int .i64) (.pair (.int .i64) (.unit)))))]], fun x => f23 k x.1⟩
noncomputable def E_f23 (k : Nat) : Env := ⟨Try.prog, G0, snil, tnil, tnil, unil, k, qnil⟩
theorem f23_run (k : Nat) (x : (lTy (lay 0 (f23_sig k).ins)).den) : runF (E_f23 k) Try.f23 (f23_sig k) x = (f23_sig k).F x := by kernel_rfl
theorem f23_ok [Dr] (k : Nat) : FnOK Try.prog G0 23 (f23_sig k) :=
  fn_ok2 (E := E_f23 k) (env_nil) (qenv_nil) mixed Try.func23 Try.call23 (by kernel_rfl) (by kernel_rfl) (m := 0) (by kernel_rfl) trivial (sk := []) (by kernel_rfl) trivial (f23_run k)

/-! ### gamehall/gamehallkeep3.great: function 12 -/
noncomputable def f12 (k : Nat) (x0 : ByteArray × Int × Int × (List (Int × Int × Int × (List (Int × Int × Int × Int × Unit)) × Unit)) × (List Int) × Bool × Bool × (List (Int × Int × Int × Bool × Unit)) × Int × Int × Int × Unit) : Option ((Bool × Unit)) :=
  some (decide ((x0.2.2.2.2.1.length : Int) > 20), ())
noncomputable def f12_sig (k : Nat) : Sig := ⟨[.val (.pair (.str) (.pair (.int .i64) (.pair (.int .i64) (.pair (.sl (.pair (.int .u8) (.pair (.int .i64) (.pair (.int .i64) (.pair (.sl (.pair (.int .i64) (.pair (.int .i64) (.pair (.int .i64) (.pair (.int .i64) (.unit)))))) (.unit)))))) (.pair (.sl (.int .i64)) (.pair (.bool) (.pair (.bool) (.pair (.sl (.pair (.int .i64) (.pair (.int .i64) (.pair (.int .i64) (.pair (.bool) (.unit)))))) (.pair (.int .i64) (.pair (.int .i64) (.pair (.int .i64) (.unit))))))))))))], [], [[.val (.bool)]], fun x => f12 k x.1⟩
noncomputable def E_f12 (k : Nat) : Env := ⟨Try.prog, G0, snil, tnil, tnil, unil, k, qnil⟩
theorem f12_run (k : Nat) (x : (lTy (lay 0 (f12_sig k).ins)).den) : runF (E_f12 k) Try.f12 (f12_sig k) x = (f12_sig k).F x := by kernel_rfl
theorem f12_ok [Dr] (k : Nat) : FnOK Try.prog G0 12 (f12_sig k) :=
  fn_ok2 (E := E_f12 k) (env_nil) (qenv_nil) mixed Try.func12 Try.call12 (by kernel_rfl) (by kernel_rfl) (m := 0) (by kernel_rfl) trivial (sk := []) (by kernel_rfl) trivial (f12_run k)

/-! ### gamehall/rules.Copy: function 63 -/
noncomputable def l63_4 (k : Nat) : Nat → (ByteArray × Int × Int × (List (Int × Int × Int × (List (Int × Int × Int × Int × Unit)) × Unit)) × (List Int) × Bool × Bool × (List (Int × Int × Int × Bool × Unit)) × Int × Int × Int × Unit) → (ByteArray × Int × Int × (List (Int × Int × Int × (List (Int × Int × Int × Int × Unit)) × Unit)) × (List Int) × Bool × Bool × (List (Int × Int × Int × Bool × Unit)) × Int × Int × Int × Unit) → (ByteArray × Int × Int × (List (Int × Int × Int × (List (Int × Int × Int × Int × Unit)) × Unit)) × (List Int) × Bool × Bool × (List (Int × Int × Int × Bool × Unit)) × Int × Int × Int × Unit) → (List (Int × Int × Int × (List (Int × Int × Int × Int × Unit)) × Unit)) → Int → Int → Option (((ByteArray × Int × Int × (List (Int × Int × Int × (List (Int × Int × Int × Int × Unit)) × Unit)) × (List Int) × Bool × Bool × (List (Int × Int × Int × Bool × Unit)) × Int × Int × Int × Unit) × (ByteArray × Int × Int × (List (Int × Int × Int × (List (Int × Int × Int × Int × Unit)) × Unit)) × (List Int) × Bool × Bool × (List (Int × Int × Int × Bool × Unit)) × Int × Int × Int × Unit) × (ByteArray × Int × Int × (List (Int × Int × Int × (List (Int × Int × Int × Int × Unit)) × Unit)) × (List Int) × Bool × Bool × (List (Int × Int × Int × Bool × Unit)) × Int × Int × Int × Unit) × Unit))
  | 0, _, _, _, _, _, _ => none
  | j + 1, s1, s2, s3, s13, s14, s15 =>
    bif decide (s15 < s14) then
      bif decide (0 ≤ s15) && decide (s15 < (s13.length : Int)) then
        bif decide ((rd ((0, 0, 0, [], ()) : Int × Int × Int × (List (Int × Int × Int × Int × Unit)) × Unit) s13 s15).2.2.2.1.length * 32 ≤ roomN) then
          bif decide (0 ≤ s15) && decide (s15 < (s3.2.2.2.1.length : Int)) then
            l63_4 k j s1 s2 (s3.1, s3.2.1, s3.2.2.1, s3.2.2.2.1.set s15.toNat (rd ((0, 0, 0, [], ()) : Int × Int × Int × (List (Int × Int × Int × Int × Unit)) × Unit) s13 s15), s3.2.2.2.2) s13 s14 (w64 (s15 + 1))
          else
            none
        else
          none
      else
        none
    else
      some (s1, s2, s3, ())
noncomputable def l63_4_sig (k : Nat) : LoopSig := ⟨[(1, .obj (.box (.val (.pair (.str) (.pair (.int .i64) (.pair (.int .i64) (.pair (.sl (.pair (.int .u8) (.pair (.int .i64) (.pair (.int .i64) (.pair (.sl (.pair (.int .i64) (.pair (.int .i64) (.pair (.int .i64) (.pair (.int .i64) (.unit)))))) (.unit)))))) (.pair (.sl (.int .i64)) (.pair (.bool) (.pair (.bool) (.pair (.sl (.pair (.int .i64) (.pair (.int .i64) (.pair (.int .i64) (.pair (.bool) (.unit)))))) (.pair (.int .i64) (.pair (.int .i64) (.pair (.int .i64) (.unit))))))))))))))), (2, .obj (.box (.cons (.val (.str)) (.cons (.val (.int .i64)) (.cons (.val (.int .i64)) (.cons (.row (.pair (.int .u8) (.pair (.int .i64) (.pair (.int .i64) (.pair (.sl (.pair (.int .i64) (.pair (.int .i64) (.pair (.int .i64) (.pair (.int .i64) (.unit)))))) (.unit)))))) (.cons (.row (.int .i64)) (.cons (.val (.bool)) (.cons (.val (.bool)) (.cons (.row (.pair (.int .i64) (.pair (.int .i64) (.pair (.int .i64) (.pair (.bool) (.unit)))))) (.cons (.val (.int .i64)) (.cons (.val (.int .i64)) (.cons (.val (.int .i64)) (.nil)))))))))))))), (3, .obj (.box (.cons (.val (.str)) (.cons (.val (.int .i64)) (.cons (.val (.int .i64)) (.cons (.row (.pair (.int .u8) (.pair (.int .i64) (.pair (.int .i64) (.pair (.sl (.pair (.int .i64) (.pair (.int .i64) (.pair (.int .i64) (.pair (.int .i64) (.unit)))))) (.unit)))))) (.cons (.val (.sl (.int .i64))) (.cons (.val (.bool)) (.cons (.val (.bool)) (.cons (.val (.sl (.pair (.int .i64) (.pair (.int .i64) (.pair (.int .i64) (.pair (.bool) (.unit))))))) (.cons (.val (.int .i64)) (.cons (.val (.int .i64)) (.cons (.val (.int .i64)) (.nil)))))))))))))), (13, .obj (.val (.sl (.pair (.int .u8) (.pair (.int .i64) (.pair (.int .i64) (.pair (.sl (.pair (.int .i64) (.pair (.int .i64) (.pair (.int .i64) (.pair (.int .i64) (.unit)))))) (.unit)))))))), (14, .obj (.val (.int .i64))), (15, .obj (.val (.int .i64)))], [(.exit 0, [(1, .obj (.box (.val (.pair (.str) (.pair (.int .i64) (.pair (.int .i64) (.pair (.sl (.pair (.int .u8) (.pair (.int .i64) (.pair (.int .i64) (.pair (.sl (.pair (.int .i64) (.pair (.int .i64) (.pair (.int .i64) (.pair (.int .i64) (.unit)))))) (.unit)))))) (.pair (.sl (.int .i64)) (.pair (.bool) (.pair (.bool) (.pair (.sl (.pair (.int .i64) (.pair (.int .i64) (.pair (.int .i64) (.pair (.bool) (.unit)))))) (.pair (.int .i64) (.pair (.int .i64) (.pair (.int .i64) (.unit))))))))))))))), (2, .obj (.box (.cons (.val (.str)) (.cons (.val (.int .i64)) (.cons (.val (.int .i64)) (.cons (.row (.pair (.int .u8) (.pair (.int .i64) (.pair (.int .i64) (.pair (.sl (.pair (.int .i64) (.pair (.int .i64) (.pair (.int .i64) (.pair (.int .i64) (.unit)))))) (.unit)))))) (.cons (.row (.int .i64)) (.cons (.val (.bool)) (.cons (.val (.bool)) (.cons (.row (.pair (.int .i64) (.pair (.int .i64) (.pair (.int .i64) (.pair (.bool) (.unit)))))) (.cons (.val (.int .i64)) (.cons (.val (.int .i64)) (.cons (.val (.int .i64)) (.nil)))))))))))))), (3, .obj (.box (.cons (.val (.str)) (.cons (.val (.int .i64)) (.cons (.val (.int .i64)) (.cons (.row (.pair (.int .u8) (.pair (.int .i64) (.pair (.int .i64) (.pair (.sl (.pair (.int .i64) (.pair (.int .i64) (.pair (.int .i64) (.pair (.int .i64) (.unit)))))) (.unit)))))) (.cons (.val (.sl (.int .i64))) (.cons (.val (.bool)) (.cons (.val (.bool)) (.cons (.val (.sl (.pair (.int .i64) (.pair (.int .i64) (.pair (.int .i64) (.pair (.bool) (.unit))))))) (.cons (.val (.int .i64)) (.cons (.val (.int .i64)) (.cons (.val (.int .i64)) (.nil))))))))))))))])], fun j x => l63_4 k j x.1 x.2.1 x.2.2.1 x.2.2.2.1 x.2.2.2.2.1 x.2.2.2.2.2.1⟩
noncomputable def f63 (k : Nat) (x0 : ByteArray × Int × Int × (List (Int × Int × Int × (List (Int × Int × Int × Int × Unit)) × Unit)) × (List Int) × Bool × Bool × (List (Int × Int × Int × Bool × Unit)) × Int × Int × Int × Unit) : Option (((ByteArray × Int × Int × (List (Int × Int × Int × (List (Int × Int × Int × Int × Unit)) × Unit)) × (List Int) × Bool × Bool × (List (Int × Int × Int × Bool × Unit)) × Int × Int × Int × Unit) × Unit)) :=
  bif decide (0 ≤ (x0.2.2.2.1.length : Int)) && (decide ((x0.2.2.2.1.length : Int) ≤ (x0.2.2.2.1.length : Int)) && decide (((48 : Nat) : Int) * (x0.2.2.2.1.length : Int) ≤ 281474976710656)) && decide ((x0.2.2.2.1.length : Int) ≤ 9223372036854775807) then
    (l63_4 k k x0 ((⟨#[]⟩ : ByteArray), 0, 0, [], [], false, false, [], 0, 0, 0, ()) (x0.1, x0.2.1, x0.2.2.1, List.replicate (x0.2.2.2.1.length : Int).toNat ((0, 0, 0, [], ()) : Int × Int × Int × (List (Int × Int × Int × Int × Unit)) × Unit), x0.2.2.2.2) x0.2.2.2.1 (x0.2.2.2.1.length : Int) 0).bind fun o1 =>
    bif decide (o1.1.2.2.2.2.1.length * 8 ≤ roomN) then
      bif decide (o1.1.2.2.2.2.2.2.2.1.length * 32 ≤ roomN) then
        some ((o1.2.2.1.1, o1.2.2.1.2.1, o1.2.2.1.2.2.1, o1.2.2.1.2.2.2.1, o1.1.2.2.2.2.1, o1.2.2.1.2.2.2.2.2.1, o1.2.2.1.2.2.2.2.2.2.1, o1.1.2.2.2.2.2.2.2.1, o1.2.2.1.2.2.2.2.2.2.2.2), ())
      else
        none
    else
      none
  else
    none
noncomputable def f63_sig (k : Nat) : Sig := ⟨[.val (.pair (.str) (.pair (.int .i64) (.pair (.int .i64) (.pair (.sl (.pair (.int .u8) (.pair (.int .i64) (.pair (.int .i64) (.pair (.sl (.pair (.int .i64) (.pair (.int .i64) (.pair (.int .i64) (.pair (.int .i64) (.unit)))))) (.unit)))))) (.pair (.sl (.int .i64)) (.pair (.bool) (.pair (.bool) (.pair (.sl (.pair (.int .i64) (.pair (.int .i64) (.pair (.int .i64) (.pair (.bool) (.unit)))))) (.pair (.int .i64) (.pair (.int .i64) (.pair (.int .i64) (.unit))))))))))))], [], [[.val (.pair (.str) (.pair (.int .i64) (.pair (.int .i64) (.pair (.sl (.pair (.int .u8) (.pair (.int .i64) (.pair (.int .i64) (.pair (.sl (.pair (.int .i64) (.pair (.int .i64) (.pair (.int .i64) (.pair (.int .i64) (.unit)))))) (.unit)))))) (.pair (.sl (.int .i64)) (.pair (.bool) (.pair (.bool) (.pair (.sl (.pair (.int .i64) (.pair (.int .i64) (.pair (.int .i64) (.pair (.bool) (.unit)))))) (.pair (.int .i64) (.pair (.int .i64) (.pair (.int .i64) (.unit))))))))))))]], fun x => f63 k x.1⟩
noncomputable def E_f63 (k : Nat) : Env := ⟨Try.prog, G0, snil, tcons 4 (l63_4_sig k) (tnil), tnil, unil, k, qnil⟩
theorem l63_4_ok (k : Nat) : LoopOK (E_f63 k) ⟨Try.f63.ntmps, [], G0⟩ (nthC 0 (loopsIn (Try.f63.body.getD .skip))) :=
  loop_ok (ls := l63_4_sig k) (by kernel_rfl) (fun _ => by kernel_rfl) (fun j x => by kernel_rfl)
theorem f63_run (k : Nat) (x : (lTy (lay 0 (f63_sig k).ins)).den) : runF (E_f63 k) Try.f63 (f63_sig k) x = (f63_sig k).F x := by kernel_rfl
theorem f63_ok [Dr] (k : Nat) : FnOK Try.prog G0 63 (f63_sig k) :=
  fn_ok2 (E := E_f63 k) (env_nil) (qenv_nil) mixed Try.func63 Try.call63 (by kernel_rfl) (by kernel_rfl) (m := 1) (by kernel_rfl) ⟨trivial, l63_4_ok k⟩ (sk := []) (by kernel_rfl) trivial (f63_run k)

/-! ### gamehall/plain.New: function 54 -/
noncomputable def f54 (k : Nat) (x0 : ByteArray × Int × Int × (List (Int × Int × Int × (List (Int × Int × Int × Int × Unit)) × Unit)) × (List Int) × Bool × Bool × (List (Int × Int × Int × Bool × Unit)) × Int × Int × Int × Unit) : Option ((((ByteArray × Int × Int × (List (Int × Int × Int × (List (Int × Int × Int × Int × Unit)) × Unit)) × (List Int) × Bool × Bool × (List (Int × Int × Int × Bool × Unit)) × Int × Int × Int × Unit) × (List ((List Int) × ((List Int) × (List Int) × Unit) × Int × Int × Unit)) × (List (Int × Int × Int × Unit)) × Unit) × Int × Unit) ⊕ (Unit × Int × Unit)) :=
  (f38 k x0).bind fun r1 =>
  bif r1.2.1 != 0 then
    some (.inr ((), r1.2))
  else
    (f63 k x0).bind fun r2 =>
    some (.inl ((r2.1, [r1.1], [], ()), 0, ()))
noncomputable def f54_sig (k : Nat) : Sig := ⟨[.val (.pair (.str) (.pair (.int .i64) (.pair (.int .i64) (.pair (.sl (.pair (.int .u8) (.pair (.int .i64) (.pair (.int .i64) (.pair (.sl (.pair (.int .i64) (.pair (.int .i64) (.pair (.int .i64) (.pair (.int .i64) (.unit)))))) (.unit)))))) (.pair (.sl (.int .i64)) (.pair (.bool) (.pair (.bool) (.pair (.sl (.pair (.int .i64) (.pair (.int .i64) (.pair (.int .i64) (.pair (.bool) (.unit)))))) (.pair (.int .i64) (.pair (.int .i64) (.pair (.int .i64) (.unit))))))))))))], [], [[.box (.cons (.val (.pair (.str) (.pair (.int .i64) (.pair (.int .i64) (.pair (.sl (.pair (.int .u8) (.pair (.int .i64) (.pair (.int .i64) (.pair (.sl (.pair (.int .i64) (.pair (.int .i64) (.pair (.int .i64) (.pair (.int .i64) (.unit)))))) (.unit)))))) (.pair (.sl (.int .i64)) (.pair (.bool) (.pair (.bool) (.pair (.sl (.pair (.int .i64) (.pair (.int .i64) (.pair (.int .i64) (.pair (.bool) (.unit)))))) (.pair (.int .i64) (.pair (.int .i64) (.pair (.int .i64) (.unit))))))))))))) (.cons (.row (.pair (.sl (.int .i64)) (.pair (.pair (.sl (.int .i64)) (.pair (.sl (.int .i64)) (.unit))) (.pair (.int .i64) (.pair (.int .i64) (.unit)))))) (.cons (.row (.pair (.int .i64) (.pair (.int .i64) (.pair (.int .i64) (.unit))))) (.nil)))), .val (.int .i64)], [.nilp, .val (.int .i64)]], fun x => f54 k x.1⟩
noncomputable def E_f54 (k : Nat) : Env := ⟨Try.prog, G0, scons 63 [f63_sig k] (scons 38 [f38_sig k] (snil)), tnil, tnil, unil, k, qnil⟩
theorem f54_run (k : Nat) (x : (lTy (lay 0 (f54_sig k).ins)).den) : runF (E_f54 k) Try.f54 (f54_sig k) x = (f54_sig k).F x := by kernel_rfl
theorem f54_ok [Dr] (k : Nat) : FnOK Try.prog G0 54 (f54_sig k) :=
  fn_ok2 (E := E_f54 k) (env_cons (one_sig (f63_ok k)) (env_cons (one_sig (f38_ok k)) (env_nil))) (qenv_nil) mixed Try.func54 Try.call54 (by kernel_rfl) (by kernel_rfl) (m := 0) (by kernel_rfl) trivial (sk := []) (by kernel_rfl) trivial (f54_run k)

/-! ### (*gamehall/plain.Game).now: function 84 -/
noncomputable def f84 (k : Nat) (x0 : (ByteArray × Int × Int × (List (Int × Int × Int × (List (Int × Int × Int × Int × Unit)) × Unit)) × (List Int) × Bool × Bool × (List (Int × Int × Int × Bool × Unit)) × Int × Int × Int × Unit) × (List ((List Int) × ((List Int) × (List Int) × Unit) × Int × Int × Unit)) × (List (Int × Int × Int × Unit)) × Unit) : Option ((((List Int) × ((List Int) × (List Int) × Unit) × Int × Int × Unit) × Unit)) :=
  bif decide (0 ≤ (w64 ((x0.2.1.length : Int) - 1))) && decide ((w64 ((x0.2.1.length : Int) - 1)) < (x0.2.1.length : Int)) then
    some (rd (([], ([], [], ()), 0, 0, ()) : (List Int) × ((List Int) × (List Int) × Unit) × Int × Int × Unit) x0.2.1 (w64 ((x0.2.1.length : Int) - 1)), ())
  else
    none
noncomputable def f84_sig (k : Nat) : Sig := ⟨[.view (.pair (.pair (.str) (.pair (.int .i64) (.pair (.int .i64) (.pair (.sl (.pair (.int .u8) (.pair (.int .i64) (.pair (.int .i64) (.pair (.sl (.pair (.int .i64) (.pair (.int .i64) (.pair (.int .i64) (.pair (.int .i64) (.unit)))))) (.unit)))))) (.pair (.sl (.int .i64)) (.pair (.bool) (.pair (.bool) (.pair (.sl (.pair (.int .i64) (.pair (.int .i64) (.pair (.int .i64) (.pair (.bool) (.unit)))))) (.pair (.int .i64) (.pair (.int .i64) (.pair (.int .i64) (.unit)))))))))))) (.pair (.sl (.pair (.sl (.int .i64)) (.pair (.pair (.sl (.int .i64)) (.pair (.sl (.int .i64)) (.unit))) (.pair (.int .i64) (.pair (.int .i64) (.unit)))))) (.pair (.sl (.pair (.int .i64) (.pair (.int .i64) (.pair (.int .i64) (.unit))))) (.unit))))], [], [[.val (.pair (.sl (.int .i64)) (.pair (.pair (.sl (.int .i64)) (.pair (.sl (.int .i64)) (.unit))) (.pair (.int .i64) (.pair (.int .i64) (.unit)))))]], fun x => f84 k x.1⟩
noncomputable def E_f84 (k : Nat) : Env := ⟨Try.prog, G0, snil, tnil, tnil, unil, k, qnil⟩
theorem f84_run (k : Nat) (x : (lTy (lay 0 (f84_sig k).ins)).den) : runF (E_f84 k) Try.f84 (f84_sig k) x = (f84_sig k).F x := by kernel_rfl
theorem f84_ok [Dr] (k : Nat) : FnOK Try.prog G0 84 (f84_sig k) :=
  fn_ok2 (E := E_f84 k) (env_nil) (qenv_nil) mixed Try.func84 Try.call84 (by kernel_rfl) (by kernel_rfl) (m := 0) (by kernel_rfl) trivial (sk := []) (by kernel_rfl) trivial (f84_run k)

/-! ### gamehall/place.Copy: function 51 -/
noncomputable def f51 (k : Nat) (x0 : (List Int) × ((List Int) × (List Int) × Unit) × Int × Int × Unit) : Option ((((List Int) × ((List Int) × (List Int) × Unit) × Int × Int × Unit) × Unit)) :=
  (f82 k x0.1).bind fun r1 =>
  (f82 k x0.2.1.1).bind fun r2 =>
  (f82 k x0.2.1.2.1).bind fun r3 =>
  some ((r1.1, (r2.1, r3), x0.2.2), ())
noncomputable def f51_sig (k : Nat) : Sig := ⟨[.val (.pair (.sl (.int .i64)) (.pair (.pair (.sl (.int .i64)) (.pair (.sl (.int .i64)) (.unit))) (.pair (.int .i64) (.pair (.int .i64) (.unit)))))], [], [[.cons (.row (.int .i64)) (.cons (.cons (.row (.int .i64)) (.cons (.row (.int .i64)) (.nil))) (.cons (.val (.int .i64)) (.cons (.val (.int .i64)) (.nil))))]], fun x => f51 k x.1⟩
noncomputable def E_f51 (k : Nat) : Env := ⟨Try.prog, G0, scons 82 [f82_sig k] (snil), tnil, tnil, ucons 3 3 (unil), k, qnil⟩
theorem f51_run (k : Nat) (x : (lTy (lay 0 (f51_sig k).ins)).den) : runF (E_f51 k) Try.f51 (f51_sig k) x = (f51_sig k).F x := by kernel_rfl
theorem f51_ok [Dr] (k : Nat) : FnOK Try.prog G0 51 (f51_sig k) :=
  fn_ok2 (E := E_f51 k) (env_cons (one_sig (f82_ok k)) (env_nil)) (qenv_nil) mixed Try.func51 Try.call51 (by kernel_rfl) (by kernel_rfl) (m := 1) (by kernel_rfl) ⟨trivial, loop_none (by kernel_rfl)⟩ (sk := []) (by kernel_rfl) trivial (f51_run k)

/-! ### (*gamehall/plain.Game).Position: function 56 -/
noncomputable def f56 (k : Nat) (x0 : (ByteArray × Int × Int × (List (Int × Int × Int × (List (Int × Int × Int × Int × Unit)) × Unit)) × (List Int) × Bool × Bool × (List (Int × Int × Int × Bool × Unit)) × Int × Int × Int × Unit) × (List ((List Int) × ((List Int) × (List Int) × Unit) × Int × Int × Unit)) × (List (Int × Int × Int × Unit)) × Unit) : Option ((((List Int) × ((List Int) × (List Int) × Unit) × Int × Int × Unit) × Unit)) :=
  (f84 k x0).bind fun r1 =>
  (f51 k r1.1).bind fun r2 =>
  some r2
noncomputable def f56_sig (k : Nat) : Sig := ⟨[.view (.pair (.pair (.str) (.pair (.int .i64) (.pair (.int .i64) (.pair (.sl (.pair (.int .u8) (.pair (.int .i64) (.pair (.int .i64) (.pair (.sl (.pair (.int .i64) (.pair (.int .i64) (.pair (.int .i64) (.pair (.int .i64) (.unit)))))) (.unit)))))) (.pair (.sl (.int .i64)) (.pair (.bool) (.pair (.bool) (.pair (.sl (.pair (.int .i64) (.pair (.int .i64) (.pair (.int .i64) (.pair (.bool) (.unit)))))) (.pair (.int .i64) (.pair (.int .i64) (.pair (.int .i64) (.unit)))))))))))) (.pair (.sl (.pair (.sl (.int .i64)) (.pair (.pair (.sl (.int .i64)) (.pair (.sl (.int .i64)) (.unit))) (.pair (.int .i64) (.pair (.int .i64) (.unit)))))) (.pair (.sl (.pair (.int .i64) (.pair (.int .i64) (.pair (.int .i64) (.unit))))) (.unit))))], [], [[.cons (.row (.int .i64)) (.cons (.cons (.row (.int .i64)) (.cons (.row (.int .i64)) (.nil))) (.cons (.val (.int .i64)) (.cons (.val (.int .i64)) (.nil))))]], fun x => f56 k x.1⟩
noncomputable def E_f56 (k : Nat) : Env := ⟨Try.prog, G0, scons 84 [f84_sig k] (scons 51 [f51_sig k] (snil)), tnil, tnil, unil, k, qnil⟩
theorem f56_run (k : Nat) (x : (lTy (lay 0 (f56_sig k).ins)).den) : runF (E_f56 k) Try.f56 (f56_sig k) x = (f56_sig k).F x := by kernel_rfl
theorem f56_ok [Dr] (k : Nat) : FnOK Try.prog G0 56 (f56_sig k) :=
  fn_ok2 (E := E_f56 k) (env_cons (one_sig (f84_ok k)) (env_cons (one_sig (f51_ok k)) (env_nil))) (qenv_nil) mixed Try.func56 Try.call56 (by kernel_rfl) (by kernel_rfl) (m := 0) (by kernel_rfl) trivial (sk := []) (by kernel_rfl) trivial (f56_run k)
noncomputable def f56_q (k : Nat) : QFun := mkW [.view (.pair (.pair (.str) (.pair (.int .i64) (.pair (.int .i64) (.pair (.sl (.pair (.int .u8) (.pair (.int .i64) (.pair (.int .i64) (.pair (.sl (.pair (.int .i64) (.pair (.int .i64) (.pair (.int .i64) (.pair (.int .i64) (.unit)))))) (.unit)))))) (.pair (.sl (.int .i64)) (.pair (.bool) (.pair (.bool) (.pair (.sl (.pair (.int .i64) (.pair (.int .i64) (.pair (.int .i64) (.pair (.bool) (.unit)))))) (.pair (.int .i64) (.pair (.int .i64) (.pair (.int .i64) (.unit)))))))))))) (.pair (.sl (.pair (.sl (.int .i64)) (.pair (.pair (.sl (.int .i64)) (.pair (.sl (.int .i64)) (.unit))) (.pair (.int .i64) (.pair (.int .i64) (.unit)))))) (.pair (.sl (.pair (.int .i64) (.pair (.int .i64) (.pair (.int .i64) (.unit))))) (.unit))))] (.cons (.row (.int .i64)) (.cons (.cons (.row (.int .i64)) (.cons (.row (.int .i64)) (.nil))) (.cons (.val (.int .i64)) (.cons (.val (.int .i64)) (.nil))))) (fun x => f56 k x.1)
theorem f56_qok [Dr] (k : Nat) : QOK Try.prog G0 56 (f56_q k) := w_ok (f56_ok k)

/-! ### gamehall/ends.row: function 127 -/
noncomputable def l127_8 (k : Nat) : Nat → Int → Int → (ByteArray × Int × Int × (List (Int × Int × Int × (List (Int × Int × Int × Int × Unit)) × Unit)) × (List Int) × Bool × Bool × (List (Int × Int × Int × Bool × Unit)) × Int × Int × Int × Unit) → ((List Int) × ((List Int) × (List Int) × Unit) × Int × Int × Unit) → Int → (Int × Int × Unit) → Int → Int → Int → Int → Int → ((Int × Int × Unit) × (Int × Int × Unit) × (Int × Int × Unit) × (Int × Int × Unit) × Unit) → Int → Option ((Int × Int × (ByteArray × Int × Int × (List (Int × Int × Int × (List (Int × Int × Int × Int × Unit)) × Unit)) × (List Int) × Bool × Bool × (List (Int × Int × Int × Bool × Unit)) × Int × Int × Int × Unit) × ((List Int) × ((List Int) × (List Int) × Unit) × Int × Int × Unit) × Int × Int × Int × Int × ((Int × Int × Unit) × (Int × Int × Unit) × (Int × Int × Unit) × (Int × Int × Unit) × Unit) × Int × Unit))
  | 0, _, _, _, _, _, _, _, _, _, _, _, _, _ => none
  | j + 1, s2, s3, s4, s5, s9, s11, s12, s13, s14, s17, s18, s25, s26 =>
    bif decide (s12 ≥ 0) then
      bif decide (s12 < s4.2.1) then
        bif decide (s13 ≥ 0) then
          bif decide (s13 < s4.2.2.1) then
            bif decide (s14 < s3) then
              bif decide (0 ≤ (w64 ((w64 (s13 * s4.2.1)) + s12))) && decide ((w64 ((w64 (s13 * s4.2.1)) + s12)) < (s5.1.length : Int)) then
                (f64 k (rd (0 : Int) s5.1 (w64 ((w64 (s13 * s4.2.1)) + s12)))).bind fun r1 =>
                bif r1.1 == s2 then
                  l127_8 k j s2 s3 s4 s5 s9 s11 (w64 (s12 + s11.1)) (w64 (s13 + s11.2.1)) (w64 (s14 + 1)) s17 s18 s25 s26
                else
                  some (s2, s3, s4, s5, s9, s14, s17, s18, s25, s26, ())
              else
                none
            else
              some (s2, s3, s4, s5, s9, s14, s17, s18, s25, s26, ())
          else
            some (s2, s3, s4, s5, s9, s14, s17, s18, s25, s26, ())
        else
          some (s2, s3, s4, s5, s9, s14, s17, s18, s25, s26, ())
      else
        some (s2, s3, s4, s5, s9, s14, s17, s18, s25, s26, ())
    else
      some (s2, s3, s4, s5, s9, s14, s17, s18, s25, s26, ())
noncomputable def l127_8_sig (k : Nat) : LoopSig := ⟨[(2, .obj (.val (.int .i64))), (3, .obj (.val (.int .i64))), (4, .obj (.box (.val (.pair (.str) (.pair (.int .i64) (.pair (.int .i64) (.pair (.sl (.pair (.int .u8) (.pair (.int .i64) (.pair (.int .i64) (.pair (.sl (.pair (.int .i64) (.pair (.int .i64) (.pair (.int .i64) (.pair (.int .i64) (.unit)))))) (.unit)))))) (.pair (.sl (.int .i64)) (.pair (.bool) (.pair (.bool) (.pair (.sl (.pair (.int .i64) (.pair (.int .i64) (.pair (.int .i64) (.pair (.bool) (.unit)))))) (.pair (.int .i64) (.pair (.int .i64) (.pair (.int .i64) (.unit))))))))))))))), (5, .obj (.box (.val (.pair (.sl (.int .i64)) (.pair (.pair (.sl (.int .i64)) (.pair (.sl (.int .i64)) (.unit))) (.pair (.int .i64) (.pair (.int .i64) (.unit)))))))), (9, .obj (.val (.int .i64))), (11, .obj (.box (.val (.pair (.int .i64) (.pair (.int .i64) (.unit)))))), (12, .obj (.val (.int .i64))), (13, .obj (.val (.int .i64))), (14, .obj (.val (.int .i64))), (17, .obj (.val (.int .i64))), (18, .obj (.val (.int .i64))), (25, .obj (.val (.pair (.pair (.int .i64) (.pair (.int .i64) (.unit))) (.pair (.pair (.int .i64) (.pair (.int .i64) (.unit))) (.pair (.pair (.int .i64) (.pair (.int .i64) (.unit))) (.pair (.pair (.int .i64) (.pair (.int .i64) (.unit))) (.unit))))))), (26, .obj (.val (.int .i64)))], [(.exit 4, [(2, .obj (.val (.int .i64))), (3, .obj (.val (.int .i64))), (4, .obj (.box (.val (.pair (.str) (.pair (.int .i64) (.pair (.int .i64) (.pair (.sl (.pair (.int .u8) (.pair (.int .i64) (.pair (.int .i64) (.pair (.sl (.pair (.int .i64) (.pair (.int .i64) (.pair (.int .i64) (.pair (.int .i64) (.unit)))))) (.unit)))))) (.pair (.sl (.int .i64)) (.pair (.bool) (.pair (.bool) (.pair (.sl (.pair (.int .i64) (.pair (.int .i64) (.pair (.int .i64) (.pair (.bool) (.unit)))))) (.pair (.int .i64) (.pair (.int .i64) (.pair (.int .i64) (.unit))))))))))))))), (5, .obj (.box (.val (.pair (.sl (.int .i64)) (.pair (.pair (.sl (.int .i64)) (.pair (.sl (.int .i64)) (.unit))) (.pair (.int .i64) (.pair (.int .i64) (.unit)))))))), (9, .obj (.val (.int .i64))), (14, .obj (.val (.int .i64))), (17, .obj (.val (.int .i64))), (18, .obj (.val (.int .i64))), (25, .obj (.val (.pair (.pair (.int .i64) (.pair (.int .i64) (.unit))) (.pair (.pair (.int .i64) (.pair (.int .i64) (.unit))) (.pair (.pair (.int .i64) (.pair (.int .i64) (.unit))) (.pair (.pair (.int .i64) (.pair (.int .i64) (.unit))) (.unit))))))), (26, .obj (.val (.int .i64)))])], fun j x => l127_8 k j x.1 x.2.1 x.2.2.1 x.2.2.2.1 x.2.2.2.2.1 x.2.2.2.2.2.1 x.2.2.2.2.2.2.1 x.2.2.2.2.2.2.2.1 x.2.2.2.2.2.2.2.2.1 x.2.2.2.2.2.2.2.2.2.1 x.2.2.2.2.2.2.2.2.2.2.1 x.2.2.2.2.2.2.2.2.2.2.2.1 x.2.2.2.2.2.2.2.2.2.2.2.2.1⟩
noncomputable def l127_5 (k : Nat) : Nat → Int → Int → (ByteArray × Int × Int × (List (Int × Int × Int × (List (Int × Int × Int × Int × Unit)) × Unit)) × (List Int) × Bool × Bool × (List (Int × Int × Int × Bool × Unit)) × Int × Int × Int × Unit) → ((List Int) × ((List Int) × (List Int) × Unit) × Int × Int × Unit) → Int → Int → Int → ((Int × Int × Unit) × (Int × Int × Unit) × (Int × Int × Unit) × (Int × Int × Unit) × Unit) → Int → Option ((Int × Int × (ByteArray × Int × Int × (List (Int × Int × Int × (List (Int × Int × Int × Int × Unit)) × Unit)) × (List Int) × Bool × Bool × (List (Int × Int × Int × Bool × Unit)) × Int × Int × Int × Unit) × ((List Int) × ((List Int) × (List Int) × Unit) × Int × Int × Unit) × Int × Int × Unit) ⊕ (Bool × Unit))
  | 0, _, _, _, _, _, _, _, _, _ => none
  | j + 1, s2, s3, s4, s5, s9, s17, s18, s25, s26 =>
    bif decide (s26 < 4) then
      bif s26 == 0 then
        bif decide (s4.2.1 = 0) then
          none
        else
        bif decide (s4.2.1 = 0) then
          none
        else
          (l127_8 k k s2 s3 s4 s5 s9 s25.1 (s9.tmod s4.2.1) (w64 (s9.tdiv s4.2.1)) 0 s17 s18 s25 s26).bind fun o1 =>
          bif o1.2.2.2.2.2.1 == o1.2.1 then
            some (.inr (true, ()))
          else
            l127_5 k j o1.1 o1.2.1 o1.2.2.1 o1.2.2.2.1 o1.2.2.2.2.1 o1.2.2.2.2.2.2.1 o1.2.2.2.2.2.2.2.1 o1.2.2.2.2.2.2.2.2.1 (w64 (o1.2.2.2.2.2.2.2.2.2.1 + 1))
      else
      bif s26 == 1 then
        bif decide (s4.2.1 = 0) then
          none
        else
        bif decide (s4.2.1 = 0) then
          none
        else
          (l127_8 k k s2 s3 s4 s5 s9 s25.2.1 (s9.tmod s4.2.1) (w64 (s9.tdiv s4.2.1)) 0 s17 s18 s25 s26).bind fun o2 =>
          bif o2.2.2.2.2.2.1 == o2.2.1 then
            some (.inr (true, ()))
          else
            l127_5 k j o2.1 o2.2.1 o2.2.2.1 o2.2.2.2.1 o2.2.2.2.2.1 o2.2.2.2.2.2.2.1 o2.2.2.2.2.2.2.2.1 o2.2.2.2.2.2.2.2.2.1 (w64 (o2.2.2.2.2.2.2.2.2.2.1 + 1))
      else
      bif s26 == 2 then
        bif decide (s4.2.1 = 0) then
          none
        else
        bif decide (s4.2.1 = 0) then
          none
        else
          (l127_8 k k s2 s3 s4 s5 s9 s25.2.2.1 (s9.tmod s4.2.1) (w64 (s9.tdiv s4.2.1)) 0 s17 s18 s25 s26).bind fun o3 =>
          bif o3.2.2.2.2.2.1 == o3.2.1 then
            some (.inr (true, ()))
          else
            l127_5 k j o3.1 o3.2.1 o3.2.2.1 o3.2.2.2.1 o3.2.2.2.2.1 o3.2.2.2.2.2.2.1 o3.2.2.2.2.2.2.2.1 o3.2.2.2.2.2.2.2.2.1 (w64 (o3.2.2.2.2.2.2.2.2.2.1 + 1))
      else
      bif s26 == 3 then
        bif decide (s4.2.1 = 0) then
          none
        else
        bif decide (s4.2.1 = 0) then
          none
        else
          (l127_8 k k s2 s3 s4 s5 s9 s25.2.2.2.1 (s9.tmod s4.2.1) (w64 (s9.tdiv s4.2.1)) 0 s17 s18 s25 s26).bind fun o4 =>
          bif o4.2.2.2.2.2.1 == o4.2.1 then
            some (.inr (true, ()))
          else
            l127_5 k j o4.1 o4.2.1 o4.2.2.1 o4.2.2.2.1 o4.2.2.2.2.1 o4.2.2.2.2.2.2.1 o4.2.2.2.2.2.2.2.1 o4.2.2.2.2.2.2.2.2.1 (w64 (o4.2.2.2.2.2.2.2.2.2.1 + 1))
      else
        none
    else
      some (.inl (s2, s3, s4, s5, s17, s18, ()))
noncomputable def l127_5_sig (k : Nat) : LoopSig := ⟨[(2, .obj (.val (.int .i64))), (3, .obj (.val (.int .i64))), (4, .obj (.box (.val (.pair (.str) (.pair (.int .i64) (.pair (.int .i64) (.pair (.sl (.pair (.int .u8) (.pair (.int .i64) (.pair (.int .i64) (.pair (.sl (.pair (.int .i64) (.pair (.int .i64) (.pair (.int .i64) (.pair (.int .i64) (.unit)))))) (.unit)))))) (.pair (.sl (.int .i64)) (.pair (.bool) (.pair (.bool) (.pair (.sl (.pair (.int .i64) (.pair (.int .i64) (.pair (.int .i64) (.pair (.bool) (.unit)))))) (.pair (.int .i64) (.pair (.int .i64) (.pair (.int .i64) (.unit))))))))))))))), (5, .obj (.box (.val (.pair (.sl (.int .i64)) (.pair (.pair (.sl (.int .i64)) (.pair (.sl (.int .i64)) (.unit))) (.pair (.int .i64) (.pair (.int .i64) (.unit)))))))), (9, .obj (.val (.int .i64))), (17, .obj (.val (.int .i64))), (18, .obj (.val (.int .i64))), (25, .obj (.val (.pair (.pair (.int .i64) (.pair (.int .i64) (.unit))) (.pair (.pair (.int .i64) (.pair (.int .i64) (.unit))) (.pair (.pair (.int .i64) (.pair (.int .i64) (.unit))) (.pair (.pair (.int .i64) (.pair (.int .i64) (.unit))) (.unit))))))), (26, .obj (.val (.int .i64)))], [(.exit 2, [(2, .obj (.val (.int .i64))), (3, .obj (.val (.int .i64))), (4, .obj (.box (.val (.pair (.str) (.pair (.int .i64) (.pair (.int .i64) (.pair (.sl (.pair (.int .u8) (.pair (.int .i64) (.pair (.int .i64) (.pair (.sl (.pair (.int .i64) (.pair (.int .i64) (.pair (.int .i64) (.pair (.int .i64) (.unit)))))) (.unit)))))) (.pair (.sl (.int .i64)) (.pair (.bool) (.pair (.bool) (.pair (.sl (.pair (.int .i64) (.pair (.int .i64) (.pair (.int .i64) (.pair (.bool) (.unit)))))) (.pair (.int .i64) (.pair (.int .i64) (.pair (.int .i64) (.unit))))))))))))))), (5, .obj (.box (.val (.pair (.sl (.int .i64)) (.pair (.pair (.sl (.int .i64)) (.pair (.sl (.int .i64)) (.unit))) (.pair (.int .i64) (.pair (.int .i64) (.unit)))))))), (17, .obj (.val (.int .i64))), (18, .obj (.val (.int .i64)))]), (.ret, [(8, .obj (.val (.bool)))])], fun j x => l127_5 k j x.1 x.2.1 x.2.2.1 x.2.2.2.1 x.2.2.2.2.1 x.2.2.2.2.2.1 x.2.2.2.2.2.2.1 x.2.2.2.2.2.2.2.1 x.2.2.2.2.2.2.2.2.1⟩
noncomputable def l127_2 (k : Nat) : Nat → Int → Int → (ByteArray × Int × Int × (List (Int × Int × Int × (List (Int × Int × Int × Int × Unit)) × Unit)) × (List Int) × Bool × Bool × (List (Int × Int × Int × Bool × Unit)) × Int × Int × Int × Unit) → ((List Int) × ((List Int) × (List Int) × Unit) × Int × Int × Unit) → Int → Int → Option (Unit ⊕ (Bool × Unit))
  | 0, _, _, _, _, _, _ => none
  | j + 1, s2, s3, s4, s5, s17, s18 =>
    bif decide (s18 < s17) then
      (l127_5 k k s2 s3 s4 s5 s18 s17 s18 ((1, 0, ()), (0, 1, ()), (1, 1, ()), (1, (-1), ()), ()) 0).bind fun w18 =>
      Sum.elim
        (fun y1 =>
          l127_2 k j y1.1 y1.2.1 y1.2.2.1 y1.2.2.2.1 y1.2.2.2.2.1 (w64 (y1.2.2.2.2.2.1 + 1)))
        (fun y2 =>
          some (.inr y2))
        w18
    else
      some (.inl ())
noncomputable def l127_2_sig (k : Nat) : LoopSig := ⟨[(2, .obj (.val (.int .i64))), (3, .obj (.val (.int .i64))), (4, .obj (.box (.val (.pair (.str) (.pair (.int .i64) (.pair (.int .i64) (.pair (.sl (.pair (.int .u8) (.pair (.int .i64) (.pair (.int .i64) (.pair (.sl (.pair (.int .i64) (.pair (.int .i64) (.pair (.int .i64) (.pair (.int .i64) (.unit)))))) (.unit)))))) (.pair (.sl (.int .i64)) (.pair (.bool) (.pair (.bool) (.pair (.sl (.pair (.int .i64) (.pair (.int .i64) (.pair (.int .i64) (.pair (.bool) (.unit)))))) (.pair (.int .i64) (.pair (.int .i64) (.pair (.int .i64) (.unit))))))))))))))), (5, .obj (.box (.val (.pair (.sl (.int .i64)) (.pair (.pair (.sl (.int .i64)) (.pair (.sl (.int .i64)) (.unit))) (.pair (.int .i64) (.pair (.int .i64) (.unit)))))))), (17, .obj (.val (.int .i64))), (18, .obj (.val (.int .i64)))], [(.exit 0, []), (.ret, [(8, .obj (.val (.bool)))])], fun j x => l127_2 k j x.1 x.2.1 x.2.2.1 x.2.2.2.1 x.2.2.2.2.1 x.2.2.2.2.2.1⟩
noncomputable def f127 (k : Nat) (x0 : ByteArray × Int × Int × (List (Int × Int × Int × (List (Int × Int × Int × Int × Unit)) × Unit)) × (List Int) × Bool × Bool × (List (Int × Int × Int × Bool × Unit)) × Int × Int × Int × Unit) (x1 : (List Int) × ((List Int) × (List Int) × Unit) × Int × Int × Unit) (x2 : Int) (x3 : Int) : Option ((Bool × Unit)) :=
  (l127_2 k k x2 x3 x0 x1 (x1.1.length : Int) 0).bind fun w19 =>
  Sum.elim
    (fun y1 =>
      some (false, ()))
    (fun y2 =>
      some y2)
    w19
noncomputable def f127_sig (k : Nat) : Sig := ⟨[.val (.pair (.str) (.pair (.int .i64) (.pair (.int .i64) (.pair (.sl (.pair (.int .u8) (.pair (.int .i64) (.pair (.int .i64) (.pair (.sl (.pair (.int .i64) (.pair (.int .i64) (.pair (.int .i64) (.pair (.int .i64) (.unit)))))) (.unit)))))) (.pair (.sl (.int .i64)) (.pair (.bool) (.pair (.bool) (.pair (.sl (.pair (.int .i64) (.pair (.int .i64) (.pair (.int .i64) (.pair (.bool) (.unit)))))) (.pair (.int .i64) (.pair (.int .i64) (.pair (.int .i64) (.unit)))))))))))), .val (.pair (.sl (.int .i64)) (.pair (.pair (.sl (.int .i64)) (.pair (.sl (.int .i64)) (.unit))) (.pair (.int .i64) (.pair (.int .i64) (.unit))))), .val (.int .i64), .val (.int .i64)], [], [[.val (.bool)]], fun x => f127 k x.1 x.2.1 x.2.2.1 x.2.2.2.1⟩
noncomputable def E_f127 (k : Nat) : Env := ⟨Try.prog, G0, scons 64 [f64_sig k] (snil), tcons 2 (l127_2_sig k) (tcons 5 (l127_5_sig k) (tcons 8 (l127_8_sig k) (tnil))), tnil, unil, k, qnil⟩
theorem l127_2_ok (k : Nat) : LoopOK (E_f127 k) ⟨Try.f127.ntmps, [], G0⟩ (nthC 0 (loopsIn (Try.f127.body.getD .skip))) :=
  loop_ok (ls := l127_2_sig k) (by kernel_rfl) (fun _ => by kernel_rfl) (fun j x => by kernel_rfl)
theorem l127_5_ok (k : Nat) : LoopOK (E_f127 k) ⟨Try.f127.ntmps, [], G0⟩ (nthC 1 (loopsIn (Try.f127.body.getD .skip))) :=
  loop_ok (ls := l127_5_sig k) (by kernel_rfl) (fun _ => by kernel_rfl) (fun j x => by kernel_rfl)
theorem l127_8_ok (k : Nat) : LoopOK (E_f127 k) ⟨Try.f127.ntmps, [], G0⟩ (nthC 2 (loopsIn (Try.f127.body.getD .skip))) :=
  loop_ok (ls := l127_8_sig k) (by kernel_rfl) (fun _ => by kernel_rfl) (fun j x => by kernel_rfl)
theorem f127_run (k : Nat) (x : (lTy (lay 0 (f127_sig k).ins)).den) : runF (E_f127 k) Try.f127 (f127_sig k) x = (f127_sig k).F x := by kernel_rfl
theorem f127_ok [Dr] (k : Nat) : FnOK Try.prog G0 127 (f127_sig k) :=
  fn_ok2 (E := E_f127 k) (env_cons (one_sig (f64_ok k)) (env_nil)) (qenv_nil) mixed Try.func127 Try.call127 (by kernel_rfl) (by kernel_rfl) (m := 3) (by kernel_rfl) ⟨⟨⟨trivial, l127_2_ok k⟩, l127_5_ok k⟩, l127_8_ok k⟩ (sk := []) (by kernel_rfl) trivial (f127_run k)

/-! ### gamehall/moves.Cell: function 83 -/
noncomputable def f83 (k : Nat) (x0 : Int) (x1 : Int) : Option ((Int × Unit)) :=
  some (w64 ((w64 ((w64 (2 * x0)) + x1)) + 1), ())
noncomputable def f83_sig (k : Nat) : Sig := ⟨[.val (.int .i64), .val (.int .i64)], [], [[.val (.int .i64)]], fun x => f83 k x.1 x.2.1⟩
noncomputable def E_f83 (k : Nat) : Env := ⟨Try.prog, G0, snil, tnil, tnil, unil, k, qnil⟩
theorem f83_run (k : Nat) (x : (lTy (lay 0 (f83_sig k).ins)).den) : runF (E_f83 k) Try.f83 (f83_sig k) x = (f83_sig k).F x := by kernel_rfl
theorem f83_ok [Dr] (k : Nat) : FnOK Try.prog G0 83 (f83_sig k) :=
  fn_ok2 (E := E_f83 k) (env_nil) (qenv_nil) mixed Try.func83 Try.call83 (by kernel_rfl) (by kernel_rfl) (m := 0) (by kernel_rfl) trivial (sk := []) (by kernel_rfl) trivial (f83_run k)

/-! ### gamehall/ends.holds: function 101 -/
noncomputable def l101_7 (k : Nat) : Nat → (ByteArray × Int × Int × (List (Int × Int × Int × (List (Int × Int × Int × Int × Unit)) × Unit)) × (List Int) × Bool × Bool × (List (Int × Int × Int × Bool × Unit)) × Int × Int × Int × Unit) → (Int × Int × Int × Bool × Unit) → Int → (List Int) → Int → Int → Option (Unit ⊕ (Bool × Unit))
  | 0, _, _, _, _, _, _ => none
  | j + 1, s3, s5, s7, s29, s30, s31 =>
    bif decide (s31 < s30) then
      bif decide (0 ≤ s31) && decide (s31 < (s29.length : Int)) then
        (f83 k s5.2.1 s7).bind fun r1 =>
        bif (rd (0 : Int) s29 s31) == r1.1 then
          (f115 k s3 s7 s31).bind fun r2 =>
          bif r2.1 then
            some (.inr (true, ()))
          else
            l101_7 k j s3 s5 s7 s29 s30 (w64 (s31 + 1))
        else
          l101_7 k j s3 s5 s7 s29 s30 (w64 (s31 + 1))
      else
        none
    else
      some (.inl ())
noncomputable def l101_7_sig (k : Nat) : LoopSig := ⟨[(3, .obj (.box (.val (.pair (.str) (.pair (.int .i64) (.pair (.int .i64) (.pair (.sl (.pair (.int .u8) (.pair (.int .i64) (.pair (.int .i64) (.pair (.sl (.pair (.int .i64) (.pair (.int .i64) (.pair (.int .i64) (.pair (.int .i64) (.unit)))))) (.unit)))))) (.pair (.sl (.int .i64)) (.pair (.bool) (.pair (.bool) (.pair (.sl (.pair (.int .i64) (.pair (.int .i64) (.pair (.int .i64) (.pair (.bool) (.unit)))))) (.pair (.int .i64) (.pair (.int .i64) (.pair (.int .i64) (.unit))))))))))))))), (5, .obj (.box (.val (.pair (.int .i64) (.pair (.int .i64) (.pair (.int .i64) (.pair (.bool) (.unit)))))))), (7, .obj (.val (.int .i64))), (29, .obj (.val (.sl (.int .i64)))), (30, .obj (.val (.int .i64))), (31, .obj (.val (.int .i64)))], [(.exit 1, []), (.ret, [(6, .obj (.val (.bool)))])], fun j x => l101_7 k j x.1 x.2.1 x.2.2.1 x.2.2.2.1 x.2.2.2.2.1 x.2.2.2.2.2.1⟩
noncomputable def l101_15 (k : Nat) : Nat → ((List Int) × ((List Int) × (List Int) × Unit) × Int × Int × Unit) → (Int × Int × Int × Bool × Unit) → Int → (List Int) → Int → Int → Option (((Int × Int × Int × Bool × Unit) × Int × Unit))
  | 0, _, _, _, _, _, _ => none
  | j + 1, s4, s5, s10, s50, s51, s52 =>
    bif decide (s52 < s51) then
      bif decide (0 ≤ s52) && decide (s52 < (s50.length : Int)) then
        (f83 k s5.2.1 s4.2.2.1).bind fun r1 =>
        bif (rd (0 : Int) s50 s52) == r1.1 then
          l101_15 k j s4 s5 (w64 (s10 + 1)) s50 s51 (w64 (s52 + 1))
        else
          l101_15 k j s4 s5 s10 s50 s51 (w64 (s52 + 1))
      else
        none
    else
      some (s5, s10, ())
noncomputable def l101_15_sig (k : Nat) : LoopSig := ⟨[(4, .obj (.box (.val (.pair (.sl (.int .i64)) (.pair (.pair (.sl (.int .i64)) (.pair (.sl (.int .i64)) (.unit))) (.pair (.int .i64) (.pair (.int .i64) (.unit)))))))), (5, .obj (.box (.val (.pair (.int .i64) (.pair (.int .i64) (.pair (.int .i64) (.pair (.bool) (.unit)))))))), (10, .obj (.val (.int .i64))), (50, .obj (.val (.sl (.int .i64)))), (51, .obj (.val (.int .i64))), (52, .obj (.val (.int .i64)))], [(.exit 3, [(5, .obj (.box (.val (.pair (.int .i64) (.pair (.int .i64) (.pair (.int .i64) (.pair (.bool) (.unit)))))))), (10, .obj (.val (.int .i64)))])], fun j x => l101_15 k j x.1 x.2.1 x.2.2.1 x.2.2.2.1 x.2.2.2.2.1 x.2.2.2.2.2.1⟩
noncomputable def f101 (k : Nat) (x0 : ByteArray × Int × Int × (List (Int × Int × Int × (List (Int × Int × Int × Int × Unit)) × Unit)) × (List Int) × Bool × Bool × (List (Int × Int × Int × Bool × Unit)) × Int × Int × Int × Unit) (x1 : (List Int) × ((List Int) × (List Int) × Unit) × Int × Int × Unit) (x2 : Int × Int × Int × Bool × Unit) : Option ((Bool × Unit)) :=
  bif x2.1 == 0 then
    (f127 k x0 x1 (w64 (1 - x1.2.2.1)) x2.2.2.1).bind fun r1 =>
    some r1
  else
  bif x2.1 == 1 then
    (l101_7 k k x0 x2 (w64 (1 - x1.2.2.1)) x1.1 (x1.1.length : Int) 0).bind fun w20 =>
    Sum.elim
      (fun y2 =>
        some (false, ()))
      (fun y3 =>
        some y3)
      w20
  else
    (l101_15 k k x1 x2 0 x1.1 (x1.1.length : Int) 0).bind fun o4 =>
    some (decide (o4.2.1 < o4.1.2.2.1), ())
noncomputable def f101_sig (k : Nat) : Sig := ⟨[.val (.pair (.str) (.pair (.int .i64) (.pair (.int .i64) (.pair (.sl (.pair (.int .u8) (.pair (.int .i64) (.pair (.int .i64) (.pair (.sl (.pair (.int .i64) (.pair (.int .i64) (.pair (.int .i64) (.pair (.int .i64) (.unit)))))) (.unit)))))) (.pair (.sl (.int .i64)) (.pair (.bool) (.pair (.bool) (.pair (.sl (.pair (.int .i64) (.pair (.int .i64) (.pair (.int .i64) (.pair (.bool) (.unit)))))) (.pair (.int .i64) (.pair (.int .i64) (.pair (.int .i64) (.unit)))))))))))), .val (.pair (.sl (.int .i64)) (.pair (.pair (.sl (.int .i64)) (.pair (.sl (.int .i64)) (.unit))) (.pair (.int .i64) (.pair (.int .i64) (.unit))))), .val (.pair (.int .i64) (.pair (.int .i64) (.pair (.int .i64) (.pair (.bool) (.unit)))))], [], [[.val (.bool)]], fun x => f101 k x.1 x.2.1 x.2.2.1⟩
noncomputable def E_f101 (k : Nat) : Env := ⟨Try.prog, G0, scons 127 [f127_sig k] (scons 115 [f115_sig k] (scons 83 [f83_sig k] (snil))), tcons 15 (l101_15_sig k) (tcons 7 (l101_7_sig k) (tnil)), tnil, unil, k, qnil⟩
theorem l101_7_ok (k : Nat) : LoopOK (E_f101 k) ⟨Try.f101.ntmps, [], G0⟩ (nthC 0 (loopsIn (Try.f101.body.getD .skip))) :=
  loop_ok (ls := l101_7_sig k) (by kernel_rfl) (fun _ => by kernel_rfl) (fun j x => by kernel_rfl)
theorem l101_15_ok (k : Nat) : LoopOK (E_f101 k) ⟨Try.f101.ntmps, [], G0⟩ (nthC 1 (loopsIn (Try.f101.body.getD .skip))) :=
  loop_ok (ls := l101_15_sig k) (by kernel_rfl) (fun _ => by kernel_rfl) (fun j x => by kernel_rfl)
theorem f101_run (k : Nat) (x : (lTy (lay 0 (f101_sig k).ins)).den) : runF (E_f101 k) Try.f101 (f101_sig k) x = (f101_sig k).F x := by kernel_rfl
theorem f101_ok [Dr] (k : Nat) : FnOK Try.prog G0 101 (f101_sig k) :=
  fn_ok2 (E := E_f101 k) (env_cons (one_sig (f127_ok k)) (env_cons (one_sig (f115_ok k)) (env_cons (one_sig (f83_ok k)) (env_nil)))) (qenv_nil) mixed Try.func101 Try.call101 (by kernel_rfl) (by kernel_rfl) (m := 2) (by kernel_rfl) ⟨⟨trivial, l101_7_ok k⟩, l101_15_ok k⟩ (sk := []) (by kernel_rfl) trivial (f101_run k)

/-! ### gamehall/ends.wins: function 102 -/
noncomputable def f102 (k : Nat) (x0 : Int) : Option ((Int × Unit)) :=
  some (w64 (1 + x0), ())
noncomputable def f102_sig (k : Nat) : Sig := ⟨[.val (.int .i64)], [], [[.val (.int .i64)]], fun x => f102 k x.1⟩
noncomputable def E_f102 (k : Nat) : Env := ⟨Try.prog, G0, snil, tnil, tnil, unil, k, qnil⟩
theorem f102_run (k : Nat) (x : (lTy (lay 0 (f102_sig k).ins)).den) : runF (E_f102 k) Try.f102 (f102_sig k) x = (f102_sig k).F x := by kernel_rfl
theorem f102_ok [Dr] (k : Nat) : FnOK Try.prog G0 102 (f102_sig k) :=
  fn_ok2 (E := E_f102 k) (env_nil) (qenv_nil) mixed Try.func102 Try.call102 (by kernel_rfl) (by kernel_rfl) (m := 0) (by kernel_rfl) trivial (sk := []) (by kernel_rfl) trivial (f102_run k)

/-! ### gamehall/ends.Result: function 79 -/
noncomputable def l79_3 (k : Nat) : Nat → (ByteArray × Int × Int × (List (Int × Int × Int × (List (Int × Int × Int × Int × Unit)) × Unit)) × (List Int) × Bool × Bool × (List (Int × Int × Int × Bool × Unit)) × Int × Int × Int × Unit) → ((List Int) × ((List Int) × (List Int) × Unit) × Int × Int × Unit) → Int → (List (Int × Int × Int × Bool × Unit)) → Int → Int → Option (((ByteArray × Int × Int × (List (Int × Int × Int × (List (Int × Int × Int × Int × Unit)) × Unit)) × (List Int) × Bool × Bool × (List (Int × Int × Int × Bool × Unit)) × Int × Int × Int × Unit) × ((List Int) × ((List Int) × (List Int) × Unit) × Int × Int × Unit) × Int × Unit) ⊕ (Int × Unit))
  | 0, _, _, _, _, _, _ => none
  | j + 1, s2, s3, s5, s12, s13, s14 =>
    bif decide (s14 < s13) then
      bif decide (0 ≤ s14) && decide (s14 < (s12.length : Int)) then
        (f101 k s2 s3 (rd ((0, 0, 0, false, ()) : Int × Int × Int × Bool × Unit) s12 s14)).bind fun r1 =>
        bif r1.1 then
          bif (rd ((0, 0, 0, false, ()) : Int × Int × Int × Bool × Unit) s12 s14).2.2.2.1 then
            (f102 k s3.2.2.1).bind fun r2 =>
            some (.inr r2)
          else
            (f102 k s5).bind fun r3 =>
            some (.inr r3)
        else
          l79_3 k j s2 s3 s5 s12 s13 (w64 (s14 + 1))
      else
        none
    else
      some (.inl (s2, s3, s5, ()))
noncomputable def l79_3_sig (k : Nat) : LoopSig := ⟨[(2, .obj (.box (.val (.pair (.str) (.pair (.int .i64) (.pair (.int .i64) (.pair (.sl (.pair (.int .u8) (.pair (.int .i64) (.pair (.int .i64) (.pair (.sl (.pair (.int .i64) (.pair (.int .i64) (.pair (.int .i64) (.pair (.int .i64) (.unit)))))) (.unit)))))) (.pair (.sl (.int .i64)) (.pair (.bool) (.pair (.bool) (.pair (.sl (.pair (.int .i64) (.pair (.int .i64) (.pair (.int .i64) (.pair (.bool) (.unit)))))) (.pair (.int .i64) (.pair (.int .i64) (.pair (.int .i64) (.unit))))))))))))))), (3, .obj (.box (.val (.pair (.sl (.int .i64)) (.pair (.pair (.sl (.int .i64)) (.pair (.sl (.int .i64)) (.unit))) (.pair (.int .i64) (.pair (.int .i64) (.unit)))))))), (5, .obj (.val (.int .i64))), (12, .obj (.val (.sl (.pair (.int .i64) (.pair (.int .i64) (.pair (.int .i64) (.pair (.bool) (.unit)))))))), (13, .obj (.val (.int .i64))), (14, .obj (.val (.int .i64)))], [(.exit 0, [(2, .obj (.box (.val (.pair (.str) (.pair (.int .i64) (.pair (.int .i64) (.pair (.sl (.pair (.int .u8) (.pair (.int .i64) (.pair (.int .i64) (.pair (.sl (.pair (.int .i64) (.pair (.int .i64) (.pair (.int .i64) (.pair (.int .i64) (.unit)))))) (.unit)))))) (.pair (.sl (.int .i64)) (.pair (.bool) (.pair (.bool) (.pair (.sl (.pair (.int .i64) (.pair (.int .i64) (.pair (.int .i64) (.pair (.bool) (.unit)))))) (.pair (.int .i64) (.pair (.int .i64) (.pair (.int .i64) (.unit))))))))))))))), (3, .obj (.box (.val (.pair (.sl (.int .i64)) (.pair (.pair (.sl (.int .i64)) (.pair (.sl (.int .i64)) (.unit))) (.pair (.int .i64) (.pair (.int .i64) (.unit)))))))), (5, .obj (.val (.int .i64)))]), (.ret, [(4, .obj (.val (.int .i64)))])], fun j x => l79_3 k j x.1 x.2.1 x.2.2.1 x.2.2.2.1 x.2.2.2.2.1 x.2.2.2.2.2.1⟩
noncomputable def f79 (k : Nat) (x0 : ByteArray × Int × Int × (List (Int × Int × Int × (List (Int × Int × Int × Int × Unit)) × Unit)) × (List Int) × Bool × Bool × (List (Int × Int × Int × Bool × Unit)) × Int × Int × Int × Unit) (x1 : (List Int) × ((List Int) × (List Int) × Unit) × Int × Int × Unit) : Option ((Int × Unit)) :=
  (l79_3 k k x0 x1 (w64 (1 - x1.2.2.1)) x0.2.2.2.2.2.2.2.1 (x0.2.2.2.2.2.2.2.1.length : Int) 0).bind fun w21 =>
  Sum.elim
    (fun y1 =>
      bif decide (y1.1.2.2.2.2.2.2.2.2.2.1 > 0) then
        bif decide (y1.2.1.2.2.2.1 ≥ y1.1.2.2.2.2.2.2.2.2.2.1) then
          some (3, ())
        else
          (f42 k y1.1 y1.2.1).bind fun r2 =>
          bif decide ((r2.1.length : Int) > 0) then
            some (0, ())
          else
          bif y1.1.2.2.2.2.2.2.2.2.1 == 0 then
            (f102 k y1.2.2.1).bind fun r3 =>
            some r3
          else
          bif y1.1.2.2.2.2.2.2.2.2.1 == 1 then
            (f102 k y1.2.1.2.2.1).bind fun r4 =>
            some r4
          else
            some (3, ())
      else
        (f42 k y1.1 y1.2.1).bind fun r5 =>
        bif decide ((r5.1.length : Int) > 0) then
          some (0, ())
        else
        bif y1.1.2.2.2.2.2.2.2.2.1 == 0 then
          (f102 k y1.2.2.1).bind fun r6 =>
          some r6
        else
        bif y1.1.2.2.2.2.2.2.2.2.1 == 1 then
          (f102 k y1.2.1.2.2.1).bind fun r7 =>
          some r7
        else
          some (3, ()))
    (fun y8 =>
      some y8)
    w21
noncomputable def f79_sig (k : Nat) : Sig := ⟨[.val (.pair (.str) (.pair (.int .i64) (.pair (.int .i64) (.pair (.sl (.pair (.int .u8) (.pair (.int .i64) (.pair (.int .i64) (.pair (.sl (.pair (.int .i64) (.pair (.int .i64) (.pair (.int .i64) (.pair (.int .i64) (.unit)))))) (.unit)))))) (.pair (.sl (.int .i64)) (.pair (.bool) (.pair (.bool) (.pair (.sl (.pair (.int .i64) (.pair (.int .i64) (.pair (.int .i64) (.pair (.bool) (.unit)))))) (.pair (.int .i64) (.pair (.int .i64) (.pair (.int .i64) (.unit)))))))))))), .val (.pair (.sl (.int .i64)) (.pair (.pair (.sl (.int .i64)) (.pair (.sl (.int .i64)) (.unit))) (.pair (.int .i64) (.pair (.int .i64) (.unit)))))], [], [[.val (.int .i64)]], fun x => f79 k x.1 x.2.1⟩
noncomputable def E_f79 (k : Nat) : Env := ⟨Try.prog, G0, scons 102 [f102_sig k] (scons 101 [f101_sig k] (scons 42 [f42_sig k] (snil))), tcons 3 (l79_3_sig k) (tnil), tnil, unil, k, qnil⟩
theorem l79_3_ok (k : Nat) : LoopOK (E_f79 k) ⟨Try.f79.ntmps, [], G0⟩ (nthC 0 (loopsIn (Try.f79.body.getD .skip))) :=
  loop_ok (ls := l79_3_sig k) (by kernel_rfl) (fun _ => by kernel_rfl) (fun j x => by kernel_rfl)
theorem f79_run (k : Nat) (x : (lTy (lay 0 (f79_sig k).ins)).den) : runF (E_f79 k) Try.f79 (f79_sig k) x = (f79_sig k).F x := by kernel_rfl
theorem f79_ok [Dr] (k : Nat) : FnOK Try.prog G0 79 (f79_sig k) :=
  fn_ok2 (E := E_f79 k) (env_cons (one_sig (f102_ok k)) (env_cons (one_sig (f101_ok k)) (env_cons (one_sig (f42_ok k)) (env_nil)))) (qenv_nil) mixed Try.func79 Try.call79 (by kernel_rfl) (by kernel_rfl) (m := 1) (by kernel_rfl) ⟨trivial, l79_3_ok k⟩ (sk := []) (by kernel_rfl) trivial (f79_run k)

/-! ### slices.Equal[[]int,int]: function 53 -/
noncomputable def l53_4 (k : Nat) : Nat → (List Int) → (List Int) → Int → Int → Option (Unit ⊕ (Bool × Unit))
  | 0, _, _, _, _ => none
  | j + 1, s0, s1, s12, s13 =>
    bif decide (s13 < s12) then
      bif decide (0 ≤ s13) && decide (s13 < (s0.length : Int)) then
        bif decide (0 ≤ s13) && decide (s13 < (s1.length : Int)) then
          bif (rd (0 : Int) s0 s13) != (rd (0 : Int) s1 s13) then
            some (.inr (false, ()))
          else
            l53_4 k j s0 s1 s12 (w64 (s13 + 1))
        else
          none
      else
        none
    else
      some (.inl ())
noncomputable def l53_4_sig (k : Nat) : LoopSig := ⟨[(0, .obj (.val (.sl (.int .i64)))), (1, .obj (.val (.sl (.int .i64)))), (12, .obj (.val (.int .i64))), (13, .obj (.val (.int .i64)))], [(.exit 0, []), (.ret, [(4, .obj (.val (.bool)))])], fun j x => l53_4 k j x.1 x.2.1 x.2.2.1 x.2.2.2.1⟩
noncomputable def f53 (k : Nat) (x0 : List Int) (x1 : List Int) : Option ((Bool × Unit)) :=
  bif (x0.length : Int) != (x1.length : Int) then
    some (false, ())
  else
    (l53_4 k k x0 x1 (x0.length : Int) 0).bind fun w22 =>
    Sum.elim
      (fun y1 =>
        some (true, ()))
      (fun y2 =>
        some y2)
      w22
noncomputable def f53_sig (k : Nat) : Sig := ⟨[.val (.sl (.int .i64)), .val (.sl (.int .i64))], [], [[.val (.bool)]], fun x => f53 k x.1 x.2.1⟩
noncomputable def E_f53 (k : Nat) : Env := ⟨Try.prog, G0, snil, tcons 4 (l53_4_sig k) (tnil), tnil, unil, k, qnil⟩
theorem l53_4_ok (k : Nat) : LoopOK (E_f53 k) ⟨Try.f53.ntmps, [], G0⟩ (nthC 0 (loopsIn (Try.f53.body.getD .skip))) :=
  loop_ok (ls := l53_4_sig k) (by kernel_rfl) (fun _ => by kernel_rfl) (fun j x => by kernel_rfl)
theorem f53_run (k : Nat) (x : (lTy (lay 0 (f53_sig k).ins)).den) : runF (E_f53 k) Try.f53 (f53_sig k) x = (f53_sig k).F x := by kernel_rfl
theorem f53_ok [Dr] (k : Nat) : FnOK Try.prog G0 53 (f53_sig k) :=
  fn_ok2 (E := E_f53 k) (env_nil) (qenv_nil) mixed Try.func53 Try.call53 (by kernel_rfl) (by kernel_rfl) (m := 1) (by kernel_rfl) ⟨trivial, l53_4_ok k⟩ (sk := []) (by kernel_rfl) trivial (f53_run k)

/-! ### gamehall/place.Same: function 28 -/
noncomputable def f28 (k : Nat) (x0 : (List Int) × ((List Int) × (List Int) × Unit) × Int × Int × Unit) (x1 : (List Int) × ((List Int) × (List Int) × Unit) × Int × Int × Unit) : Option ((Bool × Unit)) :=
  bif x0.2.2.1 == x1.2.2.1 then
    (f53 k x0.1 x1.1).bind fun r1 =>
    bif r1.1 then
      (f53 k x0.2.1.1 x1.2.1.1).bind fun r2 =>
      bif r2.1 then
        (f53 k x0.2.1.2.1 x1.2.1.2.1).bind fun r3 =>
        some r3
      else
        some (false, ())
    else
      some (false, ())
  else
    some (false, ())
noncomputable def f28_sig (k : Nat) : Sig := ⟨[.val (.pair (.sl (.int .i64)) (.pair (.pair (.sl (.int .i64)) (.pair (.sl (.int .i64)) (.unit))) (.pair (.int .i64) (.pair (.int .i64) (.unit))))), .val (.pair (.sl (.int .i64)) (.pair (.pair (.sl (.int .i64)) (.pair (.sl (.int .i64)) (.unit))) (.pair (.int .i64) (.pair (.int .i64) (.unit)))))], [], [[.val (.bool)]], fun x => f28 k x.1 x.2.1⟩
noncomputable def E_f28 (k : Nat) : Env := ⟨Try.prog, G0, scons 53 [f53_sig k] (snil), tnil, tnil, unil, k, qnil⟩
theorem f28_run (k : Nat) (x : (lTy (lay 0 (f28_sig k).ins)).den) : runF (E_f28 k) Try.f28 (f28_sig k) x = (f28_sig k).F x := by kernel_rfl
theorem f28_ok [Dr] (k : Nat) : FnOK Try.prog G0 28 (f28_sig k) :=
  fn_ok2 (E := E_f28 k) (env_cons (one_sig (f53_ok k)) (env_nil)) (qenv_nil) mixed Try.func28 Try.call28 (by kernel_rfl) (by kernel_rfl) (m := 0) (by kernel_rfl) trivial (sk := []) (by kernel_rfl) trivial (f28_run k)

/-! ### (*gamehall/plain.Game).Count: function 85 -/
noncomputable def l85_3 (k : Nat) : Nat → ((ByteArray × Int × Int × (List (Int × Int × Int × (List (Int × Int × Int × Int × Unit)) × Unit)) × (List Int) × Bool × Bool × (List (Int × Int × Int × Bool × Unit)) × Int × Int × Int × Unit) × (List ((List Int) × ((List Int) × (List Int) × Unit) × Int × Int × Unit)) × (List (Int × Int × Int × Unit)) × Unit) → Int → (List ((List Int) × ((List Int) × (List Int) × Unit) × Int × Int × Unit)) → Int → Int → Option ((Int × Unit))
  | 0, _, _, _, _, _ => none
  | j + 1, s0, s3, s9, s10, s11 =>
    bif decide (s11 < s10) then
      bif decide (0 ≤ s11) && decide (s11 < (s9.length : Int)) then
        (f84 k s0).bind fun r1 =>
        (f28 k (rd (([], ([], [], ()), 0, 0, ()) : (List Int) × ((List Int) × (List Int) × Unit) × Int × Int × Unit) s9 s11) r1.1).bind fun r2 =>
        bif r2.1 then
          l85_3 k j s0 (w64 (s3 + 1)) s9 s10 (w64 (s11 + 1))
        else
          l85_3 k j s0 s3 s9 s10 (w64 (s11 + 1))
      else
        none
    else
      some (s3, ())
noncomputable def l85_3_sig (k : Nat) : LoopSig := ⟨[(0, .obj (.view (.pair (.pair (.str) (.pair (.int .i64) (.pair (.int .i64) (.pair (.sl (.pair (.int .u8) (.pair (.int .i64) (.pair (.int .i64) (.pair (.sl (.pair (.int .i64) (.pair (.int .i64) (.pair (.int .i64) (.pair (.int .i64) (.unit)))))) (.unit)))))) (.pair (.sl (.int .i64)) (.pair (.bool) (.pair (.bool) (.pair (.sl (.pair (.int .i64) (.pair (.int .i64) (.pair (.int .i64) (.pair (.bool) (.unit)))))) (.pair (.int .i64) (.pair (.int .i64) (.pair (.int .i64) (.unit)))))))))))) (.pair (.sl (.pair (.sl (.int .i64)) (.pair (.pair (.sl (.int .i64)) (.pair (.sl (.int .i64)) (.unit))) (.pair (.int .i64) (.pair (.int .i64) (.unit)))))) (.pair (.sl (.pair (.int .i64) (.pair (.int .i64) (.pair (.int .i64) (.unit))))) (.unit)))))), (3, .obj (.val (.int .i64))), (9, .obj (.val (.sl (.pair (.sl (.int .i64)) (.pair (.pair (.sl (.int .i64)) (.pair (.sl (.int .i64)) (.unit))) (.pair (.int .i64) (.pair (.int .i64) (.unit)))))))), (10, .obj (.val (.int .i64))), (11, .obj (.val (.int .i64)))], [(.exit 0, [(3, .obj (.val (.int .i64)))])], fun j x => l85_3 k j x.1 x.2.1 x.2.2.1 x.2.2.2.1 x.2.2.2.2.1⟩
noncomputable def f85 (k : Nat) (x0 : (ByteArray × Int × Int × (List (Int × Int × Int × (List (Int × Int × Int × Int × Unit)) × Unit)) × (List Int) × Bool × Bool × (List (Int × Int × Int × Bool × Unit)) × Int × Int × Int × Unit) × (List ((List Int) × ((List Int) × (List Int) × Unit) × Int × Int × Unit)) × (List (Int × Int × Int × Unit)) × Unit) : Option ((Int × Unit)) :=
  (l85_3 k k x0 0 x0.2.1 (x0.2.1.length : Int) 0).bind fun o1 =>
  some o1
noncomputable def f85_sig (k : Nat) : Sig := ⟨[.view (.pair (.pair (.str) (.pair (.int .i64) (.pair (.int .i64) (.pair (.sl (.pair (.int .u8) (.pair (.int .i64) (.pair (.int .i64) (.pair (.sl (.pair (.int .i64) (.pair (.int .i64) (.pair (.int .i64) (.pair (.int .i64) (.unit)))))) (.unit)))))) (.pair (.sl (.int .i64)) (.pair (.bool) (.pair (.bool) (.pair (.sl (.pair (.int .i64) (.pair (.int .i64) (.pair (.int .i64) (.pair (.bool) (.unit)))))) (.pair (.int .i64) (.pair (.int .i64) (.pair (.int .i64) (.unit)))))))))))) (.pair (.sl (.pair (.sl (.int .i64)) (.pair (.pair (.sl (.int .i64)) (.pair (.sl (.int .i64)) (.unit))) (.pair (.int .i64) (.pair (.int .i64) (.unit)))))) (.pair (.sl (.pair (.int .i64) (.pair (.int .i64) (.pair (.int .i64) (.unit))))) (.unit))))], [], [[.val (.int .i64)]], fun x => f85 k x.1⟩
noncomputable def E_f85 (k : Nat) : Env := ⟨Try.prog, G0, scons 84 [f84_sig k] (scons 28 [f28_sig k] (snil)), tcons 3 (l85_3_sig k) (tnil), tnil, unil, k, qnil⟩
theorem l85_3_ok (k : Nat) : LoopOK (E_f85 k) ⟨Try.f85.ntmps, [], G0⟩ (nthC 0 (loopsIn (Try.f85.body.getD .skip))) :=
  loop_ok (ls := l85_3_sig k) (by kernel_rfl) (fun _ => by kernel_rfl) (fun j x => by kernel_rfl)
theorem f85_run (k : Nat) (x : (lTy (lay 0 (f85_sig k).ins)).den) : runF (E_f85 k) Try.f85 (f85_sig k) x = (f85_sig k).F x := by kernel_rfl
theorem f85_ok [Dr] (k : Nat) : FnOK Try.prog G0 85 (f85_sig k) :=
  fn_ok2 (E := E_f85 k) (env_cons (one_sig (f84_ok k)) (env_cons (one_sig (f28_ok k)) (env_nil))) (qenv_nil) mixed Try.func85 Try.call85 (by kernel_rfl) (by kernel_rfl) (m := 1) (by kernel_rfl) ⟨trivial, l85_3_ok k⟩ (sk := []) (by kernel_rfl) trivial (f85_run k)
noncomputable def f85_q (k : Nat) : QFun := mkV [.view (.pair (.pair (.str) (.pair (.int .i64) (.pair (.int .i64) (.pair (.sl (.pair (.int .u8) (.pair (.int .i64) (.pair (.int .i64) (.pair (.sl (.pair (.int .i64) (.pair (.int .i64) (.pair (.int .i64) (.pair (.int .i64) (.unit)))))) (.unit)))))) (.pair (.sl (.int .i64)) (.pair (.bool) (.pair (.bool) (.pair (.sl (.pair (.int .i64) (.pair (.int .i64) (.pair (.int .i64) (.pair (.bool) (.unit)))))) (.pair (.int .i64) (.pair (.int .i64) (.pair (.int .i64) (.unit)))))))))))) (.pair (.sl (.pair (.sl (.int .i64)) (.pair (.pair (.sl (.int .i64)) (.pair (.sl (.int .i64)) (.unit))) (.pair (.int .i64) (.pair (.int .i64) (.unit)))))) (.pair (.sl (.pair (.int .i64) (.pair (.int .i64) (.pair (.int .i64) (.unit))))) (.unit))))] [.val (.int .i64)] (fun x => f85 k x.1)
theorem f85_qok [Dr] (k : Nat) : QOK Try.prog G0 85 (f85_q k) := v_ok (f85_ok k)

/-! ### (*gamehall/plain.Game).Result: function 57 -/
noncomputable def f57 (k : Nat) (x0 : (ByteArray × Int × Int × (List (Int × Int × Int × (List (Int × Int × Int × Int × Unit)) × Unit)) × (List Int) × Bool × Bool × (List (Int × Int × Int × Bool × Unit)) × Int × Int × Int × Unit) × (List ((List Int) × ((List Int) × (List Int) × Unit) × Int × Int × Unit)) × (List (Int × Int × Int × Unit)) × Unit) : Option ((Int × Unit)) :=
  (f84 k x0).bind fun r1 =>
  (f79 k x0.1 r1.1).bind fun r2 =>
  bif r2.1 == 0 then
    bif decide (x0.1.2.2.2.2.2.2.2.2.2.2.1 > 0) then
      (f85 k x0).bind fun r3 =>
      bif decide (r3.1 ≥ x0.1.2.2.2.2.2.2.2.2.2.2.1) then
        some (3, ())
      else
        some r2
    else
      some r2
  else
    some r2
noncomputable def f57_sig (k : Nat) : Sig := ⟨[.view (.pair (.pair (.str) (.pair (.int .i64) (.pair (.int .i64) (.pair (.sl (.pair (.int .u8) (.pair (.int .i64) (.pair (.int .i64) (.pair (.sl (.pair (.int .i64) (.pair (.int .i64) (.pair (.int .i64) (.pair (.int .i64) (.unit)))))) (.unit)))))) (.pair (.sl (.int .i64)) (.pair (.bool) (.pair (.bool) (.pair (.sl (.pair (.int .i64) (.pair (.int .i64) (.pair (.int .i64) (.pair (.bool) (.unit)))))) (.pair (.int .i64) (.pair (.int .i64) (.pair (.int .i64) (.unit)))))))))))) (.pair (.sl (.pair (.sl (.int .i64)) (.pair (.pair (.sl (.int .i64)) (.pair (.sl (.int .i64)) (.unit))) (.pair (.int .i64) (.pair (.int .i64) (.unit)))))) (.pair (.sl (.pair (.int .i64) (.pair (.int .i64) (.pair (.int .i64) (.unit))))) (.unit))))], [], [[.val (.int .i64)]], fun x => f57 k x.1⟩
noncomputable def E_f57 (k : Nat) : Env := ⟨Try.prog, G0, scons 84 [f84_sig k] (scons 79 [f79_sig k] (snil)), tnil, tnil, unil, k, qcons 85 (f85_q k) (qnil)⟩
theorem f57_run (k : Nat) (x : (lTy (lay 0 (f57_sig k).ins)).den) : runF (E_f57 k) Try.f57 (f57_sig k) x = (f57_sig k).F x := by kernel_rfl
theorem f57_ok [Dr] (k : Nat) : FnOK Try.prog G0 57 (f57_sig k) :=
  fn_ok2 (E := E_f57 k) (env_cons (one_sig (f84_ok k)) (env_cons (one_sig (f79_ok k)) (env_nil))) (qenv_cons (f85_qok k) (qenv_nil)) mixed Try.func57 Try.call57 (by kernel_rfl) (by kernel_rfl) (m := 0) (by kernel_rfl) trivial (sk := []) (by kernel_rfl) trivial (f57_run k)
noncomputable def f57_q (k : Nat) : QFun := mkV [.view (.pair (.pair (.str) (.pair (.int .i64) (.pair (.int .i64) (.pair (.sl (.pair (.int .u8) (.pair (.int .i64) (.pair (.int .i64) (.pair (.sl (.pair (.int .i64) (.pair (.int .i64) (.pair (.int .i64) (.pair (.int .i64) (.unit)))))) (.unit)))))) (.pair (.sl (.int .i64)) (.pair (.bool) (.pair (.bool) (.pair (.sl (.pair (.int .i64) (.pair (.int .i64) (.pair (.int .i64) (.pair (.bool) (.unit)))))) (.pair (.int .i64) (.pair (.int .i64) (.pair (.int .i64) (.unit)))))))))))) (.pair (.sl (.pair (.sl (.int .i64)) (.pair (.pair (.sl (.int .i64)) (.pair (.sl (.int .i64)) (.unit))) (.pair (.int .i64) (.pair (.int .i64) (.unit)))))) (.pair (.sl (.pair (.int .i64) (.pair (.int .i64) (.pair (.int .i64) (.unit))))) (.unit))))] [.val (.int .i64)] (fun x => f57 k x.1)
theorem f57_qok [Dr] (k : Nat) : QOK Try.prog G0 57 (f57_q k) := v_ok (f57_ok k)

/-! ### slices.Index[[]gamehall/api.Move,gamehall/api.Move]: function 103 -/
noncomputable def l103_2 (k : Nat) : Nat → (List (Int × Int × Int × Unit)) → (Int × Int × Int × Unit) → Int → Int → Option (Unit ⊕ (Int × Unit))
  | 0, _, _, _, _ => none
  | j + 1, s0, s3, s7, s8 =>
    bif decide (s8 < s7) then
      bif decide (0 ≤ s8) && decide (s8 < (s0.length : Int)) then
        bif (s3.1 == (rd ((0, 0, 0, ()) : Int × Int × Int × Unit) s0 s8).1) && ((s3.2.1 == (rd ((0, 0, 0, ()) : Int × Int × Int × Unit) s0 s8).2.1) && ((s3.2.2.1 == (rd ((0, 0, 0, ()) : Int × Int × Int × Unit) s0 s8).2.2.1) && true)) then
          some (.inr (s8, ()))
        else
          l103_2 k j s0 s3 s7 (w64 (s8 + 1))
      else
        none
    else
      some (.inl ())
noncomputable def l103_2_sig (k : Nat) : LoopSig := ⟨[(0, .obj (.val (.sl (.pair (.int .i64) (.pair (.int .i64) (.pair (.int .i64) (.unit))))))), (3, .obj (.box (.val (.pair (.int .i64) (.pair (.int .i64) (.pair (.int .i64) (.unit))))))), (7, .obj (.val (.int .i64))), (8, .obj (.val (.int .i64)))], [(.exit 0, []), (.ret, [(4, .obj (.val (.int .i64)))])], fun j x => l103_2 k j x.1 x.2.1 x.2.2.1 x.2.2.2.1⟩
noncomputable def f103 (k : Nat) (x0 : List (Int × Int × Int × Unit)) (x1 : Int × Int × Int × Unit) : Option ((Int × Unit)) :=
  (l103_2 k k x0 x1 (x0.length : Int) 0).bind fun w23 =>
  Sum.elim
    (fun y1 =>
      some ((-1), ()))
    (fun y2 =>
      some y2)
    w23
noncomputable def f103_sig (k : Nat) : Sig := ⟨[.val (.sl (.pair (.int .i64) (.pair (.int .i64) (.pair (.int .i64) (.unit))))), .val (.pair (.int .i64) (.pair (.int .i64) (.pair (.int .i64) (.unit))))], [], [[.val (.int .i64)]], fun x => f103 k x.1 x.2.1⟩
noncomputable def E_f103 (k : Nat) : Env := ⟨Try.prog, G0, snil, tcons 2 (l103_2_sig k) (tnil), tnil, unil, k, qnil⟩
theorem l103_2_ok (k : Nat) : LoopOK (E_f103 k) ⟨Try.f103.ntmps, [], G0⟩ (nthC 0 (loopsIn (Try.f103.body.getD .skip))) :=
  loop_ok (ls := l103_2_sig k) (by kernel_rfl) (fun _ => by kernel_rfl) (fun j x => by kernel_rfl)
theorem f103_run (k : Nat) (x : (lTy (lay 0 (f103_sig k).ins)).den) : runF (E_f103 k) Try.f103 (f103_sig k) x = (f103_sig k).F x := by kernel_rfl
theorem f103_ok [Dr] (k : Nat) : FnOK Try.prog G0 103 (f103_sig k) :=
  fn_ok2 (E := E_f103 k) (env_nil) (qenv_nil) mixed Try.func103 Try.call103 (by kernel_rfl) (by kernel_rfl) (m := 1) (by kernel_rfl) ⟨trivial, l103_2_ok k⟩ (sk := []) (by kernel_rfl) trivial (f103_run k)

/-! ### slices.Contains[[]gamehall/api.Move,gamehall/api.Move]: function 80 -/
noncomputable def f80 (k : Nat) (x0 : List (Int × Int × Int × Unit)) (x1 : Int × Int × Int × Unit) : Option ((Bool × Unit)) :=
  (f103 k x0 x1).bind fun r1 =>
  some (decide (r1.1 ≥ 0), ())
noncomputable def f80_sig (k : Nat) : Sig := ⟨[.val (.sl (.pair (.int .i64) (.pair (.int .i64) (.pair (.int .i64) (.unit))))), .val (.pair (.int .i64) (.pair (.int .i64) (.pair (.int .i64) (.unit))))], [], [[.val (.bool)]], fun x => f80 k x.1 x.2.1⟩
noncomputable def E_f80 (k : Nat) : Env := ⟨Try.prog, G0, scons 103 [f103_sig k] (snil), tnil, tnil, unil, k, qnil⟩
theorem f80_run (k : Nat) (x : (lTy (lay 0 (f80_sig k).ins)).den) : runF (E_f80 k) Try.f80 (f80_sig k) x = (f80_sig k).F x := by kernel_rfl
theorem f80_ok [Dr] (k : Nat) : FnOK Try.prog G0 80 (f80_sig k) :=
  fn_ok2 (E := E_f80 k) (env_cons (one_sig (f103_ok k)) (env_nil)) (qenv_nil) mixed Try.func80 Try.call80 (by kernel_rfl) (by kernel_rfl) (m := 0) (by kernel_rfl) trivial (sk := []) (by kernel_rfl) trivial (f80_run k)

/-! ### gamehall/moves.Legal: function 52 -/
noncomputable def f52 (k : Nat) (x0 : ByteArray × Int × Int × (List (Int × Int × Int × (List (Int × Int × Int × Int × Unit)) × Unit)) × (List Int) × Bool × Bool × (List (Int × Int × Int × Bool × Unit)) × Int × Int × Int × Unit) (x1 : (List Int) × ((List Int) × (List Int) × Unit) × Int × Int × Unit) (x2 : Int × Int × Int × Unit) : Option ((Bool × Int × Unit)) :=
  (f13 k x0 x1).bind fun r1 =>
  bif r1.1 != 0 then
    some (false, r1)
  else
    (f42 k x0 x1).bind fun r2 =>
    (f80 k r2.1 x2).bind fun r3 =>
    some (r3.1, 0, ())
noncomputable def f52_sig (k : Nat) : Sig := ⟨[.val (.pair (.str) (.pair (.int .i64) (.pair (.int .i64) (.pair (.sl (.pair (.int .u8) (.pair (.int .i64) (.pair (.int .i64) (.pair (.sl (.pair (.int .i64) (.pair (.int .i64) (.pair (.int .i64) (.pair (.int .i64) (.unit)))))) (.unit)))))) (.pair (.sl (.int .i64)) (.pair (.bool) (.pair (.bool) (.pair (.sl (.pair (.int .i64) (.pair (.int .i64) (.pair (.int .i64) (.pair (.bool) (.unit)))))) (.pair (.int .i64) (.pair (.int .i64) (.pair (.int .i64) (.unit)))))))))))), .val (.pair (.sl (.int .i64)) (.pair (.pair (.sl (.int .i64)) (.pair (.sl (.int .i64)) (.unit))) (.pair (.int .i64) (.pair (.int .i64) (.unit))))), .val (.pair (.int .i64) (.pair (.int .i64) (.pair (.int .i64) (.unit))))], [], [[.val (.bool), .val (.int .i64)]], fun x => f52 k x.1 x.2.1 x.2.2.1⟩
noncomputable def E_f52 (k : Nat) : Env := ⟨Try.prog, G0, scons 80 [f80_sig k] (scons 42 [f42_sig k] (scons 13 [f13_sig k] (snil))), tnil, tnil, unil, k, qnil⟩
theorem f52_run (k : Nat) (x : (lTy (lay 0 (f52_sig k).ins)).den) : runF (E_f52 k) Try.f52 (f52_sig k) x = (f52_sig k).F x := by kernel_rfl
theorem f52_ok [Dr] (k : Nat) : FnOK Try.prog G0 52 (f52_sig k) :=
  fn_ok2 (E := E_f52 k) (env_cons (one_sig (f80_ok k)) (env_cons (one_sig (f42_ok k)) (env_cons (one_sig (f13_ok k)) (env_nil)))) (qenv_nil) mixed Try.func52 Try.call52 (by kernel_rfl) (by kernel_rfl) (m := 0) (by kernel_rfl) trivial (sk := []) (by kernel_rfl) trivial (f52_run k)

/-! ### gamehall/moves.Do: function 50 -/
noncomputable def f50 (k : Nat) (x0 : ByteArray × Int × Int × (List (Int × Int × Int × (List (Int × Int × Int × Int × Unit)) × Unit)) × (List Int) × Bool × Bool × (List (Int × Int × Int × Bool × Unit)) × Int × Int × Int × Unit) (x1 : (List Int) × ((List Int) × (List Int) × Unit) × Int × Int × Unit) (x2 : Int × Int × Int × Unit) : Option ((((List Int) × ((List Int) × (List Int) × Unit) × Int × Int × Unit) × Unit)) :=
  (f51 k x1).bind fun r1 =>
  bif decide (x2.1 < 0) then
    bif x1.2.2.1 == 0 then
      bif decide (0 ≤ x2.2.2.1) && decide (x2.2.2.1 < (r1.1.2.1.1.length : Int)) then
        bif decide (0 ≤ x2.2.2.1) && decide (x2.2.2.1 < (r1.1.2.1.1.length : Int)) then
          bif decide (0 ≤ x2.2.1) && decide (x2.2.1 < (x1.1.length : Int)) then
            bif (rd (0 : Int) x1.1 x2.2.1) != 0 then
              bif x1.2.2.1 == 0 then
                bif x0.2.2.2.2.2.2.1 then
                  (f70 k (rd (0 : Int) x1.1 x2.2.1)).bind fun r2 =>
                  (f70 k (rd (0 : Int) x1.1 x2.2.1)).bind fun r3 =>
                  bif decide (0 ≤ r3.1) && decide (r3.1 < ((r1.1.2.1.1.set x2.2.2.1.toNat (w64 ((rd (0 : Int) r1.1.2.1.1 x2.2.2.1) - 1))).length : Int)) then
                    bif decide (0 ≤ r2.1) && decide (r2.1 < ((r1.1.2.1.1.set x2.2.2.1.toNat (w64 ((rd (0 : Int) r1.1.2.1.1 x2.2.2.1) - 1))).length : Int)) then
                      (f83 k x2.2.2.1 x1.2.2.1).bind fun r4 =>
                      bif decide (0 ≤ x2.2.1) && decide (x2.2.1 < (r1.1.1.length : Int)) then
                        some ((r1.1.1.set x2.2.1.toNat r4.1, ((r1.1.2.1.1.set x2.2.2.1.toNat (w64 ((rd (0 : Int) r1.1.2.1.1 x2.2.2.1) - 1))).set r2.1.toNat (if 1000 < (w64 ((rd (0 : Int) (r1.1.2.1.1.set x2.2.2.1.toNat (w64 ((rd (0 : Int) r1.1.2.1.1 x2.2.2.1) - 1))) r3.1) + 1)) then 1000 else w64 ((rd (0 : Int) (r1.1.2.1.1.set x2.2.2.1.toNat (w64 ((rd (0 : Int) r1.1.2.1.1 x2.2.2.1) - 1))) r3.1) + 1)), r1.1.2.1.2), w64 (1 - x1.2.2.1), 0, ()), ())
                      else
                        none
                    else
                      none
                  else
                    none
                else
                  (f83 k x2.2.2.1 x1.2.2.1).bind fun r5 =>
                  bif decide (0 ≤ x2.2.1) && decide (x2.2.1 < (r1.1.1.length : Int)) then
                    some ((r1.1.1.set x2.2.1.toNat r5.1, (r1.1.2.1.1.set x2.2.2.1.toNat (w64 ((rd (0 : Int) r1.1.2.1.1 x2.2.2.1) - 1)), r1.1.2.1.2), w64 (1 - x1.2.2.1), 0, ()), ())
                  else
                    none
              else
              bif x1.2.2.1 == 1 then
                bif x0.2.2.2.2.2.2.1 then
                  (f70 k (rd (0 : Int) x1.1 x2.2.1)).bind fun r6 =>
                  (f70 k (rd (0 : Int) x1.1 x2.2.1)).bind fun r7 =>
                  bif decide (0 ≤ r7.1) && decide (r7.1 < (r1.1.2.1.2.1.length : Int)) then
                    bif decide (0 ≤ r6.1) && decide (r6.1 < (r1.1.2.1.2.1.length : Int)) then
                      (f83 k x2.2.2.1 x1.2.2.1).bind fun r8 =>
                      bif decide (0 ≤ x2.2.1) && decide (x2.2.1 < (r1.1.1.length : Int)) then
                        some ((r1.1.1.set x2.2.1.toNat r8.1, (r1.1.2.1.1.set x2.2.2.1.toNat (w64 ((rd (0 : Int) r1.1.2.1.1 x2.2.2.1) - 1)), r1.1.2.1.2.1.set r6.1.toNat (if 1000 < (w64 ((rd (0 : Int) r1.1.2.1.2.1 r7.1) + 1)) then 1000 else w64 ((rd (0 : Int) r1.1.2.1.2.1 r7.1) + 1)), ()), w64 (1 - x1.2.2.1), 0, ()), ())
                      else
                        none
                    else
                      none
                  else
                    none
                else
                  (f83 k x2.2.2.1 x1.2.2.1).bind fun r9 =>
                  bif decide (0 ≤ x2.2.1) && decide (x2.2.1 < (r1.1.1.length : Int)) then
                    some ((r1.1.1.set x2.2.1.toNat r9.1, (r1.1.2.1.1.set x2.2.2.1.toNat (w64 ((rd (0 : Int) r1.1.2.1.1 x2.2.2.1) - 1)), r1.1.2.1.2), w64 (1 - x1.2.2.1), 0, ()), ())
                  else
                    none
              else
                none
            else
              (f83 k x2.2.2.1 x1.2.2.1).bind fun r10 =>
              bif decide (0 ≤ x2.2.1) && decide (x2.2.1 < (r1.1.1.length : Int)) then
                some ((r1.1.1.set x2.2.1.toNat r10.1, (r1.1.2.1.1.set x2.2.2.1.toNat (w64 ((rd (0 : Int) r1.1.2.1.1 x2.2.2.1) - 1)), r1.1.2.1.2), w64 (1 - x1.2.2.1), 0, ()), ())
              else
                none
          else
            none
        else
          none
      else
        none
    else
    bif x1.2.2.1 == 1 then
      bif decide (0 ≤ x2.2.2.1) && decide (x2.2.2.1 < (r1.1.2.1.2.1.length : Int)) then
        bif decide (0 ≤ x2.2.2.1) && decide (x2.2.2.1 < (r1.1.2.1.2.1.length : Int)) then
          bif decide (0 ≤ x2.2.1) && decide (x2.2.1 < (x1.1.length : Int)) then
            bif (rd (0 : Int) x1.1 x2.2.1) != 0 then
              bif x1.2.2.1 == 0 then
                bif x0.2.2.2.2.2.2.1 then
                  (f70 k (rd (0 : Int) x1.1 x2.2.1)).bind fun r11 =>
                  (f70 k (rd (0 : Int) x1.1 x2.2.1)).bind fun r12 =>
                  bif decide (0 ≤ r12.1) && decide (r12.1 < (r1.1.2.1.1.length : Int)) then
                    bif decide (0 ≤ r11.1) && decide (r11.1 < (r1.1.2.1.1.length : Int)) then
                      (f83 k x2.2.2.1 x1.2.2.1).bind fun r13 =>
                      bif decide (0 ≤ x2.2.1) && decide (x2.2.1 < (r1.1.1.length : Int)) then
                        some ((r1.1.1.set x2.2.1.toNat r13.1, (r1.1.2.1.1.set r11.1.toNat (if 1000 < (w64 ((rd (0 : Int) r1.1.2.1.1 r12.1) + 1)) then 1000 else w64 ((rd (0 : Int) r1.1.2.1.1 r12.1) + 1)), r1.1.2.1.2.1.set x2.2.2.1.toNat (w64 ((rd (0 : Int) r1.1.2.1.2.1 x2.2.2.1) - 1)), ()), w64 (1 - x1.2.2.1), 0, ()), ())
                      else
                        none
                    else
                      none
                  else
                    none
                else
                  (f83 k x2.2.2.1 x1.2.2.1).bind fun r14 =>
                  bif decide (0 ≤ x2.2.1) && decide (x2.2.1 < (r1.1.1.length : Int)) then
                    some ((r1.1.1.set x2.2.1.toNat r14.1, (r1.1.2.1.1, r1.1.2.1.2.1.set x2.2.2.1.toNat (w64 ((rd (0 : Int) r1.1.2.1.2.1 x2.2.2.1) - 1)), ()), w64 (1 - x1.2.2.1), 0, ()), ())
                  else
                    none
              else
              bif x1.2.2.1 == 1 then
                bif x0.2.2.2.2.2.2.1 then
                  (f70 k (rd (0 : Int) x1.1 x2.2.1)).bind fun r15 =>
                  (f70 k (rd (0 : Int) x1.1 x2.2.1)).bind fun r16 =>
                  bif decide (0 ≤ r16.1) && decide (r16.1 < ((r1.1.2.1.2.1.set x2.2.2.1.toNat (w64 ((rd (0 : Int) r1.1.2.1.2.1 x2.2.2.1) - 1))).length : Int)) then
                    bif decide (0 ≤ r15.1) && decide (r15.1 < ((r1.1.2.1.2.1.set x2.2.2.1.toNat (w64 ((rd (0 : Int) r1.1.2.1.2.1 x2.2.2.1) - 1))).length : Int)) then
                      (f83 k x2.2.2.1 x1.2.2.1).bind fun r17 =>
                      bif decide (0 ≤ x2.2.1) && decide (x2.2.1 < (r1.1.1.length : Int)) then
                        some ((r1.1.1.set x2.2.1.toNat r17.1, (r1.1.2.1.1, (r1.1.2.1.2.1.set x2.2.2.1.toNat (w64 ((rd (0 : Int) r1.1.2.1.2.1 x2.2.2.1) - 1))).set r15.1.toNat (if 1000 < (w64 ((rd (0 : Int) (r1.1.2.1.2.1.set x2.2.2.1.toNat (w64 ((rd (0 : Int) r1.1.2.1.2.1 x2.2.2.1) - 1))) r16.1) + 1)) then 1000 else w64 ((rd (0 : Int) (r1.1.2.1.2.1.set x2.2.2.1.toNat (w64 ((rd (0 : Int) r1.1.2.1.2.1 x2.2.2.1) - 1))) r16.1) + 1)), ()), w64 (1 - x1.2.2.1), 0, ()), ())
                      else
                        none
                    else
                      none
                  else
                    none
                else
                  (f83 k x2.2.2.1 x1.2.2.1).bind fun r18 =>
                  bif decide (0 ≤ x2.2.1) && decide (x2.2.1 < (r1.1.1.length : Int)) then
                    some ((r1.1.1.set x2.2.1.toNat r18.1, (r1.1.2.1.1, r1.1.2.1.2.1.set x2.2.2.1.toNat (w64 ((rd (0 : Int) r1.1.2.1.2.1 x2.2.2.1) - 1)), ()), w64 (1 - x1.2.2.1), 0, ()), ())
                  else
                    none
              else
                none
            else
              (f83 k x2.2.2.1 x1.2.2.1).bind fun r19 =>
              bif decide (0 ≤ x2.2.1) && decide (x2.2.1 < (r1.1.1.length : Int)) then
                some ((r1.1.1.set x2.2.1.toNat r19.1, (r1.1.2.1.1, r1.1.2.1.2.1.set x2.2.2.1.toNat (w64 ((rd (0 : Int) r1.1.2.1.2.1 x2.2.2.1) - 1)), ()), w64 (1 - x1.2.2.1), 0, ()), ())
              else
                none
          else
            none
        else
          none
      else
        none
    else
      none
  else
  bif decide (0 ≤ x2.1) && decide (x2.1 < (r1.1.1.length : Int)) then
    bif decide (0 ≤ x2.2.1) && decide (x2.2.1 < (x1.1.length : Int)) then
      bif (rd (0 : Int) x1.1 x2.2.1) != 0 then
        bif x1.2.2.1 == 0 then
          bif x0.2.2.2.2.2.2.1 then
            (f70 k (rd (0 : Int) x1.1 x2.2.1)).bind fun r20 =>
            (f70 k (rd (0 : Int) x1.1 x2.2.1)).bind fun r21 =>
            bif decide (0 ≤ r21.1) && decide (r21.1 < (r1.1.2.1.1.length : Int)) then
              bif decide (0 ≤ r20.1) && decide (r20.1 < (r1.1.2.1.1.length : Int)) then
                (f83 k x2.2.2.1 x1.2.2.1).bind fun r22 =>
                bif decide (0 ≤ x2.2.1) && decide (x2.2.1 < ((r1.1.1.set x2.1.toNat 0).length : Int)) then
                  some (((r1.1.1.set x2.1.toNat 0).set x2.2.1.toNat r22.1, (r1.1.2.1.1.set r20.1.toNat (if 1000 < (w64 ((rd (0 : Int) r1.1.2.1.1 r21.1) + 1)) then 1000 else w64 ((rd (0 : Int) r1.1.2.1.1 r21.1) + 1)), r1.1.2.1.2), w64 (1 - x1.2.2.1), 0, ()), ())
                else
                  none
              else
                none
            else
              none
          else
            (f83 k x2.2.2.1 x1.2.2.1).bind fun r23 =>
            bif decide (0 ≤ x2.2.1) && decide (x2.2.1 < ((r1.1.1.set x2.1.toNat 0).length : Int)) then
              some (((r1.1.1.set x2.1.toNat 0).set x2.2.1.toNat r23.1, r1.1.2.1, w64 (1 - x1.2.2.1), 0, ()), ())
            else
              none
        else
        bif x1.2.2.1 == 1 then
          bif x0.2.2.2.2.2.2.1 then
            (f70 k (rd (0 : Int) x1.1 x2.2.1)).bind fun r24 =>
            (f70 k (rd (0 : Int) x1.1 x2.2.1)).bind fun r25 =>
            bif decide (0 ≤ r25.1) && decide (r25.1 < (r1.1.2.1.2.1.length : Int)) then
              bif decide (0 ≤ r24.1) && decide (r24.1 < (r1.1.2.1.2.1.length : Int)) then
                (f83 k x2.2.2.1 x1.2.2.1).bind fun r26 =>
                bif decide (0 ≤ x2.2.1) && decide (x2.2.1 < ((r1.1.1.set x2.1.toNat 0).length : Int)) then
                  some (((r1.1.1.set x2.1.toNat 0).set x2.2.1.toNat r26.1, (r1.1.2.1.1, r1.1.2.1.2.1.set r24.1.toNat (if 1000 < (w64 ((rd (0 : Int) r1.1.2.1.2.1 r25.1) + 1)) then 1000 else w64 ((rd (0 : Int) r1.1.2.1.2.1 r25.1) + 1)), ()), w64 (1 - x1.2.2.1), 0, ()), ())
                else
                  none
              else
                none
            else
              none
          else
            (f83 k x2.2.2.1 x1.2.2.1).bind fun r27 =>
            bif decide (0 ≤ x2.2.1) && decide (x2.2.1 < ((r1.1.1.set x2.1.toNat 0).length : Int)) then
              some (((r1.1.1.set x2.1.toNat 0).set x2.2.1.toNat r27.1, r1.1.2.1, w64 (1 - x1.2.2.1), 0, ()), ())
            else
              none
        else
          none
      else
        (f83 k x2.2.2.1 x1.2.2.1).bind fun r28 =>
        bif decide (0 ≤ x2.2.1) && decide (x2.2.1 < ((r1.1.1.set x2.1.toNat 0).length : Int)) then
          some (((r1.1.1.set x2.1.toNat 0).set x2.2.1.toNat r28.1, r1.1.2.1, w64 (1 - x1.2.2.1), if 200 < (w64 (x1.2.2.2.1 + 1)) then 200 else w64 (x1.2.2.2.1 + 1), ()), ())
        else
          none
    else
      none
  else
    none
noncomputable def f50_sig (k : Nat) : Sig := ⟨[.val (.pair (.str) (.pair (.int .i64) (.pair (.int .i64) (.pair (.sl (.pair (.int .u8) (.pair (.int .i64) (.pair (.int .i64) (.pair (.sl (.pair (.int .i64) (.pair (.int .i64) (.pair (.int .i64) (.pair (.int .i64) (.unit)))))) (.unit)))))) (.pair (.sl (.int .i64)) (.pair (.bool) (.pair (.bool) (.pair (.sl (.pair (.int .i64) (.pair (.int .i64) (.pair (.int .i64) (.pair (.bool) (.unit)))))) (.pair (.int .i64) (.pair (.int .i64) (.pair (.int .i64) (.unit)))))))))))), .val (.pair (.sl (.int .i64)) (.pair (.pair (.sl (.int .i64)) (.pair (.sl (.int .i64)) (.unit))) (.pair (.int .i64) (.pair (.int .i64) (.unit))))), .val (.pair (.int .i64) (.pair (.int .i64) (.pair (.int .i64) (.unit))))], [], [[.cons (.row (.int .i64)) (.cons (.cons (.row (.int .i64)) (.cons (.row (.int .i64)) (.nil))) (.cons (.val (.int .i64)) (.cons (.val (.int .i64)) (.nil))))]], fun x => f50 k x.1 x.2.1 x.2.2.1⟩
noncomputable def E_f50 (k : Nat) : Env := ⟨Try.prog, G0, scons 83 [f83_sig k] (scons 70 [f70_sig k] (scons 51 [f51_sig k] (snil))), tnil, tnil, unil, k, qnil⟩
theorem f50_run (k : Nat) (x : (lTy (lay 0 (f50_sig k).ins)).den) : runF (E_f50 k) Try.f50 (f50_sig k) x = (f50_sig k).F x := by kernel_rfl
theorem f50_ok [Dr] (k : Nat) : FnOK Try.prog G0 50 (f50_sig k) :=
  fn_ok2 (E := E_f50 k) (env_cons (one_sig (f83_ok k)) (env_cons (one_sig (f70_ok k)) (env_cons (one_sig (f51_ok k)) (env_nil)))) (qenv_nil) mixed Try.func50 Try.call50 (by kernel_rfl) (by kernel_rfl) (m := 0) (by kernel_rfl) trivial (sk := []) (by kernel_rfl) trivial (f50_run k)

/-! ### gamehall/moves.After: function 27 -/
noncomputable def f27 (k : Nat) (x0 : ByteArray × Int × Int × (List (Int × Int × Int × (List (Int × Int × Int × Int × Unit)) × Unit)) × (List Int) × Bool × Bool × (List (Int × Int × Int × Bool × Unit)) × Int × Int × Int × Unit) (x1 : (List Int) × ((List Int) × (List Int) × Unit) × Int × Int × Unit) (x2 : Int × Int × Int × Unit) : Option ((((List Int) × ((List Int) × (List Int) × Unit) × Int × Int × Unit) × Int × Unit)) :=
  (f52 k x0 x1 x2).bind fun r1 =>
  bif r1.2.1 != 0 then
    some (([], ([], [], ()), 0, 0, ()), r1.2)
  else
  bif !r1.1 then
    some (([], ([], [], ()), 0, 0, ()), 13, ())
  else
    (f50 k x0 x1 x2).bind fun r2 =>
    some (r2.1, 0, ())
noncomputable def f27_sig (k : Nat) : Sig := ⟨[.val (.pair (.str) (.pair (.int .i64) (.pair (.int .i64) (.pair (.sl (.pair (.int .u8) (.pair (.int .i64) (.pair (.int .i64) (.pair (.sl (.pair (.int .i64) (.pair (.int .i64) (.pair (.int .i64) (.pair (.int .i64) (.unit)))))) (.unit)))))) (.pair (.sl (.int .i64)) (.pair (.bool) (.pair (.bool) (.pair (.sl (.pair (.int .i64) (.pair (.int .i64) (.pair (.int .i64) (.pair (.bool) (.unit)))))) (.pair (.int .i64) (.pair (.int .i64) (.pair (.int .i64) (.unit)))))))))))), .val (.pair (.sl (.int .i64)) (.pair (.pair (.sl (.int .i64)) (.pair (.sl (.int .i64)) (.unit))) (.pair (.int .i64) (.pair (.int .i64) (.unit))))), .val (.pair (.int .i64) (.pair (.int .i64) (.pair (.int .i64) (.unit))))], [], [[.val (.pair (.sl (.int .i64)) (.pair (.pair (.sl (.int .i64)) (.pair (.sl (.int .i64)) (.unit))) (.pair (.int .i64) (.pair (.int .i64) (.unit))))), .val (.int .i64)]], fun x => f27 k x.1 x.2.1 x.2.2.1⟩
noncomputable def E_f27 (k : Nat) : Env := ⟨Try.prog, G0, scons 52 [f52_sig k] (scons 50 [f50_sig k] (snil)), tnil, tnil, unil, k, qnil⟩
theorem f27_run (k : Nat) (x : (lTy (lay 0 (f27_sig k).ins)).den) : runF (E_f27 k) Try.f27 (f27_sig k) x = (f27_sig k).F x := by kernel_rfl
theorem f27_ok [Dr] (k : Nat) : FnOK Try.prog G0 27 (f27_sig k) :=
  fn_ok2 (E := E_f27 k) (env_cons (one_sig (f52_ok k)) (env_cons (one_sig (f50_ok k)) (env_nil))) (qenv_nil) mixed Try.func27 Try.call27 (by kernel_rfl) (by kernel_rfl) (m := 0) (by kernel_rfl) trivial (sk := []) (by kernel_rfl) trivial (f27_run k)

/-! ### (*gamehall/plain.Game).Play: function 55 -/
noncomputable def f55 (k : Nat) (x0 : (ByteArray × Int × Int × (List (Int × Int × Int × (List (Int × Int × Int × Int × Unit)) × Unit)) × (List Int) × Bool × Bool × (List (Int × Int × Int × Bool × Unit)) × Int × Int × Int × Unit) × (List ((List Int) × ((List Int) × (List Int) × Unit) × Int × Int × Unit)) × (List (Int × Int × Int × Unit)) × Unit) (x1 : Int × Int × Int × Unit) : Option ((Int × ((ByteArray × Int × Int × (List (Int × Int × Int × (List (Int × Int × Int × Int × Unit)) × Unit)) × (List Int) × Bool × Bool × (List (Int × Int × Int × Bool × Unit)) × Int × Int × Int × Unit) × (List ((List Int) × ((List Int) × (List Int) × Unit) × Int × Int × Unit)) × (List (Int × Int × Int × Unit)) × Unit) × Unit)) :=
  (f57 k x0).bind fun r1 =>
  bif r1.1 != 0 then
    some (14, x0, ())
  else
  bif decide (0 ≤ (w64 ((x0.2.1.length : Int) - 1))) && decide ((w64 ((x0.2.1.length : Int) - 1)) < (x0.2.1.length : Int)) then
    (f27 k x0.1 (rd (([], ([], [], ()), 0, 0, ()) : (List Int) × ((List Int) × (List Int) × Unit) × Int × Int × Unit) x0.2.1 (w64 ((x0.2.1.length : Int) - 1))) x1).bind fun r2 =>
    bif r2.2.1 != 0 then
      some (13, x0, ())
    else
    bif (x0.2.2.1.length : Int) == 400 then
      some (9, x0, ())
    else
    bif decide ((x0.2.1.length + ([r2.1] : List ((List Int) × ((List Int) × (List Int) × Unit) × Int × Int × Unit)).length) * 88 ≤ roomN) then
      bif decide ((x0.2.2.1.length + ([x1] : List (Int × Int × Int × Unit)).length) * 24 ≤ roomN) then
        some (0, (x0.1, x0.2.1 ++ [r2.1], x0.2.2.1 ++ [x1], ()), ())
      else
        none
    else
      none
  else
    none
noncomputable def f55_sig (k : Nat) : Sig := ⟨[.box (.cons (.val (.pair (.str) (.pair (.int .i64) (.pair (.int .i64) (.pair (.sl (.pair (.int .u8) (.pair (.int .i64) (.pair (.int .i64) (.pair (.sl (.pair (.int .i64) (.pair (.int .i64) (.pair (.int .i64) (.pair (.int .i64) (.unit)))))) (.unit)))))) (.pair (.sl (.int .i64)) (.pair (.bool) (.pair (.bool) (.pair (.sl (.pair (.int .i64) (.pair (.int .i64) (.pair (.int .i64) (.pair (.bool) (.unit)))))) (.pair (.int .i64) (.pair (.int .i64) (.pair (.int .i64) (.unit))))))))))))) (.cons (.row (.pair (.sl (.int .i64)) (.pair (.pair (.sl (.int .i64)) (.pair (.sl (.int .i64)) (.unit))) (.pair (.int .i64) (.pair (.int .i64) (.unit)))))) (.cons (.row (.pair (.int .i64) (.pair (.int .i64) (.pair (.int .i64) (.unit))))) (.nil)))), .val (.pair (.int .i64) (.pair (.int .i64) (.pair (.int .i64) (.unit))))], [0], [[.val (.int .i64), .box (.cons (.val (.pair (.str) (.pair (.int .i64) (.pair (.int .i64) (.pair (.sl (.pair (.int .u8) (.pair (.int .i64) (.pair (.int .i64) (.pair (.sl (.pair (.int .i64) (.pair (.int .i64) (.pair (.int .i64) (.pair (.int .i64) (.unit)))))) (.unit)))))) (.pair (.sl (.int .i64)) (.pair (.bool) (.pair (.bool) (.pair (.sl (.pair (.int .i64) (.pair (.int .i64) (.pair (.int .i64) (.pair (.bool) (.unit)))))) (.pair (.int .i64) (.pair (.int .i64) (.pair (.int .i64) (.unit))))))))))))) (.cons (.row (.pair (.sl (.int .i64)) (.pair (.pair (.sl (.int .i64)) (.pair (.sl (.int .i64)) (.unit))) (.pair (.int .i64) (.pair (.int .i64) (.unit)))))) (.cons (.row (.pair (.int .i64) (.pair (.int .i64) (.pair (.int .i64) (.unit))))) (.nil))))]], fun x => f55 k x.1 x.2.1⟩
noncomputable def E_f55 (k : Nat) : Env := ⟨Try.prog, G0, scons 27 [f27_sig k] (snil), tnil, tnil, unil, k, qcons 57 (f57_q k) (qcons 84 (mkQ Try.prog G0 Try.f84) (qnil))⟩
theorem f55_run (k : Nat) (x : (lTy (lay 0 (f55_sig k).ins)).den) : runF (E_f55 k) Try.f55 (f55_sig k) x = (f55_sig k).F x := by kernel_rfl
theorem f55_ok [Dr] (k : Nat) : FnOK Try.prog G0 55 (f55_sig k) :=
  fn_ok2 (E := E_f55 k) (env_cons (one_sig (f27_ok k)) (env_nil)) (qenv_cons (f57_qok k) (qenv_cons (q_ok mixed Try.func84 Try.call84) (qenv_nil))) mixed Try.func55 Try.call55 (by kernel_rfl) (by kernel_rfl) (m := 0) (by kernel_rfl) trivial (sk := []) (by kernel_rfl) trivial (f55_run k)

/-! ### strings.Join: function 62, out of the library's own contract -/
open Go.Shelf in
def joinL_ren : Go.Shelf.Ren := ⟨fun | 156 => 62 | 165 => 89 | 166 => 90 | 169 => 91 | 240 => 104 | 241 => 105 | 276 => 128 | 277 => 129 | n => n, fun | 31 => 34 | 9 => 9 | 3 => 3 | 4 => 4 | 0 => 0 | 20 => 20 | 72 => 146 | 76 => 150 | 70 => 143 | 37 => 144 | 75 => 149 | 127 => 166 | 164 => 188 | 5 => 5 | 80 => 152 | n => n, fun | n => n⟩
open Go.Shelf in
theorem joinL : Go.Proofs.Lays.n156 Try.prog joinL_ren := {
  mixed := by kernel_rfl
  f156 := Try.func62.trans (congrArg some (by kernel_rfl))
  f165 := Try.func89.trans (congrArg some (by kernel_rfl))
  f166 := Try.func90.trans (congrArg some (by kernel_rfl))
  f169 := Try.func91.trans (congrArg some (by kernel_rfl))
  f240 := Try.func104.trans (congrArg some (by kernel_rfl))
  f241 := Try.func105.trans (congrArg some (by kernel_rfl))
  f276 := Try.func128.trans (congrArg some (by kernel_rfl))
  f277 := Try.func129.trans (congrArg some (by kernel_rfl))
  t0 := Try.underlying0
  a0 := Try.isAgg0
  z0 := Try.sizeOf0
  v0 := Try.zeroValue0
  t3 := Try.underlying3
  a3 := Try.isAgg3
  z3 := Try.sizeOf3
  v3 := Try.zeroValue3
  t4 := Try.underlying4
  a4 := Try.isAgg4
  z4 := Try.sizeOf4
  v4 := Try.zeroValue4
  t9 := Try.underlying9
  a9 := Try.isAgg9
  z9 := Try.sizeOf9
  v9 := Try.zeroValue9
  t20 := Try.underlying20
  a20 := Try.isAgg20
  z20 := Try.sizeOf20
  v20 := Try.zeroValue20
  t31 := Try.underlying34
  a31 := Try.isAgg34
  z31 := Try.sizeOf34
  v31 := Try.zeroValue34
  t37 := Try.underlying144
  a37 := Try.isAgg144
  z37 := Try.sizeOf144
  v37 := Try.zeroValue144
  t70 := Try.underlying143
  a70 := Try.isAgg143
  z70 := Try.sizeOf143
  v70 := Try.zeroValue143
  t72 := Try.underlying146
  a72 := Try.isAgg146
  z72 := Try.sizeOf146
  v72 := Try.zeroValue146
  t75 := Try.underlying149
  a75 := Try.isAgg149
  z75 := Try.sizeOf149
  v75 := Try.zeroValue149
  t76 := Try.underlying150
  a76 := Try.isAgg150
  z76 := Try.sizeOf150
  v76 := Try.zeroValue150
  t127 := Try.underlying166
  a127 := Try.isAgg166
  z127 := Try.sizeOf166
  v127 := Try.zeroValue166
  t164 := Try.underlying188
  a164 := Try.isAgg188
  z164 := Try.sizeOf188
  v164 := Try.zeroValue188 }
open Go.Shelf in
theorem joinX : Go.Proofs.Builder.Extra Try.prog joinL_ren := {
  sizeBuilder := by kernel_rfl
  liesBuilder := by kernel_rfl
  t5 := Try.underlying5
  a5 := Try.isAgg5
  z5 := Try.sizeOf5
  v5 := Try.zeroValue5
  infoByte := by kernel_rfl
  cellsByte := by kernel_rfl
  sizeByte := by kernel_rfl
  neB5 := by decide }

noncomputable def f62 (k : Nat) (x0 : List ByteArray) (x1 : ByteArray) : Option (ByteArray × Unit) :=
  bif decide ((joinB x0 x1).size ≤ 281474976710656) && decide (x0.length ≤ 140737488355328) then some (joinB x0 x1, ()) else none
noncomputable def f62_sig (k : Nat) : Sig := ⟨[.val (.sl .str), .val .str], [], [[.val .str]], fun x => f62 k x.1 x.2.1⟩
theorem f62_ok (k : Nat) : FnOK Try.prog G0 62 (f62_sig k) := join_ok (ρ := joinL_ren) joinL joinX Try.call62


/-! ### gamehall/movetext.Line: function 33 -/
noncomputable def l33_6 (k : Nat) : Nat → (ByteArray × Int × Int × (List (Int × Int × Int × (List (Int × Int × Int × Int × Unit)) × Unit)) × (List Int) × Bool × Bool × (List (Int × Int × Int × Bool × Unit)) × Int × Int × Int × Unit) → ((ByteArray × Int × Int × (List (Int × Int × Int × (List (Int × Int × Int × Int × Unit)) × Unit)) × (List Int) × Bool × Bool × (List (Int × Int × Int × Bool × Unit)) × Int × Int × Int × Unit) × (List ((List Int) × ((List Int) × (List Int) × Unit) × Int × Int × Unit)) × (List (Int × Int × Int × Unit)) × Unit) → (List ByteArray) → (List (Int × Int × Int × Unit)) → Int → Int → Option (((List ByteArray) × Unit) ⊕ (ByteArray × Int × Unit))
  | 0, _, _, _, _, _, _ => none
  | j + 1, s2, s6, s8, s22, s23, s24 =>
    bif decide (s24 < s23) then
      bif decide (0 ≤ s24) && decide (s24 < (s22.length : Int)) then
        (f56 k s6).bind fun r1 =>
        (f16 k s2 r1.1 (rd ((0, 0, 0, ()) : Int × Int × Int × Unit) s22 s24)).bind fun r2 =>
        (f55 k s6 (rd ((0, 0, 0, ()) : Int × Int × Int × Unit) s22 s24)).bind fun r3 =>
        bif r3.1 != 0 then
          some (.inr ((⟨#[]⟩ : ByteArray), r3.1, ()))
        else
        bif r2.2.1 != 0 then
          some (.inr ((⟨#[]⟩ : ByteArray), r2.2))
        else
        bif decide ((s8.length + [r2.1].length) * 16 ≤ roomN) then
          l33_6 k j s2 r3.2.1 (s8 ++ [r2.1]) s22 s23 (w64 (s24 + 1))
        else
          none
      else
        none
    else
      some (.inl (s8, ()))
noncomputable def l33_6_sig (k : Nat) : LoopSig := ⟨[(2, .obj (.box (.val (.pair (.str) (.pair (.int .i64) (.pair (.int .i64) (.pair (.sl (.pair (.int .u8) (.pair (.int .i64) (.pair (.int .i64) (.pair (.sl (.pair (.int .i64) (.pair (.int .i64) (.pair (.int .i64) (.pair (.int .i64) (.unit)))))) (.unit)))))) (.pair (.sl (.int .i64)) (.pair (.bool) (.pair (.bool) (.pair (.sl (.pair (.int .i64) (.pair (.int .i64) (.pair (.int .i64) (.pair (.bool) (.unit)))))) (.pair (.int .i64) (.pair (.int .i64) (.pair (.int .i64) (.unit))))))))))))))), (6, .obj (.box (.cons (.val (.pair (.str) (.pair (.int .i64) (.pair (.int .i64) (.pair (.sl (.pair (.int .u8) (.pair (.int .i64) (.pair (.int .i64) (.pair (.sl (.pair (.int .i64) (.pair (.int .i64) (.pair (.int .i64) (.pair (.int .i64) (.unit)))))) (.unit)))))) (.pair (.sl (.int .i64)) (.pair (.bool) (.pair (.bool) (.pair (.sl (.pair (.int .i64) (.pair (.int .i64) (.pair (.int .i64) (.pair (.bool) (.unit)))))) (.pair (.int .i64) (.pair (.int .i64) (.pair (.int .i64) (.unit))))))))))))) (.cons (.row (.pair (.sl (.int .i64)) (.pair (.pair (.sl (.int .i64)) (.pair (.sl (.int .i64)) (.unit))) (.pair (.int .i64) (.pair (.int .i64) (.unit)))))) (.cons (.row (.pair (.int .i64) (.pair (.int .i64) (.pair (.int .i64) (.unit))))) (.nil)))))), (8, .obj (.row (.str))), (22, .obj (.val (.sl (.pair (.int .i64) (.pair (.int .i64) (.pair (.int .i64) (.unit))))))), (23, .obj (.val (.int .i64))), (24, .obj (.val (.int .i64)))], [(.exit 0, [(8, .obj (.row (.str)))]), (.ret, [(4, .obj (.val (.str))), (5, .obj (.val (.int .i64)))])], fun j x => l33_6 k j x.1 x.2.1 x.2.2.1 x.2.2.2.1 x.2.2.2.2.1 x.2.2.2.2.2.1⟩
noncomputable def f33 (k : Nat) (x0 : ByteArray × Int × Int × (List (Int × Int × Int × (List (Int × Int × Int × Int × Unit)) × Unit)) × (List Int) × Bool × Bool × (List (Int × Int × Int × Bool × Unit)) × Int × Int × Int × Unit) (x1 : List (Int × Int × Int × Unit)) : Option ((ByteArray × Int × Unit)) :=
  (f54 k x0).bind fun w24 =>
  Sum.elim
    (fun y1 =>
      bif y1.2.1 != 0 then
        some ((⟨#[]⟩ : ByteArray), y1.2)
      else
        (l33_6 k k x0 y1.1 [] x1 (x1.length : Int) 0).bind fun w25 =>
        Sum.elim
          (fun y2 =>
            (f62 k y2.1 (⟨#[32]⟩ : ByteArray)).bind fun r3 =>
            some (r3.1, 0, ()))
          (fun y4 =>
            some y4)
          w25)
    (fun y5 =>
      bif y5.2.1 != 0 then
        some ((⟨#[]⟩ : ByteArray), y5.2)
      else
        none)
    w24
noncomputable def f33_sig (k : Nat) : Sig := ⟨[.val (.pair (.str) (.pair (.int .i64) (.pair (.int .i64) (.pair (.sl (.pair (.int .u8) (.pair (.int .i64) (.pair (.int .i64) (.pair (.sl (.pair (.int .i64) (.pair (.int .i64) (.pair (.int .i64) (.pair (.int .i64) (.unit)))))) (.unit)))))) (.pair (.sl (.int .i64)) (.pair (.bool) (.pair (.bool) (.pair (.sl (.pair (.int .i64) (.pair (.int .i64) (.pair (.int .i64) (.pair (.bool) (.unit)))))) (.pair (.int .i64) (.pair (.int .i64) (.pair (.int .i64) (.unit)))))))))))), .val (.sl (.pair (.int .i64) (.pair (.int .i64) (.pair (.int .i64) (.unit)))))], [], [[.val (.str), .val (.int .i64)]], fun x => f33 k x.1 x.2.1⟩
noncomputable def E_f33 (k : Nat) : Env := ⟨Try.prog, G0, scons 62 [f62_sig k] (scons 55 [f55_sig k] (scons 54 [f54_sig k] (scons 16 [f16_sig k] (snil)))), tcons 6 (l33_6_sig k) (tnil), tnil, unil, k, qcons 56 (f56_q k) (qnil)⟩
theorem l33_6_ok (k : Nat) : LoopOK (E_f33 k) ⟨Try.f33.ntmps, [], G0⟩ (nthC 0 (loopsIn (Try.f33.body.getD .skip))) :=
  loop_ok (ls := l33_6_sig k) (by kernel_rfl) (fun _ => by kernel_rfl) (fun j x => by kernel_rfl)
theorem f33_run (k : Nat) (x : (lTy (lay 0 (f33_sig k).ins)).den) : runF (E_f33 k) Try.f33 (f33_sig k) x = (f33_sig k).F x := by kernel_rfl
theorem f33_ok (k : Nat) : FnOK Try.prog G0 33 (f33_sig k) :=
  fn_ok2 (E := E_f33 k) (env_cons (one_sig (f62_ok k)) (env_cons (one_sig (f55_ok k)) (env_cons (one_sig (f54_ok k)) (env_cons (one_sig (f16_ok k)) (env_nil))))) (qenv_cons (f56_qok k) (qenv_nil)) mixed Try.func33 Try.call33 (by kernel_rfl) (by kernel_rfl) (m := 1) (by kernel_rfl) ⟨trivial, l33_6_ok k⟩ (sk := []) (by kernel_rfl) trivial (f33_run k)

/-! ### gamehall/gamehallkeep3.MovetextParts: function 9 -/
noncomputable def f9 (k : Nat) (x0 : ByteArray × Int × Int × (List (Int × Int × Int × (List (Int × Int × Int × Int × Unit)) × Unit)) × (List Int) × Bool × Bool × (List (Int × Int × Int × Bool × Unit)) × Int × Int × Int × Unit) (x1 : List (Int × Int × Int × Unit)) (x2 : Int) : Option ((Bool × Unit)) :=
  (f11 k).bind fun r1 =>
  bif !r1.1 then
    some (false, ())
  else
    (f23 k x1).bind fun r2 =>
    (f12 k x0).bind fun r3 =>
    bif r3.1 then
      some (true, ())
    else
      (f33 k x0 r2.1).bind fun r4 =>
      bif decide (0 ≤ (if (if (r2.1.length : Int) < x2 then (r2.1.length : Int) else x2) > 0 then if (r2.1.length : Int) < x2 then (r2.1.length : Int) else x2 else 0)) && decide ((if (if (r2.1.length : Int) < x2 then (r2.1.length : Int) else x2) > 0 then if (r2.1.length : Int) < x2 then (r2.1.length : Int) else x2 else 0) ≤ (r2.1.length : Int)) then
        (f33 k x0 (sliceOf r2.1 0 (if (if (r2.1.length : Int) < x2 then (r2.1.length : Int) else x2) > 0 then if (r2.1.length : Int) < x2 then (r2.1.length : Int) else x2 else 0))).bind fun r5 =>
        bif r4.2.1 != 0 then
          some (r4.1.toList == (⟨#[]⟩ : ByteArray).toList, ())
        else
        bif r5.2.1 == 0 then
          bif decide ((r5.1.size : Int) ≤ (r4.1.size : Int)) then
            bif decide (0 ≤ (r5.1.size : Int)) && decide ((r5.1.size : Int) ≤ (r4.1.size : Int)) then
              bif (r4.1.extract (0 : Int).toNat (r5.1.size : Int).toNat).toList == r5.1.toList then
                some (((if (if (r2.1.length : Int) < x2 then (r2.1.length : Int) else x2) > 0 then if (r2.1.length : Int) < x2 then (r2.1.length : Int) else x2 else 0) == (r2.1.length : Int)) == ((r5.1.size : Int) == (r4.1.size : Int)), ())
              else
                some (false, ())
            else
              none
          else
            some (false, ())
        else
          some (false, ())
      else
        none
noncomputable def f9_sig (k : Nat) : Sig := ⟨[.val (.pair (.str) (.pair (.int .i64) (.pair (.int .i64) (.pair (.sl (.pair (.int .u8) (.pair (.int .i64) (.pair (.int .i64) (.pair (.sl (.pair (.int .i64) (.pair (.int .i64) (.pair (.int .i64) (.pair (.int .i64) (.unit)))))) (.unit)))))) (.pair (.sl (.int .i64)) (.pair (.bool) (.pair (.bool) (.pair (.sl (.pair (.int .i64) (.pair (.int .i64) (.pair (.int .i64) (.pair (.bool) (.unit)))))) (.pair (.int .i64) (.pair (.int .i64) (.pair (.int .i64) (.unit)))))))))))), .val (.sl (.pair (.int .i64) (.pair (.int .i64) (.pair (.int .i64) (.unit))))), .val (.int .i64)], [], [[.val (.bool)]], fun x => f9 k x.1 x.2.1 x.2.2.1⟩
noncomputable def E_f9 (k : Nat) : Env := ⟨Try.prog, G0, scons 33 [f33_sig k] (scons 23 [f23_sig k] (scons 12 [f12_sig k] (scons 11 [f11_sig k] (snil)))), tnil, tnil, unil, k, qnil⟩
theorem f9_run (k : Nat) (x : (lTy (lay 0 (f9_sig k).ins)).den) : runF (E_f9 k) Try.f9 (f9_sig k) x = (f9_sig k).F x := by kernel_rfl
theorem f9_ok (k : Nat) : FnOK Try.prog G0 9 (f9_sig k) :=
  fn_ok2 (E := E_f9 k) (env_cons (one_sig (f33_ok k)) (env_cons (one_sig (f23_ok k)) (env_cons (one_sig (f12_ok k)) (env_cons (one_sig (f11_ok k)) (env_nil))))) (qenv_nil) mixed Try.func9 Try.call9 (by kernel_rfl) (by kernel_rfl) (m := 0) (by kernel_rfl) trivial (sk := []) (by kernel_rfl) trivial (f9_run k)
end Go.Proofs.Ytphgopfhobockaa.G
