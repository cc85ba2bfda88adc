import Derived.Test.YtnjjioeehbanjaaVM23
import Derived.Test.YtnjjioeehbanjaaChecked
namespace Go.Proofs.Ytnjjioeehbanjaa.G
open Go.VM Go.Proofs

abbrev w64 (n : Int) : Int := IntKind.i64.wrap n
theorem mixed : Try.prog.follows .mixedOrders = true := by kernel_rfl
noncomputable def G0 : GTab := []

/-! ### gamehall/gamehallkeep3.tic: function 26 -/
noncomputable def f26 (k : Nat) : Option (((ByteArray × Int × Int × (List (Int × Int × Int × (List (Int × Int × Int × Int × Unit)) × Unit)) × (List Int) × Bool × Bool × (List (Int × Int × Int × Bool × Unit)) × Int × Int × Int × Unit) × Unit)) :=
  some (((⟨#[84, 73, 67]⟩ : ByteArray), 3, 3, [(83, 5, 0, [], ())], List.replicate (9 : Int).toNat 0, false, false, [(0, 0, 3, false, ())], 2, 0, 0, ()), ())
noncomputable def f26_sig (k : Nat) : Sig := ⟨[], [], [[.cons (.val (.str)) (.cons (.val (.int .i64)) (.cons (.val (.int .i64)) (.cons (.row (.pair (.int .u8) (.pair (.int .i64) (.pair (.int .i64) (.pair (.sl (.pair (.int .i64) (.pair (.int .i64) (.pair (.int .i64) (.pair (.int .i64) (.unit)))))) (.unit)))))) (.cons (.row (.int .i64)) (.cons (.val (.bool)) (.cons (.val (.bool)) (.cons (.row (.pair (.int .i64) (.pair (.int .i64) (.pair (.int .i64) (.pair (.bool) (.unit)))))) (.cons (.val (.int .i64)) (.cons (.val (.int .i64)) (.cons (.val (.int .i64)) (.nil)))))))))))]], fun x => f26 k⟩
noncomputable def E_f26 (k : Nat) : Env := ⟨Try.prog, G0, snil, tnil, tnil, unil, k, qnil⟩
theorem f26_run (k : Nat) (x : (lTy (lay 0 (f26_sig k).ins)).den) : runF (E_f26 k) Try.f26 (f26_sig k) x = (f26_sig k).F x := by kernel_rfl
theorem f26_ok [Dr] (k : Nat) : FnOK Try.prog G0 26 (f26_sig k) :=
  fn_ok2 (E := E_f26 k) (env_nil) (qenv_nil) mixed Try.func26 Try.call26 (by kernel_rfl) (by kernel_rfl) (m := 0) (by kernel_rfl) trivial (sk := []) (by kernel_rfl) trivial (f26_run k)

/-! ### gamehall/rules.Name: function 36 -/
noncomputable def l36_4 (k : Nat) : Nat → ByteArray → Int → Int → Option (Unit ⊕ (Bool × Unit))
  | 0, _, _, _ => none
  | j + 1, s0, s22, s23 =>
    bif decide (s23 < s22) then
      bif decide (0 ≤ s23) && decide (s23 < (s0.size : Int)) then
        bif decide ((bt s0 s23) < 65) then
          bif decide (0 ≤ s23) && decide (s23 < (s0.size : Int)) then
            bif decide ((bt s0 s23) < 48) then
              some (.inr (false, ()))
            else
            bif decide (0 ≤ s23) && decide (s23 < (s0.size : Int)) then
              bif decide ((bt s0 s23) > 57) then
                some (.inr (false, ()))
              else
                l36_4 k j s0 s22 (w64 (s23 + 1))
            else
              none
          else
            none
        else
        bif decide (0 ≤ s23) && decide (s23 < (s0.size : Int)) then
          bif decide ((bt s0 s23) > 90) then
            bif decide (0 ≤ s23) && decide (s23 < (s0.size : Int)) then
              bif decide ((bt s0 s23) < 48) then
                some (.inr (false, ()))
              else
              bif decide (0 ≤ s23) && decide (s23 < (s0.size : Int)) then
                bif decide ((bt s0 s23) > 57) then
                  some (.inr (false, ()))
                else
                  l36_4 k j s0 s22 (w64 (s23 + 1))
              else
                none
            else
              none
          else
            l36_4 k j s0 s22 (w64 (s23 + 1))
        else
          none
      else
        none
    else
      some (.inl ())
noncomputable def l36_4_sig (k : Nat) : LoopSig := ⟨[(0, .obj (.val (.str))), (22, .obj (.val (.int .i64))), (23, .obj (.val (.int .i64)))], [(.exit 0, []), (.ret, [(2, .obj (.val (.bool)))])], fun j x => l36_4 k j x.1 x.2.1 x.2.2.1⟩
noncomputable def f36 (k : Nat) (x0 : ByteArray) : Option ((Bool × Unit)) :=
  bif x0.toList == (⟨#[]⟩ : ByteArray).toList then
    some (false, ())
  else
  bif decide ((x0.size : Int) > 8) then
    some (false, ())
  else
  bif decide (0 < (x0.size : Int)) then
    bif decide ((bt x0 0) ≥ 48) then
      bif decide (0 < (x0.size : Int)) then
        bif decide ((bt x0 0) ≤ 57) then
          some (false, ())
        else
          (l36_4 k k x0 (x0.size : Int) 0).bind fun w1 =>
          Sum.elim
            (fun y1 =>
              some (true, ()))
            (fun y2 =>
              some y2)
            w1
      else
        none
    else
      (l36_4 k k x0 (x0.size : Int) 0).bind fun w2 =>
      Sum.elim
        (fun y3 =>
          some (true, ()))
        (fun y4 =>
          some y4)
        w2
  else
    none
noncomputable def f36_sig (k : Nat) : Sig := ⟨[.val (.str)], [], [[.val (.bool)]], fun x => f36 k x.1⟩
noncomputable def E_f36 (k : Nat) : Env := ⟨Try.prog, G0, snil, tcons 4 (l36_4_sig k) (tnil), tnil, unil, k, qnil⟩
theorem l36_4_ok (k : Nat) : LoopOK (E_f36 k) ⟨Try.f36.ntmps, [], G0⟩ (nthC 0 (loopsIn (Try.f36.body.getD .skip))) :=
  loop_ok (ls := l36_4_sig k) (by kernel_rfl) (fun _ => by kernel_rfl) (fun j x => by kernel_rfl)
theorem f36_run (k : Nat) (x : (lTy (lay 0 (f36_sig k).ins)).den) : runF (E_f36 k) Try.f36 (f36_sig k) x = (f36_sig k).F x := by kernel_rfl
theorem f36_ok [Dr] (k : Nat) : FnOK Try.prog G0 36 (f36_sig k) :=
  fn_ok2 (E := E_f36 k) (env_nil) (qenv_nil) mixed Try.func36 Try.call36 (by kernel_rfl) (by kernel_rfl) (m := 1) (by kernel_rfl) ⟨trivial, l36_4_ok k⟩ (sk := []) (by kernel_rfl) trivial (f36_run k)

/-! ### gamehall/rules.way: function 43 -/
noncomputable def f43 (k : Nat) (x0 : Int × Int × Int × Int × Unit) : Option ((Int × Unit)) :=
  bif decide (x0.1 < (-7)) then
    some (4, ())
  else
  bif decide (x0.1 > 7) then
    some (4, ())
  else
  bif decide (x0.2.1 < (-7)) then
    some (4, ())
  else
  bif decide (x0.2.1 > 7) then
    some (4, ())
  else
  bif x0.1 == 0 then
    bif x0.2.1 == 0 then
      some (4, ())
    else
    bif decide (x0.2.2.1 < 1) then
      some (4, ())
    else
    bif decide (x0.2.2.1 > 7) then
      some (4, ())
    else
    bif decide (x0.2.2.2.1 < 0) then
      some (4, ())
    else
    bif decide (x0.2.2.2.1 > 2) then
      some (4, ())
    else
      some (0, ())
  else
  bif decide (x0.2.2.1 < 1) then
    some (4, ())
  else
  bif decide (x0.2.2.1 > 7) then
    some (4, ())
  else
  bif decide (x0.2.2.2.1 < 0) then
    some (4, ())
  else
  bif decide (x0.2.2.2.1 > 2) then
    some (4, ())
  else
    some (0, ())
noncomputable def f43_sig (k : Nat) : Sig := ⟨[.val (.pair (.int .i64) (.pair (.int .i64) (.pair (.int .i64) (.pair (.int .i64) (.unit)))))], [], [[.val (.int .i64)]], fun x => f43 k x.1⟩
noncomputable def E_f43 (k : Nat) : Env := ⟨Try.prog, G0, snil, tnil, tnil, unil, k, qnil⟩
theorem f43_run (k : Nat) (x : (lTy (lay 0 (f43_sig k).ins)).den) : runF (E_f43 k) Try.f43 (f43_sig k) x = (f43_sig k).F x := by kernel_rfl
theorem f43_ok [Dr] (k : Nat) : FnOK Try.prog G0 43 (f43_sig k) :=
  fn_ok2 (E := E_f43 k) (env_nil) (qenv_nil) mixed Try.func43 Try.call43 (by kernel_rfl) (by kernel_rfl) (m := 0) (by kernel_rfl) trivial (sk := []) (by kernel_rfl) trivial (f43_run k)

/-! ### gamehall/rules.pieces: function 37 -/
noncomputable def l37_11 (k : Nat) : Nat → (List (Int × Int × Int × (List (Int × Int × Int × Int × Unit)) × Unit)) → (Int × Int × Int × (List (Int × Int × Int × Int × Unit)) × Unit) → (List (Int × Int × Int × (List (Int × Int × Int × Int × Unit)) × Unit)) → Int → Int → (List (Int × Int × Int × (List (Int × Int × Int × Int × Unit)) × Unit)) → Int → Int → Option (((List (Int × Int × Int × (List (Int × Int × Int × Int × Unit)) × Unit)) × (Int × Int × Int × (List (Int × Int × Int × Int × Unit)) × Unit) × (List (Int × Int × Int × (List (Int × Int × Int × Int × Unit)) × Unit)) × Int × Int × Unit) ⊕ (Int × Unit))
  | 0, _, _, _, _, _, _, _, _ => none
  | j + 1, s0, s4, s18, s19, s20, s35, s36, s37 =>
    bif decide (s37 < s36) then
      bif decide (0 ≤ s37) && decide (s37 < (s35.length : Int)) then
        bif (rd ((0, 0, 0, [], ()) : Int × Int × Int × (List (Int × Int × Int × Int × Unit)) × Unit) s35 s37).1 == s4.1 then
          some (.inr (7, ()))
        else
          l37_11 k j s0 s4 s18 s19 s20 s35 s36 (w64 (s37 + 1))
      else
        none
    else
      some (.inl (s0, s4, s18, s19, s20, ()))
noncomputable def l37_11_sig (k : Nat) : LoopSig := ⟨[(0, .obj (.val (.sl (.pair (.int .u8) (.pair (.int .i64) (.pair (.int .i64) (.pair (.sl (.pair (.int .i64) (.pair (.int .i64) (.pair (.int .i64) (.pair (.int .i64) (.unit)))))) (.unit)))))))), (4, .obj (.box (.val (.pair (.int .u8) (.pair (.int .i64) (.pair (.int .i64) (.pair (.sl (.pair (.int .i64) (.pair (.int .i64) (.pair (.int .i64) (.pair (.int .i64) (.unit)))))) (.unit)))))))), (18, .obj (.val (.sl (.pair (.int .u8) (.pair (.int .i64) (.pair (.int .i64) (.pair (.sl (.pair (.int .i64) (.pair (.int .i64) (.pair (.int .i64) (.pair (.int .i64) (.unit)))))) (.unit)))))))), (19, .obj (.val (.int .i64))), (20, .obj (.val (.int .i64))), (35, .obj (.val (.sl (.pair (.int .u8) (.pair (.int .i64) (.pair (.int .i64) (.pair (.sl (.pair (.int .i64) (.pair (.int .i64) (.pair (.int .i64) (.pair (.int .i64) (.unit)))))) (.unit)))))))), (36, .obj (.val (.int .i64))), (37, .obj (.val (.int .i64)))], [(.exit 3, [(0, .obj (.val (.sl (.pair (.int .u8) (.pair (.int .i64) (.pair (.int .i64) (.pair (.sl (.pair (.int .i64) (.pair (.int .i64) (.pair (.int .i64) (.pair (.int .i64) (.unit)))))) (.unit)))))))), (4, .obj (.box (.val (.pair (.int .u8) (.pair (.int .i64) (.pair (.int .i64) (.pair (.sl (.pair (.int .i64) (.pair (.int .i64) (.pair (.int .i64) (.pair (.int .i64) (.unit)))))) (.unit)))))))), (18, .obj (.val (.sl (.pair (.int .u8) (.pair (.int .i64) (.pair (.int .i64) (.pair (.sl (.pair (.int .i64) (.pair (.int .i64) (.pair (.int .i64) (.pair (.int .i64) (.unit)))))) (.unit)))))))), (19, .obj (.val (.int .i64))), (20, .obj (.val (.int .i64)))]), (.ret, [(2, .obj (.val (.int .i64)))])], fun j x => l37_11 k j x.1 x.2.1 x.2.2.1 x.2.2.2.1 x.2.2.2.2.1 x.2.2.2.2.2.1 x.2.2.2.2.2.2.1 x.2.2.2.2.2.2.2.1⟩
noncomputable def l37_21 (k : Nat) : Nat → (List (Int × Int × Int × (List (Int × Int × Int × Int × Unit)) × Unit)) → (List (Int × Int × Int × (List (Int × Int × Int × Int × Unit)) × Unit)) → Int → Int → (List (Int × Int × Int × Int × Unit)) → Int → Int → Option (((List (Int × Int × Int × (List (Int × Int × Int × Int × Unit)) × Unit)) × (List (Int × Int × Int × (List (Int × Int × Int × Int × Unit)) × Unit)) × Int × Int × Unit) ⊕ (Int × Unit))
  | 0, _, _, _, _, _, _, _ => none
  | j + 1, s0, s18, s19, s20, s72, s73, s74 =>
    bif decide (s74 < s73) then
      bif decide (0 ≤ s74) && decide (s74 < (s72.length : Int)) then
        (f43 k (rd ((0, 0, 0, 0, ()) : Int × Int × Int × Int × Unit) s72 s74)).bind fun r1 =>
        bif r1.1 != 0 then
          some (.inr r1)
        else
          l37_21 k j s0 s18 s19 s20 s72 s73 (w64 (s74 + 1))
      else
        none
    else
      some (.inl (s0, s18, s19, s20, ()))
noncomputable def l37_21_sig (k : Nat) : LoopSig := ⟨[(0, .obj (.val (.sl (.pair (.int .u8) (.pair (.int .i64) (.pair (.int .i64) (.pair (.sl (.pair (.int .i64) (.pair (.int .i64) (.pair (.int .i64) (.pair (.int .i64) (.unit)))))) (.unit)))))))), (18, .obj (.val (.sl (.pair (.int .u8) (.pair (.int .i64) (.pair (.int .i64) (.pair (.sl (.pair (.int .i64) (.pair (.int .i64) (.pair (.int .i64) (.pair (.int .i64) (.unit)))))) (.unit)))))))), (19, .obj (.val (.int .i64))), (20, .obj (.val (.int .i64))), (72, .obj (.val (.sl (.pair (.int .i64) (.pair (.int .i64) (.pair (.int .i64) (.pair (.int .i64) (.unit)))))))), (73, .obj (.val (.int .i64))), (74, .obj (.val (.int .i64)))], [(.exit 5, [(0, .obj (.val (.sl (.pair (.int .u8) (.pair (.int .i64) (.pair (.int .i64) (.pair (.sl (.pair (.int .i64) (.pair (.int .i64) (.pair (.int .i64) (.pair (.int .i64) (.unit)))))) (.unit)))))))), (18, .obj (.val (.sl (.pair (.int .u8) (.pair (.int .i64) (.pair (.int .i64) (.pair (.sl (.pair (.int .i64) (.pair (.int .i64) (.pair (.int .i64) (.pair (.int .i64) (.unit)))))) (.unit)))))))), (19, .obj (.val (.int .i64))), (20, .obj (.val (.int .i64)))]), (.ret, [(2, .obj (.val (.int .i64)))])], fun j x => l37_21 k j x.1 x.2.1 x.2.2.1 x.2.2.2.1 x.2.2.2.2.1 x.2.2.2.2.2.1 x.2.2.2.2.2.2.1⟩
noncomputable def l37_6 (k : Nat) : Nat → (List (Int × Int × Int × (List (Int × Int × Int × Int × Unit)) × Unit)) → (List (Int × Int × Int × (List (Int × Int × Int × Int × Unit)) × Unit)) → Int → Int → Option (Unit ⊕ (Int × Unit))
  | 0, _, _, _, _ => none
  | j + 1, s0, s18, s19, s20 =>
    bif decide (s20 < s19) then
      bif decide (0 ≤ s20) && decide (s20 < (s18.length : Int)) then
        bif decide ((rd ((0, 0, 0, [], ()) : Int × Int × Int × (List (Int × Int × Int × Int × Unit)) × Unit) s18 s20).1 < 65) then
          some (.inr (6, ()))
        else
        bif decide ((rd ((0, 0, 0, [], ()) : Int × Int × Int × (List (Int × Int × Int × Int × Unit)) × Unit) s18 s20).1 > 90) then
          some (.inr (6, ()))
        else
        bif decide (0 ≤ s20) && decide (s20 ≤ (s0.length : Int)) then
          (l37_11 k k s0 (rd ((0, 0, 0, [], ()) : Int × Int × Int × (List (Int × Int × Int × Int × Unit)) × Unit) s18 s20) s18 s19 s20 (sliceOf s0 0 s20) ((sliceOf s0 0 s20).length : Int) 0).bind fun w3 =>
          Sum.elim
            (fun y1 =>
              bif decide (y1.2.1.2.1 < 0) then
                some (.inr (4, ()))
              else
              bif decide (y1.2.1.2.1 > 64) then
                some (.inr (4, ()))
              else
              bif decide (y1.2.1.2.2.1 < 0) then
                some (.inr (4, ()))
              else
              bif decide (y1.2.1.2.2.1 > (y1.1.length : Int)) then
                some (.inr (4, ()))
              else
              bif decide ((y1.2.1.2.2.2.1.length : Int) > 16) then
                some (.inr (2, ()))
              else
                (l37_21 k k y1.1 y1.2.2.1 y1.2.2.2.1 y1.2.2.2.2.1 y1.2.1.2.2.2.1 (y1.2.1.2.2.2.1.length : Int) 0).bind fun w4 =>
                Sum.elim
                  (fun y2 =>
                    l37_6 k j y2.1 y2.2.1 y2.2.2.1 (w64 (y2.2.2.2.1 + 1)))
                  (fun y3 =>
                    some (.inr y3))
                  w4)
            (fun y4 =>
              some (.inr y4))
            w3
        else
          none
      else
        none
    else
      some (.inl ())
noncomputable def l37_6_sig (k : Nat) : LoopSig := ⟨[(0, .obj (.val (.sl (.pair (.int .u8) (.pair (.int .i64) (.pair (.int .i64) (.pair (.sl (.pair (.int .i64) (.pair (.int .i64) (.pair (.int .i64) (.pair (.int .i64) (.unit)))))) (.unit)))))))), (18, .obj (.val (.sl (.pair (.int .u8) (.pair (.int .i64) (.pair (.int .i64) (.pair (.sl (.pair (.int .i64) (.pair (.int .i64) (.pair (.int .i64) (.pair (.int .i64) (.unit)))))) (.unit)))))))), (19, .obj (.val (.int .i64))), (20, .obj (.val (.int .i64)))], [(.exit 1, []), (.ret, [(2, .obj (.val (.int .i64)))])], fun j x => l37_6 k j x.1 x.2.1 x.2.2.1 x.2.2.2.1⟩
noncomputable def f37 (k : Nat) (x0 : List (Int × Int × Int × (List (Int × Int × Int × Int × Unit)) × Unit)) : Option ((Int × Unit)) :=
  bif (x0.length : Int) == 0 then
    some (8, ())
  else
  bif decide ((x0.length : Int) > 6) then
    some (2, ())
  else
    (l37_6 k k x0 x0 (x0.length : Int) 0).bind fun w5 =>
    Sum.elim
      (fun y1 =>
        some (0, ()))
      (fun y2 =>
        some y2)
      w5
noncomputable def f37_sig (k : Nat) : Sig := ⟨[.val (.sl (.pair (.int .u8) (.pair (.int .i64) (.pair (.int .i64) (.pair (.sl (.pair (.int .i64) (.pair (.int .i64) (.pair (.int .i64) (.pair (.int .i64) (.unit)))))) (.unit))))))], [], [[.val (.int .i64)]], fun x => f37 k x.1⟩
noncomputable def E_f37 (k : Nat) : Env := ⟨Try.prog, G0, scons 43 [f43_sig k] (snil), tcons 6 (l37_6_sig k) (tcons 21 (l37_21_sig k) (tcons 11 (l37_11_sig k) (tnil))), tnil, unil, k, qnil⟩
theorem l37_6_ok (k : Nat) : LoopOK (E_f37 k) ⟨Try.f37.ntmps, [], G0⟩ (nthC 0 (loopsIn (Try.f37.body.getD .skip))) :=
  loop_ok (ls := l37_6_sig k) (by kernel_rfl) (fun _ => by kernel_rfl) (fun j x => by kernel_rfl)
theorem l37_11_ok (k : Nat) : LoopOK (E_f37 k) ⟨Try.f37.ntmps, [], G0⟩ (nthC 1 (loopsIn (Try.f37.body.getD .skip))) :=
  loop_ok (ls := l37_11_sig k) (by kernel_rfl) (fun _ => by kernel_rfl) (fun j x => by kernel_rfl)
theorem l37_21_ok (k : Nat) : LoopOK (E_f37 k) ⟨Try.f37.ntmps, [], G0⟩ (nthC 2 (loopsIn (Try.f37.body.getD .skip))) :=
  loop_ok (ls := l37_21_sig k) (by kernel_rfl) (fun _ => by kernel_rfl) (fun j x => by kernel_rfl)
theorem f37_run (k : Nat) (x : (lTy (lay 0 (f37_sig k).ins)).den) : runF (E_f37 k) Try.f37 (f37_sig k) x = (f37_sig k).F x := by kernel_rfl
theorem f37_ok [Dr] (k : Nat) : FnOK Try.prog G0 37 (f37_sig k) :=
  fn_ok2 (E := E_f37 k) (env_cons (one_sig (f43_ok k)) (env_nil)) (qenv_nil) mixed Try.func37 Try.call37 (by kernel_rfl) (by kernel_rfl) (m := 3) (by kernel_rfl) ⟨⟨⟨trivial, l37_6_ok k⟩, l37_11_ok k⟩, l37_21_ok k⟩ (sk := []) (by kernel_rfl) trivial (f37_run k)

/-! ### gamehall/rules.end: function 38 -/
noncomputable def f38 (k : Nat) (x0 : Int × Int × Int × Bool × Unit) (x1 : Int) : Option ((Int × Unit)) :=
  bif x0.1 == 0 then
    bif x0.2.1 != 0 then
      some (4, ())
    else
    bif decide (x0.2.2.1 < 1) then
      some (4, ())
    else
    bif decide (x0.2.2.1 > 64) then
      some (4, ())
    else
      some (0, ())
  else
  bif x0.1 == 1 then
    bif decide (x0.2.1 < 0) then
      some (4, ())
    else
    bif decide (x0.2.1 ≥ x1) then
      some (4, ())
    else
    bif x0.2.2.1 != 0 then
      some (4, ())
    else
      some (0, ())
  else
  bif x0.1 == 2 then
    bif decide (x0.2.1 < 0) then
      some (4, ())
    else
    bif decide (x0.2.1 ≥ x1) then
      some (4, ())
    else
    bif decide (x0.2.2.1 < 1) then
      some (4, ())
    else
    bif decide (x0.2.2.1 > 64) then
      some (4, ())
    else
      some (0, ())
  else
    some (1, ())
noncomputable def f38_sig (k : Nat) : Sig := ⟨[.val (.pair (.int .i64) (.pair (.int .i64) (.pair (.int .i64) (.pair (.bool) (.unit))))), .val (.int .i64)], [], [[.val (.int .i64)]], fun x => f38 k x.1 x.2.1⟩
noncomputable def E_f38 (k : Nat) : Env := ⟨Try.prog, G0, snil, tnil, tnil, unil, k, qnil⟩
theorem f38_run (k : Nat) (x : (lTy (lay 0 (f38_sig k).ins)).den) : runF (E_f38 k) Try.f38 (f38_sig k) x = (f38_sig k).F x := by kernel_rfl
theorem f38_ok [Dr] (k : Nat) : FnOK Try.prog G0 38 (f38_sig k) :=
  fn_ok2 (E := E_f38 k) (env_nil) (qenv_nil) mixed Try.func38 Try.call38 (by kernel_rfl) (by kernel_rfl) (m := 0) (by kernel_rfl) trivial (sk := []) (by kernel_rfl) trivial (f38_run k)

/-! ### gamehall/rules.Check: function 27 -/
noncomputable def l27_11 (k : Nat) : Nat → (ByteArray × Int × Int × (List (Int × Int × Int × (List (Int × Int × Int × Int × Unit)) × Unit)) × (List Int) × Bool × Bool × (List (Int × Int × Int × Bool × Unit)) × Int × Int × Int × Unit) → (List Int) → Int → Int → Option (((ByteArray × Int × Int × (List (Int × Int × Int × (List (Int × Int × Int × Int × Unit)) × Unit)) × (List Int) × Bool × Bool × (List (Int × Int × Int × Bool × Unit)) × Int × Int × Int × Unit) × Unit) ⊕ (Int × Unit))
  | 0, _, _, _, _ => none
  | j + 1, s1, s49, s50, s51 =>
    bif decide (s51 < s50) then
      bif decide (0 ≤ s51) && decide (s51 < (s49.length : Int)) then
        bif decide ((rd (0 : Int) s49 s51) < 0) then
          some (.inr (4, ()))
        else
        bif decide ((rd (0 : Int) s49 s51) > (w64 (2 * (s1.2.2.2.1.length : Int)))) then
          some (.inr (4, ()))
        else
          l27_11 k j s1 s49 s50 (w64 (s51 + 1))
      else
        none
    else
      some (.inl (s1, ()))
noncomputable def l27_11_sig (k : Nat) : LoopSig := ⟨[(1, .obj (.box (.val (.pair (.str) (.pair (.int .i64) (.pair (.int .i64) (.pair (.sl (.pair (.int .u8) (.pair (.int .i64) (.pair (.int .i64) (.pair (.sl (.pair (.int .i64) (.pair (.int .i64) (.pair (.int .i64) (.pair (.int .i64) (.unit)))))) (.unit)))))) (.pair (.sl (.int .i64)) (.pair (.bool) (.pair (.bool) (.pair (.sl (.pair (.int .i64) (.pair (.int .i64) (.pair (.int .i64) (.pair (.bool) (.unit)))))) (.pair (.int .i64) (.pair (.int .i64) (.pair (.int .i64) (.unit))))))))))))))), (49, .obj (.val (.sl (.int .i64)))), (50, .obj (.val (.int .i64))), (51, .obj (.val (.int .i64)))], [(.exit 1, [(1, .obj (.box (.val (.pair (.str) (.pair (.int .i64) (.pair (.int .i64) (.pair (.sl (.pair (.int .u8) (.pair (.int .i64) (.pair (.int .i64) (.pair (.sl (.pair (.int .i64) (.pair (.int .i64) (.pair (.int .i64) (.pair (.int .i64) (.unit)))))) (.unit)))))) (.pair (.sl (.int .i64)) (.pair (.bool) (.pair (.bool) (.pair (.sl (.pair (.int .i64) (.pair (.int .i64) (.pair (.int .i64) (.pair (.bool) (.unit)))))) (.pair (.int .i64) (.pair (.int .i64) (.pair (.int .i64) (.unit)))))))))))))))]), (.ret, [(2, .obj (.val (.int .i64)))])], fun j x => l27_11 k j x.1 x.2.1 x.2.2.1 x.2.2.2.1⟩
noncomputable def l27_19 (k : Nat) : Nat → (ByteArray × Int × Int × (List (Int × Int × Int × (List (Int × Int × Int × Int × Unit)) × Unit)) × (List Int) × Bool × Bool × (List (Int × Int × Int × Bool × Unit)) × Int × Int × Int × Unit) → (List (Int × Int × Int × Bool × Unit)) → Int → Int → Option (((ByteArray × Int × Int × (List (Int × Int × Int × (List (Int × Int × Int × Int × Unit)) × Unit)) × (List Int) × Bool × Bool × (List (Int × Int × Int × Bool × Unit)) × Int × Int × Int × Unit) × Unit) ⊕ (Int × Unit))
  | 0, _, _, _, _ => none
  | j + 1, s1, s71, s72, s73 =>
    bif decide (s73 < s72) then
      bif decide (0 ≤ s73) && decide (s73 < (s71.length : Int)) then
        (f38 k (rd ((0, 0, 0, false, ()) : Int × Int × Int × Bool × Unit) s71 s73) (s1.2.2.2.1.length : Int)).bind fun r1 =>
        bif r1.1 != 0 then
          some (.inr r1)
        else
          l27_19 k j s1 s71 s72 (w64 (s73 + 1))
      else
        none
    else
      some (.inl (s1, ()))
noncomputable def l27_19_sig (k : Nat) : LoopSig := ⟨[(1, .obj (.box (.val (.pair (.str) (.pair (.int .i64) (.pair (.int .i64) (.pair (.sl (.pair (.int .u8) (.pair (.int .i64) (.pair (.int .i64) (.pair (.sl (.pair (.int .i64) (.pair (.int .i64) (.pair (.int .i64) (.pair (.int .i64) (.unit)))))) (.unit)))))) (.pair (.sl (.int .i64)) (.pair (.bool) (.pair (.bool) (.pair (.sl (.pair (.int .i64) (.pair (.int .i64) (.pair (.int .i64) (.pair (.bool) (.unit)))))) (.pair (.int .i64) (.pair (.int .i64) (.pair (.int .i64) (.unit))))))))))))))), (71, .obj (.val (.sl (.pair (.int .i64) (.pair (.int .i64) (.pair (.int .i64) (.pair (.bool) (.unit)))))))), (72, .obj (.val (.int .i64))), (73, .obj (.val (.int .i64)))], [(.exit 3, [(1, .obj (.box (.val (.pair (.str) (.pair (.int .i64) (.pair (.int .i64) (.pair (.sl (.pair (.int .u8) (.pair (.int .i64) (.pair (.int .i64) (.pair (.sl (.pair (.int .i64) (.pair (.int .i64) (.pair (.int .i64) (.pair (.int .i64) (.unit)))))) (.unit)))))) (.pair (.sl (.int .i64)) (.pair (.bool) (.pair (.bool) (.pair (.sl (.pair (.int .i64) (.pair (.int .i64) (.pair (.int .i64) (.pair (.bool) (.unit)))))) (.pair (.int .i64) (.pair (.int .i64) (.pair (.int .i64) (.unit)))))))))))))))]), (.ret, [(2, .obj (.val (.int .i64)))])], fun j x => l27_19 k j x.1 x.2.1 x.2.2.1 x.2.2.2.1⟩
noncomputable def f27 (k : Nat) (x0 : ByteArray × Int × Int × (List (Int × Int × Int × (List (Int × Int × Int × Int × Unit)) × Unit)) × (List Int) × Bool × Bool × (List (Int × Int × Int × Bool × Unit)) × Int × Int × Int × Unit) : Option ((Int × Unit)) :=
  (f36 k x0.1).bind fun r1 =>
  bif !r1.1 then
    some (6, ())
  else
  bif decide (x0.2.1 < 1) then
    some (4, ())
  else
  bif decide (x0.2.1 > 8) then
    some (4, ())
  else
  bif decide (x0.2.2.1 < 1) then
    some (4, ())
  else
  bif decide (x0.2.2.1 > 8) then
    some (4, ())
  else
    (f37 k x0.2.2.2.1).bind fun r2 =>
    bif r2.1 != 0 then
      some r2
    else
    bif (x0.2.2.2.2.1.length : Int) != (w64 (x0.2.1 * x0.2.2.1)) then
      some (3, ())
    else
      (l27_11 k k x0 x0.2.2.2.2.1 (x0.2.2.2.2.1.length : Int) 0).bind fun w6 =>
      Sum.elim
        (fun y3 =>
          bif decide ((y3.1.2.2.2.2.2.2.2.1.length : Int) > 6) then
            some (2, ())
          else
            (l27_19 k k y3.1 y3.1.2.2.2.2.2.2.2.1 (y3.1.2.2.2.2.2.2.2.1.length : Int) 0).bind fun w7 =>
            Sum.elim
              (fun y4 =>
                bif decide (y4.1.2.2.2.2.2.2.2.2.1 < 0) then
                  some (4, ())
                else
                bif decide (y4.1.2.2.2.2.2.2.2.2.1 > 2) then
                  some (4, ())
                else
                bif decide (y4.1.2.2.2.2.2.2.2.2.2.1 < 0) then
                  some (4, ())
                else
                bif decide (y4.1.2.2.2.2.2.2.2.2.2.1 > 200) then
                  some (4, ())
                else
                bif decide (y4.1.2.2.2.2.2.2.2.2.2.2.1 < 0) then
                  some (4, ())
                else
                bif y4.1.2.2.2.2.2.2.2.2.2.2.1 == 1 then
                  some (4, ())
                else
                bif decide (y4.1.2.2.2.2.2.2.2.2.2.2.1 > 5) then
                  some (4, ())
                else
                  some (0, ()))
              (fun y5 =>
                some y5)
              w7)
        (fun y6 =>
          some y6)
        w6
noncomputable def f27_sig (k : Nat) : Sig := ⟨[.val (.pair (.str) (.pair (.int .i64) (.pair (.int .i64) (.pair (.sl (.pair (.int .u8) (.pair (.int .i64) (.pair (.int .i64) (.pair (.sl (.pair (.int .i64) (.pair (.int .i64) (.pair (.int .i64) (.pair (.int .i64) (.unit)))))) (.unit)))))) (.pair (.sl (.int .i64)) (.pair (.bool) (.pair (.bool) (.pair (.sl (.pair (.int .i64) (.pair (.int .i64) (.pair (.int .i64) (.pair (.bool) (.unit)))))) (.pair (.int .i64) (.pair (.int .i64) (.pair (.int .i64) (.unit))))))))))))], [], [[.val (.int .i64)]], fun x => f27 k x.1⟩
noncomputable def E_f27 (k : Nat) : Env := ⟨Try.prog, G0, scons 38 [f38_sig k] (scons 37 [f37_sig k] (scons 36 [f36_sig k] (snil))), tcons 19 (l27_19_sig k) (tcons 11 (l27_11_sig k) (tnil)), tnil, unil, k, qnil⟩
theorem l27_11_ok (k : Nat) : LoopOK (E_f27 k) ⟨Try.f27.ntmps, [], G0⟩ (nthC 0 (loopsIn (Try.f27.body.getD .skip))) :=
  loop_ok (ls := l27_11_sig k) (by kernel_rfl) (fun _ => by kernel_rfl) (fun j x => by kernel_rfl)
theorem l27_19_ok (k : Nat) : LoopOK (E_f27 k) ⟨Try.f27.ntmps, [], G0⟩ (nthC 1 (loopsIn (Try.f27.body.getD .skip))) :=
  loop_ok (ls := l27_19_sig k) (by kernel_rfl) (fun _ => by kernel_rfl) (fun j x => by kernel_rfl)
theorem f27_run (k : Nat) (x : (lTy (lay 0 (f27_sig k).ins)).den) : runF (E_f27 k) Try.f27 (f27_sig k) x = (f27_sig k).F x := by kernel_rfl
theorem f27_ok [Dr] (k : Nat) : FnOK Try.prog G0 27 (f27_sig k) :=
  fn_ok2 (E := E_f27 k) (env_cons (one_sig (f38_ok k)) (env_cons (one_sig (f37_ok k)) (env_cons (one_sig (f36_ok k)) (env_nil)))) (qenv_nil) mixed Try.func27 Try.call27 (by kernel_rfl) (by kernel_rfl) (m := 2) (by kernel_rfl) ⟨⟨trivial, l27_11_ok k⟩, l27_19_ok k⟩ (sk := []) (by kernel_rfl) trivial (f27_run k)

/-! ### slices.Clone[[]int,int]: function 44 -/
noncomputable def f44 (k : Nat) (x0 : List Int) : Option (((List Int) × Unit)) :=
  bif nilB x0 then
    both (
      some ([], ()))
    (
      bif decide ((([] : List Int).length + x0.length) * 8 ≤ roomN) then
        some ([] ++ x0, ())
      else
        none)
  else
  bif decide ((([] : List Int).length + x0.length) * 8 ≤ roomN) then
    some ([] ++ x0, ())
  else
    none
noncomputable def f44_sig (k : Nat) : Sig := ⟨[.val (.sl (.int .i64))], [], [[.row (.int .i64)]], fun x => f44 k x.1⟩
noncomputable def E_f44 (k : Nat) : Env := ⟨Try.prog, G0, snil, tnil, tnil, unil, k, qnil⟩
theorem f44_run (k : Nat) (x : (lTy (lay 0 (f44_sig k).ins)).den) : runF (E_f44 k) Try.f44 (f44_sig k) x = (f44_sig k).F x := by kernel_rfl
theorem f44_ok [Dr] (k : Nat) : FnOK Try.prog G0 44 (f44_sig k) :=
  fn_ok2 (E := E_f44 k) (env_nil) (qenv_nil) mixed Try.func44 Try.call44 (by kernel_rfl) (by kernel_rfl) (m := 0) (by kernel_rfl) trivial (sk := []) (by kernel_rfl) trivial (f44_run k)

/-! ### gamehall/place.Fresh: function 39 -/
noncomputable def l39_6 (k : Nat) : Nat → (ByteArray × Int × Int × (List (Int × Int × Int × (List (Int × Int × Int × Int × Unit)) × Unit)) × (List Int) × Bool × Bool × (List (Int × Int × Int × Bool × Unit)) × Int × Int × Int × Unit) → ((List Int) × ((List Int) × (List Int) × Unit) × Int × Int × Unit) → ((List Int) × ((List Int) × (List Int) × Unit) × Int × Int × Unit) → Int → Int → (List (Int × Int × Int × (List (Int × Int × Int × Int × Unit)) × Unit)) → Int → Int → Option (((ByteArray × Int × Int × (List (Int × Int × Int × (List (Int × Int × Int × Int × Unit)) × Unit)) × (List Int) × Bool × Bool × (List (Int × Int × Int × Bool × Unit)) × Int × Int × Int × Unit) × ((List Int) × ((List Int) × (List Int) × Unit) × Int × Int × Unit) × ((List Int) × ((List Int) × (List Int) × Unit) × Int × Int × Unit) × Int × Unit))
  | 0, _, _, _, _, _, _, _, _ => none
  | j + 1, s1, s2, s3, s4, s11, s15, s16, s17 =>
    bif decide (s17 < s16) then
      bif decide (0 ≤ s17) && decide (s17 < (s15.length : Int)) then
        bif s4 == 0 then
          bif decide ((s3.2.1.1.length + [(rd ((0, 0, 0, [], ()) : Int × Int × Int × (List (Int × Int × Int × Int × Unit)) × Unit) s15 s17).2.1].length) * 8 ≤ roomN) then
            bif s4 == 0 then
              l39_6 k j s1 s2 (s3.1, (s3.2.1.1 ++ [(rd ((0, 0, 0, [], ()) : Int × Int × Int × (List (Int × Int × Int × Int × Unit)) × Unit) s15 s17).2.1], s3.2.1.2), s3.2.2) s4 s11 s15 s16 (w64 (s17 + 1))
            else
            bif s4 == 1 then
              none
            else
              none
          else
            none
        else
        bif s4 == 1 then
          bif decide ((s3.2.1.2.1.length + [(rd ((0, 0, 0, [], ()) : Int × Int × Int × (List (Int × Int × Int × Int × Unit)) × Unit) s15 s17).2.1].length) * 8 ≤ roomN) then
            bif s4 == 0 then
              none
            else
            bif s4 == 1 then
              l39_6 k j s1 s2 (s3.1, (s3.2.1.1, s3.2.1.2.1 ++ [(rd ((0, 0, 0, [], ()) : Int × Int × Int × (List (Int × Int × Int × Int × Unit)) × Unit) s15 s17).2.1], ()), s3.2.2) s4 s11 s15 s16 (w64 (s17 + 1))
            else
              none
          else
            none
        else
          none
      else
        none
    else
      some (s1, s2, s3, s11, ())
noncomputable def l39_6_sig (k : Nat) : LoopSig := ⟨[(1, .obj (.box (.val (.pair (.str) (.pair (.int .i64) (.pair (.int .i64) (.pair (.sl (.pair (.int .u8) (.pair (.int .i64) (.pair (.int .i64) (.pair (.sl (.pair (.int .i64) (.pair (.int .i64) (.pair (.int .i64) (.pair (.int .i64) (.unit)))))) (.unit)))))) (.pair (.sl (.int .i64)) (.pair (.bool) (.pair (.bool) (.pair (.sl (.pair (.int .i64) (.pair (.int .i64) (.pair (.int .i64) (.pair (.bool) (.unit)))))) (.pair (.int .i64) (.pair (.int .i64) (.pair (.int .i64) (.unit))))))))))))))), (2, .obj (.box (.cons (.row (.int .i64)) (.cons (.cons (.row (.int .i64)) (.cons (.row (.int .i64)) (.nil))) (.cons (.val (.int .i64)) (.cons (.val (.int .i64)) (.nil))))))), (3, .obj (.box (.cons (.row (.int .i64)) (.cons (.cons (.row (.int .i64)) (.cons (.row (.int .i64)) (.nil))) (.cons (.val (.int .i64)) (.cons (.val (.int .i64)) (.nil))))))), (4, .obj (.val (.int .i64))), (11, .obj (.val (.int .i64))), (15, .obj (.val (.sl (.pair (.int .u8) (.pair (.int .i64) (.pair (.int .i64) (.pair (.sl (.pair (.int .i64) (.pair (.int .i64) (.pair (.int .i64) (.pair (.int .i64) (.unit)))))) (.unit)))))))), (16, .obj (.val (.int .i64))), (17, .obj (.val (.int .i64)))], [(.exit 2, [(1, .obj (.box (.val (.pair (.str) (.pair (.int .i64) (.pair (.int .i64) (.pair (.sl (.pair (.int .u8) (.pair (.int .i64) (.pair (.int .i64) (.pair (.sl (.pair (.int .i64) (.pair (.int .i64) (.pair (.int .i64) (.pair (.int .i64) (.unit)))))) (.unit)))))) (.pair (.sl (.int .i64)) (.pair (.bool) (.pair (.bool) (.pair (.sl (.pair (.int .i64) (.pair (.int .i64) (.pair (.int .i64) (.pair (.bool) (.unit)))))) (.pair (.int .i64) (.pair (.int .i64) (.pair (.int .i64) (.unit))))))))))))))), (2, .obj (.box (.cons (.row (.int .i64)) (.cons (.cons (.row (.int .i64)) (.cons (.row (.int .i64)) (.nil))) (.cons (.val (.int .i64)) (.cons (.val (.int .i64)) (.nil))))))), (3, .obj (.box (.cons (.row (.int .i64)) (.cons (.cons (.row (.int .i64)) (.cons (.row (.int .i64)) (.nil))) (.cons (.val (.int .i64)) (.cons (.val (.int .i64)) (.nil))))))), (11, .obj (.val (.int .i64)))])], fun j x => l39_6 k j x.1 x.2.1 x.2.2.1 x.2.2.2.1 x.2.2.2.2.1 x.2.2.2.2.2.1 x.2.2.2.2.2.2.1 x.2.2.2.2.2.2.2.1⟩
noncomputable def l39_3 (k : Nat) : Nat → (ByteArray × Int × Int × (List (Int × Int × Int × (List (Int × Int × Int × Int × Unit)) × Unit)) × (List Int) × Bool × Bool × (List (Int × Int × Int × Bool × Unit)) × Int × Int × Int × Unit) → ((List Int) × ((List Int) × (List Int) × Unit) × Int × Int × Unit) → ((List Int) × ((List Int) × (List Int) × Unit) × Int × Int × Unit) → Int → Option ((((List Int) × ((List Int) × (List Int) × Unit) × Int × Int × Unit) × ((List Int) × ((List Int) × (List Int) × Unit) × Int × Int × Unit) × Unit))
  | 0, _, _, _, _ => none
  | j + 1, s1, s2, s3, s11 =>
    bif decide (s11 < 2) then
      (l39_6 k k s1 s2 s3 s11 s11 s1.2.2.2.1 (s1.2.2.2.1.length : Int) 0).bind fun o1 =>
      l39_3 k j o1.1 o1.2.1 o1.2.2.1 (w64 (o1.2.2.2.1 + 1))
    else
      some (s2, s3, ())
noncomputable def l39_3_sig (k : Nat) : LoopSig := ⟨[(1, .obj (.box (.val (.pair (.str) (.pair (.int .i64) (.pair (.int .i64) (.pair (.sl (.pair (.int .u8) (.pair (.int .i64) (.pair (.int .i64) (.pair (.sl (.pair (.int .i64) (.pair (.int .i64) (.pair (.int .i64) (.pair (.int .i64) (.unit)))))) (.unit)))))) (.pair (.sl (.int .i64)) (.pair (.bool) (.pair (.bool) (.pair (.sl (.pair (.int .i64) (.pair (.int .i64) (.pair (.int .i64) (.pair (.bool) (.unit)))))) (.pair (.int .i64) (.pair (.int .i64) (.pair (.int .i64) (.unit))))))))))))))), (2, .obj (.box (.cons (.row (.int .i64)) (.cons (.cons (.row (.int .i64)) (.cons (.row (.int .i64)) (.nil))) (.cons (.val (.int .i64)) (.cons (.val (.int .i64)) (.nil))))))), (3, .obj (.box (.cons (.row (.int .i64)) (.cons (.cons (.row (.int .i64)) (.cons (.row (.int .i64)) (.nil))) (.cons (.val (.int .i64)) (.cons (.val (.int .i64)) (.nil))))))), (11, .obj (.val (.int .i64)))], [(.exit 0, [(2, .obj (.box (.cons (.row (.int .i64)) (.cons (.cons (.row (.int .i64)) (.cons (.row (.int .i64)) (.nil))) (.cons (.val (.int .i64)) (.cons (.val (.int .i64)) (.nil))))))), (3, .obj (.box (.cons (.row (.int .i64)) (.cons (.cons (.row (.int .i64)) (.cons (.row (.int .i64)) (.nil))) (.cons (.val (.int .i64)) (.cons (.val (.int .i64)) (.nil)))))))])], fun j x => l39_3 k j x.1 x.2.1 x.2.2.1 x.2.2.2.1⟩
noncomputable def f39 (k : Nat) (x0 : ByteArray × Int × Int × (List (Int × Int × Int × (List (Int × Int × Int × Int × Unit)) × Unit)) × (List Int) × Bool × Bool × (List (Int × Int × Int × Bool × Unit)) × Int × Int × Int × Unit) : Option ((((List Int) × ((List Int) × (List Int) × Unit) × Int × Int × Unit) × Unit)) :=
  (f44 k x0.2.2.2.2.1).bind fun r1 =>
  (l39_3 k k x0 ([], ([], [], ()), 0, 0, ()) (r1.1, ([], [], ()), 0, 0, ()) 0).bind fun o2 =>
  some o2.2
noncomputable def f39_sig (k : Nat) : Sig := ⟨[.val (.pair (.str) (.pair (.int .i64) (.pair (.int .i64) (.pair (.sl (.pair (.int .u8) (.pair (.int .i64) (.pair (.int .i64) (.pair (.sl (.pair (.int .i64) (.pair (.int .i64) (.pair (.int .i64) (.pair (.int .i64) (.unit)))))) (.unit)))))) (.pair (.sl (.int .i64)) (.pair (.bool) (.pair (.bool) (.pair (.sl (.pair (.int .i64) (.pair (.int .i64) (.pair (.int .i64) (.pair (.bool) (.unit)))))) (.pair (.int .i64) (.pair (.int .i64) (.pair (.int .i64) (.unit))))))))))))], [], [[.val (.pair (.sl (.int .i64)) (.pair (.pair (.sl (.int .i64)) (.pair (.sl (.int .i64)) (.unit))) (.pair (.int .i64) (.pair (.int .i64) (.unit)))))]], fun x => f39 k x.1⟩
noncomputable def E_f39 (k : Nat) : Env := ⟨Try.prog, G0, scons 44 [f44_sig k] (snil), tcons 3 (l39_3_sig k) (tcons 6 (l39_6_sig k) (tnil)), tnil, unil, k, qnil⟩
theorem l39_3_ok (k : Nat) : LoopOK (E_f39 k) ⟨Try.f39.ntmps, [], G0⟩ (nthC 0 (loopsIn (Try.f39.body.getD .skip))) :=
  loop_ok (ls := l39_3_sig k) (by kernel_rfl) (fun _ => by kernel_rfl) (fun j x => by kernel_rfl)
theorem l39_6_ok (k : Nat) : LoopOK (E_f39 k) ⟨Try.f39.ntmps, [], G0⟩ (nthC 1 (loopsIn (Try.f39.body.getD .skip))) :=
  loop_ok (ls := l39_6_sig k) (by kernel_rfl) (fun _ => by kernel_rfl) (fun j x => by kernel_rfl)
theorem f39_run (k : Nat) (x : (lTy (lay 0 (f39_sig k).ins)).den) : runF (E_f39 k) Try.f39 (f39_sig k) x = (f39_sig k).F x := by kernel_rfl
theorem f39_ok [Dr] (k : Nat) : FnOK Try.prog G0 39 (f39_sig k) :=
  fn_ok2 (E := E_f39 k) (env_cons (one_sig (f44_ok k)) (env_nil)) (qenv_nil) mixed Try.func39 Try.call39 (by kernel_rfl) (by kernel_rfl) (m := 2) (by kernel_rfl) ⟨⟨trivial, l39_3_ok k⟩, l39_6_ok k⟩ (sk := []) (by kernel_rfl) trivial (f39_run k)

/-! ### gamehall/place.Begin: function 30 -/
noncomputable def f30 (k : Nat) (x0 : ByteArray × Int × Int × (List (Int × Int × Int × (List (Int × Int × Int × Int × Unit)) × Unit)) × (List Int) × Bool × Bool × (List (Int × Int × Int × Bool × Unit)) × Int × Int × Int × Unit) : Option ((((List Int) × ((List Int) × (List Int) × Unit) × Int × Int × Unit) × Int × Unit)) :=
  (f27 k x0).bind fun r1 =>
  bif r1.1 != 0 then
    some (([], ([], [], ()), 0, 0, ()), r1)
  else
    (f39 k x0).bind fun r2 =>
    some (r2.1, 0, ())
noncomputable def f30_sig (k : Nat) : Sig := ⟨[.val (.pair (.str) (.pair (.int .i64) (.pair (.int .i64) (.pair (.sl (.pair (.int .u8) (.pair (.int .i64) (.pair (.int .i64) (.pair (.sl (.pair (.int .i64) (.pair (.int .i64) (.pair (.int .i64) (.pair (.int .i64) (.unit)))))) (.unit)))))) (.pair (.sl (.int .i64)) (.pair (.bool) (.pair (.bool) (.pair (.sl (.pair (.int .i64) (.pair (.int .i64) (.pair (.int .i64) (.pair (.bool) (.unit)))))) (.pair (.int .i64) (.pair (.int .i64) (.pair (.int .i64) (.unit))))))))))))], [], [[.val (.pair (.sl (.int .i64)) (.pair (.pair (.sl (.int .i64)) (.pair (.sl (.int .i64)) (.unit))) (.pair (.int .i64) (.pair (.int .i64) (.unit))))), .val (.int .i64)]], fun x => f30 k x.1⟩
noncomputable def E_f30 (k : Nat) : Env := ⟨Try.prog, G0, scons 39 [f39_sig k] (scons 27 [f27_sig k] (snil)), tnil, tnil, unil, k, qnil⟩
theorem f30_run (k : Nat) (x : (lTy (lay 0 (f30_sig k).ins)).den) : runF (E_f30 k) Try.f30 (f30_sig k) x = (f30_sig k).F x := by kernel_rfl
theorem f30_ok [Dr] (k : Nat) : FnOK Try.prog G0 30 (f30_sig k) :=
  fn_ok2 (E := E_f30 k) (env_cons (one_sig (f39_ok k)) (env_cons (one_sig (f27_ok k)) (env_nil))) (qenv_nil) mixed Try.func30 Try.call30 (by kernel_rfl) (by kernel_rfl) (m := 0) (by kernel_rfl) trivial (sk := []) (by kernel_rfl) trivial (f30_run k)

/-! ### gamehall/place.Check: function 46 -/
noncomputable def l46_7 (k : Nat) : Nat → (ByteArray × Int × Int × (List (Int × Int × Int × (List (Int × Int × Int × Int × Unit)) × Unit)) × (List Int) × Bool × Bool × (List (Int × Int × Int × Bool × Unit)) × Int × Int × Int × Unit) → ((List Int) × ((List Int) × (List Int) × Unit) × Int × Int × Unit) → (List Int) → Int → Int → Option ((((List Int) × ((List Int) × (List Int) × Unit) × Int × Int × Unit) × Unit) ⊕ (Int × Unit))
  | 0, _, _, _, _, _ => none
  | j + 1, s2, s3, s47, s48, s49 =>
    bif decide (s49 < s48) then
      bif decide (0 ≤ s49) && decide (s49 < (s47.length : Int)) then
        bif decide ((rd (0 : Int) s47 s49) < 0) then
          some (.inr (4, ()))
        else
        bif decide ((rd (0 : Int) s47 s49) > (w64 (2 * (s2.2.2.2.1.length : Int)))) then
          some (.inr (4, ()))
        else
          l46_7 k j s2 s3 s47 s48 (w64 (s49 + 1))
      else
        none
    else
      some (.inl (s3, ()))
noncomputable def l46_7_sig (k : Nat) : LoopSig := ⟨[(2, .obj (.box (.val (.pair (.str) (.pair (.int .i64) (.pair (.int .i64) (.pair (.sl (.pair (.int .u8) (.pair (.int .i64) (.pair (.int .i64) (.pair (.sl (.pair (.int .i64) (.pair (.int .i64) (.pair (.int .i64) (.pair (.int .i64) (.unit)))))) (.unit)))))) (.pair (.sl (.int .i64)) (.pair (.bool) (.pair (.bool) (.pair (.sl (.pair (.int .i64) (.pair (.int .i64) (.pair (.int .i64) (.pair (.bool) (.unit)))))) (.pair (.int .i64) (.pair (.int .i64) (.pair (.int .i64) (.unit))))))))))))))), (3, .obj (.box (.val (.pair (.sl (.int .i64)) (.pair (.pair (.sl (.int .i64)) (.pair (.sl (.int .i64)) (.unit))) (.pair (.int .i64) (.pair (.int .i64) (.unit)))))))), (47, .obj (.val (.sl (.int .i64)))), (48, .obj (.val (.int .i64))), (49, .obj (.val (.int .i64)))], [(.exit 0, [(3, .obj (.box (.val (.pair (.sl (.int .i64)) (.pair (.pair (.sl (.int .i64)) (.pair (.sl (.int .i64)) (.unit))) (.pair (.int .i64) (.pair (.int .i64) (.unit))))))))]), (.ret, [(4, .obj (.val (.int .i64)))])], fun j x => l46_7 k j x.1 x.2.1 x.2.2.1 x.2.2.2.1 x.2.2.2.2.1⟩
noncomputable def l46_16 (k : Nat) : Nat → ((List Int) × ((List Int) × (List Int) × Unit) × Int × Int × Unit) → ((List Int) × (List Int) × Unit) → Int → (List Int) → Int → Int → Option ((((List Int) × ((List Int) × (List Int) × Unit) × Int × Int × Unit) × ((List Int) × (List Int) × Unit) × Int × Unit) ⊕ (Int × Unit))
  | 0, _, _, _, _, _, _ => none
  | j + 1, s3, s65, s66, s69, s70, s71 =>
    bif decide (s71 < s70) then
      bif decide (0 ≤ s71) && decide (s71 < (s69.length : Int)) then
        bif decide ((rd (0 : Int) s69 s71) < 0) then
          some (.inr (4, ()))
        else
        bif decide ((rd (0 : Int) s69 s71) > 1000) then
          some (.inr (4, ()))
        else
          l46_16 k j s3 s65 s66 s69 s70 (w64 (s71 + 1))
      else
        none
    else
      some (.inl (s3, s65, s66, ()))
noncomputable def l46_16_sig (k : Nat) : LoopSig := ⟨[(3, .obj (.box (.val (.pair (.sl (.int .i64)) (.pair (.pair (.sl (.int .i64)) (.pair (.sl (.int .i64)) (.unit))) (.pair (.int .i64) (.pair (.int .i64) (.unit)))))))), (65, .obj (.val (.pair (.sl (.int .i64)) (.pair (.sl (.int .i64)) (.unit))))), (66, .obj (.val (.int .i64))), (69, .obj (.val (.sl (.int .i64)))), (70, .obj (.val (.int .i64))), (71, .obj (.val (.int .i64)))], [(.exit 4, [(3, .obj (.box (.val (.pair (.sl (.int .i64)) (.pair (.pair (.sl (.int .i64)) (.pair (.sl (.int .i64)) (.unit))) (.pair (.int .i64) (.pair (.int .i64) (.unit)))))))), (65, .obj (.val (.pair (.sl (.int .i64)) (.pair (.sl (.int .i64)) (.unit))))), (66, .obj (.val (.int .i64)))]), (.ret, [(4, .obj (.val (.int .i64)))])], fun j x => l46_16 k j x.1 x.2.1 x.2.2.1 x.2.2.2.1 x.2.2.2.2.1 x.2.2.2.2.2.1⟩
noncomputable def l46_13 (k : Nat) : Nat → ((List Int) × ((List Int) × (List Int) × Unit) × Int × Int × Unit) → ((List Int) × (List Int) × Unit) → Int → Option ((((List Int) × ((List Int) × (List Int) × Unit) × Int × Int × Unit) × Unit) ⊕ (Int × Unit))
  | 0, _, _, _ => none
  | j + 1, s3, s65, s66 =>
    bif decide (s66 < 2) then
      bif s66 == 0 then
        (l46_16 k k s3 s65 s66 s65.1 (s65.1.length : Int) 0).bind fun w8 =>
        Sum.elim
          (fun y1 =>
            l46_13 k j y1.1 y1.2.1 (w64 (y1.2.2.1 + 1)))
          (fun y2 =>
            some (.inr y2))
          w8
      else
      bif s66 == 1 then
        (l46_16 k k s3 s65 s66 s65.2.1 (s65.2.1.length : Int) 0).bind fun w9 =>
        Sum.elim
          (fun y3 =>
            l46_13 k j y3.1 y3.2.1 (w64 (y3.2.2.1 + 1)))
          (fun y4 =>
            some (.inr y4))
          w9
      else
        none
    else
      some (.inl (s3, ()))
noncomputable def l46_13_sig (k : Nat) : LoopSig := ⟨[(3, .obj (.box (.val (.pair (.sl (.int .i64)) (.pair (.pair (.sl (.int .i64)) (.pair (.sl (.int .i64)) (.unit))) (.pair (.int .i64) (.pair (.int .i64) (.unit)))))))), (65, .obj (.val (.pair (.sl (.int .i64)) (.pair (.sl (.int .i64)) (.unit))))), (66, .obj (.val (.int .i64)))], [(.exit 2, [(3, .obj (.box (.val (.pair (.sl (.int .i64)) (.pair (.pair (.sl (.int .i64)) (.pair (.sl (.int .i64)) (.unit))) (.pair (.int .i64) (.pair (.int .i64) (.unit))))))))]), (.ret, [(4, .obj (.val (.int .i64)))])], fun j x => l46_13 k j x.1 x.2.1 x.2.2.1⟩
noncomputable def f46 (k : Nat) (x0 : ByteArray × Int × Int × (List (Int × Int × Int × (List (Int × Int × Int × Int × Unit)) × Unit)) × (List Int) × Bool × Bool × (List (Int × Int × Int × Bool × Unit)) × Int × Int × Int × Unit) (x1 : (List Int) × ((List Int) × (List Int) × Unit) × Int × Int × Unit) : Option ((Int × Unit)) :=
  (f27 k x0).bind fun r1 =>
  bif r1.1 != 0 then
    some r1
  else
  bif (x1.1.length : Int) != (w64 (x0.2.1 * x0.2.2.1)) then
    some (3, ())
  else
  bif (x1.2.1.1.length : Int) != (x0.2.2.2.1.length : Int) then
    some (3, ())
  else
  bif (x1.2.1.2.1.length : Int) != (x0.2.2.2.1.length : Int) then
    some (3, ())
  else
    (l46_7 k k x0 x1 x1.1 (x1.1.length : Int) 0).bind fun w10 =>
    Sum.elim
      (fun y2 =>
        (l46_13 k k y2.1 y2.1.2.1 0).bind fun w11 =>
        Sum.elim
          (fun y3 =>
            bif y3.1.2.2.1 != 0 then
              bif y3.1.2.2.1 != 1 then
                some (4, ())
              else
              bif decide (y3.1.2.2.2.1 < 0) then
                some (4, ())
              else
              bif decide (y3.1.2.2.2.1 > 200) then
                some (4, ())
              else
                some (0, ())
            else
            bif decide (y3.1.2.2.2.1 < 0) then
              some (4, ())
            else
            bif decide (y3.1.2.2.2.1 > 200) then
              some (4, ())
            else
              some (0, ()))
          (fun y4 =>
            some y4)
          w11)
      (fun y5 =>
        some y5)
      w10
noncomputable def f46_sig (k : Nat) : Sig := ⟨[.val (.pair (.str) (.pair (.int .i64) (.pair (.int .i64) (.pair (.sl (.pair (.int .u8) (.pair (.int .i64) (.pair (.int .i64) (.pair (.sl (.pair (.int .i64) (.pair (.int .i64) (.pair (.int .i64) (.pair (.int .i64) (.unit)))))) (.unit)))))) (.pair (.sl (.int .i64)) (.pair (.bool) (.pair (.bool) (.pair (.sl (.pair (.int .i64) (.pair (.int .i64) (.pair (.int .i64) (.pair (.bool) (.unit)))))) (.pair (.int .i64) (.pair (.int .i64) (.pair (.int .i64) (.unit)))))))))))), .val (.pair (.sl (.int .i64)) (.pair (.pair (.sl (.int .i64)) (.pair (.sl (.int .i64)) (.unit))) (.pair (.int .i64) (.pair (.int .i64) (.unit)))))], [], [[.val (.int .i64)]], fun x => f46 k x.1 x.2.1⟩
noncomputable def E_f46 (k : Nat) : Env := ⟨Try.prog, G0, scons 27 [f27_sig k] (snil), tcons 13 (l46_13_sig k) (tcons 16 (l46_16_sig k) (tcons 7 (l46_7_sig k) (tnil))), tnil, unil, k, qnil⟩
theorem l46_7_ok (k : Nat) : LoopOK (E_f46 k) ⟨Try.f46.ntmps, [], G0⟩ (nthC 0 (loopsIn (Try.f46.body.getD .skip))) :=
  loop_ok (ls := l46_7_sig k) (by kernel_rfl) (fun _ => by kernel_rfl) (fun j x => by kernel_rfl)
theorem l46_13_ok (k : Nat) : LoopOK (E_f46 k) ⟨Try.f46.ntmps, [], G0⟩ (nthC 1 (loopsIn (Try.f46.body.getD .skip))) :=
  loop_ok (ls := l46_13_sig k) (by kernel_rfl) (fun _ => by kernel_rfl) (fun j x => by kernel_rfl)
theorem l46_16_ok (k : Nat) : LoopOK (E_f46 k) ⟨Try.f46.ntmps, [], G0⟩ (nthC 2 (loopsIn (Try.f46.body.getD .skip))) :=
  loop_ok (ls := l46_16_sig k) (by kernel_rfl) (fun _ => by kernel_rfl) (fun j x => by kernel_rfl)
theorem f46_run (k : Nat) (x : (lTy (lay 0 (f46_sig k).ins)).den) : runF (E_f46 k) Try.f46 (f46_sig k) x = (f46_sig k).F x := by kernel_rfl
theorem f46_ok [Dr] (k : Nat) : FnOK Try.prog G0 46 (f46_sig k) :=
  fn_ok2 (E := E_f46 k) (env_cons (one_sig (f27_ok k)) (env_nil)) (qenv_nil) mixed Try.func46 Try.call46 (by kernel_rfl) (by kernel_rfl) (m := 3) (by kernel_rfl) ⟨⟨⟨trivial, l46_7_ok k⟩, l46_13_ok k⟩, l46_16_ok k⟩ (sk := []) (by kernel_rfl) trivial (f46_run k)

/-! ### gamehall/rules.Copy: function 28 -/
noncomputable def l28_4 (k : Nat) : Nat → (ByteArray × Int × Int × (List (Int × Int × Int × (List (Int × Int × Int × Int × Unit)) × Unit)) × (List Int) × Bool × Bool × (List (Int × Int × Int × Bool × Unit)) × Int × Int × Int × Unit) → (ByteArray × Int × Int × (List (Int × Int × Int × (List (Int × Int × Int × Int × Unit)) × Unit)) × (List Int) × Bool × Bool × (List (Int × Int × Int × Bool × Unit)) × Int × Int × Int × Unit) → (ByteArray × Int × Int × (List (Int × Int × Int × (List (Int × Int × Int × Int × Unit)) × Unit)) × (List Int) × Bool × Bool × (List (Int × Int × Int × Bool × Unit)) × Int × Int × Int × Unit) → (List (Int × Int × Int × (List (Int × Int × Int × Int × Unit)) × Unit)) → Int → Int → Option (((ByteArray × Int × Int × (List (Int × Int × Int × (List (Int × Int × Int × Int × Unit)) × Unit)) × (List Int) × Bool × Bool × (List (Int × Int × Int × Bool × Unit)) × Int × Int × Int × Unit) × (ByteArray × Int × Int × (List (Int × Int × Int × (List (Int × Int × Int × Int × Unit)) × Unit)) × (List Int) × Bool × Bool × (List (Int × Int × Int × Bool × Unit)) × Int × Int × Int × Unit) × (ByteArray × Int × Int × (List (Int × Int × Int × (List (Int × Int × Int × Int × Unit)) × Unit)) × (List Int) × Bool × Bool × (List (Int × Int × Int × Bool × Unit)) × Int × Int × Int × Unit) × Unit))
  | 0, _, _, _, _, _, _ => none
  | j + 1, s1, s2, s3, s13, s14, s15 =>
    bif decide (s15 < s14) then
      bif decide (0 ≤ s15) && decide (s15 < (s13.length : Int)) then
        bif decide ((rd ((0, 0, 0, [], ()) : Int × Int × Int × (List (Int × Int × Int × Int × Unit)) × Unit) s13 s15).2.2.2.1.length * 32 ≤ roomN) then
          bif decide (0 ≤ s15) && decide (s15 < (s3.2.2.2.1.length : Int)) then
            l28_4 k j s1 s2 (s3.1, s3.2.1, s3.2.2.1, s3.2.2.2.1.set s15.toNat (rd ((0, 0, 0, [], ()) : Int × Int × Int × (List (Int × Int × Int × Int × Unit)) × Unit) s13 s15), s3.2.2.2.2) s13 s14 (w64 (s15 + 1))
          else
            none
        else
          none
      else
        none
    else
      some (s1, s2, s3, ())
noncomputable def l28_4_sig (k : Nat) : LoopSig := ⟨[(1, .obj (.box (.val (.pair (.str) (.pair (.int .i64) (.pair (.int .i64) (.pair (.sl (.pair (.int .u8) (.pair (.int .i64) (.pair (.int .i64) (.pair (.sl (.pair (.int .i64) (.pair (.int .i64) (.pair (.int .i64) (.pair (.int .i64) (.unit)))))) (.unit)))))) (.pair (.sl (.int .i64)) (.pair (.bool) (.pair (.bool) (.pair (.sl (.pair (.int .i64) (.pair (.int .i64) (.pair (.int .i64) (.pair (.bool) (.unit)))))) (.pair (.int .i64) (.pair (.int .i64) (.pair (.int .i64) (.unit))))))))))))))), (2, .obj (.box (.cons (.val (.str)) (.cons (.val (.int .i64)) (.cons (.val (.int .i64)) (.cons (.row (.pair (.int .u8) (.pair (.int .i64) (.pair (.int .i64) (.pair (.sl (.pair (.int .i64) (.pair (.int .i64) (.pair (.int .i64) (.pair (.int .i64) (.unit)))))) (.unit)))))) (.cons (.row (.int .i64)) (.cons (.val (.bool)) (.cons (.val (.bool)) (.cons (.row (.pair (.int .i64) (.pair (.int .i64) (.pair (.int .i64) (.pair (.bool) (.unit)))))) (.cons (.val (.int .i64)) (.cons (.val (.int .i64)) (.cons (.val (.int .i64)) (.nil)))))))))))))), (3, .obj (.box (.cons (.val (.str)) (.cons (.val (.int .i64)) (.cons (.val (.int .i64)) (.cons (.row (.pair (.int .u8) (.pair (.int .i64) (.pair (.int .i64) (.pair (.sl (.pair (.int .i64) (.pair (.int .i64) (.pair (.int .i64) (.pair (.int .i64) (.unit)))))) (.unit)))))) (.cons (.val (.sl (.int .i64))) (.cons (.val (.bool)) (.cons (.val (.bool)) (.cons (.val (.sl (.pair (.int .i64) (.pair (.int .i64) (.pair (.int .i64) (.pair (.bool) (.unit))))))) (.cons (.val (.int .i64)) (.cons (.val (.int .i64)) (.cons (.val (.int .i64)) (.nil)))))))))))))), (13, .obj (.val (.sl (.pair (.int .u8) (.pair (.int .i64) (.pair (.int .i64) (.pair (.sl (.pair (.int .i64) (.pair (.int .i64) (.pair (.int .i64) (.pair (.int .i64) (.unit)))))) (.unit)))))))), (14, .obj (.val (.int .i64))), (15, .obj (.val (.int .i64)))], [(.exit 0, [(1, .obj (.box (.val (.pair (.str) (.pair (.int .i64) (.pair (.int .i64) (.pair (.sl (.pair (.int .u8) (.pair (.int .i64) (.pair (.int .i64) (.pair (.sl (.pair (.int .i64) (.pair (.int .i64) (.pair (.int .i64) (.pair (.int .i64) (.unit)))))) (.unit)))))) (.pair (.sl (.int .i64)) (.pair (.bool) (.pair (.bool) (.pair (.sl (.pair (.int .i64) (.pair (.int .i64) (.pair (.int .i64) (.pair (.bool) (.unit)))))) (.pair (.int .i64) (.pair (.int .i64) (.pair (.int .i64) (.unit))))))))))))))), (2, .obj (.box (.cons (.val (.str)) (.cons (.val (.int .i64)) (.cons (.val (.int .i64)) (.cons (.row (.pair (.int .u8) (.pair (.int .i64) (.pair (.int .i64) (.pair (.sl (.pair (.int .i64) (.pair (.int .i64) (.pair (.int .i64) (.pair (.int .i64) (.unit)))))) (.unit)))))) (.cons (.row (.int .i64)) (.cons (.val (.bool)) (.cons (.val (.bool)) (.cons (.row (.pair (.int .i64) (.pair (.int .i64) (.pair (.int .i64) (.pair (.bool) (.unit)))))) (.cons (.val (.int .i64)) (.cons (.val (.int .i64)) (.cons (.val (.int .i64)) (.nil)))))))))))))), (3, .obj (.box (.cons (.val (.str)) (.cons (.val (.int .i64)) (.cons (.val (.int .i64)) (.cons (.row (.pair (.int .u8) (.pair (.int .i64) (.pair (.int .i64) (.pair (.sl (.pair (.int .i64) (.pair (.int .i64) (.pair (.int .i64) (.pair (.int .i64) (.unit)))))) (.unit)))))) (.cons (.val (.sl (.int .i64))) (.cons (.val (.bool)) (.cons (.val (.bool)) (.cons (.val (.sl (.pair (.int .i64) (.pair (.int .i64) (.pair (.int .i64) (.pair (.bool) (.unit))))))) (.cons (.val (.int .i64)) (.cons (.val (.int .i64)) (.cons (.val (.int .i64)) (.nil))))))))))))))])], fun j x => l28_4 k j x.1 x.2.1 x.2.2.1 x.2.2.2.1 x.2.2.2.2.1 x.2.2.2.2.2.1⟩
noncomputable def f28 (k : Nat) (x0 : ByteArray × Int × Int × (List (Int × Int × Int × (List (Int × Int × Int × Int × Unit)) × Unit)) × (List Int) × Bool × Bool × (List (Int × Int × Int × Bool × Unit)) × Int × Int × Int × Unit) : Option (((ByteArray × Int × Int × (List (Int × Int × Int × (List (Int × Int × Int × Int × Unit)) × Unit)) × (List Int) × Bool × Bool × (List (Int × Int × Int × Bool × Unit)) × Int × Int × Int × Unit) × Unit)) :=
  bif decide (0 ≤ (x0.2.2.2.1.length : Int)) && (decide ((x0.2.2.2.1.length : Int) ≤ (x0.2.2.2.1.length : Int)) && decide (((48 : Nat) : Int) * (x0.2.2.2.1.length : Int) ≤ 281474976710656)) && decide ((x0.2.2.2.1.length : Int) ≤ 9223372036854775807) then
    (l28_4 k k x0 ((⟨#[]⟩ : ByteArray), 0, 0, [], [], false, false, [], 0, 0, 0, ()) (x0.1, x0.2.1, x0.2.2.1, List.replicate (x0.2.2.2.1.length : Int).toNat ((0, 0, 0, [], ()) : Int × Int × Int × (List (Int × Int × Int × Int × Unit)) × Unit), x0.2.2.2.2) x0.2.2.2.1 (x0.2.2.2.1.length : Int) 0).bind fun o1 =>
    bif decide (o1.1.2.2.2.2.1.length * 8 ≤ roomN) then
      bif decide (o1.1.2.2.2.2.2.2.2.1.length * 32 ≤ roomN) then
        some ((o1.2.2.1.1, o1.2.2.1.2.1, o1.2.2.1.2.2.1, o1.2.2.1.2.2.2.1, o1.1.2.2.2.2.1, o1.2.2.1.2.2.2.2.2.1, o1.2.2.1.2.2.2.2.2.2.1, o1.1.2.2.2.2.2.2.2.1, o1.2.2.1.2.2.2.2.2.2.2.2), ())
      else
        none
    else
      none
  else
    none
noncomputable def f28_sig (k : Nat) : Sig := ⟨[.val (.pair (.str) (.pair (.int .i64) (.pair (.int .i64) (.pair (.sl (.pair (.int .u8) (.pair (.int .i64) (.pair (.int .i64) (.pair (.sl (.pair (.int .i64) (.pair (.int .i64) (.pair (.int .i64) (.pair (.int .i64) (.unit)))))) (.unit)))))) (.pair (.sl (.int .i64)) (.pair (.bool) (.pair (.bool) (.pair (.sl (.pair (.int .i64) (.pair (.int .i64) (.pair (.int .i64) (.pair (.bool) (.unit)))))) (.pair (.int .i64) (.pair (.int .i64) (.pair (.int .i64) (.unit))))))))))))], [], [[.cons (.val (.str)) (.cons (.val (.int .i64)) (.cons (.val (.int .i64)) (.cons (.row (.pair (.int .u8) (.pair (.int .i64) (.pair (.int .i64) (.pair (.sl (.pair (.int .i64) (.pair (.int .i64) (.pair (.int .i64) (.pair (.int .i64) (.unit)))))) (.unit)))))) (.cons (.row (.int .i64)) (.cons (.val (.bool)) (.cons (.val (.bool)) (.cons (.row (.pair (.int .i64) (.pair (.int .i64) (.pair (.int .i64) (.pair (.bool) (.unit)))))) (.cons (.val (.int .i64)) (.cons (.val (.int .i64)) (.cons (.val (.int .i64)) (.nil)))))))))))]], fun x => f28 k x.1⟩
noncomputable def E_f28 (k : Nat) : Env := ⟨Try.prog, G0, snil, tcons 4 (l28_4_sig k) (tnil), tnil, unil, k, qnil⟩
theorem l28_4_ok (k : Nat) : LoopOK (E_f28 k) ⟨Try.f28.ntmps, [], G0⟩ (nthC 0 (loopsIn (Try.f28.body.getD .skip))) :=
  loop_ok (ls := l28_4_sig k) (by kernel_rfl) (fun _ => by kernel_rfl) (fun j x => by kernel_rfl)
theorem f28_run (k : Nat) (x : (lTy (lay 0 (f28_sig k).ins)).den) : runF (E_f28 k) Try.f28 (f28_sig k) x = (f28_sig k).F x := by kernel_rfl
theorem f28_ok [Dr] (k : Nat) : FnOK Try.prog G0 28 (f28_sig k) :=
  fn_ok2 (E := E_f28 k) (env_nil) (qenv_nil) mixed Try.func28 Try.call28 (by kernel_rfl) (by kernel_rfl) (m := 1) (by kernel_rfl) ⟨trivial, l28_4_ok k⟩ (sk := []) (by kernel_rfl) trivial (f28_run k)

/-! ### gamehall/place.Copy: function 47 -/
noncomputable def f47 (k : Nat) (x0 : (List Int) × ((List Int) × (List Int) × Unit) × Int × Int × Unit) : Option ((((List Int) × ((List Int) × (List Int) × Unit) × Int × Int × Unit) × Unit)) :=
  (f44 k x0.1).bind fun r1 =>
  (f44 k x0.2.1.1).bind fun r2 =>
  (f44 k x0.2.1.2.1).bind fun r3 =>
  some ((r1.1, (r2.1, r3), x0.2.2), ())
noncomputable def f47_sig (k : Nat) : Sig := ⟨[.val (.pair (.sl (.int .i64)) (.pair (.pair (.sl (.int .i64)) (.pair (.sl (.int .i64)) (.unit))) (.pair (.int .i64) (.pair (.int .i64) (.unit)))))], [], [[.cons (.row (.int .i64)) (.cons (.cons (.row (.int .i64)) (.cons (.row (.int .i64)) (.nil))) (.cons (.val (.int .i64)) (.cons (.val (.int .i64)) (.nil))))]], fun x => f47 k x.1⟩
noncomputable def E_f47 (k : Nat) : Env := ⟨Try.prog, G0, scons 44 [f44_sig k] (snil), tnil, tnil, ucons 3 3 (unil), k, qnil⟩
theorem f47_run (k : Nat) (x : (lTy (lay 0 (f47_sig k).ins)).den) : runF (E_f47 k) Try.f47 (f47_sig k) x = (f47_sig k).F x := by kernel_rfl
theorem f47_ok [Dr] (k : Nat) : FnOK Try.prog G0 47 (f47_sig k) :=
  fn_ok2 (E := E_f47 k) (env_cons (one_sig (f44_ok k)) (env_nil)) (qenv_nil) mixed Try.func47 Try.call47 (by kernel_rfl) (by kernel_rfl) (m := 1) (by kernel_rfl) ⟨trivial, loop_none (by kernel_rfl)⟩ (sk := []) (by kernel_rfl) trivial (f47_run k)

/-! ### gamehall/zob.Mix: function 67 -/
noncomputable def f67 (k : Nat) (x0 : Int) : Option ((Int × Unit)) :=
  some (bitsOp .xor .u64 (IntKind.u64.wrap ((bitsOp .xor .u64 (IntKind.u64.wrap ((bitsOp .xor .u64 (IntKind.u64.wrap ((IntKind.u64.wrap ((IntKind.u64.wrap x0) + 1)) * 11400714819323198485)) ((IntKind.u64.wrap ((IntKind.u64.wrap ((IntKind.u64.wrap x0) + 1)) * 11400714819323198485)).fdiv (2 ^ (min (30 : Int).toNat 64)))) * 13787848793156543929)) ((IntKind.u64.wrap ((bitsOp .xor .u64 (IntKind.u64.wrap ((IntKind.u64.wrap ((IntKind.u64.wrap x0) + 1)) * 11400714819323198485)) ((IntKind.u64.wrap ((IntKind.u64.wrap ((IntKind.u64.wrap x0) + 1)) * 11400714819323198485)).fdiv (2 ^ (min (30 : Int).toNat 64)))) * 13787848793156543929)).fdiv (2 ^ (min (27 : Int).toNat 64)))) * 10723151780598845931)) ((IntKind.u64.wrap ((bitsOp .xor .u64 (IntKind.u64.wrap ((bitsOp .xor .u64 (IntKind.u64.wrap ((IntKind.u64.wrap ((IntKind.u64.wrap x0) + 1)) * 11400714819323198485)) ((IntKind.u64.wrap ((IntKind.u64.wrap ((IntKind.u64.wrap x0) + 1)) * 11400714819323198485)).fdiv (2 ^ (min (30 : Int).toNat 64)))) * 13787848793156543929)) ((IntKind.u64.wrap ((bitsOp .xor .u64 (IntKind.u64.wrap ((IntKind.u64.wrap ((IntKind.u64.wrap x0) + 1)) * 11400714819323198485)) ((IntKind.u64.wrap ((IntKind.u64.wrap ((IntKind.u64.wrap x0) + 1)) * 11400714819323198485)).fdiv (2 ^ (min (30 : Int).toNat 64)))) * 13787848793156543929)).fdiv (2 ^ (min (27 : Int).toNat 64)))) * 10723151780598845931)).fdiv (2 ^ (min (31 : Int).toNat 64))), ())
noncomputable def f67_sig (k : Nat) : Sig := ⟨[.val (.int .i64)], [], [[.val (.int .u64)]], fun x => f67 k x.1⟩
noncomputable def E_f67 (k : Nat) : Env := ⟨Try.prog, G0, snil, tnil, tnil, unil, k, qnil⟩
theorem f67_run (k : Nat) (x : (lTy (lay 0 (f67_sig k).ins)).den) : runF (E_f67 k) Try.f67 (f67_sig k) x = (f67_sig k).F x := by kernel_rfl
theorem f67_ok [Dr] (k : Nat) : FnOK Try.prog G0 67 (f67_sig k) :=
  fn_ok2 (E := E_f67 k) (env_nil) (qenv_nil) mixed Try.func67 Try.call67 (by kernel_rfl) (by kernel_rfl) (m := 0) (by kernel_rfl) trivial (sk := []) (by kernel_rfl) trivial (f67_run k)

/-! ### gamehall/zob.turn: function 58 -/
noncomputable def f58 (k : Nat) (x0 : Int) : Option ((Int × Unit)) :=
  (f67 k 3000).bind fun r1 =>
  some (IntKind.u64.wrap ((IntKind.u64.wrap x0) * r1.1), ())
noncomputable def f58_sig (k : Nat) : Sig := ⟨[.val (.int .i64)], [], [[.val (.int .u64)]], fun x => f58 k x.1⟩
noncomputable def E_f58 (k : Nat) : Env := ⟨Try.prog, G0, scons 67 [f67_sig k] (snil), tnil, tnil, unil, k, qnil⟩
theorem f58_run (k : Nat) (x : (lTy (lay 0 (f58_sig k).ins)).den) : runF (E_f58 k) Try.f58 (f58_sig k) x = (f58_sig k).F x := by kernel_rfl
theorem f58_ok [Dr] (k : Nat) : FnOK Try.prog G0 58 (f58_sig k) :=
  fn_ok2 (E := E_f58 k) (env_cons (one_sig (f67_ok k)) (env_nil)) (qenv_nil) mixed Try.func58 Try.call58 (by kernel_rfl) (by kernel_rfl) (m := 0) (by kernel_rfl) trivial (sk := []) (by kernel_rfl) trivial (f58_run k)

/-! ### gamehall/zob.square: function 59 -/
noncomputable def f59 (k : Nat) (x0 : Int) (x1 : Int) : Option ((Int × Unit)) :=
  bif x1 == 0 then
    some (0, ())
  else
    (f67 k (w64 ((w64 (16 * x0)) + x1))).bind fun r1 =>
    some r1
noncomputable def f59_sig (k : Nat) : Sig := ⟨[.val (.int .i64), .val (.int .i64)], [], [[.val (.int .u64)]], fun x => f59 k x.1 x.2.1⟩
noncomputable def E_f59 (k : Nat) : Env := ⟨Try.prog, G0, scons 67 [f67_sig k] (snil), tnil, tnil, unil, k, qnil⟩
theorem f59_run (k : Nat) (x : (lTy (lay 0 (f59_sig k).ins)).den) : runF (E_f59 k) Try.f59 (f59_sig k) x = (f59_sig k).F x := by kernel_rfl
theorem f59_ok [Dr] (k : Nat) : FnOK Try.prog G0 59 (f59_sig k) :=
  fn_ok2 (E := E_f59 k) (env_cons (one_sig (f67_ok k)) (env_nil)) (qenv_nil) mixed Try.func59 Try.call59 (by kernel_rfl) (by kernel_rfl) (m := 0) (by kernel_rfl) trivial (sk := []) (by kernel_rfl) trivial (f59_run k)

/-! ### gamehall/zob.held: function 60 -/
noncomputable def f60 (k : Nat) (x0 : Int) (x1 : Int) (x2 : Int) : Option ((Int × Unit)) :=
  (f67 k (w64 ((w64 (2000 + (w64 (8 * x0)))) + x1))).bind fun r1 =>
  some (IntKind.u64.wrap ((IntKind.u64.wrap x2) * r1.1), ())
noncomputable def f60_sig (k : Nat) : Sig := ⟨[.val (.int .i64), .val (.int .i64), .val (.int .i64)], [], [[.val (.int .u64)]], fun x => f60 k x.1 x.2.1 x.2.2.1⟩
noncomputable def E_f60 (k : Nat) : Env := ⟨Try.prog, G0, scons 67 [f67_sig k] (snil), tnil, tnil, unil, k, qnil⟩
theorem f60_run (k : Nat) (x : (lTy (lay 0 (f60_sig k).ins)).den) : runF (E_f60 k) Try.f60 (f60_sig k) x = (f60_sig k).F x := by kernel_rfl
theorem f60_ok [Dr] (k : Nat) : FnOK Try.prog G0 60 (f60_sig k) :=
  fn_ok2 (E := E_f60 k) (env_cons (one_sig (f67_ok k)) (env_nil)) (qenv_nil) mixed Try.func60 Try.call60 (by kernel_rfl) (by kernel_rfl) (m := 0) (by kernel_rfl) trivial (sk := []) (by kernel_rfl) trivial (f60_run k)

/-! ### gamehall/zob.Of: function 48 -/
noncomputable def l48_3 (k : Nat) : Nat → ((List Int) × ((List Int) × (List Int) × Unit) × Int × Int × Unit) → Int → (List Int) → Int → Int → Option ((((List Int) × ((List Int) × (List Int) × Unit) × Int × Int × Unit) × Int × Unit))
  | 0, _, _, _, _, _ => none
  | j + 1, s1, s3, s14, s15, s16 =>
    bif decide (s16 < s15) then
      bif decide (0 ≤ s16) && decide (s16 < (s14.length : Int)) then
        (f59 k s16 (rd (0 : Int) s14 s16)).bind fun r1 =>
        l48_3 k j s1 (IntKind.u64.wrap (s3 + r1.1)) s14 s15 (w64 (s16 + 1))
      else
        none
    else
      some (s1, s3, ())
noncomputable def l48_3_sig (k : Nat) : LoopSig := ⟨[(1, .obj (.box (.val (.pair (.sl (.int .i64)) (.pair (.pair (.sl (.int .i64)) (.pair (.sl (.int .i64)) (.unit))) (.pair (.int .i64) (.pair (.int .i64) (.unit)))))))), (3, .obj (.val (.int .u64))), (14, .obj (.val (.sl (.int .i64)))), (15, .obj (.val (.int .i64))), (16, .obj (.val (.int .i64)))], [(.exit 0, [(1, .obj (.box (.val (.pair (.sl (.int .i64)) (.pair (.pair (.sl (.int .i64)) (.pair (.sl (.int .i64)) (.unit))) (.pair (.int .i64) (.pair (.int .i64) (.unit)))))))), (3, .obj (.val (.int .u64)))])], fun j x => l48_3 k j x.1 x.2.1 x.2.2.1 x.2.2.2.1 x.2.2.2.2.1⟩
noncomputable def l48_11 (k : Nat) : Nat → Int → Int → ((List Int) × (List Int) × Unit) → Int → (List Int) → Int → Int → Option ((Int × ((List Int) × (List Int) × Unit) × Int × Unit))
  | 0, _, _, _, _, _, _, _ => none
  | j + 1, s3, s6, s28, s29, s33, s34, s35 =>
    bif decide (s35 < s34) then
      bif decide (0 ≤ s35) && decide (s35 < (s33.length : Int)) then
        (f60 k s6 s35 (rd (0 : Int) s33 s35)).bind fun r1 =>
        l48_11 k j (IntKind.u64.wrap (s3 + r1.1)) s6 s28 s29 s33 s34 (w64 (s35 + 1))
      else
        none
    else
      some (s3, s28, s29, ())
noncomputable def l48_11_sig (k : Nat) : LoopSig := ⟨[(3, .obj (.val (.int .u64))), (6, .obj (.val (.int .i64))), (28, .obj (.val (.pair (.sl (.int .i64)) (.pair (.sl (.int .i64)) (.unit))))), (29, .obj (.val (.int .i64))), (33, .obj (.val (.sl (.int .i64)))), (34, .obj (.val (.int .i64))), (35, .obj (.val (.int .i64)))], [(.exit 4, [(3, .obj (.val (.int .u64))), (28, .obj (.val (.pair (.sl (.int .i64)) (.pair (.sl (.int .i64)) (.unit))))), (29, .obj (.val (.int .i64)))])], fun j x => l48_11 k j x.1 x.2.1 x.2.2.1 x.2.2.2.1 x.2.2.2.2.1 x.2.2.2.2.2.1 x.2.2.2.2.2.2.1⟩
noncomputable def l48_8 (k : Nat) : Nat → Int → ((List Int) × (List Int) × Unit) → Int → Option ((Int × Unit))
  | 0, _, _, _ => none
  | j + 1, s3, s28, s29 =>
    bif decide (s29 < 2) then
      bif s29 == 0 then
        (l48_11 k k s3 s29 s28 s29 s28.1 (s28.1.length : Int) 0).bind fun o1 =>
        l48_8 k j o1.1 o1.2.1 (w64 (o1.2.2.1 + 1))
      else
      bif s29 == 1 then
        (l48_11 k k s3 s29 s28 s29 s28.2.1 (s28.2.1.length : Int) 0).bind fun o2 =>
        l48_8 k j o2.1 o2.2.1 (w64 (o2.2.2.1 + 1))
      else
        none
    else
      some (s3, ())
noncomputable def l48_8_sig (k : Nat) : LoopSig := ⟨[(3, .obj (.val (.int .u64))), (28, .obj (.val (.pair (.sl (.int .i64)) (.pair (.sl (.int .i64)) (.unit))))), (29, .obj (.val (.int .i64)))], [(.exit 2, [(3, .obj (.val (.int .u64)))])], fun j x => l48_8 k j x.1 x.2.1 x.2.2.1⟩
noncomputable def f48 (k : Nat) (x0 : (List Int) × ((List Int) × (List Int) × Unit) × Int × Int × Unit) : Option ((Int × Unit)) :=
  (f58 k x0.2.2.1).bind fun r1 =>
  (l48_3 k k x0 r1.1 x0.1 (x0.1.length : Int) 0).bind fun o2 =>
  (l48_8 k k o2.2.1 o2.1.2.1 0).bind fun o3 =>
  some o3
noncomputable def f48_sig (k : Nat) : Sig := ⟨[.val (.pair (.sl (.int .i64)) (.pair (.pair (.sl (.int .i64)) (.pair (.sl (.int .i64)) (.unit))) (.pair (.int .i64) (.pair (.int .i64) (.unit)))))], [], [[.val (.int .u64)]], fun x => f48 k x.1⟩
noncomputable def E_f48 (k : Nat) : Env := ⟨Try.prog, G0, scons 60 [f60_sig k] (scons 59 [f59_sig k] (scons 58 [f58_sig k] (snil))), tcons 8 (l48_8_sig k) (tcons 11 (l48_11_sig k) (tcons 3 (l48_3_sig k) (tnil))), tnil, unil, k, qnil⟩
theorem l48_3_ok (k : Nat) : LoopOK (E_f48 k) ⟨Try.f48.ntmps, [], G0⟩ (nthC 0 (loopsIn (Try.f48.body.getD .skip))) :=
  loop_ok (ls := l48_3_sig k) (by kernel_rfl) (fun _ => by kernel_rfl) (fun j x => by kernel_rfl)
theorem l48_8_ok (k : Nat) : LoopOK (E_f48 k) ⟨Try.f48.ntmps, [], G0⟩ (nthC 1 (loopsIn (Try.f48.body.getD .skip))) :=
  loop_ok (ls := l48_8_sig k) (by kernel_rfl) (fun _ => by kernel_rfl) (fun j x => by kernel_rfl)
theorem l48_11_ok (k : Nat) : LoopOK (E_f48 k) ⟨Try.f48.ntmps, [], G0⟩ (nthC 2 (loopsIn (Try.f48.body.getD .skip))) :=
  loop_ok (ls := l48_11_sig k) (by kernel_rfl) (fun _ => by kernel_rfl) (fun j x => by kernel_rfl)
theorem f48_run (k : Nat) (x : (lTy (lay 0 (f48_sig k).ins)).den) : runF (E_f48 k) Try.f48 (f48_sig k) x = (f48_sig k).F x := by kernel_rfl
theorem f48_ok [Dr] (k : Nat) : FnOK Try.prog G0 48 (f48_sig k) :=
  fn_ok2 (E := E_f48 k) (env_cons (one_sig (f60_ok k)) (env_cons (one_sig (f59_ok k)) (env_cons (one_sig (f58_ok k)) (env_nil)))) (qenv_nil) mixed Try.func48 Try.call48 (by kernel_rfl) (by kernel_rfl) (m := 3) (by kernel_rfl) ⟨⟨⟨trivial, l48_3_ok k⟩, l48_8_ok k⟩, l48_11_ok k⟩ (sk := []) (by kernel_rfl) trivial (f48_run k)

/-! ### gamehall/board.New: function 41 -/
noncomputable def f41 (k : Nat) (x0 : ByteArray × Int × Int × (List (Int × Int × Int × (List (Int × Int × Int × Int × Unit)) × Unit)) × (List Int) × Bool × Bool × (List (Int × Int × Int × Bool × Unit)) × Int × Int × Int × Unit) (x1 : (List Int) × ((List Int) × (List Int) × Unit) × Int × Int × Unit) : Option ((((ByteArray × Int × Int × (List (Int × Int × Int × (List (Int × Int × Int × Int × Unit)) × Unit)) × (List Int) × Bool × Bool × (List (Int × Int × Int × Bool × Unit)) × Int × Int × Int × Unit) × ((List Int) × ((List Int) × (List Int) × Unit) × Int × Int × Unit) × Int × (List ((Int × Int × Int × Unit) × Int × Int × Bool × Int × Int × Unit)) × Unit) × Int × Unit) ⊕ (Unit × Int × Unit)) :=
  (f46 k x0 x1).bind fun r1 =>
  bif r1.1 != 0 then
    some (.inr ((), r1))
  else
    (f28 k x0).bind fun r2 =>
    (f47 k x1).bind fun r3 =>
    (f48 k x1).bind fun r4 =>
    some (.inl ((r2.1, r3.1, r4.1, [], ()), 0, ()))
noncomputable def f41_sig (k : Nat) : Sig := ⟨[.val (.pair (.str) (.pair (.int .i64) (.pair (.int .i64) (.pair (.sl (.pair (.int .u8) (.pair (.int .i64) (.pair (.int .i64) (.pair (.sl (.pair (.int .i64) (.pair (.int .i64) (.pair (.int .i64) (.pair (.int .i64) (.unit)))))) (.unit)))))) (.pair (.sl (.int .i64)) (.pair (.bool) (.pair (.bool) (.pair (.sl (.pair (.int .i64) (.pair (.int .i64) (.pair (.int .i64) (.pair (.bool) (.unit)))))) (.pair (.int .i64) (.pair (.int .i64) (.pair (.int .i64) (.unit)))))))))))), .val (.pair (.sl (.int .i64)) (.pair (.pair (.sl (.int .i64)) (.pair (.sl (.int .i64)) (.unit))) (.pair (.int .i64) (.pair (.int .i64) (.unit)))))], [], [[.box (.cons (.val (.pair (.str) (.pair (.int .i64) (.pair (.int .i64) (.pair (.sl (.pair (.int .u8) (.pair (.int .i64) (.pair (.int .i64) (.pair (.sl (.pair (.int .i64) (.pair (.int .i64) (.pair (.int .i64) (.pair (.int .i64) (.unit)))))) (.unit)))))) (.pair (.sl (.int .i64)) (.pair (.bool) (.pair (.bool) (.pair (.sl (.pair (.int .i64) (.pair (.int .i64) (.pair (.int .i64) (.pair (.bool) (.unit)))))) (.pair (.int .i64) (.pair (.int .i64) (.pair (.int .i64) (.unit))))))))))))) (.cons (.cons (.row (.int .i64)) (.cons (.cons (.row (.int .i64)) (.cons (.row (.int .i64)) (.nil))) (.cons (.val (.int .i64)) (.cons (.val (.int .i64)) (.nil))))) (.cons (.val (.int .u64)) (.cons (.row (.pair (.pair (.int .i64) (.pair (.int .i64) (.pair (.int .i64) (.unit)))) (.pair (.int .i64) (.pair (.int .i64) (.pair (.bool) (.pair (.int .i64) (.pair (.int .u64) (.unit)))))))) (.nil))))), .val (.int .i64)], [.nilp, .val (.int .i64)]], fun x => f41 k x.1 x.2.1⟩
noncomputable def E_f41 (k : Nat) : Env := ⟨Try.prog, G0, scons 48 [f48_sig k] (scons 47 [f47_sig k] (scons 46 [f46_sig k] (scons 28 [f28_sig k] (snil)))), tnil, tnil, unil, k, qnil⟩
theorem f41_run (k : Nat) (x : (lTy (lay 0 (f41_sig k).ins)).den) : runF (E_f41 k) Try.f41 (f41_sig k) x = (f41_sig k).F x := by kernel_rfl
theorem f41_ok [Dr] (k : Nat) : FnOK Try.prog G0 41 (f41_sig k) :=
  fn_ok2 (E := E_f41 k) (env_cons (one_sig (f48_ok k)) (env_cons (one_sig (f47_ok k)) (env_cons (one_sig (f46_ok k)) (env_cons (one_sig (f28_ok k)) (env_nil))))) (qenv_nil) mixed Try.func41 Try.call41 (by kernel_rfl) (by kernel_rfl) (m := 0) (by kernel_rfl) trivial (sk := []) (by kernel_rfl) trivial (f41_run k)

/-! ### gamehall/perft.check: function 56 -/
noncomputable def f56 (k : Nat) (x0 : ByteArray × Int × Int × (List (Int × Int × Int × (List (Int × Int × Int × Int × Unit)) × Unit)) × (List Int) × Bool × Bool × (List (Int × Int × Int × Bool × Unit)) × Int × Int × Int × Unit) (x1 : (List Int) × ((List Int) × (List Int) × Unit) × Int × Int × Unit) (x2 : Int) : Option ((((ByteArray × Int × Int × (List (Int × Int × Int × (List (Int × Int × Int × Int × Unit)) × Unit)) × (List Int) × Bool × Bool × (List (Int × Int × Int × Bool × Unit)) × Int × Int × Int × Unit) × ((List Int) × ((List Int) × (List Int) × Unit) × Int × Int × Unit) × Int × (List ((Int × Int × Int × Unit) × Int × Int × Bool × Int × Int × Unit)) × Unit) × Int × Unit) ⊕ (Unit × Int × Unit)) :=
  (f41 k x0 x1).bind fun w12 =>
  Sum.elim
    (fun y1 =>
      bif y1.2.1 != 0 then
        some (.inr ((), y1.2))
      else
      bif decide (x2 < 0) then
        some (.inr ((), 1, ()))
      else
      bif decide (x2 > 12) then
        some (.inr ((), 1, ()))
      else
        some (.inl (y1.1, 0, ())))
    (fun y2 =>
      bif y2.2.1 != 0 then
        some (.inr ((), y2.2))
      else
      bif decide (x2 < 0) then
        some (.inr ((), 1, ()))
      else
      bif decide (x2 > 12) then
        some (.inr ((), 1, ()))
      else
        some (.inr ((), 0, ())))
    w12
noncomputable def f56_sig (k : Nat) : Sig := ⟨[.val (.pair (.str) (.pair (.int .i64) (.pair (.int .i64) (.pair (.sl (.pair (.int .u8) (.pair (.int .i64) (.pair (.int .i64) (.pair (.sl (.pair (.int .i64) (.pair (.int .i64) (.pair (.int .i64) (.pair (.int .i64) (.unit)))))) (.unit)))))) (.pair (.sl (.int .i64)) (.pair (.bool) (.pair (.bool) (.pair (.sl (.pair (.int .i64) (.pair (.int .i64) (.pair (.int .i64) (.pair (.bool) (.unit)))))) (.pair (.int .i64) (.pair (.int .i64) (.pair (.int .i64) (.unit)))))))))))), .val (.pair (.sl (.int .i64)) (.pair (.pair (.sl (.int .i64)) (.pair (.sl (.int .i64)) (.unit))) (.pair (.int .i64) (.pair (.int .i64) (.unit))))), .val (.int .i64)], [], [[.box (.cons (.val (.pair (.str) (.pair (.int .i64) (.pair (.int .i64) (.pair (.sl (.pair (.int .u8) (.pair (.int .i64) (.pair (.int .i64) (.pair (.sl (.pair (.int .i64) (.pair (.int .i64) (.pair (.int .i64) (.pair (.int .i64) (.unit)))))) (.unit)))))) (.pair (.sl (.int .i64)) (.pair (.bool) (.pair (.bool) (.pair (.sl (.pair (.int .i64) (.pair (.int .i64) (.pair (.int .i64) (.pair (.bool) (.unit)))))) (.pair (.int .i64) (.pair (.int .i64) (.pair (.int .i64) (.unit))))))))))))) (.cons (.cons (.row (.int .i64)) (.cons (.cons (.row (.int .i64)) (.cons (.row (.int .i64)) (.nil))) (.cons (.val (.int .i64)) (.cons (.val (.int .i64)) (.nil))))) (.cons (.val (.int .u64)) (.cons (.row (.pair (.pair (.int .i64) (.pair (.int .i64) (.pair (.int .i64) (.unit)))) (.pair (.int .i64) (.pair (.int .i64) (.pair (.bool) (.pair (.int .i64) (.pair (.int .u64) (.unit)))))))) (.nil))))), .val (.int .i64)], [.nilp, .val (.int .i64)]], fun x => f56 k x.1 x.2.1 x.2.2.1⟩
noncomputable def E_f56 (k : Nat) : Env := ⟨Try.prog, G0, scons 41 [f41_sig k] (snil), tnil, tnil, unil, k, qnil⟩
theorem f56_run (k : Nat) (x : (lTy (lay 0 (f56_sig k).ins)).den) : runF (E_f56 k) Try.f56 (f56_sig k) x = (f56_sig k).F x := by kernel_rfl
theorem f56_ok [Dr] (k : Nat) : FnOK Try.prog G0 56 (f56_sig k) :=
  fn_ok2 (E := E_f56 k) (env_cons (one_sig (f41_ok k)) (env_nil)) (qenv_nil) mixed Try.func56 Try.call56 (by kernel_rfl) (by kernel_rfl) (m := 0) (by kernel_rfl) trivial (sk := []) (by kernel_rfl) trivial (f56_run k)

/-! ### gamehall/moves.Owner: function 29 -/
noncomputable def f29 (k : Nat) (x0 : Int) : Option ((Int × Unit)) :=
  bif x0 == 0 then
    some ((-1), ())
  else
    some ((w64 (x0 - 1)).tmod 2, ())
noncomputable def f29_sig (k : Nat) : Sig := ⟨[.val (.int .i64)], [], [[.val (.int .i64)]], fun x => f29 k x.1⟩
noncomputable def E_f29 (k : Nat) : Env := ⟨Try.prog, G0, snil, tnil, tnil, unil, k, qnil⟩
theorem f29_run (k : Nat) (x : (lTy (lay 0 (f29_sig k).ins)).den) : runF (E_f29 k) Try.f29 (f29_sig k) x = (f29_sig k).F x := by kernel_rfl
theorem f29_ok [Dr] (k : Nat) : FnOK Try.prog G0 29 (f29_sig k) :=
  fn_ok2 (E := E_f29 k) (env_nil) (qenv_nil) mixed Try.func29 Try.call29 (by kernel_rfl) (by kernel_rfl) (m := 0) (by kernel_rfl) trivial (sk := []) (by kernel_rfl) trivial (f29_run k)

/-! ### gamehall/ends.row: function 74 -/
noncomputable def l74_8 (k : Nat) : Nat → Int → Int → (ByteArray × Int × Int × (List (Int × Int × Int × (List (Int × Int × Int × Int × Unit)) × Unit)) × (List Int) × Bool × Bool × (List (Int × Int × Int × Bool × Unit)) × Int × Int × Int × Unit) → ((List Int) × ((List Int) × (List Int) × Unit) × Int × Int × Unit) → Int → (Int × Int × Unit) → Int → Int → Int → Int → Int → ((Int × Int × Unit) × (Int × Int × Unit) × (Int × Int × Unit) × (Int × Int × Unit) × Unit) → Int → Option ((Int × Int × (ByteArray × Int × Int × (List (Int × Int × Int × (List (Int × Int × Int × Int × Unit)) × Unit)) × (List Int) × Bool × Bool × (List (Int × Int × Int × Bool × Unit)) × Int × Int × Int × Unit) × ((List Int) × ((List Int) × (List Int) × Unit) × Int × Int × Unit) × Int × Int × Int × Int × ((Int × Int × Unit) × (Int × Int × Unit) × (Int × Int × Unit) × (Int × Int × Unit) × Unit) × Int × Unit))
  | 0, _, _, _, _, _, _, _, _, _, _, _, _, _ => none
  | j + 1, s2, s3, s4, s5, s9, s11, s12, s13, s14, s17, s18, s25, s26 =>
    bif decide (s12 ≥ 0) then
      bif decide (s12 < s4.2.1) then
        bif decide (s13 ≥ 0) then
          bif decide (s13 < s4.2.2.1) then
            bif decide (s14 < s3) then
              bif decide (0 ≤ (w64 ((w64 (s13 * s4.2.1)) + s12))) && decide ((w64 ((w64 (s13 * s4.2.1)) + s12)) < (s5.1.length : Int)) then
                (f29 k (rd (0 : Int) s5.1 (w64 ((w64 (s13 * s4.2.1)) + s12)))).bind fun r1 =>
                bif r1.1 == s2 then
                  l74_8 k j s2 s3 s4 s5 s9 s11 (w64 (s12 + s11.1)) (w64 (s13 + s11.2.1)) (w64 (s14 + 1)) s17 s18 s25 s26
                else
                  some (s2, s3, s4, s5, s9, s14, s17, s18, s25, s26, ())
              else
                none
            else
              some (s2, s3, s4, s5, s9, s14, s17, s18, s25, s26, ())
          else
            some (s2, s3, s4, s5, s9, s14, s17, s18, s25, s26, ())
        else
          some (s2, s3, s4, s5, s9, s14, s17, s18, s25, s26, ())
      else
        some (s2, s3, s4, s5, s9, s14, s17, s18, s25, s26, ())
    else
      some (s2, s3, s4, s5, s9, s14, s17, s18, s25, s26, ())
noncomputable def l74_8_sig (k : Nat) : LoopSig := ⟨[(2, .obj (.val (.int .i64))), (3, .obj (.val (.int .i64))), (4, .obj (.box (.val (.pair (.str) (.pair (.int .i64) (.pair (.int .i64) (.pair (.sl (.pair (.int .u8) (.pair (.int .i64) (.pair (.int .i64) (.pair (.sl (.pair (.int .i64) (.pair (.int .i64) (.pair (.int .i64) (.pair (.int .i64) (.unit)))))) (.unit)))))) (.pair (.sl (.int .i64)) (.pair (.bool) (.pair (.bool) (.pair (.sl (.pair (.int .i64) (.pair (.int .i64) (.pair (.int .i64) (.pair (.bool) (.unit)))))) (.pair (.int .i64) (.pair (.int .i64) (.pair (.int .i64) (.unit))))))))))))))), (5, .obj (.box (.val (.pair (.sl (.int .i64)) (.pair (.pair (.sl (.int .i64)) (.pair (.sl (.int .i64)) (.unit))) (.pair (.int .i64) (.pair (.int .i64) (.unit)))))))), (9, .obj (.val (.int .i64))), (11, .obj (.box (.val (.pair (.int .i64) (.pair (.int .i64) (.unit)))))), (12, .obj (.val (.int .i64))), (13, .obj (.val (.int .i64))), (14, .obj (.val (.int .i64))), (17, .obj (.val (.int .i64))), (18, .obj (.val (.int .i64))), (25, .obj (.val (.pair (.pair (.int .i64) (.pair (.int .i64) (.unit))) (.pair (.pair (.int .i64) (.pair (.int .i64) (.unit))) (.pair (.pair (.int .i64) (.pair (.int .i64) (.unit))) (.pair (.pair (.int .i64) (.pair (.int .i64) (.unit))) (.unit))))))), (26, .obj (.val (.int .i64)))], [(.exit 4, [(2, .obj (.val (.int .i64))), (3, .obj (.val (.int .i64))), (4, .obj (.box (.val (.pair (.str) (.pair (.int .i64) (.pair (.int .i64) (.pair (.sl (.pair (.int .u8) (.pair (.int .i64) (.pair (.int .i64) (.pair (.sl (.pair (.int .i64) (.pair (.int .i64) (.pair (.int .i64) (.pair (.int .i64) (.unit)))))) (.unit)))))) (.pair (.sl (.int .i64)) (.pair (.bool) (.pair (.bool) (.pair (.sl (.pair (.int .i64) (.pair (.int .i64) (.pair (.int .i64) (.pair (.bool) (.unit)))))) (.pair (.int .i64) (.pair (.int .i64) (.pair (.int .i64) (.unit))))))))))))))), (5, .obj (.box (.val (.pair (.sl (.int .i64)) (.pair (.pair (.sl (.int .i64)) (.pair (.sl (.int .i64)) (.unit))) (.pair (.int .i64) (.pair (.int .i64) (.unit)))))))), (9, .obj (.val (.int .i64))), (14, .obj (.val (.int .i64))), (17, .obj (.val (.int .i64))), (18, .obj (.val (.int .i64))), (25, .obj (.val (.pair (.pair (.int .i64) (.pair (.int .i64) (.unit))) (.pair (.pair (.int .i64) (.pair (.int .i64) (.unit))) (.pair (.pair (.int .i64) (.pair (.int .i64) (.unit))) (.pair (.pair (.int .i64) (.pair (.int .i64) (.unit))) (.unit))))))), (26, .obj (.val (.int .i64)))])], fun j x => l74_8 k j x.1 x.2.1 x.2.2.1 x.2.2.2.1 x.2.2.2.2.1 x.2.2.2.2.2.1 x.2.2.2.2.2.2.1 x.2.2.2.2.2.2.2.1 x.2.2.2.2.2.2.2.2.1 x.2.2.2.2.2.2.2.2.2.1 x.2.2.2.2.2.2.2.2.2.2.1 x.2.2.2.2.2.2.2.2.2.2.2.1 x.2.2.2.2.2.2.2.2.2.2.2.2.1⟩
noncomputable def l74_5 (k : Nat) : Nat → Int → Int → (ByteArray × Int × Int × (List (Int × Int × Int × (List (Int × Int × Int × Int × Unit)) × Unit)) × (List Int) × Bool × Bool × (List (Int × Int × Int × Bool × Unit)) × Int × Int × Int × Unit) → ((List Int) × ((List Int) × (List Int) × Unit) × Int × Int × Unit) → Int → Int → Int → ((Int × Int × Unit) × (Int × Int × Unit) × (Int × Int × Unit) × (Int × Int × Unit) × Unit) → Int → Option ((Int × Int × (ByteArray × Int × Int × (List (Int × Int × Int × (List (Int × Int × Int × Int × Unit)) × Unit)) × (List Int) × Bool × Bool × (List (Int × Int × Int × Bool × Unit)) × Int × Int × Int × Unit) × ((List Int) × ((List Int) × (List Int) × Unit) × Int × Int × Unit) × Int × Int × Unit) ⊕ (Bool × Unit))
  | 0, _, _, _, _, _, _, _, _, _ => none
  | j + 1, s2, s3, s4, s5, s9, s17, s18, s25, s26 =>
    bif decide (s26 < 4) then
      bif s26 == 0 then
        bif decide (s4.2.1 = 0) then
          none
        else
        bif decide (s4.2.1 = 0) then
          none
        else
          (l74_8 k k s2 s3 s4 s5 s9 s25.1 (s9.tmod s4.2.1) (w64 (s9.tdiv s4.2.1)) 0 s17 s18 s25 s26).bind fun o1 =>
          bif o1.2.2.2.2.2.1 == o1.2.1 then
            some (.inr (true, ()))
          else
            l74_5 k j o1.1 o1.2.1 o1.2.2.1 o1.2.2.2.1 o1.2.2.2.2.1 o1.2.2.2.2.2.2.1 o1.2.2.2.2.2.2.2.1 o1.2.2.2.2.2.2.2.2.1 (w64 (o1.2.2.2.2.2.2.2.2.2.1 + 1))
      else
      bif s26 == 1 then
        bif decide (s4.2.1 = 0) then
          none
        else
        bif decide (s4.2.1 = 0) then
          none
        else
          (l74_8 k k s2 s3 s4 s5 s9 s25.2.1 (s9.tmod s4.2.1) (w64 (s9.tdiv s4.2.1)) 0 s17 s18 s25 s26).bind fun o2 =>
          bif o2.2.2.2.2.2.1 == o2.2.1 then
            some (.inr (true, ()))
          else
            l74_5 k j o2.1 o2.2.1 o2.2.2.1 o2.2.2.2.1 o2.2.2.2.2.1 o2.2.2.2.2.2.2.1 o2.2.2.2.2.2.2.2.1 o2.2.2.2.2.2.2.2.2.1 (w64 (o2.2.2.2.2.2.2.2.2.2.1 + 1))
      else
      bif s26 == 2 then
        bif decide (s4.2.1 = 0) then
          none
        else
        bif decide (s4.2.1 = 0) then
          none
        else
          (l74_8 k k s2 s3 s4 s5 s9 s25.2.2.1 (s9.tmod s4.2.1) (w64 (s9.tdiv s4.2.1)) 0 s17 s18 s25 s26).bind fun o3 =>
          bif o3.2.2.2.2.2.1 == o3.2.1 then
            some (.inr (true, ()))
          else
            l74_5 k j o3.1 o3.2.1 o3.2.2.1 o3.2.2.2.1 o3.2.2.2.2.1 o3.2.2.2.2.2.2.1 o3.2.2.2.2.2.2.2.1 o3.2.2.2.2.2.2.2.2.1 (w64 (o3.2.2.2.2.2.2.2.2.2.1 + 1))
      else
      bif s26 == 3 then
        bif decide (s4.2.1 = 0) then
          none
        else
        bif decide (s4.2.1 = 0) then
          none
        else
          (l74_8 k k s2 s3 s4 s5 s9 s25.2.2.2.1 (s9.tmod s4.2.1) (w64 (s9.tdiv s4.2.1)) 0 s17 s18 s25 s26).bind fun o4 =>
          bif o4.2.2.2.2.2.1 == o4.2.1 then
            some (.inr (true, ()))
          else
            l74_5 k j o4.1 o4.2.1 o4.2.2.1 o4.2.2.2.1 o4.2.2.2.2.1 o4.2.2.2.2.2.2.1 o4.2.2.2.2.2.2.2.1 o4.2.2.2.2.2.2.2.2.1 (w64 (o4.2.2.2.2.2.2.2.2.2.1 + 1))
      else
        none
    else
      some (.inl (s2, s3, s4, s5, s17, s18, ()))
noncomputable def l74_5_sig (k : Nat) : LoopSig := ⟨[(2, .obj (.val (.int .i64))), (3, .obj (.val (.int .i64))), (4, .obj (.box (.val (.pair (.str) (.pair (.int .i64) (.pair (.int .i64) (.pair (.sl (.pair (.int .u8) (.pair (.int .i64) (.pair (.int .i64) (.pair (.sl (.pair (.int .i64) (.pair (.int .i64) (.pair (.int .i64) (.pair (.int .i64) (.unit)))))) (.unit)))))) (.pair (.sl (.int .i64)) (.pair (.bool) (.pair (.bool) (.pair (.sl (.pair (.int .i64) (.pair (.int .i64) (.pair (.int .i64) (.pair (.bool) (.unit)))))) (.pair (.int .i64) (.pair (.int .i64) (.pair (.int .i64) (.unit))))))))))))))), (5, .obj (.box (.val (.pair (.sl (.int .i64)) (.pair (.pair (.sl (.int .i64)) (.pair (.sl (.int .i64)) (.unit))) (.pair (.int .i64) (.pair (.int .i64) (.unit)))))))), (9, .obj (.val (.int .i64))), (17, .obj (.val (.int .i64))), (18, .obj (.val (.int .i64))), (25, .obj (.val (.pair (.pair (.int .i64) (.pair (.int .i64) (.unit))) (.pair (.pair (.int .i64) (.pair (.int .i64) (.unit))) (.pair (.pair (.int .i64) (.pair (.int .i64) (.unit))) (.pair (.pair (.int .i64) (.pair (.int .i64) (.unit))) (.unit))))))), (26, .obj (.val (.int .i64)))], [(.exit 2, [(2, .obj (.val (.int .i64))), (3, .obj (.val (.int .i64))), (4, .obj (.box (.val (.pair (.str) (.pair (.int .i64) (.pair (.int .i64) (.pair (.sl (.pair (.int .u8) (.pair (.int .i64) (.pair (.int .i64) (.pair (.sl (.pair (.int .i64) (.pair (.int .i64) (.pair (.int .i64) (.pair (.int .i64) (.unit)))))) (.unit)))))) (.pair (.sl (.int .i64)) (.pair (.bool) (.pair (.bool) (.pair (.sl (.pair (.int .i64) (.pair (.int .i64) (.pair (.int .i64) (.pair (.bool) (.unit)))))) (.pair (.int .i64) (.pair (.int .i64) (.pair (.int .i64) (.unit))))))))))))))), (5, .obj (.box (.val (.pair (.sl (.int .i64)) (.pair (.pair (.sl (.int .i64)) (.pair (.sl (.int .i64)) (.unit))) (.pair (.int .i64) (.pair (.int .i64) (.unit)))))))), (17, .obj (.val (.int .i64))), (18, .obj (.val (.int .i64)))]), (.ret, [(8, .obj (.val (.bool)))])], fun j x => l74_5 k j x.1 x.2.1 x.2.2.1 x.2.2.2.1 x.2.2.2.2.1 x.2.2.2.2.2.1 x.2.2.2.2.2.2.1 x.2.2.2.2.2.2.2.1 x.2.2.2.2.2.2.2.2.1⟩
noncomputable def l74_2 (k : Nat) : Nat → Int → Int → (ByteArray × Int × Int × (List (Int × Int × Int × (List (Int × Int × Int × Int × Unit)) × Unit)) × (List Int) × Bool × Bool × (List (Int × Int × Int × Bool × Unit)) × Int × Int × Int × Unit) → ((List Int) × ((List Int) × (List Int) × Unit) × Int × Int × Unit) → Int → Int → Option (Unit ⊕ (Bool × Unit))
  | 0, _, _, _, _, _, _ => none
  | j + 1, s2, s3, s4, s5, s17, s18 =>
    bif decide (s18 < s17) then
      (l74_5 k k s2 s3 s4 s5 s18 s17 s18 ((1, 0, ()), (0, 1, ()), (1, 1, ()), (1, (-1), ()), ()) 0).bind fun w13 =>
      Sum.elim
        (fun y1 =>
          l74_2 k j y1.1 y1.2.1 y1.2.2.1 y1.2.2.2.1 y1.2.2.2.2.1 (w64 (y1.2.2.2.2.2.1 + 1)))
        (fun y2 =>
          some (.inr y2))
        w13
    else
      some (.inl ())
noncomputable def l74_2_sig (k : Nat) : LoopSig := ⟨[(2, .obj (.val (.int .i64))), (3, .obj (.val (.int .i64))), (4, .obj (.box (.val (.pair (.str) (.pair (.int .i64) (.pair (.int .i64) (.pair (.sl (.pair (.int .u8) (.pair (.int .i64) (.pair (.int .i64) (.pair (.sl (.pair (.int .i64) (.pair (.int .i64) (.pair (.int .i64) (.pair (.int .i64) (.unit)))))) (.unit)))))) (.pair (.sl (.int .i64)) (.pair (.bool) (.pair (.bool) (.pair (.sl (.pair (.int .i64) (.pair (.int .i64) (.pair (.int .i64) (.pair (.bool) (.unit)))))) (.pair (.int .i64) (.pair (.int .i64) (.pair (.int .i64) (.unit))))))))))))))), (5, .obj (.box (.val (.pair (.sl (.int .i64)) (.pair (.pair (.sl (.int .i64)) (.pair (.sl (.int .i64)) (.unit))) (.pair (.int .i64) (.pair (.int .i64) (.unit)))))))), (17, .obj (.val (.int .i64))), (18, .obj (.val (.int .i64)))], [(.exit 0, []), (.ret, [(8, .obj (.val (.bool)))])], fun j x => l74_2 k j x.1 x.2.1 x.2.2.1 x.2.2.2.1 x.2.2.2.2.1 x.2.2.2.2.2.1⟩
noncomputable def f74 (k : Nat) (x0 : ByteArray × Int × Int × (List (Int × Int × Int × (List (Int × Int × Int × Int × Unit)) × Unit)) × (List Int) × Bool × Bool × (List (Int × Int × Int × Bool × Unit)) × Int × Int × Int × Unit) (x1 : (List Int) × ((List Int) × (List Int) × Unit) × Int × Int × Unit) (x2 : Int) (x3 : Int) : Option ((Bool × Unit)) :=
  (l74_2 k k x2 x3 x0 x1 (x1.1.length : Int) 0).bind fun w14 =>
  Sum.elim
    (fun y1 =>
      some (false, ()))
    (fun y2 =>
      some y2)
    w14
noncomputable def f74_sig (k : Nat) : Sig := ⟨[.val (.pair (.str) (.pair (.int .i64) (.pair (.int .i64) (.pair (.sl (.pair (.int .u8) (.pair (.int .i64) (.pair (.int .i64) (.pair (.sl (.pair (.int .i64) (.pair (.int .i64) (.pair (.int .i64) (.pair (.int .i64) (.unit)))))) (.unit)))))) (.pair (.sl (.int .i64)) (.pair (.bool) (.pair (.bool) (.pair (.sl (.pair (.int .i64) (.pair (.int .i64) (.pair (.int .i64) (.pair (.bool) (.unit)))))) (.pair (.int .i64) (.pair (.int .i64) (.pair (.int .i64) (.unit)))))))))))), .val (.pair (.sl (.int .i64)) (.pair (.pair (.sl (.int .i64)) (.pair (.sl (.int .i64)) (.unit))) (.pair (.int .i64) (.pair (.int .i64) (.unit))))), .val (.int .i64), .val (.int .i64)], [], [[.val (.bool)]], fun x => f74 k x.1 x.2.1 x.2.2.1 x.2.2.2.1⟩
noncomputable def E_f74 (k : Nat) : Env := ⟨Try.prog, G0, scons 29 [f29_sig k] (snil), tcons 2 (l74_2_sig k) (tcons 5 (l74_5_sig k) (tcons 8 (l74_8_sig k) (tnil))), tnil, unil, k, qnil⟩
theorem l74_2_ok (k : Nat) : LoopOK (E_f74 k) ⟨Try.f74.ntmps, [], G0⟩ (nthC 0 (loopsIn (Try.f74.body.getD .skip))) :=
  loop_ok (ls := l74_2_sig k) (by kernel_rfl) (fun _ => by kernel_rfl) (fun j x => by kernel_rfl)
theorem l74_5_ok (k : Nat) : LoopOK (E_f74 k) ⟨Try.f74.ntmps, [], G0⟩ (nthC 1 (loopsIn (Try.f74.body.getD .skip))) :=
  loop_ok (ls := l74_5_sig k) (by kernel_rfl) (fun _ => by kernel_rfl) (fun j x => by kernel_rfl)
theorem l74_8_ok (k : Nat) : LoopOK (E_f74 k) ⟨Try.f74.ntmps, [], G0⟩ (nthC 2 (loopsIn (Try.f74.body.getD .skip))) :=
  loop_ok (ls := l74_8_sig k) (by kernel_rfl) (fun _ => by kernel_rfl) (fun j x => by kernel_rfl)
theorem f74_run (k : Nat) (x : (lTy (lay 0 (f74_sig k).ins)).den) : runF (E_f74 k) Try.f74 (f74_sig k) x = (f74_sig k).F x := by kernel_rfl
theorem f74_ok [Dr] (k : Nat) : FnOK Try.prog G0 74 (f74_sig k) :=
  fn_ok2 (E := E_f74 k) (env_cons (one_sig (f29_ok k)) (env_nil)) (qenv_nil) mixed Try.func74 Try.call74 (by kernel_rfl) (by kernel_rfl) (m := 3) (by kernel_rfl) ⟨⟨⟨trivial, l74_2_ok k⟩, l74_5_ok k⟩, l74_8_ok k⟩ (sk := []) (by kernel_rfl) trivial (f74_run k)

/-! ### gamehall/moves.Cell: function 66 -/
noncomputable def f66 (k : Nat) (x0 : Int) (x1 : Int) : Option ((Int × Unit)) :=
  some (w64 ((w64 ((w64 (2 * x0)) + x1)) + 1), ())
noncomputable def f66_sig (k : Nat) : Sig := ⟨[.val (.int .i64), .val (.int .i64)], [], [[.val (.int .i64)]], fun x => f66 k x.1 x.2.1⟩
noncomputable def E_f66 (k : Nat) : Env := ⟨Try.prog, G0, snil, tnil, tnil, unil, k, qnil⟩
theorem f66_run (k : Nat) (x : (lTy (lay 0 (f66_sig k).ins)).den) : runF (E_f66 k) Try.f66 (f66_sig k) x = (f66_sig k).F x := by kernel_rfl
theorem f66_ok [Dr] (k : Nat) : FnOK Try.prog G0 66 (f66_sig k) :=
  fn_ok2 (E := E_f66 k) (env_nil) (qenv_nil) mixed Try.func66 Try.call66 (by kernel_rfl) (by kernel_rfl) (m := 0) (by kernel_rfl) trivial (sk := []) (by kernel_rfl) trivial (f66_run k)

/-! ### gamehall/rules.Far: function 75 -/
noncomputable def f75 (k : Nat) (x0 : ByteArray × Int × Int × (List (Int × Int × Int × (List (Int × Int × Int × Int × Unit)) × Unit)) × (List Int) × Bool × Bool × (List (Int × Int × Int × Bool × Unit)) × Int × Int × Int × Unit) (x1 : Int) (x2 : Int) : Option ((Bool × Unit)) :=
  bif x1 == 0 then
    bif decide (x0.2.1 = 0) then
      none
    else
      some ((w64 (x2.tdiv x0.2.1)) == (w64 (x0.2.2.1 - 1)), ())
  else
  bif decide (x0.2.1 = 0) then
    none
  else
    some ((w64 (x2.tdiv x0.2.1)) == 0, ())
noncomputable def f75_sig (k : Nat) : Sig := ⟨[.val (.pair (.str) (.pair (.int .i64) (.pair (.int .i64) (.pair (.sl (.pair (.int .u8) (.pair (.int .i64) (.pair (.int .i64) (.pair (.sl (.pair (.int .i64) (.pair (.int .i64) (.pair (.int .i64) (.pair (.int .i64) (.unit)))))) (.unit)))))) (.pair (.sl (.int .i64)) (.pair (.bool) (.pair (.bool) (.pair (.sl (.pair (.int .i64) (.pair (.int .i64) (.pair (.int .i64) (.pair (.bool) (.unit)))))) (.pair (.int .i64) (.pair (.int .i64) (.pair (.int .i64) (.unit)))))))))))), .val (.int .i64), .val (.int .i64)], [], [[.val (.bool)]], fun x => f75 k x.1 x.2.1 x.2.2.1⟩
noncomputable def E_f75 (k : Nat) : Env := ⟨Try.prog, G0, snil, tnil, tnil, unil, k, qnil⟩
theorem f75_run (k : Nat) (x : (lTy (lay 0 (f75_sig k).ins)).den) : runF (E_f75 k) Try.f75 (f75_sig k) x = (f75_sig k).F x := by kernel_rfl
theorem f75_ok [Dr] (k : Nat) : FnOK Try.prog G0 75 (f75_sig k) :=
  fn_ok2 (E := E_f75 k) (env_nil) (qenv_nil) mixed Try.func75 Try.call75 (by kernel_rfl) (by kernel_rfl) (m := 0) (by kernel_rfl) trivial (sk := []) (by kernel_rfl) trivial (f75_run k)

/-! ### gamehall/ends.holds: function 68 -/
noncomputable def l68_7 (k : Nat) : Nat → (ByteArray × Int × Int × (List (Int × Int × Int × (List (Int × Int × Int × Int × Unit)) × Unit)) × (List Int) × Bool × Bool × (List (Int × Int × Int × Bool × Unit)) × Int × Int × Int × Unit) → (Int × Int × Int × Bool × Unit) → Int → (List Int) → Int → Int → Option (Unit ⊕ (Bool × Unit))
  | 0, _, _, _, _, _, _ => none
  | j + 1, s3, s5, s7, s29, s30, s31 =>
    bif decide (s31 < s30) then
      bif decide (0 ≤ s31) && decide (s31 < (s29.length : Int)) then
        (f66 k s5.2.1 s7).bind fun r1 =>
        bif (rd (0 : Int) s29 s31) == r1.1 then
          (f75 k s3 s7 s31).bind fun r2 =>
          bif r2.1 then
            some (.inr (true, ()))
          else
            l68_7 k j s3 s5 s7 s29 s30 (w64 (s31 + 1))
        else
          l68_7 k j s3 s5 s7 s29 s30 (w64 (s31 + 1))
      else
        none
    else
      some (.inl ())
noncomputable def l68_7_sig (k : Nat) : LoopSig := ⟨[(3, .obj (.box (.val (.pair (.str) (.pair (.int .i64) (.pair (.int .i64) (.pair (.sl (.pair (.int .u8) (.pair (.int .i64) (.pair (.int .i64) (.pair (.sl (.pair (.int .i64) (.pair (.int .i64) (.pair (.int .i64) (.pair (.int .i64) (.unit)))))) (.unit)))))) (.pair (.sl (.int .i64)) (.pair (.bool) (.pair (.bool) (.pair (.sl (.pair (.int .i64) (.pair (.int .i64) (.pair (.int .i64) (.pair (.bool) (.unit)))))) (.pair (.int .i64) (.pair (.int .i64) (.pair (.int .i64) (.unit))))))))))))))), (5, .obj (.box (.val (.pair (.int .i64) (.pair (.int .i64) (.pair (.int .i64) (.pair (.bool) (.unit)))))))), (7, .obj (.val (.int .i64))), (29, .obj (.val (.sl (.int .i64)))), (30, .obj (.val (.int .i64))), (31, .obj (.val (.int .i64)))], [(.exit 1, []), (.ret, [(6, .obj (.val (.bool)))])], fun j x => l68_7 k j x.1 x.2.1 x.2.2.1 x.2.2.2.1 x.2.2.2.2.1 x.2.2.2.2.2.1⟩
noncomputable def l68_15 (k : Nat) : Nat → ((List Int) × ((List Int) × (List Int) × Unit) × Int × Int × Unit) → (Int × Int × Int × Bool × Unit) → Int → (List Int) → Int → Int → Option (((Int × Int × Int × Bool × Unit) × Int × Unit))
  | 0, _, _, _, _, _, _ => none
  | j + 1, s4, s5, s10, s50, s51, s52 =>
    bif decide (s52 < s51) then
      bif decide (0 ≤ s52) && decide (s52 < (s50.length : Int)) then
        (f66 k s5.2.1 s4.2.2.1).bind fun r1 =>
        bif (rd (0 : Int) s50 s52) == r1.1 then
          l68_15 k j s4 s5 (w64 (s10 + 1)) s50 s51 (w64 (s52 + 1))
        else
          l68_15 k j s4 s5 s10 s50 s51 (w64 (s52 + 1))
      else
        none
    else
      some (s5, s10, ())
noncomputable def l68_15_sig (k : Nat) : LoopSig := ⟨[(4, .obj (.box (.val (.pair (.sl (.int .i64)) (.pair (.pair (.sl (.int .i64)) (.pair (.sl (.int .i64)) (.unit))) (.pair (.int .i64) (.pair (.int .i64) (.unit)))))))), (5, .obj (.box (.val (.pair (.int .i64) (.pair (.int .i64) (.pair (.int .i64) (.pair (.bool) (.unit)))))))), (10, .obj (.val (.int .i64))), (50, .obj (.val (.sl (.int .i64)))), (51, .obj (.val (.int .i64))), (52, .obj (.val (.int .i64)))], [(.exit 3, [(5, .obj (.box (.val (.pair (.int .i64) (.pair (.int .i64) (.pair (.int .i64) (.pair (.bool) (.unit)))))))), (10, .obj (.val (.int .i64)))])], fun j x => l68_15 k j x.1 x.2.1 x.2.2.1 x.2.2.2.1 x.2.2.2.2.1 x.2.2.2.2.2.1⟩
noncomputable def f68 (k : Nat) (x0 : ByteArray × Int × Int × (List (Int × Int × Int × (List (Int × Int × Int × Int × Unit)) × Unit)) × (List Int) × Bool × Bool × (List (Int × Int × Int × Bool × Unit)) × Int × Int × Int × Unit) (x1 : (List Int) × ((List Int) × (List Int) × Unit) × Int × Int × Unit) (x2 : Int × Int × Int × Bool × Unit) : Option ((Bool × Unit)) :=
  bif x2.1 == 0 then
    (f74 k x0 x1 (w64 (1 - x1.2.2.1)) x2.2.2.1).bind fun r1 =>
    some r1
  else
  bif x2.1 == 1 then
    (l68_7 k k x0 x2 (w64 (1 - x1.2.2.1)) x1.1 (x1.1.length : Int) 0).bind fun w15 =>
    Sum.elim
      (fun y2 =>
        some (false, ()))
      (fun y3 =>
        some y3)
      w15
  else
    (l68_15 k k x1 x2 0 x1.1 (x1.1.length : Int) 0).bind fun o4 =>
    some (decide (o4.2.1 < o4.1.2.2.1), ())
noncomputable def f68_sig (k : Nat) : Sig := ⟨[.val (.pair (.str) (.pair (.int .i64) (.pair (.int .i64) (.pair (.sl (.pair (.int .u8) (.pair (.int .i64) (.pair (.int .i64) (.pair (.sl (.pair (.int .i64) (.pair (.int .i64) (.pair (.int .i64) (.pair (.int .i64) (.unit)))))) (.unit)))))) (.pair (.sl (.int .i64)) (.pair (.bool) (.pair (.bool) (.pair (.sl (.pair (.int .i64) (.pair (.int .i64) (.pair (.int .i64) (.pair (.bool) (.unit)))))) (.pair (.int .i64) (.pair (.int .i64) (.pair (.int .i64) (.unit)))))))))))), .val (.pair (.sl (.int .i64)) (.pair (.pair (.sl (.int .i64)) (.pair (.sl (.int .i64)) (.unit))) (.pair (.int .i64) (.pair (.int .i64) (.unit))))), .val (.pair (.int .i64) (.pair (.int .i64) (.pair (.int .i64) (.pair (.bool) (.unit)))))], [], [[.val (.bool)]], fun x => f68 k x.1 x.2.1 x.2.2.1⟩
noncomputable def E_f68 (k : Nat) : Env := ⟨Try.prog, G0, scons 75 [f75_sig k] (scons 74 [f74_sig k] (scons 66 [f66_sig k] (snil))), tcons 15 (l68_15_sig k) (tcons 7 (l68_7_sig k) (tnil)), tnil, unil, k, qnil⟩
theorem l68_7_ok (k : Nat) : LoopOK (E_f68 k) ⟨Try.f68.ntmps, [], G0⟩ (nthC 0 (loopsIn (Try.f68.body.getD .skip))) :=
  loop_ok (ls := l68_7_sig k) (by kernel_rfl) (fun _ => by kernel_rfl) (fun j x => by kernel_rfl)
theorem l68_15_ok (k : Nat) : LoopOK (E_f68 k) ⟨Try.f68.ntmps, [], G0⟩ (nthC 1 (loopsIn (Try.f68.body.getD .skip))) :=
  loop_ok (ls := l68_15_sig k) (by kernel_rfl) (fun _ => by kernel_rfl) (fun j x => by kernel_rfl)
theorem f68_run (k : Nat) (x : (lTy (lay 0 (f68_sig k).ins)).den) : runF (E_f68 k) Try.f68 (f68_sig k) x = (f68_sig k).F x := by kernel_rfl
theorem f68_ok [Dr] (k : Nat) : FnOK Try.prog G0 68 (f68_sig k) :=
  fn_ok2 (E := E_f68 k) (env_cons (one_sig (f75_ok k)) (env_cons (one_sig (f74_ok k)) (env_cons (one_sig (f66_ok k)) (env_nil)))) (qenv_nil) mixed Try.func68 Try.call68 (by kernel_rfl) (by kernel_rfl) (m := 2) (by kernel_rfl) ⟨⟨trivial, l68_7_ok k⟩, l68_15_ok k⟩ (sk := []) (by kernel_rfl) trivial (f68_run k)

/-! ### gamehall/ends.wins: function 62 -/
noncomputable def f62 (k : Nat) (x0 : Int) : Option ((Int × Unit)) :=
  some (w64 (1 + x0), ())
noncomputable def f62_sig (k : Nat) : Sig := ⟨[.val (.int .i64)], [], [[.val (.int .i64)]], fun x => f62 k x.1⟩
noncomputable def E_f62 (k : Nat) : Env := ⟨Try.prog, G0, snil, tnil, tnil, unil, k, qnil⟩
theorem f62_run (k : Nat) (x : (lTy (lay 0 (f62_sig k).ins)).den) : runF (E_f62 k) Try.f62 (f62_sig k) x = (f62_sig k).F x := by kernel_rfl
theorem f62_ok [Dr] (k : Nat) : FnOK Try.prog G0 62 (f62_sig k) :=
  fn_ok2 (E := E_f62 k) (env_nil) (qenv_nil) mixed Try.func62 Try.call62 (by kernel_rfl) (by kernel_rfl) (m := 0) (by kernel_rfl) trivial (sk := []) (by kernel_rfl) trivial (f62_run k)

/-! ### gamehall/moves.open: function 69 -/
noncomputable def l69_5 (k : Nat) : Nat → (ByteArray × Int × Int × (List (Int × Int × Int × (List (Int × Int × Int × Int × Unit)) × Unit)) × (List Int) × Bool × Bool × (List (Int × Int × Int × Bool × Unit)) × Int × Int × Int × Unit) → ((List Int) × ((List Int) × (List Int) × Unit) × Int × Int × Unit) → Int → Option (Unit ⊕ (Bool × Unit))
  | 0, _, _, _ => none
  | j + 1, s3, s4, s7 =>
    bif decide (s7 ≥ 0) then
      bif decide (0 ≤ s7) && decide (s7 < (s4.1.length : Int)) then
        bif (rd (0 : Int) s4.1 s7) == 0 then
          some (.inr (false, ()))
        else
          l69_5 k j s3 s4 (w64 (s7 - s3.2.1))
      else
        none
    else
      some (.inl ())
noncomputable def l69_5_sig (k : Nat) : LoopSig := ⟨[(3, .obj (.box (.val (.pair (.str) (.pair (.int .i64) (.pair (.int .i64) (.pair (.sl (.pair (.int .u8) (.pair (.int .i64) (.pair (.int .i64) (.pair (.sl (.pair (.int .i64) (.pair (.int .i64) (.pair (.int .i64) (.pair (.int .i64) (.unit)))))) (.unit)))))) (.pair (.sl (.int .i64)) (.pair (.bool) (.pair (.bool) (.pair (.sl (.pair (.int .i64) (.pair (.int .i64) (.pair (.int .i64) (.pair (.bool) (.unit)))))) (.pair (.int .i64) (.pair (.int .i64) (.pair (.int .i64) (.unit))))))))))))))), (4, .obj (.box (.val (.pair (.sl (.int .i64)) (.pair (.pair (.sl (.int .i64)) (.pair (.sl (.int .i64)) (.unit))) (.pair (.int .i64) (.pair (.int .i64) (.unit)))))))), (7, .obj (.val (.int .i64)))], [(.exit 0, []), (.ret, [(6, .obj (.val (.bool)))])], fun j x => l69_5 k j x.1 x.2.1 x.2.2.1⟩
noncomputable def f69 (k : Nat) (x0 : ByteArray × Int × Int × (List (Int × Int × Int × (List (Int × Int × Int × Int × Unit)) × Unit)) × (List Int) × Bool × Bool × (List (Int × Int × Int × Bool × Unit)) × Int × Int × Int × Unit) (x1 : (List Int) × ((List Int) × (List Int) × Unit) × Int × Int × Unit) (x2 : Int) : Option ((Bool × Unit)) :=
  bif decide (0 ≤ x2) && decide (x2 < (x1.1.length : Int)) then
    bif (rd (0 : Int) x1.1 x2) != 0 then
      some (false, ())
    else
    bif x0.2.2.2.2.2.1 then
      (l69_5 k k x0 x1 (w64 (x2 - x0.2.1))).bind fun w16 =>
      Sum.elim
        (fun y1 =>
          some (true, ()))
        (fun y2 =>
          some y2)
        w16
    else
      some (true, ())
  else
    none
noncomputable def f69_sig (k : Nat) : Sig := ⟨[.val (.pair (.str) (.pair (.int .i64) (.pair (.int .i64) (.pair (.sl (.pair (.int .u8) (.pair (.int .i64) (.pair (.int .i64) (.pair (.sl (.pair (.int .i64) (.pair (.int .i64) (.pair (.int .i64) (.pair (.int .i64) (.unit)))))) (.unit)))))) (.pair (.sl (.int .i64)) (.pair (.bool) (.pair (.bool) (.pair (.sl (.pair (.int .i64) (.pair (.int .i64) (.pair (.int .i64) (.pair (.bool) (.unit)))))) (.pair (.int .i64) (.pair (.int .i64) (.pair (.int .i64) (.unit)))))))))))), .val (.pair (.sl (.int .i64)) (.pair (.pair (.sl (.int .i64)) (.pair (.sl (.int .i64)) (.unit))) (.pair (.int .i64) (.pair (.int .i64) (.unit))))), .val (.int .i64)], [], [[.val (.bool)]], fun x => f69 k x.1 x.2.1 x.2.2.1⟩
noncomputable def E_f69 (k : Nat) : Env := ⟨Try.prog, G0, snil, tcons 5 (l69_5_sig k) (tnil), tnil, unil, k, qnil⟩
theorem l69_5_ok (k : Nat) : LoopOK (E_f69 k) ⟨Try.f69.ntmps, [], G0⟩ (nthC 0 (loopsIn (Try.f69.body.getD .skip))) :=
  loop_ok (ls := l69_5_sig k) (by kernel_rfl) (fun _ => by kernel_rfl) (fun j x => by kernel_rfl)
theorem f69_run (k : Nat) (x : (lTy (lay 0 (f69_sig k).ins)).den) : runF (E_f69 k) Try.f69 (f69_sig k) x = (f69_sig k).F x := by kernel_rfl
theorem f69_ok [Dr] (k : Nat) : FnOK Try.prog G0 69 (f69_sig k) :=
  fn_ok2 (E := E_f69 k) (env_nil) (qenv_nil) mixed Try.func69 Try.call69 (by kernel_rfl) (by kernel_rfl) (m := 1) (by kernel_rfl) ⟨trivial, l69_5_ok k⟩ (sk := []) (by kernel_rfl) trivial (f69_run k)

/-! ### gamehall/moves.Kind: function 65 -/
noncomputable def f65 (k : Nat) (x0 : Int) : Option ((Int × Unit)) :=
  some (w64 ((w64 (x0 - 1)).tdiv 2), ())
noncomputable def f65_sig (k : Nat) : Sig := ⟨[.val (.int .i64)], [], [[.val (.int .i64)]], fun x => f65 k x.1⟩
noncomputable def E_f65 (k : Nat) : Env := ⟨Try.prog, G0, snil, tnil, tnil, unil, k, qnil⟩
theorem f65_run (k : Nat) (x : (lTy (lay 0 (f65_sig k).ins)).den) : runF (E_f65 k) Try.f65 (f65_sig k) x = (f65_sig k).F x := by kernel_rfl
theorem f65_ok [Dr] (k : Nat) : FnOK Try.prog G0 65 (f65_sig k) :=
  fn_ok2 (E := E_f65 k) (env_nil) (qenv_nil) mixed Try.func65 Try.call65 (by kernel_rfl) (by kernel_rfl) (m := 0) (by kernel_rfl) trivial (sk := []) (by kernel_rfl) trivial (f65_run k)

/-! ### gamehall/moves.arrives: function 76 -/
noncomputable def f76 (k : Nat) (x0 : ByteArray × Int × Int × (List (Int × Int × Int × (List (Int × Int × Int × Int × Unit)) × Unit)) × (List Int) × Bool × Bool × (List (Int × Int × Int × Bool × Unit)) × Int × Int × Int × Unit) (x1 : Int) (x2 : Int) (x3 : Int) : Option ((Int × Unit)) :=
  bif decide (0 ≤ x2) && decide (x2 < (x0.2.2.2.1.length : Int)) then
    bif decide ((rd ((0, 0, 0, [], ()) : Int × Int × Int × (List (Int × Int × Int × Int × Unit)) × Unit) x0.2.2.2.1 x2).2.2.1 > 0) then
      (f75 k x0 x1 x3).bind fun r1 =>
      bif r1.1 then
        some (w64 ((rd ((0, 0, 0, [], ()) : Int × Int × Int × (List (Int × Int × Int × Int × Unit)) × Unit) x0.2.2.2.1 x2).2.2.1 - 1), ())
      else
        some (x2, ())
    else
      some (x2, ())
  else
    none
noncomputable def f76_sig (k : Nat) : Sig := ⟨[.val (.pair (.str) (.pair (.int .i64) (.pair (.int .i64) (.pair (.sl (.pair (.int .u8) (.pair (.int .i64) (.pair (.int .i64) (.pair (.sl (.pair (.int .i64) (.pair (.int .i64) (.pair (.int .i64) (.pair (.int .i64) (.unit)))))) (.unit)))))) (.pair (.sl (.int .i64)) (.pair (.bool) (.pair (.bool) (.pair (.sl (.pair (.int .i64) (.pair (.int .i64) (.pair (.int .i64) (.pair (.bool) (.unit)))))) (.pair (.int .i64) (.pair (.int .i64) (.pair (.int .i64) (.unit)))))))))))), .val (.int .i64), .val (.int .i64), .val (.int .i64)], [], [[.val (.int .i64)]], fun x => f76 k x.1 x.2.1 x.2.2.1 x.2.2.2.1⟩
noncomputable def E_f76 (k : Nat) : Env := ⟨Try.prog, G0, scons 75 [f75_sig k] (snil), tnil, tnil, unil, k, qnil⟩
theorem f76_run (k : Nat) (x : (lTy (lay 0 (f76_sig k).ins)).den) : runF (E_f76 k) Try.f76 (f76_sig k) x = (f76_sig k).F x := by kernel_rfl
theorem f76_ok [Dr] (k : Nat) : FnOK Try.prog G0 76 (f76_sig k) :=
  fn_ok2 (E := E_f76 k) (env_cons (one_sig (f75_ok k)) (env_nil)) (qenv_nil) mixed Try.func76 Try.call76 (by kernel_rfl) (by kernel_rfl) (m := 0) (by kernel_rfl) trivial (sk := []) (by kernel_rfl) trivial (f76_run k)

/-! ### gamehall/moves.along: function 70 -/
noncomputable def l70_7 (k : Nat) : Nat → (List (Int × Int × Int × Unit)) → Int → (ByteArray × Int × Int × (List (Int × Int × Int × (List (Int × Int × Int × Int × Unit)) × Unit)) × (List Int) × Bool × Bool × (List (Int × Int × Int × Bool × Unit)) × Int × Int × Int × Unit) → ((List Int) × ((List Int) × (List Int) × Unit) × Int × Int × Unit) → (Int × Int × Int × Int × Unit) → Int → Int → Int → Int → Int → Int → Option (((List (Int × Int × Int × Unit)) × Unit) ⊕ ((List (Int × Int × Int × Unit)) × Unit × Unit))
  | 0, _, _, _, _, _, _, _, _, _, _, _ => none
  | j + 1, s0, s3, s6, s7, s9, s11, s12, s13, s14, s39, s40 =>
    bif decide (s40 < s39) then
      bif decide ((w64 (s13 + s9.1)) < 0) then
        some (.inr (s0, (), ()))
      else
      bif decide ((w64 (s13 + s9.1)) ≥ s6.2.1) then
        some (.inr (s0, (), ()))
      else
      bif decide ((w64 (s14 + s12)) < 0) then
        some (.inr (s0, (), ()))
      else
      bif decide ((w64 (s14 + s12)) ≥ s6.2.2.1) then
        some (.inr (s0, (), ()))
      else
      bif decide (0 ≤ (w64 ((w64 ((w64 (s14 + s12)) * s6.2.1)) + (w64 (s13 + s9.1))))) && decide ((w64 ((w64 ((w64 (s14 + s12)) * s6.2.1)) + (w64 (s13 + s9.1)))) < (s7.1.length : Int)) then
        (f29 k (rd (0 : Int) s7.1 (w64 ((w64 ((w64 (s14 + s12)) * s6.2.1)) + (w64 (s13 + s9.1)))))).bind fun r1 =>
        bif decide (r1.1 < 0) then
          bif s9.2.2.2.1 != 2 then
            (f76 k s6 s7.2.2.1 s11 (w64 ((w64 ((w64 (s14 + s12)) * s6.2.1)) + (w64 (s13 + s9.1))))).bind fun r2 =>
            bif decide ((s0.length + ([(s3, w64 ((w64 ((w64 (s14 + s12)) * s6.2.1)) + (w64 (s13 + s9.1))), r2)] : List (Int × Int × Int × Unit)).length) * 24 ≤ roomN) then
              bif decide (r1.1 ≥ 0) then
                some (.inr (s0 ++ [(s3, w64 ((w64 ((w64 (s14 + s12)) * s6.2.1)) + (w64 (s13 + s9.1))), r2)], (), ()))
              else
                l70_7 k j (s0 ++ [(s3, w64 ((w64 ((w64 (s14 + s12)) * s6.2.1)) + (w64 (s13 + s9.1))), r2)]) s3 s6 s7 s9 s11 s12 (w64 (s13 + s9.1)) (w64 (s14 + s12)) s39 (w64 (s40 + 1))
            else
              none
          else
          bif r1.1 == (w64 (1 - s7.2.2.1)) then
            bif s9.2.2.2.1 != 0 then
              (f76 k s6 s7.2.2.1 s11 (w64 ((w64 ((w64 (s14 + s12)) * s6.2.1)) + (w64 (s13 + s9.1))))).bind fun r3 =>
              bif decide ((s0.length + ([(s3, w64 ((w64 ((w64 (s14 + s12)) * s6.2.1)) + (w64 (s13 + s9.1))), r3)] : List (Int × Int × Int × Unit)).length) * 24 ≤ roomN) then
                bif decide (r1.1 ≥ 0) then
                  some (.inr (s0 ++ [(s3, w64 ((w64 ((w64 (s14 + s12)) * s6.2.1)) + (w64 (s13 + s9.1))), r3)], (), ()))
                else
                  l70_7 k j (s0 ++ [(s3, w64 ((w64 ((w64 (s14 + s12)) * s6.2.1)) + (w64 (s13 + s9.1))), r3)]) s3 s6 s7 s9 s11 s12 (w64 (s13 + s9.1)) (w64 (s14 + s12)) s39 (w64 (s40 + 1))
              else
                none
            else
            bif decide (r1.1 ≥ 0) then
              some (.inr (s0, (), ()))
            else
              l70_7 k j s0 s3 s6 s7 s9 s11 s12 (w64 (s13 + s9.1)) (w64 (s14 + s12)) s39 (w64 (s40 + 1))
          else
          bif decide (r1.1 ≥ 0) then
            some (.inr (s0, (), ()))
          else
            l70_7 k j s0 s3 s6 s7 s9 s11 s12 (w64 (s13 + s9.1)) (w64 (s14 + s12)) s39 (w64 (s40 + 1))
        else
        bif r1.1 == (w64 (1 - s7.2.2.1)) then
          bif s9.2.2.2.1 != 0 then
            (f76 k s6 s7.2.2.1 s11 (w64 ((w64 ((w64 (s14 + s12)) * s6.2.1)) + (w64 (s13 + s9.1))))).bind fun r4 =>
            bif decide ((s0.length + ([(s3, w64 ((w64 ((w64 (s14 + s12)) * s6.2.1)) + (w64 (s13 + s9.1))), r4)] : List (Int × Int × Int × Unit)).length) * 24 ≤ roomN) then
              bif decide (r1.1 ≥ 0) then
                some (.inr (s0 ++ [(s3, w64 ((w64 ((w64 (s14 + s12)) * s6.2.1)) + (w64 (s13 + s9.1))), r4)], (), ()))
              else
                l70_7 k j (s0 ++ [(s3, w64 ((w64 ((w64 (s14 + s12)) * s6.2.1)) + (w64 (s13 + s9.1))), r4)]) s3 s6 s7 s9 s11 s12 (w64 (s13 + s9.1)) (w64 (s14 + s12)) s39 (w64 (s40 + 1))
            else
              none
          else
          bif decide (r1.1 ≥ 0) then
            some (.inr (s0, (), ()))
          else
            l70_7 k j s0 s3 s6 s7 s9 s11 s12 (w64 (s13 + s9.1)) (w64 (s14 + s12)) s39 (w64 (s40 + 1))
        else
        bif decide (r1.1 ≥ 0) then
          some (.inr (s0, (), ()))
        else
          l70_7 k j s0 s3 s6 s7 s9 s11 s12 (w64 (s13 + s9.1)) (w64 (s14 + s12)) s39 (w64 (s40 + 1))
      else
        none
    else
      some (.inl (s0, ()))
noncomputable def l70_7_sig (k : Nat) : LoopSig := ⟨[(0, .obj (.row (.pair (.int .i64) (.pair (.int .i64) (.pair (.int .i64) (.unit)))))), (3, .obj (.val (.int .i64))), (6, .obj (.box (.val (.pair (.str) (.pair (.int .i64) (.pair (.int .i64) (.pair (.sl (.pair (.int .u8) (.pair (.int .i64) (.pair (.int .i64) (.pair (.sl (.pair (.int .i64) (.pair (.int .i64) (.pair (.int .i64) (.pair (.int .i64) (.unit)))))) (.unit)))))) (.pair (.sl (.int .i64)) (.pair (.bool) (.pair (.bool) (.pair (.sl (.pair (.int .i64) (.pair (.int .i64) (.pair (.int .i64) (.pair (.bool) (.unit)))))) (.pair (.int .i64) (.pair (.int .i64) (.pair (.int .i64) (.unit))))))))))))))), (7, .obj (.box (.val (.pair (.sl (.int .i64)) (.pair (.pair (.sl (.int .i64)) (.pair (.sl (.int .i64)) (.unit))) (.pair (.int .i64) (.pair (.int .i64) (.unit)))))))), (9, .obj (.box (.val (.pair (.int .i64) (.pair (.int .i64) (.pair (.int .i64) (.pair (.int .i64) (.unit)))))))), (11, .obj (.val (.int .i64))), (12, .obj (.val (.int .i64))), (13, .obj (.val (.int .i64))), (14, .obj (.val (.int .i64))), (39, .obj (.val (.int .i64))), (40, .obj (.val (.int .i64)))], [(.exit 0, [(0, .obj (.row (.pair (.int .i64) (.pair (.int .i64) (.pair (.int .i64) (.unit))))))]), (.ret, [(0, .obj (.row (.pair (.int .i64) (.pair (.int .i64) (.pair (.int .i64) (.unit)))))), (10, .same 0)])], fun j x => l70_7 k j x.1 x.2.1 x.2.2.1 x.2.2.2.1 x.2.2.2.2.1 x.2.2.2.2.2.1 x.2.2.2.2.2.2.1 x.2.2.2.2.2.2.2.1 x.2.2.2.2.2.2.2.2.1 x.2.2.2.2.2.2.2.2.2.1 x.2.2.2.2.2.2.2.2.2.2.1⟩
noncomputable def f70 (k : Nat) (x0 : List (Int × Int × Int × Unit)) (x1 : ByteArray × Int × Int × (List (Int × Int × Int × (List (Int × Int × Int × Int × Unit)) × Unit)) × (List Int) × Bool × Bool × (List (Int × Int × Int × Bool × Unit)) × Int × Int × Int × Unit) (x2 : (List Int) × ((List Int) × (List Int) × Unit) × Int × Int × Unit) (x3 : Int) (x4 : Int × Int × Int × Int × Unit) : Option (((List (Int × Int × Int × Unit)) × Unit)) :=
  bif decide (0 ≤ x3) && decide (x3 < (x2.1.length : Int)) then
    (f65 k (rd (0 : Int) x2.1 x3)).bind fun r1 =>
    bif x2.2.2.1 == 1 then
      bif decide (x1.2.1 = 0) then
        none
      else
      bif decide (x1.2.1 = 0) then
        none
      else
        (l70_7 k k x0 x3 x1 x2 x4 r1.1 (w64 (0 - x4.2.1)) (x3.tmod x1.2.1) (w64 (x3.tdiv x1.2.1)) x4.2.2.1 0).bind fun w17 =>
        Sum.elim
          (fun y2 =>
            some y2)
          (fun y3 =>
            some (y3.1, ()))
          w17
    else
    bif decide (x1.2.1 = 0) then
      none
    else
    bif decide (x1.2.1 = 0) then
      none
    else
      (l70_7 k k x0 x3 x1 x2 x4 r1.1 x4.2.1 (x3.tmod x1.2.1) (w64 (x3.tdiv x1.2.1)) x4.2.2.1 0).bind fun w18 =>
      Sum.elim
        (fun y4 =>
          some y4)
        (fun y5 =>
          some (y5.1, ()))
        w18
  else
    none
noncomputable def f70_sig (k : Nat) : Sig := ⟨[.row (.pair (.int .i64) (.pair (.int .i64) (.pair (.int .i64) (.unit)))), .val (.pair (.str) (.pair (.int .i64) (.pair (.int .i64) (.pair (.sl (.pair (.int .u8) (.pair (.int .i64) (.pair (.int .i64) (.pair (.sl (.pair (.int .i64) (.pair (.int .i64) (.pair (.int .i64) (.pair (.int .i64) (.unit)))))) (.unit)))))) (.pair (.sl (.int .i64)) (.pair (.bool) (.pair (.bool) (.pair (.sl (.pair (.int .i64) (.pair (.int .i64) (.pair (.int .i64) (.pair (.bool) (.unit)))))) (.pair (.int .i64) (.pair (.int .i64) (.pair (.int .i64) (.unit)))))))))))), .val (.pair (.sl (.int .i64)) (.pair (.pair (.sl (.int .i64)) (.pair (.sl (.int .i64)) (.unit))) (.pair (.int .i64) (.pair (.int .i64) (.unit))))), .val (.int .i64), .val (.pair (.int .i64) (.pair (.int .i64) (.pair (.int .i64) (.pair (.int .i64) (.unit)))))], [], [[.row (.pair (.int .i64) (.pair (.int .i64) (.pair (.int .i64) (.unit))))]], fun x => f70 k x.1 x.2.1 x.2.2.1 x.2.2.2.1 x.2.2.2.2.1⟩
noncomputable def E_f70 (k : Nat) : Env := ⟨Try.prog, G0, scons 76 [f76_sig k] (scons 65 [f65_sig k] (scons 29 [f29_sig k] (snil))), tcons 7 (l70_7_sig k) (tnil), tnil, unil, k, qnil⟩
theorem l70_7_ok (k : Nat) : LoopOK (E_f70 k) ⟨Try.f70.ntmps, [], G0⟩ (nthC 0 (loopsIn (Try.f70.body.getD .skip))) :=
  loop_ok (ls := l70_7_sig k) (by kernel_rfl) (fun _ => by kernel_rfl) (fun j x => by kernel_rfl)
theorem f70_run (k : Nat) (x : (lTy (lay 0 (f70_sig k).ins)).den) : runF (E_f70 k) Try.f70 (f70_sig k) x = (f70_sig k).F x := by kernel_rfl
theorem f70_ok [Dr] (k : Nat) : FnOK Try.prog G0 70 (f70_sig k) :=
  fn_ok2 (E := E_f70 k) (env_cons (one_sig (f76_ok k)) (env_cons (one_sig (f65_ok k)) (env_cons (one_sig (f29_ok k)) (env_nil)))) (qenv_nil) mixed Try.func70 Try.call70 (by kernel_rfl) (by kernel_rfl) (m := 1) (by kernel_rfl) ⟨trivial, l70_7_ok k⟩ (sk := []) (by kernel_rfl) trivial (f70_run k)

/-! ### cmp.isNaN[int]: function 91 -/
noncomputable def f91 (k : Nat) (x0 : Int) : Option ((Bool × Unit)) :=
  some (x0 != x0, ())
noncomputable def f91_sig (k : Nat) : Sig := ⟨[.val (.int .i64)], [], [[.val (.bool)]], fun x => f91 k x.1⟩
noncomputable def E_f91 (k : Nat) : Env := ⟨Try.prog, G0, snil, tnil, tnil, unil, k, qnil⟩
theorem f91_run (k : Nat) (x : (lTy (lay 0 (f91_sig k).ins)).den) : runF (E_f91 k) Try.f91 (f91_sig k) x = (f91_sig k).F x := by kernel_rfl
theorem f91_ok [Dr] (k : Nat) : FnOK Try.prog G0 91 (f91_sig k) :=
  fn_ok2 (E := E_f91 k) (env_nil) (qenv_nil) mixed Try.func91 Try.call91 (by kernel_rfl) (by kernel_rfl) (m := 0) (by kernel_rfl) trivial (sk := []) (by kernel_rfl) trivial (f91_run k)

/-! ### cmp.Compare[int]: function 80 -/
noncomputable def f80 (k : Nat) (x0 : Int) (x1 : Int) : Option ((Int × Unit)) :=
  (f91 k x0).bind fun r1 =>
  (f91 k x1).bind fun r2 =>
  bif r1.1 then
    bif r2.1 then
      some (0, ())
    else
      some ((-1), ())
  else
  bif r2.1 then
    some (1, ())
  else
  bif decide (x0 < x1) then
    some ((-1), ())
  else
  bif decide (x0 > x1) then
    some (1, ())
  else
    some (0, ())
noncomputable def f80_sig (k : Nat) : Sig := ⟨[.val (.int .i64), .val (.int .i64)], [], [[.val (.int .i64)]], fun x => f80 k x.1 x.2.1⟩
noncomputable def E_f80 (k : Nat) : Env := ⟨Try.prog, G0, scons 91 [f91_sig k] (snil), tnil, tnil, unil, k, qnil⟩
theorem f80_run (k : Nat) (x : (lTy (lay 0 (f80_sig k).ins)).den) : runF (E_f80 k) Try.f80 (f80_sig k) x = (f80_sig k).F x := by kernel_rfl
theorem f80_ok [Dr] (k : Nat) : FnOK Try.prog G0 80 (f80_sig k) :=
  fn_ok2 (E := E_f80 k) (env_cons (one_sig (f91_ok k)) (env_nil)) (qenv_nil) mixed Try.func80 Try.call80 (by kernel_rfl) (by kernel_rfl) (m := 0) (by kernel_rfl) trivial (sk := []) (by kernel_rfl) trivial (f80_run k)

/-! ### cmp.Or[int]: function 79 -/
noncomputable def l79_3 (k : Nat) : Nat → Int → (List Int) → Int → Int → Option ((Int × Unit) ⊕ (Int × Unit))
  | 0, _, _, _, _ => none
  | j + 1, s3, s6, s7, s8 =>
    bif decide (s8 < s7) then
      bif decide (0 ≤ s8) && decide (s8 < (s6.length : Int)) then
        bif (rd (0 : Int) s6 s8) != s3 then
          some (.inr (rd (0 : Int) s6 s8, ()))
        else
          l79_3 k j s3 s6 s7 (w64 (s8 + 1))
      else
        none
    else
      some (.inl (s3, ()))
noncomputable def l79_3_sig (k : Nat) : LoopSig := ⟨[(3, .obj (.val (.int .i64))), (6, .obj (.val (.sl (.int .i64)))), (7, .obj (.val (.int .i64))), (8, .obj (.val (.int .i64)))], [(.exit 0, [(3, .obj (.val (.int .i64)))]), (.ret, [(2, .obj (.val (.int .i64)))])], fun j x => l79_3 k j x.1 x.2.1 x.2.2.1 x.2.2.2.1⟩
noncomputable def f79 (k : Nat) (x0 : List Int) : Option ((Int × Unit)) :=
  (l79_3 k k 0 x0 (x0.length : Int) 0).bind fun w19 =>
  Sum.elim
    (fun y1 =>
      some y1)
    (fun y2 =>
      some y2)
    w19
noncomputable def f79_sig (k : Nat) : Sig := ⟨[.val (.sl (.int .i64))], [], [[.val (.int .i64)]], fun x => f79 k x.1⟩
noncomputable def E_f79 (k : Nat) : Env := ⟨Try.prog, G0, snil, tcons 3 (l79_3_sig k) (tnil), tnil, unil, k, qnil⟩
theorem l79_3_ok (k : Nat) : LoopOK (E_f79 k) ⟨Try.f79.ntmps, [], G0⟩ (nthC 0 (loopsIn (Try.f79.body.getD .skip))) :=
  loop_ok (ls := l79_3_sig k) (by kernel_rfl) (fun _ => by kernel_rfl) (fun j x => by kernel_rfl)
theorem f79_run (k : Nat) (x : (lTy (lay 0 (f79_sig k).ins)).den) : runF (E_f79 k) Try.f79 (f79_sig k) x = (f79_sig k).F x := by kernel_rfl
theorem f79_ok [Dr] (k : Nat) : FnOK Try.prog G0 79 (f79_sig k) :=
  fn_ok2 (E := E_f79 k) (env_nil) (qenv_nil) mixed Try.func79 Try.call79 (by kernel_rfl) (by kernel_rfl) (m := 1) (by kernel_rfl) ⟨trivial, l79_3_ok k⟩ (sk := []) (by kernel_rfl) trivial (f79_run k)

/-! ### gamehall/moves.compare: function 72 -/
noncomputable def f72 (k : Nat) (x0 : Int × Int × Int × Unit) (x1 : Int × Int × Int × Unit) : Option ((Int × Unit)) :=
  (f80 k x0.1 x1.1).bind fun r1 =>
  (f80 k x0.2.1 x1.2.1).bind fun r2 =>
  (f80 k x0.2.2.1 x1.2.2.1).bind fun r3 =>
  (f79 k [r1.1, r2.1, r3.1]).bind fun r4 =>
  some r4
noncomputable def f72_sig (k : Nat) : Sig := ⟨[.val (.pair (.int .i64) (.pair (.int .i64) (.pair (.int .i64) (.unit)))), .val (.pair (.int .i64) (.pair (.int .i64) (.pair (.int .i64) (.unit))))], [], [[.val (.int .i64)]], fun x => f72 k x.1 x.2.1⟩
noncomputable def E_f72 (k : Nat) : Env := ⟨Try.prog, G0, scons 80 [f80_sig k] (scons 79 [f79_sig k] (snil)), tnil, tnil, unil, k, qnil⟩
theorem f72_run (k : Nat) (x : (lTy (lay 0 (f72_sig k).ins)).den) : runF (E_f72 k) Try.f72 (f72_sig k) x = (f72_sig k).F x := by kernel_rfl
theorem f72_ok [Dr] (k : Nat) : FnOK Try.prog G0 72 (f72_sig k) :=
  fn_ok2 (E := E_f72 k) (env_cons (one_sig (f80_ok k)) (env_cons (one_sig (f79_ok k)) (env_nil))) (qenv_nil) mixed Try.func72 Try.call72 (by kernel_rfl) (by kernel_rfl) (m := 0) (by kernel_rfl) trivial (sk := []) (by kernel_rfl) trivial (f72_run k)

/-! ### slices.SortFunc: function 71, out of the library's own contract -/
open Go.Shelf in
def sortMv_ren : Go.Shelf.Ren := ⟨fun | 6 => 71 | 15 => 78 | 14 => 77 | 28 => 89 | 29 => 90 | 20 => 81 | 21 => 82 | 22 => 83 | 23 => 84 | 24 => 85 | 25 => 86 | 26 => 87 | 27 => 88 | 46 => 92 | 47 => 93 | 48 => 94 | 49 => 95 | 50 => 96 | 57 => 97 | n => n, fun | 22 => 105 | 24 => 108 | 25 => 128 | 3 => 3 | 39 => 130 | 0 => 0 | 53 => 148 | 55 => 98 | 4 => 4 | 46 => 141 | 45 => 140 | 50 => 145 | 5 => 5 | 9 => 9 | 66 => 151 | 70 => 155 | 76 => 157 | 77 => 158 | n => n, fun | n => n⟩
open Go.Shelf in
theorem sortMv : Go.Proofs.SlLaysF0.n6 Try.prog sortMv_ren := {
  mixed := by kernel_rfl
  f6 := ⟨Try.f71.name, by decide, Try.func71.trans (congrArg some (by kernel_rfl))⟩
  f14 := ⟨Try.f77.name, by decide, Try.func77.trans (congrArg some (by kernel_rfl))⟩
  f15 := Try.func78.trans (congrArg some (by kernel_rfl))
  f20 := ⟨Try.f81.name, by decide, Try.func81.trans (congrArg some (by kernel_rfl))⟩
  f21 := ⟨Try.f82.name, by decide, Try.func82.trans (congrArg some (by kernel_rfl))⟩
  f22 := ⟨Try.f83.name, by decide, Try.func83.trans (congrArg some (by kernel_rfl))⟩
  f23 := ⟨Try.f84.name, by decide, Try.func84.trans (congrArg some (by kernel_rfl))⟩
  f24 := ⟨Try.f85.name, by decide, Try.func85.trans (congrArg some (by kernel_rfl))⟩
  f25 := ⟨Try.f86.name, by decide, Try.func86.trans (congrArg some (by kernel_rfl))⟩
  f26 := ⟨Try.f87.name, by decide, Try.func87.trans (congrArg some (by kernel_rfl))⟩
  f27 := ⟨Try.f88.name, by decide, Try.func88.trans (congrArg some (by kernel_rfl))⟩
  f28 := Try.func89.trans (congrArg some (by kernel_rfl))
  f29 := Try.func90.trans (congrArg some (by kernel_rfl))
  f46 := ⟨Try.f92.name, by decide, Try.func92.trans (congrArg some (by kernel_rfl))⟩
  f47 := Try.func93.trans (congrArg some (by kernel_rfl))
  f48 := Try.func94.trans (congrArg some (by kernel_rfl))
  f49 := ⟨Try.f95.name, by decide, Try.func95.trans (congrArg some (by kernel_rfl))⟩
  f50 := ⟨Try.f96.name, by decide, Try.func96.trans (congrArg some (by kernel_rfl))⟩
  f57 := ⟨Try.f97.name, by decide, Try.func97.trans (congrArg some (by kernel_rfl))⟩
  t0 := Try.underlying0
  a0 := Try.isAgg0
  z0 := Try.sizeOf0
  v0 := Try.zeroValue0
  t3 := Try.underlying3
  a3 := Try.isAgg3
  z3 := Try.sizeOf3
  v3 := Try.zeroValue3
  t4 := Try.underlying4
  a4 := Try.isAgg4
  z4 := Try.sizeOf4
  v4 := Try.zeroValue4
  t5 := Try.underlying5
  a5 := Try.isAgg5
  z5 := Try.sizeOf5
  v5 := Try.zeroValue5
  t9 := Try.underlying9
  a9 := Try.isAgg9
  z9 := Try.sizeOf9
  v9 := Try.zeroValue9
  t22 := Try.underlying105
  a22 := Try.isAgg105
  z22 := Try.sizeOf105
  v22 := Try.zeroValue105
  t25 := Try.underlying128
  a25 := Try.isAgg128
  z25 := Try.sizeOf128
  v25 := Try.zeroValue128
  t39 := Try.underlying130
  a39 := Try.isAgg130
  z39 := Try.sizeOf130
  v39 := Try.zeroValue130
  t45 := Try.underlying140
  a45 := Try.isAgg140
  z45 := Try.sizeOf140
  v45 := Try.zeroValue140
  t46 := Try.underlying141
  a46 := Try.isAgg141
  z46 := Try.sizeOf141
  v46 := Try.zeroValue141
  t50 := Try.underlying145
  a50 := Try.isAgg145
  z50 := Try.sizeOf145
  v50 := Try.zeroValue145
  t53 := Try.underlying148
  a53 := Try.isAgg148
  z53 := Try.sizeOf148
  v53 := Try.zeroValue148
  t55 := Try.underlying98
  a55 := Try.isAgg98
  z55 := Try.sizeOf98
  v55 := Try.zeroValue98
  t66 := Try.underlying151
  a66 := Try.isAgg151
  z66 := Try.sizeOf151
  v66 := Try.zeroValue151
  t70 := Try.underlying155
  a70 := Try.isAgg155
  z70 := Try.sizeOf155
  v70 := Try.zeroValue155
  t76 := Try.underlying157
  a76 := Try.isAgg157
  z76 := Try.sizeOf157
  v76 := Try.zeroValue157
  t77 := Try.underlying158
  a77 := Try.isAgg158
  z77 := Try.sizeOf158
  v77 := Try.zeroValue158 }

def cmpI (a b : Int) : Int := bif decide (a < b) then -1 else bif decide (b < a) then 1 else 0
theorem cmpI_eq (k : Nat) (a b : Int) : f80 k a b = some (cmpI a b, ()) := by
  have h0 : f91 k a = some (false, ()) := by simp [f91]
  have h1 : f91 k b = some (false, ()) := by simp [f91]
  unfold f80 cmpI
  rw [h0, h1]
  by_cases h : a < b <;> by_cases h' : b < a <;> simp [h, h']
def cmpM (x y : Int × Int × Int × Unit) : Int := bif cmpI x.1 y.1 != 0 then cmpI x.1 y.1 else bif cmpI x.2.1 y.2.1 != 0 then cmpI x.2.1 y.2.1 else cmpI x.2.2.1 y.2.2.1
theorem cmpOr_eq (k : Nat) (a b c : Int) : f79 (k + 5) [a, b, c] = some (bif a != 0 then a else bif b != 0 then b else c, ()) := by
  unfold f79
  have e0 : ∀ a b c : Int, rd (0 : Int) [a, b, c] 0 = a := fun _ _ _ => rfl
  have e1 : ∀ a b c : Int, rd (0 : Int) [a, b, c] 1 = b := fun _ _ _ => rfl
  have e2 : ∀ a b c : Int, rd (0 : Int) [a, b, c] 2 = c := fun _ _ _ => rfl
  have w1 : w64 1 = 1 := by decide
  have w2 : w64 2 = 2 := by decide
  have w3 : w64 3 = 3 := by decide
  cases ha : (a != 0) <;> cases hb : (b != 0) <;> cases hc : (c != 0) <;> simp [l79_3, ha, hb, hc, e0, e1, e2, w1, w2, w3]
  have := bne_eq_false_iff_eq.1 hc
  exact this.symm
theorem cmpM_eq (k : Nat) (x y : Int × Int × Int × Unit) : f72 (k + 5) x y = some (cmpM x y, ()) := by
  unfold f72 cmpM
  simp only [cmpI_eq, Option.bind_some, cmpOr_eq]
theorem cmpM_lt (x y : Int × Int × Int × Unit) : cmpM x y < 0 ↔ x.1 < y.1 ∨ x.1 = y.1 ∧ (x.2.1 < y.2.1 ∨ x.2.1 = y.2.1 ∧ x.2.2.1 < y.2.2.1) := by
  have e : ∀ a b : Int, cmpI a b = if a < b then -1 else if b < a then 1 else 0 := fun a b => by
    unfold cmpI; by_cases h : a < b <;> by_cases h' : b < a <;> simp [h, h']
  unfold cmpM
  simp only [e]
  obtain ⟨a, b, c, _⟩ := x; obtain ⟨a', b', c', _⟩ := y
  simp only
  rcases Int.lt_trichotomy a a' with h | h | h
  · simp [h]
  · subst h
    rcases Int.lt_trichotomy b b' with h | h | h
    · simp [h]
    · subst h
      rcases Int.lt_trichotomy c c' with h | h | h
      · simp [h]
      · subst h; simp
      · have h2 : ¬ c < c' := by omega
        simp [h, h2]
    · have h2 : ¬ b < b' := by omega
      have h3 : ¬ b = b' := by omega
      simp [h, h2, h3]
  · have h2 : ¬ a < a' := by omega
    have h3 : ¬ a = a' := by omega
    simp [h, h2, h3]
/-- The order of moves. -/
def mvLt (x y : Int × Int × Int × Unit) : Bool := decide (cmpM x y < 0)
noncomputable def f71 (k : Nat) (x0 : List (Int × Int × Int × Unit)) : Option (List (Int × Int × Int × Unit) × Unit) :=
  bif Nat.ble 5 k && decide (x0.length < 4611686018427387904) then some (List.mergeSort x0 (fun x y => !mvLt y x), ()) else none
noncomputable def f71_sig (k : Nat) : Sig := ⟨[.row (.pair (.int .i64) (.pair (.int .i64) (.pair (.int .i64) (.unit)))), .fn 72], [0], [[.row (.pair (.int .i64) (.pair (.int .i64) (.pair (.int .i64) (.unit))))]], fun x => f71 k x.1⟩
theorem mv_swo : Go.Sort.SWO (Go.Proofs.ltOf cmpM) := by
  have e : ∀ x y, Go.Proofs.ltOf cmpM x y = true ↔ cmpM x y < 0 := fun x y => by simp [Go.Proofs.ltOf]
  have e' : ∀ x y, Go.Proofs.ltOf cmpM x y = false ↔ ¬ cmpM x y < 0 := fun x y => by simp [Go.Proofs.ltOf]
  refine ⟨fun x => ?_, fun x y z h1 h2 => ?_, fun x y z h1 h2 => ?_⟩
  · rw [e', cmpM_lt]; omega
  · rw [e, cmpM_lt] at *; omega
  · rw [e', cmpM_lt] at *; omega
theorem mv_tot (x y : Int × Int × Int × Unit) (h1 : Go.Proofs.ltOf cmpM x y = false) (h2 : Go.Proofs.ltOf cmpM y x = false) : x = y := by
  have e' : ∀ x y, Go.Proofs.ltOf cmpM x y = false ↔ ¬ cmpM x y < 0 := fun x y => by simp [Go.Proofs.ltOf]
  rw [e', cmpM_lt] at h1 h2
  obtain ⟨a, b, c, _⟩ := x; obtain ⟨a', b', c', _⟩ := y
  simp only at h1 h2
  have : a = a' ∧ b = b' ∧ c = c' := by omega
  obtain ⟨rfl, rfl, rfl⟩ := this
  rfl
theorem f71_ok [Dr] (k : Nat) : FnOK Try.prog G0 71 (f71_sig k) := by
  by_cases hk : 5 ≤ k
  · obtain ⟨j, rfl⟩ : ∃ j, k = j + 5 := ⟨k - 5, by omega⟩
    refine FnOK.weak (sortfunc_ok (ρ := sortMv_ren) sortMv (.pair (.int .i64) (.pair (.int .i64) (.pair (.int .i64) (.unit)))) rfl rfl Try.isAgg108 Try.sizeOf108 Try.call71 (@f72_ok ⟨True⟩ (j + 5)) cmpM (fun x y => cmpM_eq j x y) mv_swo mv_tot) (fun x y h => ?_)
    have h2 := cond_some (show (bif Nat.ble 5 (j + 5) && decide (List.length (α := Int × Int × Int × Unit) x.1 < 4611686018427387904) then some (List.mergeSort (α := Int × Int × Int × Unit) x.1 (fun x y => !mvLt y x), ()) else none) = some y from h)
    have h3 := ((Bool.and_eq_true _ _).mp h2.1).2
    show (bif decide (List.length (α := Int × Int × Int × Unit) x.1 < 4611686018427387904) then _ else none) = some y
    rw [h3]
    exact h2.2
  · refine fn_none Try.call71 (fun x => ?_)
    show (bif Nat.ble 5 k && _ then _ else none) = none
    rw [show Nat.ble 5 k = false from by cases h : Nat.ble 5 k; rfl; exact absurd (Nat.le_of_ble_eq_true h) hk]
    rfl


/-! ### slices.Compact[[]gamehall/api.Move,gamehall/api.Move]: function 73 -/
noncomputable def l73_9 (k : Nat) : Nat → (List (Int × Int × Int × Unit)) → Int → (Int × Int) → Int → Option (((List (Int × Int × Int × Unit)) × Int × Unit))
  | 0, _, _, _, _ => none
  | j + 1, s0, s3, s4, s5 =>
    bif decide (s5 < ((s4.2.toNat : Nat) : Int)) then
      bif decide (0 ≤ s5) && decide (s5 < ((s4.2.toNat : Nat) : Int)) then
        bif decide (0 ≤ (w64 (s5 - 1))) && decide ((w64 (s5 - 1)) < ((s4.2.toNat : Nat) : Int)) then
          bif !(((rd ((0, 0, 0, ()) : Int × Int × Int × Unit) s0 (((s4.1.toNat : Nat) : Int) + s5)).1 == (rd ((0, 0, 0, ()) : Int × Int × Int × Unit) s0 (((s4.1.toNat : Nat) : Int) + (w64 (s5 - 1)))).1) && (((rd ((0, 0, 0, ()) : Int × Int × Int × Unit) s0 (((s4.1.toNat : Nat) : Int) + s5)).2.1 == (rd ((0, 0, 0, ()) : Int × Int × Int × Unit) s0 (((s4.1.toNat : Nat) : Int) + (w64 (s5 - 1)))).2.1) && (((rd ((0, 0, 0, ()) : Int × Int × Int × Unit) s0 (((s4.1.toNat : Nat) : Int) + s5)).2.2.1 == (rd ((0, 0, 0, ()) : Int × Int × Int × Unit) s0 (((s4.1.toNat : Nat) : Int) + (w64 (s5 - 1)))).2.2.1) && true))) then
            bif decide (0 ≤ s5) && decide (s5 < ((s4.2.toNat : Nat) : Int)) then
              bif decide (0 ≤ s3) && decide (s3 < (s0.length : Int)) then
                l73_9 k j (s0.set s3.toNat (rd ((0, 0, 0, ()) : Int × Int × Int × Unit) s0 (((s4.1.toNat : Nat) : Int) + s5))) (w64 (s3 + 1)) (((s4.1.toNat : Nat) : Int), ((s4.2.toNat : Nat) : Int)) (w64 (s5 + 1))
              else
                none
            else
              none
          else
            l73_9 k j s0 s3 (((s4.1.toNat : Nat) : Int), ((s4.2.toNat : Nat) : Int)) (w64 (s5 + 1))
        else
          none
      else
        none
    else
      some (s0, s3, ())
noncomputable def l73_9_sig (k : Nat) : LoopSig := ⟨[(0, .obj (.row (.pair (.int .i64) (.pair (.int .i64) (.pair (.int .i64) (.unit)))))), (3, .obj (.val (.int .i64))), (4, .win 0 3), (5, .obj (.val (.int .i64)))], [(.exit 2, [(0, .obj (.row (.pair (.int .i64) (.pair (.int .i64) (.pair (.int .i64) (.unit)))))), (3, .obj (.val (.int .i64)))])], fun j x => l73_9 k j x.1 x.2.1 x.2.2.1 x.2.2.2.1⟩
noncomputable def l73_4 (k : Nat) : Nat → (List (Int × Int × Int × Unit)) → Int → Option (((List (Int × Int × Int × Unit)) × Unit) ⊕ ((List (Int × Int × Int × Unit)) × Unit))
  | 0, _, _ => none
  | j + 1, s0, s3 =>
    bif decide (s3 < (s0.length : Int)) then
      bif decide (0 ≤ s3) && decide (s3 < (s0.length : Int)) then
        bif decide (0 ≤ (w64 (s3 - 1))) && decide ((w64 (s3 - 1)) < (s0.length : Int)) then
          bif ((rd ((0, 0, 0, ()) : Int × Int × Int × Unit) s0 s3).1 == (rd ((0, 0, 0, ()) : Int × Int × Int × Unit) s0 (w64 (s3 - 1))).1) && (((rd ((0, 0, 0, ()) : Int × Int × Int × Unit) s0 s3).2.1 == (rd ((0, 0, 0, ()) : Int × Int × Int × Unit) s0 (w64 (s3 - 1))).2.1) && (((rd ((0, 0, 0, ()) : Int × Int × Int × Unit) s0 s3).2.2.1 == (rd ((0, 0, 0, ()) : Int × Int × Int × Unit) s0 (w64 (s3 - 1))).2.2.1) && true)) then
            bif decide (0 ≤ s3) && (decide (s3 ≤ (s0.length : Int)) && decide ((s0.length : Int) ≤ (s0.length : Int))) then
              (l73_9 k k s0 s3 (((s3.toNat : Nat) : Int), ((((s0.length : Int) - s3).toNat : Nat) : Int)) 1).bind fun o1 =>
              bif decide (0 ≤ o1.2.1) && (decide (o1.2.1 ≤ (o1.1.length : Int)) && decide ((o1.1.length : Int) ≤ (o1.1.length : Int))) then
                bif Nat.ble (o1.2.1.toNat + ((o1.1.length : Int) - o1.2.1).toNat) o1.1.length then
                  bif decide (0 ≤ o1.2.1) && decide (o1.2.1 ≤ ((o1.1.take o1.2.1.toNat ++ (List.replicate ((o1.1.length : Int) - o1.2.1).toNat ((0, 0, 0, ()) : Int × Int × Int × Unit) ++ o1.1.drop (o1.2.1.toNat + ((o1.1.length : Int) - o1.2.1).toNat))).length : Int)) then
                    some (.inr (first o1.2.1.toNat (o1.1.take o1.2.1.toNat ++ (List.replicate ((o1.1.length : Int) - o1.2.1).toNat ((0, 0, 0, ()) : Int × Int × Int × Unit) ++ o1.1.drop (o1.2.1.toNat + ((o1.1.length : Int) - o1.2.1).toNat))), ()))
                  else
                    none
                else
                  none
              else
                none
            else
              none
          else
            l73_4 k j s0 (w64 (s3 + 1))
        else
          none
      else
        none
    else
      some (.inl (s0, ()))
noncomputable def l73_4_sig (k : Nat) : LoopSig := ⟨[(0, .obj (.row (.pair (.int .i64) (.pair (.int .i64) (.pair (.int .i64) (.unit)))))), (3, .obj (.val (.int .i64)))], [(.exit 0, [(0, .obj (.row (.pair (.int .i64) (.pair (.int .i64) (.pair (.int .i64) (.unit))))))]), (.ret, [(2, .obj (.row (.pair (.int .i64) (.pair (.int .i64) (.pair (.int .i64) (.unit))))))])], fun j x => l73_4 k j x.1 x.2.1⟩
noncomputable def f73 (k : Nat) (x0 : List (Int × Int × Int × Unit)) : Option (((List (Int × Int × Int × Unit)) × Unit)) :=
  bif decide ((x0.length : Int) < 2) then
    some (x0, ())
  else
    (l73_4 k k x0 1).bind fun w20 =>
    Sum.elim
      (fun y1 =>
        some y1)
      (fun y2 =>
        some y2)
      w20
noncomputable def f73_sig (k : Nat) : Sig := ⟨[.row (.pair (.int .i64) (.pair (.int .i64) (.pair (.int .i64) (.unit))))], [], [[.row (.pair (.int .i64) (.pair (.int .i64) (.pair (.int .i64) (.unit))))]], fun x => f73 k x.1⟩
noncomputable def E_f73 (k : Nat) : Env := ⟨Try.prog, G0, snil, tcons 4 (l73_4_sig k) (tcons 9 (l73_9_sig k) (tnil)), tnil, unil, k, qnil⟩
theorem l73_4_ok (k : Nat) : LoopOK (E_f73 k) ⟨Try.f73.ntmps, [], G0⟩ (nthC 0 (loopsIn (Try.f73.body.getD .skip))) :=
  loop_ok (ls := l73_4_sig k) (by kernel_rfl) (fun _ => by kernel_rfl) (fun j x => by kernel_rfl)
theorem l73_9_ok (k : Nat) : LoopOK (E_f73 k) ⟨Try.f73.ntmps, [], G0⟩ (nthC 1 (loopsIn (Try.f73.body.getD .skip))) :=
  loop_ok (ls := l73_9_sig k) (by kernel_rfl) (fun _ => by kernel_rfl) (fun j x => by kernel_rfl)
theorem f73_run (k : Nat) (x : (lTy (lay 0 (f73_sig k).ins)).den) : runF (E_f73 k) Try.f73 (f73_sig k) x = (f73_sig k).F x := by kernel_rfl
theorem f73_ok [Dr] (k : Nat) : FnOK Try.prog G0 73 (f73_sig k) :=
  fn_ok2 (E := E_f73 k) (env_nil) (qenv_nil) mixed Try.func73 Try.call73 (by kernel_rfl) (by kernel_rfl) (m := 2) (by kernel_rfl) ⟨⟨trivial, l73_4_ok k⟩, l73_9_ok k⟩ (sk := []) (by kernel_rfl) trivial (f73_run k)

/-! ### gamehall/moves.Gen: function 63 -/
noncomputable def l63_6 (k : Nat) : Nat → (ByteArray × Int × Int × (List (Int × Int × Int × (List (Int × Int × Int × Int × Unit)) × Unit)) × (List Int) × Bool × Bool × (List (Int × Int × Int × Bool × Unit)) × Int × Int × Int × Unit) → ((List Int) × ((List Int) × (List Int) × Unit) × Int × Int × Unit) → (List (Int × Int × Int × Unit)) → Int → Int → (List Int) → Int → Int → Int → Int → Option (((ByteArray × Int × Int × (List (Int × Int × Int × (List (Int × Int × Int × Int × Unit)) × Unit)) × (List Int) × Bool × Bool × (List (Int × Int × Int × Bool × Unit)) × Int × Int × Int × Unit) × ((List Int) × ((List Int) × (List Int) × Unit) × Int × Int × Unit) × (List (Int × Int × Int × Unit)) × (List Int) × Int × Int × Unit))
  | 0, _, _, _, _, _, _, _, _, _, _ => none
  | j + 1, s2, s3, s5, s6, s7, s17, s18, s19, s26, s27 =>
    bif decide (s27 < s26) then
      bif decide (s7 > 0) then
        (f69 k s2 s3 s27).bind fun r1 =>
        bif r1.1 then
          bif decide ((s5.length + ([((-1), s27, s6, ())] : List (Int × Int × Int × Unit)).length) * 24 ≤ roomN) then
            l63_6 k j s2 s3 (s5 ++ [((-1), s27, s6, ())]) s6 s7 s17 s18 s19 s26 (w64 (s27 + 1))
          else
            none
        else
          l63_6 k j s2 s3 s5 s6 s7 s17 s18 s19 s26 (w64 (s27 + 1))
      else
        l63_6 k j s2 s3 s5 s6 s7 s17 s18 s19 s26 (w64 (s27 + 1))
    else
      some (s2, s3, s5, s17, s18, s19, ())
noncomputable def l63_6_sig (k : Nat) : LoopSig := ⟨[(2, .obj (.box (.val (.pair (.str) (.pair (.int .i64) (.pair (.int .i64) (.pair (.sl (.pair (.int .u8) (.pair (.int .i64) (.pair (.int .i64) (.pair (.sl (.pair (.int .i64) (.pair (.int .i64) (.pair (.int .i64) (.pair (.int .i64) (.unit)))))) (.unit)))))) (.pair (.sl (.int .i64)) (.pair (.bool) (.pair (.bool) (.pair (.sl (.pair (.int .i64) (.pair (.int .i64) (.pair (.int .i64) (.pair (.bool) (.unit)))))) (.pair (.int .i64) (.pair (.int .i64) (.pair (.int .i64) (.unit))))))))))))))), (3, .obj (.box (.val (.pair (.sl (.int .i64)) (.pair (.pair (.sl (.int .i64)) (.pair (.sl (.int .i64)) (.unit))) (.pair (.int .i64) (.pair (.int .i64) (.unit)))))))), (5, .obj (.row (.pair (.int .i64) (.pair (.int .i64) (.pair (.int .i64) (.unit)))))), (6, .obj (.val (.int .i64))), (7, .obj (.val (.int .i64))), (17, .obj (.val (.sl (.int .i64)))), (18, .obj (.val (.int .i64))), (19, .obj (.val (.int .i64))), (26, .obj (.val (.int .i64))), (27, .obj (.val (.int .i64)))], [(.exit 2, [(2, .obj (.box (.val (.pair (.str) (.pair (.int .i64) (.pair (.int .i64) (.pair (.sl (.pair (.int .u8) (.pair (.int .i64) (.pair (.int .i64) (.pair (.sl (.pair (.int .i64) (.pair (.int .i64) (.pair (.int .i64) (.pair (.int .i64) (.unit)))))) (.unit)))))) (.pair (.sl (.int .i64)) (.pair (.bool) (.pair (.bool) (.pair (.sl (.pair (.int .i64) (.pair (.int .i64) (.pair (.int .i64) (.pair (.bool) (.unit)))))) (.pair (.int .i64) (.pair (.int .i64) (.pair (.int .i64) (.unit))))))))))))))), (3, .obj (.box (.val (.pair (.sl (.int .i64)) (.pair (.pair (.sl (.int .i64)) (.pair (.sl (.int .i64)) (.unit))) (.pair (.int .i64) (.pair (.int .i64) (.unit)))))))), (5, .obj (.row (.pair (.int .i64) (.pair (.int .i64) (.pair (.int .i64) (.unit)))))), (17, .obj (.val (.sl (.int .i64)))), (18, .obj (.val (.int .i64))), (19, .obj (.val (.int .i64)))])], fun j x => l63_6 k j x.1 x.2.1 x.2.2.1 x.2.2.2.1 x.2.2.2.2.1 x.2.2.2.2.2.1 x.2.2.2.2.2.2.1 x.2.2.2.2.2.2.2.1 x.2.2.2.2.2.2.2.2.1 x.2.2.2.2.2.2.2.2.2.1⟩
noncomputable def l63_3 (k : Nat) : Nat → (ByteArray × Int × Int × (List (Int × Int × Int × (List (Int × Int × Int × Int × Unit)) × Unit)) × (List Int) × Bool × Bool × (List (Int × Int × Int × Bool × Unit)) × Int × Int × Int × Unit) → ((List Int) × ((List Int) × (List Int) × Unit) × Int × Int × Unit) → (List (Int × Int × Int × Unit)) → (List Int) → Int → Int → Option (((ByteArray × Int × Int × (List (Int × Int × Int × (List (Int × Int × Int × Int × Unit)) × Unit)) × (List Int) × Bool × Bool × (List (Int × Int × Int × Bool × Unit)) × Int × Int × Int × Unit) × ((List Int) × ((List Int) × (List Int) × Unit) × Int × Int × Unit) × (List (Int × Int × Int × Unit)) × Unit))
  | 0, _, _, _, _, _, _ => none
  | j + 1, s2, s3, s5, s17, s18, s19 =>
    bif decide (s19 < s18) then
      bif decide (0 ≤ s19) && decide (s19 < (s17.length : Int)) then
        (l63_6 k k s2 s3 s5 s19 (rd (0 : Int) s17 s19) s17 s18 s19 (s3.1.length : Int) 0).bind fun o1 =>
        l63_3 k j o1.1 o1.2.1 o1.2.2.1 o1.2.2.2.1 o1.2.2.2.2.1 (w64 (o1.2.2.2.2.2.1 + 1))
      else
        none
    else
      some (s2, s3, s5, ())
noncomputable def l63_3_sig (k : Nat) : LoopSig := ⟨[(2, .obj (.box (.val (.pair (.str) (.pair (.int .i64) (.pair (.int .i64) (.pair (.sl (.pair (.int .u8) (.pair (.int .i64) (.pair (.int .i64) (.pair (.sl (.pair (.int .i64) (.pair (.int .i64) (.pair (.int .i64) (.pair (.int .i64) (.unit)))))) (.unit)))))) (.pair (.sl (.int .i64)) (.pair (.bool) (.pair (.bool) (.pair (.sl (.pair (.int .i64) (.pair (.int .i64) (.pair (.int .i64) (.pair (.bool) (.unit)))))) (.pair (.int .i64) (.pair (.int .i64) (.pair (.int .i64) (.unit))))))))))))))), (3, .obj (.box (.val (.pair (.sl (.int .i64)) (.pair (.pair (.sl (.int .i64)) (.pair (.sl (.int .i64)) (.unit))) (.pair (.int .i64) (.pair (.int .i64) (.unit)))))))), (5, .obj (.row (.pair (.int .i64) (.pair (.int .i64) (.pair (.int .i64) (.unit)))))), (17, .obj (.val (.sl (.int .i64)))), (18, .obj (.val (.int .i64))), (19, .obj (.val (.int .i64)))], [(.exit 0, [(2, .obj (.box (.val (.pair (.str) (.pair (.int .i64) (.pair (.int .i64) (.pair (.sl (.pair (.int .u8) (.pair (.int .i64) (.pair (.int .i64) (.pair (.sl (.pair (.int .i64) (.pair (.int .i64) (.pair (.int .i64) (.pair (.int .i64) (.unit)))))) (.unit)))))) (.pair (.sl (.int .i64)) (.pair (.bool) (.pair (.bool) (.pair (.sl (.pair (.int .i64) (.pair (.int .i64) (.pair (.int .i64) (.pair (.bool) (.unit)))))) (.pair (.int .i64) (.pair (.int .i64) (.pair (.int .i64) (.unit))))))))))))))), (3, .obj (.box (.val (.pair (.sl (.int .i64)) (.pair (.pair (.sl (.int .i64)) (.pair (.sl (.int .i64)) (.unit))) (.pair (.int .i64) (.pair (.int .i64) (.unit)))))))), (5, .obj (.row (.pair (.int .i64) (.pair (.int .i64) (.pair (.int .i64) (.unit))))))])], fun j x => l63_3 k j x.1 x.2.1 x.2.2.1 x.2.2.2.1 x.2.2.2.2.1 x.2.2.2.2.2.1⟩
noncomputable def l63_17 (k : Nat) : Nat → (ByteArray × Int × Int × (List (Int × Int × Int × (List (Int × Int × Int × Int × Unit)) × Unit)) × (List Int) × Bool × Bool × (List (Int × Int × Int × Bool × Unit)) × Int × Int × Int × Unit) → ((List Int) × ((List Int) × (List Int) × Unit) × Int × Int × Unit) → (List (Int × Int × Int × Unit)) → Int → (List Int) → Int → Int → (List (Int × Int × Int × Int × Unit)) → Int → Int → Option (((ByteArray × Int × Int × (List (Int × Int × Int × (List (Int × Int × Int × Int × Unit)) × Unit)) × (List Int) × Bool × Bool × (List (Int × Int × Int × Bool × Unit)) × Int × Int × Int × Unit) × ((List Int) × ((List Int) × (List Int) × Unit) × Int × Int × Unit) × (List (Int × Int × Int × Unit)) × (List Int) × Int × Int × Unit))
  | 0, _, _, _, _, _, _, _, _, _, _ => none
  | j + 1, s2, s3, s5, s9, s47, s48, s49, s65, s66, s67 =>
    bif decide (s67 < s66) then
      bif decide (0 ≤ s67) && decide (s67 < (s65.length : Int)) then
        (f70 k s5 s2 s3 s9 (rd ((0, 0, 0, 0, ()) : Int × Int × Int × Int × Unit) s65 s67)).bind fun r1 =>
        l63_17 k j s2 s3 r1.1 s9 s47 s48 s49 s65 s66 (w64 (s67 + 1))
      else
        none
    else
      some (s2, s3, s5, s47, s48, s49, ())
noncomputable def l63_17_sig (k : Nat) : LoopSig := ⟨[(2, .obj (.box (.val (.pair (.str) (.pair (.int .i64) (.pair (.int .i64) (.pair (.sl (.pair (.int .u8) (.pair (.int .i64) (.pair (.int .i64) (.pair (.sl (.pair (.int .i64) (.pair (.int .i64) (.pair (.int .i64) (.pair (.int .i64) (.unit)))))) (.unit)))))) (.pair (.sl (.int .i64)) (.pair (.bool) (.pair (.bool) (.pair (.sl (.pair (.int .i64) (.pair (.int .i64) (.pair (.int .i64) (.pair (.bool) (.unit)))))) (.pair (.int .i64) (.pair (.int .i64) (.pair (.int .i64) (.unit))))))))))))))), (3, .obj (.box (.val (.pair (.sl (.int .i64)) (.pair (.pair (.sl (.int .i64)) (.pair (.sl (.int .i64)) (.unit))) (.pair (.int .i64) (.pair (.int .i64) (.unit)))))))), (5, .obj (.row (.pair (.int .i64) (.pair (.int .i64) (.pair (.int .i64) (.unit)))))), (9, .obj (.val (.int .i64))), (47, .obj (.val (.sl (.int .i64)))), (48, .obj (.val (.int .i64))), (49, .obj (.val (.int .i64))), (65, .obj (.val (.sl (.pair (.int .i64) (.pair (.int .i64) (.pair (.int .i64) (.pair (.int .i64) (.unit)))))))), (66, .obj (.val (.int .i64))), (67, .obj (.val (.int .i64)))], [(.exit 6, [(2, .obj (.box (.val (.pair (.str) (.pair (.int .i64) (.pair (.int .i64) (.pair (.sl (.pair (.int .u8) (.pair (.int .i64) (.pair (.int .i64) (.pair (.sl (.pair (.int .i64) (.pair (.int .i64) (.pair (.int .i64) (.pair (.int .i64) (.unit)))))) (.unit)))))) (.pair (.sl (.int .i64)) (.pair (.bool) (.pair (.bool) (.pair (.sl (.pair (.int .i64) (.pair (.int .i64) (.pair (.int .i64) (.pair (.bool) (.unit)))))) (.pair (.int .i64) (.pair (.int .i64) (.pair (.int .i64) (.unit))))))))))))))), (3, .obj (.box (.val (.pair (.sl (.int .i64)) (.pair (.pair (.sl (.int .i64)) (.pair (.sl (.int .i64)) (.unit))) (.pair (.int .i64) (.pair (.int .i64) (.unit)))))))), (5, .obj (.row (.pair (.int .i64) (.pair (.int .i64) (.pair (.int .i64) (.unit)))))), (47, .obj (.val (.sl (.int .i64)))), (48, .obj (.val (.int .i64))), (49, .obj (.val (.int .i64)))])], fun j x => l63_17 k j x.1 x.2.1 x.2.2.1 x.2.2.2.1 x.2.2.2.2.1 x.2.2.2.2.2.1 x.2.2.2.2.2.2.1 x.2.2.2.2.2.2.2.1 x.2.2.2.2.2.2.2.2.1 x.2.2.2.2.2.2.2.2.2.1⟩
noncomputable def l63_13 (k : Nat) : Nat → (ByteArray × Int × Int × (List (Int × Int × Int × (List (Int × Int × Int × Int × Unit)) × Unit)) × (List Int) × Bool × Bool × (List (Int × Int × Int × Bool × Unit)) × Int × Int × Int × Unit) → ((List Int) × ((List Int) × (List Int) × Unit) × Int × Int × Unit) → (List (Int × Int × Int × Unit)) → (List Int) → Int → Int → Option (((List (Int × Int × Int × Unit)) × Unit))
  | 0, _, _, _, _, _, _ => none
  | j + 1, s2, s3, s5, s47, s48, s49 =>
    bif decide (s49 < s48) then
      bif decide (0 ≤ s49) && decide (s49 < (s47.length : Int)) then
        (f29 k (rd (0 : Int) s47 s49)).bind fun r1 =>
        bif r1.1 == s3.2.2.1 then
          (f65 k (rd (0 : Int) s47 s49)).bind fun r2 =>
          bif decide (0 ≤ r2.1) && decide (r2.1 < (s2.2.2.2.1.length : Int)) then
            (l63_17 k k s2 s3 s5 s49 s47 s48 s49 (rd ((0, 0, 0, [], ()) : Int × Int × Int × (List (Int × Int × Int × Int × Unit)) × Unit) s2.2.2.2.1 r2.1).2.2.2.1 ((rd ((0, 0, 0, [], ()) : Int × Int × Int × (List (Int × Int × Int × Int × Unit)) × Unit) s2.2.2.2.1 r2.1).2.2.2.1.length : Int) 0).bind fun o3 =>
            l63_13 k j o3.1 o3.2.1 o3.2.2.1 o3.2.2.2.1 o3.2.2.2.2.1 (w64 (o3.2.2.2.2.2.1 + 1))
          else
            none
        else
          l63_13 k j s2 s3 s5 s47 s48 (w64 (s49 + 1))
      else
        none
    else
      some (s5, ())
noncomputable def l63_13_sig (k : Nat) : LoopSig := ⟨[(2, .obj (.box (.val (.pair (.str) (.pair (.int .i64) (.pair (.int .i64) (.pair (.sl (.pair (.int .u8) (.pair (.int .i64) (.pair (.int .i64) (.pair (.sl (.pair (.int .i64) (.pair (.int .i64) (.pair (.int .i64) (.pair (.int .i64) (.unit)))))) (.unit)))))) (.pair (.sl (.int .i64)) (.pair (.bool) (.pair (.bool) (.pair (.sl (.pair (.int .i64) (.pair (.int .i64) (.pair (.int .i64) (.pair (.bool) (.unit)))))) (.pair (.int .i64) (.pair (.int .i64) (.pair (.int .i64) (.unit))))))))))))))), (3, .obj (.box (.val (.pair (.sl (.int .i64)) (.pair (.pair (.sl (.int .i64)) (.pair (.sl (.int .i64)) (.unit))) (.pair (.int .i64) (.pair (.int .i64) (.unit)))))))), (5, .obj (.row (.pair (.int .i64) (.pair (.int .i64) (.pair (.int .i64) (.unit)))))), (47, .obj (.val (.sl (.int .i64)))), (48, .obj (.val (.int .i64))), (49, .obj (.val (.int .i64)))], [(.exit 4, [(5, .obj (.row (.pair (.int .i64) (.pair (.int .i64) (.pair (.int .i64) (.unit))))))])], fun j x => l63_13 k j x.1 x.2.1 x.2.2.1 x.2.2.2.1 x.2.2.2.2.1 x.2.2.2.2.2.1⟩
noncomputable def f63 (k : Nat) (x0 : ByteArray × Int × Int × (List (Int × Int × Int × (List (Int × Int × Int × Int × Unit)) × Unit)) × (List Int) × Bool × Bool × (List (Int × Int × Int × Bool × Unit)) × Int × Int × Int × Unit) (x1 : (List Int) × ((List Int) × (List Int) × Unit) × Int × Int × Unit) : Option (((List (Int × Int × Int × Unit)) × Unit)) :=
  bif x1.2.2.1 == 0 then
    (l63_3 k k x0 x1 [] x1.2.1.1 (x1.2.1.1.length : Int) 0).bind fun o1 =>
    (l63_13 k k o1.1 o1.2.1 o1.2.2.1 o1.2.1.1 (o1.2.1.1.length : Int) 0).bind fun o2 =>
    (f71 k o2.1).bind fun r3 =>
    (f73 k r3.1).bind fun r4 =>
    some r4
  else
  bif x1.2.2.1 == 1 then
    (l63_3 k k x0 x1 [] x1.2.1.2.1 (x1.2.1.2.1.length : Int) 0).bind fun o5 =>
    (l63_13 k k o5.1 o5.2.1 o5.2.2.1 o5.2.1.1 (o5.2.1.1.length : Int) 0).bind fun o6 =>
    (f71 k o6.1).bind fun r7 =>
    (f73 k r7.1).bind fun r8 =>
    some r8
  else
    none
noncomputable def f63_sig (k : Nat) : Sig := ⟨[.val (.pair (.str) (.pair (.int .i64) (.pair (.int .i64) (.pair (.sl (.pair (.int .u8) (.pair (.int .i64) (.pair (.int .i64) (.pair (.sl (.pair (.int .i64) (.pair (.int .i64) (.pair (.int .i64) (.pair (.int .i64) (.unit)))))) (.unit)))))) (.pair (.sl (.int .i64)) (.pair (.bool) (.pair (.bool) (.pair (.sl (.pair (.int .i64) (.pair (.int .i64) (.pair (.int .i64) (.pair (.bool) (.unit)))))) (.pair (.int .i64) (.pair (.int .i64) (.pair (.int .i64) (.unit)))))))))))), .val (.pair (.sl (.int .i64)) (.pair (.pair (.sl (.int .i64)) (.pair (.sl (.int .i64)) (.unit))) (.pair (.int .i64) (.pair (.int .i64) (.unit)))))], [], [[.row (.pair (.int .i64) (.pair (.int .i64) (.pair (.int .i64) (.unit))))]], fun x => f63 k x.1 x.2.1⟩
noncomputable def E_f63 (k : Nat) : Env := ⟨Try.prog, G0, scons 73 [f73_sig k] (scons 71 [f71_sig k] (scons 70 [f70_sig k] (scons 69 [f69_sig k] (scons 65 [f65_sig k] (scons 29 [f29_sig k] (snil)))))), tcons 13 (l63_13_sig k) (tcons 17 (l63_17_sig k) (tcons 3 (l63_3_sig k) (tcons 6 (l63_6_sig k) (tnil)))), tnil, unil, k, qnil⟩
theorem l63_3_ok (k : Nat) : LoopOK (E_f63 k) ⟨Try.f63.ntmps, [], G0⟩ (nthC 0 (loopsIn (Try.f63.body.getD .skip))) :=
  loop_ok (ls := l63_3_sig k) (by kernel_rfl) (fun _ => by kernel_rfl) (fun j x => by kernel_rfl)
theorem l63_6_ok (k : Nat) : LoopOK (E_f63 k) ⟨Try.f63.ntmps, [], G0⟩ (nthC 1 (loopsIn (Try.f63.body.getD .skip))) :=
  loop_ok (ls := l63_6_sig k) (by kernel_rfl) (fun _ => by kernel_rfl) (fun j x => by kernel_rfl)
theorem l63_13_ok (k : Nat) : LoopOK (E_f63 k) ⟨Try.f63.ntmps, [], G0⟩ (nthC 2 (loopsIn (Try.f63.body.getD .skip))) :=
  loop_ok (ls := l63_13_sig k) (by kernel_rfl) (fun _ => by kernel_rfl) (fun j x => by kernel_rfl)
theorem l63_17_ok (k : Nat) : LoopOK (E_f63 k) ⟨Try.f63.ntmps, [], G0⟩ (nthC 3 (loopsIn (Try.f63.body.getD .skip))) :=
  loop_ok (ls := l63_17_sig k) (by kernel_rfl) (fun _ => by kernel_rfl) (fun j x => by kernel_rfl)
theorem f63_run (k : Nat) (x : (lTy (lay 0 (f63_sig k).ins)).den) : runF (E_f63 k) Try.f63 (f63_sig k) x = (f63_sig k).F x := by kernel_rfl
theorem f63_ok [Dr] (k : Nat) : FnOK Try.prog G0 63 (f63_sig k) :=
  fn_ok2 (E := E_f63 k) (env_cons (one_sig (f73_ok k)) (env_cons (one_sig (f71_ok k)) (env_cons (one_sig (f70_ok k)) (env_cons (one_sig (f69_ok k)) (env_cons (one_sig (f65_ok k)) (env_cons (one_sig (f29_ok k)) (env_nil))))))) (qenv_nil) mixed Try.func63 Try.call63 (by kernel_rfl) (by kernel_rfl) (m := 4) (by kernel_rfl) ⟨⟨⟨⟨trivial, l63_3_ok k⟩, l63_6_ok k⟩, l63_13_ok k⟩, l63_17_ok k⟩ (sk := []) (by kernel_rfl) trivial (f63_run k)

/-! ### gamehall/ends.Result: function 61 -/
noncomputable def l61_3 (k : Nat) : Nat → (ByteArray × Int × Int × (List (Int × Int × Int × (List (Int × Int × Int × Int × Unit)) × Unit)) × (List Int) × Bool × Bool × (List (Int × Int × Int × Bool × Unit)) × Int × Int × Int × Unit) → ((List Int) × ((List Int) × (List Int) × Unit) × Int × Int × Unit) → Int → (List (Int × Int × Int × Bool × Unit)) → Int → Int → Option (((ByteArray × Int × Int × (List (Int × Int × Int × (List (Int × Int × Int × Int × Unit)) × Unit)) × (List Int) × Bool × Bool × (List (Int × Int × Int × Bool × Unit)) × Int × Int × Int × Unit) × ((List Int) × ((List Int) × (List Int) × Unit) × Int × Int × Unit) × Int × Unit) ⊕ (Int × Unit))
  | 0, _, _, _, _, _, _ => none
  | j + 1, s2, s3, s5, s12, s13, s14 =>
    bif decide (s14 < s13) then
      bif decide (0 ≤ s14) && decide (s14 < (s12.length : Int)) then
        (f68 k s2 s3 (rd ((0, 0, 0, false, ()) : Int × Int × Int × Bool × Unit) s12 s14)).bind fun r1 =>
        bif r1.1 then
          bif (rd ((0, 0, 0, false, ()) : Int × Int × Int × Bool × Unit) s12 s14).2.2.2.1 then
            (f62 k s3.2.2.1).bind fun r2 =>
            some (.inr r2)
          else
            (f62 k s5).bind fun r3 =>
            some (.inr r3)
        else
          l61_3 k j s2 s3 s5 s12 s13 (w64 (s14 + 1))
      else
        none
    else
      some (.inl (s2, s3, s5, ()))
noncomputable def l61_3_sig (k : Nat) : LoopSig := ⟨[(2, .obj (.box (.val (.pair (.str) (.pair (.int .i64) (.pair (.int .i64) (.pair (.sl (.pair (.int .u8) (.pair (.int .i64) (.pair (.int .i64) (.pair (.sl (.pair (.int .i64) (.pair (.int .i64) (.pair (.int .i64) (.pair (.int .i64) (.unit)))))) (.unit)))))) (.pair (.sl (.int .i64)) (.pair (.bool) (.pair (.bool) (.pair (.sl (.pair (.int .i64) (.pair (.int .i64) (.pair (.int .i64) (.pair (.bool) (.unit)))))) (.pair (.int .i64) (.pair (.int .i64) (.pair (.int .i64) (.unit))))))))))))))), (3, .obj (.box (.val (.pair (.sl (.int .i64)) (.pair (.pair (.sl (.int .i64)) (.pair (.sl (.int .i64)) (.unit))) (.pair (.int .i64) (.pair (.int .i64) (.unit)))))))), (5, .obj (.val (.int .i64))), (12, .obj (.val (.sl (.pair (.int .i64) (.pair (.int .i64) (.pair (.int .i64) (.pair (.bool) (.unit)))))))), (13, .obj (.val (.int .i64))), (14, .obj (.val (.int .i64)))], [(.exit 0, [(2, .obj (.box (.val (.pair (.str) (.pair (.int .i64) (.pair (.int .i64) (.pair (.sl (.pair (.int .u8) (.pair (.int .i64) (.pair (.int .i64) (.pair (.sl (.pair (.int .i64) (.pair (.int .i64) (.pair (.int .i64) (.pair (.int .i64) (.unit)))))) (.unit)))))) (.pair (.sl (.int .i64)) (.pair (.bool) (.pair (.bool) (.pair (.sl (.pair (.int .i64) (.pair (.int .i64) (.pair (.int .i64) (.pair (.bool) (.unit)))))) (.pair (.int .i64) (.pair (.int .i64) (.pair (.int .i64) (.unit))))))))))))))), (3, .obj (.box (.val (.pair (.sl (.int .i64)) (.pair (.pair (.sl (.int .i64)) (.pair (.sl (.int .i64)) (.unit))) (.pair (.int .i64) (.pair (.int .i64) (.unit)))))))), (5, .obj (.val (.int .i64)))]), (.ret, [(4, .obj (.val (.int .i64)))])], fun j x => l61_3 k j x.1 x.2.1 x.2.2.1 x.2.2.2.1 x.2.2.2.2.1 x.2.2.2.2.2.1⟩
noncomputable def f61 (k : Nat) (x0 : ByteArray × Int × Int × (List (Int × Int × Int × (List (Int × Int × Int × Int × Unit)) × Unit)) × (List Int) × Bool × Bool × (List (Int × Int × Int × Bool × Unit)) × Int × Int × Int × Unit) (x1 : (List Int) × ((List Int) × (List Int) × Unit) × Int × Int × Unit) : Option ((Int × Unit)) :=
  (l61_3 k k x0 x1 (w64 (1 - x1.2.2.1)) x0.2.2.2.2.2.2.2.1 (x0.2.2.2.2.2.2.2.1.length : Int) 0).bind fun w21 =>
  Sum.elim
    (fun y1 =>
      bif decide (y1.1.2.2.2.2.2.2.2.2.2.1 > 0) then
        bif decide (y1.2.1.2.2.2.1 ≥ y1.1.2.2.2.2.2.2.2.2.2.1) then
          some (3, ())
        else
          (f63 k y1.1 y1.2.1).bind fun r2 =>
          bif decide ((r2.1.length : Int) > 0) then
            some (0, ())
          else
          bif y1.1.2.2.2.2.2.2.2.2.1 == 0 then
            (f62 k y1.2.2.1).bind fun r3 =>
            some r3
          else
          bif y1.1.2.2.2.2.2.2.2.2.1 == 1 then
            (f62 k y1.2.1.2.2.1).bind fun r4 =>
            some r4
          else
            some (3, ())
      else
        (f63 k y1.1 y1.2.1).bind fun r5 =>
        bif decide ((r5.1.length : Int) > 0) then
          some (0, ())
        else
        bif y1.1.2.2.2.2.2.2.2.2.1 == 0 then
          (f62 k y1.2.2.1).bind fun r6 =>
          some r6
        else
        bif y1.1.2.2.2.2.2.2.2.2.1 == 1 then
          (f62 k y1.2.1.2.2.1).bind fun r7 =>
          some r7
        else
          some (3, ()))
    (fun y8 =>
      some y8)
    w21
noncomputable def f61_sig (k : Nat) : Sig := ⟨[.val (.pair (.str) (.pair (.int .i64) (.pair (.int .i64) (.pair (.sl (.pair (.int .u8) (.pair (.int .i64) (.pair (.int .i64) (.pair (.sl (.pair (.int .i64) (.pair (.int .i64) (.pair (.int .i64) (.pair (.int .i64) (.unit)))))) (.unit)))))) (.pair (.sl (.int .i64)) (.pair (.bool) (.pair (.bool) (.pair (.sl (.pair (.int .i64) (.pair (.int .i64) (.pair (.int .i64) (.pair (.bool) (.unit)))))) (.pair (.int .i64) (.pair (.int .i64) (.pair (.int .i64) (.unit)))))))))))), .val (.pair (.sl (.int .i64)) (.pair (.pair (.sl (.int .i64)) (.pair (.sl (.int .i64)) (.unit))) (.pair (.int .i64) (.pair (.int .i64) (.unit)))))], [], [[.val (.int .i64)]], fun x => f61 k x.1 x.2.1⟩
noncomputable def E_f61 (k : Nat) : Env := ⟨Try.prog, G0, scons 68 [f68_sig k] (scons 63 [f63_sig k] (scons 62 [f62_sig k] (snil))), tcons 3 (l61_3_sig k) (tnil), tnil, unil, k, qnil⟩
theorem l61_3_ok (k : Nat) : LoopOK (E_f61 k) ⟨Try.f61.ntmps, [], G0⟩ (nthC 0 (loopsIn (Try.f61.body.getD .skip))) :=
  loop_ok (ls := l61_3_sig k) (by kernel_rfl) (fun _ => by kernel_rfl) (fun j x => by kernel_rfl)
theorem f61_run (k : Nat) (x : (lTy (lay 0 (f61_sig k).ins)).den) : runF (E_f61 k) Try.f61 (f61_sig k) x = (f61_sig k).F x := by kernel_rfl
theorem f61_ok [Dr] (k : Nat) : FnOK Try.prog G0 61 (f61_sig k) :=
  fn_ok2 (E := E_f61 k) (env_cons (one_sig (f68_ok k)) (env_cons (one_sig (f63_ok k)) (env_cons (one_sig (f62_ok k)) (env_nil)))) (qenv_nil) mixed Try.func61 Try.call61 (by kernel_rfl) (by kernel_rfl) (m := 1) (by kernel_rfl) ⟨trivial, l61_3_ok k⟩ (sk := []) (by kernel_rfl) trivial (f61_run k)

/-! ### (*gamehall/board.Board).Result: function 49 -/
noncomputable def f49 (k : Nat) (x0 : (ByteArray × Int × Int × (List (Int × Int × Int × (List (Int × Int × Int × Int × Unit)) × Unit)) × (List Int) × Bool × Bool × (List (Int × Int × Int × Bool × Unit)) × Int × Int × Int × Unit) × ((List Int) × ((List Int) × (List Int) × Unit) × Int × Int × Unit) × Int × (List ((Int × Int × Int × Unit) × Int × Int × Bool × Int × Int × Unit)) × Unit) : Option ((Int × ((ByteArray × Int × Int × (List (Int × Int × Int × (List (Int × Int × Int × Int × Unit)) × Unit)) × (List Int) × Bool × Bool × (List (Int × Int × Int × Bool × Unit)) × Int × Int × Int × Unit) × ((List Int) × ((List Int) × (List Int) × Unit) × Int × Int × Unit) × Int × (List ((Int × Int × Int × Unit) × Int × Int × Bool × Int × Int × Unit)) × Unit) × Unit)) :=
  (f61 k x0.1 x0.2.1).bind fun r1 =>
  some (r1.1, x0, ())
noncomputable def f49_sig (k : Nat) : Sig := ⟨[.box (.cons (.val (.pair (.str) (.pair (.int .i64) (.pair (.int .i64) (.pair (.sl (.pair (.int .u8) (.pair (.int .i64) (.pair (.int .i64) (.pair (.sl (.pair (.int .i64) (.pair (.int .i64) (.pair (.int .i64) (.pair (.int .i64) (.unit)))))) (.unit)))))) (.pair (.sl (.int .i64)) (.pair (.bool) (.pair (.bool) (.pair (.sl (.pair (.int .i64) (.pair (.int .i64) (.pair (.int .i64) (.pair (.bool) (.unit)))))) (.pair (.int .i64) (.pair (.int .i64) (.pair (.int .i64) (.unit))))))))))))) (.cons (.cons (.row (.int .i64)) (.cons (.cons (.row (.int .i64)) (.cons (.row (.int .i64)) (.nil))) (.cons (.val (.int .i64)) (.cons (.val (.int .i64)) (.nil))))) (.cons (.val (.int .u64)) (.cons (.row (.pair (.pair (.int .i64) (.pair (.int .i64) (.pair (.int .i64) (.unit)))) (.pair (.int .i64) (.pair (.int .i64) (.pair (.bool) (.pair (.int .i64) (.pair (.int .u64) (.unit)))))))) (.nil)))))], [0], [[.val (.int .i64), .box (.cons (.val (.pair (.str) (.pair (.int .i64) (.pair (.int .i64) (.pair (.sl (.pair (.int .u8) (.pair (.int .i64) (.pair (.int .i64) (.pair (.sl (.pair (.int .i64) (.pair (.int .i64) (.pair (.int .i64) (.pair (.int .i64) (.unit)))))) (.unit)))))) (.pair (.sl (.int .i64)) (.pair (.bool) (.pair (.bool) (.pair (.sl (.pair (.int .i64) (.pair (.int .i64) (.pair (.int .i64) (.pair (.bool) (.unit)))))) (.pair (.int .i64) (.pair (.int .i64) (.pair (.int .i64) (.unit))))))))))))) (.cons (.cons (.row (.int .i64)) (.cons (.cons (.row (.int .i64)) (.cons (.row (.int .i64)) (.nil))) (.cons (.val (.int .i64)) (.cons (.val (.int .i64)) (.nil))))) (.cons (.val (.int .u64)) (.cons (.row (.pair (.pair (.int .i64) (.pair (.int .i64) (.pair (.int .i64) (.unit)))) (.pair (.int .i64) (.pair (.int .i64) (.pair (.bool) (.pair (.int .i64) (.pair (.int .u64) (.unit)))))))) (.nil)))))]], fun x => f49 k x.1⟩
noncomputable def E_f49 (k : Nat) : Env := ⟨Try.prog, G0, scons 61 [f61_sig k] (snil), tnil, tnil, unil, k, qnil⟩
theorem f49_run (k : Nat) (x : (lTy (lay 0 (f49_sig k).ins)).den) : runF (E_f49 k) Try.f49 (f49_sig k) x = (f49_sig k).F x := by kernel_rfl
theorem f49_ok [Dr] (k : Nat) : FnOK Try.prog G0 49 (f49_sig k) :=
  fn_ok2 (E := E_f49 k) (env_cons (one_sig (f61_ok k)) (env_nil)) (qenv_nil) mixed Try.func49 Try.call49 (by kernel_rfl) (by kernel_rfl) (m := 0) (by kernel_rfl) trivial (sk := []) (by kernel_rfl) trivial (f49_run k)

/-! ### (*gamehall/board.Board).Moves: function 52 -/
noncomputable def f52 (k : Nat) (x0 : (ByteArray × Int × Int × (List (Int × Int × Int × (List (Int × Int × Int × Int × Unit)) × Unit)) × (List Int) × Bool × Bool × (List (Int × Int × Int × Bool × Unit)) × Int × Int × Int × Unit) × ((List Int) × ((List Int) × (List Int) × Unit) × Int × Int × Unit) × Int × (List ((Int × Int × Int × Unit) × Int × Int × Bool × Int × Int × Unit)) × Unit) : Option (((List (Int × Int × Int × Unit)) × ((ByteArray × Int × Int × (List (Int × Int × Int × (List (Int × Int × Int × Int × Unit)) × Unit)) × (List Int) × Bool × Bool × (List (Int × Int × Int × Bool × Unit)) × Int × Int × Int × Unit) × ((List Int) × ((List Int) × (List Int) × Unit) × Int × Int × Unit) × Int × (List ((Int × Int × Int × Unit) × Int × Int × Bool × Int × Int × Unit)) × Unit) × Unit)) :=
  (f49 k x0).bind fun r1 =>
  bif r1.1 != 0 then
    some ([], r1.2)
  else
    (f63 k r1.2.1.1 r1.2.1.2.1).bind fun r2 =>
    some (r2.1, r1.2)
noncomputable def f52_sig (k : Nat) : Sig := ⟨[.box (.cons (.val (.pair (.str) (.pair (.int .i64) (.pair (.int .i64) (.pair (.sl (.pair (.int .u8) (.pair (.int .i64) (.pair (.int .i64) (.pair (.sl (.pair (.int .i64) (.pair (.int .i64) (.pair (.int .i64) (.pair (.int .i64) (.unit)))))) (.unit)))))) (.pair (.sl (.int .i64)) (.pair (.bool) (.pair (.bool) (.pair (.sl (.pair (.int .i64) (.pair (.int .i64) (.pair (.int .i64) (.pair (.bool) (.unit)))))) (.pair (.int .i64) (.pair (.int .i64) (.pair (.int .i64) (.unit))))))))))))) (.cons (.cons (.row (.int .i64)) (.cons (.cons (.row (.int .i64)) (.cons (.row (.int .i64)) (.nil))) (.cons (.val (.int .i64)) (.cons (.val (.int .i64)) (.nil))))) (.cons (.val (.int .u64)) (.cons (.row (.pair (.pair (.int .i64) (.pair (.int .i64) (.pair (.int .i64) (.unit)))) (.pair (.int .i64) (.pair (.int .i64) (.pair (.bool) (.pair (.int .i64) (.pair (.int .u64) (.unit)))))))) (.nil)))))], [0], [[.row (.pair (.int .i64) (.pair (.int .i64) (.pair (.int .i64) (.unit)))), .box (.cons (.val (.pair (.str) (.pair (.int .i64) (.pair (.int .i64) (.pair (.sl (.pair (.int .u8) (.pair (.int .i64) (.pair (.int .i64) (.pair (.sl (.pair (.int .i64) (.pair (.int .i64) (.pair (.int .i64) (.pair (.int .i64) (.unit)))))) (.unit)))))) (.pair (.sl (.int .i64)) (.pair (.bool) (.pair (.bool) (.pair (.sl (.pair (.int .i64) (.pair (.int .i64) (.pair (.int .i64) (.pair (.bool) (.unit)))))) (.pair (.int .i64) (.pair (.int .i64) (.pair (.int .i64) (.unit))))))))))))) (.cons (.cons (.row (.int .i64)) (.cons (.cons (.row (.int .i64)) (.cons (.row (.int .i64)) (.nil))) (.cons (.val (.int .i64)) (.cons (.val (.int .i64)) (.nil))))) (.cons (.val (.int .u64)) (.cons (.row (.pair (.pair (.int .i64) (.pair (.int .i64) (.pair (.int .i64) (.unit)))) (.pair (.int .i64) (.pair (.int .i64) (.pair (.bool) (.pair (.int .i64) (.pair (.int .u64) (.unit)))))))) (.nil)))))]], fun x => f52 k x.1⟩
noncomputable def E_f52 (k : Nat) : Env := ⟨Try.prog, G0, scons 63 [f63_sig k] (scons 49 [f49_sig k] (snil)), tnil, tnil, unil, k, qnil⟩
theorem f52_run (k : Nat) (x : (lTy (lay 0 (f52_sig k).ins)).den) : runF (E_f52 k) Try.f52 (f52_sig k) x = (f52_sig k).F x := by kernel_rfl
theorem f52_ok [Dr] (k : Nat) : FnOK Try.prog G0 52 (f52_sig k) :=
  fn_ok2 (E := E_f52 k) (env_cons (one_sig (f63_ok k)) (env_cons (one_sig (f49_ok k)) (env_nil))) (qenv_nil) mixed Try.func52 Try.call52 (by kernel_rfl) (by kernel_rfl) (m := 0) (by kernel_rfl) trivial (sk := []) (by kernel_rfl) trivial (f52_run k)

/-! ### gamehall/zob.Next: function 64 -/
noncomputable def f64 (k : Nat) (x0 : ByteArray × Int × Int × (List (Int × Int × Int × (List (Int × Int × Int × Int × Unit)) × Unit)) × (List Int) × Bool × Bool × (List (Int × Int × Int × Bool × Unit)) × Int × Int × Int × Unit) (x1 : (List Int) × ((List Int) × (List Int) × Unit) × Int × Int × Unit) (x2 : Int × Int × Int × Unit) (x3 : Int) : Option ((Int × Unit)) :=
  (f58 k (w64 (1 - x1.2.2.1))).bind fun r1 =>
  (f58 k x1.2.2.1).bind fun r2 =>
  bif decide (x2.1 < 0) then
    (f60 k x1.2.2.1 x2.2.2.1 1).bind fun r3 =>
    bif decide (0 ≤ x2.2.1) && decide (x2.2.1 < (x1.1.length : Int)) then
      bif (rd (0 : Int) x1.1 x2.2.1) != 0 then
        (f59 k x2.2.1 (rd (0 : Int) x1.1 x2.2.1)).bind fun r4 =>
        bif x0.2.2.2.2.2.2.1 then
          bif x1.2.2.1 == 0 then
            (f65 k (rd (0 : Int) x1.1 x2.2.1)).bind fun r5 =>
            bif decide (0 ≤ r5.1) && decide (r5.1 < (x1.2.1.1.length : Int)) then
              bif decide ((rd (0 : Int) x1.2.1.1 r5.1) < 1000) then
                (f65 k (rd (0 : Int) x1.1 x2.2.1)).bind fun r6 =>
                (f60 k x1.2.2.1 r6.1 1).bind fun r7 =>
                (f66 k x2.2.2.1 x1.2.2.1).bind fun r8 =>
                (f59 k x2.2.1 r8.1).bind fun r9 =>
                some (IntKind.u64.wrap ((IntKind.u64.wrap ((IntKind.u64.wrap ((IntKind.u64.wrap ((IntKind.u64.wrap (x3 + (IntKind.u64.wrap (r1.1 - r2.1)))) - r3.1)) - r4.1)) + r7.1)) + r9.1), ())
              else
                (f66 k x2.2.2.1 x1.2.2.1).bind fun r10 =>
                (f59 k x2.2.1 r10.1).bind fun r11 =>
                some (IntKind.u64.wrap ((IntKind.u64.wrap ((IntKind.u64.wrap ((IntKind.u64.wrap (x3 + (IntKind.u64.wrap (r1.1 - r2.1)))) - r3.1)) - r4.1)) + r11.1), ())
            else
              none
          else
          bif x1.2.2.1 == 1 then
            (f65 k (rd (0 : Int) x1.1 x2.2.1)).bind fun r12 =>
            bif decide (0 ≤ r12.1) && decide (r12.1 < (x1.2.1.2.1.length : Int)) then
              bif decide ((rd (0 : Int) x1.2.1.2.1 r12.1) < 1000) then
                (f65 k (rd (0 : Int) x1.1 x2.2.1)).bind fun r13 =>
                (f60 k x1.2.2.1 r13.1 1).bind fun r14 =>
                (f66 k x2.2.2.1 x1.2.2.1).bind fun r15 =>
                (f59 k x2.2.1 r15.1).bind fun r16 =>
                some (IntKind.u64.wrap ((IntKind.u64.wrap ((IntKind.u64.wrap ((IntKind.u64.wrap ((IntKind.u64.wrap (x3 + (IntKind.u64.wrap (r1.1 - r2.1)))) - r3.1)) - r4.1)) + r14.1)) + r16.1), ())
              else
                (f66 k x2.2.2.1 x1.2.2.1).bind fun r17 =>
                (f59 k x2.2.1 r17.1).bind fun r18 =>
                some (IntKind.u64.wrap ((IntKind.u64.wrap ((IntKind.u64.wrap ((IntKind.u64.wrap (x3 + (IntKind.u64.wrap (r1.1 - r2.1)))) - r3.1)) - r4.1)) + r18.1), ())
            else
              none
          else
            none
        else
          (f66 k x2.2.2.1 x1.2.2.1).bind fun r19 =>
          (f59 k x2.2.1 r19.1).bind fun r20 =>
          some (IntKind.u64.wrap ((IntKind.u64.wrap ((IntKind.u64.wrap ((IntKind.u64.wrap (x3 + (IntKind.u64.wrap (r1.1 - r2.1)))) - r3.1)) - r4.1)) + r20.1), ())
      else
        (f66 k x2.2.2.1 x1.2.2.1).bind fun r21 =>
        (f59 k x2.2.1 r21.1).bind fun r22 =>
        some (IntKind.u64.wrap ((IntKind.u64.wrap ((IntKind.u64.wrap (x3 + (IntKind.u64.wrap (r1.1 - r2.1)))) - r3.1)) + r22.1), ())
    else
      none
  else
  bif decide (0 ≤ x2.1) && decide (x2.1 < (x1.1.length : Int)) then
    (f59 k x2.1 (rd (0 : Int) x1.1 x2.1)).bind fun r23 =>
    bif decide (0 ≤ x2.2.1) && decide (x2.2.1 < (x1.1.length : Int)) then
      bif (rd (0 : Int) x1.1 x2.2.1) != 0 then
        (f59 k x2.2.1 (rd (0 : Int) x1.1 x2.2.1)).bind fun r24 =>
        bif x0.2.2.2.2.2.2.1 then
          bif x1.2.2.1 == 0 then
            (f65 k (rd (0 : Int) x1.1 x2.2.1)).bind fun r25 =>
            bif decide (0 ≤ r25.1) && decide (r25.1 < (x1.2.1.1.length : Int)) then
              bif decide ((rd (0 : Int) x1.2.1.1 r25.1) < 1000) then
                (f65 k (rd (0 : Int) x1.1 x2.2.1)).bind fun r26 =>
                (f60 k x1.2.2.1 r26.1 1).bind fun r27 =>
                (f66 k x2.2.2.1 x1.2.2.1).bind fun r28 =>
                (f59 k x2.2.1 r28.1).bind fun r29 =>
                some (IntKind.u64.wrap ((IntKind.u64.wrap ((IntKind.u64.wrap ((IntKind.u64.wrap ((IntKind.u64.wrap (x3 + (IntKind.u64.wrap (r1.1 - r2.1)))) - r23.1)) - r24.1)) + r27.1)) + r29.1), ())
              else
                (f66 k x2.2.2.1 x1.2.2.1).bind fun r30 =>
                (f59 k x2.2.1 r30.1).bind fun r31 =>
                some (IntKind.u64.wrap ((IntKind.u64.wrap ((IntKind.u64.wrap ((IntKind.u64.wrap (x3 + (IntKind.u64.wrap (r1.1 - r2.1)))) - r23.1)) - r24.1)) + r31.1), ())
            else
              none
          else
          bif x1.2.2.1 == 1 then
            (f65 k (rd (0 : Int) x1.1 x2.2.1)).bind fun r32 =>
            bif decide (0 ≤ r32.1) && decide (r32.1 < (x1.2.1.2.1.length : Int)) then
              bif decide ((rd (0 : Int) x1.2.1.2.1 r32.1) < 1000) then
                (f65 k (rd (0 : Int) x1.1 x2.2.1)).bind fun r33 =>
                (f60 k x1.2.2.1 r33.1 1).bind fun r34 =>
                (f66 k x2.2.2.1 x1.2.2.1).bind fun r35 =>
                (f59 k x2.2.1 r35.1).bind fun r36 =>
                some (IntKind.u64.wrap ((IntKind.u64.wrap ((IntKind.u64.wrap ((IntKind.u64.wrap ((IntKind.u64.wrap (x3 + (IntKind.u64.wrap (r1.1 - r2.1)))) - r23.1)) - r24.1)) + r34.1)) + r36.1), ())
              else
                (f66 k x2.2.2.1 x1.2.2.1).bind fun r37 =>
                (f59 k x2.2.1 r37.1).bind fun r38 =>
                some (IntKind.u64.wrap ((IntKind.u64.wrap ((IntKind.u64.wrap ((IntKind.u64.wrap (x3 + (IntKind.u64.wrap (r1.1 - r2.1)))) - r23.1)) - r24.1)) + r38.1), ())
            else
              none
          else
            none
        else
          (f66 k x2.2.2.1 x1.2.2.1).bind fun r39 =>
          (f59 k x2.2.1 r39.1).bind fun r40 =>
          some (IntKind.u64.wrap ((IntKind.u64.wrap ((IntKind.u64.wrap ((IntKind.u64.wrap (x3 + (IntKind.u64.wrap (r1.1 - r2.1)))) - r23.1)) - r24.1)) + r40.1), ())
      else
        (f66 k x2.2.2.1 x1.2.2.1).bind fun r41 =>
        (f59 k x2.2.1 r41.1).bind fun r42 =>
        some (IntKind.u64.wrap ((IntKind.u64.wrap ((IntKind.u64.wrap (x3 + (IntKind.u64.wrap (r1.1 - r2.1)))) - r23.1)) + r42.1), ())
    else
      none
  else
    none
noncomputable def f64_sig (k : Nat) : Sig := ⟨[.val (.pair (.str) (.pair (.int .i64) (.pair (.int .i64) (.pair (.sl (.pair (.int .u8) (.pair (.int .i64) (.pair (.int .i64) (.pair (.sl (.pair (.int .i64) (.pair (.int .i64) (.pair (.int .i64) (.pair (.int .i64) (.unit)))))) (.unit)))))) (.pair (.sl (.int .i64)) (.pair (.bool) (.pair (.bool) (.pair (.sl (.pair (.int .i64) (.pair (.int .i64) (.pair (.int .i64) (.pair (.bool) (.unit)))))) (.pair (.int .i64) (.pair (.int .i64) (.pair (.int .i64) (.unit)))))))))))), .val (.pair (.sl (.int .i64)) (.pair (.pair (.sl (.int .i64)) (.pair (.sl (.int .i64)) (.unit))) (.pair (.int .i64) (.pair (.int .i64) (.unit))))), .val (.pair (.int .i64) (.pair (.int .i64) (.pair (.int .i64) (.unit)))), .val (.int .u64)], [], [[.val (.int .u64)]], fun x => f64 k x.1 x.2.1 x.2.2.1 x.2.2.2.1⟩
noncomputable def E_f64 (k : Nat) : Env := ⟨Try.prog, G0, scons 66 [f66_sig k] (scons 65 [f65_sig k] (scons 60 [f60_sig k] (scons 59 [f59_sig k] (scons 58 [f58_sig k] (snil))))), tnil, tnil, unil, k, qnil⟩
theorem f64_run (k : Nat) (x : (lTy (lay 0 (f64_sig k).ins)).den) : runF (E_f64 k) Try.f64 (f64_sig k) x = (f64_sig k).F x := by kernel_rfl
theorem f64_ok [Dr] (k : Nat) : FnOK Try.prog G0 64 (f64_sig k) :=
  fn_ok2 (E := E_f64 k) (env_cons (one_sig (f66_ok k)) (env_cons (one_sig (f65_ok k)) (env_cons (one_sig (f60_ok k)) (env_cons (one_sig (f59_ok k)) (env_cons (one_sig (f58_ok k)) (env_nil)))))) (qenv_nil) mixed Try.func64 Try.call64 (by kernel_rfl) (by kernel_rfl) (m := 0) (by kernel_rfl) trivial (sk := []) (by kernel_rfl) trivial (f64_run k)

/-! ### (*gamehall/board.Board).Make: function 53 -/
noncomputable def f53 (k : Nat) (x0 : (ByteArray × Int × Int × (List (Int × Int × Int × (List (Int × Int × Int × Int × Unit)) × Unit)) × (List Int) × Bool × Bool × (List (Int × Int × Int × Bool × Unit)) × Int × Int × Int × Unit) × ((List Int) × ((List Int) × (List Int) × Unit) × Int × Int × Unit) × Int × (List ((Int × Int × Int × Unit) × Int × Int × Bool × Int × Int × Unit)) × Unit) (x1 : Int × Int × Int × Unit) : Option ((((ByteArray × Int × Int × (List (Int × Int × Int × (List (Int × Int × Int × Int × Unit)) × Unit)) × (List Int) × Bool × Bool × (List (Int × Int × Int × Bool × Unit)) × Int × Int × Int × Unit) × ((List Int) × ((List Int) × (List Int) × Unit) × Int × Int × Unit) × Int × (List ((Int × Int × Int × Unit) × Int × Int × Bool × Int × Int × Unit)) × Unit) × Unit)) :=
  bif decide (0 ≤ x1.2.1) && decide (x1.2.1 < (x0.2.1.1.length : Int)) then
    (f64 k x0.1 x0.2.1 x1 x0.2.2.1).bind fun r1 =>
    bif x0.2.1.2.2.1 == 0 then
      bif decide (x1.1 < 0) then
        bif decide (0 ≤ x1.2.2.1) && decide (x1.2.2.1 < (x0.2.1.2.1.1.length : Int)) then
          bif decide (0 ≤ x1.2.2.1) && decide (x1.2.2.1 < (x0.2.1.2.1.1.length : Int)) then
            bif (rd (0 : Int) x0.2.1.1 x1.2.1) != 0 then
              (f65 k (rd (0 : Int) x0.2.1.1 x1.2.1)).bind fun r2 =>
              bif x0.1.2.2.2.2.2.2.1 then
                bif decide (0 ≤ r2.1) && decide (r2.1 < ((x0.2.1.2.1.1.set x1.2.2.1.toNat (w64 ((rd (0 : Int) x0.2.1.2.1.1 x1.2.2.1) - 1))).length : Int)) then
                  bif decide ((rd (0 : Int) (x0.2.1.2.1.1.set x1.2.2.1.toNat (w64 ((rd (0 : Int) x0.2.1.2.1.1 x1.2.2.1) - 1))) r2.1) < 1000) then
                    bif decide (0 ≤ r2.1) && decide (r2.1 < ((x0.2.1.2.1.1.set x1.2.2.1.toNat (w64 ((rd (0 : Int) x0.2.1.2.1.1 x1.2.2.1) - 1))).length : Int)) then
                      bif decide (0 ≤ r2.1) && decide (r2.1 < ((x0.2.1.2.1.1.set x1.2.2.1.toNat (w64 ((rd (0 : Int) x0.2.1.2.1.1 x1.2.2.1) - 1))).length : Int)) then
                        (f66 k x1.2.2.1 x0.2.1.2.2.1).bind fun r3 =>
                        bif decide (0 ≤ x1.2.1) && decide (x1.2.1 < (x0.2.1.1.length : Int)) then
                          bif decide ((x0.2.2.2.1.length + ([(x1, 0, rd (0 : Int) x0.2.1.1 x1.2.1, true, x0.2.1.2.2.2.1, x0.2.2.1, ())] : List ((Int × Int × Int × Unit) × Int × Int × Bool × Int × Int × Unit)).length) * 64 ≤ roomN) then
                            some ((x0.1, (x0.2.1.1.set x1.2.1.toNat r3.1, ((x0.2.1.2.1.1.set x1.2.2.1.toNat (w64 ((rd (0 : Int) x0.2.1.2.1.1 x1.2.2.1) - 1))).set r2.1.toNat (w64 ((rd (0 : Int) (x0.2.1.2.1.1.set x1.2.2.1.toNat (w64 ((rd (0 : Int) x0.2.1.2.1.1 x1.2.2.1) - 1))) r2.1) + 1)), x0.2.1.2.1.2), w64 (1 - x0.2.1.2.2.1), 0, ()), r1.1, x0.2.2.2.1 ++ [(x1, 0, rd (0 : Int) x0.2.1.1 x1.2.1, true, x0.2.1.2.2.2.1, x0.2.2.1, ())], ()), ())
                          else
                            none
                        else
                          none
                      else
                        none
                    else
                      none
                  else
                    (f66 k x1.2.2.1 x0.2.1.2.2.1).bind fun r4 =>
                    bif decide (0 ≤ x1.2.1) && decide (x1.2.1 < (x0.2.1.1.length : Int)) then
                      bif decide ((x0.2.2.2.1.length + ([(x1, 0, rd (0 : Int) x0.2.1.1 x1.2.1, false, x0.2.1.2.2.2.1, x0.2.2.1, ())] : List ((Int × Int × Int × Unit) × Int × Int × Bool × Int × Int × Unit)).length) * 64 ≤ roomN) then
                        some ((x0.1, (x0.2.1.1.set x1.2.1.toNat r4.1, (x0.2.1.2.1.1.set x1.2.2.1.toNat (w64 ((rd (0 : Int) x0.2.1.2.1.1 x1.2.2.1) - 1)), x0.2.1.2.1.2), w64 (1 - x0.2.1.2.2.1), 0, ()), r1.1, x0.2.2.2.1 ++ [(x1, 0, rd (0 : Int) x0.2.1.1 x1.2.1, false, x0.2.1.2.2.2.1, x0.2.2.1, ())], ()), ())
                      else
                        none
                    else
                      none
                else
                  none
              else
                (f66 k x1.2.2.1 x0.2.1.2.2.1).bind fun r5 =>
                bif decide (0 ≤ x1.2.1) && decide (x1.2.1 < (x0.2.1.1.length : Int)) then
                  bif decide ((x0.2.2.2.1.length + ([(x1, 0, rd (0 : Int) x0.2.1.1 x1.2.1, false, x0.2.1.2.2.2.1, x0.2.2.1, ())] : List ((Int × Int × Int × Unit) × Int × Int × Bool × Int × Int × Unit)).length) * 64 ≤ roomN) then
                    some ((x0.1, (x0.2.1.1.set x1.2.1.toNat r5.1, (x0.2.1.2.1.1.set x1.2.2.1.toNat (w64 ((rd (0 : Int) x0.2.1.2.1.1 x1.2.2.1) - 1)), x0.2.1.2.1.2), w64 (1 - x0.2.1.2.2.1), 0, ()), r1.1, x0.2.2.2.1 ++ [(x1, 0, rd (0 : Int) x0.2.1.1 x1.2.1, false, x0.2.1.2.2.2.1, x0.2.2.1, ())], ()), ())
                  else
                    none
                else
                  none
            else
              (f66 k x1.2.2.1 x0.2.1.2.2.1).bind fun r6 =>
              bif decide (0 ≤ x1.2.1) && decide (x1.2.1 < (x0.2.1.1.length : Int)) then
                bif decide ((x0.2.2.2.1.length + ([(x1, 0, rd (0 : Int) x0.2.1.1 x1.2.1, false, x0.2.1.2.2.2.1, x0.2.2.1, ())] : List ((Int × Int × Int × Unit) × Int × Int × Bool × Int × Int × Unit)).length) * 64 ≤ roomN) then
                  some ((x0.1, (x0.2.1.1.set x1.2.1.toNat r6.1, (x0.2.1.2.1.1.set x1.2.2.1.toNat (w64 ((rd (0 : Int) x0.2.1.2.1.1 x1.2.2.1) - 1)), x0.2.1.2.1.2), w64 (1 - x0.2.1.2.2.1), 0, ()), r1.1, x0.2.2.2.1 ++ [(x1, 0, rd (0 : Int) x0.2.1.1 x1.2.1, false, x0.2.1.2.2.2.1, x0.2.2.1, ())], ()), ())
                else
                  none
              else
                none
          else
            none
        else
          none
      else
      bif decide (0 ≤ x1.1) && decide (x1.1 < (x0.2.1.1.length : Int)) then
        bif decide (0 ≤ x1.1) && decide (x1.1 < (x0.2.1.1.length : Int)) then
          bif (rd (0 : Int) x0.2.1.1 x1.2.1) != 0 then
            (f65 k (rd (0 : Int) x0.2.1.1 x1.2.1)).bind fun r7 =>
            bif x0.1.2.2.2.2.2.2.1 then
              bif decide (0 ≤ r7.1) && decide (r7.1 < (x0.2.1.2.1.1.length : Int)) then
                bif decide ((rd (0 : Int) x0.2.1.2.1.1 r7.1) < 1000) then
                  bif decide (0 ≤ r7.1) && decide (r7.1 < (x0.2.1.2.1.1.length : Int)) then
                    bif decide (0 ≤ r7.1) && decide (r7.1 < (x0.2.1.2.1.1.length : Int)) then
                      (f66 k x1.2.2.1 x0.2.1.2.2.1).bind fun r8 =>
                      bif decide (0 ≤ x1.2.1) && decide (x1.2.1 < ((x0.2.1.1.set x1.1.toNat 0).length : Int)) then
                        bif decide ((x0.2.2.2.1.length + ([(x1, rd (0 : Int) x0.2.1.1 x1.1, rd (0 : Int) x0.2.1.1 x1.2.1, true, x0.2.1.2.2.2.1, x0.2.2.1, ())] : List ((Int × Int × Int × Unit) × Int × Int × Bool × Int × Int × Unit)).length) * 64 ≤ roomN) then
                          some ((x0.1, ((x0.2.1.1.set x1.1.toNat 0).set x1.2.1.toNat r8.1, (x0.2.1.2.1.1.set r7.1.toNat (w64 ((rd (0 : Int) x0.2.1.2.1.1 r7.1) + 1)), x0.2.1.2.1.2), w64 (1 - x0.2.1.2.2.1), 0, ()), r1.1, x0.2.2.2.1 ++ [(x1, rd (0 : Int) x0.2.1.1 x1.1, rd (0 : Int) x0.2.1.1 x1.2.1, true, x0.2.1.2.2.2.1, x0.2.2.1, ())], ()), ())
                        else
                          none
                      else
                        none
                    else
                      none
                  else
                    none
                else
                  (f66 k x1.2.2.1 x0.2.1.2.2.1).bind fun r9 =>
                  bif decide (0 ≤ x1.2.1) && decide (x1.2.1 < ((x0.2.1.1.set x1.1.toNat 0).length : Int)) then
                    bif decide ((x0.2.2.2.1.length + ([(x1, rd (0 : Int) x0.2.1.1 x1.1, rd (0 : Int) x0.2.1.1 x1.2.1, false, x0.2.1.2.2.2.1, x0.2.2.1, ())] : List ((Int × Int × Int × Unit) × Int × Int × Bool × Int × Int × Unit)).length) * 64 ≤ roomN) then
                      some ((x0.1, ((x0.2.1.1.set x1.1.toNat 0).set x1.2.1.toNat r9.1, x0.2.1.2.1, w64 (1 - x0.2.1.2.2.1), 0, ()), r1.1, x0.2.2.2.1 ++ [(x1, rd (0 : Int) x0.2.1.1 x1.1, rd (0 : Int) x0.2.1.1 x1.2.1, false, x0.2.1.2.2.2.1, x0.2.2.1, ())], ()), ())
                    else
                      none
                  else
                    none
              else
                none
            else
              (f66 k x1.2.2.1 x0.2.1.2.2.1).bind fun r10 =>
              bif decide (0 ≤ x1.2.1) && decide (x1.2.1 < ((x0.2.1.1.set x1.1.toNat 0).length : Int)) then
                bif decide ((x0.2.2.2.1.length + ([(x1, rd (0 : Int) x0.2.1.1 x1.1, rd (0 : Int) x0.2.1.1 x1.2.1, false, x0.2.1.2.2.2.1, x0.2.2.1, ())] : List ((Int × Int × Int × Unit) × Int × Int × Bool × Int × Int × Unit)).length) * 64 ≤ roomN) then
                  some ((x0.1, ((x0.2.1.1.set x1.1.toNat 0).set x1.2.1.toNat r10.1, x0.2.1.2.1, w64 (1 - x0.2.1.2.2.1), 0, ()), r1.1, x0.2.2.2.1 ++ [(x1, rd (0 : Int) x0.2.1.1 x1.1, rd (0 : Int) x0.2.1.1 x1.2.1, false, x0.2.1.2.2.2.1, x0.2.2.1, ())], ()), ())
                else
                  none
              else
                none
          else
            (f66 k x1.2.2.1 x0.2.1.2.2.1).bind fun r11 =>
            bif decide (0 ≤ x1.2.1) && decide (x1.2.1 < ((x0.2.1.1.set x1.1.toNat 0).length : Int)) then
              bif decide ((x0.2.2.2.1.length + ([(x1, rd (0 : Int) x0.2.1.1 x1.1, rd (0 : Int) x0.2.1.1 x1.2.1, false, x0.2.1.2.2.2.1, x0.2.2.1, ())] : List ((Int × Int × Int × Unit) × Int × Int × Bool × Int × Int × Unit)).length) * 64 ≤ roomN) then
                some ((x0.1, ((x0.2.1.1.set x1.1.toNat 0).set x1.2.1.toNat r11.1, x0.2.1.2.1, w64 (1 - x0.2.1.2.2.1), if 200 < (w64 (x0.2.1.2.2.2.1 + 1)) then 200 else w64 (x0.2.1.2.2.2.1 + 1), ()), r1.1, x0.2.2.2.1 ++ [(x1, rd (0 : Int) x0.2.1.1 x1.1, rd (0 : Int) x0.2.1.1 x1.2.1, false, x0.2.1.2.2.2.1, x0.2.2.1, ())], ()), ())
              else
                none
            else
              none
        else
          none
      else
        none
    else
    bif x0.2.1.2.2.1 == 1 then
      bif decide (x1.1 < 0) then
        bif decide (0 ≤ x1.2.2.1) && decide (x1.2.2.1 < (x0.2.1.2.1.2.1.length : Int)) then
          bif decide (0 ≤ x1.2.2.1) && decide (x1.2.2.1 < (x0.2.1.2.1.2.1.length : Int)) then
            bif (rd (0 : Int) x0.2.1.1 x1.2.1) != 0 then
              (f65 k (rd (0 : Int) x0.2.1.1 x1.2.1)).bind fun r12 =>
              bif x0.1.2.2.2.2.2.2.1 then
                bif decide (0 ≤ r12.1) && decide (r12.1 < ((x0.2.1.2.1.2.1.set x1.2.2.1.toNat (w64 ((rd (0 : Int) x0.2.1.2.1.2.1 x1.2.2.1) - 1))).length : Int)) then
                  bif decide ((rd (0 : Int) (x0.2.1.2.1.2.1.set x1.2.2.1.toNat (w64 ((rd (0 : Int) x0.2.1.2.1.2.1 x1.2.2.1) - 1))) r12.1) < 1000) then
                    bif decide (0 ≤ r12.1) && decide (r12.1 < ((x0.2.1.2.1.2.1.set x1.2.2.1.toNat (w64 ((rd (0 : Int) x0.2.1.2.1.2.1 x1.2.2.1) - 1))).length : Int)) then
                      bif decide (0 ≤ r12.1) && decide (r12.1 < ((x0.2.1.2.1.2.1.set x1.2.2.1.toNat (w64 ((rd (0 : Int) x0.2.1.2.1.2.1 x1.2.2.1) - 1))).length : Int)) then
                        (f66 k x1.2.2.1 x0.2.1.2.2.1).bind fun r13 =>
                        bif decide (0 ≤ x1.2.1) && decide (x1.2.1 < (x0.2.1.1.length : Int)) then
                          bif decide ((x0.2.2.2.1.length + ([(x1, 0, rd (0 : Int) x0.2.1.1 x1.2.1, true, x0.2.1.2.2.2.1, x0.2.2.1, ())] : List ((Int × Int × Int × Unit) × Int × Int × Bool × Int × Int × Unit)).length) * 64 ≤ roomN) then
                            some ((x0.1, (x0.2.1.1.set x1.2.1.toNat r13.1, (x0.2.1.2.1.1, (x0.2.1.2.1.2.1.set x1.2.2.1.toNat (w64 ((rd (0 : Int) x0.2.1.2.1.2.1 x1.2.2.1) - 1))).set r12.1.toNat (w64 ((rd (0 : Int) (x0.2.1.2.1.2.1.set x1.2.2.1.toNat (w64 ((rd (0 : Int) x0.2.1.2.1.2.1 x1.2.2.1) - 1))) r12.1) + 1)), ()), w64 (1 - x0.2.1.2.2.1), 0, ()), r1.1, x0.2.2.2.1 ++ [(x1, 0, rd (0 : Int) x0.2.1.1 x1.2.1, true, x0.2.1.2.2.2.1, x0.2.2.1, ())], ()), ())
                          else
                            none
                        else
                          none
                      else
                        none
                    else
                      none
                  else
                    (f66 k x1.2.2.1 x0.2.1.2.2.1).bind fun r14 =>
                    bif decide (0 ≤ x1.2.1) && decide (x1.2.1 < (x0.2.1.1.length : Int)) then
                      bif decide ((x0.2.2.2.1.length + ([(x1, 0, rd (0 : Int) x0.2.1.1 x1.2.1, false, x0.2.1.2.2.2.1, x0.2.2.1, ())] : List ((Int × Int × Int × Unit) × Int × Int × Bool × Int × Int × Unit)).length) * 64 ≤ roomN) then
                        some ((x0.1, (x0.2.1.1.set x1.2.1.toNat r14.1, (x0.2.1.2.1.1, x0.2.1.2.1.2.1.set x1.2.2.1.toNat (w64 ((rd (0 : Int) x0.2.1.2.1.2.1 x1.2.2.1) - 1)), ()), w64 (1 - x0.2.1.2.2.1), 0, ()), r1.1, x0.2.2.2.1 ++ [(x1, 0, rd (0 : Int) x0.2.1.1 x1.2.1, false, x0.2.1.2.2.2.1, x0.2.2.1, ())], ()), ())
                      else
                        none
                    else
                      none
                else
                  none
              else
                (f66 k x1.2.2.1 x0.2.1.2.2.1).bind fun r15 =>
                bif decide (0 ≤ x1.2.1) && decide (x1.2.1 < (x0.2.1.1.length : Int)) then
                  bif decide ((x0.2.2.2.1.length + ([(x1, 0, rd (0 : Int) x0.2.1.1 x1.2.1, false, x0.2.1.2.2.2.1, x0.2.2.1, ())] : List ((Int × Int × Int × Unit) × Int × Int × Bool × Int × Int × Unit)).length) * 64 ≤ roomN) then
                    some ((x0.1, (x0.2.1.1.set x1.2.1.toNat r15.1, (x0.2.1.2.1.1, x0.2.1.2.1.2.1.set x1.2.2.1.toNat (w64 ((rd (0 : Int) x0.2.1.2.1.2.1 x1.2.2.1) - 1)), ()), w64 (1 - x0.2.1.2.2.1), 0, ()), r1.1, x0.2.2.2.1 ++ [(x1, 0, rd (0 : Int) x0.2.1.1 x1.2.1, false, x0.2.1.2.2.2.1, x0.2.2.1, ())], ()), ())
                  else
                    none
                else
                  none
            else
              (f66 k x1.2.2.1 x0.2.1.2.2.1).bind fun r16 =>
              bif decide (0 ≤ x1.2.1) && decide (x1.2.1 < (x0.2.1.1.length : Int)) then
                bif decide ((x0.2.2.2.1.length + ([(x1, 0, rd (0 : Int) x0.2.1.1 x1.2.1, false, x0.2.1.2.2.2.1, x0.2.2.1, ())] : List ((Int × Int × Int × Unit) × Int × Int × Bool × Int × Int × Unit)).length) * 64 ≤ roomN) then
                  some ((x0.1, (x0.2.1.1.set x1.2.1.toNat r16.1, (x0.2.1.2.1.1, x0.2.1.2.1.2.1.set x1.2.2.1.toNat (w64 ((rd (0 : Int) x0.2.1.2.1.2.1 x1.2.2.1) - 1)), ()), w64 (1 - x0.2.1.2.2.1), 0, ()), r1.1, x0.2.2.2.1 ++ [(x1, 0, rd (0 : Int) x0.2.1.1 x1.2.1, false, x0.2.1.2.2.2.1, x0.2.2.1, ())], ()), ())
                else
                  none
              else
                none
          else
            none
        else
          none
      else
      bif decide (0 ≤ x1.1) && decide (x1.1 < (x0.2.1.1.length : Int)) then
        bif decide (0 ≤ x1.1) && decide (x1.1 < (x0.2.1.1.length : Int)) then
          bif (rd (0 : Int) x0.2.1.1 x1.2.1) != 0 then
            (f65 k (rd (0 : Int) x0.2.1.1 x1.2.1)).bind fun r17 =>
            bif x0.1.2.2.2.2.2.2.1 then
              bif decide (0 ≤ r17.1) && decide (r17.1 < (x0.2.1.2.1.2.1.length : Int)) then
                bif decide ((rd (0 : Int) x0.2.1.2.1.2.1 r17.1) < 1000) then
                  bif decide (0 ≤ r17.1) && decide (r17.1 < (x0.2.1.2.1.2.1.length : Int)) then
                    bif decide (0 ≤ r17.1) && decide (r17.1 < (x0.2.1.2.1.2.1.length : Int)) then
                      (f66 k x1.2.2.1 x0.2.1.2.2.1).bind fun r18 =>
                      bif decide (0 ≤ x1.2.1) && decide (x1.2.1 < ((x0.2.1.1.set x1.1.toNat 0).length : Int)) then
                        bif decide ((x0.2.2.2.1.length + ([(x1, rd (0 : Int) x0.2.1.1 x1.1, rd (0 : Int) x0.2.1.1 x1.2.1, true, x0.2.1.2.2.2.1, x0.2.2.1, ())] : List ((Int × Int × Int × Unit) × Int × Int × Bool × Int × Int × Unit)).length) * 64 ≤ roomN) then
                          some ((x0.1, ((x0.2.1.1.set x1.1.toNat 0).set x1.2.1.toNat r18.1, (x0.2.1.2.1.1, x0.2.1.2.1.2.1.set r17.1.toNat (w64 ((rd (0 : Int) x0.2.1.2.1.2.1 r17.1) + 1)), ()), w64 (1 - x0.2.1.2.2.1), 0, ()), r1.1, x0.2.2.2.1 ++ [(x1, rd (0 : Int) x0.2.1.1 x1.1, rd (0 : Int) x0.2.1.1 x1.2.1, true, x0.2.1.2.2.2.1, x0.2.2.1, ())], ()), ())
                        else
                          none
                      else
                        none
                    else
                      none
                  else
                    none
                else
                  (f66 k x1.2.2.1 x0.2.1.2.2.1).bind fun r19 =>
                  bif decide (0 ≤ x1.2.1) && decide (x1.2.1 < ((x0.2.1.1.set x1.1.toNat 0).length : Int)) then
                    bif decide ((x0.2.2.2.1.length + ([(x1, rd (0 : Int) x0.2.1.1 x1.1, rd (0 : Int) x0.2.1.1 x1.2.1, false, x0.2.1.2.2.2.1, x0.2.2.1, ())] : List ((Int × Int × Int × Unit) × Int × Int × Bool × Int × Int × Unit)).length) * 64 ≤ roomN) then
                      some ((x0.1, ((x0.2.1.1.set x1.1.toNat 0).set x1.2.1.toNat r19.1, x0.2.1.2.1, w64 (1 - x0.2.1.2.2.1), 0, ()), r1.1, x0.2.2.2.1 ++ [(x1, rd (0 : Int) x0.2.1.1 x1.1, rd (0 : Int) x0.2.1.1 x1.2.1, false, x0.2.1.2.2.2.1, x0.2.2.1, ())], ()), ())
                    else
                      none
                  else
                    none
              else
                none
            else
              (f66 k x1.2.2.1 x0.2.1.2.2.1).bind fun r20 =>
              bif decide (0 ≤ x1.2.1) && decide (x1.2.1 < ((x0.2.1.1.set x1.1.toNat 0).length : Int)) then
                bif decide ((x0.2.2.2.1.length + ([(x1, rd (0 : Int) x0.2.1.1 x1.1, rd (0 : Int) x0.2.1.1 x1.2.1, false, x0.2.1.2.2.2.1, x0.2.2.1, ())] : List ((Int × Int × Int × Unit) × Int × Int × Bool × Int × Int × Unit)).length) * 64 ≤ roomN) then
                  some ((x0.1, ((x0.2.1.1.set x1.1.toNat 0).set x1.2.1.toNat r20.1, x0.2.1.2.1, w64 (1 - x0.2.1.2.2.1), 0, ()), r1.1, x0.2.2.2.1 ++ [(x1, rd (0 : Int) x0.2.1.1 x1.1, rd (0 : Int) x0.2.1.1 x1.2.1, false, x0.2.1.2.2.2.1, x0.2.2.1, ())], ()), ())
                else
                  none
              else
                none
          else
            (f66 k x1.2.2.1 x0.2.1.2.2.1).bind fun r21 =>
            bif decide (0 ≤ x1.2.1) && decide (x1.2.1 < ((x0.2.1.1.set x1.1.toNat 0).length : Int)) then
              bif decide ((x0.2.2.2.1.length + ([(x1, rd (0 : Int) x0.2.1.1 x1.1, rd (0 : Int) x0.2.1.1 x1.2.1, false, x0.2.1.2.2.2.1, x0.2.2.1, ())] : List ((Int × Int × Int × Unit) × Int × Int × Bool × Int × Int × Unit)).length) * 64 ≤ roomN) then
                some ((x0.1, ((x0.2.1.1.set x1.1.toNat 0).set x1.2.1.toNat r21.1, x0.2.1.2.1, w64 (1 - x0.2.1.2.2.1), if 200 < (w64 (x0.2.1.2.2.2.1 + 1)) then 200 else w64 (x0.2.1.2.2.2.1 + 1), ()), r1.1, x0.2.2.2.1 ++ [(x1, rd (0 : Int) x0.2.1.1 x1.1, rd (0 : Int) x0.2.1.1 x1.2.1, false, x0.2.1.2.2.2.1, x0.2.2.1, ())], ()), ())
              else
                none
            else
              none
        else
          none
      else
        none
    else
      none
  else
    none
noncomputable def f53_sig (k : Nat) : Sig := ⟨[.box (.cons (.val (.pair (.str) (.pair (.int .i64) (.pair (.int .i64) (.pair (.sl (.pair (.int .u8) (.pair (.int .i64) (.pair (.int .i64) (.pair (.sl (.pair (.int .i64) (.pair (.int .i64) (.pair (.int .i64) (.pair (.int .i64) (.unit)))))) (.unit)))))) (.pair (.sl (.int .i64)) (.pair (.bool) (.pair (.bool) (.pair (.sl (.pair (.int .i64) (.pair (.int .i64) (.pair (.int .i64) (.pair (.bool) (.unit)))))) (.pair (.int .i64) (.pair (.int .i64) (.pair (.int .i64) (.unit))))))))))))) (.cons (.cons (.row (.int .i64)) (.cons (.cons (.row (.int .i64)) (.cons (.row (.int .i64)) (.nil))) (.cons (.val (.int .i64)) (.cons (.val (.int .i64)) (.nil))))) (.cons (.val (.int .u64)) (.cons (.row (.pair (.pair (.int .i64) (.pair (.int .i64) (.pair (.int .i64) (.unit)))) (.pair (.int .i64) (.pair (.int .i64) (.pair (.bool) (.pair (.int .i64) (.pair (.int .u64) (.unit)))))))) (.nil))))), .val (.pair (.int .i64) (.pair (.int .i64) (.pair (.int .i64) (.unit))))], [0], [[.box (.cons (.val (.pair (.str) (.pair (.int .i64) (.pair (.int .i64) (.pair (.sl (.pair (.int .u8) (.pair (.int .i64) (.pair (.int .i64) (.pair (.sl (.pair (.int .i64) (.pair (.int .i64) (.pair (.int .i64) (.pair (.int .i64) (.unit)))))) (.unit)))))) (.pair (.sl (.int .i64)) (.pair (.bool) (.pair (.bool) (.pair (.sl (.pair (.int .i64) (.pair (.int .i64) (.pair (.int .i64) (.pair (.bool) (.unit)))))) (.pair (.int .i64) (.pair (.int .i64) (.pair (.int .i64) (.unit))))))))))))) (.cons (.cons (.row (.int .i64)) (.cons (.cons (.row (.int .i64)) (.cons (.row (.int .i64)) (.nil))) (.cons (.val (.int .i64)) (.cons (.val (.int .i64)) (.nil))))) (.cons (.val (.int .u64)) (.cons (.row (.pair (.pair (.int .i64) (.pair (.int .i64) (.pair (.int .i64) (.unit)))) (.pair (.int .i64) (.pair (.int .i64) (.pair (.bool) (.pair (.int .i64) (.pair (.int .u64) (.unit)))))))) (.nil)))))]], fun x => f53 k x.1 x.2.1⟩
noncomputable def E_f53 (k : Nat) : Env := ⟨Try.prog, G0, scons 66 [f66_sig k] (scons 65 [f65_sig k] (scons 64 [f64_sig k] (snil))), tnil, tnil, unil, k, qnil⟩
theorem f53_run (k : Nat) (x : (lTy (lay 0 (f53_sig k).ins)).den) : runF (E_f53 k) Try.f53 (f53_sig k) x = (f53_sig k).F x := by kernel_rfl
theorem f53_ok [Dr] (k : Nat) : FnOK Try.prog G0 53 (f53_sig k) :=
  fn_ok2 (E := E_f53 k) (env_cons (one_sig (f66_ok k)) (env_cons (one_sig (f65_ok k)) (env_cons (one_sig (f64_ok k)) (env_nil)))) (qenv_nil) mixed Try.func53 Try.call53 (by kernel_rfl) (by kernel_rfl) (m := 0) (by kernel_rfl) trivial (sk := []) (by kernel_rfl) trivial (f53_run k)

/-! ### (*gamehall/board.Board).Undo: function 55 -/
noncomputable def f55 (k : Nat) (x0 : (ByteArray × Int × Int × (List (Int × Int × Int × (List (Int × Int × Int × Int × Unit)) × Unit)) × (List Int) × Bool × Bool × (List (Int × Int × Int × Bool × Unit)) × Int × Int × Int × Unit) × ((List Int) × ((List Int) × (List Int) × Unit) × Int × Int × Unit) × Int × (List ((Int × Int × Int × Unit) × Int × Int × Bool × Int × Int × Unit)) × Unit) : Option ((Int × ((ByteArray × Int × Int × (List (Int × Int × Int × (List (Int × Int × Int × Int × Unit)) × Unit)) × (List Int) × Bool × Bool × (List (Int × Int × Int × Bool × Unit)) × Int × Int × Int × Unit) × ((List Int) × ((List Int) × (List Int) × Unit) × Int × Int × Unit) × Int × (List ((Int × Int × Int × Unit) × Int × Int × Bool × Int × Int × Unit)) × Unit) × Unit)) :=
  bif (x0.2.2.2.1.length : Int) == 0 then
    some (8, x0, ())
  else
  bif decide (0 ≤ (w64 ((x0.2.2.2.1.length : Int) - 1))) && decide ((w64 ((x0.2.2.2.1.length : Int) - 1)) < (x0.2.2.2.1.length : Int)) then
    bif decide (0 ≤ (w64 ((x0.2.2.2.1.length : Int) - 1))) && decide ((w64 ((x0.2.2.2.1.length : Int) - 1)) ≤ (x0.2.2.2.1.length : Int)) then
      bif (w64 (1 - x0.2.1.2.2.1)) == 0 then
        bif decide (0 ≤ (rd (((0, 0, 0, ()), 0, 0, false, 0, 0, ()) : (Int × Int × Int × Unit) × Int × Int × Bool × Int × Int × Unit) x0.2.2.2.1 (w64 ((x0.2.2.2.1.length : Int) - 1))).1.2.1) && decide ((rd (((0, 0, 0, ()), 0, 0, false, 0, 0, ()) : (Int × Int × Int × Unit) × Int × Int × Bool × Int × Int × Unit) x0.2.2.2.1 (w64 ((x0.2.2.2.1.length : Int) - 1))).1.2.1 < (x0.2.1.1.length : Int)) then
          bif (rd (((0, 0, 0, ()), 0, 0, false, 0, 0, ()) : (Int × Int × Int × Unit) × Int × Int × Bool × Int × Int × Unit) x0.2.2.2.1 (w64 ((x0.2.2.2.1.length : Int) - 1))).2.2.2.1 then
            (f65 k (rd (((0, 0, 0, ()), 0, 0, false, 0, 0, ()) : (Int × Int × Int × Unit) × Int × Int × Bool × Int × Int × Unit) x0.2.2.2.1 (w64 ((x0.2.2.2.1.length : Int) - 1))).2.2.1).bind fun r1 =>
            bif decide (0 ≤ r1.1) && decide (r1.1 < (x0.2.1.2.1.1.length : Int)) then
              bif decide (0 ≤ r1.1) && decide (r1.1 < (x0.2.1.2.1.1.length : Int)) then
                bif decide ((rd (((0, 0, 0, ()), 0, 0, false, 0, 0, ()) : (Int × Int × Int × Unit) × Int × Int × Bool × Int × Int × Unit) x0.2.2.2.1 (w64 ((x0.2.2.2.1.length : Int) - 1))).1.1 < 0) then
                  bif decide (0 ≤ (rd (((0, 0, 0, ()), 0, 0, false, 0, 0, ()) : (Int × Int × Int × Unit) × Int × Int × Bool × Int × Int × Unit) x0.2.2.2.1 (w64 ((x0.2.2.2.1.length : Int) - 1))).1.2.2.1) && decide ((rd (((0, 0, 0, ()), 0, 0, false, 0, 0, ()) : (Int × Int × Int × Unit) × Int × Int × Bool × Int × Int × Unit) x0.2.2.2.1 (w64 ((x0.2.2.2.1.length : Int) - 1))).1.2.2.1 < ((x0.2.1.2.1.1.set r1.1.toNat (w64 ((rd (0 : Int) x0.2.1.2.1.1 r1.1) - 1))).length : Int)) then
                    bif decide (0 ≤ (rd (((0, 0, 0, ()), 0, 0, false, 0, 0, ()) : (Int × Int × Int × Unit) × Int × Int × Bool × Int × Int × Unit) x0.2.2.2.1 (w64 ((x0.2.2.2.1.length : Int) - 1))).1.2.2.1) && decide ((rd (((0, 0, 0, ()), 0, 0, false, 0, 0, ()) : (Int × Int × Int × Unit) × Int × Int × Bool × Int × Int × Unit) x0.2.2.2.1 (w64 ((x0.2.2.2.1.length : Int) - 1))).1.2.2.1 < ((x0.2.1.2.1.1.set r1.1.toNat (w64 ((rd (0 : Int) x0.2.1.2.1.1 r1.1) - 1))).length : Int)) then
                      some (0, (x0.1, (x0.2.1.1.set (rd (((0, 0, 0, ()), 0, 0, false, 0, 0, ()) : (Int × Int × Int × Unit) × Int × Int × Bool × Int × Int × Unit) x0.2.2.2.1 (w64 ((x0.2.2.2.1.length : Int) - 1))).1.2.1.toNat (rd (((0, 0, 0, ()), 0, 0, false, 0, 0, ()) : (Int × Int × Int × Unit) × Int × Int × Bool × Int × Int × Unit) x0.2.2.2.1 (w64 ((x0.2.2.2.1.length : Int) - 1))).2.2.1, ((x0.2.1.2.1.1.set r1.1.toNat (w64 ((rd (0 : Int) x0.2.1.2.1.1 r1.1) - 1))).set (rd (((0, 0, 0, ()), 0, 0, false, 0, 0, ()) : (Int × Int × Int × Unit) × Int × Int × Bool × Int × Int × Unit) x0.2.2.2.1 (w64 ((x0.2.2.2.1.length : Int) - 1))).1.2.2.1.toNat (w64 ((rd (0 : Int) (x0.2.1.2.1.1.set r1.1.toNat (w64 ((rd (0 : Int) x0.2.1.2.1.1 r1.1) - 1))) (rd (((0, 0, 0, ()), 0, 0, false, 0, 0, ()) : (Int × Int × Int × Unit) × Int × Int × Bool × Int × Int × Unit) x0.2.2.2.1 (w64 ((x0.2.2.2.1.length : Int) - 1))).1.2.2.1) + 1)), x0.2.1.2.1.2), w64 (1 - x0.2.1.2.2.1), (rd (((0, 0, 0, ()), 0, 0, false, 0, 0, ()) : (Int × Int × Int × Unit) × Int × Int × Bool × Int × Int × Unit) x0.2.2.2.1 (w64 ((x0.2.2.2.1.length : Int) - 1))).2.2.2.2.1, ()), (rd (((0, 0, 0, ()), 0, 0, false, 0, 0, ()) : (Int × Int × Int × Unit) × Int × Int × Bool × Int × Int × Unit) x0.2.2.2.1 (w64 ((x0.2.2.2.1.length : Int) - 1))).2.2.2.2.2.1, first (w64 ((x0.2.2.2.1.length : Int) - 1)).toNat x0.2.2.2.1, ()), ())
                    else
                      none
                  else
                    none
                else
                bif decide (0 ≤ (rd (((0, 0, 0, ()), 0, 0, false, 0, 0, ()) : (Int × Int × Int × Unit) × Int × Int × Bool × Int × Int × Unit) x0.2.2.2.1 (w64 ((x0.2.2.2.1.length : Int) - 1))).1.1) && decide ((rd (((0, 0, 0, ()), 0, 0, false, 0, 0, ()) : (Int × Int × Int × Unit) × Int × Int × Bool × Int × Int × Unit) x0.2.2.2.1 (w64 ((x0.2.2.2.1.length : Int) - 1))).1.1 < ((x0.2.1.1.set (rd (((0, 0, 0, ()), 0, 0, false, 0, 0, ()) : (Int × Int × Int × Unit) × Int × Int × Bool × Int × Int × Unit) x0.2.2.2.1 (w64 ((x0.2.2.2.1.length : Int) - 1))).1.2.1.toNat (rd (((0, 0, 0, ()), 0, 0, false, 0, 0, ()) : (Int × Int × Int × Unit) × Int × Int × Bool × Int × Int × Unit) x0.2.2.2.1 (w64 ((x0.2.2.2.1.length : Int) - 1))).2.2.1).length : Int)) then
                  some (0, (x0.1, ((x0.2.1.1.set (rd (((0, 0, 0, ()), 0, 0, false, 0, 0, ()) : (Int × Int × Int × Unit) × Int × Int × Bool × Int × Int × Unit) x0.2.2.2.1 (w64 ((x0.2.2.2.1.length : Int) - 1))).1.2.1.toNat (rd (((0, 0, 0, ()), 0, 0, false, 0, 0, ()) : (Int × Int × Int × Unit) × Int × Int × Bool × Int × Int × Unit) x0.2.2.2.1 (w64 ((x0.2.2.2.1.length : Int) - 1))).2.2.1).set (rd (((0, 0, 0, ()), 0, 0, false, 0, 0, ()) : (Int × Int × Int × Unit) × Int × Int × Bool × Int × Int × Unit) x0.2.2.2.1 (w64 ((x0.2.2.2.1.length : Int) - 1))).1.1.toNat (rd (((0, 0, 0, ()), 0, 0, false, 0, 0, ()) : (Int × Int × Int × Unit) × Int × Int × Bool × Int × Int × Unit) x0.2.2.2.1 (w64 ((x0.2.2.2.1.length : Int) - 1))).2.1, (x0.2.1.2.1.1.set r1.1.toNat (w64 ((rd (0 : Int) x0.2.1.2.1.1 r1.1) - 1)), x0.2.1.2.1.2), w64 (1 - x0.2.1.2.2.1), (rd (((0, 0, 0, ()), 0, 0, false, 0, 0, ()) : (Int × Int × Int × Unit) × Int × Int × Bool × Int × Int × Unit) x0.2.2.2.1 (w64 ((x0.2.2.2.1.length : Int) - 1))).2.2.2.2.1, ()), (rd (((0, 0, 0, ()), 0, 0, false, 0, 0, ()) : (Int × Int × Int × Unit) × Int × Int × Bool × Int × Int × Unit) x0.2.2.2.1 (w64 ((x0.2.2.2.1.length : Int) - 1))).2.2.2.2.2.1, first (w64 ((x0.2.2.2.1.length : Int) - 1)).toNat x0.2.2.2.1, ()), ())
                else
                  none
              else
                none
            else
              none
          else
          bif decide ((rd (((0, 0, 0, ()), 0, 0, false, 0, 0, ()) : (Int × Int × Int × Unit) × Int × Int × Bool × Int × Int × Unit) x0.2.2.2.1 (w64 ((x0.2.2.2.1.length : Int) - 1))).1.1 < 0) then
            bif decide (0 ≤ (rd (((0, 0, 0, ()), 0, 0, false, 0, 0, ()) : (Int × Int × Int × Unit) × Int × Int × Bool × Int × Int × Unit) x0.2.2.2.1 (w64 ((x0.2.2.2.1.length : Int) - 1))).1.2.2.1) && decide ((rd (((0, 0, 0, ()), 0, 0, false, 0, 0, ()) : (Int × Int × Int × Unit) × Int × Int × Bool × Int × Int × Unit) x0.2.2.2.1 (w64 ((x0.2.2.2.1.length : Int) - 1))).1.2.2.1 < (x0.2.1.2.1.1.length : Int)) then
              bif decide (0 ≤ (rd (((0, 0, 0, ()), 0, 0, false, 0, 0, ()) : (Int × Int × Int × Unit) × Int × Int × Bool × Int × Int × Unit) x0.2.2.2.1 (w64 ((x0.2.2.2.1.length : Int) - 1))).1.2.2.1) && decide ((rd (((0, 0, 0, ()), 0, 0, false, 0, 0, ()) : (Int × Int × Int × Unit) × Int × Int × Bool × Int × Int × Unit) x0.2.2.2.1 (w64 ((x0.2.2.2.1.length : Int) - 1))).1.2.2.1 < (x0.2.1.2.1.1.length : Int)) then
                some (0, (x0.1, (x0.2.1.1.set (rd (((0, 0, 0, ()), 0, 0, false, 0, 0, ()) : (Int × Int × Int × Unit) × Int × Int × Bool × Int × Int × Unit) x0.2.2.2.1 (w64 ((x0.2.2.2.1.length : Int) - 1))).1.2.1.toNat (rd (((0, 0, 0, ()), 0, 0, false, 0, 0, ()) : (Int × Int × Int × Unit) × Int × Int × Bool × Int × Int × Unit) x0.2.2.2.1 (w64 ((x0.2.2.2.1.length : Int) - 1))).2.2.1, (x0.2.1.2.1.1.set (rd (((0, 0, 0, ()), 0, 0, false, 0, 0, ()) : (Int × Int × Int × Unit) × Int × Int × Bool × Int × Int × Unit) x0.2.2.2.1 (w64 ((x0.2.2.2.1.length : Int) - 1))).1.2.2.1.toNat (w64 ((rd (0 : Int) x0.2.1.2.1.1 (rd (((0, 0, 0, ()), 0, 0, false, 0, 0, ()) : (Int × Int × Int × Unit) × Int × Int × Bool × Int × Int × Unit) x0.2.2.2.1 (w64 ((x0.2.2.2.1.length : Int) - 1))).1.2.2.1) + 1)), x0.2.1.2.1.2), w64 (1 - x0.2.1.2.2.1), (rd (((0, 0, 0, ()), 0, 0, false, 0, 0, ()) : (Int × Int × Int × Unit) × Int × Int × Bool × Int × Int × Unit) x0.2.2.2.1 (w64 ((x0.2.2.2.1.length : Int) - 1))).2.2.2.2.1, ()), (rd (((0, 0, 0, ()), 0, 0, false, 0, 0, ()) : (Int × Int × Int × Unit) × Int × Int × Bool × Int × Int × Unit) x0.2.2.2.1 (w64 ((x0.2.2.2.1.length : Int) - 1))).2.2.2.2.2.1, first (w64 ((x0.2.2.2.1.length : Int) - 1)).toNat x0.2.2.2.1, ()), ())
              else
                none
            else
              none
          else
          bif decide (0 ≤ (rd (((0, 0, 0, ()), 0, 0, false, 0, 0, ()) : (Int × Int × Int × Unit) × Int × Int × Bool × Int × Int × Unit) x0.2.2.2.1 (w64 ((x0.2.2.2.1.length : Int) - 1))).1.1) && decide ((rd (((0, 0, 0, ()), 0, 0, false, 0, 0, ()) : (Int × Int × Int × Unit) × Int × Int × Bool × Int × Int × Unit) x0.2.2.2.1 (w64 ((x0.2.2.2.1.length : Int) - 1))).1.1 < ((x0.2.1.1.set (rd (((0, 0, 0, ()), 0, 0, false, 0, 0, ()) : (Int × Int × Int × Unit) × Int × Int × Bool × Int × Int × Unit) x0.2.2.2.1 (w64 ((x0.2.2.2.1.length : Int) - 1))).1.2.1.toNat (rd (((0, 0, 0, ()), 0, 0, false, 0, 0, ()) : (Int × Int × Int × Unit) × Int × Int × Bool × Int × Int × Unit) x0.2.2.2.1 (w64 ((x0.2.2.2.1.length : Int) - 1))).2.2.1).length : Int)) then
            some (0, (x0.1, ((x0.2.1.1.set (rd (((0, 0, 0, ()), 0, 0, false, 0, 0, ()) : (Int × Int × Int × Unit) × Int × Int × Bool × Int × Int × Unit) x0.2.2.2.1 (w64 ((x0.2.2.2.1.length : Int) - 1))).1.2.1.toNat (rd (((0, 0, 0, ()), 0, 0, false, 0, 0, ()) : (Int × Int × Int × Unit) × Int × Int × Bool × Int × Int × Unit) x0.2.2.2.1 (w64 ((x0.2.2.2.1.length : Int) - 1))).2.2.1).set (rd (((0, 0, 0, ()), 0, 0, false, 0, 0, ()) : (Int × Int × Int × Unit) × Int × Int × Bool × Int × Int × Unit) x0.2.2.2.1 (w64 ((x0.2.2.2.1.length : Int) - 1))).1.1.toNat (rd (((0, 0, 0, ()), 0, 0, false, 0, 0, ()) : (Int × Int × Int × Unit) × Int × Int × Bool × Int × Int × Unit) x0.2.2.2.1 (w64 ((x0.2.2.2.1.length : Int) - 1))).2.1, x0.2.1.2.1, w64 (1 - x0.2.1.2.2.1), (rd (((0, 0, 0, ()), 0, 0, false, 0, 0, ()) : (Int × Int × Int × Unit) × Int × Int × Bool × Int × Int × Unit) x0.2.2.2.1 (w64 ((x0.2.2.2.1.length : Int) - 1))).2.2.2.2.1, ()), (rd (((0, 0, 0, ()), 0, 0, false, 0, 0, ()) : (Int × Int × Int × Unit) × Int × Int × Bool × Int × Int × Unit) x0.2.2.2.1 (w64 ((x0.2.2.2.1.length : Int) - 1))).2.2.2.2.2.1, first (w64 ((x0.2.2.2.1.length : Int) - 1)).toNat x0.2.2.2.1, ()), ())
          else
            none
        else
          none
      else
      bif (w64 (1 - x0.2.1.2.2.1)) == 1 then
        bif decide (0 ≤ (rd (((0, 0, 0, ()), 0, 0, false, 0, 0, ()) : (Int × Int × Int × Unit) × Int × Int × Bool × Int × Int × Unit) x0.2.2.2.1 (w64 ((x0.2.2.2.1.length : Int) - 1))).1.2.1) && decide ((rd (((0, 0, 0, ()), 0, 0, false, 0, 0, ()) : (Int × Int × Int × Unit) × Int × Int × Bool × Int × Int × Unit) x0.2.2.2.1 (w64 ((x0.2.2.2.1.length : Int) - 1))).1.2.1 < (x0.2.1.1.length : Int)) then
          bif (rd (((0, 0, 0, ()), 0, 0, false, 0, 0, ()) : (Int × Int × Int × Unit) × Int × Int × Bool × Int × Int × Unit) x0.2.2.2.1 (w64 ((x0.2.2.2.1.length : Int) - 1))).2.2.2.1 then
            (f65 k (rd (((0, 0, 0, ()), 0, 0, false, 0, 0, ()) : (Int × Int × Int × Unit) × Int × Int × Bool × Int × Int × Unit) x0.2.2.2.1 (w64 ((x0.2.2.2.1.length : Int) - 1))).2.2.1).bind fun r2 =>
            bif decide (0 ≤ r2.1) && decide (r2.1 < (x0.2.1.2.1.2.1.length : Int)) then
              bif decide (0 ≤ r2.1) && decide (r2.1 < (x0.2.1.2.1.2.1.length : Int)) then
                bif decide ((rd (((0, 0, 0, ()), 0, 0, false, 0, 0, ()) : (Int × Int × Int × Unit) × Int × Int × Bool × Int × Int × Unit) x0.2.2.2.1 (w64 ((x0.2.2.2.1.length : Int) - 1))).1.1 < 0) then
                  bif decide (0 ≤ (rd (((0, 0, 0, ()), 0, 0, false, 0, 0, ()) : (Int × Int × Int × Unit) × Int × Int × Bool × Int × Int × Unit) x0.2.2.2.1 (w64 ((x0.2.2.2.1.length : Int) - 1))).1.2.2.1) && decide ((rd (((0, 0, 0, ()), 0, 0, false, 0, 0, ()) : (Int × Int × Int × Unit) × Int × Int × Bool × Int × Int × Unit) x0.2.2.2.1 (w64 ((x0.2.2.2.1.length : Int) - 1))).1.2.2.1 < ((x0.2.1.2.1.2.1.set r2.1.toNat (w64 ((rd (0 : Int) x0.2.1.2.1.2.1 r2.1) - 1))).length : Int)) then
                    bif decide (0 ≤ (rd (((0, 0, 0, ()), 0, 0, false, 0, 0, ()) : (Int × Int × Int × Unit) × Int × Int × Bool × Int × Int × Unit) x0.2.2.2.1 (w64 ((x0.2.2.2.1.length : Int) - 1))).1.2.2.1) && decide ((rd (((0, 0, 0, ()), 0, 0, false, 0, 0, ()) : (Int × Int × Int × Unit) × Int × Int × Bool × Int × Int × Unit) x0.2.2.2.1 (w64 ((x0.2.2.2.1.length : Int) - 1))).1.2.2.1 < ((x0.2.1.2.1.2.1.set r2.1.toNat (w64 ((rd (0 : Int) x0.2.1.2.1.2.1 r2.1) - 1))).length : Int)) then
                      some (0, (x0.1, (x0.2.1.1.set (rd (((0, 0, 0, ()), 0, 0, false, 0, 0, ()) : (Int × Int × Int × Unit) × Int × Int × Bool × Int × Int × Unit) x0.2.2.2.1 (w64 ((x0.2.2.2.1.length : Int) - 1))).1.2.1.toNat (rd (((0, 0, 0, ()), 0, 0, false, 0, 0, ()) : (Int × Int × Int × Unit) × Int × Int × Bool × Int × Int × Unit) x0.2.2.2.1 (w64 ((x0.2.2.2.1.length : Int) - 1))).2.2.1, (x0.2.1.2.1.1, (x0.2.1.2.1.2.1.set r2.1.toNat (w64 ((rd (0 : Int) x0.2.1.2.1.2.1 r2.1) - 1))).set (rd (((0, 0, 0, ()), 0, 0, false, 0, 0, ()) : (Int × Int × Int × Unit) × Int × Int × Bool × Int × Int × Unit) x0.2.2.2.1 (w64 ((x0.2.2.2.1.length : Int) - 1))).1.2.2.1.toNat (w64 ((rd (0 : Int) (x0.2.1.2.1.2.1.set r2.1.toNat (w64 ((rd (0 : Int) x0.2.1.2.1.2.1 r2.1) - 1))) (rd (((0, 0, 0, ()), 0, 0, false, 0, 0, ()) : (Int × Int × Int × Unit) × Int × Int × Bool × Int × Int × Unit) x0.2.2.2.1 (w64 ((x0.2.2.2.1.length : Int) - 1))).1.2.2.1) + 1)), ()), w64 (1 - x0.2.1.2.2.1), (rd (((0, 0, 0, ()), 0, 0, false, 0, 0, ()) : (Int × Int × Int × Unit) × Int × Int × Bool × Int × Int × Unit) x0.2.2.2.1 (w64 ((x0.2.2.2.1.length : Int) - 1))).2.2.2.2.1, ()), (rd (((0, 0, 0, ()), 0, 0, false, 0, 0, ()) : (Int × Int × Int × Unit) × Int × Int × Bool × Int × Int × Unit) x0.2.2.2.1 (w64 ((x0.2.2.2.1.length : Int) - 1))).2.2.2.2.2.1, first (w64 ((x0.2.2.2.1.length : Int) - 1)).toNat x0.2.2.2.1, ()), ())
                    else
                      none
                  else
                    none
                else
                bif decide (0 ≤ (rd (((0, 0, 0, ()), 0, 0, false, 0, 0, ()) : (Int × Int × Int × Unit) × Int × Int × Bool × Int × Int × Unit) x0.2.2.2.1 (w64 ((x0.2.2.2.1.length : Int) - 1))).1.1) && decide ((rd (((0, 0, 0, ()), 0, 0, false, 0, 0, ()) : (Int × Int × Int × Unit) × Int × Int × Bool × Int × Int × Unit) x0.2.2.2.1 (w64 ((x0.2.2.2.1.length : Int) - 1))).1.1 < ((x0.2.1.1.set (rd (((0, 0, 0, ()), 0, 0, false, 0, 0, ()) : (Int × Int × Int × Unit) × Int × Int × Bool × Int × Int × Unit) x0.2.2.2.1 (w64 ((x0.2.2.2.1.length : Int) - 1))).1.2.1.toNat (rd (((0, 0, 0, ()), 0, 0, false, 0, 0, ()) : (Int × Int × Int × Unit) × Int × Int × Bool × Int × Int × Unit) x0.2.2.2.1 (w64 ((x0.2.2.2.1.length : Int) - 1))).2.2.1).length : Int)) then
                  some (0, (x0.1, ((x0.2.1.1.set (rd (((0, 0, 0, ()), 0, 0, false, 0, 0, ()) : (Int × Int × Int × Unit) × Int × Int × Bool × Int × Int × Unit) x0.2.2.2.1 (w64 ((x0.2.2.2.1.length : Int) - 1))).1.2.1.toNat (rd (((0, 0, 0, ()), 0, 0, false, 0, 0, ()) : (Int × Int × Int × Unit) × Int × Int × Bool × Int × Int × Unit) x0.2.2.2.1 (w64 ((x0.2.2.2.1.length : Int) - 1))).2.2.1).set (rd (((0, 0, 0, ()), 0, 0, false, 0, 0, ()) : (Int × Int × Int × Unit) × Int × Int × Bool × Int × Int × Unit) x0.2.2.2.1 (w64 ((x0.2.2.2.1.length : Int) - 1))).1.1.toNat (rd (((0, 0, 0, ()), 0, 0, false, 0, 0, ()) : (Int × Int × Int × Unit) × Int × Int × Bool × Int × Int × Unit) x0.2.2.2.1 (w64 ((x0.2.2.2.1.length : Int) - 1))).2.1, (x0.2.1.2.1.1, x0.2.1.2.1.2.1.set r2.1.toNat (w64 ((rd (0 : Int) x0.2.1.2.1.2.1 r2.1) - 1)), ()), w64 (1 - x0.2.1.2.2.1), (rd (((0, 0, 0, ()), 0, 0, false, 0, 0, ()) : (Int × Int × Int × Unit) × Int × Int × Bool × Int × Int × Unit) x0.2.2.2.1 (w64 ((x0.2.2.2.1.length : Int) - 1))).2.2.2.2.1, ()), (rd (((0, 0, 0, ()), 0, 0, false, 0, 0, ()) : (Int × Int × Int × Unit) × Int × Int × Bool × Int × Int × Unit) x0.2.2.2.1 (w64 ((x0.2.2.2.1.length : Int) - 1))).2.2.2.2.2.1, first (w64 ((x0.2.2.2.1.length : Int) - 1)).toNat x0.2.2.2.1, ()), ())
                else
                  none
              else
                none
            else
              none
          else
          bif decide ((rd (((0, 0, 0, ()), 0, 0, false, 0, 0, ()) : (Int × Int × Int × Unit) × Int × Int × Bool × Int × Int × Unit) x0.2.2.2.1 (w64 ((x0.2.2.2.1.length : Int) - 1))).1.1 < 0) then
            bif decide (0 ≤ (rd (((0, 0, 0, ()), 0, 0, false, 0, 0, ()) : (Int × Int × Int × Unit) × Int × Int × Bool × Int × Int × Unit) x0.2.2.2.1 (w64 ((x0.2.2.2.1.length : Int) - 1))).1.2.2.1) && decide ((rd (((0, 0, 0, ()), 0, 0, false, 0, 0, ()) : (Int × Int × Int × Unit) × Int × Int × Bool × Int × Int × Unit) x0.2.2.2.1 (w64 ((x0.2.2.2.1.length : Int) - 1))).1.2.2.1 < (x0.2.1.2.1.2.1.length : Int)) then
              bif decide (0 ≤ (rd (((0, 0, 0, ()), 0, 0, false, 0, 0, ()) : (Int × Int × Int × Unit) × Int × Int × Bool × Int × Int × Unit) x0.2.2.2.1 (w64 ((x0.2.2.2.1.length : Int) - 1))).1.2.2.1) && decide ((rd (((0, 0, 0, ()), 0, 0, false, 0, 0, ()) : (Int × Int × Int × Unit) × Int × Int × Bool × Int × Int × Unit) x0.2.2.2.1 (w64 ((x0.2.2.2.1.length : Int) - 1))).1.2.2.1 < (x0.2.1.2.1.2.1.length : Int)) then
                some (0, (x0.1, (x0.2.1.1.set (rd (((0, 0, 0, ()), 0, 0, false, 0, 0, ()) : (Int × Int × Int × Unit) × Int × Int × Bool × Int × Int × Unit) x0.2.2.2.1 (w64 ((x0.2.2.2.1.length : Int) - 1))).1.2.1.toNat (rd (((0, 0, 0, ()), 0, 0, false, 0, 0, ()) : (Int × Int × Int × Unit) × Int × Int × Bool × Int × Int × Unit) x0.2.2.2.1 (w64 ((x0.2.2.2.1.length : Int) - 1))).2.2.1, (x0.2.1.2.1.1, x0.2.1.2.1.2.1.set (rd (((0, 0, 0, ()), 0, 0, false, 0, 0, ()) : (Int × Int × Int × Unit) × Int × Int × Bool × Int × Int × Unit) x0.2.2.2.1 (w64 ((x0.2.2.2.1.length : Int) - 1))).1.2.2.1.toNat (w64 ((rd (0 : Int) x0.2.1.2.1.2.1 (rd (((0, 0, 0, ()), 0, 0, false, 0, 0, ()) : (Int × Int × Int × Unit) × Int × Int × Bool × Int × Int × Unit) x0.2.2.2.1 (w64 ((x0.2.2.2.1.length : Int) - 1))).1.2.2.1) + 1)), ()), w64 (1 - x0.2.1.2.2.1), (rd (((0, 0, 0, ()), 0, 0, false, 0, 0, ()) : (Int × Int × Int × Unit) × Int × Int × Bool × Int × Int × Unit) x0.2.2.2.1 (w64 ((x0.2.2.2.1.length : Int) - 1))).2.2.2.2.1, ()), (rd (((0, 0, 0, ()), 0, 0, false, 0, 0, ()) : (Int × Int × Int × Unit) × Int × Int × Bool × Int × Int × Unit) x0.2.2.2.1 (w64 ((x0.2.2.2.1.length : Int) - 1))).2.2.2.2.2.1, first (w64 ((x0.2.2.2.1.length : Int) - 1)).toNat x0.2.2.2.1, ()), ())
              else
                none
            else
              none
          else
          bif decide (0 ≤ (rd (((0, 0, 0, ()), 0, 0, false, 0, 0, ()) : (Int × Int × Int × Unit) × Int × Int × Bool × Int × Int × Unit) x0.2.2.2.1 (w64 ((x0.2.2.2.1.length : Int) - 1))).1.1) && decide ((rd (((0, 0, 0, ()), 0, 0, false, 0, 0, ()) : (Int × Int × Int × Unit) × Int × Int × Bool × Int × Int × Unit) x0.2.2.2.1 (w64 ((x0.2.2.2.1.length : Int) - 1))).1.1 < ((x0.2.1.1.set (rd (((0, 0, 0, ()), 0, 0, false, 0, 0, ()) : (Int × Int × Int × Unit) × Int × Int × Bool × Int × Int × Unit) x0.2.2.2.1 (w64 ((x0.2.2.2.1.length : Int) - 1))).1.2.1.toNat (rd (((0, 0, 0, ()), 0, 0, false, 0, 0, ()) : (Int × Int × Int × Unit) × Int × Int × Bool × Int × Int × Unit) x0.2.2.2.1 (w64 ((x0.2.2.2.1.length : Int) - 1))).2.2.1).length : Int)) then
            some (0, (x0.1, ((x0.2.1.1.set (rd (((0, 0, 0, ()), 0, 0, false, 0, 0, ()) : (Int × Int × Int × Unit) × Int × Int × Bool × Int × Int × Unit) x0.2.2.2.1 (w64 ((x0.2.2.2.1.length : Int) - 1))).1.2.1.toNat (rd (((0, 0, 0, ()), 0, 0, false, 0, 0, ()) : (Int × Int × Int × Unit) × Int × Int × Bool × Int × Int × Unit) x0.2.2.2.1 (w64 ((x0.2.2.2.1.length : Int) - 1))).2.2.1).set (rd (((0, 0, 0, ()), 0, 0, false, 0, 0, ()) : (Int × Int × Int × Unit) × Int × Int × Bool × Int × Int × Unit) x0.2.2.2.1 (w64 ((x0.2.2.2.1.length : Int) - 1))).1.1.toNat (rd (((0, 0, 0, ()), 0, 0, false, 0, 0, ()) : (Int × Int × Int × Unit) × Int × Int × Bool × Int × Int × Unit) x0.2.2.2.1 (w64 ((x0.2.2.2.1.length : Int) - 1))).2.1, x0.2.1.2.1, w64 (1 - x0.2.1.2.2.1), (rd (((0, 0, 0, ()), 0, 0, false, 0, 0, ()) : (Int × Int × Int × Unit) × Int × Int × Bool × Int × Int × Unit) x0.2.2.2.1 (w64 ((x0.2.2.2.1.length : Int) - 1))).2.2.2.2.1, ()), (rd (((0, 0, 0, ()), 0, 0, false, 0, 0, ()) : (Int × Int × Int × Unit) × Int × Int × Bool × Int × Int × Unit) x0.2.2.2.1 (w64 ((x0.2.2.2.1.length : Int) - 1))).2.2.2.2.2.1, first (w64 ((x0.2.2.2.1.length : Int) - 1)).toNat x0.2.2.2.1, ()), ())
          else
            none
        else
          none
      else
        none
    else
      none
  else
    none
noncomputable def f55_sig (k : Nat) : Sig := ⟨[.box (.cons (.val (.pair (.str) (.pair (.int .i64) (.pair (.int .i64) (.pair (.sl (.pair (.int .u8) (.pair (.int .i64) (.pair (.int .i64) (.pair (.sl (.pair (.int .i64) (.pair (.int .i64) (.pair (.int .i64) (.pair (.int .i64) (.unit)))))) (.unit)))))) (.pair (.sl (.int .i64)) (.pair (.bool) (.pair (.bool) (.pair (.sl (.pair (.int .i64) (.pair (.int .i64) (.pair (.int .i64) (.pair (.bool) (.unit)))))) (.pair (.int .i64) (.pair (.int .i64) (.pair (.int .i64) (.unit))))))))))))) (.cons (.cons (.row (.int .i64)) (.cons (.cons (.row (.int .i64)) (.cons (.row (.int .i64)) (.nil))) (.cons (.val (.int .i64)) (.cons (.val (.int .i64)) (.nil))))) (.cons (.val (.int .u64)) (.cons (.row (.pair (.pair (.int .i64) (.pair (.int .i64) (.pair (.int .i64) (.unit)))) (.pair (.int .i64) (.pair (.int .i64) (.pair (.bool) (.pair (.int .i64) (.pair (.int .u64) (.unit)))))))) (.nil)))))], [0], [[.val (.int .i64), .box (.cons (.val (.pair (.str) (.pair (.int .i64) (.pair (.int .i64) (.pair (.sl (.pair (.int .u8) (.pair (.int .i64) (.pair (.int .i64) (.pair (.sl (.pair (.int .i64) (.pair (.int .i64) (.pair (.int .i64) (.pair (.int .i64) (.unit)))))) (.unit)))))) (.pair (.sl (.int .i64)) (.pair (.bool) (.pair (.bool) (.pair (.sl (.pair (.int .i64) (.pair (.int .i64) (.pair (.int .i64) (.pair (.bool) (.unit)))))) (.pair (.int .i64) (.pair (.int .i64) (.pair (.int .i64) (.unit))))))))))))) (.cons (.cons (.row (.int .i64)) (.cons (.cons (.row (.int .i64)) (.cons (.row (.int .i64)) (.nil))) (.cons (.val (.int .i64)) (.cons (.val (.int .i64)) (.nil))))) (.cons (.val (.int .u64)) (.cons (.row (.pair (.pair (.int .i64) (.pair (.int .i64) (.pair (.int .i64) (.unit)))) (.pair (.int .i64) (.pair (.int .i64) (.pair (.bool) (.pair (.int .i64) (.pair (.int .u64) (.unit)))))))) (.nil)))))]], fun x => f55 k x.1⟩
noncomputable def E_f55 (k : Nat) : Env := ⟨Try.prog, G0, scons 65 [f65_sig k] (snil), tnil, tnil, unil, k, qnil⟩
theorem f55_run (k : Nat) (x : (lTy (lay 0 (f55_sig k).ins)).den) : runF (E_f55 k) Try.f55 (f55_sig k) x = (f55_sig k).F x := by kernel_rfl
theorem f55_ok [Dr] (k : Nat) : FnOK Try.prog G0 55 (f55_sig k) :=
  fn_ok2 (E := E_f55 k) (env_cons (one_sig (f65_ok k)) (env_nil)) (qenv_nil) mixed Try.func55 Try.call55 (by kernel_rfl) (by kernel_rfl) (m := 0) (by kernel_rfl) trivial (sk := []) (by kernel_rfl) trivial (f55_run k)

/-! ### (*gamehall/perft.counter).count: function 57 -/
noncomputable def l57_6 (k : Nat) (rec : (Int × Unit) → ((ByteArray × Int × Int × (List (Int × Int × Int × (List (Int × Int × Int × Int × Unit)) × Unit)) × (List Int) × Bool × Bool × (List (Int × Int × Int × Bool × Unit)) × Int × Int × Int × Unit) × ((List Int) × ((List Int) × (List Int) × Unit) × Int × Int × Unit) × Int × (List ((Int × Int × Int × Unit) × Int × Int × Bool × Int × Int × Unit)) × Unit) → Int → Option ((Int × (Int × Unit) × ((ByteArray × Int × Int × (List (Int × Int × Int × (List (Int × Int × Int × Int × Unit)) × Unit)) × (List Int) × Bool × Bool × (List (Int × Int × Int × Bool × Unit)) × Int × Int × Int × Unit) × ((List Int) × ((List Int) × (List Int) × Unit) × Int × Int × Unit) × Int × (List ((Int × Int × Int × Unit) × Int × Int × Bool × Int × Int × Unit)) × Unit) × Unit))) : Nat → (Int × Unit) → ((ByteArray × Int × Int × (List (Int × Int × Int × (List (Int × Int × Int × Int × Unit)) × Unit)) × (List Int) × Bool × Bool × (List (Int × Int × Int × Bool × Unit)) × Int × Int × Int × Unit) × ((List Int) × ((List Int) × (List Int) × Unit) × Int × Int × Unit) × Int × (List ((Int × Int × Int × Unit) × Int × Int × Bool × Int × Int × Unit)) × Unit) → Int → Int → (List (Int × Int × Int × Unit)) → Int → Int → Option (((Int × Unit) × ((ByteArray × Int × Int × (List (Int × Int × Int × (List (Int × Int × Int × Int × Unit)) × Unit)) × (List Int) × Bool × Bool × (List (Int × Int × Int × Bool × Unit)) × Int × Int × Int × Unit) × ((List Int) × ((List Int) × (List Int) × Unit) × Int × Int × Unit) × Int × (List ((Int × Int × Int × Unit) × Int × Int × Bool × Int × Int × Unit)) × Unit) × Int × Unit) ⊕ ((Int × Unit) × ((ByteArray × Int × Int × (List (Int × Int × Int × (List (Int × Int × Int × Int × Unit)) × Unit)) × (List Int) × Bool × Bool × (List (Int × Int × Int × Bool × Unit)) × Int × Int × Int × Unit) × ((List Int) × ((List Int) × (List Int) × Unit) × Int × Int × Unit) × Int × (List ((Int × Int × Int × Unit) × Int × Int × Bool × Int × Int × Unit)) × Unit) × Int × Unit))
  | 0, _, _, _, _, _, _, _ => none
  | j + 1, s0, s1, s2, s7, s27, s28, s29 =>
    bif decide (s29 < s28) then
      bif decide (0 ≤ s29) && decide (s29 < (s27.length : Int)) then
        (f53 k s1 (rd ((0, 0, 0, ()) : Int × Int × Int × Unit) s27 s29)).bind fun r1 =>
        (rec s0 r1.1 (w64 (s2 - 1))).bind fun r2 =>
        (f55 k r2.2.2.1).bind fun r3 =>
        bif decide (r2.2.1.1 < 0) then
          some (.inr (r2.2.1, r3.2.1, 0, ()))
        else
          l57_6 k rec j r2.2.1 r3.2.1 s2 (w64 (s7 + r2.1)) s27 s28 (w64 (s29 + 1))
      else
        none
    else
      some (.inl (s0, s1, s7, ()))
noncomputable def f57_body (k : Nat) (rec : (Int × Unit) → ((ByteArray × Int × Int × (List (Int × Int × Int × (List (Int × Int × Int × Int × Unit)) × Unit)) × (List Int) × Bool × Bool × (List (Int × Int × Int × Bool × Unit)) × Int × Int × Int × Unit) × ((List Int) × ((List Int) × (List Int) × Unit) × Int × Int × Unit) × Int × (List ((Int × Int × Int × Unit) × Int × Int × Bool × Int × Int × Unit)) × Unit) → Int → Option ((Int × (Int × Unit) × ((ByteArray × Int × Int × (List (Int × Int × Int × (List (Int × Int × Int × Int × Unit)) × Unit)) × (List Int) × Bool × Bool × (List (Int × Int × Int × Bool × Unit)) × Int × Int × Int × Unit) × ((List Int) × ((List Int) × (List Int) × Unit) × Int × Int × Unit) × Int × (List ((Int × Int × Int × Unit) × Int × Int × Bool × Int × Int × Unit)) × Unit) × Unit))) (x0 : Int × Unit) (x1 : (ByteArray × Int × Int × (List (Int × Int × Int × (List (Int × Int × Int × Int × Unit)) × Unit)) × (List Int) × Bool × Bool × (List (Int × Int × Int × Bool × Unit)) × Int × Int × Int × Unit) × ((List Int) × ((List Int) × (List Int) × Unit) × Int × Int × Unit) × Int × (List ((Int × Int × Int × Unit) × Int × Int × Bool × Int × Int × Unit)) × Unit) (x2 : Int) : Option ((Int × (Int × Unit) × ((ByteArray × Int × Int × (List (Int × Int × Int × (List (Int × Int × Int × Int × Unit)) × Unit)) × (List Int) × Bool × Bool × (List (Int × Int × Int × Bool × Unit)) × Int × Int × Int × Unit) × ((List Int) × ((List Int) × (List Int) × Unit) × Int × Int × Unit) × Int × (List ((Int × Int × Int × Unit) × Int × Int × Bool × Int × Int × Unit)) × Unit) × Unit)) :=
  bif decide ((w64 (x0.1 - 1)) < 0) then
    some (1, (w64 (x0.1 - 1), ()), x1, ())
  else
  bif x2 == 0 then
    some (1, (w64 (x0.1 - 1), ()), x1, ())
  else
    (f52 k x1).bind fun r1 =>
    (l57_6 k rec k (w64 (x0.1 - 1), ()) r1.2.1 x2 0 r1.1 (r1.1.length : Int) 0).bind fun w22 =>
    Sum.elim
      (fun y2 =>
        some (y2.2.2.1, y2.1, y2.2.1, ()))
      (fun y3 =>
        some (y3.2.2.1, y3.1, y3.2.1, ()))
      w22
noncomputable def f57_at (k : Nat) : Nat → (Int × Unit) → ((ByteArray × Int × Int × (List (Int × Int × Int × (List (Int × Int × Int × Int × Unit)) × Unit)) × (List Int) × Bool × Bool × (List (Int × Int × Int × Bool × Unit)) × Int × Int × Int × Unit) × ((List Int) × ((List Int) × (List Int) × Unit) × Int × Int × Unit) × Int × (List ((Int × Int × Int × Unit) × Int × Int × Bool × Int × Int × Unit)) × Unit) → Int → Option ((Int × (Int × Unit) × ((ByteArray × Int × Int × (List (Int × Int × Int × (List (Int × Int × Int × Int × Unit)) × Unit)) × (List Int) × Bool × Bool × (List (Int × Int × Int × Bool × Unit)) × Int × Int × Int × Unit) × ((List Int) × ((List Int) × (List Int) × Unit) × Int × Int × Unit) × Int × (List ((Int × Int × Int × Unit) × Int × Int × Bool × Int × Int × Unit)) × Unit) × Unit))
  | 0, _, _, _ => none
  | d + 1, x0, x1, x2 => f57_body k (f57_at k d) x0 x1 x2
noncomputable def f57 (k : Nat) (x0 : Int × Unit) (x1 : (ByteArray × Int × Int × (List (Int × Int × Int × (List (Int × Int × Int × Int × Unit)) × Unit)) × (List Int) × Bool × Bool × (List (Int × Int × Int × Bool × Unit)) × Int × Int × Int × Unit) × ((List Int) × ((List Int) × (List Int) × Unit) × Int × Int × Unit) × Int × (List ((Int × Int × Int × Unit) × Int × Int × Bool × Int × Int × Unit)) × Unit) (x2 : Int) : Option ((Int × (Int × Unit) × ((ByteArray × Int × Int × (List (Int × Int × Int × (List (Int × Int × Int × Int × Unit)) × Unit)) × (List Int) × Bool × Bool × (List (Int × Int × Int × Bool × Unit)) × Int × Int × Int × Unit) × ((List Int) × ((List Int) × (List Int) × Unit) × Int × Int × Unit) × Int × (List ((Int × Int × Int × Unit) × Int × Int × Bool × Int × Int × Unit)) × Unit) × Unit)) := f57_at k k x0 x1 x2
noncomputable def l57_6_sig (k d : Nat) : LoopSig := ⟨[(0, .obj (.box (.val (.pair (.int .i64) (.unit))))), (1, .obj (.box (.cons (.val (.pair (.str) (.pair (.int .i64) (.pair (.int .i64) (.pair (.sl (.pair (.int .u8) (.pair (.int .i64) (.pair (.int .i64) (.pair (.sl (.pair (.int .i64) (.pair (.int .i64) (.pair (.int .i64) (.pair (.int .i64) (.unit)))))) (.unit)))))) (.pair (.sl (.int .i64)) (.pair (.bool) (.pair (.bool) (.pair (.sl (.pair (.int .i64) (.pair (.int .i64) (.pair (.int .i64) (.pair (.bool) (.unit)))))) (.pair (.int .i64) (.pair (.int .i64) (.pair (.int .i64) (.unit))))))))))))) (.cons (.cons (.row (.int .i64)) (.cons (.cons (.row (.int .i64)) (.cons (.row (.int .i64)) (.nil))) (.cons (.val (.int .i64)) (.cons (.val (.int .i64)) (.nil))))) (.cons (.val (.int .u64)) (.cons (.row (.pair (.pair (.int .i64) (.pair (.int .i64) (.pair (.int .i64) (.unit)))) (.pair (.int .i64) (.pair (.int .i64) (.pair (.bool) (.pair (.int .i64) (.pair (.int .u64) (.unit)))))))) (.nil))))))), (2, .obj (.val (.int .i64))), (7, .obj (.val (.int .i64))), (27, .obj (.row (.pair (.int .i64) (.pair (.int .i64) (.pair (.int .i64) (.unit)))))), (28, .obj (.val (.int .i64))), (29, .obj (.val (.int .i64)))], [(.exit 0, [(0, .obj (.box (.val (.pair (.int .i64) (.unit))))), (1, .obj (.box (.cons (.val (.pair (.str) (.pair (.int .i64) (.pair (.int .i64) (.pair (.sl (.pair (.int .u8) (.pair (.int .i64) (.pair (.int .i64) (.pair (.sl (.pair (.int .i64) (.pair (.int .i64) (.pair (.int .i64) (.pair (.int .i64) (.unit)))))) (.unit)))))) (.pair (.sl (.int .i64)) (.pair (.bool) (.pair (.bool) (.pair (.sl (.pair (.int .i64) (.pair (.int .i64) (.pair (.int .i64) (.pair (.bool) (.unit)))))) (.pair (.int .i64) (.pair (.int .i64) (.pair (.int .i64) (.unit))))))))))))) (.cons (.cons (.row (.int .i64)) (.cons (.cons (.row (.int .i64)) (.cons (.row (.int .i64)) (.nil))) (.cons (.val (.int .i64)) (.cons (.val (.int .i64)) (.nil))))) (.cons (.val (.int .u64)) (.cons (.row (.pair (.pair (.int .i64) (.pair (.int .i64) (.pair (.int .i64) (.unit)))) (.pair (.int .i64) (.pair (.int .i64) (.pair (.bool) (.pair (.int .i64) (.pair (.int .u64) (.unit)))))))) (.nil))))))), (7, .obj (.val (.int .i64)))]), (.ret, [(0, .obj (.box (.val (.pair (.int .i64) (.unit))))), (1, .obj (.box (.cons (.val (.pair (.str) (.pair (.int .i64) (.pair (.int .i64) (.pair (.sl (.pair (.int .u8) (.pair (.int .i64) (.pair (.int .i64) (.pair (.sl (.pair (.int .i64) (.pair (.int .i64) (.pair (.int .i64) (.pair (.int .i64) (.unit)))))) (.unit)))))) (.pair (.sl (.int .i64)) (.pair (.bool) (.pair (.bool) (.pair (.sl (.pair (.int .i64) (.pair (.int .i64) (.pair (.int .i64) (.pair (.bool) (.unit)))))) (.pair (.int .i64) (.pair (.int .i64) (.pair (.int .i64) (.unit))))))))))))) (.cons (.cons (.row (.int .i64)) (.cons (.cons (.row (.int .i64)) (.cons (.row (.int .i64)) (.nil))) (.cons (.val (.int .i64)) (.cons (.val (.int .i64)) (.nil))))) (.cons (.val (.int .u64)) (.cons (.row (.pair (.pair (.int .i64) (.pair (.int .i64) (.pair (.int .i64) (.unit)))) (.pair (.int .i64) (.pair (.int .i64) (.pair (.bool) (.pair (.int .i64) (.pair (.int .u64) (.unit)))))))) (.nil))))))), (6, .obj (.val (.int .i64)))])], fun j x => l57_6 k (f57_at k d) j x.1 x.2.1 x.2.2.1 x.2.2.2.1 x.2.2.2.2.1 x.2.2.2.2.2.1 x.2.2.2.2.2.2.1⟩
noncomputable def f57_sig_at (k d : Nat) : Sig := ⟨[.box (.val (.pair (.int .i64) (.unit))), .box (.cons (.val (.pair (.str) (.pair (.int .i64) (.pair (.int .i64) (.pair (.sl (.pair (.int .u8) (.pair (.int .i64) (.pair (.int .i64) (.pair (.sl (.pair (.int .i64) (.pair (.int .i64) (.pair (.int .i64) (.pair (.int .i64) (.unit)))))) (.unit)))))) (.pair (.sl (.int .i64)) (.pair (.bool) (.pair (.bool) (.pair (.sl (.pair (.int .i64) (.pair (.int .i64) (.pair (.int .i64) (.pair (.bool) (.unit)))))) (.pair (.int .i64) (.pair (.int .i64) (.pair (.int .i64) (.unit))))))))))))) (.cons (.cons (.row (.int .i64)) (.cons (.cons (.row (.int .i64)) (.cons (.row (.int .i64)) (.nil))) (.cons (.val (.int .i64)) (.cons (.val (.int .i64)) (.nil))))) (.cons (.val (.int .u64)) (.cons (.row (.pair (.pair (.int .i64) (.pair (.int .i64) (.pair (.int .i64) (.unit)))) (.pair (.int .i64) (.pair (.int .i64) (.pair (.bool) (.pair (.int .i64) (.pair (.int .u64) (.unit)))))))) (.nil))))), .val (.int .i64)], [0, 1], [[.val (.int .i64), .box (.val (.pair (.int .i64) (.unit))), .box (.cons (.val (.pair (.str) (.pair (.int .i64) (.pair (.int .i64) (.pair (.sl (.pair (.int .u8) (.pair (.int .i64) (.pair (.int .i64) (.pair (.sl (.pair (.int .i64) (.pair (.int .i64) (.pair (.int .i64) (.pair (.int .i64) (.unit)))))) (.unit)))))) (.pair (.sl (.int .i64)) (.pair (.bool) (.pair (.bool) (.pair (.sl (.pair (.int .i64) (.pair (.int .i64) (.pair (.int .i64) (.pair (.bool) (.unit)))))) (.pair (.int .i64) (.pair (.int .i64) (.pair (.int .i64) (.unit))))))))))))) (.cons (.cons (.row (.int .i64)) (.cons (.cons (.row (.int .i64)) (.cons (.row (.int .i64)) (.nil))) (.cons (.val (.int .i64)) (.cons (.val (.int .i64)) (.nil))))) (.cons (.val (.int .u64)) (.cons (.row (.pair (.pair (.int .i64) (.pair (.int .i64) (.pair (.int .i64) (.unit)))) (.pair (.int .i64) (.pair (.int .i64) (.pair (.bool) (.pair (.int .i64) (.pair (.int .u64) (.unit)))))))) (.nil)))))]], fun x => f57_at k d x.1 x.2.1 x.2.2.1⟩
noncomputable def f57_sig (k : Nat) : Sig := ⟨[.box (.val (.pair (.int .i64) (.unit))), .box (.cons (.val (.pair (.str) (.pair (.int .i64) (.pair (.int .i64) (.pair (.sl (.pair (.int .u8) (.pair (.int .i64) (.pair (.int .i64) (.pair (.sl (.pair (.int .i64) (.pair (.int .i64) (.pair (.int .i64) (.pair (.int .i64) (.unit)))))) (.unit)))))) (.pair (.sl (.int .i64)) (.pair (.bool) (.pair (.bool) (.pair (.sl (.pair (.int .i64) (.pair (.int .i64) (.pair (.int .i64) (.pair (.bool) (.unit)))))) (.pair (.int .i64) (.pair (.int .i64) (.pair (.int .i64) (.unit))))))))))))) (.cons (.cons (.row (.int .i64)) (.cons (.cons (.row (.int .i64)) (.cons (.row (.int .i64)) (.nil))) (.cons (.val (.int .i64)) (.cons (.val (.int .i64)) (.nil))))) (.cons (.val (.int .u64)) (.cons (.row (.pair (.pair (.int .i64) (.pair (.int .i64) (.pair (.int .i64) (.unit)))) (.pair (.int .i64) (.pair (.int .i64) (.pair (.bool) (.pair (.int .i64) (.pair (.int .u64) (.unit)))))))) (.nil))))), .val (.int .i64)], [0, 1], [[.val (.int .i64), .box (.val (.pair (.int .i64) (.unit))), .box (.cons (.val (.pair (.str) (.pair (.int .i64) (.pair (.int .i64) (.pair (.sl (.pair (.int .u8) (.pair (.int .i64) (.pair (.int .i64) (.pair (.sl (.pair (.int .i64) (.pair (.int .i64) (.pair (.int .i64) (.pair (.int .i64) (.unit)))))) (.unit)))))) (.pair (.sl (.int .i64)) (.pair (.bool) (.pair (.bool) (.pair (.sl (.pair (.int .i64) (.pair (.int .i64) (.pair (.int .i64) (.pair (.bool) (.unit)))))) (.pair (.int .i64) (.pair (.int .i64) (.pair (.int .i64) (.unit))))))))))))) (.cons (.cons (.row (.int .i64)) (.cons (.cons (.row (.int .i64)) (.cons (.row (.int .i64)) (.nil))) (.cons (.val (.int .i64)) (.cons (.val (.int .i64)) (.nil))))) (.cons (.val (.int .u64)) (.cons (.row (.pair (.pair (.int .i64) (.pair (.int .i64) (.pair (.int .i64) (.unit)))) (.pair (.int .i64) (.pair (.int .i64) (.pair (.bool) (.pair (.int .i64) (.pair (.int .u64) (.unit)))))))) (.nil)))))]], fun x => f57 k x.1 x.2.1 x.2.2.1⟩
noncomputable def E_f57 (k d : Nat) : Env := ⟨Try.prog, G0, scons 55 [f55_sig k] (scons 53 [f53_sig k] (scons 52 [f52_sig k] (scons 57 [f57_sig_at k d] (snil)))), tcons 6 (l57_6_sig k d) (tnil), tnil, unil, k, qnil⟩
theorem l57_6_ok (k d : Nat) : LoopOK (E_f57 k d) ⟨Try.f57.ntmps, [0, 1], G0⟩ (nthC 0 (loopsIn (Try.f57.body.getD .skip))) :=
  loop_ok (ls := l57_6_sig k d) (by kernel_rfl) (fun _ => by kernel_rfl) (fun j x => by kernel_rfl)
theorem f57_run (k d : Nat) (x : (lTy (lay 0 (f57_sig_at k (d + 1)).ins)).den) : runF (E_f57 k d) Try.f57 (f57_sig_at k (d + 1)) x = (f57_sig_at k (d + 1)).F x := by kernel_rfl
theorem f57_ok_at [Dr] (k : Nat) : (d : Nat) → FnOK Try.prog G0 57 (f57_sig_at k d)
  | 0 => fn_none Try.call57 (fun _ => rfl)
  | d + 1 => fn_ok2 (E := E_f57 k d) (env_cons (one_sig (f55_ok k)) (env_cons (one_sig (f53_ok k)) (env_cons (one_sig (f52_ok k)) (env_cons (one_sig (f57_ok_at k d)) (env_nil))))) (qenv_nil) mixed Try.func57 Try.call57 (by kernel_rfl) (by kernel_rfl) (m := 1) (by kernel_rfl) ⟨trivial, l57_6_ok k d⟩ (sk := []) (by kernel_rfl) trivial (f57_run k d)
theorem f57_ok [Dr] (k : Nat) : FnOK Try.prog G0 57 (f57_sig k) := f57_ok_at k k

/-! ### gamehall/perft.Tree: function 45 -/
noncomputable def f45 (k : Nat) (x0 : ByteArray × Int × Int × (List (Int × Int × Int × (List (Int × Int × Int × Int × Unit)) × Unit)) × (List Int) × Bool × Bool × (List (Int × Int × Int × Bool × Unit)) × Int × Int × Int × Unit) (x1 : (List Int) × ((List Int) × (List Int) × Unit) × Int × Int × Unit) (x2 : Int) : Option ((Int × Int × Unit)) :=
  (f56 k x0 x1 x2).bind fun w23 =>
  Sum.elim
    (fun y1 =>
      bif y1.2.1 != 0 then
        some (0, y1.2)
      else
        (f57 k (50000, ()) y1.1 x2).bind fun r2 =>
        bif decide (r2.2.1.1 < 0) then
          some (0, 17, ())
        else
          some (w64 (50000 - r2.2.1.1), 0, ()))
    (fun y3 =>
      bif y3.2.1 != 0 then
        some (0, y3.2)
      else
        none)
    w23
noncomputable def f45_sig (k : Nat) : Sig := ⟨[.val (.pair (.str) (.pair (.int .i64) (.pair (.int .i64) (.pair (.sl (.pair (.int .u8) (.pair (.int .i64) (.pair (.int .i64) (.pair (.sl (.pair (.int .i64) (.pair (.int .i64) (.pair (.int .i64) (.pair (.int .i64) (.unit)))))) (.unit)))))) (.pair (.sl (.int .i64)) (.pair (.bool) (.pair (.bool) (.pair (.sl (.pair (.int .i64) (.pair (.int .i64) (.pair (.int .i64) (.pair (.bool) (.unit)))))) (.pair (.int .i64) (.pair (.int .i64) (.pair (.int .i64) (.unit)))))))))))), .val (.pair (.sl (.int .i64)) (.pair (.pair (.sl (.int .i64)) (.pair (.sl (.int .i64)) (.unit))) (.pair (.int .i64) (.pair (.int .i64) (.unit))))), .val (.int .i64)], [], [[.val (.int .i64), .val (.int .i64)]], fun x => f45 k x.1 x.2.1 x.2.2.1⟩
noncomputable def E_f45 (k : Nat) : Env := ⟨Try.prog, G0, scons 57 [f57_sig k] (scons 56 [f56_sig k] (snil)), tnil, tnil, unil, k, qnil⟩
theorem f45_run (k : Nat) (x : (lTy (lay 0 (f45_sig k).ins)).den) : runF (E_f45 k) Try.f45 (f45_sig k) x = (f45_sig k).F x := by kernel_rfl
theorem f45_ok [Dr] (k : Nat) : FnOK Try.prog G0 45 (f45_sig k) :=
  fn_ok2 (E := E_f45 k) (env_cons (one_sig (f57_ok k)) (env_cons (one_sig (f56_ok k)) (env_nil))) (qenv_nil) mixed Try.func45 Try.call45 (by kernel_rfl) (by kernel_rfl) (m := 0) (by kernel_rfl) trivial (sk := []) (by kernel_rfl) trivial (f45_run k)

/-! ### gamehall/minimax.Check: function 40 -/
noncomputable def f40 (k : Nat) (x0 : ByteArray × Int × Int × (List (Int × Int × Int × (List (Int × Int × Int × Int × Unit)) × Unit)) × (List Int) × Bool × Bool × (List (Int × Int × Int × Bool × Unit)) × Int × Int × Int × Unit) (x1 : (List Int) × ((List Int) × (List Int) × Unit) × Int × Int × Unit) (x2 : Int) : Option ((Int × Unit)) :=
  (f45 k x0 x1 x2).bind fun r1 =>
  some r1.2
noncomputable def f40_sig (k : Nat) : Sig := ⟨[.val (.pair (.str) (.pair (.int .i64) (.pair (.int .i64) (.pair (.sl (.pair (.int .u8) (.pair (.int .i64) (.pair (.int .i64) (.pair (.sl (.pair (.int .i64) (.pair (.int .i64) (.pair (.int .i64) (.pair (.int .i64) (.unit)))))) (.unit)))))) (.pair (.sl (.int .i64)) (.pair (.bool) (.pair (.bool) (.pair (.sl (.pair (.int .i64) (.pair (.int .i64) (.pair (.int .i64) (.pair (.bool) (.unit)))))) (.pair (.int .i64) (.pair (.int .i64) (.pair (.int .i64) (.unit)))))))))))), .val (.pair (.sl (.int .i64)) (.pair (.pair (.sl (.int .i64)) (.pair (.sl (.int .i64)) (.unit))) (.pair (.int .i64) (.pair (.int .i64) (.unit))))), .val (.int .i64)], [], [[.val (.int .i64)]], fun x => f40 k x.1 x.2.1 x.2.2.1⟩
noncomputable def E_f40 (k : Nat) : Env := ⟨Try.prog, G0, scons 45 [f45_sig k] (snil), tnil, tnil, unil, k, qnil⟩
theorem f40_run (k : Nat) (x : (lTy (lay 0 (f40_sig k).ins)).den) : runF (E_f40 k) Try.f40 (f40_sig k) x = (f40_sig k).F x := by kernel_rfl
theorem f40_ok [Dr] (k : Nat) : FnOK Try.prog G0 40 (f40_sig k) :=
  fn_ok2 (E := E_f40 k) (env_cons (one_sig (f45_ok k)) (env_nil)) (qenv_nil) mixed Try.func40 Try.call40 (by kernel_rfl) (by kernel_rfl) (m := 0) (by kernel_rfl) trivial (sk := []) (by kernel_rfl) trivial (f40_run k)

/-! ### gamehall/ends.Score: function 50 -/
noncomputable def f50 (k : Nat) (x0 : Int) (x1 : Int) : Option ((Int × Unit)) :=
  (f62 k x1).bind fun r1 =>
  bif x0 == r1.1 then
    some (1000, ())
  else
    (f62 k (w64 (1 - x1))).bind fun r2 =>
    bif x0 == r2.1 then
      some ((-1000), ())
    else
      some (0, ())
noncomputable def f50_sig (k : Nat) : Sig := ⟨[.val (.int .i64), .val (.int .i64)], [], [[.val (.int .i64)]], fun x => f50 k x.1 x.2.1⟩
noncomputable def E_f50 (k : Nat) : Env := ⟨Try.prog, G0, scons 62 [f62_sig k] (snil), tnil, tnil, unil, k, qnil⟩
theorem f50_run (k : Nat) (x : (lTy (lay 0 (f50_sig k).ins)).den) : runF (E_f50 k) Try.f50 (f50_sig k) x = (f50_sig k).F x := by kernel_rfl
theorem f50_ok [Dr] (k : Nat) : FnOK Try.prog G0 50 (f50_sig k) :=
  fn_ok2 (E := E_f50 k) (env_cons (one_sig (f62_ok k)) (env_nil)) (qenv_nil) mixed Try.func50 Try.call50 (by kernel_rfl) (by kernel_rfl) (m := 0) (by kernel_rfl) trivial (sk := []) (by kernel_rfl) trivial (f50_run k)

/-! ### gamehall/minimax.Nearer: function 54 -/
noncomputable def f54 (k : Nat) (x0 : Int) : Option ((Int × Unit)) :=
  bif decide (x0 > 0) then
    some (w64 (x0 - 1), ())
  else
  bif decide (x0 < 0) then
    some (w64 (x0 + 1), ())
  else
    some (0, ())
noncomputable def f54_sig (k : Nat) : Sig := ⟨[.val (.int .i64)], [], [[.val (.int .i64)]], fun x => f54 k x.1⟩
noncomputable def E_f54 (k : Nat) : Env := ⟨Try.prog, G0, snil, tnil, tnil, unil, k, qnil⟩
theorem f54_run (k : Nat) (x : (lTy (lay 0 (f54_sig k).ins)).den) : runF (E_f54 k) Try.f54 (f54_sig k) x = (f54_sig k).F x := by kernel_rfl
theorem f54_ok [Dr] (k : Nat) : FnOK Try.prog G0 54 (f54_sig k) :=
  fn_ok2 (E := E_f54 k) (env_nil) (qenv_nil) mixed Try.func54 Try.call54 (by kernel_rfl) (by kernel_rfl) (m := 0) (by kernel_rfl) trivial (sk := []) (by kernel_rfl) trivial (f54_run k)

/-! ### gamehall/minimax.Value: function 42 -/
noncomputable def l42_8 (k : Nat) (rec : ((ByteArray × Int × Int × (List (Int × Int × Int × (List (Int × Int × Int × Int × Unit)) × Unit)) × (List Int) × Bool × Bool × (List (Int × Int × Int × Bool × Unit)) × Int × Int × Int × Unit) × ((List Int) × ((List Int) × (List Int) × Unit) × Int × Int × Unit) × Int × (List ((Int × Int × Int × Unit) × Int × Int × Bool × Int × Int × Unit)) × Unit) → Int → Option ((Int × ((ByteArray × Int × Int × (List (Int × Int × Int × (List (Int × Int × Int × Int × Unit)) × Unit)) × (List Int) × Bool × Bool × (List (Int × Int × Int × Bool × Unit)) × Int × Int × Int × Unit) × ((List Int) × ((List Int) × (List Int) × Unit) × Int × Int × Unit) × Int × (List ((Int × Int × Int × Unit) × Int × Int × Bool × Int × Int × Unit)) × Unit) × Unit))) : Nat → ((ByteArray × Int × Int × (List (Int × Int × Int × (List (Int × Int × Int × Int × Unit)) × Unit)) × (List Int) × Bool × Bool × (List (Int × Int × Int × Bool × Unit)) × Int × Int × Int × Unit) × ((List Int) × ((List Int) × (List Int) × Unit) × Int × Int × Unit) × Int × (List ((Int × Int × Int × Unit) × Int × Int × Bool × Int × Int × Unit)) × Unit) → Int → Int → (List (Int × Int × Int × Unit)) → Int → Int → Option ((((ByteArray × Int × Int × (List (Int × Int × Int × (List (Int × Int × Int × Int × Unit)) × Unit)) × (List Int) × Bool × Bool × (List (Int × Int × Int × Bool × Unit)) × Int × Int × Int × Unit) × ((List Int) × ((List Int) × (List Int) × Unit) × Int × Int × Unit) × Int × (List ((Int × Int × Int × Unit) × Int × Int × Bool × Int × Int × Unit)) × Unit) × Int × Unit))
  | 0, _, _, _, _, _, _ => none
  | j + 1, s0, s1, s6, s20, s21, s22 =>
    bif decide (s22 < s21) then
      bif decide (0 ≤ s22) && decide (s22 < (s20.length : Int)) then
        (f53 k s0 (rd ((0, 0, 0, ()) : Int × Int × Int × Unit) s20 s22)).bind fun r1 =>
        (rec r1.1 (w64 (s1 - 1))).bind fun r2 =>
        (f54 k (w64 (0 - r2.1))).bind fun r3 =>
        (f55 k r2.2.1).bind fun r4 =>
        l42_8 k rec j r4.2.1 s1 (if r3.1 > s6 then r3.1 else s6) s20 s21 (w64 (s22 + 1))
      else
        none
    else
      some (s0, s6, ())
noncomputable def f42_body (k : Nat) (rec : ((ByteArray × Int × Int × (List (Int × Int × Int × (List (Int × Int × Int × Int × Unit)) × Unit)) × (List Int) × Bool × Bool × (List (Int × Int × Int × Bool × Unit)) × Int × Int × Int × Unit) × ((List Int) × ((List Int) × (List Int) × Unit) × Int × Int × Unit) × Int × (List ((Int × Int × Int × Unit) × Int × Int × Bool × Int × Int × Unit)) × Unit) → Int → Option ((Int × ((ByteArray × Int × Int × (List (Int × Int × Int × (List (Int × Int × Int × Int × Unit)) × Unit)) × (List Int) × Bool × Bool × (List (Int × Int × Int × Bool × Unit)) × Int × Int × Int × Unit) × ((List Int) × ((List Int) × (List Int) × Unit) × Int × Int × Unit) × Int × (List ((Int × Int × Int × Unit) × Int × Int × Bool × Int × Int × Unit)) × Unit) × Unit))) (x0 : (ByteArray × Int × Int × (List (Int × Int × Int × (List (Int × Int × Int × Int × Unit)) × Unit)) × (List Int) × Bool × Bool × (List (Int × Int × Int × Bool × Unit)) × Int × Int × Int × Unit) × ((List Int) × ((List Int) × (List Int) × Unit) × Int × Int × Unit) × Int × (List ((Int × Int × Int × Unit) × Int × Int × Bool × Int × Int × Unit)) × Unit) (x1 : Int) : Option ((Int × ((ByteArray × Int × Int × (List (Int × Int × Int × (List (Int × Int × Int × Int × Unit)) × Unit)) × (List Int) × Bool × Bool × (List (Int × Int × Int × Bool × Unit)) × Int × Int × Int × Unit) × ((List Int) × ((List Int) × (List Int) × Unit) × Int × Int × Unit) × Int × (List ((Int × Int × Int × Unit) × Int × Int × Bool × Int × Int × Unit)) × Unit) × Unit)) :=
  (f49 k x0).bind fun r1 =>
  bif r1.1 != 0 then
    (f50 k r1.1 r1.2.1.2.1.2.2.1).bind fun r2 =>
    some (r2.1, r1.2)
  else
  bif x1 == 0 then
    some (0, r1.2)
  else
    (f52 k r1.2.1).bind fun r3 =>
    (l42_8 k rec k r3.2.1 x1 (-1000) r3.1 (r3.1.length : Int) 0).bind fun o4 =>
    some (o4.2.1, o4.1, ())
noncomputable def f42_at (k : Nat) : Nat → ((ByteArray × Int × Int × (List (Int × Int × Int × (List (Int × Int × Int × Int × Unit)) × Unit)) × (List Int) × Bool × Bool × (List (Int × Int × Int × Bool × Unit)) × Int × Int × Int × Unit) × ((List Int) × ((List Int) × (List Int) × Unit) × Int × Int × Unit) × Int × (List ((Int × Int × Int × Unit) × Int × Int × Bool × Int × Int × Unit)) × Unit) → Int → Option ((Int × ((ByteArray × Int × Int × (List (Int × Int × Int × (List (Int × Int × Int × Int × Unit)) × Unit)) × (List Int) × Bool × Bool × (List (Int × Int × Int × Bool × Unit)) × Int × Int × Int × Unit) × ((List Int) × ((List Int) × (List Int) × Unit) × Int × Int × Unit) × Int × (List ((Int × Int × Int × Unit) × Int × Int × Bool × Int × Int × Unit)) × Unit) × Unit))
  | 0, _, _ => none
  | d + 1, x0, x1 => f42_body k (f42_at k d) x0 x1
noncomputable def f42 (k : Nat) (x0 : (ByteArray × Int × Int × (List (Int × Int × Int × (List (Int × Int × Int × Int × Unit)) × Unit)) × (List Int) × Bool × Bool × (List (Int × Int × Int × Bool × Unit)) × Int × Int × Int × Unit) × ((List Int) × ((List Int) × (List Int) × Unit) × Int × Int × Unit) × Int × (List ((Int × Int × Int × Unit) × Int × Int × Bool × Int × Int × Unit)) × Unit) (x1 : Int) : Option ((Int × ((ByteArray × Int × Int × (List (Int × Int × Int × (List (Int × Int × Int × Int × Unit)) × Unit)) × (List Int) × Bool × Bool × (List (Int × Int × Int × Bool × Unit)) × Int × Int × Int × Unit) × ((List Int) × ((List Int) × (List Int) × Unit) × Int × Int × Unit) × Int × (List ((Int × Int × Int × Unit) × Int × Int × Bool × Int × Int × Unit)) × Unit) × Unit)) := f42_at k k x0 x1
noncomputable def l42_8_sig (k d : Nat) : LoopSig := ⟨[(0, .obj (.box (.cons (.val (.pair (.str) (.pair (.int .i64) (.pair (.int .i64) (.pair (.sl (.pair (.int .u8) (.pair (.int .i64) (.pair (.int .i64) (.pair (.sl (.pair (.int .i64) (.pair (.int .i64) (.pair (.int .i64) (.pair (.int .i64) (.unit)))))) (.unit)))))) (.pair (.sl (.int .i64)) (.pair (.bool) (.pair (.bool) (.pair (.sl (.pair (.int .i64) (.pair (.int .i64) (.pair (.int .i64) (.pair (.bool) (.unit)))))) (.pair (.int .i64) (.pair (.int .i64) (.pair (.int .i64) (.unit))))))))))))) (.cons (.cons (.row (.int .i64)) (.cons (.cons (.row (.int .i64)) (.cons (.row (.int .i64)) (.nil))) (.cons (.val (.int .i64)) (.cons (.val (.int .i64)) (.nil))))) (.cons (.val (.int .u64)) (.cons (.row (.pair (.pair (.int .i64) (.pair (.int .i64) (.pair (.int .i64) (.unit)))) (.pair (.int .i64) (.pair (.int .i64) (.pair (.bool) (.pair (.int .i64) (.pair (.int .u64) (.unit)))))))) (.nil))))))), (1, .obj (.val (.int .i64))), (6, .obj (.val (.int .i64))), (20, .obj (.row (.pair (.int .i64) (.pair (.int .i64) (.pair (.int .i64) (.unit)))))), (21, .obj (.val (.int .i64))), (22, .obj (.val (.int .i64)))], [(.exit 0, [(0, .obj (.box (.cons (.val (.pair (.str) (.pair (.int .i64) (.pair (.int .i64) (.pair (.sl (.pair (.int .u8) (.pair (.int .i64) (.pair (.int .i64) (.pair (.sl (.pair (.int .i64) (.pair (.int .i64) (.pair (.int .i64) (.pair (.int .i64) (.unit)))))) (.unit)))))) (.pair (.sl (.int .i64)) (.pair (.bool) (.pair (.bool) (.pair (.sl (.pair (.int .i64) (.pair (.int .i64) (.pair (.int .i64) (.pair (.bool) (.unit)))))) (.pair (.int .i64) (.pair (.int .i64) (.pair (.int .i64) (.unit))))))))))))) (.cons (.cons (.row (.int .i64)) (.cons (.cons (.row (.int .i64)) (.cons (.row (.int .i64)) (.nil))) (.cons (.val (.int .i64)) (.cons (.val (.int .i64)) (.nil))))) (.cons (.val (.int .u64)) (.cons (.row (.pair (.pair (.int .i64) (.pair (.int .i64) (.pair (.int .i64) (.unit)))) (.pair (.int .i64) (.pair (.int .i64) (.pair (.bool) (.pair (.int .i64) (.pair (.int .u64) (.unit)))))))) (.nil))))))), (6, .obj (.val (.int .i64)))])], fun j x => l42_8 k (f42_at k d) j x.1 x.2.1 x.2.2.1 x.2.2.2.1 x.2.2.2.2.1 x.2.2.2.2.2.1⟩
noncomputable def f42_sig_at (k d : Nat) : Sig := ⟨[.box (.cons (.val (.pair (.str) (.pair (.int .i64) (.pair (.int .i64) (.pair (.sl (.pair (.int .u8) (.pair (.int .i64) (.pair (.int .i64) (.pair (.sl (.pair (.int .i64) (.pair (.int .i64) (.pair (.int .i64) (.pair (.int .i64) (.unit)))))) (.unit)))))) (.pair (.sl (.int .i64)) (.pair (.bool) (.pair (.bool) (.pair (.sl (.pair (.int .i64) (.pair (.int .i64) (.pair (.int .i64) (.pair (.bool) (.unit)))))) (.pair (.int .i64) (.pair (.int .i64) (.pair (.int .i64) (.unit))))))))))))) (.cons (.cons (.row (.int .i64)) (.cons (.cons (.row (.int .i64)) (.cons (.row (.int .i64)) (.nil))) (.cons (.val (.int .i64)) (.cons (.val (.int .i64)) (.nil))))) (.cons (.val (.int .u64)) (.cons (.row (.pair (.pair (.int .i64) (.pair (.int .i64) (.pair (.int .i64) (.unit)))) (.pair (.int .i64) (.pair (.int .i64) (.pair (.bool) (.pair (.int .i64) (.pair (.int .u64) (.unit)))))))) (.nil))))), .val (.int .i64)], [0], [[.val (.int .i64), .box (.cons (.val (.pair (.str) (.pair (.int .i64) (.pair (.int .i64) (.pair (.sl (.pair (.int .u8) (.pair (.int .i64) (.pair (.int .i64) (.pair (.sl (.pair (.int .i64) (.pair (.int .i64) (.pair (.int .i64) (.pair (.int .i64) (.unit)))))) (.unit)))))) (.pair (.sl (.int .i64)) (.pair (.bool) (.pair (.bool) (.pair (.sl (.pair (.int .i64) (.pair (.int .i64) (.pair (.int .i64) (.pair (.bool) (.unit)))))) (.pair (.int .i64) (.pair (.int .i64) (.pair (.int .i64) (.unit))))))))))))) (.cons (.cons (.row (.int .i64)) (.cons (.cons (.row (.int .i64)) (.cons (.row (.int .i64)) (.nil))) (.cons (.val (.int .i64)) (.cons (.val (.int .i64)) (.nil))))) (.cons (.val (.int .u64)) (.cons (.row (.pair (.pair (.int .i64) (.pair (.int .i64) (.pair (.int .i64) (.unit)))) (.pair (.int .i64) (.pair (.int .i64) (.pair (.bool) (.pair (.int .i64) (.pair (.int .u64) (.unit)))))))) (.nil)))))]], fun x => f42_at k d x.1 x.2.1⟩
noncomputable def f42_sig (k : Nat) : Sig := ⟨[.box (.cons (.val (.pair (.str) (.pair (.int .i64) (.pair (.int .i64) (.pair (.sl (.pair (.int .u8) (.pair (.int .i64) (.pair (.int .i64) (.pair (.sl (.pair (.int .i64) (.pair (.int .i64) (.pair (.int .i64) (.pair (.int .i64) (.unit)))))) (.unit)))))) (.pair (.sl (.int .i64)) (.pair (.bool) (.pair (.bool) (.pair (.sl (.pair (.int .i64) (.pair (.int .i64) (.pair (.int .i64) (.pair (.bool) (.unit)))))) (.pair (.int .i64) (.pair (.int .i64) (.pair (.int .i64) (.unit))))))))))))) (.cons (.cons (.row (.int .i64)) (.cons (.cons (.row (.int .i64)) (.cons (.row (.int .i64)) (.nil))) (.cons (.val (.int .i64)) (.cons (.val (.int .i64)) (.nil))))) (.cons (.val (.int .u64)) (.cons (.row (.pair (.pair (.int .i64) (.pair (.int .i64) (.pair (.int .i64) (.unit)))) (.pair (.int .i64) (.pair (.int .i64) (.pair (.bool) (.pair (.int .i64) (.pair (.int .u64) (.unit)))))))) (.nil))))), .val (.int .i64)], [0], [[.val (.int .i64), .box (.cons (.val (.pair (.str) (.pair (.int .i64) (.pair (.int .i64) (.pair (.sl (.pair (.int .u8) (.pair (.int .i64) (.pair (.int .i64) (.pair (.sl (.pair (.int .i64) (.pair (.int .i64) (.pair (.int .i64) (.pair (.int .i64) (.unit)))))) (.unit)))))) (.pair (.sl (.int .i64)) (.pair (.bool) (.pair (.bool) (.pair (.sl (.pair (.int .i64) (.pair (.int .i64) (.pair (.int .i64) (.pair (.bool) (.unit)))))) (.pair (.int .i64) (.pair (.int .i64) (.pair (.int .i64) (.unit))))))))))))) (.cons (.cons (.row (.int .i64)) (.cons (.cons (.row (.int .i64)) (.cons (.row (.int .i64)) (.nil))) (.cons (.val (.int .i64)) (.cons (.val (.int .i64)) (.nil))))) (.cons (.val (.int .u64)) (.cons (.row (.pair (.pair (.int .i64) (.pair (.int .i64) (.pair (.int .i64) (.unit)))) (.pair (.int .i64) (.pair (.int .i64) (.pair (.bool) (.pair (.int .i64) (.pair (.int .u64) (.unit)))))))) (.nil)))))]], fun x => f42 k x.1 x.2.1⟩
noncomputable def E_f42 (k d : Nat) : Env := ⟨Try.prog, G0, scons 55 [f55_sig k] (scons 54 [f54_sig k] (scons 53 [f53_sig k] (scons 52 [f52_sig k] (scons 50 [f50_sig k] (scons 49 [f49_sig k] (scons 42 [f42_sig_at k d] (snil))))))), tcons 8 (l42_8_sig k d) (tnil), tnil, unil, k, qcons 51 (mkQ Try.prog G0 Try.f51) (qnil)⟩
theorem l42_8_ok (k d : Nat) : LoopOK (E_f42 k d) ⟨Try.f42.ntmps, [0], G0⟩ (nthC 0 (loopsIn (Try.f42.body.getD .skip))) :=
  loop_ok (ls := l42_8_sig k d) (by kernel_rfl) (fun _ => by kernel_rfl) (fun j x => by kernel_rfl)
theorem f42_run (k d : Nat) (x : (lTy (lay 0 (f42_sig_at k (d + 1)).ins)).den) : runF (E_f42 k d) Try.f42 (f42_sig_at k (d + 1)) x = (f42_sig_at k (d + 1)).F x := by kernel_rfl
theorem f42_ok_at [Dr] (k : Nat) : (d : Nat) → FnOK Try.prog G0 42 (f42_sig_at k d)
  | 0 => fn_none Try.call42 (fun _ => rfl)
  | d + 1 => fn_ok2 (E := E_f42 k d) (env_cons (one_sig (f55_ok k)) (env_cons (one_sig (f54_ok k)) (env_cons (one_sig (f53_ok k)) (env_cons (one_sig (f52_ok k)) (env_cons (one_sig (f50_ok k)) (env_cons (one_sig (f49_ok k)) (env_cons (one_sig (f42_ok_at k d)) (env_nil)))))))) (qenv_cons (q_ok mixed Try.func51 Try.call51) (qenv_nil)) mixed Try.func42 Try.call42 (by kernel_rfl) (by kernel_rfl) (m := 1) (by kernel_rfl) ⟨trivial, l42_8_ok k d⟩ (sk := []) (by kernel_rfl) trivial (f42_run k d)
theorem f42_ok [Dr] (k : Nat) : FnOK Try.prog G0 42 (f42_sig k) := f42_ok_at k k

/-! ### gamehall/minimax.Score: function 31 -/
noncomputable def f31 (k : Nat) (x0 : ByteArray × Int × Int × (List (Int × Int × Int × (List (Int × Int × Int × Int × Unit)) × Unit)) × (List Int) × Bool × Bool × (List (Int × Int × Int × Bool × Unit)) × Int × Int × Int × Unit) (x1 : (List Int) × ((List Int) × (List Int) × Unit) × Int × Int × Unit) (x2 : Int) : Option ((Int × Int × Unit)) :=
  (f40 k x0 x1 x2).bind fun r1 =>
  bif r1.1 != 0 then
    some (0, r1)
  else
    (f41 k x0 x1).bind fun w24 =>
    Sum.elim
      (fun y2 =>
        (f42 k y2.1 x2).bind fun r3 =>
        some (r3.1, 0, ()))
      (fun y4 =>
        none)
      w24
noncomputable def f31_sig (k : Nat) : Sig := ⟨[.val (.pair (.str) (.pair (.int .i64) (.pair (.int .i64) (.pair (.sl (.pair (.int .u8) (.pair (.int .i64) (.pair (.int .i64) (.pair (.sl (.pair (.int .i64) (.pair (.int .i64) (.pair (.int .i64) (.pair (.int .i64) (.unit)))))) (.unit)))))) (.pair (.sl (.int .i64)) (.pair (.bool) (.pair (.bool) (.pair (.sl (.pair (.int .i64) (.pair (.int .i64) (.pair (.int .i64) (.pair (.bool) (.unit)))))) (.pair (.int .i64) (.pair (.int .i64) (.pair (.int .i64) (.unit)))))))))))), .val (.pair (.sl (.int .i64)) (.pair (.pair (.sl (.int .i64)) (.pair (.sl (.int .i64)) (.unit))) (.pair (.int .i64) (.pair (.int .i64) (.unit))))), .val (.int .i64)], [], [[.val (.int .i64), .val (.int .i64)]], fun x => f31 k x.1 x.2.1 x.2.2.1⟩
noncomputable def E_f31 (k : Nat) : Env := ⟨Try.prog, G0, scons 42 [f42_sig k] (scons 41 [f41_sig k] (scons 40 [f40_sig k] (snil))), tnil, tnil, unil, k, qnil⟩
theorem f31_run (k : Nat) (x : (lTy (lay 0 (f31_sig k).ins)).den) : runF (E_f31 k) Try.f31 (f31_sig k) x = (f31_sig k).F x := by kernel_rfl
theorem f31_ok [Dr] (k : Nat) : FnOK Try.prog G0 31 (f31_sig k) :=
  fn_ok2 (E := E_f31 k) (env_cons (one_sig (f42_ok k)) (env_cons (one_sig (f41_ok k)) (env_cons (one_sig (f40_ok k)) (env_nil)))) (qenv_nil) mixed Try.func31 Try.call31 (by kernel_rfl) (by kernel_rfl) (m := 0) (by kernel_rfl) trivial (sk := []) (by kernel_rfl) trivial (f31_run k)

/-! ### gamehall/handicap.Wins: function 18 -/
noncomputable def f18 (k : Nat) (x0 : ByteArray × Int × Int × (List (Int × Int × Int × (List (Int × Int × Int × Int × Unit)) × Unit)) × (List Int) × Bool × Bool × (List (Int × Int × Int × Bool × Unit)) × Int × Int × Int × Unit) (x1 : Int) : Option ((Int × Int × Unit)) :=
  (f30 k x0).bind fun r1 =>
  bif r1.2.1 != 0 then
    some (0, r1.2)
  else
    (f31 k x0 r1.1 x1).bind fun r2 =>
    bif r2.2.1 != 0 then
      some (0, r2.2)
    else
    bif decide (r2.1 > 0) then
      some (w64 (1 + r1.1.2.2.1), 0, ())
    else
    bif decide (r2.1 < 0) then
      some (w64 (2 - r1.1.2.2.1), 0, ())
    else
      some (3, 0, ())
noncomputable def f18_sig (k : Nat) : Sig := ⟨[.val (.pair (.str) (.pair (.int .i64) (.pair (.int .i64) (.pair (.sl (.pair (.int .u8) (.pair (.int .i64) (.pair (.int .i64) (.pair (.sl (.pair (.int .i64) (.pair (.int .i64) (.pair (.int .i64) (.pair (.int .i64) (.unit)))))) (.unit)))))) (.pair (.sl (.int .i64)) (.pair (.bool) (.pair (.bool) (.pair (.sl (.pair (.int .i64) (.pair (.int .i64) (.pair (.int .i64) (.pair (.bool) (.unit)))))) (.pair (.int .i64) (.pair (.int .i64) (.pair (.int .i64) (.unit)))))))))))), .val (.int .i64)], [], [[.val (.int .i64), .val (.int .i64)]], fun x => f18 k x.1 x.2.1⟩
noncomputable def E_f18 (k : Nat) : Env := ⟨Try.prog, G0, scons 31 [f31_sig k] (scons 30 [f30_sig k] (snil)), tnil, tnil, unil, k, qnil⟩
theorem f18_run (k : Nat) (x : (lTy (lay 0 (f18_sig k).ins)).den) : runF (E_f18 k) Try.f18 (f18_sig k) x = (f18_sig k).F x := by kernel_rfl
theorem f18_ok [Dr] (k : Nat) : FnOK Try.prog G0 18 (f18_sig k) :=
  fn_ok2 (E := E_f18 k) (env_cons (one_sig (f31_ok k)) (env_cons (one_sig (f30_ok k)) (env_nil))) (qenv_nil) mixed Try.func18 Try.call18 (by kernel_rfl) (by kernel_rfl) (m := 0) (by kernel_rfl) trivial (sk := []) (by kernel_rfl) trivial (f18_run k)

/-! ### gamehall/gamehallkeep3.handicaps: function 15 -/
noncomputable def f15 (k : Nat) : Option ((Bool × Unit)) :=
  (f26 k).bind fun r1 =>
  (f18 k r1.1 0).bind fun r2 =>
  bif r2.2.1 == 0 then
    some (r2.1 == 3, ())
  else
    some (false, ())
noncomputable def f15_sig (k : Nat) : Sig := ⟨[], [], [[.val (.bool)]], fun x => f15 k⟩
noncomputable def E_f15 (k : Nat) : Env := ⟨Try.prog, G0, scons 26 [f26_sig k] (scons 18 [f18_sig k] (snil)), tnil, tnil, unil, k, qnil⟩
theorem f15_run (k : Nat) (x : (lTy (lay 0 (f15_sig k).ins)).den) : runF (E_f15 k) Try.f15 (f15_sig k) x = (f15_sig k).F x := by kernel_rfl
theorem f15_ok [Dr] (k : Nat) : FnOK Try.prog G0 15 (f15_sig k) :=
  fn_ok2 (E := E_f15 k) (env_cons (one_sig (f26_ok k)) (env_cons (one_sig (f18_ok k)) (env_nil))) (qenv_nil) mixed Try.func15 Try.call15 (by kernel_rfl) (by kernel_rfl) (m := 0) (by kernel_rfl) trivial (sk := []) (by kernel_rfl) trivial (f15_run k)

/-! ### gamehall/gamehallkeep3.great: function 16 -/
noncomputable def f16 (k : Nat) (x0 : ByteArray × Int × Int × (List (Int × Int × Int × (List (Int × Int × Int × Int × Unit)) × Unit)) × (List Int) × Bool × Bool × (List (Int × Int × Int × Bool × Unit)) × Int × Int × Int × Unit) : Option ((Bool × Unit)) :=
  some (decide ((x0.2.2.2.2.1.length : Int) > 20), ())
noncomputable def f16_sig (k : Nat) : Sig := ⟨[.val (.pair (.str) (.pair (.int .i64) (.pair (.int .i64) (.pair (.sl (.pair (.int .u8) (.pair (.int .i64) (.pair (.int .i64) (.pair (.sl (.pair (.int .i64) (.pair (.int .i64) (.pair (.int .i64) (.pair (.int .i64) (.unit)))))) (.unit)))))) (.pair (.sl (.int .i64)) (.pair (.bool) (.pair (.bool) (.pair (.sl (.pair (.int .i64) (.pair (.int .i64) (.pair (.int .i64) (.pair (.bool) (.unit)))))) (.pair (.int .i64) (.pair (.int .i64) (.pair (.int .i64) (.unit))))))))))))], [], [[.val (.bool)]], fun x => f16 k x.1⟩
noncomputable def E_f16 (k : Nat) : Env := ⟨Try.prog, G0, snil, tnil, tnil, unil, k, qnil⟩
theorem f16_run (k : Nat) (x : (lTy (lay 0 (f16_sig k).ins)).den) : runF (E_f16 k) Try.f16 (f16_sig k) x = (f16_sig k).F x := by kernel_rfl
theorem f16_ok [Dr] (k : Nat) : FnOK Try.prog G0 16 (f16_sig k) :=
  fn_ok2 (E := E_f16 k) (env_nil) (qenv_nil) mixed Try.func16 Try.call16 (by kernel_rfl) (by kernel_rfl) (m := 0) (by kernel_rfl) trivial (sk := []) (by kernel_rfl) trivial (f16_run k)

/-! ### gamehall/handicap.Without: function 17 -/
noncomputable def l17_13 (k : Nat) : Nat → Int → (List Int) → (ByteArray × Int × Int × (List (Int × Int × Int × (List (Int × Int × Int × Int × Unit)) × Unit)) × (List Int) × Bool × Bool × (List (Int × Int × Int × Bool × Unit)) × Int × Int × Int × Unit) → (ByteArray × Int × Int × (List (Int × Int × Int × (List (Int × Int × Int × Int × Unit)) × Unit)) × (List Int) × Bool × Bool × (List (Int × Int × Int × Bool × Unit)) × Int × Int × Int × Unit) → Int → (List Int) → Int → Int → (List Int) → Int → Int → Option ((Int × (List Int) × (ByteArray × Int × Int × (List (Int × Int × Int × (List (Int × Int × Int × Int × Unit)) × Unit)) × (List Int) × Bool × Bool × (List (Int × Int × Int × Bool × Unit)) × Int × Int × Int × Unit) × (ByteArray × Int × Int × (List (Int × Int × Int × (List (Int × Int × Int × Int × Unit)) × Unit)) × (List Int) × Bool × Bool × (List (Int × Int × Int × Bool × Unit)) × Int × Int × Int × Unit) × Int × (List Int) × Int × Int × Unit) ⊕ ((ByteArray × Int × Int × (List (Int × Int × Int × (List (Int × Int × Int × Int × Unit)) × Unit)) × (List Int) × Bool × Bool × (List (Int × Int × Int × Bool × Unit)) × Int × Int × Int × Unit) × Int × Unit))
  | 0, _, _, _, _, _, _, _, _, _, _, _ => none
  | j + 1, s1, s2, s6, s9, s11, s30, s31, s32, s49, s50, s51 =>
    bif decide (s51 < s50) then
      bif decide (0 ≤ s51) && decide (s51 < (s49.length : Int)) then
        bif (rd (0 : Int) s49 s51) == s11 then
          some (.inr (((⟨#[]⟩ : ByteArray), 0, 0, [], [], false, false, [], 0, 0, 0, ()), 7, ()))
        else
          l17_13 k j s1 s2 s6 s9 s11 s30 s31 s32 s49 s50 (w64 (s51 + 1))
      else
        none
    else
      some (.inl (s1, s2, s6, s9, s11, s30, s31, s32, ()))
noncomputable def l17_13_sig (k : Nat) : LoopSig := ⟨[(1, .obj (.val (.int .i64))), (2, .obj (.val (.sl (.int .i64)))), (6, .obj (.box (.cons (.val (.str)) (.cons (.val (.int .i64)) (.cons (.val (.int .i64)) (.cons (.row (.pair (.int .u8) (.pair (.int .i64) (.pair (.int .i64) (.pair (.sl (.pair (.int .i64) (.pair (.int .i64) (.pair (.int .i64) (.pair (.int .i64) (.unit)))))) (.unit)))))) (.cons (.row (.int .i64)) (.cons (.val (.bool)) (.cons (.val (.bool)) (.cons (.row (.pair (.int .i64) (.pair (.int .i64) (.pair (.int .i64) (.pair (.bool) (.unit)))))) (.cons (.val (.int .i64)) (.cons (.val (.int .i64)) (.cons (.val (.int .i64)) (.nil)))))))))))))), (9, .obj (.box (.cons (.val (.str)) (.cons (.val (.int .i64)) (.cons (.val (.int .i64)) (.cons (.row (.pair (.int .u8) (.pair (.int .i64) (.pair (.int .i64) (.pair (.sl (.pair (.int .i64) (.pair (.int .i64) (.pair (.int .i64) (.pair (.int .i64) (.unit)))))) (.unit)))))) (.cons (.row (.int .i64)) (.cons (.val (.bool)) (.cons (.val (.bool)) (.cons (.row (.pair (.int .i64) (.pair (.int .i64) (.pair (.int .i64) (.pair (.bool) (.unit)))))) (.cons (.val (.int .i64)) (.cons (.val (.int .i64)) (.cons (.val (.int .i64)) (.nil)))))))))))))), (11, .obj (.val (.int .i64))), (30, .obj (.val (.sl (.int .i64)))), (31, .obj (.val (.int .i64))), (32, .obj (.val (.int .i64))), (49, .obj (.val (.sl (.int .i64)))), (50, .obj (.val (.int .i64))), (51, .obj (.val (.int .i64)))], [(.exit 2, [(1, .obj (.val (.int .i64))), (2, .obj (.val (.sl (.int .i64)))), (6, .obj (.box (.cons (.val (.str)) (.cons (.val (.int .i64)) (.cons (.val (.int .i64)) (.cons (.row (.pair (.int .u8) (.pair (.int .i64) (.pair (.int .i64) (.pair (.sl (.pair (.int .i64) (.pair (.int .i64) (.pair (.int .i64) (.pair (.int .i64) (.unit)))))) (.unit)))))) (.cons (.row (.int .i64)) (.cons (.val (.bool)) (.cons (.val (.bool)) (.cons (.row (.pair (.int .i64) (.pair (.int .i64) (.pair (.int .i64) (.pair (.bool) (.unit)))))) (.cons (.val (.int .i64)) (.cons (.val (.int .i64)) (.cons (.val (.int .i64)) (.nil)))))))))))))), (9, .obj (.box (.cons (.val (.str)) (.cons (.val (.int .i64)) (.cons (.val (.int .i64)) (.cons (.row (.pair (.int .u8) (.pair (.int .i64) (.pair (.int .i64) (.pair (.sl (.pair (.int .i64) (.pair (.int .i64) (.pair (.int .i64) (.pair (.int .i64) (.unit)))))) (.unit)))))) (.cons (.row (.int .i64)) (.cons (.val (.bool)) (.cons (.val (.bool)) (.cons (.row (.pair (.int .i64) (.pair (.int .i64) (.pair (.int .i64) (.pair (.bool) (.unit)))))) (.cons (.val (.int .i64)) (.cons (.val (.int .i64)) (.cons (.val (.int .i64)) (.nil)))))))))))))), (11, .obj (.val (.int .i64))), (30, .obj (.val (.sl (.int .i64)))), (31, .obj (.val (.int .i64))), (32, .obj (.val (.int .i64)))]), (.ret, [(6, .obj (.box (.cons (.val (.str)) (.cons (.val (.int .i64)) (.cons (.val (.int .i64)) (.cons (.row (.pair (.int .u8) (.pair (.int .i64) (.pair (.int .i64) (.pair (.sl (.pair (.int .i64) (.pair (.int .i64) (.pair (.int .i64) (.pair (.int .i64) (.unit)))))) (.unit)))))) (.cons (.row (.int .i64)) (.cons (.val (.bool)) (.cons (.val (.bool)) (.cons (.row (.pair (.int .i64) (.pair (.int .i64) (.pair (.int .i64) (.pair (.bool) (.unit)))))) (.cons (.val (.int .i64)) (.cons (.val (.int .i64)) (.cons (.val (.int .i64)) (.nil)))))))))))))), (7, .obj (.val (.int .i64)))])], fun j x => l17_13 k j x.1 x.2.1 x.2.2.1 x.2.2.2.1 x.2.2.2.2.1 x.2.2.2.2.2.1 x.2.2.2.2.2.2.1 x.2.2.2.2.2.2.2.1 x.2.2.2.2.2.2.2.2.1 x.2.2.2.2.2.2.2.2.2.1 x.2.2.2.2.2.2.2.2.2.2.1⟩
noncomputable def l17_8 (k : Nat) : Nat → Int → (List Int) → (ByteArray × Int × Int × (List (Int × Int × Int × (List (Int × Int × Int × Int × Unit)) × Unit)) × (List Int) × Bool × Bool × (List (Int × Int × Int × Bool × Unit)) × Int × Int × Int × Unit) → (ByteArray × Int × Int × (List (Int × Int × Int × (List (Int × Int × Int × Int × Unit)) × Unit)) × (List Int) × Bool × Bool × (List (Int × Int × Int × Bool × Unit)) × Int × Int × Int × Unit) → (List Int) → Int → Int → Option (((ByteArray × Int × Int × (List (Int × Int × Int × (List (Int × Int × Int × Int × Unit)) × Unit)) × (List Int) × Bool × Bool × (List (Int × Int × Int × Bool × Unit)) × Int × Int × Int × Unit) × (ByteArray × Int × Int × (List (Int × Int × Int × (List (Int × Int × Int × Int × Unit)) × Unit)) × (List Int) × Bool × Bool × (List (Int × Int × Int × Bool × Unit)) × Int × Int × Int × Unit) × Unit) ⊕ ((ByteArray × Int × Int × (List (Int × Int × Int × (List (Int × Int × Int × Int × Unit)) × Unit)) × (List Int) × Bool × Bool × (List (Int × Int × Int × Bool × Unit)) × Int × Int × Int × Unit) × Int × Unit))
  | 0, _, _, _, _, _, _, _ => none
  | j + 1, s1, s2, s6, s9, s30, s31, s32 =>
    bif decide (s32 < s31) then
      bif decide (0 ≤ s32) && decide (s32 < (s30.length : Int)) then
        bif decide ((rd (0 : Int) s30 s32) < 0) then
          some (.inr (((⟨#[]⟩ : ByteArray), 0, 0, [], [], false, false, [], 0, 0, 0, ()), 4, ()))
        else
        bif decide ((rd (0 : Int) s30 s32) ≥ (s9.2.2.2.2.1.length : Int)) then
          some (.inr (((⟨#[]⟩ : ByteArray), 0, 0, [], [], false, false, [], 0, 0, 0, ()), 4, ()))
        else
        bif decide (0 ≤ s32) && decide (s32 ≤ (s2.length : Int)) then
          (l17_13 k k s1 s2 s6 s9 (rd (0 : Int) s30 s32) s30 s31 s32 (sliceOf s2 0 s32) ((sliceOf s2 0 s32).length : Int) 0).bind fun w25 =>
          Sum.elim
            (fun y1 =>
              bif decide (0 ≤ y1.2.2.2.2.1) && decide (y1.2.2.2.2.1 < (y1.2.2.2.1.2.2.2.2.1.length : Int)) then
                (f29 k (rd (0 : Int) y1.2.2.2.1.2.2.2.2.1 y1.2.2.2.2.1)).bind fun r2 =>
                bif r2.1 != y1.1 then
                  some (.inr (((⟨#[]⟩ : ByteArray), 0, 0, [], [], false, false, [], 0, 0, 0, ()), 8, ()))
                else
                bif decide (0 ≤ y1.2.2.2.2.1) && decide (y1.2.2.2.2.1 < (y1.2.2.2.1.2.2.2.2.1.length : Int)) then
                  l17_8 k j y1.1 y1.2.1 y1.2.2.1 (y1.2.2.2.1.1, y1.2.2.2.1.2.1, y1.2.2.2.1.2.2.1, y1.2.2.2.1.2.2.2.1, y1.2.2.2.1.2.2.2.2.1.set y1.2.2.2.2.1.toNat 0, y1.2.2.2.1.2.2.2.2.2) y1.2.2.2.2.2.1 y1.2.2.2.2.2.2.1 (w64 (y1.2.2.2.2.2.2.2.1 + 1))
                else
                  none
              else
                none)
            (fun y3 =>
              some (.inr y3))
            w25
        else
          none
      else
        none
    else
      some (.inl (s6, s9, ()))
noncomputable def l17_8_sig (k : Nat) : LoopSig := ⟨[(1, .obj (.val (.int .i64))), (2, .obj (.val (.sl (.int .i64)))), (6, .obj (.box (.cons (.val (.str)) (.cons (.val (.int .i64)) (.cons (.val (.int .i64)) (.cons (.row (.pair (.int .u8) (.pair (.int .i64) (.pair (.int .i64) (.pair (.sl (.pair (.int .i64) (.pair (.int .i64) (.pair (.int .i64) (.pair (.int .i64) (.unit)))))) (.unit)))))) (.cons (.row (.int .i64)) (.cons (.val (.bool)) (.cons (.val (.bool)) (.cons (.row (.pair (.int .i64) (.pair (.int .i64) (.pair (.int .i64) (.pair (.bool) (.unit)))))) (.cons (.val (.int .i64)) (.cons (.val (.int .i64)) (.cons (.val (.int .i64)) (.nil)))))))))))))), (9, .obj (.box (.cons (.val (.str)) (.cons (.val (.int .i64)) (.cons (.val (.int .i64)) (.cons (.row (.pair (.int .u8) (.pair (.int .i64) (.pair (.int .i64) (.pair (.sl (.pair (.int .i64) (.pair (.int .i64) (.pair (.int .i64) (.pair (.int .i64) (.unit)))))) (.unit)))))) (.cons (.row (.int .i64)) (.cons (.val (.bool)) (.cons (.val (.bool)) (.cons (.row (.pair (.int .i64) (.pair (.int .i64) (.pair (.int .i64) (.pair (.bool) (.unit)))))) (.cons (.val (.int .i64)) (.cons (.val (.int .i64)) (.cons (.val (.int .i64)) (.nil)))))))))))))), (30, .obj (.val (.sl (.int .i64)))), (31, .obj (.val (.int .i64))), (32, .obj (.val (.int .i64)))], [(.exit 0, [(6, .obj (.box (.cons (.val (.str)) (.cons (.val (.int .i64)) (.cons (.val (.int .i64)) (.cons (.row (.pair (.int .u8) (.pair (.int .i64) (.pair (.int .i64) (.pair (.sl (.pair (.int .i64) (.pair (.int .i64) (.pair (.int .i64) (.pair (.int .i64) (.unit)))))) (.unit)))))) (.cons (.row (.int .i64)) (.cons (.val (.bool)) (.cons (.val (.bool)) (.cons (.row (.pair (.int .i64) (.pair (.int .i64) (.pair (.int .i64) (.pair (.bool) (.unit)))))) (.cons (.val (.int .i64)) (.cons (.val (.int .i64)) (.cons (.val (.int .i64)) (.nil)))))))))))))), (9, .obj (.box (.cons (.val (.str)) (.cons (.val (.int .i64)) (.cons (.val (.int .i64)) (.cons (.row (.pair (.int .u8) (.pair (.int .i64) (.pair (.int .i64) (.pair (.sl (.pair (.int .i64) (.pair (.int .i64) (.pair (.int .i64) (.pair (.int .i64) (.unit)))))) (.unit)))))) (.cons (.row (.int .i64)) (.cons (.val (.bool)) (.cons (.val (.bool)) (.cons (.row (.pair (.int .i64) (.pair (.int .i64) (.pair (.int .i64) (.pair (.bool) (.unit)))))) (.cons (.val (.int .i64)) (.cons (.val (.int .i64)) (.cons (.val (.int .i64)) (.nil))))))))))))))]), (.ret, [(6, .obj (.box (.cons (.val (.str)) (.cons (.val (.int .i64)) (.cons (.val (.int .i64)) (.cons (.row (.pair (.int .u8) (.pair (.int .i64) (.pair (.int .i64) (.pair (.sl (.pair (.int .i64) (.pair (.int .i64) (.pair (.int .i64) (.pair (.int .i64) (.unit)))))) (.unit)))))) (.cons (.row (.int .i64)) (.cons (.val (.bool)) (.cons (.val (.bool)) (.cons (.row (.pair (.int .i64) (.pair (.int .i64) (.pair (.int .i64) (.pair (.bool) (.unit)))))) (.cons (.val (.int .i64)) (.cons (.val (.int .i64)) (.cons (.val (.int .i64)) (.nil)))))))))))))), (7, .obj (.val (.int .i64)))])], fun j x => l17_8 k j x.1 x.2.1 x.2.2.1 x.2.2.2.1 x.2.2.2.2.1 x.2.2.2.2.2.1 x.2.2.2.2.2.2.1⟩
noncomputable def f17 (k : Nat) (x0 : ByteArray × Int × Int × (List (Int × Int × Int × (List (Int × Int × Int × Int × Unit)) × Unit)) × (List Int) × Bool × Bool × (List (Int × Int × Int × Bool × Unit)) × Int × Int × Int × Unit) (x1 : Int) (x2 : List Int) : Option (((ByteArray × Int × Int × (List (Int × Int × Int × (List (Int × Int × Int × Int × Unit)) × Unit)) × (List Int) × Bool × Bool × (List (Int × Int × Int × Bool × Unit)) × Int × Int × Int × Unit) × Int × Unit)) :=
  (f27 k x0).bind fun r1 =>
  bif r1.1 != 0 then
    some (((⟨#[]⟩ : ByteArray), 0, 0, [], [], false, false, [], 0, 0, 0, ()), r1)
  else
  bif decide (x1 < 0) then
    some (((⟨#[]⟩ : ByteArray), 0, 0, [], [], false, false, [], 0, 0, 0, ()), 1, ())
  else
  bif decide (x1 > 1) then
    some (((⟨#[]⟩ : ByteArray), 0, 0, [], [], false, false, [], 0, 0, 0, ()), 1, ())
  else
    (f28 k x0).bind fun r2 =>
    (l17_8 k k x1 x2 ((⟨#[]⟩ : ByteArray), 0, 0, [], [], false, false, [], 0, 0, 0, ()) r2.1 x2 (x2.length : Int) 0).bind fun w26 =>
    Sum.elim
      (fun y3 =>
        (f27 k y3.2.1).bind fun r4 =>
        bif r4.1 != 0 then
          some (((⟨#[]⟩ : ByteArray), 0, 0, [], [], false, false, [], 0, 0, 0, ()), r4)
        else
          some (y3.2.1, 0, ()))
      (fun y5 =>
        some y5)
      w26
noncomputable def f17_sig (k : Nat) : Sig := ⟨[.val (.pair (.str) (.pair (.int .i64) (.pair (.int .i64) (.pair (.sl (.pair (.int .u8) (.pair (.int .i64) (.pair (.int .i64) (.pair (.sl (.pair (.int .i64) (.pair (.int .i64) (.pair (.int .i64) (.pair (.int .i64) (.unit)))))) (.unit)))))) (.pair (.sl (.int .i64)) (.pair (.bool) (.pair (.bool) (.pair (.sl (.pair (.int .i64) (.pair (.int .i64) (.pair (.int .i64) (.pair (.bool) (.unit)))))) (.pair (.int .i64) (.pair (.int .i64) (.pair (.int .i64) (.unit)))))))))))), .val (.int .i64), .val (.sl (.int .i64))], [], [[.cons (.val (.str)) (.cons (.val (.int .i64)) (.cons (.val (.int .i64)) (.cons (.row (.pair (.int .u8) (.pair (.int .i64) (.pair (.int .i64) (.pair (.sl (.pair (.int .i64) (.pair (.int .i64) (.pair (.int .i64) (.pair (.int .i64) (.unit)))))) (.unit)))))) (.cons (.row (.int .i64)) (.cons (.val (.bool)) (.cons (.val (.bool)) (.cons (.row (.pair (.int .i64) (.pair (.int .i64) (.pair (.int .i64) (.pair (.bool) (.unit)))))) (.cons (.val (.int .i64)) (.cons (.val (.int .i64)) (.cons (.val (.int .i64)) (.nil))))))))))), .val (.int .i64)]], fun x => f17 k x.1 x.2.1 x.2.2.1⟩
noncomputable def E_f17 (k : Nat) : Env := ⟨Try.prog, G0, scons 29 [f29_sig k] (scons 28 [f28_sig k] (scons 27 [f27_sig k] (snil))), tcons 8 (l17_8_sig k) (tcons 13 (l17_13_sig k) (tnil)), tnil, unil, k, qnil⟩
theorem l17_8_ok (k : Nat) : LoopOK (E_f17 k) ⟨Try.f17.ntmps, [], G0⟩ (nthC 0 (loopsIn (Try.f17.body.getD .skip))) :=
  loop_ok (ls := l17_8_sig k) (by kernel_rfl) (fun _ => by kernel_rfl) (fun j x => by kernel_rfl)
theorem l17_13_ok (k : Nat) : LoopOK (E_f17 k) ⟨Try.f17.ntmps, [], G0⟩ (nthC 1 (loopsIn (Try.f17.body.getD .skip))) :=
  loop_ok (ls := l17_13_sig k) (by kernel_rfl) (fun _ => by kernel_rfl) (fun j x => by kernel_rfl)
theorem f17_run (k : Nat) (x : (lTy (lay 0 (f17_sig k).ins)).den) : runF (E_f17 k) Try.f17 (f17_sig k) x = (f17_sig k).F x := by kernel_rfl
theorem f17_ok [Dr] (k : Nat) : FnOK Try.prog G0 17 (f17_sig k) :=
  fn_ok2 (E := E_f17 k) (env_cons (one_sig (f29_ok k)) (env_cons (one_sig (f28_ok k)) (env_cons (one_sig (f27_ok k)) (env_nil)))) (qenv_nil) mixed Try.func17 Try.call17 (by kernel_rfl) (by kernel_rfl) (m := 2) (by kernel_rfl) ⟨⟨trivial, l17_8_ok k⟩, l17_13_ok k⟩ (sk := []) (by kernel_rfl) trivial (f17_run k)

/-! ### gamehall/handicap.Least: function 19 -/
noncomputable def l19_5 (k : Nat) : Nat → Int → (List Int) → Int → (ByteArray × Int × Int × (List (Int × Int × Int × (List (Int × Int × Int × Int × Unit)) × Unit)) × (List Int) × Bool × Bool × (List (Int × Int × Int × Bool × Unit)) × Int × Int × Int × Unit) → Int → Int → Option (Unit ⊕ (Int × Int × Unit))
  | 0, _, _, _, _, _, _ => none
  | j + 1, s1, s2, s3, s4, s28, s29 =>
    bif decide (s29 < s28) then
      bif decide (0 ≤ s29) && decide (s29 ≤ (s2.length : Int)) then
        (f17 k s4 s1 (sliceOf s2 0 s29)).bind fun r1 =>
        bif r1.2.1 != 0 then
          some (.inr (0, r1.2))
        else
          (f18 k r1.1 s3).bind fun r2 =>
          bif r2.2.1 != 0 then
            some (.inr (0, r2.2))
          else
          bif r2.1 != (w64 (1 + s1)) then
            some (.inr (s29, 0, ()))
          else
            l19_5 k j s1 s2 s3 s4 s28 (w64 (s29 + 1))
      else
        none
    else
      some (.inl ())
noncomputable def l19_5_sig (k : Nat) : LoopSig := ⟨[(1, .obj (.val (.int .i64))), (2, .obj (.val (.sl (.int .i64)))), (3, .obj (.val (.int .i64))), (4, .obj (.box (.val (.pair (.str) (.pair (.int .i64) (.pair (.int .i64) (.pair (.sl (.pair (.int .u8) (.pair (.int .i64) (.pair (.int .i64) (.pair (.sl (.pair (.int .i64) (.pair (.int .i64) (.pair (.int .i64) (.pair (.int .i64) (.unit)))))) (.unit)))))) (.pair (.sl (.int .i64)) (.pair (.bool) (.pair (.bool) (.pair (.sl (.pair (.int .i64) (.pair (.int .i64) (.pair (.int .i64) (.pair (.bool) (.unit)))))) (.pair (.int .i64) (.pair (.int .i64) (.pair (.int .i64) (.unit))))))))))))))), (28, .obj (.val (.int .i64))), (29, .obj (.val (.int .i64)))], [(.exit 0, []), (.ret, [(8, .obj (.val (.int .i64))), (9, .obj (.val (.int .i64)))])], fun j x => l19_5 k j x.1 x.2.1 x.2.2.1 x.2.2.2.1 x.2.2.2.2.1 x.2.2.2.2.2.1⟩
noncomputable def f19 (k : Nat) (x0 : ByteArray × Int × Int × (List (Int × Int × Int × (List (Int × Int × Int × Int × Unit)) × Unit)) × (List Int) × Bool × Bool × (List (Int × Int × Int × Bool × Unit)) × Int × Int × Int × Unit) (x1 : Int) (x2 : List Int) (x3 : Int) : Option ((Int × Int × Unit)) :=
  (f17 k x0 x1 x2).bind fun r1 =>
  bif r1.2.1 != 0 then
    some (0, r1.2)
  else
    (l19_5 k k x1 x2 x3 x0 (w64 ((x2.length : Int) + 1)) 0).bind fun w27 =>
    Sum.elim
      (fun y2 =>
        some (0, 8, ()))
      (fun y3 =>
        some y3)
      w27
noncomputable def f19_sig (k : Nat) : Sig := ⟨[.val (.pair (.str) (.pair (.int .i64) (.pair (.int .i64) (.pair (.sl (.pair (.int .u8) (.pair (.int .i64) (.pair (.int .i64) (.pair (.sl (.pair (.int .i64) (.pair (.int .i64) (.pair (.int .i64) (.pair (.int .i64) (.unit)))))) (.unit)))))) (.pair (.sl (.int .i64)) (.pair (.bool) (.pair (.bool) (.pair (.sl (.pair (.int .i64) (.pair (.int .i64) (.pair (.int .i64) (.pair (.bool) (.unit)))))) (.pair (.int .i64) (.pair (.int .i64) (.pair (.int .i64) (.unit)))))))))))), .val (.int .i64), .val (.sl (.int .i64)), .val (.int .i64)], [], [[.val (.int .i64), .val (.int .i64)]], fun x => f19 k x.1 x.2.1 x.2.2.1 x.2.2.2.1⟩
noncomputable def E_f19 (k : Nat) : Env := ⟨Try.prog, G0, scons 18 [f18_sig k] (scons 17 [f17_sig k] (snil)), tcons 5 (l19_5_sig k) (tnil), tnil, unil, k, qnil⟩
theorem l19_5_ok (k : Nat) : LoopOK (E_f19 k) ⟨Try.f19.ntmps, [], G0⟩ (nthC 0 (loopsIn (Try.f19.body.getD .skip))) :=
  loop_ok (ls := l19_5_sig k) (by kernel_rfl) (fun _ => by kernel_rfl) (fun j x => by kernel_rfl)
theorem f19_run (k : Nat) (x : (lTy (lay 0 (f19_sig k).ins)).den) : runF (E_f19 k) Try.f19 (f19_sig k) x = (f19_sig k).F x := by kernel_rfl
theorem f19_ok [Dr] (k : Nat) : FnOK Try.prog G0 19 (f19_sig k) :=
  fn_ok2 (E := E_f19 k) (env_cons (one_sig (f18_ok k)) (env_cons (one_sig (f17_ok k)) (env_nil))) (qenv_nil) mixed Try.func19 Try.call19 (by kernel_rfl) (by kernel_rfl) (m := 1) (by kernel_rfl) ⟨trivial, l19_5_ok k⟩ (sk := []) (by kernel_rfl) trivial (f19_run k)

/-! ### gamehall/gamehallkeep3.HandicapNone: function 7 -/
noncomputable def f7 (k : Nat) (x0 : ByteArray × Int × Int × (List (Int × Int × Int × (List (Int × Int × Int × Int × Unit)) × Unit)) × (List Int) × Bool × Bool × (List (Int × Int × Int × Bool × Unit)) × Int × Int × Int × Unit) (x1 : Int) (x2 : List Int) (x3 : Int) : Option ((Bool × Unit)) :=
  (f15 k).bind fun r1 =>
  bif !r1.1 then
    some (false, ())
  else
  bif decide (0 ≤ (if 3 < (x2.length : Int) then 3 else (x2.length : Int))) && decide ((if 3 < (x2.length : Int) then 3 else (x2.length : Int)) ≤ (x2.length : Int)) then
    (f16 k x0).bind fun r2 =>
    bif r2.1 then
      some (true, ())
    else
    bif decide (x3 > 3) then
      some (true, ())
    else
      (f17 k x0 x1 []).bind fun r3 =>
      (f18 k x0 x3).bind fun r4 =>
      (f18 k r3.1 x3).bind fun r5 =>
      (f19 k x0 x1 (sliceOf x2 0 (if 3 < (x2.length : Int) then 3 else (x2.length : Int))) x3).bind fun r6 =>
      bif r3.2.1 != 0 then
        bif r6.2.1 == r3.2.1 then
          some (r6.1 == 0, ())
        else
          some (false, ())
      else
        (f17 k x0 x1 (sliceOf x2 0 (if 3 < (x2.length : Int) then 3 else (x2.length : Int)))).bind fun r7 =>
        bif r7.2.1 != 0 then
          bif r6.2.1 == r7.2.1 then
            some (r6.1 == 0, ())
          else
            some (false, ())
        else
        bif r4.2.1 != r5.2.1 then
          bif r4.2.1 == r5.2.1 then
            some (r4.1 == r5.1, ())
          else
            some (false, ())
        else
        bif r4.1 != r5.1 then
          bif r4.2.1 == r5.2.1 then
            some (r4.1 == r5.1, ())
          else
            some (false, ())
        else
        bif r4.2.1 != 0 then
          bif r4.2.1 == r5.2.1 then
            some (r4.1 == r5.1, ())
          else
            some (false, ())
        else
        bif r6.2.1 != 0 then
          bif r6.2.1 != 8 then
            bif r4.2.1 == r5.2.1 then
              some (r4.1 == r5.1, ())
            else
              some (false, ())
          else
          bif r6.2.1 == 0 then
            some ((r6.1 == 0) == (r4.1 != (w64 (1 + x1))), ())
          else
            some (false == (r4.1 != (w64 (1 + x1))), ())
        else
        bif r6.2.1 == 0 then
          some ((r6.1 == 0) == (r4.1 != (w64 (1 + x1))), ())
        else
          some (false == (r4.1 != (w64 (1 + x1))), ())
  else
    none
noncomputable def f7_sig (k : Nat) : Sig := ⟨[.val (.pair (.str) (.pair (.int .i64) (.pair (.int .i64) (.pair (.sl (.pair (.int .u8) (.pair (.int .i64) (.pair (.int .i64) (.pair (.sl (.pair (.int .i64) (.pair (.int .i64) (.pair (.int .i64) (.pair (.int .i64) (.unit)))))) (.unit)))))) (.pair (.sl (.int .i64)) (.pair (.bool) (.pair (.bool) (.pair (.sl (.pair (.int .i64) (.pair (.int .i64) (.pair (.int .i64) (.pair (.bool) (.unit)))))) (.pair (.int .i64) (.pair (.int .i64) (.pair (.int .i64) (.unit)))))))))))), .val (.int .i64), .val (.sl (.int .i64)), .val (.int .i64)], [], [[.val (.bool)]], fun x => f7 k x.1 x.2.1 x.2.2.1 x.2.2.2.1⟩
noncomputable def E_f7 (k : Nat) : Env := ⟨Try.prog, G0, scons 19 [f19_sig k] (scons 18 [f18_sig k] (scons 17 [f17_sig k] (scons 16 [f16_sig k] (scons 15 [f15_sig k] (snil))))), tnil, tnil, unil, k, qnil⟩
theorem f7_run (k : Nat) (x : (lTy (lay 0 (f7_sig k).ins)).den) : runF (E_f7 k) Try.f7 (f7_sig k) x = (f7_sig k).F x := by kernel_rfl
theorem f7_ok [Dr] (k : Nat) : FnOK Try.prog G0 7 (f7_sig k) :=
  fn_ok2 (E := E_f7 k) (env_cons (one_sig (f19_ok k)) (env_cons (one_sig (f18_ok k)) (env_cons (one_sig (f17_ok k)) (env_cons (one_sig (f16_ok k)) (env_cons (one_sig (f15_ok k)) (env_nil)))))) (qenv_nil) mixed Try.func7 Try.call7 (by kernel_rfl) (by kernel_rfl) (m := 0) (by kernel_rfl) trivial (sk := []) (by kernel_rfl) trivial (f7_run k)

end Go.Proofs.Ytnjjioeehbanjaa.G
