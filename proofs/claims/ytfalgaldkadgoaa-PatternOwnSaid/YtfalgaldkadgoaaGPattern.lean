import Derived.Test.YtfalgaldkadgoaaVM21
import Derived.Test.YtfalgaldkadgoaaChecked
namespace Go.Proofs.Ytfalgaldkadgoaa.G
open Go.VM Go.Proofs

abbrev w64 (n : Int) : Int := IntKind.i64.wrap n
theorem mixed : Try.prog.follows .mixedOrders = true := by kernel_rfl

/-! ### gamehall/gamehallkeep3.tic: function 52 -/
noncomputable def f52 (k : Nat) : Option (((ByteArray × Int × Int × (List (Int × Int × Int × (List (Int × Int × Int × Int × Unit)) × Unit)) × (List Int) × Bool × Bool × (List (Int × Int × Int × Bool × Unit)) × Int × Int × Int × Unit) × Unit)) :=
  some (((⟨#[84, 73, 67]⟩ : ByteArray), 3, 3, [(83, 5, 0, [], ())], List.replicate (9 : Int).toNat 0, false, false, [(0, 0, 3, false, ())], 2, 0, 0, ()), ())
noncomputable def f52_sig (k : Nat) : Sig := ⟨[], [], [[.cons (.val (.str)) (.cons (.val (.int .i64)) (.cons (.val (.int .i64)) (.cons (.row (.pair (.int .u8) (.pair (.int .i64) (.pair (.int .i64) (.pair (.sl (.pair (.int .i64) (.pair (.int .i64) (.pair (.int .i64) (.pair (.int .i64) (.unit)))))) (.unit)))))) (.cons (.row (.int .i64)) (.cons (.val (.bool)) (.cons (.val (.bool)) (.cons (.row (.pair (.int .i64) (.pair (.int .i64) (.pair (.int .i64) (.pair (.bool) (.unit)))))) (.cons (.val (.int .i64)) (.cons (.val (.int .i64)) (.cons (.val (.int .i64)) (.nil)))))))))))]], fun x => f52 k⟩
noncomputable def E_f52 (k : Nat) : Env := ⟨Try.prog, snil, tnil, tnil, unil, k⟩
theorem f52_run (k : Nat) (x : (lTy (lay 0 (f52_sig k).ins)).den) : runF (E_f52 k) Try.f52 (f52_sig k) x = (f52_sig k).F x := by kernel_rfl
theorem f52_ok (k : Nat) : FnOK Try.prog 52 (f52_sig k) :=
  fn_ok2 (E := E_f52 k) (env_nil) mixed Try.func52 Try.call52 (by kernel_rfl) (by kernel_rfl) (m := 0) (by kernel_rfl) trivial (sk := []) (by kernel_rfl) trivial (f52_run k)

/-! ### gamehall/rules.Name: function 71 -/
noncomputable def l71_4 (k : Nat) : Nat → ByteArray → Int → Int → Option (Unit ⊕ (Bool × Unit))
  | 0, _, _, _ => none
  | j + 1, s0, s22, s23 =>
    bif decide (s23 < s22) then
      bif decide (0 ≤ s23) && decide (s23 < (s0.size : Int)) then
        bif decide ((bt s0 s23) < 65) then
          bif decide (0 ≤ s23) && decide (s23 < (s0.size : Int)) then
            bif decide ((bt s0 s23) < 48) then
              some (.inr (false, ()))
            else
            bif decide (0 ≤ s23) && decide (s23 < (s0.size : Int)) then
              bif decide ((bt s0 s23) > 57) then
                some (.inr (false, ()))
              else
                l71_4 k j s0 s22 (w64 (s23 + 1))
            else
              none
          else
            none
        else
        bif decide (0 ≤ s23) && decide (s23 < (s0.size : Int)) then
          bif decide ((bt s0 s23) > 90) then
            bif decide (0 ≤ s23) && decide (s23 < (s0.size : Int)) then
              bif decide ((bt s0 s23) < 48) then
                some (.inr (false, ()))
              else
              bif decide (0 ≤ s23) && decide (s23 < (s0.size : Int)) then
                bif decide ((bt s0 s23) > 57) then
                  some (.inr (false, ()))
                else
                  l71_4 k j s0 s22 (w64 (s23 + 1))
              else
                none
            else
              none
          else
            l71_4 k j s0 s22 (w64 (s23 + 1))
        else
          none
      else
        none
    else
      some (.inl ())
noncomputable def l71_4_sig (k : Nat) : LoopSig := ⟨[(0, .obj (.val (.str))), (22, .obj (.val (.int .i64))), (23, .obj (.val (.int .i64)))], [(.exit 0, []), (.ret, [(2, .obj (.val (.bool)))])], fun j x => l71_4 k j x.1 x.2.1 x.2.2.1⟩
noncomputable def f71 (k : Nat) (x0 : ByteArray) : Option ((Bool × Unit)) :=
  bif x0.toList == (⟨#[]⟩ : ByteArray).toList then
    some (false, ())
  else
  bif decide ((x0.size : Int) > 8) then
    some (false, ())
  else
  bif decide (0 < (x0.size : Int)) then
    bif decide ((bt x0 0) ≥ 48) then
      bif decide (0 < (x0.size : Int)) then
        bif decide ((bt x0 0) ≤ 57) then
          some (false, ())
        else
          (l71_4 k k x0 (x0.size : Int) 0).bind fun w1 =>
          Sum.elim
            (fun y1 =>
              some (true, ()))
            (fun y2 =>
              some y2)
            w1
      else
        none
    else
      (l71_4 k k x0 (x0.size : Int) 0).bind fun w2 =>
      Sum.elim
        (fun y3 =>
          some (true, ()))
        (fun y4 =>
          some y4)
        w2
  else
    none
noncomputable def f71_sig (k : Nat) : Sig := ⟨[.val (.str)], [], [[.val (.bool)]], fun x => f71 k x.1⟩
noncomputable def E_f71 (k : Nat) : Env := ⟨Try.prog, snil, tcons 4 (l71_4_sig k) (tnil), tnil, unil, k⟩
theorem l71_4_ok (k : Nat) : LoopOK (E_f71 k) ⟨Try.f71.ntmps, []⟩ (nthC 0 (loopsIn (Try.f71.body.getD .skip))) :=
  loop_ok (ls := l71_4_sig k) (by kernel_rfl) (fun _ => by kernel_rfl) (fun j x => by kernel_rfl)
theorem f71_run (k : Nat) (x : (lTy (lay 0 (f71_sig k).ins)).den) : runF (E_f71 k) Try.f71 (f71_sig k) x = (f71_sig k).F x := by kernel_rfl
theorem f71_ok (k : Nat) : FnOK Try.prog 71 (f71_sig k) :=
  fn_ok2 (E := E_f71 k) (env_nil) mixed Try.func71 Try.call71 (by kernel_rfl) (by kernel_rfl) (m := 1) (by kernel_rfl) ⟨trivial, l71_4_ok k⟩ (sk := []) (by kernel_rfl) trivial (f71_run k)

/-! ### gamehall/rules.way: function 79 -/
noncomputable def f79 (k : Nat) (x0 : Int × Int × Int × Int × Unit) : Option ((Int × Unit)) :=
  bif decide (x0.1 < (-7)) then
    some (4, ())
  else
  bif decide (x0.1 > 7) then
    some (4, ())
  else
  bif decide (x0.2.1 < (-7)) then
    some (4, ())
  else
  bif decide (x0.2.1 > 7) then
    some (4, ())
  else
  bif x0.1 == 0 then
    bif x0.2.1 == 0 then
      some (4, ())
    else
    bif decide (x0.2.2.1 < 1) then
      some (4, ())
    else
    bif decide (x0.2.2.1 > 7) then
      some (4, ())
    else
    bif decide (x0.2.2.2.1 < 0) then
      some (4, ())
    else
    bif decide (x0.2.2.2.1 > 2) then
      some (4, ())
    else
      some (0, ())
  else
  bif decide (x0.2.2.1 < 1) then
    some (4, ())
  else
  bif decide (x0.2.2.1 > 7) then
    some (4, ())
  else
  bif decide (x0.2.2.2.1 < 0) then
    some (4, ())
  else
  bif decide (x0.2.2.2.1 > 2) then
    some (4, ())
  else
    some (0, ())
noncomputable def f79_sig (k : Nat) : Sig := ⟨[.val (.pair (.int .i64) (.pair (.int .i64) (.pair (.int .i64) (.pair (.int .i64) (.unit)))))], [], [[.val (.int .i64)]], fun x => f79 k x.1⟩
noncomputable def E_f79 (k : Nat) : Env := ⟨Try.prog, snil, tnil, tnil, unil, k⟩
theorem f79_run (k : Nat) (x : (lTy (lay 0 (f79_sig k).ins)).den) : runF (E_f79 k) Try.f79 (f79_sig k) x = (f79_sig k).F x := by kernel_rfl
theorem f79_ok (k : Nat) : FnOK Try.prog 79 (f79_sig k) :=
  fn_ok2 (E := E_f79 k) (env_nil) mixed Try.func79 Try.call79 (by kernel_rfl) (by kernel_rfl) (m := 0) (by kernel_rfl) trivial (sk := []) (by kernel_rfl) trivial (f79_run k)

/-! ### gamehall/rules.pieces: function 72 -/
noncomputable def l72_11 (k : Nat) : Nat → (List (Int × Int × Int × (List (Int × Int × Int × Int × Unit)) × Unit)) → (Int × Int × Int × (List (Int × Int × Int × Int × Unit)) × Unit) → (List (Int × Int × Int × (List (Int × Int × Int × Int × Unit)) × Unit)) → Int → Int → (List (Int × Int × Int × (List (Int × Int × Int × Int × Unit)) × Unit)) → Int → Int → Option (((List (Int × Int × Int × (List (Int × Int × Int × Int × Unit)) × Unit)) × (Int × Int × Int × (List (Int × Int × Int × Int × Unit)) × Unit) × (List (Int × Int × Int × (List (Int × Int × Int × Int × Unit)) × Unit)) × Int × Int × Unit) ⊕ (Int × Unit))
  | 0, _, _, _, _, _, _, _, _ => none
  | j + 1, s0, s4, s18, s19, s20, s35, s36, s37 =>
    bif decide (s37 < s36) then
      bif decide (0 ≤ s37) && decide (s37 < (s35.length : Int)) then
        bif (rd ((0, 0, 0, [], ()) : Int × Int × Int × (List (Int × Int × Int × Int × Unit)) × Unit) s35 s37).1 == s4.1 then
          some (.inr (7, ()))
        else
          l72_11 k j s0 s4 s18 s19 s20 s35 s36 (w64 (s37 + 1))
      else
        none
    else
      some (.inl (s0, s4, s18, s19, s20, ()))
noncomputable def l72_11_sig (k : Nat) : LoopSig := ⟨[(0, .obj (.val (.sl (.pair (.int .u8) (.pair (.int .i64) (.pair (.int .i64) (.pair (.sl (.pair (.int .i64) (.pair (.int .i64) (.pair (.int .i64) (.pair (.int .i64) (.unit)))))) (.unit)))))))), (4, .obj (.box (.val (.pair (.int .u8) (.pair (.int .i64) (.pair (.int .i64) (.pair (.sl (.pair (.int .i64) (.pair (.int .i64) (.pair (.int .i64) (.pair (.int .i64) (.unit)))))) (.unit)))))))), (18, .obj (.val (.sl (.pair (.int .u8) (.pair (.int .i64) (.pair (.int .i64) (.pair (.sl (.pair (.int .i64) (.pair (.int .i64) (.pair (.int .i64) (.pair (.int .i64) (.unit)))))) (.unit)))))))), (19, .obj (.val (.int .i64))), (20, .obj (.val (.int .i64))), (35, .obj (.val (.sl (.pair (.int .u8) (.pair (.int .i64) (.pair (.int .i64) (.pair (.sl (.pair (.int .i64) (.pair (.int .i64) (.pair (.int .i64) (.pair (.int .i64) (.unit)))))) (.unit)))))))), (36, .obj (.val (.int .i64))), (37, .obj (.val (.int .i64)))], [(.exit 3, [(0, .obj (.val (.sl (.pair (.int .u8) (.pair (.int .i64) (.pair (.int .i64) (.pair (.sl (.pair (.int .i64) (.pair (.int .i64) (.pair (.int .i64) (.pair (.int .i64) (.unit)))))) (.unit)))))))), (4, .obj (.box (.val (.pair (.int .u8) (.pair (.int .i64) (.pair (.int .i64) (.pair (.sl (.pair (.int .i64) (.pair (.int .i64) (.pair (.int .i64) (.pair (.int .i64) (.unit)))))) (.unit)))))))), (18, .obj (.val (.sl (.pair (.int .u8) (.pair (.int .i64) (.pair (.int .i64) (.pair (.sl (.pair (.int .i64) (.pair (.int .i64) (.pair (.int .i64) (.pair (.int .i64) (.unit)))))) (.unit)))))))), (19, .obj (.val (.int .i64))), (20, .obj (.val (.int .i64)))]), (.ret, [(2, .obj (.val (.int .i64)))])], fun j x => l72_11 k j x.1 x.2.1 x.2.2.1 x.2.2.2.1 x.2.2.2.2.1 x.2.2.2.2.2.1 x.2.2.2.2.2.2.1 x.2.2.2.2.2.2.2.1⟩
noncomputable def l72_21 (k : Nat) : Nat → (List (Int × Int × Int × (List (Int × Int × Int × Int × Unit)) × Unit)) → (List (Int × Int × Int × (List (Int × Int × Int × Int × Unit)) × Unit)) → Int → Int → (List (Int × Int × Int × Int × Unit)) → Int → Int → Option (((List (Int × Int × Int × (List (Int × Int × Int × Int × Unit)) × Unit)) × (List (Int × Int × Int × (List (Int × Int × Int × Int × Unit)) × Unit)) × Int × Int × Unit) ⊕ (Int × Unit))
  | 0, _, _, _, _, _, _, _ => none
  | j + 1, s0, s18, s19, s20, s72, s73, s74 =>
    bif decide (s74 < s73) then
      bif decide (0 ≤ s74) && decide (s74 < (s72.length : Int)) then
        (f79 k (rd ((0, 0, 0, 0, ()) : Int × Int × Int × Int × Unit) s72 s74)).bind fun r1 =>
        bif r1.1 != 0 then
          some (.inr r1)
        else
          l72_21 k j s0 s18 s19 s20 s72 s73 (w64 (s74 + 1))
      else
        none
    else
      some (.inl (s0, s18, s19, s20, ()))
noncomputable def l72_21_sig (k : Nat) : LoopSig := ⟨[(0, .obj (.val (.sl (.pair (.int .u8) (.pair (.int .i64) (.pair (.int .i64) (.pair (.sl (.pair (.int .i64) (.pair (.int .i64) (.pair (.int .i64) (.pair (.int .i64) (.unit)))))) (.unit)))))))), (18, .obj (.val (.sl (.pair (.int .u8) (.pair (.int .i64) (.pair (.int .i64) (.pair (.sl (.pair (.int .i64) (.pair (.int .i64) (.pair (.int .i64) (.pair (.int .i64) (.unit)))))) (.unit)))))))), (19, .obj (.val (.int .i64))), (20, .obj (.val (.int .i64))), (72, .obj (.val (.sl (.pair (.int .i64) (.pair (.int .i64) (.pair (.int .i64) (.pair (.int .i64) (.unit)))))))), (73, .obj (.val (.int .i64))), (74, .obj (.val (.int .i64)))], [(.exit 5, [(0, .obj (.val (.sl (.pair (.int .u8) (.pair (.int .i64) (.pair (.int .i64) (.pair (.sl (.pair (.int .i64) (.pair (.int .i64) (.pair (.int .i64) (.pair (.int .i64) (.unit)))))) (.unit)))))))), (18, .obj (.val (.sl (.pair (.int .u8) (.pair (.int .i64) (.pair (.int .i64) (.pair (.sl (.pair (.int .i64) (.pair (.int .i64) (.pair (.int .i64) (.pair (.int .i64) (.unit)))))) (.unit)))))))), (19, .obj (.val (.int .i64))), (20, .obj (.val (.int .i64)))]), (.ret, [(2, .obj (.val (.int .i64)))])], fun j x => l72_21 k j x.1 x.2.1 x.2.2.1 x.2.2.2.1 x.2.2.2.2.1 x.2.2.2.2.2.1 x.2.2.2.2.2.2.1⟩
noncomputable def l72_6 (k : Nat) : Nat → (List (Int × Int × Int × (List (Int × Int × Int × Int × Unit)) × Unit)) → (List (Int × Int × Int × (List (Int × Int × Int × Int × Unit)) × Unit)) → Int → Int → Option (Unit ⊕ (Int × Unit))
  | 0, _, _, _, _ => none
  | j + 1, s0, s18, s19, s20 =>
    bif decide (s20 < s19) then
      bif decide (0 ≤ s20) && decide (s20 < (s18.length : Int)) then
        bif decide ((rd ((0, 0, 0, [], ()) : Int × Int × Int × (List (Int × Int × Int × Int × Unit)) × Unit) s18 s20).1 < 65) then
          some (.inr (6, ()))
        else
        bif decide ((rd ((0, 0, 0, [], ()) : Int × Int × Int × (List (Int × Int × Int × Int × Unit)) × Unit) s18 s20).1 > 90) then
          some (.inr (6, ()))
        else
        bif decide (0 ≤ s20) && decide (s20 ≤ (s0.length : Int)) then
          (l72_11 k k s0 (rd ((0, 0, 0, [], ()) : Int × Int × Int × (List (Int × Int × Int × Int × Unit)) × Unit) s18 s20) s18 s19 s20 (sliceOf s0 0 s20) ((sliceOf s0 0 s20).length : Int) 0).bind fun w3 =>
          Sum.elim
            (fun y1 =>
              bif decide (y1.2.1.2.1 < 0) then
                some (.inr (4, ()))
              else
              bif decide (y1.2.1.2.1 > 64) then
                some (.inr (4, ()))
              else
              bif decide (y1.2.1.2.2.1 < 0) then
                some (.inr (4, ()))
              else
              bif decide (y1.2.1.2.2.1 > (y1.1.length : Int)) then
                some (.inr (4, ()))
              else
              bif decide ((y1.2.1.2.2.2.1.length : Int) > 16) then
                some (.inr (2, ()))
              else
                (l72_21 k k y1.1 y1.2.2.1 y1.2.2.2.1 y1.2.2.2.2.1 y1.2.1.2.2.2.1 (y1.2.1.2.2.2.1.length : Int) 0).bind fun w4 =>
                Sum.elim
                  (fun y2 =>
                    l72_6 k j y2.1 y2.2.1 y2.2.2.1 (w64 (y2.2.2.2.1 + 1)))
                  (fun y3 =>
                    some (.inr y3))
                  w4)
            (fun y4 =>
              some (.inr y4))
            w3
        else
          none
      else
        none
    else
      some (.inl ())
noncomputable def l72_6_sig (k : Nat) : LoopSig := ⟨[(0, .obj (.val (.sl (.pair (.int .u8) (.pair (.int .i64) (.pair (.int .i64) (.pair (.sl (.pair (.int .i64) (.pair (.int .i64) (.pair (.int .i64) (.pair (.int .i64) (.unit)))))) (.unit)))))))), (18, .obj (.val (.sl (.pair (.int .u8) (.pair (.int .i64) (.pair (.int .i64) (.pair (.sl (.pair (.int .i64) (.pair (.int .i64) (.pair (.int .i64) (.pair (.int .i64) (.unit)))))) (.unit)))))))), (19, .obj (.val (.int .i64))), (20, .obj (.val (.int .i64)))], [(.exit 1, []), (.ret, [(2, .obj (.val (.int .i64)))])], fun j x => l72_6 k j x.1 x.2.1 x.2.2.1 x.2.2.2.1⟩
noncomputable def f72 (k : Nat) (x0 : List (Int × Int × Int × (List (Int × Int × Int × Int × Unit)) × Unit)) : Option ((Int × Unit)) :=
  bif (x0.length : Int) == 0 then
    some (8, ())
  else
  bif decide ((x0.length : Int) > 6) then
    some (2, ())
  else
    (l72_6 k k x0 x0 (x0.length : Int) 0).bind fun w5 =>
    Sum.elim
      (fun y1 =>
        some (0, ()))
      (fun y2 =>
        some y2)
      w5
noncomputable def f72_sig (k : Nat) : Sig := ⟨[.val (.sl (.pair (.int .u8) (.pair (.int .i64) (.pair (.int .i64) (.pair (.sl (.pair (.int .i64) (.pair (.int .i64) (.pair (.int .i64) (.pair (.int .i64) (.unit)))))) (.unit))))))], [], [[.val (.int .i64)]], fun x => f72 k x.1⟩
noncomputable def E_f72 (k : Nat) : Env := ⟨Try.prog, scons 79 [f79_sig k] (snil), tcons 6 (l72_6_sig k) (tcons 21 (l72_21_sig k) (tcons 11 (l72_11_sig k) (tnil))), tnil, unil, k⟩
theorem l72_6_ok (k : Nat) : LoopOK (E_f72 k) ⟨Try.f72.ntmps, []⟩ (nthC 0 (loopsIn (Try.f72.body.getD .skip))) :=
  loop_ok (ls := l72_6_sig k) (by kernel_rfl) (fun _ => by kernel_rfl) (fun j x => by kernel_rfl)
theorem l72_11_ok (k : Nat) : LoopOK (E_f72 k) ⟨Try.f72.ntmps, []⟩ (nthC 1 (loopsIn (Try.f72.body.getD .skip))) :=
  loop_ok (ls := l72_11_sig k) (by kernel_rfl) (fun _ => by kernel_rfl) (fun j x => by kernel_rfl)
theorem l72_21_ok (k : Nat) : LoopOK (E_f72 k) ⟨Try.f72.ntmps, []⟩ (nthC 2 (loopsIn (Try.f72.body.getD .skip))) :=
  loop_ok (ls := l72_21_sig k) (by kernel_rfl) (fun _ => by kernel_rfl) (fun j x => by kernel_rfl)
theorem f72_run (k : Nat) (x : (lTy (lay 0 (f72_sig k).ins)).den) : runF (E_f72 k) Try.f72 (f72_sig k) x = (f72_sig k).F x := by kernel_rfl
theorem f72_ok (k : Nat) : FnOK Try.prog 72 (f72_sig k) :=
  fn_ok2 (E := E_f72 k) (env_cons (one_sig (f79_ok k)) (env_nil)) mixed Try.func72 Try.call72 (by kernel_rfl) (by kernel_rfl) (m := 3) (by kernel_rfl) ⟨⟨⟨trivial, l72_6_ok k⟩, l72_11_ok k⟩, l72_21_ok k⟩ (sk := []) (by kernel_rfl) trivial (f72_run k)

/-! ### gamehall/rules.end: function 73 -/
noncomputable def f73 (k : Nat) (x0 : Int × Int × Int × Bool × Unit) (x1 : Int) : Option ((Int × Unit)) :=
  bif x0.1 == 0 then
    bif x0.2.1 != 0 then
      some (4, ())
    else
    bif decide (x0.2.2.1 < 1) then
      some (4, ())
    else
    bif decide (x0.2.2.1 > 64) then
      some (4, ())
    else
      some (0, ())
  else
  bif x0.1 == 1 then
    bif decide (x0.2.1 < 0) then
      some (4, ())
    else
    bif decide (x0.2.1 ≥ x1) then
      some (4, ())
    else
    bif x0.2.2.1 != 0 then
      some (4, ())
    else
      some (0, ())
  else
  bif x0.1 == 2 then
    bif decide (x0.2.1 < 0) then
      some (4, ())
    else
    bif decide (x0.2.1 ≥ x1) then
      some (4, ())
    else
    bif decide (x0.2.2.1 < 1) then
      some (4, ())
    else
    bif decide (x0.2.2.1 > 64) then
      some (4, ())
    else
      some (0, ())
  else
    some (1, ())
noncomputable def f73_sig (k : Nat) : Sig := ⟨[.val (.pair (.int .i64) (.pair (.int .i64) (.pair (.int .i64) (.pair (.bool) (.unit))))), .val (.int .i64)], [], [[.val (.int .i64)]], fun x => f73 k x.1 x.2.1⟩
noncomputable def E_f73 (k : Nat) : Env := ⟨Try.prog, snil, tnil, tnil, unil, k⟩
theorem f73_run (k : Nat) (x : (lTy (lay 0 (f73_sig k).ins)).den) : runF (E_f73 k) Try.f73 (f73_sig k) x = (f73_sig k).F x := by kernel_rfl
theorem f73_ok (k : Nat) : FnOK Try.prog 73 (f73_sig k) :=
  fn_ok2 (E := E_f73 k) (env_nil) mixed Try.func73 Try.call73 (by kernel_rfl) (by kernel_rfl) (m := 0) (by kernel_rfl) trivial (sk := []) (by kernel_rfl) trivial (f73_run k)

/-! ### gamehall/rules.Check: function 64 -/
noncomputable def l64_11 (k : Nat) : Nat → (ByteArray × Int × Int × (List (Int × Int × Int × (List (Int × Int × Int × Int × Unit)) × Unit)) × (List Int) × Bool × Bool × (List (Int × Int × Int × Bool × Unit)) × Int × Int × Int × Unit) → (List Int) → Int → Int → Option (((ByteArray × Int × Int × (List (Int × Int × Int × (List (Int × Int × Int × Int × Unit)) × Unit)) × (List Int) × Bool × Bool × (List (Int × Int × Int × Bool × Unit)) × Int × Int × Int × Unit) × Unit) ⊕ (Int × Unit))
  | 0, _, _, _, _ => none
  | j + 1, s1, s49, s50, s51 =>
    bif decide (s51 < s50) then
      bif decide (0 ≤ s51) && decide (s51 < (s49.length : Int)) then
        bif decide ((rd 0 s49 s51) < 0) then
          some (.inr (4, ()))
        else
        bif decide ((rd 0 s49 s51) > (w64 (2 * (s1.2.2.2.1.length : Int)))) then
          some (.inr (4, ()))
        else
          l64_11 k j s1 s49 s50 (w64 (s51 + 1))
      else
        none
    else
      some (.inl (s1, ()))
noncomputable def l64_11_sig (k : Nat) : LoopSig := ⟨[(1, .obj (.box (.val (.pair (.str) (.pair (.int .i64) (.pair (.int .i64) (.pair (.sl (.pair (.int .u8) (.pair (.int .i64) (.pair (.int .i64) (.pair (.sl (.pair (.int .i64) (.pair (.int .i64) (.pair (.int .i64) (.pair (.int .i64) (.unit)))))) (.unit)))))) (.pair (.sl (.int .i64)) (.pair (.bool) (.pair (.bool) (.pair (.sl (.pair (.int .i64) (.pair (.int .i64) (.pair (.int .i64) (.pair (.bool) (.unit)))))) (.pair (.int .i64) (.pair (.int .i64) (.pair (.int .i64) (.unit))))))))))))))), (49, .obj (.val (.sl (.int .i64)))), (50, .obj (.val (.int .i64))), (51, .obj (.val (.int .i64)))], [(.exit 1, [(1, .obj (.box (.val (.pair (.str) (.pair (.int .i64) (.pair (.int .i64) (.pair (.sl (.pair (.int .u8) (.pair (.int .i64) (.pair (.int .i64) (.pair (.sl (.pair (.int .i64) (.pair (.int .i64) (.pair (.int .i64) (.pair (.int .i64) (.unit)))))) (.unit)))))) (.pair (.sl (.int .i64)) (.pair (.bool) (.pair (.bool) (.pair (.sl (.pair (.int .i64) (.pair (.int .i64) (.pair (.int .i64) (.pair (.bool) (.unit)))))) (.pair (.int .i64) (.pair (.int .i64) (.pair (.int .i64) (.unit)))))))))))))))]), (.ret, [(2, .obj (.val (.int .i64)))])], fun j x => l64_11 k j x.1 x.2.1 x.2.2.1 x.2.2.2.1⟩
noncomputable def l64_19 (k : Nat) : Nat → (ByteArray × Int × Int × (List (Int × Int × Int × (List (Int × Int × Int × Int × Unit)) × Unit)) × (List Int) × Bool × Bool × (List (Int × Int × Int × Bool × Unit)) × Int × Int × Int × Unit) → (List (Int × Int × Int × Bool × Unit)) → Int → Int → Option (((ByteArray × Int × Int × (List (Int × Int × Int × (List (Int × Int × Int × Int × Unit)) × Unit)) × (List Int) × Bool × Bool × (List (Int × Int × Int × Bool × Unit)) × Int × Int × Int × Unit) × Unit) ⊕ (Int × Unit))
  | 0, _, _, _, _ => none
  | j + 1, s1, s71, s72, s73 =>
    bif decide (s73 < s72) then
      bif decide (0 ≤ s73) && decide (s73 < (s71.length : Int)) then
        (f73 k (rd ((0, 0, 0, false, ()) : Int × Int × Int × Bool × Unit) s71 s73) (s1.2.2.2.1.length : Int)).bind fun r1 =>
        bif r1.1 != 0 then
          some (.inr r1)
        else
          l64_19 k j s1 s71 s72 (w64 (s73 + 1))
      else
        none
    else
      some (.inl (s1, ()))
noncomputable def l64_19_sig (k : Nat) : LoopSig := ⟨[(1, .obj (.box (.val (.pair (.str) (.pair (.int .i64) (.pair (.int .i64) (.pair (.sl (.pair (.int .u8) (.pair (.int .i64) (.pair (.int .i64) (.pair (.sl (.pair (.int .i64) (.pair (.int .i64) (.pair (.int .i64) (.pair (.int .i64) (.unit)))))) (.unit)))))) (.pair (.sl (.int .i64)) (.pair (.bool) (.pair (.bool) (.pair (.sl (.pair (.int .i64) (.pair (.int .i64) (.pair (.int .i64) (.pair (.bool) (.unit)))))) (.pair (.int .i64) (.pair (.int .i64) (.pair (.int .i64) (.unit))))))))))))))), (71, .obj (.val (.sl (.pair (.int .i64) (.pair (.int .i64) (.pair (.int .i64) (.pair (.bool) (.unit)))))))), (72, .obj (.val (.int .i64))), (73, .obj (.val (.int .i64)))], [(.exit 3, [(1, .obj (.box (.val (.pair (.str) (.pair (.int .i64) (.pair (.int .i64) (.pair (.sl (.pair (.int .u8) (.pair (.int .i64) (.pair (.int .i64) (.pair (.sl (.pair (.int .i64) (.pair (.int .i64) (.pair (.int .i64) (.pair (.int .i64) (.unit)))))) (.unit)))))) (.pair (.sl (.int .i64)) (.pair (.bool) (.pair (.bool) (.pair (.sl (.pair (.int .i64) (.pair (.int .i64) (.pair (.int .i64) (.pair (.bool) (.unit)))))) (.pair (.int .i64) (.pair (.int .i64) (.pair (.int .i64) (.unit)))))))))))))))]), (.ret, [(2, .obj (.val (.int .i64)))])], fun j x => l64_19 k j x.1 x.2.1 x.2.2.1 x.2.2.2.1⟩
noncomputable def f64 (k : Nat) (x0 : ByteArray × Int × Int × (List (Int × Int × Int × (List (Int × Int × Int × Int × Unit)) × Unit)) × (List Int) × Bool × Bool × (List (Int × Int × Int × Bool × Unit)) × Int × Int × Int × Unit) : Option ((Int × Unit)) :=
  (f71 k x0.1).bind fun r1 =>
  bif !r1.1 then
    some (6, ())
  else
  bif decide (x0.2.1 < 1) then
    some (4, ())
  else
  bif decide (x0.2.1 > 8) then
    some (4, ())
  else
  bif decide (x0.2.2.1 < 1) then
    some (4, ())
  else
  bif decide (x0.2.2.1 > 8) then
    some (4, ())
  else
    (f72 k x0.2.2.2.1).bind fun r2 =>
    bif r2.1 != 0 then
      some r2
    else
    bif (x0.2.2.2.2.1.length : Int) != (w64 (x0.2.1 * x0.2.2.1)) then
      some (3, ())
    else
      (l64_11 k k x0 x0.2.2.2.2.1 (x0.2.2.2.2.1.length : Int) 0).bind fun w6 =>
      Sum.elim
        (fun y3 =>
          bif decide ((y3.1.2.2.2.2.2.2.2.1.length : Int) > 6) then
            some (2, ())
          else
            (l64_19 k k y3.1 y3.1.2.2.2.2.2.2.2.1 (y3.1.2.2.2.2.2.2.2.1.length : Int) 0).bind fun w7 =>
            Sum.elim
              (fun y4 =>
                bif decide (y4.1.2.2.2.2.2.2.2.2.1 < 0) then
                  some (4, ())
                else
                bif decide (y4.1.2.2.2.2.2.2.2.2.1 > 2) then
                  some (4, ())
                else
                bif decide (y4.1.2.2.2.2.2.2.2.2.2.1 < 0) then
                  some (4, ())
                else
                bif decide (y4.1.2.2.2.2.2.2.2.2.2.1 > 200) then
                  some (4, ())
                else
                bif decide (y4.1.2.2.2.2.2.2.2.2.2.2.1 < 0) then
                  some (4, ())
                else
                bif y4.1.2.2.2.2.2.2.2.2.2.2.1 == 1 then
                  some (4, ())
                else
                bif decide (y4.1.2.2.2.2.2.2.2.2.2.2.1 > 5) then
                  some (4, ())
                else
                  some (0, ()))
              (fun y5 =>
                some y5)
              w7)
        (fun y6 =>
          some y6)
        w6
noncomputable def f64_sig (k : Nat) : Sig := ⟨[.val (.pair (.str) (.pair (.int .i64) (.pair (.int .i64) (.pair (.sl (.pair (.int .u8) (.pair (.int .i64) (.pair (.int .i64) (.pair (.sl (.pair (.int .i64) (.pair (.int .i64) (.pair (.int .i64) (.pair (.int .i64) (.unit)))))) (.unit)))))) (.pair (.sl (.int .i64)) (.pair (.bool) (.pair (.bool) (.pair (.sl (.pair (.int .i64) (.pair (.int .i64) (.pair (.int .i64) (.pair (.bool) (.unit)))))) (.pair (.int .i64) (.pair (.int .i64) (.pair (.int .i64) (.unit))))))))))))], [], [[.val (.int .i64)]], fun x => f64 k x.1⟩
noncomputable def E_f64 (k : Nat) : Env := ⟨Try.prog, scons 73 [f73_sig k] (scons 72 [f72_sig k] (scons 71 [f71_sig k] (snil))), tcons 19 (l64_19_sig k) (tcons 11 (l64_11_sig k) (tnil)), tnil, unil, k⟩
theorem l64_11_ok (k : Nat) : LoopOK (E_f64 k) ⟨Try.f64.ntmps, []⟩ (nthC 0 (loopsIn (Try.f64.body.getD .skip))) :=
  loop_ok (ls := l64_11_sig k) (by kernel_rfl) (fun _ => by kernel_rfl) (fun j x => by kernel_rfl)
theorem l64_19_ok (k : Nat) : LoopOK (E_f64 k) ⟨Try.f64.ntmps, []⟩ (nthC 1 (loopsIn (Try.f64.body.getD .skip))) :=
  loop_ok (ls := l64_19_sig k) (by kernel_rfl) (fun _ => by kernel_rfl) (fun j x => by kernel_rfl)
theorem f64_run (k : Nat) (x : (lTy (lay 0 (f64_sig k).ins)).den) : runF (E_f64 k) Try.f64 (f64_sig k) x = (f64_sig k).F x := by kernel_rfl
theorem f64_ok (k : Nat) : FnOK Try.prog 64 (f64_sig k) :=
  fn_ok2 (E := E_f64 k) (env_cons (one_sig (f73_ok k)) (env_cons (one_sig (f72_ok k)) (env_cons (one_sig (f71_ok k)) (env_nil)))) mixed Try.func64 Try.call64 (by kernel_rfl) (by kernel_rfl) (m := 2) (by kernel_rfl) ⟨⟨trivial, l64_11_ok k⟩, l64_19_ok k⟩ (sk := []) (by kernel_rfl) trivial (f64_run k)

/-! ### slices.Clone[[]int,int]: function 74 -/
noncomputable def f74 (k : Nat) (x0 : List Int) : Option (((List Int) × Unit)) :=
  bif nilB x0 then
    both (
      some ([], ()))
    (
      bif decide ((([] : List Int).length + x0.length) * 8 ≤ roomN) then
        some ([] ++ x0, ())
      else
        none)
  else
  bif decide ((([] : List Int).length + x0.length) * 8 ≤ roomN) then
    some ([] ++ x0, ())
  else
    none
noncomputable def f74_sig (k : Nat) : Sig := ⟨[.val (.sl (.int .i64))], [], [[.row (.int .i64)]], fun x => f74 k x.1⟩
noncomputable def E_f74 (k : Nat) : Env := ⟨Try.prog, snil, tnil, tnil, unil, k⟩
theorem f74_run (k : Nat) (x : (lTy (lay 0 (f74_sig k).ins)).den) : runF (E_f74 k) Try.f74 (f74_sig k) x = (f74_sig k).F x := by kernel_rfl
theorem f74_ok (k : Nat) : FnOK Try.prog 74 (f74_sig k) :=
  fn_ok2 (E := E_f74 k) (env_nil) mixed Try.func74 Try.call74 (by kernel_rfl) (by kernel_rfl) (m := 0) (by kernel_rfl) trivial (sk := []) (by kernel_rfl) trivial (f74_run k)

/-! ### gamehall/place.Fresh: function 65 -/
noncomputable def l65_6 (k : Nat) : Nat → (ByteArray × Int × Int × (List (Int × Int × Int × (List (Int × Int × Int × Int × Unit)) × Unit)) × (List Int) × Bool × Bool × (List (Int × Int × Int × Bool × Unit)) × Int × Int × Int × Unit) → ((List Int) × ((List Int) × (List Int) × Unit) × Int × Int × Unit) → ((List Int) × ((List Int) × (List Int) × Unit) × Int × Int × Unit) → Int → Int → (List (Int × Int × Int × (List (Int × Int × Int × Int × Unit)) × Unit)) → Int → Int → Option (((ByteArray × Int × Int × (List (Int × Int × Int × (List (Int × Int × Int × Int × Unit)) × Unit)) × (List Int) × Bool × Bool × (List (Int × Int × Int × Bool × Unit)) × Int × Int × Int × Unit) × ((List Int) × ((List Int) × (List Int) × Unit) × Int × Int × Unit) × ((List Int) × ((List Int) × (List Int) × Unit) × Int × Int × Unit) × Int × Unit))
  | 0, _, _, _, _, _, _, _, _ => none
  | j + 1, s1, s2, s3, s4, s11, s15, s16, s17 =>
    bif decide (s17 < s16) then
      bif decide (0 ≤ s17) && decide (s17 < (s15.length : Int)) then
        bif s4 == 0 then
          bif decide ((s3.2.1.1.length + [(rd ((0, 0, 0, [], ()) : Int × Int × Int × (List (Int × Int × Int × Int × Unit)) × Unit) s15 s17).2.1].length) * 8 ≤ roomN) then
            bif s4 == 0 then
              l65_6 k j s1 s2 (s3.1, (s3.2.1.1 ++ [(rd ((0, 0, 0, [], ()) : Int × Int × Int × (List (Int × Int × Int × Int × Unit)) × Unit) s15 s17).2.1], s3.2.1.2), s3.2.2) s4 s11 s15 s16 (w64 (s17 + 1))
            else
            bif s4 == 1 then
              none
            else
              none
          else
            none
        else
        bif s4 == 1 then
          bif decide ((s3.2.1.2.1.length + [(rd ((0, 0, 0, [], ()) : Int × Int × Int × (List (Int × Int × Int × Int × Unit)) × Unit) s15 s17).2.1].length) * 8 ≤ roomN) then
            bif s4 == 0 then
              none
            else
            bif s4 == 1 then
              l65_6 k j s1 s2 (s3.1, (s3.2.1.1, s3.2.1.2.1 ++ [(rd ((0, 0, 0, [], ()) : Int × Int × Int × (List (Int × Int × Int × Int × Unit)) × Unit) s15 s17).2.1], ()), s3.2.2) s4 s11 s15 s16 (w64 (s17 + 1))
            else
              none
          else
            none
        else
          none
      else
        none
    else
      some (s1, s2, s3, s11, ())
noncomputable def l65_6_sig (k : Nat) : LoopSig := ⟨[(1, .obj (.box (.val (.pair (.str) (.pair (.int .i64) (.pair (.int .i64) (.pair (.sl (.pair (.int .u8) (.pair (.int .i64) (.pair (.int .i64) (.pair (.sl (.pair (.int .i64) (.pair (.int .i64) (.pair (.int .i64) (.pair (.int .i64) (.unit)))))) (.unit)))))) (.pair (.sl (.int .i64)) (.pair (.bool) (.pair (.bool) (.pair (.sl (.pair (.int .i64) (.pair (.int .i64) (.pair (.int .i64) (.pair (.bool) (.unit)))))) (.pair (.int .i64) (.pair (.int .i64) (.pair (.int .i64) (.unit))))))))))))))), (2, .obj (.box (.cons (.row (.int .i64)) (.cons (.cons (.row (.int .i64)) (.cons (.row (.int .i64)) (.nil))) (.cons (.val (.int .i64)) (.cons (.val (.int .i64)) (.nil))))))), (3, .obj (.box (.cons (.row (.int .i64)) (.cons (.cons (.row (.int .i64)) (.cons (.row (.int .i64)) (.nil))) (.cons (.val (.int .i64)) (.cons (.val (.int .i64)) (.nil))))))), (4, .obj (.val (.int .i64))), (11, .obj (.val (.int .i64))), (15, .obj (.val (.sl (.pair (.int .u8) (.pair (.int .i64) (.pair (.int .i64) (.pair (.sl (.pair (.int .i64) (.pair (.int .i64) (.pair (.int .i64) (.pair (.int .i64) (.unit)))))) (.unit)))))))), (16, .obj (.val (.int .i64))), (17, .obj (.val (.int .i64)))], [(.exit 2, [(1, .obj (.box (.val (.pair (.str) (.pair (.int .i64) (.pair (.int .i64) (.pair (.sl (.pair (.int .u8) (.pair (.int .i64) (.pair (.int .i64) (.pair (.sl (.pair (.int .i64) (.pair (.int .i64) (.pair (.int .i64) (.pair (.int .i64) (.unit)))))) (.unit)))))) (.pair (.sl (.int .i64)) (.pair (.bool) (.pair (.bool) (.pair (.sl (.pair (.int .i64) (.pair (.int .i64) (.pair (.int .i64) (.pair (.bool) (.unit)))))) (.pair (.int .i64) (.pair (.int .i64) (.pair (.int .i64) (.unit))))))))))))))), (2, .obj (.box (.cons (.row (.int .i64)) (.cons (.cons (.row (.int .i64)) (.cons (.row (.int .i64)) (.nil))) (.cons (.val (.int .i64)) (.cons (.val (.int .i64)) (.nil))))))), (3, .obj (.box (.cons (.row (.int .i64)) (.cons (.cons (.row (.int .i64)) (.cons (.row (.int .i64)) (.nil))) (.cons (.val (.int .i64)) (.cons (.val (.int .i64)) (.nil))))))), (11, .obj (.val (.int .i64)))])], fun j x => l65_6 k j x.1 x.2.1 x.2.2.1 x.2.2.2.1 x.2.2.2.2.1 x.2.2.2.2.2.1 x.2.2.2.2.2.2.1 x.2.2.2.2.2.2.2.1⟩
noncomputable def l65_3 (k : Nat) : Nat → (ByteArray × Int × Int × (List (Int × Int × Int × (List (Int × Int × Int × Int × Unit)) × Unit)) × (List Int) × Bool × Bool × (List (Int × Int × Int × Bool × Unit)) × Int × Int × Int × Unit) → ((List Int) × ((List Int) × (List Int) × Unit) × Int × Int × Unit) → ((List Int) × ((List Int) × (List Int) × Unit) × Int × Int × Unit) → Int → Option ((((List Int) × ((List Int) × (List Int) × Unit) × Int × Int × Unit) × ((List Int) × ((List Int) × (List Int) × Unit) × Int × Int × Unit) × Unit))
  | 0, _, _, _, _ => none
  | j + 1, s1, s2, s3, s11 =>
    bif decide (s11 < 2) then
      (l65_6 k k s1 s2 s3 s11 s11 s1.2.2.2.1 (s1.2.2.2.1.length : Int) 0).bind fun o1 =>
      l65_3 k j o1.1 o1.2.1 o1.2.2.1 (w64 (o1.2.2.2.1 + 1))
    else
      some (s2, s3, ())
noncomputable def l65_3_sig (k : Nat) : LoopSig := ⟨[(1, .obj (.box (.val (.pair (.str) (.pair (.int .i64) (.pair (.int .i64) (.pair (.sl (.pair (.int .u8) (.pair (.int .i64) (.pair (.int .i64) (.pair (.sl (.pair (.int .i64) (.pair (.int .i64) (.pair (.int .i64) (.pair (.int .i64) (.unit)))))) (.unit)))))) (.pair (.sl (.int .i64)) (.pair (.bool) (.pair (.bool) (.pair (.sl (.pair (.int .i64) (.pair (.int .i64) (.pair (.int .i64) (.pair (.bool) (.unit)))))) (.pair (.int .i64) (.pair (.int .i64) (.pair (.int .i64) (.unit))))))))))))))), (2, .obj (.box (.cons (.row (.int .i64)) (.cons (.cons (.row (.int .i64)) (.cons (.row (.int .i64)) (.nil))) (.cons (.val (.int .i64)) (.cons (.val (.int .i64)) (.nil))))))), (3, .obj (.box (.cons (.row (.int .i64)) (.cons (.cons (.row (.int .i64)) (.cons (.row (.int .i64)) (.nil))) (.cons (.val (.int .i64)) (.cons (.val (.int .i64)) (.nil))))))), (11, .obj (.val (.int .i64)))], [(.exit 0, [(2, .obj (.box (.cons (.row (.int .i64)) (.cons (.cons (.row (.int .i64)) (.cons (.row (.int .i64)) (.nil))) (.cons (.val (.int .i64)) (.cons (.val (.int .i64)) (.nil))))))), (3, .obj (.box (.cons (.row (.int .i64)) (.cons (.cons (.row (.int .i64)) (.cons (.row (.int .i64)) (.nil))) (.cons (.val (.int .i64)) (.cons (.val (.int .i64)) (.nil)))))))])], fun j x => l65_3 k j x.1 x.2.1 x.2.2.1 x.2.2.2.1⟩
noncomputable def f65 (k : Nat) (x0 : ByteArray × Int × Int × (List (Int × Int × Int × (List (Int × Int × Int × Int × Unit)) × Unit)) × (List Int) × Bool × Bool × (List (Int × Int × Int × Bool × Unit)) × Int × Int × Int × Unit) : Option ((((List Int) × ((List Int) × (List Int) × Unit) × Int × Int × Unit) × Unit)) :=
  (f74 k x0.2.2.2.2.1).bind fun r1 =>
  (l65_3 k k x0 ([], ([], [], ()), 0, 0, ()) (r1.1, ([], [], ()), 0, 0, ()) 0).bind fun o2 =>
  some o2.2
noncomputable def f65_sig (k : Nat) : Sig := ⟨[.val (.pair (.str) (.pair (.int .i64) (.pair (.int .i64) (.pair (.sl (.pair (.int .u8) (.pair (.int .i64) (.pair (.int .i64) (.pair (.sl (.pair (.int .i64) (.pair (.int .i64) (.pair (.int .i64) (.pair (.int .i64) (.unit)))))) (.unit)))))) (.pair (.sl (.int .i64)) (.pair (.bool) (.pair (.bool) (.pair (.sl (.pair (.int .i64) (.pair (.int .i64) (.pair (.int .i64) (.pair (.bool) (.unit)))))) (.pair (.int .i64) (.pair (.int .i64) (.pair (.int .i64) (.unit))))))))))))], [], [[.cons (.row (.int .i64)) (.cons (.cons (.row (.int .i64)) (.cons (.row (.int .i64)) (.nil))) (.cons (.val (.int .i64)) (.cons (.val (.int .i64)) (.nil))))]], fun x => f65 k x.1⟩
noncomputable def E_f65 (k : Nat) : Env := ⟨Try.prog, scons 74 [f74_sig k] (snil), tcons 3 (l65_3_sig k) (tcons 6 (l65_6_sig k) (tnil)), tnil, unil, k⟩
theorem l65_3_ok (k : Nat) : LoopOK (E_f65 k) ⟨Try.f65.ntmps, []⟩ (nthC 0 (loopsIn (Try.f65.body.getD .skip))) :=
  loop_ok (ls := l65_3_sig k) (by kernel_rfl) (fun _ => by kernel_rfl) (fun j x => by kernel_rfl)
theorem l65_6_ok (k : Nat) : LoopOK (E_f65 k) ⟨Try.f65.ntmps, []⟩ (nthC 1 (loopsIn (Try.f65.body.getD .skip))) :=
  loop_ok (ls := l65_6_sig k) (by kernel_rfl) (fun _ => by kernel_rfl) (fun j x => by kernel_rfl)
theorem f65_run (k : Nat) (x : (lTy (lay 0 (f65_sig k).ins)).den) : runF (E_f65 k) Try.f65 (f65_sig k) x = (f65_sig k).F x := by kernel_rfl
theorem f65_ok (k : Nat) : FnOK Try.prog 65 (f65_sig k) :=
  fn_ok2 (E := E_f65 k) (env_cons (one_sig (f74_ok k)) (env_nil)) mixed Try.func65 Try.call65 (by kernel_rfl) (by kernel_rfl) (m := 2) (by kernel_rfl) ⟨⟨trivial, l65_3_ok k⟩, l65_6_ok k⟩ (sk := []) (by kernel_rfl) trivial (f65_run k)

/-! ### gamehall/place.Begin: function 51 -/
noncomputable def f51 (k : Nat) (x0 : ByteArray × Int × Int × (List (Int × Int × Int × (List (Int × Int × Int × Int × Unit)) × Unit)) × (List Int) × Bool × Bool × (List (Int × Int × Int × Bool × Unit)) × Int × Int × Int × Unit) : Option ((((List Int) × ((List Int) × (List Int) × Unit) × Int × Int × Unit) × Int × Unit)) :=
  (f64 k x0).bind fun r1 =>
  bif r1.1 != 0 then
    some (([], ([], [], ()), 0, 0, ()), r1)
  else
    (f65 k x0).bind fun r2 =>
    some (r2.1, 0, ())
noncomputable def f51_sig (k : Nat) : Sig := ⟨[.val (.pair (.str) (.pair (.int .i64) (.pair (.int .i64) (.pair (.sl (.pair (.int .u8) (.pair (.int .i64) (.pair (.int .i64) (.pair (.sl (.pair (.int .i64) (.pair (.int .i64) (.pair (.int .i64) (.pair (.int .i64) (.unit)))))) (.unit)))))) (.pair (.sl (.int .i64)) (.pair (.bool) (.pair (.bool) (.pair (.sl (.pair (.int .i64) (.pair (.int .i64) (.pair (.int .i64) (.pair (.bool) (.unit)))))) (.pair (.int .i64) (.pair (.int .i64) (.pair (.int .i64) (.unit))))))))))))], [], [[.cons (.row (.int .i64)) (.cons (.cons (.row (.int .i64)) (.cons (.row (.int .i64)) (.nil))) (.cons (.val (.int .i64)) (.cons (.val (.int .i64)) (.nil)))), .val (.int .i64)]], fun x => f51 k x.1⟩
noncomputable def E_f51 (k : Nat) : Env := ⟨Try.prog, scons 65 [f65_sig k] (scons 64 [f64_sig k] (snil)), tnil, tnil, unil, k⟩
theorem f51_run (k : Nat) (x : (lTy (lay 0 (f51_sig k).ins)).den) : runF (E_f51 k) Try.f51 (f51_sig k) x = (f51_sig k).F x := by kernel_rfl
theorem f51_ok (k : Nat) : FnOK Try.prog 51 (f51_sig k) :=
  fn_ok2 (E := E_f51 k) (env_cons (one_sig (f65_ok k)) (env_cons (one_sig (f64_ok k)) (env_nil))) mixed Try.func51 Try.call51 (by kernel_rfl) (by kernel_rfl) (m := 0) (by kernel_rfl) trivial (sk := []) (by kernel_rfl) trivial (f51_run k)

/-! ### gamehall/pattern.Check: function 53 -/
noncomputable def l53_9 (k : Nat) : Nat → (ByteArray × Int × Int × (List (Int × Int × Int × (List (Int × Int × Int × Int × Unit)) × Unit)) × (List Int) × Bool × Bool × (List (Int × Int × Int × Bool × Unit)) × Int × Int × Int × Unit) → (Int × Int × (List Int) × Int × Unit) → (List Int) → Int → Int → Option (((Int × Int × (List Int) × Int × Unit) × Unit) ⊕ (Int × Unit))
  | 0, _, _, _, _, _ => none
  | j + 1, s2, s3, s45, s46, s47 =>
    bif decide (s47 < s46) then
      bif decide (0 ≤ s47) && decide (s47 < (s45.length : Int)) then
        bif decide ((rd 0 s45 s47) < (-3)) then
          some (.inr (4, ()))
        else
        bif decide ((rd 0 s45 s47) > (w64 (2 * (s2.2.2.2.1.length : Int)))) then
          some (.inr (4, ()))
        else
          l53_9 k j s2 s3 s45 s46 (w64 (s47 + 1))
      else
        none
    else
      some (.inl (s3, ()))
noncomputable def l53_9_sig (k : Nat) : LoopSig := ⟨[(2, .obj (.box (.val (.pair (.str) (.pair (.int .i64) (.pair (.int .i64) (.pair (.sl (.pair (.int .u8) (.pair (.int .i64) (.pair (.int .i64) (.pair (.sl (.pair (.int .i64) (.pair (.int .i64) (.pair (.int .i64) (.pair (.int .i64) (.unit)))))) (.unit)))))) (.pair (.sl (.int .i64)) (.pair (.bool) (.pair (.bool) (.pair (.sl (.pair (.int .i64) (.pair (.int .i64) (.pair (.int .i64) (.pair (.bool) (.unit)))))) (.pair (.int .i64) (.pair (.int .i64) (.pair (.int .i64) (.unit))))))))))))))), (3, .obj (.box (.val (.pair (.int .i64) (.pair (.int .i64) (.pair (.sl (.int .i64)) (.pair (.int .i64) (.unit)))))))), (45, .obj (.val (.sl (.int .i64)))), (46, .obj (.val (.int .i64))), (47, .obj (.val (.int .i64)))], [(.exit 0, [(3, .obj (.box (.val (.pair (.int .i64) (.pair (.int .i64) (.pair (.sl (.int .i64)) (.pair (.int .i64) (.unit))))))))]), (.ret, [(4, .obj (.val (.int .i64)))])], fun j x => l53_9 k j x.1 x.2.1 x.2.2.1 x.2.2.2.1 x.2.2.2.2.1⟩
noncomputable def f53 (k : Nat) (x0 : ByteArray × Int × Int × (List (Int × Int × Int × (List (Int × Int × Int × Int × Unit)) × Unit)) × (List Int) × Bool × Bool × (List (Int × Int × Int × Bool × Unit)) × Int × Int × Int × Unit) (x1 : Int × Int × (List Int) × Int × Unit) : Option ((Int × Unit)) :=
  (f64 k x0).bind fun r1 =>
  bif r1.1 != 0 then
    some r1
  else
  bif decide (x1.1 < 1) then
    some (4, ())
  else
  bif decide (x1.2.1 < 1) then
    some (4, ())
  else
  bif decide (x1.1 > x0.2.1) then
    some (4, ())
  else
  bif decide (x1.2.1 > x0.2.2.1) then
    some (4, ())
  else
  bif (x1.2.2.1.length : Int) != (w64 (x1.1 * x1.2.1)) then
    some (3, ())
  else
    (l53_9 k k x0 x1 x1.2.2.1 (x1.2.2.1.length : Int) 0).bind fun w8 =>
    Sum.elim
      (fun y2 =>
        bif decide (y2.1.2.2.2.1 < (-1)) then
          some (4, ())
        else
        bif decide (y2.1.2.2.2.1 > 1) then
          some (4, ())
        else
          some (0, ()))
      (fun y3 =>
        some y3)
      w8
noncomputable def f53_sig (k : Nat) : Sig := ⟨[.val (.pair (.str) (.pair (.int .i64) (.pair (.int .i64) (.pair (.sl (.pair (.int .u8) (.pair (.int .i64) (.pair (.int .i64) (.pair (.sl (.pair (.int .i64) (.pair (.int .i64) (.pair (.int .i64) (.pair (.int .i64) (.unit)))))) (.unit)))))) (.pair (.sl (.int .i64)) (.pair (.bool) (.pair (.bool) (.pair (.sl (.pair (.int .i64) (.pair (.int .i64) (.pair (.int .i64) (.pair (.bool) (.unit)))))) (.pair (.int .i64) (.pair (.int .i64) (.pair (.int .i64) (.unit)))))))))))), .val (.pair (.int .i64) (.pair (.int .i64) (.pair (.sl (.int .i64)) (.pair (.int .i64) (.unit)))))], [], [[.val (.int .i64)]], fun x => f53 k x.1 x.2.1⟩
noncomputable def E_f53 (k : Nat) : Env := ⟨Try.prog, scons 64 [f64_sig k] (snil), tcons 9 (l53_9_sig k) (tnil), tnil, unil, k⟩
theorem l53_9_ok (k : Nat) : LoopOK (E_f53 k) ⟨Try.f53.ntmps, []⟩ (nthC 0 (loopsIn (Try.f53.body.getD .skip))) :=
  loop_ok (ls := l53_9_sig k) (by kernel_rfl) (fun _ => by kernel_rfl) (fun j x => by kernel_rfl)
theorem f53_run (k : Nat) (x : (lTy (lay 0 (f53_sig k).ins)).den) : runF (E_f53 k) Try.f53 (f53_sig k) x = (f53_sig k).F x := by kernel_rfl
theorem f53_ok (k : Nat) : FnOK Try.prog 53 (f53_sig k) :=
  fn_ok2 (E := E_f53 k) (env_cons (one_sig (f64_ok k)) (env_nil)) mixed Try.func53 Try.call53 (by kernel_rfl) (by kernel_rfl) (m := 1) (by kernel_rfl) ⟨trivial, l53_9_ok k⟩ (sk := []) (by kernel_rfl) trivial (f53_run k)

/-! ### gamehall/place.Check: function 54 -/
noncomputable def l54_7 (k : Nat) : Nat → (ByteArray × Int × Int × (List (Int × Int × Int × (List (Int × Int × Int × Int × Unit)) × Unit)) × (List Int) × Bool × Bool × (List (Int × Int × Int × Bool × Unit)) × Int × Int × Int × Unit) → ((List Int) × ((List Int) × (List Int) × Unit) × Int × Int × Unit) → (List Int) → Int → Int → Option ((((List Int) × ((List Int) × (List Int) × Unit) × Int × Int × Unit) × Unit) ⊕ (Int × Unit))
  | 0, _, _, _, _, _ => none
  | j + 1, s2, s3, s47, s48, s49 =>
    bif decide (s49 < s48) then
      bif decide (0 ≤ s49) && decide (s49 < (s47.length : Int)) then
        bif decide ((rd 0 s47 s49) < 0) then
          some (.inr (4, ()))
        else
        bif decide ((rd 0 s47 s49) > (w64 (2 * (s2.2.2.2.1.length : Int)))) then
          some (.inr (4, ()))
        else
          l54_7 k j s2 s3 s47 s48 (w64 (s49 + 1))
      else
        none
    else
      some (.inl (s3, ()))
noncomputable def l54_7_sig (k : Nat) : LoopSig := ⟨[(2, .obj (.box (.val (.pair (.str) (.pair (.int .i64) (.pair (.int .i64) (.pair (.sl (.pair (.int .u8) (.pair (.int .i64) (.pair (.int .i64) (.pair (.sl (.pair (.int .i64) (.pair (.int .i64) (.pair (.int .i64) (.pair (.int .i64) (.unit)))))) (.unit)))))) (.pair (.sl (.int .i64)) (.pair (.bool) (.pair (.bool) (.pair (.sl (.pair (.int .i64) (.pair (.int .i64) (.pair (.int .i64) (.pair (.bool) (.unit)))))) (.pair (.int .i64) (.pair (.int .i64) (.pair (.int .i64) (.unit))))))))))))))), (3, .obj (.box (.val (.pair (.sl (.int .i64)) (.pair (.pair (.sl (.int .i64)) (.pair (.sl (.int .i64)) (.unit))) (.pair (.int .i64) (.pair (.int .i64) (.unit)))))))), (47, .obj (.val (.sl (.int .i64)))), (48, .obj (.val (.int .i64))), (49, .obj (.val (.int .i64)))], [(.exit 0, [(3, .obj (.box (.val (.pair (.sl (.int .i64)) (.pair (.pair (.sl (.int .i64)) (.pair (.sl (.int .i64)) (.unit))) (.pair (.int .i64) (.pair (.int .i64) (.unit))))))))]), (.ret, [(4, .obj (.val (.int .i64)))])], fun j x => l54_7 k j x.1 x.2.1 x.2.2.1 x.2.2.2.1 x.2.2.2.2.1⟩
noncomputable def l54_16 (k : Nat) : Nat → ((List Int) × ((List Int) × (List Int) × Unit) × Int × Int × Unit) → ((List Int) × (List Int) × Unit) → Int → (List Int) → Int → Int → Option ((((List Int) × ((List Int) × (List Int) × Unit) × Int × Int × Unit) × ((List Int) × (List Int) × Unit) × Int × Unit) ⊕ (Int × Unit))
  | 0, _, _, _, _, _, _ => none
  | j + 1, s3, s65, s66, s69, s70, s71 =>
    bif decide (s71 < s70) then
      bif decide (0 ≤ s71) && decide (s71 < (s69.length : Int)) then
        bif decide ((rd 0 s69 s71) < 0) then
          some (.inr (4, ()))
        else
        bif decide ((rd 0 s69 s71) > 1000) then
          some (.inr (4, ()))
        else
          l54_16 k j s3 s65 s66 s69 s70 (w64 (s71 + 1))
      else
        none
    else
      some (.inl (s3, s65, s66, ()))
noncomputable def l54_16_sig (k : Nat) : LoopSig := ⟨[(3, .obj (.box (.val (.pair (.sl (.int .i64)) (.pair (.pair (.sl (.int .i64)) (.pair (.sl (.int .i64)) (.unit))) (.pair (.int .i64) (.pair (.int .i64) (.unit)))))))), (65, .obj (.val (.pair (.sl (.int .i64)) (.pair (.sl (.int .i64)) (.unit))))), (66, .obj (.val (.int .i64))), (69, .obj (.val (.sl (.int .i64)))), (70, .obj (.val (.int .i64))), (71, .obj (.val (.int .i64)))], [(.exit 4, [(3, .obj (.box (.val (.pair (.sl (.int .i64)) (.pair (.pair (.sl (.int .i64)) (.pair (.sl (.int .i64)) (.unit))) (.pair (.int .i64) (.pair (.int .i64) (.unit)))))))), (65, .obj (.val (.pair (.sl (.int .i64)) (.pair (.sl (.int .i64)) (.unit))))), (66, .obj (.val (.int .i64)))]), (.ret, [(4, .obj (.val (.int .i64)))])], fun j x => l54_16 k j x.1 x.2.1 x.2.2.1 x.2.2.2.1 x.2.2.2.2.1 x.2.2.2.2.2.1⟩
noncomputable def l54_13 (k : Nat) : Nat → ((List Int) × ((List Int) × (List Int) × Unit) × Int × Int × Unit) → ((List Int) × (List Int) × Unit) → Int → Option ((((List Int) × ((List Int) × (List Int) × Unit) × Int × Int × Unit) × Unit) ⊕ (Int × Unit))
  | 0, _, _, _ => none
  | j + 1, s3, s65, s66 =>
    bif decide (s66 < 2) then
      bif s66 == 0 then
        (l54_16 k k s3 s65 s66 s65.1 (s65.1.length : Int) 0).bind fun w9 =>
        Sum.elim
          (fun y1 =>
            l54_13 k j y1.1 y1.2.1 (w64 (y1.2.2.1 + 1)))
          (fun y2 =>
            some (.inr y2))
          w9
      else
      bif s66 == 1 then
        (l54_16 k k s3 s65 s66 s65.2.1 (s65.2.1.length : Int) 0).bind fun w10 =>
        Sum.elim
          (fun y3 =>
            l54_13 k j y3.1 y3.2.1 (w64 (y3.2.2.1 + 1)))
          (fun y4 =>
            some (.inr y4))
          w10
      else
        none
    else
      some (.inl (s3, ()))
noncomputable def l54_13_sig (k : Nat) : LoopSig := ⟨[(3, .obj (.box (.val (.pair (.sl (.int .i64)) (.pair (.pair (.sl (.int .i64)) (.pair (.sl (.int .i64)) (.unit))) (.pair (.int .i64) (.pair (.int .i64) (.unit)))))))), (65, .obj (.val (.pair (.sl (.int .i64)) (.pair (.sl (.int .i64)) (.unit))))), (66, .obj (.val (.int .i64)))], [(.exit 2, [(3, .obj (.box (.val (.pair (.sl (.int .i64)) (.pair (.pair (.sl (.int .i64)) (.pair (.sl (.int .i64)) (.unit))) (.pair (.int .i64) (.pair (.int .i64) (.unit))))))))]), (.ret, [(4, .obj (.val (.int .i64)))])], fun j x => l54_13 k j x.1 x.2.1 x.2.2.1⟩
noncomputable def f54 (k : Nat) (x0 : ByteArray × Int × Int × (List (Int × Int × Int × (List (Int × Int × Int × Int × Unit)) × Unit)) × (List Int) × Bool × Bool × (List (Int × Int × Int × Bool × Unit)) × Int × Int × Int × Unit) (x1 : (List Int) × ((List Int) × (List Int) × Unit) × Int × Int × Unit) : Option ((Int × Unit)) :=
  (f64 k x0).bind fun r1 =>
  bif r1.1 != 0 then
    some r1
  else
  bif (x1.1.length : Int) != (w64 (x0.2.1 * x0.2.2.1)) then
    some (3, ())
  else
  bif (x1.2.1.1.length : Int) != (x0.2.2.2.1.length : Int) then
    some (3, ())
  else
  bif (x1.2.1.2.1.length : Int) != (x0.2.2.2.1.length : Int) then
    some (3, ())
  else
    (l54_7 k k x0 x1 x1.1 (x1.1.length : Int) 0).bind fun w11 =>
    Sum.elim
      (fun y2 =>
        (l54_13 k k y2.1 y2.1.2.1 0).bind fun w12 =>
        Sum.elim
          (fun y3 =>
            bif y3.1.2.2.1 != 0 then
              bif y3.1.2.2.1 != 1 then
                some (4, ())
              else
              bif decide (y3.1.2.2.2.1 < 0) then
                some (4, ())
              else
              bif decide (y3.1.2.2.2.1 > 200) then
                some (4, ())
              else
                some (0, ())
            else
            bif decide (y3.1.2.2.2.1 < 0) then
              some (4, ())
            else
            bif decide (y3.1.2.2.2.1 > 200) then
              some (4, ())
            else
              some (0, ()))
          (fun y4 =>
            some y4)
          w12)
      (fun y5 =>
        some y5)
      w11
noncomputable def f54_sig (k : Nat) : Sig := ⟨[.val (.pair (.str) (.pair (.int .i64) (.pair (.int .i64) (.pair (.sl (.pair (.int .u8) (.pair (.int .i64) (.pair (.int .i64) (.pair (.sl (.pair (.int .i64) (.pair (.int .i64) (.pair (.int .i64) (.pair (.int .i64) (.unit)))))) (.unit)))))) (.pair (.sl (.int .i64)) (.pair (.bool) (.pair (.bool) (.pair (.sl (.pair (.int .i64) (.pair (.int .i64) (.pair (.int .i64) (.pair (.bool) (.unit)))))) (.pair (.int .i64) (.pair (.int .i64) (.pair (.int .i64) (.unit)))))))))))), .val (.pair (.sl (.int .i64)) (.pair (.pair (.sl (.int .i64)) (.pair (.sl (.int .i64)) (.unit))) (.pair (.int .i64) (.pair (.int .i64) (.unit)))))], [], [[.val (.int .i64)]], fun x => f54 k x.1 x.2.1⟩
noncomputable def E_f54 (k : Nat) : Env := ⟨Try.prog, scons 64 [f64_sig k] (snil), tcons 13 (l54_13_sig k) (tcons 16 (l54_16_sig k) (tcons 7 (l54_7_sig k) (tnil))), tnil, unil, k⟩
theorem l54_7_ok (k : Nat) : LoopOK (E_f54 k) ⟨Try.f54.ntmps, []⟩ (nthC 0 (loopsIn (Try.f54.body.getD .skip))) :=
  loop_ok (ls := l54_7_sig k) (by kernel_rfl) (fun _ => by kernel_rfl) (fun j x => by kernel_rfl)
theorem l54_13_ok (k : Nat) : LoopOK (E_f54 k) ⟨Try.f54.ntmps, []⟩ (nthC 1 (loopsIn (Try.f54.body.getD .skip))) :=
  loop_ok (ls := l54_13_sig k) (by kernel_rfl) (fun _ => by kernel_rfl) (fun j x => by kernel_rfl)
theorem l54_16_ok (k : Nat) : LoopOK (E_f54 k) ⟨Try.f54.ntmps, []⟩ (nthC 2 (loopsIn (Try.f54.body.getD .skip))) :=
  loop_ok (ls := l54_16_sig k) (by kernel_rfl) (fun _ => by kernel_rfl) (fun j x => by kernel_rfl)
theorem f54_run (k : Nat) (x : (lTy (lay 0 (f54_sig k).ins)).den) : runF (E_f54 k) Try.f54 (f54_sig k) x = (f54_sig k).F x := by kernel_rfl
theorem f54_ok (k : Nat) : FnOK Try.prog 54 (f54_sig k) :=
  fn_ok2 (E := E_f54 k) (env_cons (one_sig (f64_ok k)) (env_nil)) mixed Try.func54 Try.call54 (by kernel_rfl) (by kernel_rfl) (m := 3) (by kernel_rfl) ⟨⟨⟨trivial, l54_7_ok k⟩, l54_13_ok k⟩, l54_16_ok k⟩ (sk := []) (by kernel_rfl) trivial (f54_run k)

/-! ### gamehall/moves.Owner: function 75 -/
noncomputable def f75 (k : Nat) (x0 : Int) : Option ((Int × Unit)) :=
  bif x0 == 0 then
    some ((-1), ())
  else
    some ((w64 (x0 - 1)).tmod 2, ())
noncomputable def f75_sig (k : Nat) : Sig := ⟨[.val (.int .i64)], [], [[.val (.int .i64)]], fun x => f75 k x.1⟩
noncomputable def E_f75 (k : Nat) : Env := ⟨Try.prog, snil, tnil, tnil, unil, k⟩
theorem f75_run (k : Nat) (x : (lTy (lay 0 (f75_sig k).ins)).den) : runF (E_f75 k) Try.f75 (f75_sig k) x = (f75_sig k).F x := by kernel_rfl
theorem f75_ok (k : Nat) : FnOK Try.prog 75 (f75_sig k) :=
  fn_ok2 (E := E_f75 k) (env_nil) mixed Try.func75 Try.call75 (by kernel_rfl) (by kernel_rfl) (m := 0) (by kernel_rfl) trivial (sk := []) (by kernel_rfl) trivial (f75_run k)

/-! ### gamehall/pattern.fits: function 66 -/
noncomputable def f66 (k : Nat) (x0 : Int) (x1 : Int) : Option ((Bool × Unit)) :=
  bif x1 == (-1) then
    some (true, ())
  else
  bif x1 == (-2) then
    (f75 k x0).bind fun r1 =>
    some (r1.1 == 0, ())
  else
  bif x1 == (-3) then
    (f75 k x0).bind fun r2 =>
    some (r2.1 == 1, ())
  else
    some (x0 == x1, ())
noncomputable def f66_sig (k : Nat) : Sig := ⟨[.val (.int .i64), .val (.int .i64)], [], [[.val (.bool)]], fun x => f66 k x.1 x.2.1⟩
noncomputable def E_f66 (k : Nat) : Env := ⟨Try.prog, scons 75 [f75_sig k] (snil), tnil, tnil, unil, k⟩
theorem f66_run (k : Nat) (x : (lTy (lay 0 (f66_sig k).ins)).den) : runF (E_f66 k) Try.f66 (f66_sig k) x = (f66_sig k).F x := by kernel_rfl
theorem f66_ok (k : Nat) : FnOK Try.prog 66 (f66_sig k) :=
  fn_ok2 (E := E_f66 k) (env_cons (one_sig (f75_ok k)) (env_nil)) mixed Try.func66 Try.call66 (by kernel_rfl) (by kernel_rfl) (m := 0) (by kernel_rfl) trivial (sk := []) (by kernel_rfl) trivial (f66_run k)

/-! ### gamehall/pattern.at: function 55 -/
noncomputable def l55_4 (k : Nat) : Nat → Int → (ByteArray × Int × Int × (List (Int × Int × Int × (List (Int × Int × Int × Int × Unit)) × Unit)) × (List Int) × Bool × Bool × (List (Int × Int × Int × Bool × Unit)) × Int × Int × Int × Unit) → (Int × Int × (List Int) × Int × Unit) → ((List Int) × ((List Int) × (List Int) × Unit) × Int × Int × Unit) → (List Int) → Int → Int → Option (Unit ⊕ (Bool × Unit))
  | 0, _, _, _, _, _, _, _ => none
  | j + 1, s3, s4, s5, s6, s46, s47, s48 =>
    bif decide (s48 < s47) then
      bif decide (0 ≤ s48) && decide (s48 < (s46.length : Int)) then
        bif decide (s5.1 = 0) then
          none
        else
        bif decide (s5.1 = 0) then
          none
        else
        bif decide (0 ≤ (w64 ((w64 (s3 + (w64 ((w64 (s48.tdiv s5.1)) * s4.2.1)))) + (s48.tmod s5.1)))) && decide ((w64 ((w64 (s3 + (w64 ((w64 (s48.tdiv s5.1)) * s4.2.1)))) + (s48.tmod s5.1))) < (s6.1.length : Int)) then
          (f66 k (rd 0 s6.1 (w64 ((w64 (s3 + (w64 ((w64 (s48.tdiv s5.1)) * s4.2.1)))) + (s48.tmod s5.1)))) (rd 0 s46 s48)).bind fun r1 =>
          bif !r1.1 then
            some (.inr (false, ()))
          else
            l55_4 k j s3 s4 s5 s6 s46 s47 (w64 (s48 + 1))
        else
          none
      else
        none
    else
      some (.inl ())
noncomputable def l55_4_sig (k : Nat) : LoopSig := ⟨[(3, .obj (.val (.int .i64))), (4, .obj (.box (.val (.pair (.str) (.pair (.int .i64) (.pair (.int .i64) (.pair (.sl (.pair (.int .u8) (.pair (.int .i64) (.pair (.int .i64) (.pair (.sl (.pair (.int .i64) (.pair (.int .i64) (.pair (.int .i64) (.pair (.int .i64) (.unit)))))) (.unit)))))) (.pair (.sl (.int .i64)) (.pair (.bool) (.pair (.bool) (.pair (.sl (.pair (.int .i64) (.pair (.int .i64) (.pair (.int .i64) (.pair (.bool) (.unit)))))) (.pair (.int .i64) (.pair (.int .i64) (.pair (.int .i64) (.unit))))))))))))))), (5, .obj (.box (.val (.pair (.int .i64) (.pair (.int .i64) (.pair (.sl (.int .i64)) (.pair (.int .i64) (.unit)))))))), (6, .obj (.box (.val (.pair (.sl (.int .i64)) (.pair (.pair (.sl (.int .i64)) (.pair (.sl (.int .i64)) (.unit))) (.pair (.int .i64) (.pair (.int .i64) (.unit)))))))), (46, .obj (.val (.sl (.int .i64)))), (47, .obj (.val (.int .i64))), (48, .obj (.val (.int .i64)))], [(.exit 0, []), (.ret, [(8, .obj (.val (.bool)))])], fun j x => l55_4 k j x.1 x.2.1 x.2.2.1 x.2.2.2.1 x.2.2.2.2.1 x.2.2.2.2.2.1 x.2.2.2.2.2.2.1⟩
noncomputable def f55 (k : Nat) (x0 : ByteArray × Int × Int × (List (Int × Int × Int × (List (Int × Int × Int × Int × Unit)) × Unit)) × (List Int) × Bool × Bool × (List (Int × Int × Int × Bool × Unit)) × Int × Int × Int × Unit) (x1 : Int × Int × (List Int) × Int × Unit) (x2 : (List Int) × ((List Int) × (List Int) × Unit) × Int × Int × Unit) (x3 : Int) : Option ((Bool × Unit)) :=
  bif decide (x1.2.2.2.1 ≥ 0) then
    bif x1.2.2.2.1 != x2.2.2.1 then
      some (false, ())
    else
    bif decide (x0.2.1 = 0) then
      none
    else
    bif decide ((w64 ((x3.tmod x0.2.1) + x1.1)) > x0.2.1) then
      some (false, ())
    else
    bif decide (x0.2.1 = 0) then
      none
    else
    bif decide ((w64 ((w64 (x3.tdiv x0.2.1)) + x1.2.1)) > x0.2.2.1) then
      some (false, ())
    else
      (l55_4 k k x3 x0 x1 x2 x1.2.2.1 (x1.2.2.1.length : Int) 0).bind fun w13 =>
      Sum.elim
        (fun y1 =>
          some (true, ()))
        (fun y2 =>
          some y2)
        w13
  else
  bif decide (x0.2.1 = 0) then
    none
  else
  bif decide ((w64 ((x3.tmod x0.2.1) + x1.1)) > x0.2.1) then
    some (false, ())
  else
  bif decide (x0.2.1 = 0) then
    none
  else
  bif decide ((w64 ((w64 (x3.tdiv x0.2.1)) + x1.2.1)) > x0.2.2.1) then
    some (false, ())
  else
    (l55_4 k k x3 x0 x1 x2 x1.2.2.1 (x1.2.2.1.length : Int) 0).bind fun w14 =>
    Sum.elim
      (fun y3 =>
        some (true, ()))
      (fun y4 =>
        some y4)
      w14
noncomputable def f55_sig (k : Nat) : Sig := ⟨[.val (.pair (.str) (.pair (.int .i64) (.pair (.int .i64) (.pair (.sl (.pair (.int .u8) (.pair (.int .i64) (.pair (.int .i64) (.pair (.sl (.pair (.int .i64) (.pair (.int .i64) (.pair (.int .i64) (.pair (.int .i64) (.unit)))))) (.unit)))))) (.pair (.sl (.int .i64)) (.pair (.bool) (.pair (.bool) (.pair (.sl (.pair (.int .i64) (.pair (.int .i64) (.pair (.int .i64) (.pair (.bool) (.unit)))))) (.pair (.int .i64) (.pair (.int .i64) (.pair (.int .i64) (.unit)))))))))))), .val (.pair (.int .i64) (.pair (.int .i64) (.pair (.sl (.int .i64)) (.pair (.int .i64) (.unit))))), .val (.pair (.sl (.int .i64)) (.pair (.pair (.sl (.int .i64)) (.pair (.sl (.int .i64)) (.unit))) (.pair (.int .i64) (.pair (.int .i64) (.unit))))), .val (.int .i64)], [], [[.val (.bool)]], fun x => f55 k x.1 x.2.1 x.2.2.1 x.2.2.2.1⟩
noncomputable def E_f55 (k : Nat) : Env := ⟨Try.prog, scons 66 [f66_sig k] (snil), tcons 4 (l55_4_sig k) (tnil), tnil, unil, k⟩
theorem l55_4_ok (k : Nat) : LoopOK (E_f55 k) ⟨Try.f55.ntmps, []⟩ (nthC 0 (loopsIn (Try.f55.body.getD .skip))) :=
  loop_ok (ls := l55_4_sig k) (by kernel_rfl) (fun _ => by kernel_rfl) (fun j x => by kernel_rfl)
theorem f55_run (k : Nat) (x : (lTy (lay 0 (f55_sig k).ins)).den) : runF (E_f55 k) Try.f55 (f55_sig k) x = (f55_sig k).F x := by kernel_rfl
theorem f55_ok (k : Nat) : FnOK Try.prog 55 (f55_sig k) :=
  fn_ok2 (E := E_f55 k) (env_cons (one_sig (f66_ok k)) (env_nil)) mixed Try.func55 Try.call55 (by kernel_rfl) (by kernel_rfl) (m := 1) (by kernel_rfl) ⟨trivial, l55_4_ok k⟩ (sk := []) (by kernel_rfl) trivial (f55_run k)

/-! ### gamehall/pattern.At: function 35 -/
noncomputable def f35 (k : Nat) (x0 : ByteArray × Int × Int × (List (Int × Int × Int × (List (Int × Int × Int × Int × Unit)) × Unit)) × (List Int) × Bool × Bool × (List (Int × Int × Int × Bool × Unit)) × Int × Int × Int × Unit) (x1 : Int × Int × (List Int) × Int × Unit) (x2 : (List Int) × ((List Int) × (List Int) × Unit) × Int × Int × Unit) (x3 : Int) : Option ((Bool × Int × Unit)) :=
  (f53 k x0 x1).bind fun r1 =>
  bif r1.1 != 0 then
    some (false, r1)
  else
    (f54 k x0 x2).bind fun r2 =>
    bif r2.1 != 0 then
      some (false, r2)
    else
    bif decide (x3 < 0) then
      some (false, 1, ())
    else
    bif decide (x3 ≥ (x2.1.length : Int)) then
      some (false, 1, ())
    else
      (f55 k x0 x1 x2 x3).bind fun r3 =>
      some (r3.1, 0, ())
noncomputable def f35_sig (k : Nat) : Sig := ⟨[.val (.pair (.str) (.pair (.int .i64) (.pair (.int .i64) (.pair (.sl (.pair (.int .u8) (.pair (.int .i64) (.pair (.int .i64) (.pair (.sl (.pair (.int .i64) (.pair (.int .i64) (.pair (.int .i64) (.pair (.int .i64) (.unit)))))) (.unit)))))) (.pair (.sl (.int .i64)) (.pair (.bool) (.pair (.bool) (.pair (.sl (.pair (.int .i64) (.pair (.int .i64) (.pair (.int .i64) (.pair (.bool) (.unit)))))) (.pair (.int .i64) (.pair (.int .i64) (.pair (.int .i64) (.unit)))))))))))), .val (.pair (.int .i64) (.pair (.int .i64) (.pair (.sl (.int .i64)) (.pair (.int .i64) (.unit))))), .val (.pair (.sl (.int .i64)) (.pair (.pair (.sl (.int .i64)) (.pair (.sl (.int .i64)) (.unit))) (.pair (.int .i64) (.pair (.int .i64) (.unit))))), .val (.int .i64)], [], [[.val (.bool), .val (.int .i64)]], fun x => f35 k x.1 x.2.1 x.2.2.1 x.2.2.2.1⟩
noncomputable def E_f35 (k : Nat) : Env := ⟨Try.prog, scons 55 [f55_sig k] (scons 54 [f54_sig k] (scons 53 [f53_sig k] (snil))), tnil, tnil, unil, k⟩
theorem f35_run (k : Nat) (x : (lTy (lay 0 (f35_sig k).ins)).den) : runF (E_f35 k) Try.f35 (f35_sig k) x = (f35_sig k).F x := by kernel_rfl
theorem f35_ok (k : Nat) : FnOK Try.prog 35 (f35_sig k) :=
  fn_ok2 (E := E_f35 k) (env_cons (one_sig (f55_ok k)) (env_cons (one_sig (f54_ok k)) (env_cons (one_sig (f53_ok k)) (env_nil)))) mixed Try.func35 Try.call35 (by kernel_rfl) (by kernel_rfl) (m := 0) (by kernel_rfl) trivial (sk := []) (by kernel_rfl) trivial (f35_run k)

/-! ### gamehall/gamehallkeep3.patterns: function 31 -/
noncomputable def f31 (k : Nat) : Option ((Bool × Unit)) :=
  (f52 k).bind fun r1 =>
  (f51 k r1.1).bind fun r2 =>
  (f52 k).bind fun r3 =>
  (f35 k r3.1 (1, 1, [0], (-1), ()) r2.1 4).bind fun r4 =>
  bif r2.2.1 == 0 then
    bif r4.2.1 == 0 then
      some (r4.1, ())
    else
      some (false, ())
  else
    some (false, ())
noncomputable def f31_sig (k : Nat) : Sig := ⟨[], [], [[.val (.bool)]], fun x => f31 k⟩
noncomputable def E_f31 (k : Nat) : Env := ⟨Try.prog, scons 52 [f52_sig k] (scons 51 [f51_sig k] (scons 35 [f35_sig k] (snil))), tnil, tnil, unil, k⟩
theorem f31_run (k : Nat) (x : (lTy (lay 0 (f31_sig k).ins)).den) : runF (E_f31 k) Try.f31 (f31_sig k) x = (f31_sig k).F x := by kernel_rfl
theorem f31_ok (k : Nat) : FnOK Try.prog 31 (f31_sig k) :=
  fn_ok2 (E := E_f31 k) (env_cons (one_sig (f52_ok k)) (env_cons (one_sig (f51_ok k)) (env_cons (one_sig (f35_ok k)) (env_nil)))) mixed Try.func31 Try.call31 (by kernel_rfl) (by kernel_rfl) (m := 0) (by kernel_rfl) trivial (sk := []) (by kernel_rfl) trivial (f31_run k)

/-! ### gamehall/pattern.Mirror: function 32 -/
noncomputable def l32_6 (k : Nat) : Nat → (Int × Int × (List Int) × Int × Unit) → (Int × Int × (List Int) × Int × Unit) → (Int × Int × (List Int) × Int × Unit) → Int → Int → Option (((Int × Int × (List Int) × Int × Unit) × (Int × Int × (List Int) × Int × Unit) × Unit))
  | 0, _, _, _, _, _ => none
  | j + 1, s3, s4, s7, s25, s26 =>
    bif decide (s26 < s25) then
      bif decide (s3.1 = 0) then
        none
      else
      bif decide (s3.1 = 0) then
        none
      else
      bif decide (0 ≤ (w64 ((w64 ((w64 ((w64 ((w64 (s26.tdiv s3.1)) * s3.1)) + s3.1)) - 1)) - (s26.tmod s3.1)))) && decide ((w64 ((w64 ((w64 ((w64 ((w64 (s26.tdiv s3.1)) * s3.1)) + s3.1)) - 1)) - (s26.tmod s3.1))) < (s3.2.2.1.length : Int)) then
        bif decide ((s7.2.2.1.length + [rd 0 s3.2.2.1 (w64 ((w64 ((w64 ((w64 ((w64 (s26.tdiv s3.1)) * s3.1)) + s3.1)) - 1)) - (s26.tmod s3.1)))].length) * 8 ≤ roomN) then
          l32_6 k j s3 s4 (s7.1, s7.2.1, s7.2.2.1 ++ [rd 0 s3.2.2.1 (w64 ((w64 ((w64 ((w64 ((w64 (s26.tdiv s3.1)) * s3.1)) + s3.1)) - 1)) - (s26.tmod s3.1)))], s7.2.2.2) s25 (w64 (s26 + 1))
        else
          none
      else
        none
    else
      some (s4, s7, ())
noncomputable def l32_6_sig (k : Nat) : LoopSig := ⟨[(3, .obj (.box (.val (.pair (.int .i64) (.pair (.int .i64) (.pair (.sl (.int .i64)) (.pair (.int .i64) (.unit)))))))), (4, .obj (.box (.cons (.val (.int .i64)) (.cons (.val (.int .i64)) (.cons (.row (.int .i64)) (.cons (.val (.int .i64)) (.nil))))))), (7, .obj (.box (.cons (.val (.int .i64)) (.cons (.val (.int .i64)) (.cons (.row (.int .i64)) (.cons (.val (.int .i64)) (.nil))))))), (25, .obj (.val (.int .i64))), (26, .obj (.val (.int .i64)))], [(.exit 0, [(4, .obj (.box (.cons (.val (.int .i64)) (.cons (.val (.int .i64)) (.cons (.row (.int .i64)) (.cons (.val (.int .i64)) (.nil))))))), (7, .obj (.box (.cons (.val (.int .i64)) (.cons (.val (.int .i64)) (.cons (.row (.int .i64)) (.cons (.val (.int .i64)) (.nil)))))))])], fun j x => l32_6 k j x.1 x.2.1 x.2.2.1 x.2.2.2.1 x.2.2.2.2.1⟩
noncomputable def f32 (k : Nat) (x0 : ByteArray × Int × Int × (List (Int × Int × Int × (List (Int × Int × Int × Int × Unit)) × Unit)) × (List Int) × Bool × Bool × (List (Int × Int × Int × Bool × Unit)) × Int × Int × Int × Unit) (x1 : Int × Int × (List Int) × Int × Unit) : Option (((Int × Int × (List Int) × Int × Unit) × Int × Unit)) :=
  (f53 k x0 x1).bind fun r1 =>
  bif r1.1 != 0 then
    some ((0, 0, [], 0, ()), r1)
  else
    (l32_6 k k x1 (0, 0, [], 0, ()) (x1.1, x1.2.1, [], x1.2.2.2) (x1.2.2.1.length : Int) 0).bind fun o2 =>
    some (o2.2.1, 0, ())
noncomputable def f32_sig (k : Nat) : Sig := ⟨[.val (.pair (.str) (.pair (.int .i64) (.pair (.int .i64) (.pair (.sl (.pair (.int .u8) (.pair (.int .i64) (.pair (.int .i64) (.pair (.sl (.pair (.int .i64) (.pair (.int .i64) (.pair (.int .i64) (.pair (.int .i64) (.unit)))))) (.unit)))))) (.pair (.sl (.int .i64)) (.pair (.bool) (.pair (.bool) (.pair (.sl (.pair (.int .i64) (.pair (.int .i64) (.pair (.int .i64) (.pair (.bool) (.unit)))))) (.pair (.int .i64) (.pair (.int .i64) (.pair (.int .i64) (.unit)))))))))))), .val (.pair (.int .i64) (.pair (.int .i64) (.pair (.sl (.int .i64)) (.pair (.int .i64) (.unit)))))], [], [[.cons (.val (.int .i64)) (.cons (.val (.int .i64)) (.cons (.row (.int .i64)) (.cons (.val (.int .i64)) (.nil)))), .val (.int .i64)]], fun x => f32 k x.1 x.2.1⟩
noncomputable def E_f32 (k : Nat) : Env := ⟨Try.prog, scons 53 [f53_sig k] (snil), tcons 6 (l32_6_sig k) (tnil), tnil, unil, k⟩
theorem l32_6_ok (k : Nat) : LoopOK (E_f32 k) ⟨Try.f32.ntmps, []⟩ (nthC 0 (loopsIn (Try.f32.body.getD .skip))) :=
  loop_ok (ls := l32_6_sig k) (by kernel_rfl) (fun _ => by kernel_rfl) (fun j x => by kernel_rfl)
theorem f32_run (k : Nat) (x : (lTy (lay 0 (f32_sig k).ins)).den) : runF (E_f32 k) Try.f32 (f32_sig k) x = (f32_sig k).F x := by kernel_rfl
theorem f32_ok (k : Nat) : FnOK Try.prog 32 (f32_sig k) :=
  fn_ok2 (E := E_f32 k) (env_cons (one_sig (f53_ok k)) (env_nil)) mixed Try.func32 Try.call32 (by kernel_rfl) (by kernel_rfl) (m := 1) (by kernel_rfl) ⟨trivial, l32_6_ok k⟩ (sk := []) (by kernel_rfl) trivial (f32_run k)

/-! ### gamehall/gamehallkeep3.PatternTwice: function 11 -/
noncomputable def l11_9 (k : Nat) : Nat → (Int × Int × (List Int) × Int × Unit) → (Int × Int × (List Int) × Int × Unit) → Bool → Int → Int → Option ((Bool × Unit))
  | 0, _, _, _, _, _ => none
  | j + 1, s3, s7, s9, s65, s66 =>
    bif decide (s66 < s65) then
      bif s9 then
        bif decide (0 ≤ s66) && decide (s66 < (s7.2.2.1.length : Int)) then
          bif decide (0 ≤ s66) && decide (s66 < (s3.2.2.1.length : Int)) then
            l11_9 k j s3 s7 ((rd 0 s7.2.2.1 s66) == (rd 0 s3.2.2.1 s66)) s65 (w64 (s66 + 1))
          else
            none
        else
          none
      else
        l11_9 k j s3 s7 false s65 (w64 (s66 + 1))
    else
      some (s9, ())
noncomputable def l11_9_sig (k : Nat) : LoopSig := ⟨[(3, .obj (.box (.val (.pair (.int .i64) (.pair (.int .i64) (.pair (.sl (.int .i64)) (.pair (.int .i64) (.unit)))))))), (7, .obj (.box (.cons (.val (.int .i64)) (.cons (.val (.int .i64)) (.cons (.row (.int .i64)) (.cons (.val (.int .i64)) (.nil))))))), (9, .obj (.val (.bool))), (65, .obj (.val (.int .i64))), (66, .obj (.val (.int .i64)))], [(.exit 0, [(9, .obj (.val (.bool)))])], fun j x => l11_9 k j x.1 x.2.1 x.2.2.1 x.2.2.2.1 x.2.2.2.2.1⟩
noncomputable def f11 (k : Nat) (x0 : ByteArray × Int × Int × (List (Int × Int × Int × (List (Int × Int × Int × Int × Unit)) × Unit)) × (List Int) × Bool × Bool × (List (Int × Int × Int × Bool × Unit)) × Int × Int × Int × Unit) (x1 : Int × Int × (List Int) × Int × Unit) : Option ((Bool × Unit)) :=
  (f31 k).bind fun r1 =>
  bif !r1.1 then
    some (false, ())
  else
    (f32 k x0 x1).bind fun r2 =>
    bif r2.2.1 != 0 then
      some ((r2.1.2.2.1.length : Int) == 0, ())
    else
      (f32 k x0 r2.1).bind fun r3 =>
      bif r3.2.1 == 0 then
        bif (r3.1.2.2.1.length : Int) == (x1.2.2.1.length : Int) then
          bif r3.1.1 == x1.1 then
            bif r3.1.2.1 == x1.2.1 then
              (l11_9 k k x1 r3.1 (r3.1.2.2.2.1 == x1.2.2.2.1) (x1.2.2.1.length : Int) 0).bind fun o4 =>
              some o4
            else
              (l11_9 k k x1 r3.1 false (x1.2.2.1.length : Int) 0).bind fun o5 =>
              some o5
          else
            (l11_9 k k x1 r3.1 false (x1.2.2.1.length : Int) 0).bind fun o6 =>
            some o6
        else
          (l11_9 k k x1 r3.1 false (x1.2.2.1.length : Int) 0).bind fun o7 =>
          some o7
      else
        (l11_9 k k x1 r3.1 false (x1.2.2.1.length : Int) 0).bind fun o8 =>
        some o8
noncomputable def f11_sig (k : Nat) : Sig := ⟨[.val (.pair (.str) (.pair (.int .i64) (.pair (.int .i64) (.pair (.sl (.pair (.int .u8) (.pair (.int .i64) (.pair (.int .i64) (.pair (.sl (.pair (.int .i64) (.pair (.int .i64) (.pair (.int .i64) (.pair (.int .i64) (.unit)))))) (.unit)))))) (.pair (.sl (.int .i64)) (.pair (.bool) (.pair (.bool) (.pair (.sl (.pair (.int .i64) (.pair (.int .i64) (.pair (.int .i64) (.pair (.bool) (.unit)))))) (.pair (.int .i64) (.pair (.int .i64) (.pair (.int .i64) (.unit)))))))))))), .val (.pair (.int .i64) (.pair (.int .i64) (.pair (.sl (.int .i64)) (.pair (.int .i64) (.unit)))))], [], [[.val (.bool)]], fun x => f11 k x.1 x.2.1⟩
noncomputable def E_f11 (k : Nat) : Env := ⟨Try.prog, scons 32 [f32_sig k] (scons 31 [f31_sig k] (snil)), tcons 9 (l11_9_sig k) (tnil), tnil, unil, k⟩
theorem l11_9_ok (k : Nat) : LoopOK (E_f11 k) ⟨Try.f11.ntmps, []⟩ (nthC 0 (loopsIn (Try.f11.body.getD .skip))) :=
  loop_ok (ls := l11_9_sig k) (by kernel_rfl) (fun _ => by kernel_rfl) (fun j x => by kernel_rfl)
theorem f11_run (k : Nat) (x : (lTy (lay 0 (f11_sig k).ins)).den) : runF (E_f11 k) Try.f11 (f11_sig k) x = (f11_sig k).F x := by kernel_rfl
theorem f11_ok (k : Nat) : FnOK Try.prog 11 (f11_sig k) :=
  fn_ok2 (E := E_f11 k) (env_cons (one_sig (f32_ok k)) (env_cons (one_sig (f31_ok k)) (env_nil))) mixed Try.func11 Try.call11 (by kernel_rfl) (by kernel_rfl) (m := 1) (by kernel_rfl) ⟨trivial, l11_9_ok k⟩ (sk := []) (by kernel_rfl) trivial (f11_run k)

/-! ### gamehall/gamehallkeep3.great: function 33 -/
noncomputable def f33 (k : Nat) (x0 : ByteArray × Int × Int × (List (Int × Int × Int × (List (Int × Int × Int × Int × Unit)) × Unit)) × (List Int) × Bool × Bool × (List (Int × Int × Int × Bool × Unit)) × Int × Int × Int × Unit) : Option ((Bool × Unit)) :=
  some (decide ((x0.2.2.2.2.1.length : Int) > 20), ())
noncomputable def f33_sig (k : Nat) : Sig := ⟨[.val (.pair (.str) (.pair (.int .i64) (.pair (.int .i64) (.pair (.sl (.pair (.int .u8) (.pair (.int .i64) (.pair (.int .i64) (.pair (.sl (.pair (.int .i64) (.pair (.int .i64) (.pair (.int .i64) (.pair (.int .i64) (.unit)))))) (.unit)))))) (.pair (.sl (.int .i64)) (.pair (.bool) (.pair (.bool) (.pair (.sl (.pair (.int .i64) (.pair (.int .i64) (.pair (.int .i64) (.pair (.bool) (.unit)))))) (.pair (.int .i64) (.pair (.int .i64) (.pair (.int .i64) (.unit))))))))))))], [], [[.val (.bool)]], fun x => f33 k x.1⟩
noncomputable def E_f33 (k : Nat) : Env := ⟨Try.prog, snil, tnil, tnil, unil, k⟩
theorem f33_run (k : Nat) (x : (lTy (lay 0 (f33_sig k).ins)).den) : runF (E_f33 k) Try.f33 (f33_sig k) x = (f33_sig k).F x := by kernel_rfl
theorem f33_ok (k : Nat) : FnOK Try.prog 33 (f33_sig k) :=
  fn_ok2 (E := E_f33 k) (env_nil) mixed Try.func33 Try.call33 (by kernel_rfl) (by kernel_rfl) (m := 0) (by kernel_rfl) trivial (sk := []) (by kernel_rfl) trivial (f33_run k)

/-! ### gamehall/pattern.Cut: function 34 -/
noncomputable def l34_8 (k : Nat) : Nat → Int → Int → (ByteArray × Int × Int × (List (Int × Int × Int × (List (Int × Int × Int × Int × Unit)) × Unit)) × (List Int) × Bool × Bool × (List (Int × Int × Int × Bool × Unit)) × Int × Int × Int × Unit) → ((List Int) × ((List Int) × (List Int) × Unit) × Int × Int × Unit) → (Int × Int × (List Int) × Int × Unit) → (Int × Int × (List Int) × Int × Unit) → Int → Int → Option (((Int × Int × (List Int) × Int × Unit) × (Int × Int × (List Int) × Int × Unit) × Unit))
  | 0, _, _, _, _, _, _, _, _ => none
  | j + 1, s2, s3, s5, s6, s10, s13, s81, s82 =>
    bif decide (s82 < s81) then
      bif decide (s3 = 0) then
        none
      else
      bif decide (s3 = 0) then
        none
      else
      bif decide (0 ≤ (w64 ((w64 (s2 + (w64 ((w64 (s82.tdiv s3)) * s5.2.1)))) + (s82.tmod s3)))) && decide ((w64 ((w64 (s2 + (w64 ((w64 (s82.tdiv s3)) * s5.2.1)))) + (s82.tmod s3))) < (s6.1.length : Int)) then
        bif decide ((s13.2.2.1.length + [rd 0 s6.1 (w64 ((w64 (s2 + (w64 ((w64 (s82.tdiv s3)) * s5.2.1)))) + (s82.tmod s3)))].length) * 8 ≤ roomN) then
          l34_8 k j s2 s3 s5 s6 s10 (s13.1, s13.2.1, s13.2.2.1 ++ [rd 0 s6.1 (w64 ((w64 (s2 + (w64 ((w64 (s82.tdiv s3)) * s5.2.1)))) + (s82.tmod s3)))], s13.2.2.2) s81 (w64 (s82 + 1))
        else
          none
      else
        none
    else
      some (s10, s13, ())
noncomputable def l34_8_sig (k : Nat) : LoopSig := ⟨[(2, .obj (.val (.int .i64))), (3, .obj (.val (.int .i64))), (5, .obj (.box (.val (.pair (.str) (.pair (.int .i64) (.pair (.int .i64) (.pair (.sl (.pair (.int .u8) (.pair (.int .i64) (.pair (.int .i64) (.pair (.sl (.pair (.int .i64) (.pair (.int .i64) (.pair (.int .i64) (.pair (.int .i64) (.unit)))))) (.unit)))))) (.pair (.sl (.int .i64)) (.pair (.bool) (.pair (.bool) (.pair (.sl (.pair (.int .i64) (.pair (.int .i64) (.pair (.int .i64) (.pair (.bool) (.unit)))))) (.pair (.int .i64) (.pair (.int .i64) (.pair (.int .i64) (.unit))))))))))))))), (6, .obj (.box (.val (.pair (.sl (.int .i64)) (.pair (.pair (.sl (.int .i64)) (.pair (.sl (.int .i64)) (.unit))) (.pair (.int .i64) (.pair (.int .i64) (.unit)))))))), (10, .obj (.box (.cons (.val (.int .i64)) (.cons (.val (.int .i64)) (.cons (.row (.int .i64)) (.cons (.val (.int .i64)) (.nil))))))), (13, .obj (.box (.cons (.val (.int .i64)) (.cons (.val (.int .i64)) (.cons (.row (.int .i64)) (.cons (.val (.int .i64)) (.nil))))))), (81, .obj (.val (.int .i64))), (82, .obj (.val (.int .i64)))], [(.exit 0, [(10, .obj (.box (.cons (.val (.int .i64)) (.cons (.val (.int .i64)) (.cons (.row (.int .i64)) (.cons (.val (.int .i64)) (.nil))))))), (13, .obj (.box (.cons (.val (.int .i64)) (.cons (.val (.int .i64)) (.cons (.row (.int .i64)) (.cons (.val (.int .i64)) (.nil)))))))])], fun j x => l34_8 k j x.1 x.2.1 x.2.2.1 x.2.2.2.1 x.2.2.2.2.1 x.2.2.2.2.2.1 x.2.2.2.2.2.2.1 x.2.2.2.2.2.2.2.1⟩
noncomputable def f34 (k : Nat) (x0 : ByteArray × Int × Int × (List (Int × Int × Int × (List (Int × Int × Int × Int × Unit)) × Unit)) × (List Int) × Bool × Bool × (List (Int × Int × Int × Bool × Unit)) × Int × Int × Int × Unit) (x1 : (List Int) × ((List Int) × (List Int) × Unit) × Int × Int × Unit) (x2 : Int) (x3 : Int) (x4 : Int) : Option (((Int × Int × (List Int) × Int × Unit) × Int × Unit)) :=
  (f54 k x0 x1).bind fun r1 =>
  bif r1.1 != 0 then
    some ((0, 0, [], 0, ()), r1)
  else
  bif decide (x2 < 0) then
    some ((0, 0, [], 0, ()), 4, ())
  else
  bif decide (x2 ≥ (x1.1.length : Int)) then
    some ((0, 0, [], 0, ()), 4, ())
  else
  bif decide (x3 < 1) then
    some ((0, 0, [], 0, ()), 4, ())
  else
  bif decide (x4 < 1) then
    some ((0, 0, [], 0, ()), 4, ())
  else
  bif decide (x3 > x0.2.1) then
    some ((0, 0, [], 0, ()), 4, ())
  else
  bif decide (x4 > x0.2.2.1) then
    some ((0, 0, [], 0, ()), 4, ())
  else
  bif decide (x0.2.1 = 0) then
    none
  else
  bif decide ((w64 ((x2.tmod x0.2.1) + x3)) > x0.2.1) then
    some ((0, 0, [], 0, ()), 4, ())
  else
  bif decide (x0.2.1 = 0) then
    none
  else
  bif decide ((w64 ((w64 (x2.tdiv x0.2.1)) + x4)) > x0.2.2.1) then
    some ((0, 0, [], 0, ()), 4, ())
  else
    (l34_8 k k x2 x3 x0 x1 (0, 0, [], 0, ()) (x3, x4, [], x1.2.2.1, ()) (w64 (x3 * x4)) 0).bind fun o2 =>
    some (o2.2.1, 0, ())
noncomputable def f34_sig (k : Nat) : Sig := ⟨[.val (.pair (.str) (.pair (.int .i64) (.pair (.int .i64) (.pair (.sl (.pair (.int .u8) (.pair (.int .i64) (.pair (.int .i64) (.pair (.sl (.pair (.int .i64) (.pair (.int .i64) (.pair (.int .i64) (.pair (.int .i64) (.unit)))))) (.unit)))))) (.pair (.sl (.int .i64)) (.pair (.bool) (.pair (.bool) (.pair (.sl (.pair (.int .i64) (.pair (.int .i64) (.pair (.int .i64) (.pair (.bool) (.unit)))))) (.pair (.int .i64) (.pair (.int .i64) (.pair (.int .i64) (.unit)))))))))))), .val (.pair (.sl (.int .i64)) (.pair (.pair (.sl (.int .i64)) (.pair (.sl (.int .i64)) (.unit))) (.pair (.int .i64) (.pair (.int .i64) (.unit))))), .val (.int .i64), .val (.int .i64), .val (.int .i64)], [], [[.cons (.val (.int .i64)) (.cons (.val (.int .i64)) (.cons (.row (.int .i64)) (.cons (.val (.int .i64)) (.nil)))), .val (.int .i64)]], fun x => f34 k x.1 x.2.1 x.2.2.1 x.2.2.2.1 x.2.2.2.2.1⟩
noncomputable def E_f34 (k : Nat) : Env := ⟨Try.prog, scons 54 [f54_sig k] (snil), tcons 8 (l34_8_sig k) (tnil), tnil, unil, k⟩
theorem l34_8_ok (k : Nat) : LoopOK (E_f34 k) ⟨Try.f34.ntmps, []⟩ (nthC 0 (loopsIn (Try.f34.body.getD .skip))) :=
  loop_ok (ls := l34_8_sig k) (by kernel_rfl) (fun _ => by kernel_rfl) (fun j x => by kernel_rfl)
theorem f34_run (k : Nat) (x : (lTy (lay 0 (f34_sig k).ins)).den) : runF (E_f34 k) Try.f34 (f34_sig k) x = (f34_sig k).F x := by kernel_rfl
theorem f34_ok (k : Nat) : FnOK Try.prog 34 (f34_sig k) :=
  fn_ok2 (E := E_f34 k) (env_cons (one_sig (f54_ok k)) (env_nil)) mixed Try.func34 Try.call34 (by kernel_rfl) (by kernel_rfl) (m := 1) (by kernel_rfl) ⟨trivial, l34_8_ok k⟩ (sk := []) (by kernel_rfl) trivial (f34_run k)

/-! ### gamehall/pattern.All: function 36 -/
noncomputable def l36_9 (k : Nat) : Nat → (ByteArray × Int × Int × (List (Int × Int × Int × (List (Int × Int × Int × Int × Unit)) × Unit)) × (List Int) × Bool × Bool × (List (Int × Int × Int × Bool × Unit)) × Int × Int × Int × Unit) → (Int × Int × (List Int) × Int × Unit) → ((List Int) × ((List Int) × (List Int) × Unit) × Int × Int × Unit) → (List Int) → Int → Int → Option (((List Int) × Unit))
  | 0, _, _, _, _, _, _ => none
  | j + 1, s3, s4, s5, s10, s26, s27 =>
    bif decide (s27 < s26) then
      (f55 k s3 s4 s5 s27).bind fun r1 =>
      bif r1.1 then
        bif decide ((s10.length + [s27].length) * 8 ≤ roomN) then
          l36_9 k j s3 s4 s5 (s10 ++ [s27]) s26 (w64 (s27 + 1))
        else
          none
      else
        l36_9 k j s3 s4 s5 s10 s26 (w64 (s27 + 1))
    else
      some (s10, ())
noncomputable def l36_9_sig (k : Nat) : LoopSig := ⟨[(3, .obj (.box (.val (.pair (.str) (.pair (.int .i64) (.pair (.int .i64) (.pair (.sl (.pair (.int .u8) (.pair (.int .i64) (.pair (.int .i64) (.pair (.sl (.pair (.int .i64) (.pair (.int .i64) (.pair (.int .i64) (.pair (.int .i64) (.unit)))))) (.unit)))))) (.pair (.sl (.int .i64)) (.pair (.bool) (.pair (.bool) (.pair (.sl (.pair (.int .i64) (.pair (.int .i64) (.pair (.int .i64) (.pair (.bool) (.unit)))))) (.pair (.int .i64) (.pair (.int .i64) (.pair (.int .i64) (.unit))))))))))))))), (4, .obj (.box (.val (.pair (.int .i64) (.pair (.int .i64) (.pair (.sl (.int .i64)) (.pair (.int .i64) (.unit)))))))), (5, .obj (.box (.val (.pair (.sl (.int .i64)) (.pair (.pair (.sl (.int .i64)) (.pair (.sl (.int .i64)) (.unit))) (.pair (.int .i64) (.pair (.int .i64) (.unit)))))))), (10, .obj (.row (.int .i64))), (26, .obj (.val (.int .i64))), (27, .obj (.val (.int .i64)))], [(.exit 0, [(10, .obj (.row (.int .i64)))])], fun j x => l36_9 k j x.1 x.2.1 x.2.2.1 x.2.2.2.1 x.2.2.2.2.1 x.2.2.2.2.2.1⟩
noncomputable def f36 (k : Nat) (x0 : ByteArray × Int × Int × (List (Int × Int × Int × (List (Int × Int × Int × Int × Unit)) × Unit)) × (List Int) × Bool × Bool × (List (Int × Int × Int × Bool × Unit)) × Int × Int × Int × Unit) (x1 : Int × Int × (List Int) × Int × Unit) (x2 : (List Int) × ((List Int) × (List Int) × Unit) × Int × Int × Unit) : Option (((List Int) × Int × Unit)) :=
  (f53 k x0 x1).bind fun r1 =>
  bif r1.1 != 0 then
    some ([], r1)
  else
    (f54 k x0 x2).bind fun r2 =>
    bif r2.1 != 0 then
      some ([], r2)
    else
      (l36_9 k k x0 x1 x2 [] (x2.1.length : Int) 0).bind fun o3 =>
      some (o3.1, 0, ())
noncomputable def f36_sig (k : Nat) : Sig := ⟨[.val (.pair (.str) (.pair (.int .i64) (.pair (.int .i64) (.pair (.sl (.pair (.int .u8) (.pair (.int .i64) (.pair (.int .i64) (.pair (.sl (.pair (.int .i64) (.pair (.int .i64) (.pair (.int .i64) (.pair (.int .i64) (.unit)))))) (.unit)))))) (.pair (.sl (.int .i64)) (.pair (.bool) (.pair (.bool) (.pair (.sl (.pair (.int .i64) (.pair (.int .i64) (.pair (.int .i64) (.pair (.bool) (.unit)))))) (.pair (.int .i64) (.pair (.int .i64) (.pair (.int .i64) (.unit)))))))))))), .val (.pair (.int .i64) (.pair (.int .i64) (.pair (.sl (.int .i64)) (.pair (.int .i64) (.unit))))), .val (.pair (.sl (.int .i64)) (.pair (.pair (.sl (.int .i64)) (.pair (.sl (.int .i64)) (.unit))) (.pair (.int .i64) (.pair (.int .i64) (.unit)))))], [], [[.row (.int .i64), .val (.int .i64)]], fun x => f36 k x.1 x.2.1 x.2.2.1⟩
noncomputable def E_f36 (k : Nat) : Env := ⟨Try.prog, scons 55 [f55_sig k] (scons 54 [f54_sig k] (scons 53 [f53_sig k] (snil))), tcons 9 (l36_9_sig k) (tnil), tnil, unil, k⟩
theorem l36_9_ok (k : Nat) : LoopOK (E_f36 k) ⟨Try.f36.ntmps, []⟩ (nthC 0 (loopsIn (Try.f36.body.getD .skip))) :=
  loop_ok (ls := l36_9_sig k) (by kernel_rfl) (fun _ => by kernel_rfl) (fun j x => by kernel_rfl)
theorem f36_run (k : Nat) (x : (lTy (lay 0 (f36_sig k).ins)).den) : runF (E_f36 k) Try.f36 (f36_sig k) x = (f36_sig k).F x := by kernel_rfl
theorem f36_ok (k : Nat) : FnOK Try.prog 36 (f36_sig k) :=
  fn_ok2 (E := E_f36 k) (env_cons (one_sig (f55_ok k)) (env_cons (one_sig (f54_ok k)) (env_cons (one_sig (f53_ok k)) (env_nil)))) mixed Try.func36 Try.call36 (by kernel_rfl) (by kernel_rfl) (m := 1) (by kernel_rfl) ⟨trivial, l36_9_ok k⟩ (sk := []) (by kernel_rfl) trivial (f36_run k)

/-! ### gamehall/gamehallkeep3.PatternOwn: function 12 -/
noncomputable def l12_12 (k : Nat) : Nat → Int → Bool → Int → Int → Bool → (List Int) → Int → Int → Option ((Bool × Int × Int × Bool × Unit))
  | 0, _, _, _, _, _, _, _, _ => none
  | j + 1, s2, s13, s14, s16, s17, s54, s55, s56 =>
    bif decide (s56 < s55) then
      bif decide (0 ≤ s56) && decide (s56 < (s54.length : Int)) then
        bif s17 then
          l12_12 k j s2 s13 s14 s16 true s54 s55 (w64 (s56 + 1))
        else
          l12_12 k j s2 s13 s14 s16 ((rd 0 s54 s56) == s2) s54 s55 (w64 (s56 + 1))
      else
        none
    else
      some (s13, s14, s16, s17, ())
noncomputable def l12_12_sig (k : Nat) : LoopSig := ⟨[(2, .obj (.val (.int .i64))), (13, .obj (.val (.bool))), (14, .obj (.val (.int .i64))), (16, .obj (.val (.int .i64))), (17, .obj (.val (.bool))), (54, .obj (.row (.int .i64))), (55, .obj (.val (.int .i64))), (56, .obj (.val (.int .i64)))], [(.exit 0, [(13, .obj (.val (.bool))), (14, .obj (.val (.int .i64))), (16, .obj (.val (.int .i64))), (17, .obj (.val (.bool)))])], fun j x => l12_12 k j x.1 x.2.1 x.2.2.1 x.2.2.2.1 x.2.2.2.2.1 x.2.2.2.2.2.1 x.2.2.2.2.2.2.1 x.2.2.2.2.2.2.2.1⟩
noncomputable def f12 (k : Nat) (x0 : ByteArray × Int × Int × (List (Int × Int × Int × (List (Int × Int × Int × Int × Unit)) × Unit)) × (List Int) × Bool × Bool × (List (Int × Int × Int × Bool × Unit)) × Int × Int × Int × Unit) (x1 : (List Int) × ((List Int) × (List Int) × Unit) × Int × Int × Unit) (x2 : Int) (x3 : Int) (x4 : Int) : Option ((Bool × Unit)) :=
  (f31 k).bind fun r1 =>
  bif !r1.1 then
    some (false, ())
  else
    (f33 k x0).bind fun r2 =>
    bif r2.1 then
      some (true, ())
    else
      (f34 k x0 x1 x2 x3 x4).bind fun r3 =>
      bif r3.2.1 != 0 then
        some ((r3.1.2.2.1.length : Int) == 0, ())
      else
        (f35 k x0 r3.1 x1 x2).bind fun r4 =>
        (f36 k x0 r3.1 x1).bind fun r5 =>
        (l12_12 k k x2 r4.1 r4.2.1 r5.2.1 false r5.1 (r5.1.length : Int) 0).bind fun o6 =>
        bif o6.2.1 == 0 then
          bif o6.1 then
            bif o6.2.2.1 == 0 then
              some o6.2.2.2
            else
              some (false, ())
          else
            some (false, ())
        else
          some (false, ())
noncomputable def f12_sig (k : Nat) : Sig := ⟨[.val (.pair (.str) (.pair (.int .i64) (.pair (.int .i64) (.pair (.sl (.pair (.int .u8) (.pair (.int .i64) (.pair (.int .i64) (.pair (.sl (.pair (.int .i64) (.pair (.int .i64) (.pair (.int .i64) (.pair (.int .i64) (.unit)))))) (.unit)))))) (.pair (.sl (.int .i64)) (.pair (.bool) (.pair (.bool) (.pair (.sl (.pair (.int .i64) (.pair (.int .i64) (.pair (.int .i64) (.pair (.bool) (.unit)))))) (.pair (.int .i64) (.pair (.int .i64) (.pair (.int .i64) (.unit)))))))))))), .val (.pair (.sl (.int .i64)) (.pair (.pair (.sl (.int .i64)) (.pair (.sl (.int .i64)) (.unit))) (.pair (.int .i64) (.pair (.int .i64) (.unit))))), .val (.int .i64), .val (.int .i64), .val (.int .i64)], [], [[.val (.bool)]], fun x => f12 k x.1 x.2.1 x.2.2.1 x.2.2.2.1 x.2.2.2.2.1⟩
noncomputable def E_f12 (k : Nat) : Env := ⟨Try.prog, scons 36 [f36_sig k] (scons 35 [f35_sig k] (scons 34 [f34_sig k] (scons 33 [f33_sig k] (scons 31 [f31_sig k] (snil))))), tcons 12 (l12_12_sig k) (tnil), tnil, unil, k⟩
theorem l12_12_ok (k : Nat) : LoopOK (E_f12 k) ⟨Try.f12.ntmps, []⟩ (nthC 0 (loopsIn (Try.f12.body.getD .skip))) :=
  loop_ok (ls := l12_12_sig k) (by kernel_rfl) (fun _ => by kernel_rfl) (fun j x => by kernel_rfl)
theorem f12_run (k : Nat) (x : (lTy (lay 0 (f12_sig k).ins)).den) : runF (E_f12 k) Try.f12 (f12_sig k) x = (f12_sig k).F x := by kernel_rfl
theorem f12_ok (k : Nat) : FnOK Try.prog 12 (f12_sig k) :=
  fn_ok2 (E := E_f12 k) (env_cons (one_sig (f36_ok k)) (env_cons (one_sig (f35_ok k)) (env_cons (one_sig (f34_ok k)) (env_cons (one_sig (f33_ok k)) (env_cons (one_sig (f31_ok k)) (env_nil)))))) mixed Try.func12 Try.call12 (by kernel_rfl) (by kernel_rfl) (m := 1) (by kernel_rfl) ⟨trivial, l12_12_ok k⟩ (sk := []) (by kernel_rfl) trivial (f12_run k)
end Go.Proofs.Ytfalgaldkadgoaa.G
