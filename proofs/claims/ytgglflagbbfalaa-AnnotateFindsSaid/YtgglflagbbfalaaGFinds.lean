import Derived.Test.YtgglflagbbfalaaVM25
import Derived.Test.YtgglflagbbfalaaVM23
import Derived.Test.YtgglflagbbfalaaChecked
namespace Go.Proofs.Ytgglflagbbfalaa.G
open Go.VM Go.Proofs

abbrev w64 (n : Int) : Int := IntKind.i64.wrap n
theorem mixed : Try.prog.follows .mixedOrders = true := by kernel_rfl
def G0 : GTab := []

/-! ### gamehall/gamehallkeep3.tic: function 11 -/
noncomputable def f11 (k : Nat) : Option (((ByteArray × Int × Int × (List (Int × Int × Int × (List (Int × Int × Int × Int × Unit)) × Unit)) × (List Int) × Bool × Bool × (List (Int × Int × Int × Bool × Unit)) × Int × Int × Int × Unit) × Unit)) :=
  some (((⟨#[84, 73, 67]⟩ : ByteArray), 3, 3, [(83, 5, 0, [], ())], List.replicate (9 : Int).toNat 0, false, false, [(0, 0, 3, false, ())], 2, 0, 0, ()), ())
noncomputable def f11_sig (k : Nat) : Sig := ⟨[], [], [[.cons (.val (.str)) (.cons (.val (.int .i64)) (.cons (.val (.int .i64)) (.cons (.row (.pair (.int .u8) (.pair (.int .i64) (.pair (.int .i64) (.pair (.sl (.pair (.int .i64) (.pair (.int .i64) (.pair (.int .i64) (.pair (.int .i64) (.unit)))))) (.unit)))))) (.cons (.row (.int .i64)) (.cons (.val (.bool)) (.cons (.val (.bool)) (.cons (.row (.pair (.int .i64) (.pair (.int .i64) (.pair (.int .i64) (.pair (.bool) (.unit)))))) (.cons (.val (.int .i64)) (.cons (.val (.int .i64)) (.cons (.val (.int .i64)) (.nil)))))))))))]], fun x => f11 k⟩
noncomputable def E_f11 (k : Nat) : Env := ⟨Try.prog, G0, snil, tnil, tnil, unil, k, qnil⟩
theorem f11_run (k : Nat) (x : (lTy (lay 0 (f11_sig k).ins)).den) : runF (E_f11 k) Try.f11 (f11_sig k) x = (f11_sig k).F x := by kernel_rfl
theorem f11_ok [Dr] (k : Nat) : FnOK Try.prog G0 11 (f11_sig k) :=
  fn_ok2 (E := E_f11 k) (env_nil) (qenv_nil) mixed Try.func11 Try.call11 (by kernel_rfl) (by kernel_rfl) (m := 0) (by kernel_rfl) trivial (sk := []) (by kernel_rfl) trivial (f11_run k)

/-! ### gamehall/gamehallkeep3.drop: function 23 -/
noncomputable def f23 (k : Nat) (x0 : Int) : Option (((Int × Int × Int × Unit) × Unit)) :=
  some (((-1), x0, 0, ()), ())
noncomputable def f23_sig (k : Nat) : Sig := ⟨[.val (.int .i64)], [], [[.val (.pair (.int .i64) (.pair (.int .i64) (.pair (.int .i64) (.unit))))]], fun x => f23 k x.1⟩
noncomputable def E_f23 (k : Nat) : Env := ⟨Try.prog, G0, snil, tnil, tnil, unil, k, qnil⟩
theorem f23_run (k : Nat) (x : (lTy (lay 0 (f23_sig k).ins)).den) : runF (E_f23 k) Try.f23 (f23_sig k) x = (f23_sig k).F x := by kernel_rfl
theorem f23_ok [Dr] (k : Nat) : FnOK Try.prog G0 23 (f23_sig k) :=
  fn_ok2 (E := E_f23 k) (env_nil) (qenv_nil) mixed Try.func23 Try.call23 (by kernel_rfl) (by kernel_rfl) (m := 0) (by kernel_rfl) trivial (sk := []) (by kernel_rfl) trivial (f23_run k)

/-! ### gamehall/gamehallkeep3.one: function 12 -/
noncomputable def f12 (k : Nat) : Option ((((List (ByteArray × ByteArray × Unit)) × ByteArray × (List (Int × (Int × Int × Int × Unit) × ByteArray × Unit)) × Int × Unit) × Unit)) :=
  (f23 k 0).bind fun r1 =>
  some (([], (⟨#[]⟩ : ByteArray), [((-1), r1.1, (⟨#[]⟩ : ByteArray), ())], 0, ()), ())
noncomputable def f12_sig (k : Nat) : Sig := ⟨[], [], [[.cons (.row (.pair (.str) (.pair (.str) (.unit)))) (.cons (.val (.str)) (.cons (.row (.pair (.int .i64) (.pair (.pair (.int .i64) (.pair (.int .i64) (.pair (.int .i64) (.unit)))) (.pair (.str) (.unit))))) (.cons (.val (.int .i64)) (.nil))))]], fun x => f12 k⟩
noncomputable def E_f12 (k : Nat) : Env := ⟨Try.prog, G0, scons 23 [f23_sig k] (snil), tnil, tnil, unil, k, qnil⟩
theorem f12_run (k : Nat) (x : (lTy (lay 0 (f12_sig k).ins)).den) : runF (E_f12 k) Try.f12 (f12_sig k) x = (f12_sig k).F x := by kernel_rfl
theorem f12_ok [Dr] (k : Nat) : FnOK Try.prog G0 12 (f12_sig k) :=
  fn_ok2 (E := E_f12 k) (env_cons (one_sig (f23_ok k)) (env_nil)) (qenv_nil) mixed Try.func12 Try.call12 (by kernel_rfl) (by kernel_rfl) (m := 0) (by kernel_rfl) trivial (sk := []) (by kernel_rfl) trivial (f12_run k)

/-! ### gamehall/rules.Name: function 26 -/
noncomputable def l26_4 (k : Nat) : Nat → ByteArray → Int → Int → Option (Unit ⊕ (Bool × Unit))
  | 0, _, _, _ => none
  | j + 1, s0, s22, s23 =>
    bif decide (s23 < s22) then
      bif decide (0 ≤ s23) && decide (s23 < (s0.size : Int)) then
        bif decide ((bt s0 s23) < 65) then
          bif decide (0 ≤ s23) && decide (s23 < (s0.size : Int)) then
            bif decide ((bt s0 s23) < 48) then
              some (.inr (false, ()))
            else
            bif decide (0 ≤ s23) && decide (s23 < (s0.size : Int)) then
              bif decide ((bt s0 s23) > 57) then
                some (.inr (false, ()))
              else
                l26_4 k j s0 s22 (w64 (s23 + 1))
            else
              none
          else
            none
        else
        bif decide (0 ≤ s23) && decide (s23 < (s0.size : Int)) then
          bif decide ((bt s0 s23) > 90) then
            bif decide (0 ≤ s23) && decide (s23 < (s0.size : Int)) then
              bif decide ((bt s0 s23) < 48) then
                some (.inr (false, ()))
              else
              bif decide (0 ≤ s23) && decide (s23 < (s0.size : Int)) then
                bif decide ((bt s0 s23) > 57) then
                  some (.inr (false, ()))
                else
                  l26_4 k j s0 s22 (w64 (s23 + 1))
              else
                none
            else
              none
          else
            l26_4 k j s0 s22 (w64 (s23 + 1))
        else
          none
      else
        none
    else
      some (.inl ())
noncomputable def l26_4_sig (k : Nat) : LoopSig := ⟨[(0, .obj (.val (.str))), (22, .obj (.val (.int .i64))), (23, .obj (.val (.int .i64)))], [(.exit 0, []), (.ret, [(2, .obj (.val (.bool)))])], fun j x => l26_4 k j x.1 x.2.1 x.2.2.1⟩
noncomputable def f26 (k : Nat) (x0 : ByteArray) : Option ((Bool × Unit)) :=
  bif x0.toList == (⟨#[]⟩ : ByteArray).toList then
    some (false, ())
  else
  bif decide ((x0.size : Int) > 8) then
    some (false, ())
  else
  bif decide (0 < (x0.size : Int)) then
    bif decide ((bt x0 0) ≥ 48) then
      bif decide (0 < (x0.size : Int)) then
        bif decide ((bt x0 0) ≤ 57) then
          some (false, ())
        else
          (l26_4 k k x0 (x0.size : Int) 0).bind fun w1 =>
          Sum.elim
            (fun y1 =>
              some (true, ()))
            (fun y2 =>
              some y2)
            w1
      else
        none
    else
      (l26_4 k k x0 (x0.size : Int) 0).bind fun w2 =>
      Sum.elim
        (fun y3 =>
          some (true, ()))
        (fun y4 =>
          some y4)
        w2
  else
    none
noncomputable def f26_sig (k : Nat) : Sig := ⟨[.val (.str)], [], [[.val (.bool)]], fun x => f26 k x.1⟩
noncomputable def E_f26 (k : Nat) : Env := ⟨Try.prog, G0, snil, tcons 4 (l26_4_sig k) (tnil), tnil, unil, k, qnil⟩
theorem l26_4_ok (k : Nat) : LoopOK (E_f26 k) ⟨Try.f26.ntmps, [], G0⟩ (nthC 0 (loopsIn (Try.f26.body.getD .skip))) :=
  loop_ok (ls := l26_4_sig k) (by kernel_rfl) (fun _ => by kernel_rfl) (fun j x => by kernel_rfl)
theorem f26_run (k : Nat) (x : (lTy (lay 0 (f26_sig k).ins)).den) : runF (E_f26 k) Try.f26 (f26_sig k) x = (f26_sig k).F x := by kernel_rfl
theorem f26_ok [Dr] (k : Nat) : FnOK Try.prog G0 26 (f26_sig k) :=
  fn_ok2 (E := E_f26 k) (env_nil) (qenv_nil) mixed Try.func26 Try.call26 (by kernel_rfl) (by kernel_rfl) (m := 1) (by kernel_rfl) ⟨trivial, l26_4_ok k⟩ (sk := []) (by kernel_rfl) trivial (f26_run k)

/-! ### gamehall/rules.way: function 60 -/
noncomputable def f60 (k : Nat) (x0 : Int × Int × Int × Int × Unit) : Option ((Int × Unit)) :=
  bif decide (x0.1 < (-7)) then
    some (4, ())
  else
  bif decide (x0.1 > 7) then
    some (4, ())
  else
  bif decide (x0.2.1 < (-7)) then
    some (4, ())
  else
  bif decide (x0.2.1 > 7) then
    some (4, ())
  else
  bif x0.1 == 0 then
    bif x0.2.1 == 0 then
      some (4, ())
    else
    bif decide (x0.2.2.1 < 1) then
      some (4, ())
    else
    bif decide (x0.2.2.1 > 7) then
      some (4, ())
    else
    bif decide (x0.2.2.2.1 < 0) then
      some (4, ())
    else
    bif decide (x0.2.2.2.1 > 2) then
      some (4, ())
    else
      some (0, ())
  else
  bif decide (x0.2.2.1 < 1) then
    some (4, ())
  else
  bif decide (x0.2.2.1 > 7) then
    some (4, ())
  else
  bif decide (x0.2.2.2.1 < 0) then
    some (4, ())
  else
  bif decide (x0.2.2.2.1 > 2) then
    some (4, ())
  else
    some (0, ())
noncomputable def f60_sig (k : Nat) : Sig := ⟨[.val (.pair (.int .i64) (.pair (.int .i64) (.pair (.int .i64) (.pair (.int .i64) (.unit)))))], [], [[.val (.int .i64)]], fun x => f60 k x.1⟩
noncomputable def E_f60 (k : Nat) : Env := ⟨Try.prog, G0, snil, tnil, tnil, unil, k, qnil⟩
theorem f60_run (k : Nat) (x : (lTy (lay 0 (f60_sig k).ins)).den) : runF (E_f60 k) Try.f60 (f60_sig k) x = (f60_sig k).F x := by kernel_rfl
theorem f60_ok [Dr] (k : Nat) : FnOK Try.prog G0 60 (f60_sig k) :=
  fn_ok2 (E := E_f60 k) (env_nil) (qenv_nil) mixed Try.func60 Try.call60 (by kernel_rfl) (by kernel_rfl) (m := 0) (by kernel_rfl) trivial (sk := []) (by kernel_rfl) trivial (f60_run k)

/-! ### gamehall/rules.pieces: function 44 -/
noncomputable def l44_11 (k : Nat) : Nat → (List (Int × Int × Int × (List (Int × Int × Int × Int × Unit)) × Unit)) → (Int × Int × Int × (List (Int × Int × Int × Int × Unit)) × Unit) → (List (Int × Int × Int × (List (Int × Int × Int × Int × Unit)) × Unit)) → Int → Int → (List (Int × Int × Int × (List (Int × Int × Int × Int × Unit)) × Unit)) → Int → Int → Option (((List (Int × Int × Int × (List (Int × Int × Int × Int × Unit)) × Unit)) × (Int × Int × Int × (List (Int × Int × Int × Int × Unit)) × Unit) × (List (Int × Int × Int × (List (Int × Int × Int × Int × Unit)) × Unit)) × Int × Int × Unit) ⊕ (Int × Unit))
  | 0, _, _, _, _, _, _, _, _ => none
  | j + 1, s0, s4, s18, s19, s20, s35, s36, s37 =>
    bif decide (s37 < s36) then
      bif decide (0 ≤ s37) && decide (s37 < (s35.length : Int)) then
        bif (rd ((0, 0, 0, [], ()) : Int × Int × Int × (List (Int × Int × Int × Int × Unit)) × Unit) s35 s37).1 == s4.1 then
          some (.inr (7, ()))
        else
          l44_11 k j s0 s4 s18 s19 s20 s35 s36 (w64 (s37 + 1))
      else
        none
    else
      some (.inl (s0, s4, s18, s19, s20, ()))
noncomputable def l44_11_sig (k : Nat) : LoopSig := ⟨[(0, .obj (.val (.sl (.pair (.int .u8) (.pair (.int .i64) (.pair (.int .i64) (.pair (.sl (.pair (.int .i64) (.pair (.int .i64) (.pair (.int .i64) (.pair (.int .i64) (.unit)))))) (.unit)))))))), (4, .obj (.box (.val (.pair (.int .u8) (.pair (.int .i64) (.pair (.int .i64) (.pair (.sl (.pair (.int .i64) (.pair (.int .i64) (.pair (.int .i64) (.pair (.int .i64) (.unit)))))) (.unit)))))))), (18, .obj (.val (.sl (.pair (.int .u8) (.pair (.int .i64) (.pair (.int .i64) (.pair (.sl (.pair (.int .i64) (.pair (.int .i64) (.pair (.int .i64) (.pair (.int .i64) (.unit)))))) (.unit)))))))), (19, .obj (.val (.int .i64))), (20, .obj (.val (.int .i64))), (35, .obj (.val (.sl (.pair (.int .u8) (.pair (.int .i64) (.pair (.int .i64) (.pair (.sl (.pair (.int .i64) (.pair (.int .i64) (.pair (.int .i64) (.pair (.int .i64) (.unit)))))) (.unit)))))))), (36, .obj (.val (.int .i64))), (37, .obj (.val (.int .i64)))], [(.exit 3, [(0, .obj (.val (.sl (.pair (.int .u8) (.pair (.int .i64) (.pair (.int .i64) (.pair (.sl (.pair (.int .i64) (.pair (.int .i64) (.pair (.int .i64) (.pair (.int .i64) (.unit)))))) (.unit)))))))), (4, .obj (.box (.val (.pair (.int .u8) (.pair (.int .i64) (.pair (.int .i64) (.pair (.sl (.pair (.int .i64) (.pair (.int .i64) (.pair (.int .i64) (.pair (.int .i64) (.unit)))))) (.unit)))))))), (18, .obj (.val (.sl (.pair (.int .u8) (.pair (.int .i64) (.pair (.int .i64) (.pair (.sl (.pair (.int .i64) (.pair (.int .i64) (.pair (.int .i64) (.pair (.int .i64) (.unit)))))) (.unit)))))))), (19, .obj (.val (.int .i64))), (20, .obj (.val (.int .i64)))]), (.ret, [(2, .obj (.val (.int .i64)))])], fun j x => l44_11 k j x.1 x.2.1 x.2.2.1 x.2.2.2.1 x.2.2.2.2.1 x.2.2.2.2.2.1 x.2.2.2.2.2.2.1 x.2.2.2.2.2.2.2.1⟩
noncomputable def l44_21 (k : Nat) : Nat → (List (Int × Int × Int × (List (Int × Int × Int × Int × Unit)) × Unit)) → (List (Int × Int × Int × (List (Int × Int × Int × Int × Unit)) × Unit)) → Int → Int → (List (Int × Int × Int × Int × Unit)) → Int → Int → Option (((List (Int × Int × Int × (List (Int × Int × Int × Int × Unit)) × Unit)) × (List (Int × Int × Int × (List (Int × Int × Int × Int × Unit)) × Unit)) × Int × Int × Unit) ⊕ (Int × Unit))
  | 0, _, _, _, _, _, _, _ => none
  | j + 1, s0, s18, s19, s20, s72, s73, s74 =>
    bif decide (s74 < s73) then
      bif decide (0 ≤ s74) && decide (s74 < (s72.length : Int)) then
        (f60 k (rd ((0, 0, 0, 0, ()) : Int × Int × Int × Int × Unit) s72 s74)).bind fun r1 =>
        bif r1.1 != 0 then
          some (.inr r1)
        else
          l44_21 k j s0 s18 s19 s20 s72 s73 (w64 (s74 + 1))
      else
        none
    else
      some (.inl (s0, s18, s19, s20, ()))
noncomputable def l44_21_sig (k : Nat) : LoopSig := ⟨[(0, .obj (.val (.sl (.pair (.int .u8) (.pair (.int .i64) (.pair (.int .i64) (.pair (.sl (.pair (.int .i64) (.pair (.int .i64) (.pair (.int .i64) (.pair (.int .i64) (.unit)))))) (.unit)))))))), (18, .obj (.val (.sl (.pair (.int .u8) (.pair (.int .i64) (.pair (.int .i64) (.pair (.sl (.pair (.int .i64) (.pair (.int .i64) (.pair (.int .i64) (.pair (.int .i64) (.unit)))))) (.unit)))))))), (19, .obj (.val (.int .i64))), (20, .obj (.val (.int .i64))), (72, .obj (.val (.sl (.pair (.int .i64) (.pair (.int .i64) (.pair (.int .i64) (.pair (.int .i64) (.unit)))))))), (73, .obj (.val (.int .i64))), (74, .obj (.val (.int .i64)))], [(.exit 5, [(0, .obj (.val (.sl (.pair (.int .u8) (.pair (.int .i64) (.pair (.int .i64) (.pair (.sl (.pair (.int .i64) (.pair (.int .i64) (.pair (.int .i64) (.pair (.int .i64) (.unit)))))) (.unit)))))))), (18, .obj (.val (.sl (.pair (.int .u8) (.pair (.int .i64) (.pair (.int .i64) (.pair (.sl (.pair (.int .i64) (.pair (.int .i64) (.pair (.int .i64) (.pair (.int .i64) (.unit)))))) (.unit)))))))), (19, .obj (.val (.int .i64))), (20, .obj (.val (.int .i64)))]), (.ret, [(2, .obj (.val (.int .i64)))])], fun j x => l44_21 k j x.1 x.2.1 x.2.2.1 x.2.2.2.1 x.2.2.2.2.1 x.2.2.2.2.2.1 x.2.2.2.2.2.2.1⟩
noncomputable def l44_6 (k : Nat) : Nat → (List (Int × Int × Int × (List (Int × Int × Int × Int × Unit)) × Unit)) → (List (Int × Int × Int × (List (Int × Int × Int × Int × Unit)) × Unit)) → Int → Int → Option (Unit ⊕ (Int × Unit))
  | 0, _, _, _, _ => none
  | j + 1, s0, s18, s19, s20 =>
    bif decide (s20 < s19) then
      bif decide (0 ≤ s20) && decide (s20 < (s18.length : Int)) then
        bif decide ((rd ((0, 0, 0, [], ()) : Int × Int × Int × (List (Int × Int × Int × Int × Unit)) × Unit) s18 s20).1 < 65) then
          some (.inr (6, ()))
        else
        bif decide ((rd ((0, 0, 0, [], ()) : Int × Int × Int × (List (Int × Int × Int × Int × Unit)) × Unit) s18 s20).1 > 90) then
          some (.inr (6, ()))
        else
        bif decide (0 ≤ s20) && decide (s20 ≤ (s0.length : Int)) then
          (l44_11 k k s0 (rd ((0, 0, 0, [], ()) : Int × Int × Int × (List (Int × Int × Int × Int × Unit)) × Unit) s18 s20) s18 s19 s20 (sliceOf s0 0 s20) ((sliceOf s0 0 s20).length : Int) 0).bind fun w3 =>
          Sum.elim
            (fun y1 =>
              bif decide (y1.2.1.2.1 < 0) then
                some (.inr (4, ()))
              else
              bif decide (y1.2.1.2.1 > 64) then
                some (.inr (4, ()))
              else
              bif decide (y1.2.1.2.2.1 < 0) then
                some (.inr (4, ()))
              else
              bif decide (y1.2.1.2.2.1 > (y1.1.length : Int)) then
                some (.inr (4, ()))
              else
              bif decide ((y1.2.1.2.2.2.1.length : Int) > 16) then
                some (.inr (2, ()))
              else
                (l44_21 k k y1.1 y1.2.2.1 y1.2.2.2.1 y1.2.2.2.2.1 y1.2.1.2.2.2.1 (y1.2.1.2.2.2.1.length : Int) 0).bind fun w4 =>
                Sum.elim
                  (fun y2 =>
                    l44_6 k j y2.1 y2.2.1 y2.2.2.1 (w64 (y2.2.2.2.1 + 1)))
                  (fun y3 =>
                    some (.inr y3))
                  w4)
            (fun y4 =>
              some (.inr y4))
            w3
        else
          none
      else
        none
    else
      some (.inl ())
noncomputable def l44_6_sig (k : Nat) : LoopSig := ⟨[(0, .obj (.val (.sl (.pair (.int .u8) (.pair (.int .i64) (.pair (.int .i64) (.pair (.sl (.pair (.int .i64) (.pair (.int .i64) (.pair (.int .i64) (.pair (.int .i64) (.unit)))))) (.unit)))))))), (18, .obj (.val (.sl (.pair (.int .u8) (.pair (.int .i64) (.pair (.int .i64) (.pair (.sl (.pair (.int .i64) (.pair (.int .i64) (.pair (.int .i64) (.pair (.int .i64) (.unit)))))) (.unit)))))))), (19, .obj (.val (.int .i64))), (20, .obj (.val (.int .i64)))], [(.exit 1, []), (.ret, [(2, .obj (.val (.int .i64)))])], fun j x => l44_6 k j x.1 x.2.1 x.2.2.1 x.2.2.2.1⟩
noncomputable def f44 (k : Nat) (x0 : List (Int × Int × Int × (List (Int × Int × Int × Int × Unit)) × Unit)) : Option ((Int × Unit)) :=
  bif (x0.length : Int) == 0 then
    some (8, ())
  else
  bif decide ((x0.length : Int) > 6) then
    some (2, ())
  else
    (l44_6 k k x0 x0 (x0.length : Int) 0).bind fun w5 =>
    Sum.elim
      (fun y1 =>
        some (0, ()))
      (fun y2 =>
        some y2)
      w5
noncomputable def f44_sig (k : Nat) : Sig := ⟨[.val (.sl (.pair (.int .u8) (.pair (.int .i64) (.pair (.int .i64) (.pair (.sl (.pair (.int .i64) (.pair (.int .i64) (.pair (.int .i64) (.pair (.int .i64) (.unit)))))) (.unit))))))], [], [[.val (.int .i64)]], fun x => f44 k x.1⟩
noncomputable def E_f44 (k : Nat) : Env := ⟨Try.prog, G0, scons 60 [f60_sig k] (snil), tcons 6 (l44_6_sig k) (tcons 21 (l44_21_sig k) (tcons 11 (l44_11_sig k) (tnil))), tnil, unil, k, qnil⟩
theorem l44_6_ok (k : Nat) : LoopOK (E_f44 k) ⟨Try.f44.ntmps, [], G0⟩ (nthC 0 (loopsIn (Try.f44.body.getD .skip))) :=
  loop_ok (ls := l44_6_sig k) (by kernel_rfl) (fun _ => by kernel_rfl) (fun j x => by kernel_rfl)
theorem l44_11_ok (k : Nat) : LoopOK (E_f44 k) ⟨Try.f44.ntmps, [], G0⟩ (nthC 1 (loopsIn (Try.f44.body.getD .skip))) :=
  loop_ok (ls := l44_11_sig k) (by kernel_rfl) (fun _ => by kernel_rfl) (fun j x => by kernel_rfl)
theorem l44_21_ok (k : Nat) : LoopOK (E_f44 k) ⟨Try.f44.ntmps, [], G0⟩ (nthC 2 (loopsIn (Try.f44.body.getD .skip))) :=
  loop_ok (ls := l44_21_sig k) (by kernel_rfl) (fun _ => by kernel_rfl) (fun j x => by kernel_rfl)
theorem f44_run (k : Nat) (x : (lTy (lay 0 (f44_sig k).ins)).den) : runF (E_f44 k) Try.f44 (f44_sig k) x = (f44_sig k).F x := by kernel_rfl
theorem f44_ok [Dr] (k : Nat) : FnOK Try.prog G0 44 (f44_sig k) :=
  fn_ok2 (E := E_f44 k) (env_cons (one_sig (f60_ok k)) (env_nil)) (qenv_nil) mixed Try.func44 Try.call44 (by kernel_rfl) (by kernel_rfl) (m := 3) (by kernel_rfl) ⟨⟨⟨trivial, l44_6_ok k⟩, l44_11_ok k⟩, l44_21_ok k⟩ (sk := []) (by kernel_rfl) trivial (f44_run k)

/-! ### gamehall/rules.end: function 45 -/
noncomputable def f45 (k : Nat) (x0 : Int × Int × Int × Bool × Unit) (x1 : Int) : Option ((Int × Unit)) :=
  bif x0.1 == 0 then
    bif x0.2.1 != 0 then
      some (4, ())
    else
    bif decide (x0.2.2.1 < 1) then
      some (4, ())
    else
    bif decide (x0.2.2.1 > 64) then
      some (4, ())
    else
      some (0, ())
  else
  bif x0.1 == 1 then
    bif decide (x0.2.1 < 0) then
      some (4, ())
    else
    bif decide (x0.2.1 ≥ x1) then
      some (4, ())
    else
    bif x0.2.2.1 != 0 then
      some (4, ())
    else
      some (0, ())
  else
  bif x0.1 == 2 then
    bif decide (x0.2.1 < 0) then
      some (4, ())
    else
    bif decide (x0.2.1 ≥ x1) then
      some (4, ())
    else
    bif decide (x0.2.2.1 < 1) then
      some (4, ())
    else
    bif decide (x0.2.2.1 > 64) then
      some (4, ())
    else
      some (0, ())
  else
    some (1, ())
noncomputable def f45_sig (k : Nat) : Sig := ⟨[.val (.pair (.int .i64) (.pair (.int .i64) (.pair (.int .i64) (.pair (.bool) (.unit))))), .val (.int .i64)], [], [[.val (.int .i64)]], fun x => f45 k x.1 x.2.1⟩
noncomputable def E_f45 (k : Nat) : Env := ⟨Try.prog, G0, snil, tnil, tnil, unil, k, qnil⟩
theorem f45_run (k : Nat) (x : (lTy (lay 0 (f45_sig k).ins)).den) : runF (E_f45 k) Try.f45 (f45_sig k) x = (f45_sig k).F x := by kernel_rfl
theorem f45_ok [Dr] (k : Nat) : FnOK Try.prog G0 45 (f45_sig k) :=
  fn_ok2 (E := E_f45 k) (env_nil) (qenv_nil) mixed Try.func45 Try.call45 (by kernel_rfl) (by kernel_rfl) (m := 0) (by kernel_rfl) trivial (sk := []) (by kernel_rfl) trivial (f45_run k)

/-! ### gamehall/rules.Check: function 34 -/
noncomputable def l34_11 (k : Nat) : Nat → (ByteArray × Int × Int × (List (Int × Int × Int × (List (Int × Int × Int × Int × Unit)) × Unit)) × (List Int) × Bool × Bool × (List (Int × Int × Int × Bool × Unit)) × Int × Int × Int × Unit) → (List Int) → Int → Int → Option (((ByteArray × Int × Int × (List (Int × Int × Int × (List (Int × Int × Int × Int × Unit)) × Unit)) × (List Int) × Bool × Bool × (List (Int × Int × Int × Bool × Unit)) × Int × Int × Int × Unit) × Unit) ⊕ (Int × Unit))
  | 0, _, _, _, _ => none
  | j + 1, s1, s49, s50, s51 =>
    bif decide (s51 < s50) then
      bif decide (0 ≤ s51) && decide (s51 < (s49.length : Int)) then
        bif decide ((rd (0 : Int) s49 s51) < 0) then
          some (.inr (4, ()))
        else
        bif decide ((rd (0 : Int) s49 s51) > (w64 (2 * (s1.2.2.2.1.length : Int)))) then
          some (.inr (4, ()))
        else
          l34_11 k j s1 s49 s50 (w64 (s51 + 1))
      else
        none
    else
      some (.inl (s1, ()))
noncomputable def l34_11_sig (k : Nat) : LoopSig := ⟨[(1, .obj (.box (.val (.pair (.str) (.pair (.int .i64) (.pair (.int .i64) (.pair (.sl (.pair (.int .u8) (.pair (.int .i64) (.pair (.int .i64) (.pair (.sl (.pair (.int .i64) (.pair (.int .i64) (.pair (.int .i64) (.pair (.int .i64) (.unit)))))) (.unit)))))) (.pair (.sl (.int .i64)) (.pair (.bool) (.pair (.bool) (.pair (.sl (.pair (.int .i64) (.pair (.int .i64) (.pair (.int .i64) (.pair (.bool) (.unit)))))) (.pair (.int .i64) (.pair (.int .i64) (.pair (.int .i64) (.unit))))))))))))))), (49, .obj (.val (.sl (.int .i64)))), (50, .obj (.val (.int .i64))), (51, .obj (.val (.int .i64)))], [(.exit 1, [(1, .obj (.box (.val (.pair (.str) (.pair (.int .i64) (.pair (.int .i64) (.pair (.sl (.pair (.int .u8) (.pair (.int .i64) (.pair (.int .i64) (.pair (.sl (.pair (.int .i64) (.pair (.int .i64) (.pair (.int .i64) (.pair (.int .i64) (.unit)))))) (.unit)))))) (.pair (.sl (.int .i64)) (.pair (.bool) (.pair (.bool) (.pair (.sl (.pair (.int .i64) (.pair (.int .i64) (.pair (.int .i64) (.pair (.bool) (.unit)))))) (.pair (.int .i64) (.pair (.int .i64) (.pair (.int .i64) (.unit)))))))))))))))]), (.ret, [(2, .obj (.val (.int .i64)))])], fun j x => l34_11 k j x.1 x.2.1 x.2.2.1 x.2.2.2.1⟩
noncomputable def l34_19 (k : Nat) : Nat → (ByteArray × Int × Int × (List (Int × Int × Int × (List (Int × Int × Int × Int × Unit)) × Unit)) × (List Int) × Bool × Bool × (List (Int × Int × Int × Bool × Unit)) × Int × Int × Int × Unit) → (List (Int × Int × Int × Bool × Unit)) → Int → Int → Option (((ByteArray × Int × Int × (List (Int × Int × Int × (List (Int × Int × Int × Int × Unit)) × Unit)) × (List Int) × Bool × Bool × (List (Int × Int × Int × Bool × Unit)) × Int × Int × Int × Unit) × Unit) ⊕ (Int × Unit))
  | 0, _, _, _, _ => none
  | j + 1, s1, s71, s72, s73 =>
    bif decide (s73 < s72) then
      bif decide (0 ≤ s73) && decide (s73 < (s71.length : Int)) then
        (f45 k (rd ((0, 0, 0, false, ()) : Int × Int × Int × Bool × Unit) s71 s73) (s1.2.2.2.1.length : Int)).bind fun r1 =>
        bif r1.1 != 0 then
          some (.inr r1)
        else
          l34_19 k j s1 s71 s72 (w64 (s73 + 1))
      else
        none
    else
      some (.inl (s1, ()))
noncomputable def l34_19_sig (k : Nat) : LoopSig := ⟨[(1, .obj (.box (.val (.pair (.str) (.pair (.int .i64) (.pair (.int .i64) (.pair (.sl (.pair (.int .u8) (.pair (.int .i64) (.pair (.int .i64) (.pair (.sl (.pair (.int .i64) (.pair (.int .i64) (.pair (.int .i64) (.pair (.int .i64) (.unit)))))) (.unit)))))) (.pair (.sl (.int .i64)) (.pair (.bool) (.pair (.bool) (.pair (.sl (.pair (.int .i64) (.pair (.int .i64) (.pair (.int .i64) (.pair (.bool) (.unit)))))) (.pair (.int .i64) (.pair (.int .i64) (.pair (.int .i64) (.unit))))))))))))))), (71, .obj (.val (.sl (.pair (.int .i64) (.pair (.int .i64) (.pair (.int .i64) (.pair (.bool) (.unit)))))))), (72, .obj (.val (.int .i64))), (73, .obj (.val (.int .i64)))], [(.exit 3, [(1, .obj (.box (.val (.pair (.str) (.pair (.int .i64) (.pair (.int .i64) (.pair (.sl (.pair (.int .u8) (.pair (.int .i64) (.pair (.int .i64) (.pair (.sl (.pair (.int .i64) (.pair (.int .i64) (.pair (.int .i64) (.pair (.int .i64) (.unit)))))) (.unit)))))) (.pair (.sl (.int .i64)) (.pair (.bool) (.pair (.bool) (.pair (.sl (.pair (.int .i64) (.pair (.int .i64) (.pair (.int .i64) (.pair (.bool) (.unit)))))) (.pair (.int .i64) (.pair (.int .i64) (.pair (.int .i64) (.unit)))))))))))))))]), (.ret, [(2, .obj (.val (.int .i64)))])], fun j x => l34_19 k j x.1 x.2.1 x.2.2.1 x.2.2.2.1⟩
noncomputable def f34 (k : Nat) (x0 : ByteArray × Int × Int × (List (Int × Int × Int × (List (Int × Int × Int × Int × Unit)) × Unit)) × (List Int) × Bool × Bool × (List (Int × Int × Int × Bool × Unit)) × Int × Int × Int × Unit) : Option ((Int × Unit)) :=
  (f26 k x0.1).bind fun r1 =>
  bif !r1.1 then
    some (6, ())
  else
  bif decide (x0.2.1 < 1) then
    some (4, ())
  else
  bif decide (x0.2.1 > 8) then
    some (4, ())
  else
  bif decide (x0.2.2.1 < 1) then
    some (4, ())
  else
  bif decide (x0.2.2.1 > 8) then
    some (4, ())
  else
    (f44 k x0.2.2.2.1).bind fun r2 =>
    bif r2.1 != 0 then
      some r2
    else
    bif (x0.2.2.2.2.1.length : Int) != (w64 (x0.2.1 * x0.2.2.1)) then
      some (3, ())
    else
      (l34_11 k k x0 x0.2.2.2.2.1 (x0.2.2.2.2.1.length : Int) 0).bind fun w6 =>
      Sum.elim
        (fun y3 =>
          bif decide ((y3.1.2.2.2.2.2.2.2.1.length : Int) > 6) then
            some (2, ())
          else
            (l34_19 k k y3.1 y3.1.2.2.2.2.2.2.2.1 (y3.1.2.2.2.2.2.2.2.1.length : Int) 0).bind fun w7 =>
            Sum.elim
              (fun y4 =>
                bif decide (y4.1.2.2.2.2.2.2.2.2.1 < 0) then
                  some (4, ())
                else
                bif decide (y4.1.2.2.2.2.2.2.2.2.1 > 2) then
                  some (4, ())
                else
                bif decide (y4.1.2.2.2.2.2.2.2.2.2.1 < 0) then
                  some (4, ())
                else
                bif decide (y4.1.2.2.2.2.2.2.2.2.2.1 > 200) then
                  some (4, ())
                else
                bif decide (y4.1.2.2.2.2.2.2.2.2.2.2.1 < 0) then
                  some (4, ())
                else
                bif y4.1.2.2.2.2.2.2.2.2.2.2.1 == 1 then
                  some (4, ())
                else
                bif decide (y4.1.2.2.2.2.2.2.2.2.2.2.1 > 5) then
                  some (4, ())
                else
                  some (0, ()))
              (fun y5 =>
                some y5)
              w7)
        (fun y6 =>
          some y6)
        w6
noncomputable def f34_sig (k : Nat) : Sig := ⟨[.val (.pair (.str) (.pair (.int .i64) (.pair (.int .i64) (.pair (.sl (.pair (.int .u8) (.pair (.int .i64) (.pair (.int .i64) (.pair (.sl (.pair (.int .i64) (.pair (.int .i64) (.pair (.int .i64) (.pair (.int .i64) (.unit)))))) (.unit)))))) (.pair (.sl (.int .i64)) (.pair (.bool) (.pair (.bool) (.pair (.sl (.pair (.int .i64) (.pair (.int .i64) (.pair (.int .i64) (.pair (.bool) (.unit)))))) (.pair (.int .i64) (.pair (.int .i64) (.pair (.int .i64) (.unit))))))))))))], [], [[.val (.int .i64)]], fun x => f34 k x.1⟩
noncomputable def E_f34 (k : Nat) : Env := ⟨Try.prog, G0, scons 45 [f45_sig k] (scons 44 [f44_sig k] (scons 26 [f26_sig k] (snil))), tcons 19 (l34_19_sig k) (tcons 11 (l34_11_sig k) (tnil)), tnil, unil, k, qnil⟩
theorem l34_11_ok (k : Nat) : LoopOK (E_f34 k) ⟨Try.f34.ntmps, [], G0⟩ (nthC 0 (loopsIn (Try.f34.body.getD .skip))) :=
  loop_ok (ls := l34_11_sig k) (by kernel_rfl) (fun _ => by kernel_rfl) (fun j x => by kernel_rfl)
theorem l34_19_ok (k : Nat) : LoopOK (E_f34 k) ⟨Try.f34.ntmps, [], G0⟩ (nthC 1 (loopsIn (Try.f34.body.getD .skip))) :=
  loop_ok (ls := l34_19_sig k) (by kernel_rfl) (fun _ => by kernel_rfl) (fun j x => by kernel_rfl)
theorem f34_run (k : Nat) (x : (lTy (lay 0 (f34_sig k).ins)).den) : runF (E_f34 k) Try.f34 (f34_sig k) x = (f34_sig k).F x := by kernel_rfl
theorem f34_ok [Dr] (k : Nat) : FnOK Try.prog G0 34 (f34_sig k) :=
  fn_ok2 (E := E_f34 k) (env_cons (one_sig (f45_ok k)) (env_cons (one_sig (f44_ok k)) (env_cons (one_sig (f26_ok k)) (env_nil)))) (qenv_nil) mixed Try.func34 Try.call34 (by kernel_rfl) (by kernel_rfl) (m := 2) (by kernel_rfl) ⟨⟨trivial, l34_11_ok k⟩, l34_19_ok k⟩ (sk := []) (by kernel_rfl) trivial (f34_run k)

/-! ### slices.Clone[[]int,int]: function 39 -/
noncomputable def f39 (k : Nat) (x0 : List Int) : Option (((List Int) × Unit)) :=
  bif nilB x0 then
    both (
      some ([], ()))
    (
      bif decide ((([] : List Int).length + x0.length) * 8 ≤ roomN) then
        some ([] ++ x0, ())
      else
        none)
  else
  bif decide ((([] : List Int).length + x0.length) * 8 ≤ roomN) then
    some ([] ++ x0, ())
  else
    none
noncomputable def f39_sig (k : Nat) : Sig := ⟨[.val (.sl (.int .i64))], [], [[.row (.int .i64)]], fun x => f39 k x.1⟩
noncomputable def E_f39 (k : Nat) : Env := ⟨Try.prog, G0, snil, tnil, tnil, unil, k, qnil⟩
theorem f39_run (k : Nat) (x : (lTy (lay 0 (f39_sig k).ins)).den) : runF (E_f39 k) Try.f39 (f39_sig k) x = (f39_sig k).F x := by kernel_rfl
theorem f39_ok [Dr] (k : Nat) : FnOK Try.prog G0 39 (f39_sig k) :=
  fn_ok2 (E := E_f39 k) (env_nil) (qenv_nil) mixed Try.func39 Try.call39 (by kernel_rfl) (by kernel_rfl) (m := 0) (by kernel_rfl) trivial (sk := []) (by kernel_rfl) trivial (f39_run k)

/-! ### gamehall/place.Fresh: function 35 -/
noncomputable def l35_6 (k : Nat) : Nat → (ByteArray × Int × Int × (List (Int × Int × Int × (List (Int × Int × Int × Int × Unit)) × Unit)) × (List Int) × Bool × Bool × (List (Int × Int × Int × Bool × Unit)) × Int × Int × Int × Unit) → ((List Int) × ((List Int) × (List Int) × Unit) × Int × Int × Unit) → ((List Int) × ((List Int) × (List Int) × Unit) × Int × Int × Unit) → Int → Int → (List (Int × Int × Int × (List (Int × Int × Int × Int × Unit)) × Unit)) → Int → Int → Option (((ByteArray × Int × Int × (List (Int × Int × Int × (List (Int × Int × Int × Int × Unit)) × Unit)) × (List Int) × Bool × Bool × (List (Int × Int × Int × Bool × Unit)) × Int × Int × Int × Unit) × ((List Int) × ((List Int) × (List Int) × Unit) × Int × Int × Unit) × ((List Int) × ((List Int) × (List Int) × Unit) × Int × Int × Unit) × Int × Unit))
  | 0, _, _, _, _, _, _, _, _ => none
  | j + 1, s1, s2, s3, s4, s11, s15, s16, s17 =>
    bif decide (s17 < s16) then
      bif decide (0 ≤ s17) && decide (s17 < (s15.length : Int)) then
        bif s4 == 0 then
          bif decide ((s3.2.1.1.length + [(rd ((0, 0, 0, [], ()) : Int × Int × Int × (List (Int × Int × Int × Int × Unit)) × Unit) s15 s17).2.1].length) * 8 ≤ roomN) then
            bif s4 == 0 then
              l35_6 k j s1 s2 (s3.1, (s3.2.1.1 ++ [(rd ((0, 0, 0, [], ()) : Int × Int × Int × (List (Int × Int × Int × Int × Unit)) × Unit) s15 s17).2.1], s3.2.1.2), s3.2.2) s4 s11 s15 s16 (w64 (s17 + 1))
            else
            bif s4 == 1 then
              none
            else
              none
          else
            none
        else
        bif s4 == 1 then
          bif decide ((s3.2.1.2.1.length + [(rd ((0, 0, 0, [], ()) : Int × Int × Int × (List (Int × Int × Int × Int × Unit)) × Unit) s15 s17).2.1].length) * 8 ≤ roomN) then
            bif s4 == 0 then
              none
            else
            bif s4 == 1 then
              l35_6 k j s1 s2 (s3.1, (s3.2.1.1, s3.2.1.2.1 ++ [(rd ((0, 0, 0, [], ()) : Int × Int × Int × (List (Int × Int × Int × Int × Unit)) × Unit) s15 s17).2.1], ()), s3.2.2) s4 s11 s15 s16 (w64 (s17 + 1))
            else
              none
          else
            none
        else
          none
      else
        none
    else
      some (s1, s2, s3, s11, ())
noncomputable def l35_6_sig (k : Nat) : LoopSig := ⟨[(1, .obj (.box (.val (.pair (.str) (.pair (.int .i64) (.pair (.int .i64) (.pair (.sl (.pair (.int .u8) (.pair (.int .i64) (.pair (.int .i64) (.pair (.sl (.pair (.int .i64) (.pair (.int .i64) (.pair (.int .i64) (.pair (.int .i64) (.unit)))))) (.unit)))))) (.pair (.sl (.int .i64)) (.pair (.bool) (.pair (.bool) (.pair (.sl (.pair (.int .i64) (.pair (.int .i64) (.pair (.int .i64) (.pair (.bool) (.unit)))))) (.pair (.int .i64) (.pair (.int .i64) (.pair (.int .i64) (.unit))))))))))))))), (2, .obj (.box (.cons (.row (.int .i64)) (.cons (.cons (.row (.int .i64)) (.cons (.row (.int .i64)) (.nil))) (.cons (.val (.int .i64)) (.cons (.val (.int .i64)) (.nil))))))), (3, .obj (.box (.cons (.row (.int .i64)) (.cons (.cons (.row (.int .i64)) (.cons (.row (.int .i64)) (.nil))) (.cons (.val (.int .i64)) (.cons (.val (.int .i64)) (.nil))))))), (4, .obj (.val (.int .i64))), (11, .obj (.val (.int .i64))), (15, .obj (.val (.sl (.pair (.int .u8) (.pair (.int .i64) (.pair (.int .i64) (.pair (.sl (.pair (.int .i64) (.pair (.int .i64) (.pair (.int .i64) (.pair (.int .i64) (.unit)))))) (.unit)))))))), (16, .obj (.val (.int .i64))), (17, .obj (.val (.int .i64)))], [(.exit 2, [(1, .obj (.box (.val (.pair (.str) (.pair (.int .i64) (.pair (.int .i64) (.pair (.sl (.pair (.int .u8) (.pair (.int .i64) (.pair (.int .i64) (.pair (.sl (.pair (.int .i64) (.pair (.int .i64) (.pair (.int .i64) (.pair (.int .i64) (.unit)))))) (.unit)))))) (.pair (.sl (.int .i64)) (.pair (.bool) (.pair (.bool) (.pair (.sl (.pair (.int .i64) (.pair (.int .i64) (.pair (.int .i64) (.pair (.bool) (.unit)))))) (.pair (.int .i64) (.pair (.int .i64) (.pair (.int .i64) (.unit))))))))))))))), (2, .obj (.box (.cons (.row (.int .i64)) (.cons (.cons (.row (.int .i64)) (.cons (.row (.int .i64)) (.nil))) (.cons (.val (.int .i64)) (.cons (.val (.int .i64)) (.nil))))))), (3, .obj (.box (.cons (.row (.int .i64)) (.cons (.cons (.row (.int .i64)) (.cons (.row (.int .i64)) (.nil))) (.cons (.val (.int .i64)) (.cons (.val (.int .i64)) (.nil))))))), (11, .obj (.val (.int .i64)))])], fun j x => l35_6 k j x.1 x.2.1 x.2.2.1 x.2.2.2.1 x.2.2.2.2.1 x.2.2.2.2.2.1 x.2.2.2.2.2.2.1 x.2.2.2.2.2.2.2.1⟩
noncomputable def l35_3 (k : Nat) : Nat → (ByteArray × Int × Int × (List (Int × Int × Int × (List (Int × Int × Int × Int × Unit)) × Unit)) × (List Int) × Bool × Bool × (List (Int × Int × Int × Bool × Unit)) × Int × Int × Int × Unit) → ((List Int) × ((List Int) × (List Int) × Unit) × Int × Int × Unit) → ((List Int) × ((List Int) × (List Int) × Unit) × Int × Int × Unit) → Int → Option ((((List Int) × ((List Int) × (List Int) × Unit) × Int × Int × Unit) × ((List Int) × ((List Int) × (List Int) × Unit) × Int × Int × Unit) × Unit))
  | 0, _, _, _, _ => none
  | j + 1, s1, s2, s3, s11 =>
    bif decide (s11 < 2) then
      (l35_6 k k s1 s2 s3 s11 s11 s1.2.2.2.1 (s1.2.2.2.1.length : Int) 0).bind fun o1 =>
      l35_3 k j o1.1 o1.2.1 o1.2.2.1 (w64 (o1.2.2.2.1 + 1))
    else
      some (s2, s3, ())
noncomputable def l35_3_sig (k : Nat) : LoopSig := ⟨[(1, .obj (.box (.val (.pair (.str) (.pair (.int .i64) (.pair (.int .i64) (.pair (.sl (.pair (.int .u8) (.pair (.int .i64) (.pair (.int .i64) (.pair (.sl (.pair (.int .i64) (.pair (.int .i64) (.pair (.int .i64) (.pair (.int .i64) (.unit)))))) (.unit)))))) (.pair (.sl (.int .i64)) (.pair (.bool) (.pair (.bool) (.pair (.sl (.pair (.int .i64) (.pair (.int .i64) (.pair (.int .i64) (.pair (.bool) (.unit)))))) (.pair (.int .i64) (.pair (.int .i64) (.pair (.int .i64) (.unit))))))))))))))), (2, .obj (.box (.cons (.row (.int .i64)) (.cons (.cons (.row (.int .i64)) (.cons (.row (.int .i64)) (.nil))) (.cons (.val (.int .i64)) (.cons (.val (.int .i64)) (.nil))))))), (3, .obj (.box (.cons (.row (.int .i64)) (.cons (.cons (.row (.int .i64)) (.cons (.row (.int .i64)) (.nil))) (.cons (.val (.int .i64)) (.cons (.val (.int .i64)) (.nil))))))), (11, .obj (.val (.int .i64)))], [(.exit 0, [(2, .obj (.box (.cons (.row (.int .i64)) (.cons (.cons (.row (.int .i64)) (.cons (.row (.int .i64)) (.nil))) (.cons (.val (.int .i64)) (.cons (.val (.int .i64)) (.nil))))))), (3, .obj (.box (.cons (.row (.int .i64)) (.cons (.cons (.row (.int .i64)) (.cons (.row (.int .i64)) (.nil))) (.cons (.val (.int .i64)) (.cons (.val (.int .i64)) (.nil)))))))])], fun j x => l35_3 k j x.1 x.2.1 x.2.2.1 x.2.2.2.1⟩
noncomputable def f35 (k : Nat) (x0 : ByteArray × Int × Int × (List (Int × Int × Int × (List (Int × Int × Int × Int × Unit)) × Unit)) × (List Int) × Bool × Bool × (List (Int × Int × Int × Bool × Unit)) × Int × Int × Int × Unit) : Option ((((List Int) × ((List Int) × (List Int) × Unit) × Int × Int × Unit) × Unit)) :=
  (f39 k x0.2.2.2.2.1).bind fun r1 =>
  (l35_3 k k x0 ([], ([], [], ()), 0, 0, ()) (r1.1, ([], [], ()), 0, 0, ()) 0).bind fun o2 =>
  some o2.2
noncomputable def f35_sig (k : Nat) : Sig := ⟨[.val (.pair (.str) (.pair (.int .i64) (.pair (.int .i64) (.pair (.sl (.pair (.int .u8) (.pair (.int .i64) (.pair (.int .i64) (.pair (.sl (.pair (.int .i64) (.pair (.int .i64) (.pair (.int .i64) (.pair (.int .i64) (.unit)))))) (.unit)))))) (.pair (.sl (.int .i64)) (.pair (.bool) (.pair (.bool) (.pair (.sl (.pair (.int .i64) (.pair (.int .i64) (.pair (.int .i64) (.pair (.bool) (.unit)))))) (.pair (.int .i64) (.pair (.int .i64) (.pair (.int .i64) (.unit))))))))))))], [], [[.val (.pair (.sl (.int .i64)) (.pair (.pair (.sl (.int .i64)) (.pair (.sl (.int .i64)) (.unit))) (.pair (.int .i64) (.pair (.int .i64) (.unit)))))]], fun x => f35 k x.1⟩
noncomputable def E_f35 (k : Nat) : Env := ⟨Try.prog, G0, scons 39 [f39_sig k] (snil), tcons 3 (l35_3_sig k) (tcons 6 (l35_6_sig k) (tnil)), tnil, unil, k, qnil⟩
theorem l35_3_ok (k : Nat) : LoopOK (E_f35 k) ⟨Try.f35.ntmps, [], G0⟩ (nthC 0 (loopsIn (Try.f35.body.getD .skip))) :=
  loop_ok (ls := l35_3_sig k) (by kernel_rfl) (fun _ => by kernel_rfl) (fun j x => by kernel_rfl)
theorem l35_6_ok (k : Nat) : LoopOK (E_f35 k) ⟨Try.f35.ntmps, [], G0⟩ (nthC 1 (loopsIn (Try.f35.body.getD .skip))) :=
  loop_ok (ls := l35_6_sig k) (by kernel_rfl) (fun _ => by kernel_rfl) (fun j x => by kernel_rfl)
theorem f35_run (k : Nat) (x : (lTy (lay 0 (f35_sig k).ins)).den) : runF (E_f35 k) Try.f35 (f35_sig k) x = (f35_sig k).F x := by kernel_rfl
theorem f35_ok [Dr] (k : Nat) : FnOK Try.prog G0 35 (f35_sig k) :=
  fn_ok2 (E := E_f35 k) (env_cons (one_sig (f39_ok k)) (env_nil)) (qenv_nil) mixed Try.func35 Try.call35 (by kernel_rfl) (by kernel_rfl) (m := 2) (by kernel_rfl) ⟨⟨trivial, l35_3_ok k⟩, l35_6_ok k⟩ (sk := []) (by kernel_rfl) trivial (f35_run k)

/-! ### gamehall/place.Begin: function 24 -/
noncomputable def f24 (k : Nat) (x0 : ByteArray × Int × Int × (List (Int × Int × Int × (List (Int × Int × Int × Int × Unit)) × Unit)) × (List Int) × Bool × Bool × (List (Int × Int × Int × Bool × Unit)) × Int × Int × Int × Unit) : Option ((((List Int) × ((List Int) × (List Int) × Unit) × Int × Int × Unit) × Int × Unit)) :=
  (f34 k x0).bind fun r1 =>
  bif r1.1 != 0 then
    some (([], ([], [], ()), 0, 0, ()), r1)
  else
    (f35 k x0).bind fun r2 =>
    some (r2.1, 0, ())
noncomputable def f24_sig (k : Nat) : Sig := ⟨[.val (.pair (.str) (.pair (.int .i64) (.pair (.int .i64) (.pair (.sl (.pair (.int .u8) (.pair (.int .i64) (.pair (.int .i64) (.pair (.sl (.pair (.int .i64) (.pair (.int .i64) (.pair (.int .i64) (.pair (.int .i64) (.unit)))))) (.unit)))))) (.pair (.sl (.int .i64)) (.pair (.bool) (.pair (.bool) (.pair (.sl (.pair (.int .i64) (.pair (.int .i64) (.pair (.int .i64) (.pair (.bool) (.unit)))))) (.pair (.int .i64) (.pair (.int .i64) (.pair (.int .i64) (.unit))))))))))))], [], [[.val (.pair (.sl (.int .i64)) (.pair (.pair (.sl (.int .i64)) (.pair (.sl (.int .i64)) (.unit))) (.pair (.int .i64) (.pair (.int .i64) (.unit))))), .val (.int .i64)]], fun x => f24 k x.1⟩
noncomputable def E_f24 (k : Nat) : Env := ⟨Try.prog, G0, scons 35 [f35_sig k] (scons 34 [f34_sig k] (snil)), tnil, tnil, unil, k, qnil⟩
theorem f24_run (k : Nat) (x : (lTy (lay 0 (f24_sig k).ins)).den) : runF (E_f24 k) Try.f24 (f24_sig k) x = (f24_sig k).F x := by kernel_rfl
theorem f24_ok [Dr] (k : Nat) : FnOK Try.prog G0 24 (f24_sig k) :=
  fn_ok2 (E := E_f24 k) (env_cons (one_sig (f35_ok k)) (env_cons (one_sig (f34_ok k)) (env_nil))) (qenv_nil) mixed Try.func24 Try.call24 (by kernel_rfl) (by kernel_rfl) (m := 0) (by kernel_rfl) trivial (sk := []) (by kernel_rfl) trivial (f24_run k)

/-! ### gamehall/rules.Copy: function 25 -/
noncomputable def l25_4 (k : Nat) : Nat → (ByteArray × Int × Int × (List (Int × Int × Int × (List (Int × Int × Int × Int × Unit)) × Unit)) × (List Int) × Bool × Bool × (List (Int × Int × Int × Bool × Unit)) × Int × Int × Int × Unit) → (ByteArray × Int × Int × (List (Int × Int × Int × (List (Int × Int × Int × Int × Unit)) × Unit)) × (List Int) × Bool × Bool × (List (Int × Int × Int × Bool × Unit)) × Int × Int × Int × Unit) → (ByteArray × Int × Int × (List (Int × Int × Int × (List (Int × Int × Int × Int × Unit)) × Unit)) × (List Int) × Bool × Bool × (List (Int × Int × Int × Bool × Unit)) × Int × Int × Int × Unit) → (List (Int × Int × Int × (List (Int × Int × Int × Int × Unit)) × Unit)) → Int → Int → Option (((ByteArray × Int × Int × (List (Int × Int × Int × (List (Int × Int × Int × Int × Unit)) × Unit)) × (List Int) × Bool × Bool × (List (Int × Int × Int × Bool × Unit)) × Int × Int × Int × Unit) × (ByteArray × Int × Int × (List (Int × Int × Int × (List (Int × Int × Int × Int × Unit)) × Unit)) × (List Int) × Bool × Bool × (List (Int × Int × Int × Bool × Unit)) × Int × Int × Int × Unit) × (ByteArray × Int × Int × (List (Int × Int × Int × (List (Int × Int × Int × Int × Unit)) × Unit)) × (List Int) × Bool × Bool × (List (Int × Int × Int × Bool × Unit)) × Int × Int × Int × Unit) × Unit))
  | 0, _, _, _, _, _, _ => none
  | j + 1, s1, s2, s3, s13, s14, s15 =>
    bif decide (s15 < s14) then
      bif decide (0 ≤ s15) && decide (s15 < (s13.length : Int)) then
        bif decide ((rd ((0, 0, 0, [], ()) : Int × Int × Int × (List (Int × Int × Int × Int × Unit)) × Unit) s13 s15).2.2.2.1.length * 32 ≤ roomN) then
          bif decide (0 ≤ s15) && decide (s15 < (s3.2.2.2.1.length : Int)) then
            l25_4 k j s1 s2 (s3.1, s3.2.1, s3.2.2.1, s3.2.2.2.1.set s15.toNat (rd ((0, 0, 0, [], ()) : Int × Int × Int × (List (Int × Int × Int × Int × Unit)) × Unit) s13 s15), s3.2.2.2.2) s13 s14 (w64 (s15 + 1))
          else
            none
        else
          none
      else
        none
    else
      some (s1, s2, s3, ())
noncomputable def l25_4_sig (k : Nat) : LoopSig := ⟨[(1, .obj (.box (.val (.pair (.str) (.pair (.int .i64) (.pair (.int .i64) (.pair (.sl (.pair (.int .u8) (.pair (.int .i64) (.pair (.int .i64) (.pair (.sl (.pair (.int .i64) (.pair (.int .i64) (.pair (.int .i64) (.pair (.int .i64) (.unit)))))) (.unit)))))) (.pair (.sl (.int .i64)) (.pair (.bool) (.pair (.bool) (.pair (.sl (.pair (.int .i64) (.pair (.int .i64) (.pair (.int .i64) (.pair (.bool) (.unit)))))) (.pair (.int .i64) (.pair (.int .i64) (.pair (.int .i64) (.unit))))))))))))))), (2, .obj (.box (.cons (.val (.str)) (.cons (.val (.int .i64)) (.cons (.val (.int .i64)) (.cons (.row (.pair (.int .u8) (.pair (.int .i64) (.pair (.int .i64) (.pair (.sl (.pair (.int .i64) (.pair (.int .i64) (.pair (.int .i64) (.pair (.int .i64) (.unit)))))) (.unit)))))) (.cons (.row (.int .i64)) (.cons (.val (.bool)) (.cons (.val (.bool)) (.cons (.row (.pair (.int .i64) (.pair (.int .i64) (.pair (.int .i64) (.pair (.bool) (.unit)))))) (.cons (.val (.int .i64)) (.cons (.val (.int .i64)) (.cons (.val (.int .i64)) (.nil)))))))))))))), (3, .obj (.box (.cons (.val (.str)) (.cons (.val (.int .i64)) (.cons (.val (.int .i64)) (.cons (.row (.pair (.int .u8) (.pair (.int .i64) (.pair (.int .i64) (.pair (.sl (.pair (.int .i64) (.pair (.int .i64) (.pair (.int .i64) (.pair (.int .i64) (.unit)))))) (.unit)))))) (.cons (.val (.sl (.int .i64))) (.cons (.val (.bool)) (.cons (.val (.bool)) (.cons (.val (.sl (.pair (.int .i64) (.pair (.int .i64) (.pair (.int .i64) (.pair (.bool) (.unit))))))) (.cons (.val (.int .i64)) (.cons (.val (.int .i64)) (.cons (.val (.int .i64)) (.nil)))))))))))))), (13, .obj (.val (.sl (.pair (.int .u8) (.pair (.int .i64) (.pair (.int .i64) (.pair (.sl (.pair (.int .i64) (.pair (.int .i64) (.pair (.int .i64) (.pair (.int .i64) (.unit)))))) (.unit)))))))), (14, .obj (.val (.int .i64))), (15, .obj (.val (.int .i64)))], [(.exit 0, [(1, .obj (.box (.val (.pair (.str) (.pair (.int .i64) (.pair (.int .i64) (.pair (.sl (.pair (.int .u8) (.pair (.int .i64) (.pair (.int .i64) (.pair (.sl (.pair (.int .i64) (.pair (.int .i64) (.pair (.int .i64) (.pair (.int .i64) (.unit)))))) (.unit)))))) (.pair (.sl (.int .i64)) (.pair (.bool) (.pair (.bool) (.pair (.sl (.pair (.int .i64) (.pair (.int .i64) (.pair (.int .i64) (.pair (.bool) (.unit)))))) (.pair (.int .i64) (.pair (.int .i64) (.pair (.int .i64) (.unit))))))))))))))), (2, .obj (.box (.cons (.val (.str)) (.cons (.val (.int .i64)) (.cons (.val (.int .i64)) (.cons (.row (.pair (.int .u8) (.pair (.int .i64) (.pair (.int .i64) (.pair (.sl (.pair (.int .i64) (.pair (.int .i64) (.pair (.int .i64) (.pair (.int .i64) (.unit)))))) (.unit)))))) (.cons (.row (.int .i64)) (.cons (.val (.bool)) (.cons (.val (.bool)) (.cons (.row (.pair (.int .i64) (.pair (.int .i64) (.pair (.int .i64) (.pair (.bool) (.unit)))))) (.cons (.val (.int .i64)) (.cons (.val (.int .i64)) (.cons (.val (.int .i64)) (.nil)))))))))))))), (3, .obj (.box (.cons (.val (.str)) (.cons (.val (.int .i64)) (.cons (.val (.int .i64)) (.cons (.row (.pair (.int .u8) (.pair (.int .i64) (.pair (.int .i64) (.pair (.sl (.pair (.int .i64) (.pair (.int .i64) (.pair (.int .i64) (.pair (.int .i64) (.unit)))))) (.unit)))))) (.cons (.val (.sl (.int .i64))) (.cons (.val (.bool)) (.cons (.val (.bool)) (.cons (.val (.sl (.pair (.int .i64) (.pair (.int .i64) (.pair (.int .i64) (.pair (.bool) (.unit))))))) (.cons (.val (.int .i64)) (.cons (.val (.int .i64)) (.cons (.val (.int .i64)) (.nil))))))))))))))])], fun j x => l25_4 k j x.1 x.2.1 x.2.2.1 x.2.2.2.1 x.2.2.2.2.1 x.2.2.2.2.2.1⟩
noncomputable def f25 (k : Nat) (x0 : ByteArray × Int × Int × (List (Int × Int × Int × (List (Int × Int × Int × Int × Unit)) × Unit)) × (List Int) × Bool × Bool × (List (Int × Int × Int × Bool × Unit)) × Int × Int × Int × Unit) : Option (((ByteArray × Int × Int × (List (Int × Int × Int × (List (Int × Int × Int × Int × Unit)) × Unit)) × (List Int) × Bool × Bool × (List (Int × Int × Int × Bool × Unit)) × Int × Int × Int × Unit) × Unit)) :=
  bif decide (0 ≤ (x0.2.2.2.1.length : Int)) && (decide ((x0.2.2.2.1.length : Int) ≤ (x0.2.2.2.1.length : Int)) && decide (((48 : Nat) : Int) * (x0.2.2.2.1.length : Int) ≤ 281474976710656)) && decide ((x0.2.2.2.1.length : Int) ≤ 9223372036854775807) then
    (l25_4 k k x0 ((⟨#[]⟩ : ByteArray), 0, 0, [], [], false, false, [], 0, 0, 0, ()) (x0.1, x0.2.1, x0.2.2.1, List.replicate (x0.2.2.2.1.length : Int).toNat ((0, 0, 0, [], ()) : Int × Int × Int × (List (Int × Int × Int × Int × Unit)) × Unit), x0.2.2.2.2) x0.2.2.2.1 (x0.2.2.2.1.length : Int) 0).bind fun o1 =>
    bif decide (o1.1.2.2.2.2.1.length * 8 ≤ roomN) then
      bif decide (o1.1.2.2.2.2.2.2.2.1.length * 32 ≤ roomN) then
        some ((o1.2.2.1.1, o1.2.2.1.2.1, o1.2.2.1.2.2.1, o1.2.2.1.2.2.2.1, o1.1.2.2.2.2.1, o1.2.2.1.2.2.2.2.2.1, o1.2.2.1.2.2.2.2.2.2.1, o1.1.2.2.2.2.2.2.2.1, o1.2.2.1.2.2.2.2.2.2.2.2), ())
      else
        none
    else
      none
  else
    none
noncomputable def f25_sig (k : Nat) : Sig := ⟨[.val (.pair (.str) (.pair (.int .i64) (.pair (.int .i64) (.pair (.sl (.pair (.int .u8) (.pair (.int .i64) (.pair (.int .i64) (.pair (.sl (.pair (.int .i64) (.pair (.int .i64) (.pair (.int .i64) (.pair (.int .i64) (.unit)))))) (.unit)))))) (.pair (.sl (.int .i64)) (.pair (.bool) (.pair (.bool) (.pair (.sl (.pair (.int .i64) (.pair (.int .i64) (.pair (.int .i64) (.pair (.bool) (.unit)))))) (.pair (.int .i64) (.pair (.int .i64) (.pair (.int .i64) (.unit))))))))))))], [], [[.val (.pair (.str) (.pair (.int .i64) (.pair (.int .i64) (.pair (.sl (.pair (.int .u8) (.pair (.int .i64) (.pair (.int .i64) (.pair (.sl (.pair (.int .i64) (.pair (.int .i64) (.pair (.int .i64) (.pair (.int .i64) (.unit)))))) (.unit)))))) (.pair (.sl (.int .i64)) (.pair (.bool) (.pair (.bool) (.pair (.sl (.pair (.int .i64) (.pair (.int .i64) (.pair (.int .i64) (.pair (.bool) (.unit)))))) (.pair (.int .i64) (.pair (.int .i64) (.pair (.int .i64) (.unit))))))))))))]], fun x => f25 k x.1⟩
noncomputable def E_f25 (k : Nat) : Env := ⟨Try.prog, G0, snil, tcons 4 (l25_4_sig k) (tnil), tnil, unil, k, qnil⟩
theorem l25_4_ok (k : Nat) : LoopOK (E_f25 k) ⟨Try.f25.ntmps, [], G0⟩ (nthC 0 (loopsIn (Try.f25.body.getD .skip))) :=
  loop_ok (ls := l25_4_sig k) (by kernel_rfl) (fun _ => by kernel_rfl) (fun j x => by kernel_rfl)
theorem f25_run (k : Nat) (x : (lTy (lay 0 (f25_sig k).ins)).den) : runF (E_f25 k) Try.f25 (f25_sig k) x = (f25_sig k).F x := by kernel_rfl
theorem f25_ok [Dr] (k : Nat) : FnOK Try.prog G0 25 (f25_sig k) :=
  fn_ok2 (E := E_f25 k) (env_nil) (qenv_nil) mixed Try.func25 Try.call25 (by kernel_rfl) (by kernel_rfl) (m := 1) (by kernel_rfl) ⟨trivial, l25_4_ok k⟩ (sk := []) (by kernel_rfl) trivial (f25_run k)

/-! ### gamehall/plain.New: function 13 -/
noncomputable def f13 (k : Nat) (x0 : ByteArray × Int × Int × (List (Int × Int × Int × (List (Int × Int × Int × Int × Unit)) × Unit)) × (List Int) × Bool × Bool × (List (Int × Int × Int × Bool × Unit)) × Int × Int × Int × Unit) : Option ((((ByteArray × Int × Int × (List (Int × Int × Int × (List (Int × Int × Int × Int × Unit)) × Unit)) × (List Int) × Bool × Bool × (List (Int × Int × Int × Bool × Unit)) × Int × Int × Int × Unit) × (List ((List Int) × ((List Int) × (List Int) × Unit) × Int × Int × Unit)) × (List (Int × Int × Int × Unit)) × Unit) × Int × Unit) ⊕ (Unit × Int × Unit)) :=
  (f24 k x0).bind fun r1 =>
  bif r1.2.1 != 0 then
    some (.inr ((), r1.2))
  else
    (f25 k x0).bind fun r2 =>
    some (.inl ((r2.1, [r1.1], [], ()), 0, ()))
noncomputable def f13_sig (k : Nat) : Sig := ⟨[.val (.pair (.str) (.pair (.int .i64) (.pair (.int .i64) (.pair (.sl (.pair (.int .u8) (.pair (.int .i64) (.pair (.int .i64) (.pair (.sl (.pair (.int .i64) (.pair (.int .i64) (.pair (.int .i64) (.pair (.int .i64) (.unit)))))) (.unit)))))) (.pair (.sl (.int .i64)) (.pair (.bool) (.pair (.bool) (.pair (.sl (.pair (.int .i64) (.pair (.int .i64) (.pair (.int .i64) (.pair (.bool) (.unit)))))) (.pair (.int .i64) (.pair (.int .i64) (.pair (.int .i64) (.unit))))))))))))], [], [[.box (.cons (.val (.pair (.str) (.pair (.int .i64) (.pair (.int .i64) (.pair (.sl (.pair (.int .u8) (.pair (.int .i64) (.pair (.int .i64) (.pair (.sl (.pair (.int .i64) (.pair (.int .i64) (.pair (.int .i64) (.pair (.int .i64) (.unit)))))) (.unit)))))) (.pair (.sl (.int .i64)) (.pair (.bool) (.pair (.bool) (.pair (.sl (.pair (.int .i64) (.pair (.int .i64) (.pair (.int .i64) (.pair (.bool) (.unit)))))) (.pair (.int .i64) (.pair (.int .i64) (.pair (.int .i64) (.unit))))))))))))) (.cons (.row (.pair (.sl (.int .i64)) (.pair (.pair (.sl (.int .i64)) (.pair (.sl (.int .i64)) (.unit))) (.pair (.int .i64) (.pair (.int .i64) (.unit)))))) (.cons (.row (.pair (.int .i64) (.pair (.int .i64) (.pair (.int .i64) (.unit))))) (.nil)))), .val (.int .i64)], [.nilp, .val (.int .i64)]], fun x => f13 k x.1⟩
noncomputable def E_f13 (k : Nat) : Env := ⟨Try.prog, G0, scons 25 [f25_sig k] (scons 24 [f24_sig k] (snil)), tnil, tnil, unil, k, qnil⟩
theorem f13_run (k : Nat) (x : (lTy (lay 0 (f13_sig k).ins)).den) : runF (E_f13 k) Try.f13 (f13_sig k) x = (f13_sig k).F x := by kernel_rfl
theorem f13_ok [Dr] (k : Nat) : FnOK Try.prog G0 13 (f13_sig k) :=
  fn_ok2 (E := E_f13 k) (env_cons (one_sig (f25_ok k)) (env_cons (one_sig (f24_ok k)) (env_nil))) (qenv_nil) mixed Try.func13 Try.call13 (by kernel_rfl) (by kernel_rfl) (m := 0) (by kernel_rfl) trivial (sk := []) (by kernel_rfl) trivial (f13_run k)

/-! ### strings.IndexByte: function 36, out of the library's own contract -/
open Go.Shelf in
def indexL_ren : Go.Shelf.Ren := ⟨fun | 137 => 36 | 217 => 46 | 266 => 61 | n => n, fun | 9 => 9 | 5 => 5 | 3 => 3 | n => n, fun | n => n⟩
open Go.Shelf in
theorem indexL : Go.Proofs.Lays.n137 Try.prog indexL_ren := {
  mixed := by kernel_rfl
  f137 := Try.func36.trans (congrArg some (by kernel_rfl))
  f217 := Try.func46.trans (congrArg some (by kernel_rfl))
  f266 := Try.func61.trans (congrArg some (by kernel_rfl))
  t3 := Try.underlying3
  a3 := Try.isAgg3
  z3 := Try.sizeOf3
  v3 := Try.zeroValue3
  t5 := Try.underlying5
  a5 := Try.isAgg5
  z5 := Try.sizeOf5
  v5 := Try.zeroValue5
  t9 := Try.underlying9
  a9 := Try.isAgg9
  z9 := Try.sizeOf9
  v9 := Try.zeroValue9 }

noncomputable def f36 (k : Nat) (x0 : ByteArray) (x1 : Int) : Option (Int × Unit) := some (indexB x0 x1, ())
noncomputable def f36_sig (k : Nat) : Sig := ⟨[.val .str, .val (.int .u8)], [], [[.val (.int .i64)]], fun x => f36 k x.1 x.2.1⟩
theorem f36_ok [Dr] (k : Nat) : FnOK Try.prog G0 36 (f36_sig k) := index_ok (ρ := indexL_ren) indexL Try.call36


/-! ### gamehall/record.printable: function 27 -/
noncomputable def l27_2 (k : Nat) : Nat → ByteArray → ByteArray → Int → Int → Option (Unit ⊕ (Bool × Unit))
  | 0, _, _, _, _ => none
  | j + 1, s0, s1, s7, s8 =>
    bif decide (s8 < s7) then
      bif decide (0 ≤ s8) && decide (s8 < (s0.size : Int)) then
        bif decide ((bt s0 s8) < 32) then
          some (.inr (false, ()))
        else
        bif decide (0 ≤ s8) && decide (s8 < (s0.size : Int)) then
          bif decide ((bt s0 s8) > 126) then
            some (.inr (false, ()))
          else
          bif decide (0 ≤ s8) && decide (s8 < (s0.size : Int)) then
            (f36 k s1 (bt s0 s8)).bind fun r1 =>
            bif decide (r1.1 ≥ 0) then
              some (.inr (false, ()))
            else
              l27_2 k j s0 s1 s7 (w64 (s8 + 1))
          else
            none
        else
          none
      else
        none
    else
      some (.inl ())
noncomputable def l27_2_sig (k : Nat) : LoopSig := ⟨[(0, .obj (.val (.str))), (1, .obj (.val (.str))), (7, .obj (.val (.int .i64))), (8, .obj (.val (.int .i64)))], [(.exit 0, []), (.ret, [(4, .obj (.val (.bool)))])], fun j x => l27_2 k j x.1 x.2.1 x.2.2.1 x.2.2.2.1⟩
noncomputable def f27 (k : Nat) (x0 : ByteArray) (x1 : ByteArray) : Option ((Bool × Unit)) :=
  (l27_2 k k x0 x1 (x0.size : Int) 0).bind fun w8 =>
  Sum.elim
    (fun y1 =>
      some (true, ()))
    (fun y2 =>
      some y2)
    w8
noncomputable def f27_sig (k : Nat) : Sig := ⟨[.val (.str), .val (.str)], [], [[.val (.bool)]], fun x => f27 k x.1 x.2.1⟩
noncomputable def E_f27 (k : Nat) : Env := ⟨Try.prog, G0, scons 36 [f36_sig k] (snil), tcons 2 (l27_2_sig k) (tnil), tnil, unil, k, qnil⟩
theorem l27_2_ok (k : Nat) : LoopOK (E_f27 k) ⟨Try.f27.ntmps, [], G0⟩ (nthC 0 (loopsIn (Try.f27.body.getD .skip))) :=
  loop_ok (ls := l27_2_sig k) (by kernel_rfl) (fun _ => by kernel_rfl) (fun j x => by kernel_rfl)
theorem f27_run (k : Nat) (x : (lTy (lay 0 (f27_sig k).ins)).den) : runF (E_f27 k) Try.f27 (f27_sig k) x = (f27_sig k).F x := by kernel_rfl
theorem f27_ok [Dr] (k : Nat) : FnOK Try.prog G0 27 (f27_sig k) :=
  fn_ok2 (E := E_f27 k) (env_cons (one_sig (f36_ok k)) (env_nil)) (qenv_nil) mixed Try.func27 Try.call27 (by kernel_rfl) (by kernel_rfl) (m := 1) (by kernel_rfl) ⟨trivial, l27_2_ok k⟩ (sk := []) (by kernel_rfl) trivial (f27_run k)

/-! ### gamehall/record.comment: function 15 -/
noncomputable def f15 (k : Nat) (x0 : ByteArray) : Option ((Int × Unit)) :=
  bif decide ((x0.size : Int) > 60) then
    some (2, ())
  else
    (f27 k x0 (⟨#[123, 125]⟩ : ByteArray)).bind fun r1 =>
    bif !r1.1 then
      some (3, ())
    else
      some (0, ())
noncomputable def f15_sig (k : Nat) : Sig := ⟨[.val (.str)], [], [[.val (.int .i64)]], fun x => f15 k x.1⟩
noncomputable def E_f15 (k : Nat) : Env := ⟨Try.prog, G0, scons 27 [f27_sig k] (snil), tnil, tnil, unil, k, qnil⟩
theorem f15_run (k : Nat) (x : (lTy (lay 0 (f15_sig k).ins)).den) : runF (E_f15 k) Try.f15 (f15_sig k) x = (f15_sig k).F x := by kernel_rfl
theorem f15_ok [Dr] (k : Nat) : FnOK Try.prog G0 15 (f15_sig k) :=
  fn_ok2 (E := E_f15 k) (env_cons (one_sig (f27_ok k)) (env_nil)) (qenv_nil) mixed Try.func15 Try.call15 (by kernel_rfl) (by kernel_rfl) (m := 0) (by kernel_rfl) trivial (sk := []) (by kernel_rfl) trivial (f15_run k)

/-! ### gamehall/record.head: function 14 -/
noncomputable def l14_13 (k : Nat) : Nat → ((List (ByteArray × ByteArray × Unit)) × ByteArray × (List (Int × (Int × Int × Int × Unit) × ByteArray × Unit)) × Int × Unit) → (ByteArray × ByteArray × Unit) → (List (ByteArray × ByteArray × Unit)) → Int → Int → (List (ByteArray × ByteArray × Unit)) → Int → Int → Option ((((List (ByteArray × ByteArray × Unit)) × ByteArray × (List (Int × (Int × Int × Int × Unit) × ByteArray × Unit)) × Int × Unit) × (List (ByteArray × ByteArray × Unit)) × Int × Int × Unit) ⊕ (Int × Unit))
  | 0, _, _, _, _, _, _, _, _ => none
  | j + 1, s1, s4, s18, s19, s20, s40, s41, s42 =>
    bif decide (s42 < s41) then
      bif decide (0 ≤ s42) && decide (s42 < (s40.length : Int)) then
        bif (rd (((⟨#[]⟩ : ByteArray), (⟨#[]⟩ : ByteArray), ()) : ByteArray × ByteArray × Unit) s40 s42).1.toList == s4.1.toList then
          some (.inr (7, ()))
        else
          l14_13 k j s1 s4 s18 s19 s20 s40 s41 (w64 (s42 + 1))
      else
        none
    else
      some (.inl (s1, s18, s19, s20, ()))
noncomputable def l14_13_sig (k : Nat) : LoopSig := ⟨[(1, .obj (.box (.val (.pair (.sl (.pair (.str) (.pair (.str) (.unit)))) (.pair (.str) (.pair (.sl (.pair (.int .i64) (.pair (.pair (.int .i64) (.pair (.int .i64) (.pair (.int .i64) (.unit)))) (.pair (.str) (.unit))))) (.pair (.int .i64) (.unit)))))))), (4, .obj (.box (.val (.pair (.str) (.pair (.str) (.unit)))))), (18, .obj (.val (.sl (.pair (.str) (.pair (.str) (.unit)))))), (19, .obj (.val (.int .i64))), (20, .obj (.val (.int .i64))), (40, .obj (.val (.sl (.pair (.str) (.pair (.str) (.unit)))))), (41, .obj (.val (.int .i64))), (42, .obj (.val (.int .i64)))], [(.exit 2, [(1, .obj (.box (.val (.pair (.sl (.pair (.str) (.pair (.str) (.unit)))) (.pair (.str) (.pair (.sl (.pair (.int .i64) (.pair (.pair (.int .i64) (.pair (.int .i64) (.pair (.int .i64) (.unit)))) (.pair (.str) (.unit))))) (.pair (.int .i64) (.unit)))))))), (18, .obj (.val (.sl (.pair (.str) (.pair (.str) (.unit)))))), (19, .obj (.val (.int .i64))), (20, .obj (.val (.int .i64)))]), (.ret, [(2, .obj (.val (.int .i64)))])], fun j x => l14_13 k j x.1 x.2.1 x.2.2.1 x.2.2.2.1 x.2.2.2.2.1 x.2.2.2.2.2.1 x.2.2.2.2.2.2.1 x.2.2.2.2.2.2.2.1⟩
noncomputable def l14_4 (k : Nat) : Nat → ((List (ByteArray × ByteArray × Unit)) × ByteArray × (List (Int × (Int × Int × Int × Unit) × ByteArray × Unit)) × Int × Unit) → (List (ByteArray × ByteArray × Unit)) → Int → Int → Option ((((List (ByteArray × ByteArray × Unit)) × ByteArray × (List (Int × (Int × Int × Int × Unit) × ByteArray × Unit)) × Int × Unit) × Unit) ⊕ (Int × Unit))
  | 0, _, _, _, _ => none
  | j + 1, s1, s18, s19, s20 =>
    bif decide (s20 < s19) then
      bif decide (0 ≤ s20) && decide (s20 < (s18.length : Int)) then
        (f26 k (rd (((⟨#[]⟩ : ByteArray), (⟨#[]⟩ : ByteArray), ()) : ByteArray × ByteArray × Unit) s18 s20).1).bind fun r1 =>
        bif !r1.1 then
          some (.inr (6, ()))
        else
        bif decide (((rd (((⟨#[]⟩ : ByteArray), (⟨#[]⟩ : ByteArray), ()) : ByteArray × ByteArray × Unit) s18 s20).2.1.size : Int) > 40) then
          some (.inr (2, ()))
        else
          (f27 k (rd (((⟨#[]⟩ : ByteArray), (⟨#[]⟩ : ByteArray), ()) : ByteArray × ByteArray × Unit) s18 s20).2.1 (⟨#[34]⟩ : ByteArray)).bind fun r2 =>
          bif !r2.1 then
            some (.inr (3, ()))
          else
          bif decide (0 ≤ s20) && decide (s20 ≤ (s1.1.length : Int)) then
            (l14_13 k k s1 (rd (((⟨#[]⟩ : ByteArray), (⟨#[]⟩ : ByteArray), ()) : ByteArray × ByteArray × Unit) s18 s20) s18 s19 s20 (sliceOf s1.1 0 s20) ((sliceOf s1.1 0 s20).length : Int) 0).bind fun w9 =>
            Sum.elim
              (fun y3 =>
                l14_4 k j y3.1 y3.2.1 y3.2.2.1 (w64 (y3.2.2.2.1 + 1)))
              (fun y4 =>
                some (.inr y4))
              w9
          else
            none
      else
        none
    else
      some (.inl (s1, ()))
noncomputable def l14_4_sig (k : Nat) : LoopSig := ⟨[(1, .obj (.box (.val (.pair (.sl (.pair (.str) (.pair (.str) (.unit)))) (.pair (.str) (.pair (.sl (.pair (.int .i64) (.pair (.pair (.int .i64) (.pair (.int .i64) (.pair (.int .i64) (.unit)))) (.pair (.str) (.unit))))) (.pair (.int .i64) (.unit)))))))), (18, .obj (.val (.sl (.pair (.str) (.pair (.str) (.unit)))))), (19, .obj (.val (.int .i64))), (20, .obj (.val (.int .i64)))], [(.exit 0, [(1, .obj (.box (.val (.pair (.sl (.pair (.str) (.pair (.str) (.unit)))) (.pair (.str) (.pair (.sl (.pair (.int .i64) (.pair (.pair (.int .i64) (.pair (.int .i64) (.pair (.int .i64) (.unit)))) (.pair (.str) (.unit))))) (.pair (.int .i64) (.unit))))))))]), (.ret, [(2, .obj (.val (.int .i64)))])], fun j x => l14_4 k j x.1 x.2.1 x.2.2.1 x.2.2.2.1⟩
noncomputable def f14 (k : Nat) (x0 : (List (ByteArray × ByteArray × Unit)) × ByteArray × (List (Int × (Int × Int × Int × Unit) × ByteArray × Unit)) × Int × Unit) : Option ((Int × Unit)) :=
  bif decide ((x0.1.length : Int) > 10) then
    some (2, ())
  else
  bif decide ((x0.2.2.1.length : Int) > 200) then
    some (2, ())
  else
    (l14_4 k k x0 x0.1 (x0.1.length : Int) 0).bind fun w10 =>
    Sum.elim
      (fun y1 =>
        bif decide (y1.1.2.2.2.1 < 0) then
          some (4, ())
        else
        bif decide (y1.1.2.2.2.1 > 3) then
          some (4, ())
        else
          (f15 k y1.1.2.1).bind fun r2 =>
          some r2)
      (fun y3 =>
        some y3)
      w10
noncomputable def f14_sig (k : Nat) : Sig := ⟨[.val (.pair (.sl (.pair (.str) (.pair (.str) (.unit)))) (.pair (.str) (.pair (.sl (.pair (.int .i64) (.pair (.pair (.int .i64) (.pair (.int .i64) (.pair (.int .i64) (.unit)))) (.pair (.str) (.unit))))) (.pair (.int .i64) (.unit)))))], [], [[.val (.int .i64)]], fun x => f14 k x.1⟩
noncomputable def E_f14 (k : Nat) : Env := ⟨Try.prog, G0, scons 27 [f27_sig k] (scons 26 [f26_sig k] (scons 15 [f15_sig k] (snil))), tcons 4 (l14_4_sig k) (tcons 13 (l14_13_sig k) (tnil)), tnil, unil, k, qnil⟩
theorem l14_4_ok (k : Nat) : LoopOK (E_f14 k) ⟨Try.f14.ntmps, [], G0⟩ (nthC 0 (loopsIn (Try.f14.body.getD .skip))) :=
  loop_ok (ls := l14_4_sig k) (by kernel_rfl) (fun _ => by kernel_rfl) (fun j x => by kernel_rfl)
theorem l14_13_ok (k : Nat) : LoopOK (E_f14 k) ⟨Try.f14.ntmps, [], G0⟩ (nthC 1 (loopsIn (Try.f14.body.getD .skip))) :=
  loop_ok (ls := l14_13_sig k) (by kernel_rfl) (fun _ => by kernel_rfl) (fun j x => by kernel_rfl)
theorem f14_run (k : Nat) (x : (lTy (lay 0 (f14_sig k).ins)).den) : runF (E_f14 k) Try.f14 (f14_sig k) x = (f14_sig k).F x := by kernel_rfl
theorem f14_ok [Dr] (k : Nat) : FnOK Try.prog G0 14 (f14_sig k) :=
  fn_ok2 (E := E_f14 k) (env_cons (one_sig (f27_ok k)) (env_cons (one_sig (f26_ok k)) (env_cons (one_sig (f15_ok k)) (env_nil)))) (qenv_nil) mixed Try.func14 Try.call14 (by kernel_rfl) (by kernel_rfl) (m := 2) (by kernel_rfl) ⟨⟨trivial, l14_4_ok k⟩, l14_13_ok k⟩ (sk := []) (by kernel_rfl) trivial (f14_run k)

/-! ### (*gamehall/plain.Game).Back: function 16 -/
noncomputable def f16 (k : Nat) (x0 : (ByteArray × Int × Int × (List (Int × Int × Int × (List (Int × Int × Int × Int × Unit)) × Unit)) × (List Int) × Bool × Bool × (List (Int × Int × Int × Bool × Unit)) × Int × Int × Int × Unit) × (List ((List Int) × ((List Int) × (List Int) × Unit) × Int × Int × Unit)) × (List (Int × Int × Int × Unit)) × Unit) : Option ((Int × ((ByteArray × Int × Int × (List (Int × Int × Int × (List (Int × Int × Int × Int × Unit)) × Unit)) × (List Int) × Bool × Bool × (List (Int × Int × Int × Bool × Unit)) × Int × Int × Int × Unit) × (List ((List Int) × ((List Int) × (List Int) × Unit) × Int × Int × Unit)) × (List (Int × Int × Int × Unit)) × Unit) × Unit)) :=
  bif (x0.2.2.1.length : Int) == 0 then
    some (8, x0, ())
  else
  bif decide (0 ≤ (w64 ((x0.2.1.length : Int) - 1))) && decide ((w64 ((x0.2.1.length : Int) - 1)) ≤ (x0.2.1.length : Int)) then
    bif decide (0 ≤ (w64 ((x0.2.2.1.length : Int) - 1))) && decide ((w64 ((x0.2.2.1.length : Int) - 1)) ≤ (x0.2.2.1.length : Int)) then
      some (0, (x0.1, first (w64 ((x0.2.1.length : Int) - 1)).toNat x0.2.1, first (w64 ((x0.2.2.1.length : Int) - 1)).toNat x0.2.2.1, ()), ())
    else
      none
  else
    none
noncomputable def f16_sig (k : Nat) : Sig := ⟨[.box (.cons (.val (.pair (.str) (.pair (.int .i64) (.pair (.int .i64) (.pair (.sl (.pair (.int .u8) (.pair (.int .i64) (.pair (.int .i64) (.pair (.sl (.pair (.int .i64) (.pair (.int .i64) (.pair (.int .i64) (.pair (.int .i64) (.unit)))))) (.unit)))))) (.pair (.sl (.int .i64)) (.pair (.bool) (.pair (.bool) (.pair (.sl (.pair (.int .i64) (.pair (.int .i64) (.pair (.int .i64) (.pair (.bool) (.unit)))))) (.pair (.int .i64) (.pair (.int .i64) (.pair (.int .i64) (.unit))))))))))))) (.cons (.row (.pair (.sl (.int .i64)) (.pair (.pair (.sl (.int .i64)) (.pair (.sl (.int .i64)) (.unit))) (.pair (.int .i64) (.pair (.int .i64) (.unit)))))) (.cons (.row (.pair (.int .i64) (.pair (.int .i64) (.pair (.int .i64) (.unit))))) (.nil))))], [0], [[.val (.int .i64), .box (.cons (.val (.pair (.str) (.pair (.int .i64) (.pair (.int .i64) (.pair (.sl (.pair (.int .u8) (.pair (.int .i64) (.pair (.int .i64) (.pair (.sl (.pair (.int .i64) (.pair (.int .i64) (.pair (.int .i64) (.pair (.int .i64) (.unit)))))) (.unit)))))) (.pair (.sl (.int .i64)) (.pair (.bool) (.pair (.bool) (.pair (.sl (.pair (.int .i64) (.pair (.int .i64) (.pair (.int .i64) (.pair (.bool) (.unit)))))) (.pair (.int .i64) (.pair (.int .i64) (.pair (.int .i64) (.unit))))))))))))) (.cons (.row (.pair (.sl (.int .i64)) (.pair (.pair (.sl (.int .i64)) (.pair (.sl (.int .i64)) (.unit))) (.pair (.int .i64) (.pair (.int .i64) (.unit)))))) (.cons (.row (.pair (.int .i64) (.pair (.int .i64) (.pair (.int .i64) (.unit))))) (.nil))))]], fun x => f16 k x.1⟩
noncomputable def E_f16 (k : Nat) : Env := ⟨Try.prog, G0, snil, tnil, tnil, unil, k, qnil⟩
theorem f16_run (k : Nat) (x : (lTy (lay 0 (f16_sig k).ins)).den) : runF (E_f16 k) Try.f16 (f16_sig k) x = (f16_sig k).F x := by kernel_rfl
theorem f16_ok [Dr] (k : Nat) : FnOK Try.prog G0 16 (f16_sig k) :=
  fn_ok2 (E := E_f16 k) (env_nil) (qenv_nil) mixed Try.func16 Try.call16 (by kernel_rfl) (by kernel_rfl) (m := 0) (by kernel_rfl) trivial (sk := []) (by kernel_rfl) trivial (f16_run k)

/-! ### (*gamehall/plain.Game).now: function 29 -/
noncomputable def f29 (k : Nat) (x0 : (ByteArray × Int × Int × (List (Int × Int × Int × (List (Int × Int × Int × Int × Unit)) × Unit)) × (List Int) × Bool × Bool × (List (Int × Int × Int × Bool × Unit)) × Int × Int × Int × Unit) × (List ((List Int) × ((List Int) × (List Int) × Unit) × Int × Int × Unit)) × (List (Int × Int × Int × Unit)) × Unit) : Option ((((List Int) × ((List Int) × (List Int) × Unit) × Int × Int × Unit) × Unit)) :=
  bif decide (0 ≤ (w64 ((x0.2.1.length : Int) - 1))) && decide ((w64 ((x0.2.1.length : Int) - 1)) < (x0.2.1.length : Int)) then
    some (rd (([], ([], [], ()), 0, 0, ()) : (List Int) × ((List Int) × (List Int) × Unit) × Int × Int × Unit) x0.2.1 (w64 ((x0.2.1.length : Int) - 1)), ())
  else
    none
noncomputable def f29_sig (k : Nat) : Sig := ⟨[.view (.pair (.pair (.str) (.pair (.int .i64) (.pair (.int .i64) (.pair (.sl (.pair (.int .u8) (.pair (.int .i64) (.pair (.int .i64) (.pair (.sl (.pair (.int .i64) (.pair (.int .i64) (.pair (.int .i64) (.pair (.int .i64) (.unit)))))) (.unit)))))) (.pair (.sl (.int .i64)) (.pair (.bool) (.pair (.bool) (.pair (.sl (.pair (.int .i64) (.pair (.int .i64) (.pair (.int .i64) (.pair (.bool) (.unit)))))) (.pair (.int .i64) (.pair (.int .i64) (.pair (.int .i64) (.unit)))))))))))) (.pair (.sl (.pair (.sl (.int .i64)) (.pair (.pair (.sl (.int .i64)) (.pair (.sl (.int .i64)) (.unit))) (.pair (.int .i64) (.pair (.int .i64) (.unit)))))) (.pair (.sl (.pair (.int .i64) (.pair (.int .i64) (.pair (.int .i64) (.unit))))) (.unit))))], [], [[.val (.pair (.sl (.int .i64)) (.pair (.pair (.sl (.int .i64)) (.pair (.sl (.int .i64)) (.unit))) (.pair (.int .i64) (.pair (.int .i64) (.unit)))))]], fun x => f29 k x.1⟩
noncomputable def E_f29 (k : Nat) : Env := ⟨Try.prog, G0, snil, tnil, tnil, unil, k, qnil⟩
theorem f29_run (k : Nat) (x : (lTy (lay 0 (f29_sig k).ins)).den) : runF (E_f29 k) Try.f29 (f29_sig k) x = (f29_sig k).F x := by kernel_rfl
theorem f29_ok [Dr] (k : Nat) : FnOK Try.prog G0 29 (f29_sig k) :=
  fn_ok2 (E := E_f29 k) (env_nil) (qenv_nil) mixed Try.func29 Try.call29 (by kernel_rfl) (by kernel_rfl) (m := 0) (by kernel_rfl) trivial (sk := []) (by kernel_rfl) trivial (f29_run k)

/-! ### gamehall/moves.Owner: function 54 -/
noncomputable def f54 (k : Nat) (x0 : Int) : Option ((Int × Unit)) :=
  bif x0 == 0 then
    some ((-1), ())
  else
    some ((w64 (x0 - 1)).tmod 2, ())
noncomputable def f54_sig (k : Nat) : Sig := ⟨[.val (.int .i64)], [], [[.val (.int .i64)]], fun x => f54 k x.1⟩
noncomputable def E_f54 (k : Nat) : Env := ⟨Try.prog, G0, snil, tnil, tnil, unil, k, qnil⟩
theorem f54_run (k : Nat) (x : (lTy (lay 0 (f54_sig k).ins)).den) : runF (E_f54 k) Try.f54 (f54_sig k) x = (f54_sig k).F x := by kernel_rfl
theorem f54_ok [Dr] (k : Nat) : FnOK Try.prog G0 54 (f54_sig k) :=
  fn_ok2 (E := E_f54 k) (env_nil) (qenv_nil) mixed Try.func54 Try.call54 (by kernel_rfl) (by kernel_rfl) (m := 0) (by kernel_rfl) trivial (sk := []) (by kernel_rfl) trivial (f54_run k)

/-! ### gamehall/ends.row: function 51 -/
noncomputable def l51_8 (k : Nat) : Nat → Int → Int → (ByteArray × Int × Int × (List (Int × Int × Int × (List (Int × Int × Int × Int × Unit)) × Unit)) × (List Int) × Bool × Bool × (List (Int × Int × Int × Bool × Unit)) × Int × Int × Int × Unit) → ((List Int) × ((List Int) × (List Int) × Unit) × Int × Int × Unit) → Int → (Int × Int × Unit) → Int → Int → Int → Int → Int → ((Int × Int × Unit) × (Int × Int × Unit) × (Int × Int × Unit) × (Int × Int × Unit) × Unit) → Int → Option ((Int × Int × (ByteArray × Int × Int × (List (Int × Int × Int × (List (Int × Int × Int × Int × Unit)) × Unit)) × (List Int) × Bool × Bool × (List (Int × Int × Int × Bool × Unit)) × Int × Int × Int × Unit) × ((List Int) × ((List Int) × (List Int) × Unit) × Int × Int × Unit) × Int × Int × Int × Int × ((Int × Int × Unit) × (Int × Int × Unit) × (Int × Int × Unit) × (Int × Int × Unit) × Unit) × Int × Unit))
  | 0, _, _, _, _, _, _, _, _, _, _, _, _, _ => none
  | j + 1, s2, s3, s4, s5, s9, s11, s12, s13, s14, s17, s18, s25, s26 =>
    bif decide (s12 ≥ 0) then
      bif decide (s12 < s4.2.1) then
        bif decide (s13 ≥ 0) then
          bif decide (s13 < s4.2.2.1) then
            bif decide (s14 < s3) then
              bif decide (0 ≤ (w64 ((w64 (s13 * s4.2.1)) + s12))) && decide ((w64 ((w64 (s13 * s4.2.1)) + s12)) < (s5.1.length : Int)) then
                (f54 k (rd (0 : Int) s5.1 (w64 ((w64 (s13 * s4.2.1)) + s12)))).bind fun r1 =>
                bif r1.1 == s2 then
                  l51_8 k j s2 s3 s4 s5 s9 s11 (w64 (s12 + s11.1)) (w64 (s13 + s11.2.1)) (w64 (s14 + 1)) s17 s18 s25 s26
                else
                  some (s2, s3, s4, s5, s9, s14, s17, s18, s25, s26, ())
              else
                none
            else
              some (s2, s3, s4, s5, s9, s14, s17, s18, s25, s26, ())
          else
            some (s2, s3, s4, s5, s9, s14, s17, s18, s25, s26, ())
        else
          some (s2, s3, s4, s5, s9, s14, s17, s18, s25, s26, ())
      else
        some (s2, s3, s4, s5, s9, s14, s17, s18, s25, s26, ())
    else
      some (s2, s3, s4, s5, s9, s14, s17, s18, s25, s26, ())
noncomputable def l51_8_sig (k : Nat) : LoopSig := ⟨[(2, .obj (.val (.int .i64))), (3, .obj (.val (.int .i64))), (4, .obj (.box (.val (.pair (.str) (.pair (.int .i64) (.pair (.int .i64) (.pair (.sl (.pair (.int .u8) (.pair (.int .i64) (.pair (.int .i64) (.pair (.sl (.pair (.int .i64) (.pair (.int .i64) (.pair (.int .i64) (.pair (.int .i64) (.unit)))))) (.unit)))))) (.pair (.sl (.int .i64)) (.pair (.bool) (.pair (.bool) (.pair (.sl (.pair (.int .i64) (.pair (.int .i64) (.pair (.int .i64) (.pair (.bool) (.unit)))))) (.pair (.int .i64) (.pair (.int .i64) (.pair (.int .i64) (.unit))))))))))))))), (5, .obj (.box (.val (.pair (.sl (.int .i64)) (.pair (.pair (.sl (.int .i64)) (.pair (.sl (.int .i64)) (.unit))) (.pair (.int .i64) (.pair (.int .i64) (.unit)))))))), (9, .obj (.val (.int .i64))), (11, .obj (.box (.val (.pair (.int .i64) (.pair (.int .i64) (.unit)))))), (12, .obj (.val (.int .i64))), (13, .obj (.val (.int .i64))), (14, .obj (.val (.int .i64))), (17, .obj (.val (.int .i64))), (18, .obj (.val (.int .i64))), (25, .obj (.val (.pair (.pair (.int .i64) (.pair (.int .i64) (.unit))) (.pair (.pair (.int .i64) (.pair (.int .i64) (.unit))) (.pair (.pair (.int .i64) (.pair (.int .i64) (.unit))) (.pair (.pair (.int .i64) (.pair (.int .i64) (.unit))) (.unit))))))), (26, .obj (.val (.int .i64)))], [(.exit 4, [(2, .obj (.val (.int .i64))), (3, .obj (.val (.int .i64))), (4, .obj (.box (.val (.pair (.str) (.pair (.int .i64) (.pair (.int .i64) (.pair (.sl (.pair (.int .u8) (.pair (.int .i64) (.pair (.int .i64) (.pair (.sl (.pair (.int .i64) (.pair (.int .i64) (.pair (.int .i64) (.pair (.int .i64) (.unit)))))) (.unit)))))) (.pair (.sl (.int .i64)) (.pair (.bool) (.pair (.bool) (.pair (.sl (.pair (.int .i64) (.pair (.int .i64) (.pair (.int .i64) (.pair (.bool) (.unit)))))) (.pair (.int .i64) (.pair (.int .i64) (.pair (.int .i64) (.unit))))))))))))))), (5, .obj (.box (.val (.pair (.sl (.int .i64)) (.pair (.pair (.sl (.int .i64)) (.pair (.sl (.int .i64)) (.unit))) (.pair (.int .i64) (.pair (.int .i64) (.unit)))))))), (9, .obj (.val (.int .i64))), (14, .obj (.val (.int .i64))), (17, .obj (.val (.int .i64))), (18, .obj (.val (.int .i64))), (25, .obj (.val (.pair (.pair (.int .i64) (.pair (.int .i64) (.unit))) (.pair (.pair (.int .i64) (.pair (.int .i64) (.unit))) (.pair (.pair (.int .i64) (.pair (.int .i64) (.unit))) (.pair (.pair (.int .i64) (.pair (.int .i64) (.unit))) (.unit))))))), (26, .obj (.val (.int .i64)))])], fun j x => l51_8 k j x.1 x.2.1 x.2.2.1 x.2.2.2.1 x.2.2.2.2.1 x.2.2.2.2.2.1 x.2.2.2.2.2.2.1 x.2.2.2.2.2.2.2.1 x.2.2.2.2.2.2.2.2.1 x.2.2.2.2.2.2.2.2.2.1 x.2.2.2.2.2.2.2.2.2.2.1 x.2.2.2.2.2.2.2.2.2.2.2.1 x.2.2.2.2.2.2.2.2.2.2.2.2.1⟩
noncomputable def l51_5 (k : Nat) : Nat → Int → Int → (ByteArray × Int × Int × (List (Int × Int × Int × (List (Int × Int × Int × Int × Unit)) × Unit)) × (List Int) × Bool × Bool × (List (Int × Int × Int × Bool × Unit)) × Int × Int × Int × Unit) → ((List Int) × ((List Int) × (List Int) × Unit) × Int × Int × Unit) → Int → Int → Int → ((Int × Int × Unit) × (Int × Int × Unit) × (Int × Int × Unit) × (Int × Int × Unit) × Unit) → Int → Option ((Int × Int × (ByteArray × Int × Int × (List (Int × Int × Int × (List (Int × Int × Int × Int × Unit)) × Unit)) × (List Int) × Bool × Bool × (List (Int × Int × Int × Bool × Unit)) × Int × Int × Int × Unit) × ((List Int) × ((List Int) × (List Int) × Unit) × Int × Int × Unit) × Int × Int × Unit) ⊕ (Bool × Unit))
  | 0, _, _, _, _, _, _, _, _, _ => none
  | j + 1, s2, s3, s4, s5, s9, s17, s18, s25, s26 =>
    bif decide (s26 < 4) then
      bif s26 == 0 then
        bif decide (s4.2.1 = 0) then
          none
        else
        bif decide (s4.2.1 = 0) then
          none
        else
          (l51_8 k k s2 s3 s4 s5 s9 s25.1 (s9.tmod s4.2.1) (w64 (s9.tdiv s4.2.1)) 0 s17 s18 s25 s26).bind fun o1 =>
          bif o1.2.2.2.2.2.1 == o1.2.1 then
            some (.inr (true, ()))
          else
            l51_5 k j o1.1 o1.2.1 o1.2.2.1 o1.2.2.2.1 o1.2.2.2.2.1 o1.2.2.2.2.2.2.1 o1.2.2.2.2.2.2.2.1 o1.2.2.2.2.2.2.2.2.1 (w64 (o1.2.2.2.2.2.2.2.2.2.1 + 1))
      else
      bif s26 == 1 then
        bif decide (s4.2.1 = 0) then
          none
        else
        bif decide (s4.2.1 = 0) then
          none
        else
          (l51_8 k k s2 s3 s4 s5 s9 s25.2.1 (s9.tmod s4.2.1) (w64 (s9.tdiv s4.2.1)) 0 s17 s18 s25 s26).bind fun o2 =>
          bif o2.2.2.2.2.2.1 == o2.2.1 then
            some (.inr (true, ()))
          else
            l51_5 k j o2.1 o2.2.1 o2.2.2.1 o2.2.2.2.1 o2.2.2.2.2.1 o2.2.2.2.2.2.2.1 o2.2.2.2.2.2.2.2.1 o2.2.2.2.2.2.2.2.2.1 (w64 (o2.2.2.2.2.2.2.2.2.2.1 + 1))
      else
      bif s26 == 2 then
        bif decide (s4.2.1 = 0) then
          none
        else
        bif decide (s4.2.1 = 0) then
          none
        else
          (l51_8 k k s2 s3 s4 s5 s9 s25.2.2.1 (s9.tmod s4.2.1) (w64 (s9.tdiv s4.2.1)) 0 s17 s18 s25 s26).bind fun o3 =>
          bif o3.2.2.2.2.2.1 == o3.2.1 then
            some (.inr (true, ()))
          else
            l51_5 k j o3.1 o3.2.1 o3.2.2.1 o3.2.2.2.1 o3.2.2.2.2.1 o3.2.2.2.2.2.2.1 o3.2.2.2.2.2.2.2.1 o3.2.2.2.2.2.2.2.2.1 (w64 (o3.2.2.2.2.2.2.2.2.2.1 + 1))
      else
      bif s26 == 3 then
        bif decide (s4.2.1 = 0) then
          none
        else
        bif decide (s4.2.1 = 0) then
          none
        else
          (l51_8 k k s2 s3 s4 s5 s9 s25.2.2.2.1 (s9.tmod s4.2.1) (w64 (s9.tdiv s4.2.1)) 0 s17 s18 s25 s26).bind fun o4 =>
          bif o4.2.2.2.2.2.1 == o4.2.1 then
            some (.inr (true, ()))
          else
            l51_5 k j o4.1 o4.2.1 o4.2.2.1 o4.2.2.2.1 o4.2.2.2.2.1 o4.2.2.2.2.2.2.1 o4.2.2.2.2.2.2.2.1 o4.2.2.2.2.2.2.2.2.1 (w64 (o4.2.2.2.2.2.2.2.2.2.1 + 1))
      else
        none
    else
      some (.inl (s2, s3, s4, s5, s17, s18, ()))
noncomputable def l51_5_sig (k : Nat) : LoopSig := ⟨[(2, .obj (.val (.int .i64))), (3, .obj (.val (.int .i64))), (4, .obj (.box (.val (.pair (.str) (.pair (.int .i64) (.pair (.int .i64) (.pair (.sl (.pair (.int .u8) (.pair (.int .i64) (.pair (.int .i64) (.pair (.sl (.pair (.int .i64) (.pair (.int .i64) (.pair (.int .i64) (.pair (.int .i64) (.unit)))))) (.unit)))))) (.pair (.sl (.int .i64)) (.pair (.bool) (.pair (.bool) (.pair (.sl (.pair (.int .i64) (.pair (.int .i64) (.pair (.int .i64) (.pair (.bool) (.unit)))))) (.pair (.int .i64) (.pair (.int .i64) (.pair (.int .i64) (.unit))))))))))))))), (5, .obj (.box (.val (.pair (.sl (.int .i64)) (.pair (.pair (.sl (.int .i64)) (.pair (.sl (.int .i64)) (.unit))) (.pair (.int .i64) (.pair (.int .i64) (.unit)))))))), (9, .obj (.val (.int .i64))), (17, .obj (.val (.int .i64))), (18, .obj (.val (.int .i64))), (25, .obj (.val (.pair (.pair (.int .i64) (.pair (.int .i64) (.unit))) (.pair (.pair (.int .i64) (.pair (.int .i64) (.unit))) (.pair (.pair (.int .i64) (.pair (.int .i64) (.unit))) (.pair (.pair (.int .i64) (.pair (.int .i64) (.unit))) (.unit))))))), (26, .obj (.val (.int .i64)))], [(.exit 2, [(2, .obj (.val (.int .i64))), (3, .obj (.val (.int .i64))), (4, .obj (.box (.val (.pair (.str) (.pair (.int .i64) (.pair (.int .i64) (.pair (.sl (.pair (.int .u8) (.pair (.int .i64) (.pair (.int .i64) (.pair (.sl (.pair (.int .i64) (.pair (.int .i64) (.pair (.int .i64) (.pair (.int .i64) (.unit)))))) (.unit)))))) (.pair (.sl (.int .i64)) (.pair (.bool) (.pair (.bool) (.pair (.sl (.pair (.int .i64) (.pair (.int .i64) (.pair (.int .i64) (.pair (.bool) (.unit)))))) (.pair (.int .i64) (.pair (.int .i64) (.pair (.int .i64) (.unit))))))))))))))), (5, .obj (.box (.val (.pair (.sl (.int .i64)) (.pair (.pair (.sl (.int .i64)) (.pair (.sl (.int .i64)) (.unit))) (.pair (.int .i64) (.pair (.int .i64) (.unit)))))))), (17, .obj (.val (.int .i64))), (18, .obj (.val (.int .i64)))]), (.ret, [(8, .obj (.val (.bool)))])], fun j x => l51_5 k j x.1 x.2.1 x.2.2.1 x.2.2.2.1 x.2.2.2.2.1 x.2.2.2.2.2.1 x.2.2.2.2.2.2.1 x.2.2.2.2.2.2.2.1 x.2.2.2.2.2.2.2.2.1⟩
noncomputable def l51_2 (k : Nat) : Nat → Int → Int → (ByteArray × Int × Int × (List (Int × Int × Int × (List (Int × Int × Int × Int × Unit)) × Unit)) × (List Int) × Bool × Bool × (List (Int × Int × Int × Bool × Unit)) × Int × Int × Int × Unit) → ((List Int) × ((List Int) × (List Int) × Unit) × Int × Int × Unit) → Int → Int → Option (Unit ⊕ (Bool × Unit))
  | 0, _, _, _, _, _, _ => none
  | j + 1, s2, s3, s4, s5, s17, s18 =>
    bif decide (s18 < s17) then
      (l51_5 k k s2 s3 s4 s5 s18 s17 s18 ((1, 0, ()), (0, 1, ()), (1, 1, ()), (1, (-1), ()), ()) 0).bind fun w11 =>
      Sum.elim
        (fun y1 =>
          l51_2 k j y1.1 y1.2.1 y1.2.2.1 y1.2.2.2.1 y1.2.2.2.2.1 (w64 (y1.2.2.2.2.2.1 + 1)))
        (fun y2 =>
          some (.inr y2))
        w11
    else
      some (.inl ())
noncomputable def l51_2_sig (k : Nat) : LoopSig := ⟨[(2, .obj (.val (.int .i64))), (3, .obj (.val (.int .i64))), (4, .obj (.box (.val (.pair (.str) (.pair (.int .i64) (.pair (.int .i64) (.pair (.sl (.pair (.int .u8) (.pair (.int .i64) (.pair (.int .i64) (.pair (.sl (.pair (.int .i64) (.pair (.int .i64) (.pair (.int .i64) (.pair (.int .i64) (.unit)))))) (.unit)))))) (.pair (.sl (.int .i64)) (.pair (.bool) (.pair (.bool) (.pair (.sl (.pair (.int .i64) (.pair (.int .i64) (.pair (.int .i64) (.pair (.bool) (.unit)))))) (.pair (.int .i64) (.pair (.int .i64) (.pair (.int .i64) (.unit))))))))))))))), (5, .obj (.box (.val (.pair (.sl (.int .i64)) (.pair (.pair (.sl (.int .i64)) (.pair (.sl (.int .i64)) (.unit))) (.pair (.int .i64) (.pair (.int .i64) (.unit)))))))), (17, .obj (.val (.int .i64))), (18, .obj (.val (.int .i64)))], [(.exit 0, []), (.ret, [(8, .obj (.val (.bool)))])], fun j x => l51_2 k j x.1 x.2.1 x.2.2.1 x.2.2.2.1 x.2.2.2.2.1 x.2.2.2.2.2.1⟩
noncomputable def f51 (k : Nat) (x0 : ByteArray × Int × Int × (List (Int × Int × Int × (List (Int × Int × Int × Int × Unit)) × Unit)) × (List Int) × Bool × Bool × (List (Int × Int × Int × Bool × Unit)) × Int × Int × Int × Unit) (x1 : (List Int) × ((List Int) × (List Int) × Unit) × Int × Int × Unit) (x2 : Int) (x3 : Int) : Option ((Bool × Unit)) :=
  (l51_2 k k x2 x3 x0 x1 (x1.1.length : Int) 0).bind fun w12 =>
  Sum.elim
    (fun y1 =>
      some (false, ()))
    (fun y2 =>
      some y2)
    w12
noncomputable def f51_sig (k : Nat) : Sig := ⟨[.val (.pair (.str) (.pair (.int .i64) (.pair (.int .i64) (.pair (.sl (.pair (.int .u8) (.pair (.int .i64) (.pair (.int .i64) (.pair (.sl (.pair (.int .i64) (.pair (.int .i64) (.pair (.int .i64) (.pair (.int .i64) (.unit)))))) (.unit)))))) (.pair (.sl (.int .i64)) (.pair (.bool) (.pair (.bool) (.pair (.sl (.pair (.int .i64) (.pair (.int .i64) (.pair (.int .i64) (.pair (.bool) (.unit)))))) (.pair (.int .i64) (.pair (.int .i64) (.pair (.int .i64) (.unit)))))))))))), .val (.pair (.sl (.int .i64)) (.pair (.pair (.sl (.int .i64)) (.pair (.sl (.int .i64)) (.unit))) (.pair (.int .i64) (.pair (.int .i64) (.unit))))), .val (.int .i64), .val (.int .i64)], [], [[.val (.bool)]], fun x => f51 k x.1 x.2.1 x.2.2.1 x.2.2.2.1⟩
noncomputable def E_f51 (k : Nat) : Env := ⟨Try.prog, G0, scons 54 [f54_sig k] (snil), tcons 2 (l51_2_sig k) (tcons 5 (l51_5_sig k) (tcons 8 (l51_8_sig k) (tnil))), tnil, unil, k, qnil⟩
theorem l51_2_ok (k : Nat) : LoopOK (E_f51 k) ⟨Try.f51.ntmps, [], G0⟩ (nthC 0 (loopsIn (Try.f51.body.getD .skip))) :=
  loop_ok (ls := l51_2_sig k) (by kernel_rfl) (fun _ => by kernel_rfl) (fun j x => by kernel_rfl)
theorem l51_5_ok (k : Nat) : LoopOK (E_f51 k) ⟨Try.f51.ntmps, [], G0⟩ (nthC 1 (loopsIn (Try.f51.body.getD .skip))) :=
  loop_ok (ls := l51_5_sig k) (by kernel_rfl) (fun _ => by kernel_rfl) (fun j x => by kernel_rfl)
theorem l51_8_ok (k : Nat) : LoopOK (E_f51 k) ⟨Try.f51.ntmps, [], G0⟩ (nthC 2 (loopsIn (Try.f51.body.getD .skip))) :=
  loop_ok (ls := l51_8_sig k) (by kernel_rfl) (fun _ => by kernel_rfl) (fun j x => by kernel_rfl)
theorem f51_run (k : Nat) (x : (lTy (lay 0 (f51_sig k).ins)).den) : runF (E_f51 k) Try.f51 (f51_sig k) x = (f51_sig k).F x := by kernel_rfl
theorem f51_ok [Dr] (k : Nat) : FnOK Try.prog G0 51 (f51_sig k) :=
  fn_ok2 (E := E_f51 k) (env_cons (one_sig (f54_ok k)) (env_nil)) (qenv_nil) mixed Try.func51 Try.call51 (by kernel_rfl) (by kernel_rfl) (m := 3) (by kernel_rfl) ⟨⟨⟨trivial, l51_2_ok k⟩, l51_5_ok k⟩, l51_8_ok k⟩ (sk := []) (by kernel_rfl) trivial (f51_run k)

/-! ### gamehall/moves.Cell: function 50 -/
noncomputable def f50 (k : Nat) (x0 : Int) (x1 : Int) : Option ((Int × Unit)) :=
  some (w64 ((w64 ((w64 (2 * x0)) + x1)) + 1), ())
noncomputable def f50_sig (k : Nat) : Sig := ⟨[.val (.int .i64), .val (.int .i64)], [], [[.val (.int .i64)]], fun x => f50 k x.1 x.2.1⟩
noncomputable def E_f50 (k : Nat) : Env := ⟨Try.prog, G0, snil, tnil, tnil, unil, k, qnil⟩
theorem f50_run (k : Nat) (x : (lTy (lay 0 (f50_sig k).ins)).den) : runF (E_f50 k) Try.f50 (f50_sig k) x = (f50_sig k).F x := by kernel_rfl
theorem f50_ok [Dr] (k : Nat) : FnOK Try.prog G0 50 (f50_sig k) :=
  fn_ok2 (E := E_f50 k) (env_nil) (qenv_nil) mixed Try.func50 Try.call50 (by kernel_rfl) (by kernel_rfl) (m := 0) (by kernel_rfl) trivial (sk := []) (by kernel_rfl) trivial (f50_run k)

/-! ### gamehall/rules.Far: function 52 -/
noncomputable def f52 (k : Nat) (x0 : ByteArray × Int × Int × (List (Int × Int × Int × (List (Int × Int × Int × Int × Unit)) × Unit)) × (List Int) × Bool × Bool × (List (Int × Int × Int × Bool × Unit)) × Int × Int × Int × Unit) (x1 : Int) (x2 : Int) : Option ((Bool × Unit)) :=
  bif x1 == 0 then
    bif decide (x0.2.1 = 0) then
      none
    else
      some ((w64 (x2.tdiv x0.2.1)) == (w64 (x0.2.2.1 - 1)), ())
  else
  bif decide (x0.2.1 = 0) then
    none
  else
    some ((w64 (x2.tdiv x0.2.1)) == 0, ())
noncomputable def f52_sig (k : Nat) : Sig := ⟨[.val (.pair (.str) (.pair (.int .i64) (.pair (.int .i64) (.pair (.sl (.pair (.int .u8) (.pair (.int .i64) (.pair (.int .i64) (.pair (.sl (.pair (.int .i64) (.pair (.int .i64) (.pair (.int .i64) (.pair (.int .i64) (.unit)))))) (.unit)))))) (.pair (.sl (.int .i64)) (.pair (.bool) (.pair (.bool) (.pair (.sl (.pair (.int .i64) (.pair (.int .i64) (.pair (.int .i64) (.pair (.bool) (.unit)))))) (.pair (.int .i64) (.pair (.int .i64) (.pair (.int .i64) (.unit)))))))))))), .val (.int .i64), .val (.int .i64)], [], [[.val (.bool)]], fun x => f52 k x.1 x.2.1 x.2.2.1⟩
noncomputable def E_f52 (k : Nat) : Env := ⟨Try.prog, G0, snil, tnil, tnil, unil, k, qnil⟩
theorem f52_run (k : Nat) (x : (lTy (lay 0 (f52_sig k).ins)).den) : runF (E_f52 k) Try.f52 (f52_sig k) x = (f52_sig k).F x := by kernel_rfl
theorem f52_ok [Dr] (k : Nat) : FnOK Try.prog G0 52 (f52_sig k) :=
  fn_ok2 (E := E_f52 k) (env_nil) (qenv_nil) mixed Try.func52 Try.call52 (by kernel_rfl) (by kernel_rfl) (m := 0) (by kernel_rfl) trivial (sk := []) (by kernel_rfl) trivial (f52_run k)

/-! ### gamehall/ends.holds: function 40 -/
noncomputable def l40_7 (k : Nat) : Nat → (ByteArray × Int × Int × (List (Int × Int × Int × (List (Int × Int × Int × Int × Unit)) × Unit)) × (List Int) × Bool × Bool × (List (Int × Int × Int × Bool × Unit)) × Int × Int × Int × Unit) → (Int × Int × Int × Bool × Unit) → Int → (List Int) → Int → Int → Option (Unit ⊕ (Bool × Unit))
  | 0, _, _, _, _, _, _ => none
  | j + 1, s3, s5, s7, s29, s30, s31 =>
    bif decide (s31 < s30) then
      bif decide (0 ≤ s31) && decide (s31 < (s29.length : Int)) then
        (f50 k s5.2.1 s7).bind fun r1 =>
        bif (rd (0 : Int) s29 s31) == r1.1 then
          (f52 k s3 s7 s31).bind fun r2 =>
          bif r2.1 then
            some (.inr (true, ()))
          else
            l40_7 k j s3 s5 s7 s29 s30 (w64 (s31 + 1))
        else
          l40_7 k j s3 s5 s7 s29 s30 (w64 (s31 + 1))
      else
        none
    else
      some (.inl ())
noncomputable def l40_7_sig (k : Nat) : LoopSig := ⟨[(3, .obj (.box (.val (.pair (.str) (.pair (.int .i64) (.pair (.int .i64) (.pair (.sl (.pair (.int .u8) (.pair (.int .i64) (.pair (.int .i64) (.pair (.sl (.pair (.int .i64) (.pair (.int .i64) (.pair (.int .i64) (.pair (.int .i64) (.unit)))))) (.unit)))))) (.pair (.sl (.int .i64)) (.pair (.bool) (.pair (.bool) (.pair (.sl (.pair (.int .i64) (.pair (.int .i64) (.pair (.int .i64) (.pair (.bool) (.unit)))))) (.pair (.int .i64) (.pair (.int .i64) (.pair (.int .i64) (.unit))))))))))))))), (5, .obj (.box (.val (.pair (.int .i64) (.pair (.int .i64) (.pair (.int .i64) (.pair (.bool) (.unit)))))))), (7, .obj (.val (.int .i64))), (29, .obj (.val (.sl (.int .i64)))), (30, .obj (.val (.int .i64))), (31, .obj (.val (.int .i64)))], [(.exit 1, []), (.ret, [(6, .obj (.val (.bool)))])], fun j x => l40_7 k j x.1 x.2.1 x.2.2.1 x.2.2.2.1 x.2.2.2.2.1 x.2.2.2.2.2.1⟩
noncomputable def l40_15 (k : Nat) : Nat → ((List Int) × ((List Int) × (List Int) × Unit) × Int × Int × Unit) → (Int × Int × Int × Bool × Unit) → Int → (List Int) → Int → Int → Option (((Int × Int × Int × Bool × Unit) × Int × Unit))
  | 0, _, _, _, _, _, _ => none
  | j + 1, s4, s5, s10, s50, s51, s52 =>
    bif decide (s52 < s51) then
      bif decide (0 ≤ s52) && decide (s52 < (s50.length : Int)) then
        (f50 k s5.2.1 s4.2.2.1).bind fun r1 =>
        bif (rd (0 : Int) s50 s52) == r1.1 then
          l40_15 k j s4 s5 (w64 (s10 + 1)) s50 s51 (w64 (s52 + 1))
        else
          l40_15 k j s4 s5 s10 s50 s51 (w64 (s52 + 1))
      else
        none
    else
      some (s5, s10, ())
noncomputable def l40_15_sig (k : Nat) : LoopSig := ⟨[(4, .obj (.box (.val (.pair (.sl (.int .i64)) (.pair (.pair (.sl (.int .i64)) (.pair (.sl (.int .i64)) (.unit))) (.pair (.int .i64) (.pair (.int .i64) (.unit)))))))), (5, .obj (.box (.val (.pair (.int .i64) (.pair (.int .i64) (.pair (.int .i64) (.pair (.bool) (.unit)))))))), (10, .obj (.val (.int .i64))), (50, .obj (.val (.sl (.int .i64)))), (51, .obj (.val (.int .i64))), (52, .obj (.val (.int .i64)))], [(.exit 3, [(5, .obj (.box (.val (.pair (.int .i64) (.pair (.int .i64) (.pair (.int .i64) (.pair (.bool) (.unit)))))))), (10, .obj (.val (.int .i64)))])], fun j x => l40_15 k j x.1 x.2.1 x.2.2.1 x.2.2.2.1 x.2.2.2.2.1 x.2.2.2.2.2.1⟩
noncomputable def f40 (k : Nat) (x0 : ByteArray × Int × Int × (List (Int × Int × Int × (List (Int × Int × Int × Int × Unit)) × Unit)) × (List Int) × Bool × Bool × (List (Int × Int × Int × Bool × Unit)) × Int × Int × Int × Unit) (x1 : (List Int) × ((List Int) × (List Int) × Unit) × Int × Int × Unit) (x2 : Int × Int × Int × Bool × Unit) : Option ((Bool × Unit)) :=
  bif x2.1 == 0 then
    (f51 k x0 x1 (w64 (1 - x1.2.2.1)) x2.2.2.1).bind fun r1 =>
    some r1
  else
  bif x2.1 == 1 then
    (l40_7 k k x0 x2 (w64 (1 - x1.2.2.1)) x1.1 (x1.1.length : Int) 0).bind fun w13 =>
    Sum.elim
      (fun y2 =>
        some (false, ()))
      (fun y3 =>
        some y3)
      w13
  else
    (l40_15 k k x1 x2 0 x1.1 (x1.1.length : Int) 0).bind fun o4 =>
    some (decide (o4.2.1 < o4.1.2.2.1), ())
noncomputable def f40_sig (k : Nat) : Sig := ⟨[.val (.pair (.str) (.pair (.int .i64) (.pair (.int .i64) (.pair (.sl (.pair (.int .u8) (.pair (.int .i64) (.pair (.int .i64) (.pair (.sl (.pair (.int .i64) (.pair (.int .i64) (.pair (.int .i64) (.pair (.int .i64) (.unit)))))) (.unit)))))) (.pair (.sl (.int .i64)) (.pair (.bool) (.pair (.bool) (.pair (.sl (.pair (.int .i64) (.pair (.int .i64) (.pair (.int .i64) (.pair (.bool) (.unit)))))) (.pair (.int .i64) (.pair (.int .i64) (.pair (.int .i64) (.unit)))))))))))), .val (.pair (.sl (.int .i64)) (.pair (.pair (.sl (.int .i64)) (.pair (.sl (.int .i64)) (.unit))) (.pair (.int .i64) (.pair (.int .i64) (.unit))))), .val (.pair (.int .i64) (.pair (.int .i64) (.pair (.int .i64) (.pair (.bool) (.unit)))))], [], [[.val (.bool)]], fun x => f40 k x.1 x.2.1 x.2.2.1⟩
noncomputable def E_f40 (k : Nat) : Env := ⟨Try.prog, G0, scons 52 [f52_sig k] (scons 51 [f51_sig k] (scons 50 [f50_sig k] (snil))), tcons 15 (l40_15_sig k) (tcons 7 (l40_7_sig k) (tnil)), tnil, unil, k, qnil⟩
theorem l40_7_ok (k : Nat) : LoopOK (E_f40 k) ⟨Try.f40.ntmps, [], G0⟩ (nthC 0 (loopsIn (Try.f40.body.getD .skip))) :=
  loop_ok (ls := l40_7_sig k) (by kernel_rfl) (fun _ => by kernel_rfl) (fun j x => by kernel_rfl)
theorem l40_15_ok (k : Nat) : LoopOK (E_f40 k) ⟨Try.f40.ntmps, [], G0⟩ (nthC 1 (loopsIn (Try.f40.body.getD .skip))) :=
  loop_ok (ls := l40_15_sig k) (by kernel_rfl) (fun _ => by kernel_rfl) (fun j x => by kernel_rfl)
theorem f40_run (k : Nat) (x : (lTy (lay 0 (f40_sig k).ins)).den) : runF (E_f40 k) Try.f40 (f40_sig k) x = (f40_sig k).F x := by kernel_rfl
theorem f40_ok [Dr] (k : Nat) : FnOK Try.prog G0 40 (f40_sig k) :=
  fn_ok2 (E := E_f40 k) (env_cons (one_sig (f52_ok k)) (env_cons (one_sig (f51_ok k)) (env_cons (one_sig (f50_ok k)) (env_nil)))) (qenv_nil) mixed Try.func40 Try.call40 (by kernel_rfl) (by kernel_rfl) (m := 2) (by kernel_rfl) ⟨⟨trivial, l40_7_ok k⟩, l40_15_ok k⟩ (sk := []) (by kernel_rfl) trivial (f40_run k)

/-! ### gamehall/ends.wins: function 41 -/
noncomputable def f41 (k : Nat) (x0 : Int) : Option ((Int × Unit)) :=
  some (w64 (1 + x0), ())
noncomputable def f41_sig (k : Nat) : Sig := ⟨[.val (.int .i64)], [], [[.val (.int .i64)]], fun x => f41 k x.1⟩
noncomputable def E_f41 (k : Nat) : Env := ⟨Try.prog, G0, snil, tnil, tnil, unil, k, qnil⟩
theorem f41_run (k : Nat) (x : (lTy (lay 0 (f41_sig k).ins)).den) : runF (E_f41 k) Try.f41 (f41_sig k) x = (f41_sig k).F x := by kernel_rfl
theorem f41_ok [Dr] (k : Nat) : FnOK Try.prog G0 41 (f41_sig k) :=
  fn_ok2 (E := E_f41 k) (env_nil) (qenv_nil) mixed Try.func41 Try.call41 (by kernel_rfl) (by kernel_rfl) (m := 0) (by kernel_rfl) trivial (sk := []) (by kernel_rfl) trivial (f41_run k)

/-! ### gamehall/moves.open: function 53 -/
noncomputable def l53_5 (k : Nat) : Nat → (ByteArray × Int × Int × (List (Int × Int × Int × (List (Int × Int × Int × Int × Unit)) × Unit)) × (List Int) × Bool × Bool × (List (Int × Int × Int × Bool × Unit)) × Int × Int × Int × Unit) → ((List Int) × ((List Int) × (List Int) × Unit) × Int × Int × Unit) → Int → Option (Unit ⊕ (Bool × Unit))
  | 0, _, _, _ => none
  | j + 1, s3, s4, s7 =>
    bif decide (s7 ≥ 0) then
      bif decide (0 ≤ s7) && decide (s7 < (s4.1.length : Int)) then
        bif (rd (0 : Int) s4.1 s7) == 0 then
          some (.inr (false, ()))
        else
          l53_5 k j s3 s4 (w64 (s7 - s3.2.1))
      else
        none
    else
      some (.inl ())
noncomputable def l53_5_sig (k : Nat) : LoopSig := ⟨[(3, .obj (.box (.val (.pair (.str) (.pair (.int .i64) (.pair (.int .i64) (.pair (.sl (.pair (.int .u8) (.pair (.int .i64) (.pair (.int .i64) (.pair (.sl (.pair (.int .i64) (.pair (.int .i64) (.pair (.int .i64) (.pair (.int .i64) (.unit)))))) (.unit)))))) (.pair (.sl (.int .i64)) (.pair (.bool) (.pair (.bool) (.pair (.sl (.pair (.int .i64) (.pair (.int .i64) (.pair (.int .i64) (.pair (.bool) (.unit)))))) (.pair (.int .i64) (.pair (.int .i64) (.pair (.int .i64) (.unit))))))))))))))), (4, .obj (.box (.val (.pair (.sl (.int .i64)) (.pair (.pair (.sl (.int .i64)) (.pair (.sl (.int .i64)) (.unit))) (.pair (.int .i64) (.pair (.int .i64) (.unit)))))))), (7, .obj (.val (.int .i64)))], [(.exit 0, []), (.ret, [(6, .obj (.val (.bool)))])], fun j x => l53_5 k j x.1 x.2.1 x.2.2.1⟩
noncomputable def f53 (k : Nat) (x0 : ByteArray × Int × Int × (List (Int × Int × Int × (List (Int × Int × Int × Int × Unit)) × Unit)) × (List Int) × Bool × Bool × (List (Int × Int × Int × Bool × Unit)) × Int × Int × Int × Unit) (x1 : (List Int) × ((List Int) × (List Int) × Unit) × Int × Int × Unit) (x2 : Int) : Option ((Bool × Unit)) :=
  bif decide (0 ≤ x2) && decide (x2 < (x1.1.length : Int)) then
    bif (rd (0 : Int) x1.1 x2) != 0 then
      some (false, ())
    else
    bif x0.2.2.2.2.2.1 then
      (l53_5 k k x0 x1 (w64 (x2 - x0.2.1))).bind fun w14 =>
      Sum.elim
        (fun y1 =>
          some (true, ()))
        (fun y2 =>
          some y2)
        w14
    else
      some (true, ())
  else
    none
noncomputable def f53_sig (k : Nat) : Sig := ⟨[.val (.pair (.str) (.pair (.int .i64) (.pair (.int .i64) (.pair (.sl (.pair (.int .u8) (.pair (.int .i64) (.pair (.int .i64) (.pair (.sl (.pair (.int .i64) (.pair (.int .i64) (.pair (.int .i64) (.pair (.int .i64) (.unit)))))) (.unit)))))) (.pair (.sl (.int .i64)) (.pair (.bool) (.pair (.bool) (.pair (.sl (.pair (.int .i64) (.pair (.int .i64) (.pair (.int .i64) (.pair (.bool) (.unit)))))) (.pair (.int .i64) (.pair (.int .i64) (.pair (.int .i64) (.unit)))))))))))), .val (.pair (.sl (.int .i64)) (.pair (.pair (.sl (.int .i64)) (.pair (.sl (.int .i64)) (.unit))) (.pair (.int .i64) (.pair (.int .i64) (.unit))))), .val (.int .i64)], [], [[.val (.bool)]], fun x => f53 k x.1 x.2.1 x.2.2.1⟩
noncomputable def E_f53 (k : Nat) : Env := ⟨Try.prog, G0, snil, tcons 5 (l53_5_sig k) (tnil), tnil, unil, k, qnil⟩
theorem l53_5_ok (k : Nat) : LoopOK (E_f53 k) ⟨Try.f53.ntmps, [], G0⟩ (nthC 0 (loopsIn (Try.f53.body.getD .skip))) :=
  loop_ok (ls := l53_5_sig k) (by kernel_rfl) (fun _ => by kernel_rfl) (fun j x => by kernel_rfl)
theorem f53_run (k : Nat) (x : (lTy (lay 0 (f53_sig k).ins)).den) : runF (E_f53 k) Try.f53 (f53_sig k) x = (f53_sig k).F x := by kernel_rfl
theorem f53_ok [Dr] (k : Nat) : FnOK Try.prog G0 53 (f53_sig k) :=
  fn_ok2 (E := E_f53 k) (env_nil) (qenv_nil) mixed Try.func53 Try.call53 (by kernel_rfl) (by kernel_rfl) (m := 1) (by kernel_rfl) ⟨trivial, l53_5_ok k⟩ (sk := []) (by kernel_rfl) trivial (f53_run k)

/-! ### gamehall/moves.Kind: function 49 -/
noncomputable def f49 (k : Nat) (x0 : Int) : Option ((Int × Unit)) :=
  some (w64 ((w64 (x0 - 1)).tdiv 2), ())
noncomputable def f49_sig (k : Nat) : Sig := ⟨[.val (.int .i64)], [], [[.val (.int .i64)]], fun x => f49 k x.1⟩
noncomputable def E_f49 (k : Nat) : Env := ⟨Try.prog, G0, snil, tnil, tnil, unil, k, qnil⟩
theorem f49_run (k : Nat) (x : (lTy (lay 0 (f49_sig k).ins)).den) : runF (E_f49 k) Try.f49 (f49_sig k) x = (f49_sig k).F x := by kernel_rfl
theorem f49_ok [Dr] (k : Nat) : FnOK Try.prog G0 49 (f49_sig k) :=
  fn_ok2 (E := E_f49 k) (env_nil) (qenv_nil) mixed Try.func49 Try.call49 (by kernel_rfl) (by kernel_rfl) (m := 0) (by kernel_rfl) trivial (sk := []) (by kernel_rfl) trivial (f49_run k)

/-! ### gamehall/moves.arrives: function 63 -/
noncomputable def f63 (k : Nat) (x0 : ByteArray × Int × Int × (List (Int × Int × Int × (List (Int × Int × Int × Int × Unit)) × Unit)) × (List Int) × Bool × Bool × (List (Int × Int × Int × Bool × Unit)) × Int × Int × Int × Unit) (x1 : Int) (x2 : Int) (x3 : Int) : Option ((Int × Unit)) :=
  bif decide (0 ≤ x2) && decide (x2 < (x0.2.2.2.1.length : Int)) then
    bif decide ((rd ((0, 0, 0, [], ()) : Int × Int × Int × (List (Int × Int × Int × Int × Unit)) × Unit) x0.2.2.2.1 x2).2.2.1 > 0) then
      (f52 k x0 x1 x3).bind fun r1 =>
      bif r1.1 then
        some (w64 ((rd ((0, 0, 0, [], ()) : Int × Int × Int × (List (Int × Int × Int × Int × Unit)) × Unit) x0.2.2.2.1 x2).2.2.1 - 1), ())
      else
        some (x2, ())
    else
      some (x2, ())
  else
    none
noncomputable def f63_sig (k : Nat) : Sig := ⟨[.val (.pair (.str) (.pair (.int .i64) (.pair (.int .i64) (.pair (.sl (.pair (.int .u8) (.pair (.int .i64) (.pair (.int .i64) (.pair (.sl (.pair (.int .i64) (.pair (.int .i64) (.pair (.int .i64) (.pair (.int .i64) (.unit)))))) (.unit)))))) (.pair (.sl (.int .i64)) (.pair (.bool) (.pair (.bool) (.pair (.sl (.pair (.int .i64) (.pair (.int .i64) (.pair (.int .i64) (.pair (.bool) (.unit)))))) (.pair (.int .i64) (.pair (.int .i64) (.pair (.int .i64) (.unit)))))))))))), .val (.int .i64), .val (.int .i64), .val (.int .i64)], [], [[.val (.int .i64)]], fun x => f63 k x.1 x.2.1 x.2.2.1 x.2.2.2.1⟩
noncomputable def E_f63 (k : Nat) : Env := ⟨Try.prog, G0, scons 52 [f52_sig k] (snil), tnil, tnil, unil, k, qnil⟩
theorem f63_run (k : Nat) (x : (lTy (lay 0 (f63_sig k).ins)).den) : runF (E_f63 k) Try.f63 (f63_sig k) x = (f63_sig k).F x := by kernel_rfl
theorem f63_ok [Dr] (k : Nat) : FnOK Try.prog G0 63 (f63_sig k) :=
  fn_ok2 (E := E_f63 k) (env_cons (one_sig (f52_ok k)) (env_nil)) (qenv_nil) mixed Try.func63 Try.call63 (by kernel_rfl) (by kernel_rfl) (m := 0) (by kernel_rfl) trivial (sk := []) (by kernel_rfl) trivial (f63_run k)

/-! ### gamehall/moves.along: function 55 -/
noncomputable def l55_7 (k : Nat) : Nat → (List (Int × Int × Int × Unit)) → Int → (ByteArray × Int × Int × (List (Int × Int × Int × (List (Int × Int × Int × Int × Unit)) × Unit)) × (List Int) × Bool × Bool × (List (Int × Int × Int × Bool × Unit)) × Int × Int × Int × Unit) → ((List Int) × ((List Int) × (List Int) × Unit) × Int × Int × Unit) → (Int × Int × Int × Int × Unit) → Int → Int → Int → Int → Int → Int → Option (((List (Int × Int × Int × Unit)) × Unit) ⊕ ((List (Int × Int × Int × Unit)) × Unit × Unit))
  | 0, _, _, _, _, _, _, _, _, _, _, _ => none
  | j + 1, s0, s3, s6, s7, s9, s11, s12, s13, s14, s39, s40 =>
    bif decide (s40 < s39) then
      bif decide ((w64 (s13 + s9.1)) < 0) then
        some (.inr (s0, (), ()))
      else
      bif decide ((w64 (s13 + s9.1)) ≥ s6.2.1) then
        some (.inr (s0, (), ()))
      else
      bif decide ((w64 (s14 + s12)) < 0) then
        some (.inr (s0, (), ()))
      else
      bif decide ((w64 (s14 + s12)) ≥ s6.2.2.1) then
        some (.inr (s0, (), ()))
      else
      bif decide (0 ≤ (w64 ((w64 ((w64 (s14 + s12)) * s6.2.1)) + (w64 (s13 + s9.1))))) && decide ((w64 ((w64 ((w64 (s14 + s12)) * s6.2.1)) + (w64 (s13 + s9.1)))) < (s7.1.length : Int)) then
        (f54 k (rd (0 : Int) s7.1 (w64 ((w64 ((w64 (s14 + s12)) * s6.2.1)) + (w64 (s13 + s9.1)))))).bind fun r1 =>
        bif decide (r1.1 < 0) then
          bif s9.2.2.2.1 != 2 then
            (f63 k s6 s7.2.2.1 s11 (w64 ((w64 ((w64 (s14 + s12)) * s6.2.1)) + (w64 (s13 + s9.1))))).bind fun r2 =>
            bif decide ((s0.length + ([(s3, w64 ((w64 ((w64 (s14 + s12)) * s6.2.1)) + (w64 (s13 + s9.1))), r2)] : List (Int × Int × Int × Unit)).length) * 24 ≤ roomN) then
              bif decide (r1.1 ≥ 0) then
                some (.inr (s0 ++ [(s3, w64 ((w64 ((w64 (s14 + s12)) * s6.2.1)) + (w64 (s13 + s9.1))), r2)], (), ()))
              else
                l55_7 k j (s0 ++ [(s3, w64 ((w64 ((w64 (s14 + s12)) * s6.2.1)) + (w64 (s13 + s9.1))), r2)]) s3 s6 s7 s9 s11 s12 (w64 (s13 + s9.1)) (w64 (s14 + s12)) s39 (w64 (s40 + 1))
            else
              none
          else
          bif r1.1 == (w64 (1 - s7.2.2.1)) then
            bif s9.2.2.2.1 != 0 then
              (f63 k s6 s7.2.2.1 s11 (w64 ((w64 ((w64 (s14 + s12)) * s6.2.1)) + (w64 (s13 + s9.1))))).bind fun r3 =>
              bif decide ((s0.length + ([(s3, w64 ((w64 ((w64 (s14 + s12)) * s6.2.1)) + (w64 (s13 + s9.1))), r3)] : List (Int × Int × Int × Unit)).length) * 24 ≤ roomN) then
                bif decide (r1.1 ≥ 0) then
                  some (.inr (s0 ++ [(s3, w64 ((w64 ((w64 (s14 + s12)) * s6.2.1)) + (w64 (s13 + s9.1))), r3)], (), ()))
                else
                  l55_7 k j (s0 ++ [(s3, w64 ((w64 ((w64 (s14 + s12)) * s6.2.1)) + (w64 (s13 + s9.1))), r3)]) s3 s6 s7 s9 s11 s12 (w64 (s13 + s9.1)) (w64 (s14 + s12)) s39 (w64 (s40 + 1))
              else
                none
            else
            bif decide (r1.1 ≥ 0) then
              some (.inr (s0, (), ()))
            else
              l55_7 k j s0 s3 s6 s7 s9 s11 s12 (w64 (s13 + s9.1)) (w64 (s14 + s12)) s39 (w64 (s40 + 1))
          else
          bif decide (r1.1 ≥ 0) then
            some (.inr (s0, (), ()))
          else
            l55_7 k j s0 s3 s6 s7 s9 s11 s12 (w64 (s13 + s9.1)) (w64 (s14 + s12)) s39 (w64 (s40 + 1))
        else
        bif r1.1 == (w64 (1 - s7.2.2.1)) then
          bif s9.2.2.2.1 != 0 then
            (f63 k s6 s7.2.2.1 s11 (w64 ((w64 ((w64 (s14 + s12)) * s6.2.1)) + (w64 (s13 + s9.1))))).bind fun r4 =>
            bif decide ((s0.length + ([(s3, w64 ((w64 ((w64 (s14 + s12)) * s6.2.1)) + (w64 (s13 + s9.1))), r4)] : List (Int × Int × Int × Unit)).length) * 24 ≤ roomN) then
              bif decide (r1.1 ≥ 0) then
                some (.inr (s0 ++ [(s3, w64 ((w64 ((w64 (s14 + s12)) * s6.2.1)) + (w64 (s13 + s9.1))), r4)], (), ()))
              else
                l55_7 k j (s0 ++ [(s3, w64 ((w64 ((w64 (s14 + s12)) * s6.2.1)) + (w64 (s13 + s9.1))), r4)]) s3 s6 s7 s9 s11 s12 (w64 (s13 + s9.1)) (w64 (s14 + s12)) s39 (w64 (s40 + 1))
            else
              none
          else
          bif decide (r1.1 ≥ 0) then
            some (.inr (s0, (), ()))
          else
            l55_7 k j s0 s3 s6 s7 s9 s11 s12 (w64 (s13 + s9.1)) (w64 (s14 + s12)) s39 (w64 (s40 + 1))
        else
        bif decide (r1.1 ≥ 0) then
          some (.inr (s0, (), ()))
        else
          l55_7 k j s0 s3 s6 s7 s9 s11 s12 (w64 (s13 + s9.1)) (w64 (s14 + s12)) s39 (w64 (s40 + 1))
      else
        none
    else
      some (.inl (s0, ()))
noncomputable def l55_7_sig (k : Nat) : LoopSig := ⟨[(0, .obj (.row (.pair (.int .i64) (.pair (.int .i64) (.pair (.int .i64) (.unit)))))), (3, .obj (.val (.int .i64))), (6, .obj (.box (.val (.pair (.str) (.pair (.int .i64) (.pair (.int .i64) (.pair (.sl (.pair (.int .u8) (.pair (.int .i64) (.pair (.int .i64) (.pair (.sl (.pair (.int .i64) (.pair (.int .i64) (.pair (.int .i64) (.pair (.int .i64) (.unit)))))) (.unit)))))) (.pair (.sl (.int .i64)) (.pair (.bool) (.pair (.bool) (.pair (.sl (.pair (.int .i64) (.pair (.int .i64) (.pair (.int .i64) (.pair (.bool) (.unit)))))) (.pair (.int .i64) (.pair (.int .i64) (.pair (.int .i64) (.unit))))))))))))))), (7, .obj (.box (.val (.pair (.sl (.int .i64)) (.pair (.pair (.sl (.int .i64)) (.pair (.sl (.int .i64)) (.unit))) (.pair (.int .i64) (.pair (.int .i64) (.unit)))))))), (9, .obj (.box (.val (.pair (.int .i64) (.pair (.int .i64) (.pair (.int .i64) (.pair (.int .i64) (.unit)))))))), (11, .obj (.val (.int .i64))), (12, .obj (.val (.int .i64))), (13, .obj (.val (.int .i64))), (14, .obj (.val (.int .i64))), (39, .obj (.val (.int .i64))), (40, .obj (.val (.int .i64)))], [(.exit 0, [(0, .obj (.row (.pair (.int .i64) (.pair (.int .i64) (.pair (.int .i64) (.unit))))))]), (.ret, [(0, .obj (.row (.pair (.int .i64) (.pair (.int .i64) (.pair (.int .i64) (.unit)))))), (10, .same 0)])], fun j x => l55_7 k j x.1 x.2.1 x.2.2.1 x.2.2.2.1 x.2.2.2.2.1 x.2.2.2.2.2.1 x.2.2.2.2.2.2.1 x.2.2.2.2.2.2.2.1 x.2.2.2.2.2.2.2.2.1 x.2.2.2.2.2.2.2.2.2.1 x.2.2.2.2.2.2.2.2.2.2.1⟩
noncomputable def f55 (k : Nat) (x0 : List (Int × Int × Int × Unit)) (x1 : ByteArray × Int × Int × (List (Int × Int × Int × (List (Int × Int × Int × Int × Unit)) × Unit)) × (List Int) × Bool × Bool × (List (Int × Int × Int × Bool × Unit)) × Int × Int × Int × Unit) (x2 : (List Int) × ((List Int) × (List Int) × Unit) × Int × Int × Unit) (x3 : Int) (x4 : Int × Int × Int × Int × Unit) : Option (((List (Int × Int × Int × Unit)) × Unit)) :=
  bif decide (0 ≤ x3) && decide (x3 < (x2.1.length : Int)) then
    (f49 k (rd (0 : Int) x2.1 x3)).bind fun r1 =>
    bif x2.2.2.1 == 1 then
      bif decide (x1.2.1 = 0) then
        none
      else
      bif decide (x1.2.1 = 0) then
        none
      else
        (l55_7 k k x0 x3 x1 x2 x4 r1.1 (w64 (0 - x4.2.1)) (x3.tmod x1.2.1) (w64 (x3.tdiv x1.2.1)) x4.2.2.1 0).bind fun w15 =>
        Sum.elim
          (fun y2 =>
            some y2)
          (fun y3 =>
            some (y3.1, ()))
          w15
    else
    bif decide (x1.2.1 = 0) then
      none
    else
    bif decide (x1.2.1 = 0) then
      none
    else
      (l55_7 k k x0 x3 x1 x2 x4 r1.1 x4.2.1 (x3.tmod x1.2.1) (w64 (x3.tdiv x1.2.1)) x4.2.2.1 0).bind fun w16 =>
      Sum.elim
        (fun y4 =>
          some y4)
        (fun y5 =>
          some (y5.1, ()))
        w16
  else
    none
noncomputable def f55_sig (k : Nat) : Sig := ⟨[.row (.pair (.int .i64) (.pair (.int .i64) (.pair (.int .i64) (.unit)))), .val (.pair (.str) (.pair (.int .i64) (.pair (.int .i64) (.pair (.sl (.pair (.int .u8) (.pair (.int .i64) (.pair (.int .i64) (.pair (.sl (.pair (.int .i64) (.pair (.int .i64) (.pair (.int .i64) (.pair (.int .i64) (.unit)))))) (.unit)))))) (.pair (.sl (.int .i64)) (.pair (.bool) (.pair (.bool) (.pair (.sl (.pair (.int .i64) (.pair (.int .i64) (.pair (.int .i64) (.pair (.bool) (.unit)))))) (.pair (.int .i64) (.pair (.int .i64) (.pair (.int .i64) (.unit)))))))))))), .val (.pair (.sl (.int .i64)) (.pair (.pair (.sl (.int .i64)) (.pair (.sl (.int .i64)) (.unit))) (.pair (.int .i64) (.pair (.int .i64) (.unit))))), .val (.int .i64), .val (.pair (.int .i64) (.pair (.int .i64) (.pair (.int .i64) (.pair (.int .i64) (.unit)))))], [], [[.row (.pair (.int .i64) (.pair (.int .i64) (.pair (.int .i64) (.unit))))]], fun x => f55 k x.1 x.2.1 x.2.2.1 x.2.2.2.1 x.2.2.2.2.1⟩
noncomputable def E_f55 (k : Nat) : Env := ⟨Try.prog, G0, scons 63 [f63_sig k] (scons 54 [f54_sig k] (scons 49 [f49_sig k] (snil))), tcons 7 (l55_7_sig k) (tnil), tnil, unil, k, qnil⟩
theorem l55_7_ok (k : Nat) : LoopOK (E_f55 k) ⟨Try.f55.ntmps, [], G0⟩ (nthC 0 (loopsIn (Try.f55.body.getD .skip))) :=
  loop_ok (ls := l55_7_sig k) (by kernel_rfl) (fun _ => by kernel_rfl) (fun j x => by kernel_rfl)
theorem f55_run (k : Nat) (x : (lTy (lay 0 (f55_sig k).ins)).den) : runF (E_f55 k) Try.f55 (f55_sig k) x = (f55_sig k).F x := by kernel_rfl
theorem f55_ok [Dr] (k : Nat) : FnOK Try.prog G0 55 (f55_sig k) :=
  fn_ok2 (E := E_f55 k) (env_cons (one_sig (f63_ok k)) (env_cons (one_sig (f54_ok k)) (env_cons (one_sig (f49_ok k)) (env_nil)))) (qenv_nil) mixed Try.func55 Try.call55 (by kernel_rfl) (by kernel_rfl) (m := 1) (by kernel_rfl) ⟨trivial, l55_7_ok k⟩ (sk := []) (by kernel_rfl) trivial (f55_run k)

/-! ### cmp.isNaN[int]: function 78 -/
noncomputable def f78 (k : Nat) (x0 : Int) : Option ((Bool × Unit)) :=
  some (x0 != x0, ())
noncomputable def f78_sig (k : Nat) : Sig := ⟨[.val (.int .i64)], [], [[.val (.bool)]], fun x => f78 k x.1⟩
noncomputable def E_f78 (k : Nat) : Env := ⟨Try.prog, G0, snil, tnil, tnil, unil, k, qnil⟩
theorem f78_run (k : Nat) (x : (lTy (lay 0 (f78_sig k).ins)).den) : runF (E_f78 k) Try.f78 (f78_sig k) x = (f78_sig k).F x := by kernel_rfl
theorem f78_ok [Dr] (k : Nat) : FnOK Try.prog G0 78 (f78_sig k) :=
  fn_ok2 (E := E_f78 k) (env_nil) (qenv_nil) mixed Try.func78 Try.call78 (by kernel_rfl) (by kernel_rfl) (m := 0) (by kernel_rfl) trivial (sk := []) (by kernel_rfl) trivial (f78_run k)

/-! ### cmp.Compare[int]: function 67 -/
noncomputable def f67 (k : Nat) (x0 : Int) (x1 : Int) : Option ((Int × Unit)) :=
  (f78 k x0).bind fun r1 =>
  (f78 k x1).bind fun r2 =>
  bif r1.1 then
    bif r2.1 then
      some (0, ())
    else
      some ((-1), ())
  else
  bif r2.1 then
    some (1, ())
  else
  bif decide (x0 < x1) then
    some ((-1), ())
  else
  bif decide (x0 > x1) then
    some (1, ())
  else
    some (0, ())
noncomputable def f67_sig (k : Nat) : Sig := ⟨[.val (.int .i64), .val (.int .i64)], [], [[.val (.int .i64)]], fun x => f67 k x.1 x.2.1⟩
noncomputable def E_f67 (k : Nat) : Env := ⟨Try.prog, G0, scons 78 [f78_sig k] (snil), tnil, tnil, unil, k, qnil⟩
theorem f67_run (k : Nat) (x : (lTy (lay 0 (f67_sig k).ins)).den) : runF (E_f67 k) Try.f67 (f67_sig k) x = (f67_sig k).F x := by kernel_rfl
theorem f67_ok [Dr] (k : Nat) : FnOK Try.prog G0 67 (f67_sig k) :=
  fn_ok2 (E := E_f67 k) (env_cons (one_sig (f78_ok k)) (env_nil)) (qenv_nil) mixed Try.func67 Try.call67 (by kernel_rfl) (by kernel_rfl) (m := 0) (by kernel_rfl) trivial (sk := []) (by kernel_rfl) trivial (f67_run k)

/-! ### cmp.Or[int]: function 66 -/
noncomputable def l66_3 (k : Nat) : Nat → Int → (List Int) → Int → Int → Option ((Int × Unit) ⊕ (Int × Unit))
  | 0, _, _, _, _ => none
  | j + 1, s3, s6, s7, s8 =>
    bif decide (s8 < s7) then
      bif decide (0 ≤ s8) && decide (s8 < (s6.length : Int)) then
        bif (rd (0 : Int) s6 s8) != s3 then
          some (.inr (rd (0 : Int) s6 s8, ()))
        else
          l66_3 k j s3 s6 s7 (w64 (s8 + 1))
      else
        none
    else
      some (.inl (s3, ()))
noncomputable def l66_3_sig (k : Nat) : LoopSig := ⟨[(3, .obj (.val (.int .i64))), (6, .obj (.val (.sl (.int .i64)))), (7, .obj (.val (.int .i64))), (8, .obj (.val (.int .i64)))], [(.exit 0, [(3, .obj (.val (.int .i64)))]), (.ret, [(2, .obj (.val (.int .i64)))])], fun j x => l66_3 k j x.1 x.2.1 x.2.2.1 x.2.2.2.1⟩
noncomputable def f66 (k : Nat) (x0 : List Int) : Option ((Int × Unit)) :=
  (l66_3 k k 0 x0 (x0.length : Int) 0).bind fun w17 =>
  Sum.elim
    (fun y1 =>
      some y1)
    (fun y2 =>
      some y2)
    w17
noncomputable def f66_sig (k : Nat) : Sig := ⟨[.val (.sl (.int .i64))], [], [[.val (.int .i64)]], fun x => f66 k x.1⟩
noncomputable def E_f66 (k : Nat) : Env := ⟨Try.prog, G0, snil, tcons 3 (l66_3_sig k) (tnil), tnil, unil, k, qnil⟩
theorem l66_3_ok (k : Nat) : LoopOK (E_f66 k) ⟨Try.f66.ntmps, [], G0⟩ (nthC 0 (loopsIn (Try.f66.body.getD .skip))) :=
  loop_ok (ls := l66_3_sig k) (by kernel_rfl) (fun _ => by kernel_rfl) (fun j x => by kernel_rfl)
theorem f66_run (k : Nat) (x : (lTy (lay 0 (f66_sig k).ins)).den) : runF (E_f66 k) Try.f66 (f66_sig k) x = (f66_sig k).F x := by kernel_rfl
theorem f66_ok [Dr] (k : Nat) : FnOK Try.prog G0 66 (f66_sig k) :=
  fn_ok2 (E := E_f66 k) (env_nil) (qenv_nil) mixed Try.func66 Try.call66 (by kernel_rfl) (by kernel_rfl) (m := 1) (by kernel_rfl) ⟨trivial, l66_3_ok k⟩ (sk := []) (by kernel_rfl) trivial (f66_run k)

/-! ### gamehall/moves.compare: function 57 -/
noncomputable def f57 (k : Nat) (x0 : Int × Int × Int × Unit) (x1 : Int × Int × Int × Unit) : Option ((Int × Unit)) :=
  (f67 k x0.1 x1.1).bind fun r1 =>
  (f67 k x0.2.1 x1.2.1).bind fun r2 =>
  (f67 k x0.2.2.1 x1.2.2.1).bind fun r3 =>
  (f66 k [r1.1, r2.1, r3.1]).bind fun r4 =>
  some r4
noncomputable def f57_sig (k : Nat) : Sig := ⟨[.val (.pair (.int .i64) (.pair (.int .i64) (.pair (.int .i64) (.unit)))), .val (.pair (.int .i64) (.pair (.int .i64) (.pair (.int .i64) (.unit))))], [], [[.val (.int .i64)]], fun x => f57 k x.1 x.2.1⟩
noncomputable def E_f57 (k : Nat) : Env := ⟨Try.prog, G0, scons 67 [f67_sig k] (scons 66 [f66_sig k] (snil)), tnil, tnil, unil, k, qnil⟩
theorem f57_run (k : Nat) (x : (lTy (lay 0 (f57_sig k).ins)).den) : runF (E_f57 k) Try.f57 (f57_sig k) x = (f57_sig k).F x := by kernel_rfl
theorem f57_ok [Dr] (k : Nat) : FnOK Try.prog G0 57 (f57_sig k) :=
  fn_ok2 (E := E_f57 k) (env_cons (one_sig (f67_ok k)) (env_cons (one_sig (f66_ok k)) (env_nil))) (qenv_nil) mixed Try.func57 Try.call57 (by kernel_rfl) (by kernel_rfl) (m := 0) (by kernel_rfl) trivial (sk := []) (by kernel_rfl) trivial (f57_run k)

/-! ### slices.SortFunc: function 56, out of the library's own contract -/
open Go.Shelf in
def sortMv_ren : Go.Shelf.Ren := ⟨fun | 6 => 56 | 15 => 65 | 14 => 64 | 28 => 76 | 29 => 77 | 20 => 68 | 21 => 69 | 22 => 70 | 23 => 71 | 24 => 72 | 25 => 73 | 26 => 74 | 27 => 75 | 46 => 79 | 47 => 80 | 48 => 81 | 49 => 82 | 50 => 83 | 57 => 84 | n => n, fun | 22 => 36 | 24 => 54 | 25 => 108 | 3 => 3 | 39 => 118 | 0 => 0 | 53 => 129 | 55 => 131 | 4 => 4 | 46 => 122 | 45 => 121 | 50 => 126 | 5 => 5 | 9 => 9 | 66 => 133 | 70 => 137 | 76 => 139 | 77 => 140 | n => n, fun | n => n⟩
open Go.Shelf in
theorem sortMv : Go.Proofs.SlLaysF0.n6 Try.prog sortMv_ren := {
  mixed := by kernel_rfl
  f6 := ⟨Try.f56.name, by decide, Try.func56.trans (congrArg some (by kernel_rfl))⟩
  f14 := ⟨Try.f64.name, by decide, Try.func64.trans (congrArg some (by kernel_rfl))⟩
  f15 := Try.func65.trans (congrArg some (by kernel_rfl))
  f20 := ⟨Try.f68.name, by decide, Try.func68.trans (congrArg some (by kernel_rfl))⟩
  f21 := ⟨Try.f69.name, by decide, Try.func69.trans (congrArg some (by kernel_rfl))⟩
  f22 := ⟨Try.f70.name, by decide, Try.func70.trans (congrArg some (by kernel_rfl))⟩
  f23 := ⟨Try.f71.name, by decide, Try.func71.trans (congrArg some (by kernel_rfl))⟩
  f24 := ⟨Try.f72.name, by decide, Try.func72.trans (congrArg some (by kernel_rfl))⟩
  f25 := ⟨Try.f73.name, by decide, Try.func73.trans (congrArg some (by kernel_rfl))⟩
  f26 := ⟨Try.f74.name, by decide, Try.func74.trans (congrArg some (by kernel_rfl))⟩
  f27 := ⟨Try.f75.name, by decide, Try.func75.trans (congrArg some (by kernel_rfl))⟩
  f28 := Try.func76.trans (congrArg some (by kernel_rfl))
  f29 := Try.func77.trans (congrArg some (by kernel_rfl))
  f46 := ⟨Try.f79.name, by decide, Try.func79.trans (congrArg some (by kernel_rfl))⟩
  f47 := Try.func80.trans (congrArg some (by kernel_rfl))
  f48 := Try.func81.trans (congrArg some (by kernel_rfl))
  f49 := ⟨Try.f82.name, by decide, Try.func82.trans (congrArg some (by kernel_rfl))⟩
  f50 := ⟨Try.f83.name, by decide, Try.func83.trans (congrArg some (by kernel_rfl))⟩
  f57 := ⟨Try.f84.name, by decide, Try.func84.trans (congrArg some (by kernel_rfl))⟩
  t0 := Try.underlying0
  a0 := Try.isAgg0
  z0 := Try.sizeOf0
  v0 := Try.zeroValue0
  t3 := Try.underlying3
  a3 := Try.isAgg3
  z3 := Try.sizeOf3
  v3 := Try.zeroValue3
  t4 := Try.underlying4
  a4 := Try.isAgg4
  z4 := Try.sizeOf4
  v4 := Try.zeroValue4
  t5 := Try.underlying5
  a5 := Try.isAgg5
  z5 := Try.sizeOf5
  v5 := Try.zeroValue5
  t9 := Try.underlying9
  a9 := Try.isAgg9
  z9 := Try.sizeOf9
  v9 := Try.zeroValue9
  t22 := Try.underlying36
  a22 := Try.isAgg36
  z22 := Try.sizeOf36
  v22 := Try.zeroValue36
  t25 := Try.underlying108
  a25 := Try.isAgg108
  z25 := Try.sizeOf108
  v25 := Try.zeroValue108
  t39 := Try.underlying118
  a39 := Try.isAgg118
  z39 := Try.sizeOf118
  v39 := Try.zeroValue118
  t45 := Try.underlying121
  a45 := Try.isAgg121
  z45 := Try.sizeOf121
  v45 := Try.zeroValue121
  t46 := Try.underlying122
  a46 := Try.isAgg122
  z46 := Try.sizeOf122
  v46 := Try.zeroValue122
  t50 := Try.underlying126
  a50 := Try.isAgg126
  z50 := Try.sizeOf126
  v50 := Try.zeroValue126
  t53 := Try.underlying129
  a53 := Try.isAgg129
  z53 := Try.sizeOf129
  v53 := Try.zeroValue129
  t55 := Try.underlying131
  a55 := Try.isAgg131
  z55 := Try.sizeOf131
  v55 := Try.zeroValue131
  t66 := Try.underlying133
  a66 := Try.isAgg133
  z66 := Try.sizeOf133
  v66 := Try.zeroValue133
  t70 := Try.underlying137
  a70 := Try.isAgg137
  z70 := Try.sizeOf137
  v70 := Try.zeroValue137
  t76 := Try.underlying139
  a76 := Try.isAgg139
  z76 := Try.sizeOf139
  v76 := Try.zeroValue139
  t77 := Try.underlying140
  a77 := Try.isAgg140
  z77 := Try.sizeOf140
  v77 := Try.zeroValue140 }

def cmpI (a b : Int) : Int := bif decide (a < b) then -1 else bif decide (b < a) then 1 else 0
theorem cmpI_eq (k : Nat) (a b : Int) : f67 k a b = some (cmpI a b, ()) := by
  have h0 : f78 k a = some (false, ()) := by simp [f78]
  have h1 : f78 k b = some (false, ()) := by simp [f78]
  unfold f67 cmpI
  rw [h0, h1]
  by_cases h : a < b <;> by_cases h' : b < a <;> simp [h, h']
def cmpM (x y : Int × Int × Int × Unit) : Int := bif cmpI x.1 y.1 != 0 then cmpI x.1 y.1 else bif cmpI x.2.1 y.2.1 != 0 then cmpI x.2.1 y.2.1 else cmpI x.2.2.1 y.2.2.1
theorem cmpOr_eq (k : Nat) (a b c : Int) : f66 (k + 5) [a, b, c] = some (bif a != 0 then a else bif b != 0 then b else c, ()) := by
  unfold f66
  have e0 : ∀ a b c : Int, rd (0 : Int) [a, b, c] 0 = a := fun _ _ _ => rfl
  have e1 : ∀ a b c : Int, rd (0 : Int) [a, b, c] 1 = b := fun _ _ _ => rfl
  have e2 : ∀ a b c : Int, rd (0 : Int) [a, b, c] 2 = c := fun _ _ _ => rfl
  have w1 : w64 1 = 1 := by decide
  have w2 : w64 2 = 2 := by decide
  have w3 : w64 3 = 3 := by decide
  cases ha : (a != 0) <;> cases hb : (b != 0) <;> cases hc : (c != 0) <;> simp [l66_3, ha, hb, hc, e0, e1, e2, w1, w2, w3]
  have := bne_eq_false_iff_eq.1 hc
  exact this.symm
theorem cmpM_eq (k : Nat) (x y : Int × Int × Int × Unit) : f57 (k + 5) x y = some (cmpM x y, ()) := by
  unfold f57 cmpM
  simp only [cmpI_eq, Option.bind_some, cmpOr_eq]
theorem cmpM_lt (x y : Int × Int × Int × Unit) : cmpM x y < 0 ↔ x.1 < y.1 ∨ x.1 = y.1 ∧ (x.2.1 < y.2.1 ∨ x.2.1 = y.2.1 ∧ x.2.2.1 < y.2.2.1) := by
  have e : ∀ a b : Int, cmpI a b = if a < b then -1 else if b < a then 1 else 0 := fun a b => by
    unfold cmpI; by_cases h : a < b <;> by_cases h' : b < a <;> simp [h, h']
  unfold cmpM
  simp only [e]
  obtain ⟨a, b, c, _⟩ := x; obtain ⟨a', b', c', _⟩ := y
  simp only
  rcases Int.lt_trichotomy a a' with h | h | h
  · simp [h]
  · subst h
    rcases Int.lt_trichotomy b b' with h | h | h
    · simp [h]
    · subst h
      rcases Int.lt_trichotomy c c' with h | h | h
      · simp [h]
      · subst h; simp
      · have h2 : ¬ c < c' := by omega
        simp [h, h2]
    · have h2 : ¬ b < b' := by omega
      have h3 : ¬ b = b' := by omega
      simp [h, h2, h3]
  · have h2 : ¬ a < a' := by omega
    have h3 : ¬ a = a' := by omega
    simp [h, h2, h3]
/-- The order of moves. -/
def mvLt (x y : Int × Int × Int × Unit) : Bool := decide (cmpM x y < 0)
noncomputable def f56 (k : Nat) (x0 : List (Int × Int × Int × Unit)) : Option (List (Int × Int × Int × Unit) × Unit) :=
  bif Nat.ble 5 k && decide (x0.length < 4611686018427387904) then some (List.mergeSort x0 (fun x y => !mvLt y x), ()) else none
noncomputable def f56_sig (k : Nat) : Sig := ⟨[.row (.pair (.int .i64) (.pair (.int .i64) (.pair (.int .i64) (.unit)))), .fn 57], [0], [[.row (.pair (.int .i64) (.pair (.int .i64) (.pair (.int .i64) (.unit))))]], fun x => f56 k x.1⟩
theorem mv_swo : Go.Sort.SWO (Go.Proofs.ltOf cmpM) := by
  have e : ∀ x y, Go.Proofs.ltOf cmpM x y = true ↔ cmpM x y < 0 := fun x y => by simp [Go.Proofs.ltOf]
  have e' : ∀ x y, Go.Proofs.ltOf cmpM x y = false ↔ ¬ cmpM x y < 0 := fun x y => by simp [Go.Proofs.ltOf]
  refine ⟨fun x => ?_, fun x y z h1 h2 => ?_, fun x y z h1 h2 => ?_⟩
  · rw [e', cmpM_lt]; omega
  · rw [e, cmpM_lt] at *; omega
  · rw [e', cmpM_lt] at *; omega
theorem mv_tot (x y : Int × Int × Int × Unit) (h1 : Go.Proofs.ltOf cmpM x y = false) (h2 : Go.Proofs.ltOf cmpM y x = false) : x = y := by
  have e' : ∀ x y, Go.Proofs.ltOf cmpM x y = false ↔ ¬ cmpM x y < 0 := fun x y => by simp [Go.Proofs.ltOf]
  rw [e', cmpM_lt] at h1 h2
  obtain ⟨a, b, c, _⟩ := x; obtain ⟨a', b', c', _⟩ := y
  simp only at h1 h2
  have : a = a' ∧ b = b' ∧ c = c' := by omega
  obtain ⟨rfl, rfl, rfl⟩ := this
  rfl
theorem f56_ok [Dr] (k : Nat) : FnOK Try.prog G0 56 (f56_sig k) := by
  by_cases hk : 5 ≤ k
  · obtain ⟨j, rfl⟩ : ∃ j, k = j + 5 := ⟨k - 5, by omega⟩
    refine FnOK.weak (sortfunc_ok (ρ := sortMv_ren) sortMv (.pair (.int .i64) (.pair (.int .i64) (.pair (.int .i64) (.unit)))) rfl rfl Try.isAgg54 Try.sizeOf54 Try.call56 (@f57_ok ⟨True⟩ (j + 5)) cmpM (fun x y => cmpM_eq j x y) mv_swo mv_tot) (fun x y h => ?_)
    have h2 := cond_some (show (bif Nat.ble 5 (j + 5) && decide (List.length (α := Int × Int × Int × Unit) x.1 < 4611686018427387904) then some (List.mergeSort (α := Int × Int × Int × Unit) x.1 (fun x y => !mvLt y x), ()) else none) = some y from h)
    have h3 := ((Bool.and_eq_true _ _).mp h2.1).2
    show (bif decide (List.length (α := Int × Int × Int × Unit) x.1 < 4611686018427387904) then _ else none) = some y
    rw [h3]
    exact h2.2
  · refine fn_none Try.call56 (fun x => ?_)
    show (bif Nat.ble 5 k && _ then _ else none) = none
    rw [show Nat.ble 5 k = false from by cases h : Nat.ble 5 k; rfl; exact absurd (Nat.le_of_ble_eq_true h) hk]
    rfl


/-! ### slices.Compact[[]gamehall/api.Move,gamehall/api.Move]: function 58 -/
noncomputable def l58_9 (k : Nat) : Nat → (List (Int × Int × Int × Unit)) → Int → (Int × Int) → Int → Option (((List (Int × Int × Int × Unit)) × Int × Unit))
  | 0, _, _, _, _ => none
  | j + 1, s0, s3, s4, s5 =>
    bif decide (s5 < ((s4.2.toNat : Nat) : Int)) then
      bif decide (0 ≤ s5) && decide (s5 < ((s4.2.toNat : Nat) : Int)) then
        bif decide (0 ≤ (w64 (s5 - 1))) && decide ((w64 (s5 - 1)) < ((s4.2.toNat : Nat) : Int)) then
          bif !(((rd ((0, 0, 0, ()) : Int × Int × Int × Unit) s0 (((s4.1.toNat : Nat) : Int) + s5)).1 == (rd ((0, 0, 0, ()) : Int × Int × Int × Unit) s0 (((s4.1.toNat : Nat) : Int) + (w64 (s5 - 1)))).1) && (((rd ((0, 0, 0, ()) : Int × Int × Int × Unit) s0 (((s4.1.toNat : Nat) : Int) + s5)).2.1 == (rd ((0, 0, 0, ()) : Int × Int × Int × Unit) s0 (((s4.1.toNat : Nat) : Int) + (w64 (s5 - 1)))).2.1) && (((rd ((0, 0, 0, ()) : Int × Int × Int × Unit) s0 (((s4.1.toNat : Nat) : Int) + s5)).2.2.1 == (rd ((0, 0, 0, ()) : Int × Int × Int × Unit) s0 (((s4.1.toNat : Nat) : Int) + (w64 (s5 - 1)))).2.2.1) && true))) then
            bif decide (0 ≤ s5) && decide (s5 < ((s4.2.toNat : Nat) : Int)) then
              bif decide (0 ≤ s3) && decide (s3 < (s0.length : Int)) then
                l58_9 k j (s0.set s3.toNat (rd ((0, 0, 0, ()) : Int × Int × Int × Unit) s0 (((s4.1.toNat : Nat) : Int) + s5))) (w64 (s3 + 1)) (((s4.1.toNat : Nat) : Int), ((s4.2.toNat : Nat) : Int)) (w64 (s5 + 1))
              else
                none
            else
              none
          else
            l58_9 k j s0 s3 (((s4.1.toNat : Nat) : Int), ((s4.2.toNat : Nat) : Int)) (w64 (s5 + 1))
        else
          none
      else
        none
    else
      some (s0, s3, ())
noncomputable def l58_9_sig (k : Nat) : LoopSig := ⟨[(0, .obj (.row (.pair (.int .i64) (.pair (.int .i64) (.pair (.int .i64) (.unit)))))), (3, .obj (.val (.int .i64))), (4, .win 0 3), (5, .obj (.val (.int .i64)))], [(.exit 2, [(0, .obj (.row (.pair (.int .i64) (.pair (.int .i64) (.pair (.int .i64) (.unit)))))), (3, .obj (.val (.int .i64)))])], fun j x => l58_9 k j x.1 x.2.1 x.2.2.1 x.2.2.2.1⟩
noncomputable def l58_4 (k : Nat) : Nat → (List (Int × Int × Int × Unit)) → Int → Option (((List (Int × Int × Int × Unit)) × Unit) ⊕ ((List (Int × Int × Int × Unit)) × (List (Int × Int × Int × Unit)) × Unit))
  | 0, _, _ => none
  | j + 1, s0, s3 =>
    bif decide (s3 < (s0.length : Int)) then
      bif decide (0 ≤ s3) && decide (s3 < (s0.length : Int)) then
        bif decide (0 ≤ (w64 (s3 - 1))) && decide ((w64 (s3 - 1)) < (s0.length : Int)) then
          bif ((rd ((0, 0, 0, ()) : Int × Int × Int × Unit) s0 s3).1 == (rd ((0, 0, 0, ()) : Int × Int × Int × Unit) s0 (w64 (s3 - 1))).1) && (((rd ((0, 0, 0, ()) : Int × Int × Int × Unit) s0 s3).2.1 == (rd ((0, 0, 0, ()) : Int × Int × Int × Unit) s0 (w64 (s3 - 1))).2.1) && (((rd ((0, 0, 0, ()) : Int × Int × Int × Unit) s0 s3).2.2.1 == (rd ((0, 0, 0, ()) : Int × Int × Int × Unit) s0 (w64 (s3 - 1))).2.2.1) && true)) then
            bif decide (0 ≤ s3) && (decide (s3 ≤ (s0.length : Int)) && decide ((s0.length : Int) ≤ (s0.length : Int))) then
              (l58_9 k k s0 s3 (((s3.toNat : Nat) : Int), ((((s0.length : Int) - s3).toNat : Nat) : Int)) 1).bind fun o1 =>
              bif decide (0 ≤ o1.2.1) && (decide (o1.2.1 ≤ (o1.1.length : Int)) && decide ((o1.1.length : Int) ≤ (o1.1.length : Int))) then
                bif Nat.ble (o1.2.1.toNat + ((o1.1.length : Int) - o1.2.1).toNat) o1.1.length then
                  bif decide (0 ≤ o1.2.1) && decide (o1.2.1 ≤ ((o1.1.take o1.2.1.toNat ++ (List.replicate ((o1.1.length : Int) - o1.2.1).toNat ((0, 0, 0, ()) : Int × Int × Int × Unit) ++ o1.1.drop (o1.2.1.toNat + ((o1.1.length : Int) - o1.2.1).toNat))).length : Int)) then
                    some (.inr (o1.1.take o1.2.1.toNat ++ (List.replicate ((o1.1.length : Int) - o1.2.1).toNat ((0, 0, 0, ()) : Int × Int × Int × Unit) ++ o1.1.drop (o1.2.1.toNat + ((o1.1.length : Int) - o1.2.1).toNat)), first o1.2.1.toNat (o1.1.take o1.2.1.toNat ++ (List.replicate ((o1.1.length : Int) - o1.2.1).toNat ((0, 0, 0, ()) : Int × Int × Int × Unit) ++ o1.1.drop (o1.2.1.toNat + ((o1.1.length : Int) - o1.2.1).toNat))), ()))
                  else
                    none
                else
                  none
              else
                none
            else
              none
          else
            l58_4 k j s0 (w64 (s3 + 1))
        else
          none
      else
        none
    else
      some (.inl (s0, ()))
noncomputable def l58_4_sig (k : Nat) : LoopSig := ⟨[(0, .obj (.row (.pair (.int .i64) (.pair (.int .i64) (.pair (.int .i64) (.unit)))))), (3, .obj (.val (.int .i64)))], [(.exit 0, [(0, .obj (.row (.pair (.int .i64) (.pair (.int .i64) (.pair (.int .i64) (.unit))))))]), (.ret, [(0, .obj (.val (.sl (.pair (.int .i64) (.pair (.int .i64) (.pair (.int .i64) (.unit))))))), (2, .obj (.val (.sl (.pair (.int .i64) (.pair (.int .i64) (.pair (.int .i64) (.unit)))))))])], fun j x => l58_4 k j x.1 x.2.1⟩
noncomputable def f58 (k : Nat) (x0 : List (Int × Int × Int × Unit)) : Option (((List (Int × Int × Int × Unit)) × (List (Int × Int × Int × Unit)) × Unit)) :=
  bif decide ((x0.length : Int) < 2) then
    some (x0, x0, ())
  else
    (l58_4 k k x0 1).bind fun w18 =>
    Sum.elim
      (fun y1 =>
        some (y1.1, y1))
      (fun y2 =>
        some (y2.2.1, y2.1, ()))
      w18
noncomputable def f58_sig (k : Nat) : Sig := ⟨[.row (.pair (.int .i64) (.pair (.int .i64) (.pair (.int .i64) (.unit))))], [0], [[.val (.sl (.pair (.int .i64) (.pair (.int .i64) (.pair (.int .i64) (.unit))))), .val (.sl (.pair (.int .i64) (.pair (.int .i64) (.pair (.int .i64) (.unit)))))]], fun x => f58 k x.1⟩
noncomputable def E_f58 (k : Nat) : Env := ⟨Try.prog, G0, snil, tcons 4 (l58_4_sig k) (tcons 9 (l58_9_sig k) (tnil)), tnil, unil, k, qnil⟩
theorem l58_4_ok (k : Nat) : LoopOK (E_f58 k) ⟨Try.f58.ntmps, [0], G0⟩ (nthC 0 (loopsIn (Try.f58.body.getD .skip))) :=
  loop_ok (ls := l58_4_sig k) (by kernel_rfl) (fun _ => by kernel_rfl) (fun j x => by kernel_rfl)
theorem l58_9_ok (k : Nat) : LoopOK (E_f58 k) ⟨Try.f58.ntmps, [0], G0⟩ (nthC 1 (loopsIn (Try.f58.body.getD .skip))) :=
  loop_ok (ls := l58_9_sig k) (by kernel_rfl) (fun _ => by kernel_rfl) (fun j x => by kernel_rfl)
theorem f58_run (k : Nat) (x : (lTy (lay 0 (f58_sig k).ins)).den) : runF (E_f58 k) Try.f58 (f58_sig k) x = (f58_sig k).F x := by kernel_rfl
theorem f58_ok [Dr] (k : Nat) : FnOK Try.prog G0 58 (f58_sig k) :=
  fn_ok2 (E := E_f58 k) (env_nil) (qenv_nil) mixed Try.func58 Try.call58 (by kernel_rfl) (by kernel_rfl) (m := 2) (by kernel_rfl) ⟨⟨trivial, l58_4_ok k⟩, l58_9_ok k⟩ (sk := []) (by kernel_rfl) trivial (f58_run k)

/-! ### gamehall/moves.Gen: function 42 -/
noncomputable def l42_6 (k : Nat) : Nat → (ByteArray × Int × Int × (List (Int × Int × Int × (List (Int × Int × Int × Int × Unit)) × Unit)) × (List Int) × Bool × Bool × (List (Int × Int × Int × Bool × Unit)) × Int × Int × Int × Unit) → ((List Int) × ((List Int) × (List Int) × Unit) × Int × Int × Unit) → (List (Int × Int × Int × Unit)) → Int → Int → (List Int) → Int → Int → Int → Int → Option (((ByteArray × Int × Int × (List (Int × Int × Int × (List (Int × Int × Int × Int × Unit)) × Unit)) × (List Int) × Bool × Bool × (List (Int × Int × Int × Bool × Unit)) × Int × Int × Int × Unit) × ((List Int) × ((List Int) × (List Int) × Unit) × Int × Int × Unit) × (List (Int × Int × Int × Unit)) × (List Int) × Int × Int × Unit))
  | 0, _, _, _, _, _, _, _, _, _, _ => none
  | j + 1, s2, s3, s5, s6, s7, s17, s18, s19, s26, s27 =>
    bif decide (s27 < s26) then
      bif decide (s7 > 0) then
        (f53 k s2 s3 s27).bind fun r1 =>
        bif r1.1 then
          bif decide ((s5.length + ([((-1), s27, s6, ())] : List (Int × Int × Int × Unit)).length) * 24 ≤ roomN) then
            l42_6 k j s2 s3 (s5 ++ [((-1), s27, s6, ())]) s6 s7 s17 s18 s19 s26 (w64 (s27 + 1))
          else
            none
        else
          l42_6 k j s2 s3 s5 s6 s7 s17 s18 s19 s26 (w64 (s27 + 1))
      else
        l42_6 k j s2 s3 s5 s6 s7 s17 s18 s19 s26 (w64 (s27 + 1))
    else
      some (s2, s3, s5, s17, s18, s19, ())
noncomputable def l42_6_sig (k : Nat) : LoopSig := ⟨[(2, .obj (.box (.val (.pair (.str) (.pair (.int .i64) (.pair (.int .i64) (.pair (.sl (.pair (.int .u8) (.pair (.int .i64) (.pair (.int .i64) (.pair (.sl (.pair (.int .i64) (.pair (.int .i64) (.pair (.int .i64) (.pair (.int .i64) (.unit)))))) (.unit)))))) (.pair (.sl (.int .i64)) (.pair (.bool) (.pair (.bool) (.pair (.sl (.pair (.int .i64) (.pair (.int .i64) (.pair (.int .i64) (.pair (.bool) (.unit)))))) (.pair (.int .i64) (.pair (.int .i64) (.pair (.int .i64) (.unit))))))))))))))), (3, .obj (.box (.val (.pair (.sl (.int .i64)) (.pair (.pair (.sl (.int .i64)) (.pair (.sl (.int .i64)) (.unit))) (.pair (.int .i64) (.pair (.int .i64) (.unit)))))))), (5, .obj (.row (.pair (.int .i64) (.pair (.int .i64) (.pair (.int .i64) (.unit)))))), (6, .obj (.val (.int .i64))), (7, .obj (.val (.int .i64))), (17, .obj (.val (.sl (.int .i64)))), (18, .obj (.val (.int .i64))), (19, .obj (.val (.int .i64))), (26, .obj (.val (.int .i64))), (27, .obj (.val (.int .i64)))], [(.exit 2, [(2, .obj (.box (.val (.pair (.str) (.pair (.int .i64) (.pair (.int .i64) (.pair (.sl (.pair (.int .u8) (.pair (.int .i64) (.pair (.int .i64) (.pair (.sl (.pair (.int .i64) (.pair (.int .i64) (.pair (.int .i64) (.pair (.int .i64) (.unit)))))) (.unit)))))) (.pair (.sl (.int .i64)) (.pair (.bool) (.pair (.bool) (.pair (.sl (.pair (.int .i64) (.pair (.int .i64) (.pair (.int .i64) (.pair (.bool) (.unit)))))) (.pair (.int .i64) (.pair (.int .i64) (.pair (.int .i64) (.unit))))))))))))))), (3, .obj (.box (.val (.pair (.sl (.int .i64)) (.pair (.pair (.sl (.int .i64)) (.pair (.sl (.int .i64)) (.unit))) (.pair (.int .i64) (.pair (.int .i64) (.unit)))))))), (5, .obj (.row (.pair (.int .i64) (.pair (.int .i64) (.pair (.int .i64) (.unit)))))), (17, .obj (.val (.sl (.int .i64)))), (18, .obj (.val (.int .i64))), (19, .obj (.val (.int .i64)))])], fun j x => l42_6 k j x.1 x.2.1 x.2.2.1 x.2.2.2.1 x.2.2.2.2.1 x.2.2.2.2.2.1 x.2.2.2.2.2.2.1 x.2.2.2.2.2.2.2.1 x.2.2.2.2.2.2.2.2.1 x.2.2.2.2.2.2.2.2.2.1⟩
noncomputable def l42_3 (k : Nat) : Nat → (ByteArray × Int × Int × (List (Int × Int × Int × (List (Int × Int × Int × Int × Unit)) × Unit)) × (List Int) × Bool × Bool × (List (Int × Int × Int × Bool × Unit)) × Int × Int × Int × Unit) → ((List Int) × ((List Int) × (List Int) × Unit) × Int × Int × Unit) → (List (Int × Int × Int × Unit)) → (List Int) → Int → Int → Option (((ByteArray × Int × Int × (List (Int × Int × Int × (List (Int × Int × Int × Int × Unit)) × Unit)) × (List Int) × Bool × Bool × (List (Int × Int × Int × Bool × Unit)) × Int × Int × Int × Unit) × ((List Int) × ((List Int) × (List Int) × Unit) × Int × Int × Unit) × (List (Int × Int × Int × Unit)) × Unit))
  | 0, _, _, _, _, _, _ => none
  | j + 1, s2, s3, s5, s17, s18, s19 =>
    bif decide (s19 < s18) then
      bif decide (0 ≤ s19) && decide (s19 < (s17.length : Int)) then
        (l42_6 k k s2 s3 s5 s19 (rd (0 : Int) s17 s19) s17 s18 s19 (s3.1.length : Int) 0).bind fun o1 =>
        l42_3 k j o1.1 o1.2.1 o1.2.2.1 o1.2.2.2.1 o1.2.2.2.2.1 (w64 (o1.2.2.2.2.2.1 + 1))
      else
        none
    else
      some (s2, s3, s5, ())
noncomputable def l42_3_sig (k : Nat) : LoopSig := ⟨[(2, .obj (.box (.val (.pair (.str) (.pair (.int .i64) (.pair (.int .i64) (.pair (.sl (.pair (.int .u8) (.pair (.int .i64) (.pair (.int .i64) (.pair (.sl (.pair (.int .i64) (.pair (.int .i64) (.pair (.int .i64) (.pair (.int .i64) (.unit)))))) (.unit)))))) (.pair (.sl (.int .i64)) (.pair (.bool) (.pair (.bool) (.pair (.sl (.pair (.int .i64) (.pair (.int .i64) (.pair (.int .i64) (.pair (.bool) (.unit)))))) (.pair (.int .i64) (.pair (.int .i64) (.pair (.int .i64) (.unit))))))))))))))), (3, .obj (.box (.val (.pair (.sl (.int .i64)) (.pair (.pair (.sl (.int .i64)) (.pair (.sl (.int .i64)) (.unit))) (.pair (.int .i64) (.pair (.int .i64) (.unit)))))))), (5, .obj (.row (.pair (.int .i64) (.pair (.int .i64) (.pair (.int .i64) (.unit)))))), (17, .obj (.val (.sl (.int .i64)))), (18, .obj (.val (.int .i64))), (19, .obj (.val (.int .i64)))], [(.exit 0, [(2, .obj (.box (.val (.pair (.str) (.pair (.int .i64) (.pair (.int .i64) (.pair (.sl (.pair (.int .u8) (.pair (.int .i64) (.pair (.int .i64) (.pair (.sl (.pair (.int .i64) (.pair (.int .i64) (.pair (.int .i64) (.pair (.int .i64) (.unit)))))) (.unit)))))) (.pair (.sl (.int .i64)) (.pair (.bool) (.pair (.bool) (.pair (.sl (.pair (.int .i64) (.pair (.int .i64) (.pair (.int .i64) (.pair (.bool) (.unit)))))) (.pair (.int .i64) (.pair (.int .i64) (.pair (.int .i64) (.unit))))))))))))))), (3, .obj (.box (.val (.pair (.sl (.int .i64)) (.pair (.pair (.sl (.int .i64)) (.pair (.sl (.int .i64)) (.unit))) (.pair (.int .i64) (.pair (.int .i64) (.unit)))))))), (5, .obj (.row (.pair (.int .i64) (.pair (.int .i64) (.pair (.int .i64) (.unit))))))])], fun j x => l42_3 k j x.1 x.2.1 x.2.2.1 x.2.2.2.1 x.2.2.2.2.1 x.2.2.2.2.2.1⟩
noncomputable def l42_17 (k : Nat) : Nat → (ByteArray × Int × Int × (List (Int × Int × Int × (List (Int × Int × Int × Int × Unit)) × Unit)) × (List Int) × Bool × Bool × (List (Int × Int × Int × Bool × Unit)) × Int × Int × Int × Unit) → ((List Int) × ((List Int) × (List Int) × Unit) × Int × Int × Unit) → (List (Int × Int × Int × Unit)) → Int → (List Int) → Int → Int → (List (Int × Int × Int × Int × Unit)) → Int → Int → Option (((ByteArray × Int × Int × (List (Int × Int × Int × (List (Int × Int × Int × Int × Unit)) × Unit)) × (List Int) × Bool × Bool × (List (Int × Int × Int × Bool × Unit)) × Int × Int × Int × Unit) × ((List Int) × ((List Int) × (List Int) × Unit) × Int × Int × Unit) × (List (Int × Int × Int × Unit)) × (List Int) × Int × Int × Unit))
  | 0, _, _, _, _, _, _, _, _, _, _ => none
  | j + 1, s2, s3, s5, s9, s47, s48, s49, s65, s66, s67 =>
    bif decide (s67 < s66) then
      bif decide (0 ≤ s67) && decide (s67 < (s65.length : Int)) then
        (f55 k s5 s2 s3 s9 (rd ((0, 0, 0, 0, ()) : Int × Int × Int × Int × Unit) s65 s67)).bind fun r1 =>
        l42_17 k j s2 s3 r1.1 s9 s47 s48 s49 s65 s66 (w64 (s67 + 1))
      else
        none
    else
      some (s2, s3, s5, s47, s48, s49, ())
noncomputable def l42_17_sig (k : Nat) : LoopSig := ⟨[(2, .obj (.box (.val (.pair (.str) (.pair (.int .i64) (.pair (.int .i64) (.pair (.sl (.pair (.int .u8) (.pair (.int .i64) (.pair (.int .i64) (.pair (.sl (.pair (.int .i64) (.pair (.int .i64) (.pair (.int .i64) (.pair (.int .i64) (.unit)))))) (.unit)))))) (.pair (.sl (.int .i64)) (.pair (.bool) (.pair (.bool) (.pair (.sl (.pair (.int .i64) (.pair (.int .i64) (.pair (.int .i64) (.pair (.bool) (.unit)))))) (.pair (.int .i64) (.pair (.int .i64) (.pair (.int .i64) (.unit))))))))))))))), (3, .obj (.box (.val (.pair (.sl (.int .i64)) (.pair (.pair (.sl (.int .i64)) (.pair (.sl (.int .i64)) (.unit))) (.pair (.int .i64) (.pair (.int .i64) (.unit)))))))), (5, .obj (.row (.pair (.int .i64) (.pair (.int .i64) (.pair (.int .i64) (.unit)))))), (9, .obj (.val (.int .i64))), (47, .obj (.val (.sl (.int .i64)))), (48, .obj (.val (.int .i64))), (49, .obj (.val (.int .i64))), (65, .obj (.val (.sl (.pair (.int .i64) (.pair (.int .i64) (.pair (.int .i64) (.pair (.int .i64) (.unit)))))))), (66, .obj (.val (.int .i64))), (67, .obj (.val (.int .i64)))], [(.exit 6, [(2, .obj (.box (.val (.pair (.str) (.pair (.int .i64) (.pair (.int .i64) (.pair (.sl (.pair (.int .u8) (.pair (.int .i64) (.pair (.int .i64) (.pair (.sl (.pair (.int .i64) (.pair (.int .i64) (.pair (.int .i64) (.pair (.int .i64) (.unit)))))) (.unit)))))) (.pair (.sl (.int .i64)) (.pair (.bool) (.pair (.bool) (.pair (.sl (.pair (.int .i64) (.pair (.int .i64) (.pair (.int .i64) (.pair (.bool) (.unit)))))) (.pair (.int .i64) (.pair (.int .i64) (.pair (.int .i64) (.unit))))))))))))))), (3, .obj (.box (.val (.pair (.sl (.int .i64)) (.pair (.pair (.sl (.int .i64)) (.pair (.sl (.int .i64)) (.unit))) (.pair (.int .i64) (.pair (.int .i64) (.unit)))))))), (5, .obj (.row (.pair (.int .i64) (.pair (.int .i64) (.pair (.int .i64) (.unit)))))), (47, .obj (.val (.sl (.int .i64)))), (48, .obj (.val (.int .i64))), (49, .obj (.val (.int .i64)))])], fun j x => l42_17 k j x.1 x.2.1 x.2.2.1 x.2.2.2.1 x.2.2.2.2.1 x.2.2.2.2.2.1 x.2.2.2.2.2.2.1 x.2.2.2.2.2.2.2.1 x.2.2.2.2.2.2.2.2.1 x.2.2.2.2.2.2.2.2.2.1⟩
noncomputable def l42_13 (k : Nat) : Nat → (ByteArray × Int × Int × (List (Int × Int × Int × (List (Int × Int × Int × Int × Unit)) × Unit)) × (List Int) × Bool × Bool × (List (Int × Int × Int × Bool × Unit)) × Int × Int × Int × Unit) → ((List Int) × ((List Int) × (List Int) × Unit) × Int × Int × Unit) → (List (Int × Int × Int × Unit)) → (List Int) → Int → Int → Option (((List (Int × Int × Int × Unit)) × Unit))
  | 0, _, _, _, _, _, _ => none
  | j + 1, s2, s3, s5, s47, s48, s49 =>
    bif decide (s49 < s48) then
      bif decide (0 ≤ s49) && decide (s49 < (s47.length : Int)) then
        (f54 k (rd (0 : Int) s47 s49)).bind fun r1 =>
        bif r1.1 == s3.2.2.1 then
          (f49 k (rd (0 : Int) s47 s49)).bind fun r2 =>
          bif decide (0 ≤ r2.1) && decide (r2.1 < (s2.2.2.2.1.length : Int)) then
            (l42_17 k k s2 s3 s5 s49 s47 s48 s49 (rd ((0, 0, 0, [], ()) : Int × Int × Int × (List (Int × Int × Int × Int × Unit)) × Unit) s2.2.2.2.1 r2.1).2.2.2.1 ((rd ((0, 0, 0, [], ()) : Int × Int × Int × (List (Int × Int × Int × Int × Unit)) × Unit) s2.2.2.2.1 r2.1).2.2.2.1.length : Int) 0).bind fun o3 =>
            l42_13 k j o3.1 o3.2.1 o3.2.2.1 o3.2.2.2.1 o3.2.2.2.2.1 (w64 (o3.2.2.2.2.2.1 + 1))
          else
            none
        else
          l42_13 k j s2 s3 s5 s47 s48 (w64 (s49 + 1))
      else
        none
    else
      some (s5, ())
noncomputable def l42_13_sig (k : Nat) : LoopSig := ⟨[(2, .obj (.box (.val (.pair (.str) (.pair (.int .i64) (.pair (.int .i64) (.pair (.sl (.pair (.int .u8) (.pair (.int .i64) (.pair (.int .i64) (.pair (.sl (.pair (.int .i64) (.pair (.int .i64) (.pair (.int .i64) (.pair (.int .i64) (.unit)))))) (.unit)))))) (.pair (.sl (.int .i64)) (.pair (.bool) (.pair (.bool) (.pair (.sl (.pair (.int .i64) (.pair (.int .i64) (.pair (.int .i64) (.pair (.bool) (.unit)))))) (.pair (.int .i64) (.pair (.int .i64) (.pair (.int .i64) (.unit))))))))))))))), (3, .obj (.box (.val (.pair (.sl (.int .i64)) (.pair (.pair (.sl (.int .i64)) (.pair (.sl (.int .i64)) (.unit))) (.pair (.int .i64) (.pair (.int .i64) (.unit)))))))), (5, .obj (.row (.pair (.int .i64) (.pair (.int .i64) (.pair (.int .i64) (.unit)))))), (47, .obj (.val (.sl (.int .i64)))), (48, .obj (.val (.int .i64))), (49, .obj (.val (.int .i64)))], [(.exit 4, [(5, .obj (.row (.pair (.int .i64) (.pair (.int .i64) (.pair (.int .i64) (.unit))))))])], fun j x => l42_13 k j x.1 x.2.1 x.2.2.1 x.2.2.2.1 x.2.2.2.2.1 x.2.2.2.2.2.1⟩
noncomputable def f42 (k : Nat) (x0 : ByteArray × Int × Int × (List (Int × Int × Int × (List (Int × Int × Int × Int × Unit)) × Unit)) × (List Int) × Bool × Bool × (List (Int × Int × Int × Bool × Unit)) × Int × Int × Int × Unit) (x1 : (List Int) × ((List Int) × (List Int) × Unit) × Int × Int × Unit) : Option (((List (Int × Int × Int × Unit)) × Unit)) :=
  bif x1.2.2.1 == 0 then
    (l42_3 k k x0 x1 [] x1.2.1.1 (x1.2.1.1.length : Int) 0).bind fun o1 =>
    (l42_13 k k o1.1 o1.2.1 o1.2.2.1 o1.2.1.1 (o1.2.1.1.length : Int) 0).bind fun o2 =>
    (f56 k o2.1).bind fun r3 =>
    (f58 k r3.1).bind fun r4 =>
    some (r4.1, ())
  else
  bif x1.2.2.1 == 1 then
    (l42_3 k k x0 x1 [] x1.2.1.2.1 (x1.2.1.2.1.length : Int) 0).bind fun o5 =>
    (l42_13 k k o5.1 o5.2.1 o5.2.2.1 o5.2.1.1 (o5.2.1.1.length : Int) 0).bind fun o6 =>
    (f56 k o6.1).bind fun r7 =>
    (f58 k r7.1).bind fun r8 =>
    some (r8.1, ())
  else
    none
noncomputable def f42_sig (k : Nat) : Sig := ⟨[.val (.pair (.str) (.pair (.int .i64) (.pair (.int .i64) (.pair (.sl (.pair (.int .u8) (.pair (.int .i64) (.pair (.int .i64) (.pair (.sl (.pair (.int .i64) (.pair (.int .i64) (.pair (.int .i64) (.pair (.int .i64) (.unit)))))) (.unit)))))) (.pair (.sl (.int .i64)) (.pair (.bool) (.pair (.bool) (.pair (.sl (.pair (.int .i64) (.pair (.int .i64) (.pair (.int .i64) (.pair (.bool) (.unit)))))) (.pair (.int .i64) (.pair (.int .i64) (.pair (.int .i64) (.unit)))))))))))), .val (.pair (.sl (.int .i64)) (.pair (.pair (.sl (.int .i64)) (.pair (.sl (.int .i64)) (.unit))) (.pair (.int .i64) (.pair (.int .i64) (.unit)))))], [], [[.val (.sl (.pair (.int .i64) (.pair (.int .i64) (.pair (.int .i64) (.unit)))))]], fun x => f42 k x.1 x.2.1⟩
noncomputable def E_f42 (k : Nat) : Env := ⟨Try.prog, G0, scons 58 [f58_sig k] (scons 56 [f56_sig k] (scons 55 [f55_sig k] (scons 54 [f54_sig k] (scons 53 [f53_sig k] (scons 49 [f49_sig k] (snil)))))), tcons 13 (l42_13_sig k) (tcons 17 (l42_17_sig k) (tcons 3 (l42_3_sig k) (tcons 6 (l42_6_sig k) (tnil)))), tnil, unil, k, qnil⟩
theorem l42_3_ok (k : Nat) : LoopOK (E_f42 k) ⟨Try.f42.ntmps, [], G0⟩ (nthC 0 (loopsIn (Try.f42.body.getD .skip))) :=
  loop_ok (ls := l42_3_sig k) (by kernel_rfl) (fun _ => by kernel_rfl) (fun j x => by kernel_rfl)
theorem l42_6_ok (k : Nat) : LoopOK (E_f42 k) ⟨Try.f42.ntmps, [], G0⟩ (nthC 1 (loopsIn (Try.f42.body.getD .skip))) :=
  loop_ok (ls := l42_6_sig k) (by kernel_rfl) (fun _ => by kernel_rfl) (fun j x => by kernel_rfl)
theorem l42_13_ok (k : Nat) : LoopOK (E_f42 k) ⟨Try.f42.ntmps, [], G0⟩ (nthC 2 (loopsIn (Try.f42.body.getD .skip))) :=
  loop_ok (ls := l42_13_sig k) (by kernel_rfl) (fun _ => by kernel_rfl) (fun j x => by kernel_rfl)
theorem l42_17_ok (k : Nat) : LoopOK (E_f42 k) ⟨Try.f42.ntmps, [], G0⟩ (nthC 3 (loopsIn (Try.f42.body.getD .skip))) :=
  loop_ok (ls := l42_17_sig k) (by kernel_rfl) (fun _ => by kernel_rfl) (fun j x => by kernel_rfl)
theorem f42_run (k : Nat) (x : (lTy (lay 0 (f42_sig k).ins)).den) : runF (E_f42 k) Try.f42 (f42_sig k) x = (f42_sig k).F x := by kernel_rfl
theorem f42_ok [Dr] (k : Nat) : FnOK Try.prog G0 42 (f42_sig k) :=
  fn_ok2 (E := E_f42 k) (env_cons (one_sig (f58_ok k)) (env_cons (one_sig (f56_ok k)) (env_cons (one_sig (f55_ok k)) (env_cons (one_sig (f54_ok k)) (env_cons (one_sig (f53_ok k)) (env_cons (one_sig (f49_ok k)) (env_nil))))))) (qenv_nil) mixed Try.func42 Try.call42 (by kernel_rfl) (by kernel_rfl) (m := 4) (by kernel_rfl) ⟨⟨⟨⟨trivial, l42_3_ok k⟩, l42_6_ok k⟩, l42_13_ok k⟩, l42_17_ok k⟩ (sk := []) (by kernel_rfl) trivial (f42_run k)

/-! ### gamehall/ends.Result: function 32 -/
noncomputable def l32_3 (k : Nat) : Nat → (ByteArray × Int × Int × (List (Int × Int × Int × (List (Int × Int × Int × Int × Unit)) × Unit)) × (List Int) × Bool × Bool × (List (Int × Int × Int × Bool × Unit)) × Int × Int × Int × Unit) → ((List Int) × ((List Int) × (List Int) × Unit) × Int × Int × Unit) → Int → (List (Int × Int × Int × Bool × Unit)) → Int → Int → Option (((ByteArray × Int × Int × (List (Int × Int × Int × (List (Int × Int × Int × Int × Unit)) × Unit)) × (List Int) × Bool × Bool × (List (Int × Int × Int × Bool × Unit)) × Int × Int × Int × Unit) × ((List Int) × ((List Int) × (List Int) × Unit) × Int × Int × Unit) × Int × Unit) ⊕ (Int × Unit))
  | 0, _, _, _, _, _, _ => none
  | j + 1, s2, s3, s5, s12, s13, s14 =>
    bif decide (s14 < s13) then
      bif decide (0 ≤ s14) && decide (s14 < (s12.length : Int)) then
        (f40 k s2 s3 (rd ((0, 0, 0, false, ()) : Int × Int × Int × Bool × Unit) s12 s14)).bind fun r1 =>
        bif r1.1 then
          bif (rd ((0, 0, 0, false, ()) : Int × Int × Int × Bool × Unit) s12 s14).2.2.2.1 then
            (f41 k s3.2.2.1).bind fun r2 =>
            some (.inr r2)
          else
            (f41 k s5).bind fun r3 =>
            some (.inr r3)
        else
          l32_3 k j s2 s3 s5 s12 s13 (w64 (s14 + 1))
      else
        none
    else
      some (.inl (s2, s3, s5, ()))
noncomputable def l32_3_sig (k : Nat) : LoopSig := ⟨[(2, .obj (.box (.val (.pair (.str) (.pair (.int .i64) (.pair (.int .i64) (.pair (.sl (.pair (.int .u8) (.pair (.int .i64) (.pair (.int .i64) (.pair (.sl (.pair (.int .i64) (.pair (.int .i64) (.pair (.int .i64) (.pair (.int .i64) (.unit)))))) (.unit)))))) (.pair (.sl (.int .i64)) (.pair (.bool) (.pair (.bool) (.pair (.sl (.pair (.int .i64) (.pair (.int .i64) (.pair (.int .i64) (.pair (.bool) (.unit)))))) (.pair (.int .i64) (.pair (.int .i64) (.pair (.int .i64) (.unit))))))))))))))), (3, .obj (.box (.val (.pair (.sl (.int .i64)) (.pair (.pair (.sl (.int .i64)) (.pair (.sl (.int .i64)) (.unit))) (.pair (.int .i64) (.pair (.int .i64) (.unit)))))))), (5, .obj (.val (.int .i64))), (12, .obj (.val (.sl (.pair (.int .i64) (.pair (.int .i64) (.pair (.int .i64) (.pair (.bool) (.unit)))))))), (13, .obj (.val (.int .i64))), (14, .obj (.val (.int .i64)))], [(.exit 0, [(2, .obj (.box (.val (.pair (.str) (.pair (.int .i64) (.pair (.int .i64) (.pair (.sl (.pair (.int .u8) (.pair (.int .i64) (.pair (.int .i64) (.pair (.sl (.pair (.int .i64) (.pair (.int .i64) (.pair (.int .i64) (.pair (.int .i64) (.unit)))))) (.unit)))))) (.pair (.sl (.int .i64)) (.pair (.bool) (.pair (.bool) (.pair (.sl (.pair (.int .i64) (.pair (.int .i64) (.pair (.int .i64) (.pair (.bool) (.unit)))))) (.pair (.int .i64) (.pair (.int .i64) (.pair (.int .i64) (.unit))))))))))))))), (3, .obj (.box (.val (.pair (.sl (.int .i64)) (.pair (.pair (.sl (.int .i64)) (.pair (.sl (.int .i64)) (.unit))) (.pair (.int .i64) (.pair (.int .i64) (.unit)))))))), (5, .obj (.val (.int .i64)))]), (.ret, [(4, .obj (.val (.int .i64)))])], fun j x => l32_3 k j x.1 x.2.1 x.2.2.1 x.2.2.2.1 x.2.2.2.2.1 x.2.2.2.2.2.1⟩
noncomputable def f32 (k : Nat) (x0 : ByteArray × Int × Int × (List (Int × Int × Int × (List (Int × Int × Int × Int × Unit)) × Unit)) × (List Int) × Bool × Bool × (List (Int × Int × Int × Bool × Unit)) × Int × Int × Int × Unit) (x1 : (List Int) × ((List Int) × (List Int) × Unit) × Int × Int × Unit) : Option ((Int × Unit)) :=
  (l32_3 k k x0 x1 (w64 (1 - x1.2.2.1)) x0.2.2.2.2.2.2.2.1 (x0.2.2.2.2.2.2.2.1.length : Int) 0).bind fun w19 =>
  Sum.elim
    (fun y1 =>
      bif decide (y1.1.2.2.2.2.2.2.2.2.2.1 > 0) then
        bif decide (y1.2.1.2.2.2.1 ≥ y1.1.2.2.2.2.2.2.2.2.2.1) then
          some (3, ())
        else
          (f42 k y1.1 y1.2.1).bind fun r2 =>
          bif decide ((r2.1.length : Int) > 0) then
            some (0, ())
          else
          bif y1.1.2.2.2.2.2.2.2.2.1 == 0 then
            (f41 k y1.2.2.1).bind fun r3 =>
            some r3
          else
          bif y1.1.2.2.2.2.2.2.2.2.1 == 1 then
            (f41 k y1.2.1.2.2.1).bind fun r4 =>
            some r4
          else
            some (3, ())
      else
        (f42 k y1.1 y1.2.1).bind fun r5 =>
        bif decide ((r5.1.length : Int) > 0) then
          some (0, ())
        else
        bif y1.1.2.2.2.2.2.2.2.2.1 == 0 then
          (f41 k y1.2.2.1).bind fun r6 =>
          some r6
        else
        bif y1.1.2.2.2.2.2.2.2.2.1 == 1 then
          (f41 k y1.2.1.2.2.1).bind fun r7 =>
          some r7
        else
          some (3, ()))
    (fun y8 =>
      some y8)
    w19
noncomputable def f32_sig (k : Nat) : Sig := ⟨[.val (.pair (.str) (.pair (.int .i64) (.pair (.int .i64) (.pair (.sl (.pair (.int .u8) (.pair (.int .i64) (.pair (.int .i64) (.pair (.sl (.pair (.int .i64) (.pair (.int .i64) (.pair (.int .i64) (.pair (.int .i64) (.unit)))))) (.unit)))))) (.pair (.sl (.int .i64)) (.pair (.bool) (.pair (.bool) (.pair (.sl (.pair (.int .i64) (.pair (.int .i64) (.pair (.int .i64) (.pair (.bool) (.unit)))))) (.pair (.int .i64) (.pair (.int .i64) (.pair (.int .i64) (.unit)))))))))))), .val (.pair (.sl (.int .i64)) (.pair (.pair (.sl (.int .i64)) (.pair (.sl (.int .i64)) (.unit))) (.pair (.int .i64) (.pair (.int .i64) (.unit)))))], [], [[.val (.int .i64)]], fun x => f32 k x.1 x.2.1⟩
noncomputable def E_f32 (k : Nat) : Env := ⟨Try.prog, G0, scons 42 [f42_sig k] (scons 41 [f41_sig k] (scons 40 [f40_sig k] (snil))), tcons 3 (l32_3_sig k) (tnil), tnil, unil, k, qnil⟩
theorem l32_3_ok (k : Nat) : LoopOK (E_f32 k) ⟨Try.f32.ntmps, [], G0⟩ (nthC 0 (loopsIn (Try.f32.body.getD .skip))) :=
  loop_ok (ls := l32_3_sig k) (by kernel_rfl) (fun _ => by kernel_rfl) (fun j x => by kernel_rfl)
theorem f32_run (k : Nat) (x : (lTy (lay 0 (f32_sig k).ins)).den) : runF (E_f32 k) Try.f32 (f32_sig k) x = (f32_sig k).F x := by kernel_rfl
theorem f32_ok [Dr] (k : Nat) : FnOK Try.prog G0 32 (f32_sig k) :=
  fn_ok2 (E := E_f32 k) (env_cons (one_sig (f42_ok k)) (env_cons (one_sig (f41_ok k)) (env_cons (one_sig (f40_ok k)) (env_nil)))) (qenv_nil) mixed Try.func32 Try.call32 (by kernel_rfl) (by kernel_rfl) (m := 1) (by kernel_rfl) ⟨trivial, l32_3_ok k⟩ (sk := []) (by kernel_rfl) trivial (f32_run k)

/-! ### slices.Equal[[]int,int]: function 59 -/
noncomputable def l59_4 (k : Nat) : Nat → (List Int) → (List Int) → Int → Int → Option (Unit ⊕ (Bool × Unit))
  | 0, _, _, _, _ => none
  | j + 1, s0, s1, s12, s13 =>
    bif decide (s13 < s12) then
      bif decide (0 ≤ s13) && decide (s13 < (s0.length : Int)) then
        bif decide (0 ≤ s13) && decide (s13 < (s1.length : Int)) then
          bif (rd (0 : Int) s0 s13) != (rd (0 : Int) s1 s13) then
            some (.inr (false, ()))
          else
            l59_4 k j s0 s1 s12 (w64 (s13 + 1))
        else
          none
      else
        none
    else
      some (.inl ())
noncomputable def l59_4_sig (k : Nat) : LoopSig := ⟨[(0, .obj (.val (.sl (.int .i64)))), (1, .obj (.val (.sl (.int .i64)))), (12, .obj (.val (.int .i64))), (13, .obj (.val (.int .i64)))], [(.exit 0, []), (.ret, [(4, .obj (.val (.bool)))])], fun j x => l59_4 k j x.1 x.2.1 x.2.2.1 x.2.2.2.1⟩
noncomputable def f59 (k : Nat) (x0 : List Int) (x1 : List Int) : Option ((Bool × Unit)) :=
  bif (x0.length : Int) != (x1.length : Int) then
    some (false, ())
  else
    (l59_4 k k x0 x1 (x0.length : Int) 0).bind fun w20 =>
    Sum.elim
      (fun y1 =>
        some (true, ()))
      (fun y2 =>
        some y2)
      w20
noncomputable def f59_sig (k : Nat) : Sig := ⟨[.val (.sl (.int .i64)), .val (.sl (.int .i64))], [], [[.val (.bool)]], fun x => f59 k x.1 x.2.1⟩
noncomputable def E_f59 (k : Nat) : Env := ⟨Try.prog, G0, snil, tcons 4 (l59_4_sig k) (tnil), tnil, unil, k, qnil⟩
theorem l59_4_ok (k : Nat) : LoopOK (E_f59 k) ⟨Try.f59.ntmps, [], G0⟩ (nthC 0 (loopsIn (Try.f59.body.getD .skip))) :=
  loop_ok (ls := l59_4_sig k) (by kernel_rfl) (fun _ => by kernel_rfl) (fun j x => by kernel_rfl)
theorem f59_run (k : Nat) (x : (lTy (lay 0 (f59_sig k).ins)).den) : runF (E_f59 k) Try.f59 (f59_sig k) x = (f59_sig k).F x := by kernel_rfl
theorem f59_ok [Dr] (k : Nat) : FnOK Try.prog G0 59 (f59_sig k) :=
  fn_ok2 (E := E_f59 k) (env_nil) (qenv_nil) mixed Try.func59 Try.call59 (by kernel_rfl) (by kernel_rfl) (m := 1) (by kernel_rfl) ⟨trivial, l59_4_ok k⟩ (sk := []) (by kernel_rfl) trivial (f59_run k)

/-! ### gamehall/place.Same: function 43 -/
noncomputable def f43 (k : Nat) (x0 : (List Int) × ((List Int) × (List Int) × Unit) × Int × Int × Unit) (x1 : (List Int) × ((List Int) × (List Int) × Unit) × Int × Int × Unit) : Option ((Bool × Unit)) :=
  bif x0.2.2.1 == x1.2.2.1 then
    (f59 k x0.1 x1.1).bind fun r1 =>
    bif r1.1 then
      (f59 k x0.2.1.1 x1.2.1.1).bind fun r2 =>
      bif r2.1 then
        (f59 k x0.2.1.2.1 x1.2.1.2.1).bind fun r3 =>
        some r3
      else
        some (false, ())
    else
      some (false, ())
  else
    some (false, ())
noncomputable def f43_sig (k : Nat) : Sig := ⟨[.val (.pair (.sl (.int .i64)) (.pair (.pair (.sl (.int .i64)) (.pair (.sl (.int .i64)) (.unit))) (.pair (.int .i64) (.pair (.int .i64) (.unit))))), .val (.pair (.sl (.int .i64)) (.pair (.pair (.sl (.int .i64)) (.pair (.sl (.int .i64)) (.unit))) (.pair (.int .i64) (.pair (.int .i64) (.unit)))))], [], [[.val (.bool)]], fun x => f43 k x.1 x.2.1⟩
noncomputable def E_f43 (k : Nat) : Env := ⟨Try.prog, G0, scons 59 [f59_sig k] (snil), tnil, tnil, unil, k, qnil⟩
theorem f43_run (k : Nat) (x : (lTy (lay 0 (f43_sig k).ins)).den) : runF (E_f43 k) Try.f43 (f43_sig k) x = (f43_sig k).F x := by kernel_rfl
theorem f43_ok [Dr] (k : Nat) : FnOK Try.prog G0 43 (f43_sig k) :=
  fn_ok2 (E := E_f43 k) (env_cons (one_sig (f59_ok k)) (env_nil)) (qenv_nil) mixed Try.func43 Try.call43 (by kernel_rfl) (by kernel_rfl) (m := 0) (by kernel_rfl) trivial (sk := []) (by kernel_rfl) trivial (f43_run k)

/-! ### (*gamehall/plain.Game).Count: function 33 -/
noncomputable def l33_3 (k : Nat) : Nat → ((ByteArray × Int × Int × (List (Int × Int × Int × (List (Int × Int × Int × Int × Unit)) × Unit)) × (List Int) × Bool × Bool × (List (Int × Int × Int × Bool × Unit)) × Int × Int × Int × Unit) × (List ((List Int) × ((List Int) × (List Int) × Unit) × Int × Int × Unit)) × (List (Int × Int × Int × Unit)) × Unit) → Int → (List ((List Int) × ((List Int) × (List Int) × Unit) × Int × Int × Unit)) → Int → Int → Option ((Int × Unit))
  | 0, _, _, _, _, _ => none
  | j + 1, s0, s3, s9, s10, s11 =>
    bif decide (s11 < s10) then
      bif decide (0 ≤ s11) && decide (s11 < (s9.length : Int)) then
        (f29 k s0).bind fun r1 =>
        (f43 k (rd (([], ([], [], ()), 0, 0, ()) : (List Int) × ((List Int) × (List Int) × Unit) × Int × Int × Unit) s9 s11) r1.1).bind fun r2 =>
        bif r2.1 then
          l33_3 k j s0 (w64 (s3 + 1)) s9 s10 (w64 (s11 + 1))
        else
          l33_3 k j s0 s3 s9 s10 (w64 (s11 + 1))
      else
        none
    else
      some (s3, ())
noncomputable def l33_3_sig (k : Nat) : LoopSig := ⟨[(0, .obj (.view (.pair (.pair (.str) (.pair (.int .i64) (.pair (.int .i64) (.pair (.sl (.pair (.int .u8) (.pair (.int .i64) (.pair (.int .i64) (.pair (.sl (.pair (.int .i64) (.pair (.int .i64) (.pair (.int .i64) (.pair (.int .i64) (.unit)))))) (.unit)))))) (.pair (.sl (.int .i64)) (.pair (.bool) (.pair (.bool) (.pair (.sl (.pair (.int .i64) (.pair (.int .i64) (.pair (.int .i64) (.pair (.bool) (.unit)))))) (.pair (.int .i64) (.pair (.int .i64) (.pair (.int .i64) (.unit)))))))))))) (.pair (.sl (.pair (.sl (.int .i64)) (.pair (.pair (.sl (.int .i64)) (.pair (.sl (.int .i64)) (.unit))) (.pair (.int .i64) (.pair (.int .i64) (.unit)))))) (.pair (.sl (.pair (.int .i64) (.pair (.int .i64) (.pair (.int .i64) (.unit))))) (.unit)))))), (3, .obj (.val (.int .i64))), (9, .obj (.val (.sl (.pair (.sl (.int .i64)) (.pair (.pair (.sl (.int .i64)) (.pair (.sl (.int .i64)) (.unit))) (.pair (.int .i64) (.pair (.int .i64) (.unit)))))))), (10, .obj (.val (.int .i64))), (11, .obj (.val (.int .i64)))], [(.exit 0, [(3, .obj (.val (.int .i64)))])], fun j x => l33_3 k j x.1 x.2.1 x.2.2.1 x.2.2.2.1 x.2.2.2.2.1⟩
noncomputable def f33 (k : Nat) (x0 : (ByteArray × Int × Int × (List (Int × Int × Int × (List (Int × Int × Int × Int × Unit)) × Unit)) × (List Int) × Bool × Bool × (List (Int × Int × Int × Bool × Unit)) × Int × Int × Int × Unit) × (List ((List Int) × ((List Int) × (List Int) × Unit) × Int × Int × Unit)) × (List (Int × Int × Int × Unit)) × Unit) : Option ((Int × Unit)) :=
  (l33_3 k k x0 0 x0.2.1 (x0.2.1.length : Int) 0).bind fun o1 =>
  some o1
noncomputable def f33_sig (k : Nat) : Sig := ⟨[.view (.pair (.pair (.str) (.pair (.int .i64) (.pair (.int .i64) (.pair (.sl (.pair (.int .u8) (.pair (.int .i64) (.pair (.int .i64) (.pair (.sl (.pair (.int .i64) (.pair (.int .i64) (.pair (.int .i64) (.pair (.int .i64) (.unit)))))) (.unit)))))) (.pair (.sl (.int .i64)) (.pair (.bool) (.pair (.bool) (.pair (.sl (.pair (.int .i64) (.pair (.int .i64) (.pair (.int .i64) (.pair (.bool) (.unit)))))) (.pair (.int .i64) (.pair (.int .i64) (.pair (.int .i64) (.unit)))))))))))) (.pair (.sl (.pair (.sl (.int .i64)) (.pair (.pair (.sl (.int .i64)) (.pair (.sl (.int .i64)) (.unit))) (.pair (.int .i64) (.pair (.int .i64) (.unit)))))) (.pair (.sl (.pair (.int .i64) (.pair (.int .i64) (.pair (.int .i64) (.unit))))) (.unit))))], [], [[.val (.int .i64)]], fun x => f33 k x.1⟩
noncomputable def E_f33 (k : Nat) : Env := ⟨Try.prog, G0, scons 43 [f43_sig k] (scons 29 [f29_sig k] (snil)), tcons 3 (l33_3_sig k) (tnil), tnil, unil, k, qnil⟩
theorem l33_3_ok (k : Nat) : LoopOK (E_f33 k) ⟨Try.f33.ntmps, [], G0⟩ (nthC 0 (loopsIn (Try.f33.body.getD .skip))) :=
  loop_ok (ls := l33_3_sig k) (by kernel_rfl) (fun _ => by kernel_rfl) (fun j x => by kernel_rfl)
theorem f33_run (k : Nat) (x : (lTy (lay 0 (f33_sig k).ins)).den) : runF (E_f33 k) Try.f33 (f33_sig k) x = (f33_sig k).F x := by kernel_rfl
theorem f33_ok [Dr] (k : Nat) : FnOK Try.prog G0 33 (f33_sig k) :=
  fn_ok2 (E := E_f33 k) (env_cons (one_sig (f43_ok k)) (env_cons (one_sig (f29_ok k)) (env_nil))) (qenv_nil) mixed Try.func33 Try.call33 (by kernel_rfl) (by kernel_rfl) (m := 1) (by kernel_rfl) ⟨trivial, l33_3_ok k⟩ (sk := []) (by kernel_rfl) trivial (f33_run k)
noncomputable def f33_q (k : Nat) : QFun := mkV [.view (.pair (.pair (.str) (.pair (.int .i64) (.pair (.int .i64) (.pair (.sl (.pair (.int .u8) (.pair (.int .i64) (.pair (.int .i64) (.pair (.sl (.pair (.int .i64) (.pair (.int .i64) (.pair (.int .i64) (.pair (.int .i64) (.unit)))))) (.unit)))))) (.pair (.sl (.int .i64)) (.pair (.bool) (.pair (.bool) (.pair (.sl (.pair (.int .i64) (.pair (.int .i64) (.pair (.int .i64) (.pair (.bool) (.unit)))))) (.pair (.int .i64) (.pair (.int .i64) (.pair (.int .i64) (.unit)))))))))))) (.pair (.sl (.pair (.sl (.int .i64)) (.pair (.pair (.sl (.int .i64)) (.pair (.sl (.int .i64)) (.unit))) (.pair (.int .i64) (.pair (.int .i64) (.unit)))))) (.pair (.sl (.pair (.int .i64) (.pair (.int .i64) (.pair (.int .i64) (.unit))))) (.unit))))] [.val (.int .i64)] (fun x => f33 k x.1)
theorem f33_qok [Dr] (k : Nat) : QOK Try.prog G0 33 (f33_q k) := v_ok (f33_ok k)

/-! ### (*gamehall/plain.Game).Result: function 22 -/
noncomputable def f22 (k : Nat) (x0 : (ByteArray × Int × Int × (List (Int × Int × Int × (List (Int × Int × Int × Int × Unit)) × Unit)) × (List Int) × Bool × Bool × (List (Int × Int × Int × Bool × Unit)) × Int × Int × Int × Unit) × (List ((List Int) × ((List Int) × (List Int) × Unit) × Int × Int × Unit)) × (List (Int × Int × Int × Unit)) × Unit) : Option ((Int × Unit)) :=
  (f29 k x0).bind fun r1 =>
  (f32 k x0.1 r1.1).bind fun r2 =>
  bif r2.1 == 0 then
    bif decide (x0.1.2.2.2.2.2.2.2.2.2.2.1 > 0) then
      (f33 k x0).bind fun r3 =>
      bif decide (r3.1 ≥ x0.1.2.2.2.2.2.2.2.2.2.2.1) then
        some (3, ())
      else
        some r2
    else
      some r2
  else
    some r2
noncomputable def f22_sig (k : Nat) : Sig := ⟨[.view (.pair (.pair (.str) (.pair (.int .i64) (.pair (.int .i64) (.pair (.sl (.pair (.int .u8) (.pair (.int .i64) (.pair (.int .i64) (.pair (.sl (.pair (.int .i64) (.pair (.int .i64) (.pair (.int .i64) (.pair (.int .i64) (.unit)))))) (.unit)))))) (.pair (.sl (.int .i64)) (.pair (.bool) (.pair (.bool) (.pair (.sl (.pair (.int .i64) (.pair (.int .i64) (.pair (.int .i64) (.pair (.bool) (.unit)))))) (.pair (.int .i64) (.pair (.int .i64) (.pair (.int .i64) (.unit)))))))))))) (.pair (.sl (.pair (.sl (.int .i64)) (.pair (.pair (.sl (.int .i64)) (.pair (.sl (.int .i64)) (.unit))) (.pair (.int .i64) (.pair (.int .i64) (.unit)))))) (.pair (.sl (.pair (.int .i64) (.pair (.int .i64) (.pair (.int .i64) (.unit))))) (.unit))))], [], [[.val (.int .i64)]], fun x => f22 k x.1⟩
noncomputable def E_f22 (k : Nat) : Env := ⟨Try.prog, G0, scons 32 [f32_sig k] (scons 29 [f29_sig k] (snil)), tnil, tnil, unil, k, qcons 33 (f33_q k) (qnil)⟩
theorem f22_run (k : Nat) (x : (lTy (lay 0 (f22_sig k).ins)).den) : runF (E_f22 k) Try.f22 (f22_sig k) x = (f22_sig k).F x := by kernel_rfl
theorem f22_ok [Dr] (k : Nat) : FnOK Try.prog G0 22 (f22_sig k) :=
  fn_ok2 (E := E_f22 k) (env_cons (one_sig (f32_ok k)) (env_cons (one_sig (f29_ok k)) (env_nil))) (qenv_cons (f33_qok k) (qenv_nil)) mixed Try.func22 Try.call22 (by kernel_rfl) (by kernel_rfl) (m := 0) (by kernel_rfl) trivial (sk := []) (by kernel_rfl) trivial (f22_run k)
noncomputable def f22_q (k : Nat) : QFun := mkV [.view (.pair (.pair (.str) (.pair (.int .i64) (.pair (.int .i64) (.pair (.sl (.pair (.int .u8) (.pair (.int .i64) (.pair (.int .i64) (.pair (.sl (.pair (.int .i64) (.pair (.int .i64) (.pair (.int .i64) (.pair (.int .i64) (.unit)))))) (.unit)))))) (.pair (.sl (.int .i64)) (.pair (.bool) (.pair (.bool) (.pair (.sl (.pair (.int .i64) (.pair (.int .i64) (.pair (.int .i64) (.pair (.bool) (.unit)))))) (.pair (.int .i64) (.pair (.int .i64) (.pair (.int .i64) (.unit)))))))))))) (.pair (.sl (.pair (.sl (.int .i64)) (.pair (.pair (.sl (.int .i64)) (.pair (.sl (.int .i64)) (.unit))) (.pair (.int .i64) (.pair (.int .i64) (.unit)))))) (.pair (.sl (.pair (.int .i64) (.pair (.int .i64) (.pair (.int .i64) (.unit))))) (.unit))))] [.val (.int .i64)] (fun x => f22 k x.1)
theorem f22_qok [Dr] (k : Nat) : QOK Try.prog G0 22 (f22_q k) := v_ok (f22_ok k)

/-! ### gamehall/place.Check: function 47 -/
noncomputable def l47_7 (k : Nat) : Nat → (ByteArray × Int × Int × (List (Int × Int × Int × (List (Int × Int × Int × Int × Unit)) × Unit)) × (List Int) × Bool × Bool × (List (Int × Int × Int × Bool × Unit)) × Int × Int × Int × Unit) → ((List Int) × ((List Int) × (List Int) × Unit) × Int × Int × Unit) → (List Int) → Int → Int → Option ((((List Int) × ((List Int) × (List Int) × Unit) × Int × Int × Unit) × Unit) ⊕ (Int × Unit))
  | 0, _, _, _, _, _ => none
  | j + 1, s2, s3, s47, s48, s49 =>
    bif decide (s49 < s48) then
      bif decide (0 ≤ s49) && decide (s49 < (s47.length : Int)) then
        bif decide ((rd (0 : Int) s47 s49) < 0) then
          some (.inr (4, ()))
        else
        bif decide ((rd (0 : Int) s47 s49) > (w64 (2 * (s2.2.2.2.1.length : Int)))) then
          some (.inr (4, ()))
        else
          l47_7 k j s2 s3 s47 s48 (w64 (s49 + 1))
      else
        none
    else
      some (.inl (s3, ()))
noncomputable def l47_7_sig (k : Nat) : LoopSig := ⟨[(2, .obj (.box (.val (.pair (.str) (.pair (.int .i64) (.pair (.int .i64) (.pair (.sl (.pair (.int .u8) (.pair (.int .i64) (.pair (.int .i64) (.pair (.sl (.pair (.int .i64) (.pair (.int .i64) (.pair (.int .i64) (.pair (.int .i64) (.unit)))))) (.unit)))))) (.pair (.sl (.int .i64)) (.pair (.bool) (.pair (.bool) (.pair (.sl (.pair (.int .i64) (.pair (.int .i64) (.pair (.int .i64) (.pair (.bool) (.unit)))))) (.pair (.int .i64) (.pair (.int .i64) (.pair (.int .i64) (.unit))))))))))))))), (3, .obj (.box (.val (.pair (.sl (.int .i64)) (.pair (.pair (.sl (.int .i64)) (.pair (.sl (.int .i64)) (.unit))) (.pair (.int .i64) (.pair (.int .i64) (.unit)))))))), (47, .obj (.val (.sl (.int .i64)))), (48, .obj (.val (.int .i64))), (49, .obj (.val (.int .i64)))], [(.exit 0, [(3, .obj (.box (.val (.pair (.sl (.int .i64)) (.pair (.pair (.sl (.int .i64)) (.pair (.sl (.int .i64)) (.unit))) (.pair (.int .i64) (.pair (.int .i64) (.unit))))))))]), (.ret, [(4, .obj (.val (.int .i64)))])], fun j x => l47_7 k j x.1 x.2.1 x.2.2.1 x.2.2.2.1 x.2.2.2.2.1⟩
noncomputable def l47_16 (k : Nat) : Nat → ((List Int) × ((List Int) × (List Int) × Unit) × Int × Int × Unit) → ((List Int) × (List Int) × Unit) → Int → (List Int) → Int → Int → Option ((((List Int) × ((List Int) × (List Int) × Unit) × Int × Int × Unit) × ((List Int) × (List Int) × Unit) × Int × Unit) ⊕ (Int × Unit))
  | 0, _, _, _, _, _, _ => none
  | j + 1, s3, s65, s66, s69, s70, s71 =>
    bif decide (s71 < s70) then
      bif decide (0 ≤ s71) && decide (s71 < (s69.length : Int)) then
        bif decide ((rd (0 : Int) s69 s71) < 0) then
          some (.inr (4, ()))
        else
        bif decide ((rd (0 : Int) s69 s71) > 1000) then
          some (.inr (4, ()))
        else
          l47_16 k j s3 s65 s66 s69 s70 (w64 (s71 + 1))
      else
        none
    else
      some (.inl (s3, s65, s66, ()))
noncomputable def l47_16_sig (k : Nat) : LoopSig := ⟨[(3, .obj (.box (.val (.pair (.sl (.int .i64)) (.pair (.pair (.sl (.int .i64)) (.pair (.sl (.int .i64)) (.unit))) (.pair (.int .i64) (.pair (.int .i64) (.unit)))))))), (65, .obj (.val (.pair (.sl (.int .i64)) (.pair (.sl (.int .i64)) (.unit))))), (66, .obj (.val (.int .i64))), (69, .obj (.val (.sl (.int .i64)))), (70, .obj (.val (.int .i64))), (71, .obj (.val (.int .i64)))], [(.exit 4, [(3, .obj (.box (.val (.pair (.sl (.int .i64)) (.pair (.pair (.sl (.int .i64)) (.pair (.sl (.int .i64)) (.unit))) (.pair (.int .i64) (.pair (.int .i64) (.unit)))))))), (65, .obj (.val (.pair (.sl (.int .i64)) (.pair (.sl (.int .i64)) (.unit))))), (66, .obj (.val (.int .i64)))]), (.ret, [(4, .obj (.val (.int .i64)))])], fun j x => l47_16 k j x.1 x.2.1 x.2.2.1 x.2.2.2.1 x.2.2.2.2.1 x.2.2.2.2.2.1⟩
noncomputable def l47_13 (k : Nat) : Nat → ((List Int) × ((List Int) × (List Int) × Unit) × Int × Int × Unit) → ((List Int) × (List Int) × Unit) → Int → Option ((((List Int) × ((List Int) × (List Int) × Unit) × Int × Int × Unit) × Unit) ⊕ (Int × Unit))
  | 0, _, _, _ => none
  | j + 1, s3, s65, s66 =>
    bif decide (s66 < 2) then
      bif s66 == 0 then
        (l47_16 k k s3 s65 s66 s65.1 (s65.1.length : Int) 0).bind fun w21 =>
        Sum.elim
          (fun y1 =>
            l47_13 k j y1.1 y1.2.1 (w64 (y1.2.2.1 + 1)))
          (fun y2 =>
            some (.inr y2))
          w21
      else
      bif s66 == 1 then
        (l47_16 k k s3 s65 s66 s65.2.1 (s65.2.1.length : Int) 0).bind fun w22 =>
        Sum.elim
          (fun y3 =>
            l47_13 k j y3.1 y3.2.1 (w64 (y3.2.2.1 + 1)))
          (fun y4 =>
            some (.inr y4))
          w22
      else
        none
    else
      some (.inl (s3, ()))
noncomputable def l47_13_sig (k : Nat) : LoopSig := ⟨[(3, .obj (.box (.val (.pair (.sl (.int .i64)) (.pair (.pair (.sl (.int .i64)) (.pair (.sl (.int .i64)) (.unit))) (.pair (.int .i64) (.pair (.int .i64) (.unit)))))))), (65, .obj (.val (.pair (.sl (.int .i64)) (.pair (.sl (.int .i64)) (.unit))))), (66, .obj (.val (.int .i64)))], [(.exit 2, [(3, .obj (.box (.val (.pair (.sl (.int .i64)) (.pair (.pair (.sl (.int .i64)) (.pair (.sl (.int .i64)) (.unit))) (.pair (.int .i64) (.pair (.int .i64) (.unit))))))))]), (.ret, [(4, .obj (.val (.int .i64)))])], fun j x => l47_13 k j x.1 x.2.1 x.2.2.1⟩
noncomputable def f47 (k : Nat) (x0 : ByteArray × Int × Int × (List (Int × Int × Int × (List (Int × Int × Int × Int × Unit)) × Unit)) × (List Int) × Bool × Bool × (List (Int × Int × Int × Bool × Unit)) × Int × Int × Int × Unit) (x1 : (List Int) × ((List Int) × (List Int) × Unit) × Int × Int × Unit) : Option ((Int × Unit)) :=
  (f34 k x0).bind fun r1 =>
  bif r1.1 != 0 then
    some r1
  else
  bif (x1.1.length : Int) != (w64 (x0.2.1 * x0.2.2.1)) then
    some (3, ())
  else
  bif (x1.2.1.1.length : Int) != (x0.2.2.2.1.length : Int) then
    some (3, ())
  else
  bif (x1.2.1.2.1.length : Int) != (x0.2.2.2.1.length : Int) then
    some (3, ())
  else
    (l47_7 k k x0 x1 x1.1 (x1.1.length : Int) 0).bind fun w23 =>
    Sum.elim
      (fun y2 =>
        (l47_13 k k y2.1 y2.1.2.1 0).bind fun w24 =>
        Sum.elim
          (fun y3 =>
            bif y3.1.2.2.1 != 0 then
              bif y3.1.2.2.1 != 1 then
                some (4, ())
              else
              bif decide (y3.1.2.2.2.1 < 0) then
                some (4, ())
              else
              bif decide (y3.1.2.2.2.1 > 200) then
                some (4, ())
              else
                some (0, ())
            else
            bif decide (y3.1.2.2.2.1 < 0) then
              some (4, ())
            else
            bif decide (y3.1.2.2.2.1 > 200) then
              some (4, ())
            else
              some (0, ()))
          (fun y4 =>
            some y4)
          w24)
      (fun y5 =>
        some y5)
      w23
noncomputable def f47_sig (k : Nat) : Sig := ⟨[.val (.pair (.str) (.pair (.int .i64) (.pair (.int .i64) (.pair (.sl (.pair (.int .u8) (.pair (.int .i64) (.pair (.int .i64) (.pair (.sl (.pair (.int .i64) (.pair (.int .i64) (.pair (.int .i64) (.pair (.int .i64) (.unit)))))) (.unit)))))) (.pair (.sl (.int .i64)) (.pair (.bool) (.pair (.bool) (.pair (.sl (.pair (.int .i64) (.pair (.int .i64) (.pair (.int .i64) (.pair (.bool) (.unit)))))) (.pair (.int .i64) (.pair (.int .i64) (.pair (.int .i64) (.unit)))))))))))), .val (.pair (.sl (.int .i64)) (.pair (.pair (.sl (.int .i64)) (.pair (.sl (.int .i64)) (.unit))) (.pair (.int .i64) (.pair (.int .i64) (.unit)))))], [], [[.val (.int .i64)]], fun x => f47 k x.1 x.2.1⟩
noncomputable def E_f47 (k : Nat) : Env := ⟨Try.prog, G0, scons 34 [f34_sig k] (snil), tcons 13 (l47_13_sig k) (tcons 16 (l47_16_sig k) (tcons 7 (l47_7_sig k) (tnil))), tnil, unil, k, qnil⟩
theorem l47_7_ok (k : Nat) : LoopOK (E_f47 k) ⟨Try.f47.ntmps, [], G0⟩ (nthC 0 (loopsIn (Try.f47.body.getD .skip))) :=
  loop_ok (ls := l47_7_sig k) (by kernel_rfl) (fun _ => by kernel_rfl) (fun j x => by kernel_rfl)
theorem l47_13_ok (k : Nat) : LoopOK (E_f47 k) ⟨Try.f47.ntmps, [], G0⟩ (nthC 1 (loopsIn (Try.f47.body.getD .skip))) :=
  loop_ok (ls := l47_13_sig k) (by kernel_rfl) (fun _ => by kernel_rfl) (fun j x => by kernel_rfl)
theorem l47_16_ok (k : Nat) : LoopOK (E_f47 k) ⟨Try.f47.ntmps, [], G0⟩ (nthC 2 (loopsIn (Try.f47.body.getD .skip))) :=
  loop_ok (ls := l47_16_sig k) (by kernel_rfl) (fun _ => by kernel_rfl) (fun j x => by kernel_rfl)
theorem f47_run (k : Nat) (x : (lTy (lay 0 (f47_sig k).ins)).den) : runF (E_f47 k) Try.f47 (f47_sig k) x = (f47_sig k).F x := by kernel_rfl
theorem f47_ok [Dr] (k : Nat) : FnOK Try.prog G0 47 (f47_sig k) :=
  fn_ok2 (E := E_f47 k) (env_cons (one_sig (f34_ok k)) (env_nil)) (qenv_nil) mixed Try.func47 Try.call47 (by kernel_rfl) (by kernel_rfl) (m := 3) (by kernel_rfl) ⟨⟨⟨trivial, l47_7_ok k⟩, l47_13_ok k⟩, l47_16_ok k⟩ (sk := []) (by kernel_rfl) trivial (f47_run k)

/-! ### slices.Index[[]gamehall/api.Move,gamehall/api.Move]: function 62 -/
noncomputable def l62_2 (k : Nat) : Nat → (List (Int × Int × Int × Unit)) → (Int × Int × Int × Unit) → Int → Int → Option (Unit ⊕ (Int × Unit))
  | 0, _, _, _, _ => none
  | j + 1, s0, s3, s7, s8 =>
    bif decide (s8 < s7) then
      bif decide (0 ≤ s8) && decide (s8 < (s0.length : Int)) then
        bif (s3.1 == (rd ((0, 0, 0, ()) : Int × Int × Int × Unit) s0 s8).1) && ((s3.2.1 == (rd ((0, 0, 0, ()) : Int × Int × Int × Unit) s0 s8).2.1) && ((s3.2.2.1 == (rd ((0, 0, 0, ()) : Int × Int × Int × Unit) s0 s8).2.2.1) && true)) then
          some (.inr (s8, ()))
        else
          l62_2 k j s0 s3 s7 (w64 (s8 + 1))
      else
        none
    else
      some (.inl ())
noncomputable def l62_2_sig (k : Nat) : LoopSig := ⟨[(0, .obj (.val (.sl (.pair (.int .i64) (.pair (.int .i64) (.pair (.int .i64) (.unit))))))), (3, .obj (.box (.val (.pair (.int .i64) (.pair (.int .i64) (.pair (.int .i64) (.unit))))))), (7, .obj (.val (.int .i64))), (8, .obj (.val (.int .i64)))], [(.exit 0, []), (.ret, [(4, .obj (.val (.int .i64)))])], fun j x => l62_2 k j x.1 x.2.1 x.2.2.1 x.2.2.2.1⟩
noncomputable def f62 (k : Nat) (x0 : List (Int × Int × Int × Unit)) (x1 : Int × Int × Int × Unit) : Option ((Int × Unit)) :=
  (l62_2 k k x0 x1 (x0.length : Int) 0).bind fun w25 =>
  Sum.elim
    (fun y1 =>
      some ((-1), ()))
    (fun y2 =>
      some y2)
    w25
noncomputable def f62_sig (k : Nat) : Sig := ⟨[.val (.sl (.pair (.int .i64) (.pair (.int .i64) (.pair (.int .i64) (.unit))))), .val (.pair (.int .i64) (.pair (.int .i64) (.pair (.int .i64) (.unit))))], [], [[.val (.int .i64)]], fun x => f62 k x.1 x.2.1⟩
noncomputable def E_f62 (k : Nat) : Env := ⟨Try.prog, G0, snil, tcons 2 (l62_2_sig k) (tnil), tnil, unil, k, qnil⟩
theorem l62_2_ok (k : Nat) : LoopOK (E_f62 k) ⟨Try.f62.ntmps, [], G0⟩ (nthC 0 (loopsIn (Try.f62.body.getD .skip))) :=
  loop_ok (ls := l62_2_sig k) (by kernel_rfl) (fun _ => by kernel_rfl) (fun j x => by kernel_rfl)
theorem f62_run (k : Nat) (x : (lTy (lay 0 (f62_sig k).ins)).den) : runF (E_f62 k) Try.f62 (f62_sig k) x = (f62_sig k).F x := by kernel_rfl
theorem f62_ok [Dr] (k : Nat) : FnOK Try.prog G0 62 (f62_sig k) :=
  fn_ok2 (E := E_f62 k) (env_nil) (qenv_nil) mixed Try.func62 Try.call62 (by kernel_rfl) (by kernel_rfl) (m := 1) (by kernel_rfl) ⟨trivial, l62_2_ok k⟩ (sk := []) (by kernel_rfl) trivial (f62_run k)

/-! ### slices.Contains[[]gamehall/api.Move,gamehall/api.Move]: function 48 -/
noncomputable def f48 (k : Nat) (x0 : List (Int × Int × Int × Unit)) (x1 : Int × Int × Int × Unit) : Option ((Bool × Unit)) :=
  (f62 k x0 x1).bind fun r1 =>
  some (decide (r1.1 ≥ 0), ())
noncomputable def f48_sig (k : Nat) : Sig := ⟨[.val (.sl (.pair (.int .i64) (.pair (.int .i64) (.pair (.int .i64) (.unit))))), .val (.pair (.int .i64) (.pair (.int .i64) (.pair (.int .i64) (.unit))))], [], [[.val (.bool)]], fun x => f48 k x.1 x.2.1⟩
noncomputable def E_f48 (k : Nat) : Env := ⟨Try.prog, G0, scons 62 [f62_sig k] (snil), tnil, tnil, unil, k, qnil⟩
theorem f48_run (k : Nat) (x : (lTy (lay 0 (f48_sig k).ins)).den) : runF (E_f48 k) Try.f48 (f48_sig k) x = (f48_sig k).F x := by kernel_rfl
theorem f48_ok [Dr] (k : Nat) : FnOK Try.prog G0 48 (f48_sig k) :=
  fn_ok2 (E := E_f48 k) (env_cons (one_sig (f62_ok k)) (env_nil)) (qenv_nil) mixed Try.func48 Try.call48 (by kernel_rfl) (by kernel_rfl) (m := 0) (by kernel_rfl) trivial (sk := []) (by kernel_rfl) trivial (f48_run k)

/-! ### gamehall/moves.Legal: function 37 -/
noncomputable def f37 (k : Nat) (x0 : ByteArray × Int × Int × (List (Int × Int × Int × (List (Int × Int × Int × Int × Unit)) × Unit)) × (List Int) × Bool × Bool × (List (Int × Int × Int × Bool × Unit)) × Int × Int × Int × Unit) (x1 : (List Int) × ((List Int) × (List Int) × Unit) × Int × Int × Unit) (x2 : Int × Int × Int × Unit) : Option ((Bool × Int × Unit)) :=
  (f47 k x0 x1).bind fun r1 =>
  bif r1.1 != 0 then
    some (false, r1)
  else
    (f42 k x0 x1).bind fun r2 =>
    (f48 k r2.1 x2).bind fun r3 =>
    some (r3.1, 0, ())
noncomputable def f37_sig (k : Nat) : Sig := ⟨[.val (.pair (.str) (.pair (.int .i64) (.pair (.int .i64) (.pair (.sl (.pair (.int .u8) (.pair (.int .i64) (.pair (.int .i64) (.pair (.sl (.pair (.int .i64) (.pair (.int .i64) (.pair (.int .i64) (.pair (.int .i64) (.unit)))))) (.unit)))))) (.pair (.sl (.int .i64)) (.pair (.bool) (.pair (.bool) (.pair (.sl (.pair (.int .i64) (.pair (.int .i64) (.pair (.int .i64) (.pair (.bool) (.unit)))))) (.pair (.int .i64) (.pair (.int .i64) (.pair (.int .i64) (.unit)))))))))))), .val (.pair (.sl (.int .i64)) (.pair (.pair (.sl (.int .i64)) (.pair (.sl (.int .i64)) (.unit))) (.pair (.int .i64) (.pair (.int .i64) (.unit))))), .val (.pair (.int .i64) (.pair (.int .i64) (.pair (.int .i64) (.unit))))], [], [[.val (.bool), .val (.int .i64)]], fun x => f37 k x.1 x.2.1 x.2.2.1⟩
noncomputable def E_f37 (k : Nat) : Env := ⟨Try.prog, G0, scons 48 [f48_sig k] (scons 47 [f47_sig k] (scons 42 [f42_sig k] (snil))), tnil, tnil, unil, k, qnil⟩
theorem f37_run (k : Nat) (x : (lTy (lay 0 (f37_sig k).ins)).den) : runF (E_f37 k) Try.f37 (f37_sig k) x = (f37_sig k).F x := by kernel_rfl
theorem f37_ok [Dr] (k : Nat) : FnOK Try.prog G0 37 (f37_sig k) :=
  fn_ok2 (E := E_f37 k) (env_cons (one_sig (f48_ok k)) (env_cons (one_sig (f47_ok k)) (env_cons (one_sig (f42_ok k)) (env_nil)))) (qenv_nil) mixed Try.func37 Try.call37 (by kernel_rfl) (by kernel_rfl) (m := 0) (by kernel_rfl) trivial (sk := []) (by kernel_rfl) trivial (f37_run k)

/-! ### gamehall/place.Copy: function 31 -/
noncomputable def f31 (k : Nat) (x0 : (List Int) × ((List Int) × (List Int) × Unit) × Int × Int × Unit) : Option ((((List Int) × ((List Int) × (List Int) × Unit) × Int × Int × Unit) × Unit)) :=
  (f39 k x0.1).bind fun r1 =>
  (f39 k x0.2.1.1).bind fun r2 =>
  (f39 k x0.2.1.2.1).bind fun r3 =>
  some ((r1.1, (r2.1, r3), x0.2.2), ())
noncomputable def f31_sig (k : Nat) : Sig := ⟨[.val (.pair (.sl (.int .i64)) (.pair (.pair (.sl (.int .i64)) (.pair (.sl (.int .i64)) (.unit))) (.pair (.int .i64) (.pair (.int .i64) (.unit)))))], [], [[.cons (.row (.int .i64)) (.cons (.cons (.row (.int .i64)) (.cons (.row (.int .i64)) (.nil))) (.cons (.val (.int .i64)) (.cons (.val (.int .i64)) (.nil))))]], fun x => f31 k x.1⟩
noncomputable def E_f31 (k : Nat) : Env := ⟨Try.prog, G0, scons 39 [f39_sig k] (snil), tnil, tnil, ucons 3 3 (unil), k, qnil⟩
theorem f31_run (k : Nat) (x : (lTy (lay 0 (f31_sig k).ins)).den) : runF (E_f31 k) Try.f31 (f31_sig k) x = (f31_sig k).F x := by kernel_rfl
theorem f31_ok [Dr] (k : Nat) : FnOK Try.prog G0 31 (f31_sig k) :=
  fn_ok2 (E := E_f31 k) (env_cons (one_sig (f39_ok k)) (env_nil)) (qenv_nil) mixed Try.func31 Try.call31 (by kernel_rfl) (by kernel_rfl) (m := 1) (by kernel_rfl) ⟨trivial, loop_none (by kernel_rfl)⟩ (sk := []) (by kernel_rfl) trivial (f31_run k)

/-! ### gamehall/moves.Do: function 38 -/
noncomputable def f38 (k : Nat) (x0 : ByteArray × Int × Int × (List (Int × Int × Int × (List (Int × Int × Int × Int × Unit)) × Unit)) × (List Int) × Bool × Bool × (List (Int × Int × Int × Bool × Unit)) × Int × Int × Int × Unit) (x1 : (List Int) × ((List Int) × (List Int) × Unit) × Int × Int × Unit) (x2 : Int × Int × Int × Unit) : Option ((((List Int) × ((List Int) × (List Int) × Unit) × Int × Int × Unit) × Unit)) :=
  (f31 k x1).bind fun r1 =>
  bif decide (x2.1 < 0) then
    bif x1.2.2.1 == 0 then
      bif decide (0 ≤ x2.2.2.1) && decide (x2.2.2.1 < (r1.1.2.1.1.length : Int)) then
        bif decide (0 ≤ x2.2.2.1) && decide (x2.2.2.1 < (r1.1.2.1.1.length : Int)) then
          bif decide (0 ≤ x2.2.1) && decide (x2.2.1 < (x1.1.length : Int)) then
            bif (rd (0 : Int) x1.1 x2.2.1) != 0 then
              bif x1.2.2.1 == 0 then
                bif x0.2.2.2.2.2.2.1 then
                  (f49 k (rd (0 : Int) x1.1 x2.2.1)).bind fun r2 =>
                  (f49 k (rd (0 : Int) x1.1 x2.2.1)).bind fun r3 =>
                  bif decide (0 ≤ r3.1) && decide (r3.1 < ((r1.1.2.1.1.set x2.2.2.1.toNat (w64 ((rd (0 : Int) r1.1.2.1.1 x2.2.2.1) - 1))).length : Int)) then
                    bif decide (0 ≤ r2.1) && decide (r2.1 < ((r1.1.2.1.1.set x2.2.2.1.toNat (w64 ((rd (0 : Int) r1.1.2.1.1 x2.2.2.1) - 1))).length : Int)) then
                      (f50 k x2.2.2.1 x1.2.2.1).bind fun r4 =>
                      bif decide (0 ≤ x2.2.1) && decide (x2.2.1 < (r1.1.1.length : Int)) then
                        some ((r1.1.1.set x2.2.1.toNat r4.1, ((r1.1.2.1.1.set x2.2.2.1.toNat (w64 ((rd (0 : Int) r1.1.2.1.1 x2.2.2.1) - 1))).set r2.1.toNat (if 1000 < (w64 ((rd (0 : Int) (r1.1.2.1.1.set x2.2.2.1.toNat (w64 ((rd (0 : Int) r1.1.2.1.1 x2.2.2.1) - 1))) r3.1) + 1)) then 1000 else w64 ((rd (0 : Int) (r1.1.2.1.1.set x2.2.2.1.toNat (w64 ((rd (0 : Int) r1.1.2.1.1 x2.2.2.1) - 1))) r3.1) + 1)), r1.1.2.1.2), w64 (1 - x1.2.2.1), 0, ()), ())
                      else
                        none
                    else
                      none
                  else
                    none
                else
                  (f50 k x2.2.2.1 x1.2.2.1).bind fun r5 =>
                  bif decide (0 ≤ x2.2.1) && decide (x2.2.1 < (r1.1.1.length : Int)) then
                    some ((r1.1.1.set x2.2.1.toNat r5.1, (r1.1.2.1.1.set x2.2.2.1.toNat (w64 ((rd (0 : Int) r1.1.2.1.1 x2.2.2.1) - 1)), r1.1.2.1.2), w64 (1 - x1.2.2.1), 0, ()), ())
                  else
                    none
              else
              bif x1.2.2.1 == 1 then
                bif x0.2.2.2.2.2.2.1 then
                  (f49 k (rd (0 : Int) x1.1 x2.2.1)).bind fun r6 =>
                  (f49 k (rd (0 : Int) x1.1 x2.2.1)).bind fun r7 =>
                  bif decide (0 ≤ r7.1) && decide (r7.1 < (r1.1.2.1.2.1.length : Int)) then
                    bif decide (0 ≤ r6.1) && decide (r6.1 < (r1.1.2.1.2.1.length : Int)) then
                      (f50 k x2.2.2.1 x1.2.2.1).bind fun r8 =>
                      bif decide (0 ≤ x2.2.1) && decide (x2.2.1 < (r1.1.1.length : Int)) then
                        some ((r1.1.1.set x2.2.1.toNat r8.1, (r1.1.2.1.1.set x2.2.2.1.toNat (w64 ((rd (0 : Int) r1.1.2.1.1 x2.2.2.1) - 1)), r1.1.2.1.2.1.set r6.1.toNat (if 1000 < (w64 ((rd (0 : Int) r1.1.2.1.2.1 r7.1) + 1)) then 1000 else w64 ((rd (0 : Int) r1.1.2.1.2.1 r7.1) + 1)), ()), w64 (1 - x1.2.2.1), 0, ()), ())
                      else
                        none
                    else
                      none
                  else
                    none
                else
                  (f50 k x2.2.2.1 x1.2.2.1).bind fun r9 =>
                  bif decide (0 ≤ x2.2.1) && decide (x2.2.1 < (r1.1.1.length : Int)) then
                    some ((r1.1.1.set x2.2.1.toNat r9.1, (r1.1.2.1.1.set x2.2.2.1.toNat (w64 ((rd (0 : Int) r1.1.2.1.1 x2.2.2.1) - 1)), r1.1.2.1.2), w64 (1 - x1.2.2.1), 0, ()), ())
                  else
                    none
              else
                none
            else
              (f50 k x2.2.2.1 x1.2.2.1).bind fun r10 =>
              bif decide (0 ≤ x2.2.1) && decide (x2.2.1 < (r1.1.1.length : Int)) then
                some ((r1.1.1.set x2.2.1.toNat r10.1, (r1.1.2.1.1.set x2.2.2.1.toNat (w64 ((rd (0 : Int) r1.1.2.1.1 x2.2.2.1) - 1)), r1.1.2.1.2), w64 (1 - x1.2.2.1), 0, ()), ())
              else
                none
          else
            none
        else
          none
      else
        none
    else
    bif x1.2.2.1 == 1 then
      bif decide (0 ≤ x2.2.2.1) && decide (x2.2.2.1 < (r1.1.2.1.2.1.length : Int)) then
        bif decide (0 ≤ x2.2.2.1) && decide (x2.2.2.1 < (r1.1.2.1.2.1.length : Int)) then
          bif decide (0 ≤ x2.2.1) && decide (x2.2.1 < (x1.1.length : Int)) then
            bif (rd (0 : Int) x1.1 x2.2.1) != 0 then
              bif x1.2.2.1 == 0 then
                bif x0.2.2.2.2.2.2.1 then
                  (f49 k (rd (0 : Int) x1.1 x2.2.1)).bind fun r11 =>
                  (f49 k (rd (0 : Int) x1.1 x2.2.1)).bind fun r12 =>
                  bif decide (0 ≤ r12.1) && decide (r12.1 < (r1.1.2.1.1.length : Int)) then
                    bif decide (0 ≤ r11.1) && decide (r11.1 < (r1.1.2.1.1.length : Int)) then
                      (f50 k x2.2.2.1 x1.2.2.1).bind fun r13 =>
                      bif decide (0 ≤ x2.2.1) && decide (x2.2.1 < (r1.1.1.length : Int)) then
                        some ((r1.1.1.set x2.2.1.toNat r13.1, (r1.1.2.1.1.set r11.1.toNat (if 1000 < (w64 ((rd (0 : Int) r1.1.2.1.1 r12.1) + 1)) then 1000 else w64 ((rd (0 : Int) r1.1.2.1.1 r12.1) + 1)), r1.1.2.1.2.1.set x2.2.2.1.toNat (w64 ((rd (0 : Int) r1.1.2.1.2.1 x2.2.2.1) - 1)), ()), w64 (1 - x1.2.2.1), 0, ()), ())
                      else
                        none
                    else
                      none
                  else
                    none
                else
                  (f50 k x2.2.2.1 x1.2.2.1).bind fun r14 =>
                  bif decide (0 ≤ x2.2.1) && decide (x2.2.1 < (r1.1.1.length : Int)) then
                    some ((r1.1.1.set x2.2.1.toNat r14.1, (r1.1.2.1.1, r1.1.2.1.2.1.set x2.2.2.1.toNat (w64 ((rd (0 : Int) r1.1.2.1.2.1 x2.2.2.1) - 1)), ()), w64 (1 - x1.2.2.1), 0, ()), ())
                  else
                    none
              else
              bif x1.2.2.1 == 1 then
                bif x0.2.2.2.2.2.2.1 then
                  (f49 k (rd (0 : Int) x1.1 x2.2.1)).bind fun r15 =>
                  (f49 k (rd (0 : Int) x1.1 x2.2.1)).bind fun r16 =>
                  bif decide (0 ≤ r16.1) && decide (r16.1 < ((r1.1.2.1.2.1.set x2.2.2.1.toNat (w64 ((rd (0 : Int) r1.1.2.1.2.1 x2.2.2.1) - 1))).length : Int)) then
                    bif decide (0 ≤ r15.1) && decide (r15.1 < ((r1.1.2.1.2.1.set x2.2.2.1.toNat (w64 ((rd (0 : Int) r1.1.2.1.2.1 x2.2.2.1) - 1))).length : Int)) then
                      (f50 k x2.2.2.1 x1.2.2.1).bind fun r17 =>
                      bif decide (0 ≤ x2.2.1) && decide (x2.2.1 < (r1.1.1.length : Int)) then
                        some ((r1.1.1.set x2.2.1.toNat r17.1, (r1.1.2.1.1, (r1.1.2.1.2.1.set x2.2.2.1.toNat (w64 ((rd (0 : Int) r1.1.2.1.2.1 x2.2.2.1) - 1))).set r15.1.toNat (if 1000 < (w64 ((rd (0 : Int) (r1.1.2.1.2.1.set x2.2.2.1.toNat (w64 ((rd (0 : Int) r1.1.2.1.2.1 x2.2.2.1) - 1))) r16.1) + 1)) then 1000 else w64 ((rd (0 : Int) (r1.1.2.1.2.1.set x2.2.2.1.toNat (w64 ((rd (0 : Int) r1.1.2.1.2.1 x2.2.2.1) - 1))) r16.1) + 1)), ()), w64 (1 - x1.2.2.1), 0, ()), ())
                      else
                        none
                    else
                      none
                  else
                    none
                else
                  (f50 k x2.2.2.1 x1.2.2.1).bind fun r18 =>
                  bif decide (0 ≤ x2.2.1) && decide (x2.2.1 < (r1.1.1.length : Int)) then
                    some ((r1.1.1.set x2.2.1.toNat r18.1, (r1.1.2.1.1, r1.1.2.1.2.1.set x2.2.2.1.toNat (w64 ((rd (0 : Int) r1.1.2.1.2.1 x2.2.2.1) - 1)), ()), w64 (1 - x1.2.2.1), 0, ()), ())
                  else
                    none
              else
                none
            else
              (f50 k x2.2.2.1 x1.2.2.1).bind fun r19 =>
              bif decide (0 ≤ x2.2.1) && decide (x2.2.1 < (r1.1.1.length : Int)) then
                some ((r1.1.1.set x2.2.1.toNat r19.1, (r1.1.2.1.1, r1.1.2.1.2.1.set x2.2.2.1.toNat (w64 ((rd (0 : Int) r1.1.2.1.2.1 x2.2.2.1) - 1)), ()), w64 (1 - x1.2.2.1), 0, ()), ())
              else
                none
          else
            none
        else
          none
      else
        none
    else
      none
  else
  bif decide (0 ≤ x2.1) && decide (x2.1 < (r1.1.1.length : Int)) then
    bif decide (0 ≤ x2.2.1) && decide (x2.2.1 < (x1.1.length : Int)) then
      bif (rd (0 : Int) x1.1 x2.2.1) != 0 then
        bif x1.2.2.1 == 0 then
          bif x0.2.2.2.2.2.2.1 then
            (f49 k (rd (0 : Int) x1.1 x2.2.1)).bind fun r20 =>
            (f49 k (rd (0 : Int) x1.1 x2.2.1)).bind fun r21 =>
            bif decide (0 ≤ r21.1) && decide (r21.1 < (r1.1.2.1.1.length : Int)) then
              bif decide (0 ≤ r20.1) && decide (r20.1 < (r1.1.2.1.1.length : Int)) then
                (f50 k x2.2.2.1 x1.2.2.1).bind fun r22 =>
                bif decide (0 ≤ x2.2.1) && decide (x2.2.1 < ((r1.1.1.set x2.1.toNat 0).length : Int)) then
                  some (((r1.1.1.set x2.1.toNat 0).set x2.2.1.toNat r22.1, (r1.1.2.1.1.set r20.1.toNat (if 1000 < (w64 ((rd (0 : Int) r1.1.2.1.1 r21.1) + 1)) then 1000 else w64 ((rd (0 : Int) r1.1.2.1.1 r21.1) + 1)), r1.1.2.1.2), w64 (1 - x1.2.2.1), 0, ()), ())
                else
                  none
              else
                none
            else
              none
          else
            (f50 k x2.2.2.1 x1.2.2.1).bind fun r23 =>
            bif decide (0 ≤ x2.2.1) && decide (x2.2.1 < ((r1.1.1.set x2.1.toNat 0).length : Int)) then
              some (((r1.1.1.set x2.1.toNat 0).set x2.2.1.toNat r23.1, r1.1.2.1, w64 (1 - x1.2.2.1), 0, ()), ())
            else
              none
        else
        bif x1.2.2.1 == 1 then
          bif x0.2.2.2.2.2.2.1 then
            (f49 k (rd (0 : Int) x1.1 x2.2.1)).bind fun r24 =>
            (f49 k (rd (0 : Int) x1.1 x2.2.1)).bind fun r25 =>
            bif decide (0 ≤ r25.1) && decide (r25.1 < (r1.1.2.1.2.1.length : Int)) then
              bif decide (0 ≤ r24.1) && decide (r24.1 < (r1.1.2.1.2.1.length : Int)) then
                (f50 k x2.2.2.1 x1.2.2.1).bind fun r26 =>
                bif decide (0 ≤ x2.2.1) && decide (x2.2.1 < ((r1.1.1.set x2.1.toNat 0).length : Int)) then
                  some (((r1.1.1.set x2.1.toNat 0).set x2.2.1.toNat r26.1, (r1.1.2.1.1, r1.1.2.1.2.1.set r24.1.toNat (if 1000 < (w64 ((rd (0 : Int) r1.1.2.1.2.1 r25.1) + 1)) then 1000 else w64 ((rd (0 : Int) r1.1.2.1.2.1 r25.1) + 1)), ()), w64 (1 - x1.2.2.1), 0, ()), ())
                else
                  none
              else
                none
            else
              none
          else
            (f50 k x2.2.2.1 x1.2.2.1).bind fun r27 =>
            bif decide (0 ≤ x2.2.1) && decide (x2.2.1 < ((r1.1.1.set x2.1.toNat 0).length : Int)) then
              some (((r1.1.1.set x2.1.toNat 0).set x2.2.1.toNat r27.1, r1.1.2.1, w64 (1 - x1.2.2.1), 0, ()), ())
            else
              none
        else
          none
      else
        (f50 k x2.2.2.1 x1.2.2.1).bind fun r28 =>
        bif decide (0 ≤ x2.2.1) && decide (x2.2.1 < ((r1.1.1.set x2.1.toNat 0).length : Int)) then
          some (((r1.1.1.set x2.1.toNat 0).set x2.2.1.toNat r28.1, r1.1.2.1, w64 (1 - x1.2.2.1), if 200 < (w64 (x1.2.2.2.1 + 1)) then 200 else w64 (x1.2.2.2.1 + 1), ()), ())
        else
          none
    else
      none
  else
    none
noncomputable def f38_sig (k : Nat) : Sig := ⟨[.val (.pair (.str) (.pair (.int .i64) (.pair (.int .i64) (.pair (.sl (.pair (.int .u8) (.pair (.int .i64) (.pair (.int .i64) (.pair (.sl (.pair (.int .i64) (.pair (.int .i64) (.pair (.int .i64) (.pair (.int .i64) (.unit)))))) (.unit)))))) (.pair (.sl (.int .i64)) (.pair (.bool) (.pair (.bool) (.pair (.sl (.pair (.int .i64) (.pair (.int .i64) (.pair (.int .i64) (.pair (.bool) (.unit)))))) (.pair (.int .i64) (.pair (.int .i64) (.pair (.int .i64) (.unit)))))))))))), .val (.pair (.sl (.int .i64)) (.pair (.pair (.sl (.int .i64)) (.pair (.sl (.int .i64)) (.unit))) (.pair (.int .i64) (.pair (.int .i64) (.unit))))), .val (.pair (.int .i64) (.pair (.int .i64) (.pair (.int .i64) (.unit))))], [], [[.cons (.row (.int .i64)) (.cons (.cons (.row (.int .i64)) (.cons (.row (.int .i64)) (.nil))) (.cons (.val (.int .i64)) (.cons (.val (.int .i64)) (.nil))))]], fun x => f38 k x.1 x.2.1 x.2.2.1⟩
noncomputable def E_f38 (k : Nat) : Env := ⟨Try.prog, G0, scons 50 [f50_sig k] (scons 49 [f49_sig k] (scons 31 [f31_sig k] (snil))), tnil, tnil, unil, k, qnil⟩
theorem f38_run (k : Nat) (x : (lTy (lay 0 (f38_sig k).ins)).den) : runF (E_f38 k) Try.f38 (f38_sig k) x = (f38_sig k).F x := by kernel_rfl
theorem f38_ok [Dr] (k : Nat) : FnOK Try.prog G0 38 (f38_sig k) :=
  fn_ok2 (E := E_f38 k) (env_cons (one_sig (f50_ok k)) (env_cons (one_sig (f49_ok k)) (env_cons (one_sig (f31_ok k)) (env_nil)))) (qenv_nil) mixed Try.func38 Try.call38 (by kernel_rfl) (by kernel_rfl) (m := 0) (by kernel_rfl) trivial (sk := []) (by kernel_rfl) trivial (f38_run k)

/-! ### gamehall/moves.After: function 28 -/
noncomputable def f28 (k : Nat) (x0 : ByteArray × Int × Int × (List (Int × Int × Int × (List (Int × Int × Int × Int × Unit)) × Unit)) × (List Int) × Bool × Bool × (List (Int × Int × Int × Bool × Unit)) × Int × Int × Int × Unit) (x1 : (List Int) × ((List Int) × (List Int) × Unit) × Int × Int × Unit) (x2 : Int × Int × Int × Unit) : Option ((((List Int) × ((List Int) × (List Int) × Unit) × Int × Int × Unit) × Int × Unit)) :=
  (f37 k x0 x1 x2).bind fun r1 =>
  bif r1.2.1 != 0 then
    some (([], ([], [], ()), 0, 0, ()), r1.2)
  else
  bif !r1.1 then
    some (([], ([], [], ()), 0, 0, ()), 13, ())
  else
    (f38 k x0 x1 x2).bind fun r2 =>
    some (r2.1, 0, ())
noncomputable def f28_sig (k : Nat) : Sig := ⟨[.val (.pair (.str) (.pair (.int .i64) (.pair (.int .i64) (.pair (.sl (.pair (.int .u8) (.pair (.int .i64) (.pair (.int .i64) (.pair (.sl (.pair (.int .i64) (.pair (.int .i64) (.pair (.int .i64) (.pair (.int .i64) (.unit)))))) (.unit)))))) (.pair (.sl (.int .i64)) (.pair (.bool) (.pair (.bool) (.pair (.sl (.pair (.int .i64) (.pair (.int .i64) (.pair (.int .i64) (.pair (.bool) (.unit)))))) (.pair (.int .i64) (.pair (.int .i64) (.pair (.int .i64) (.unit)))))))))))), .val (.pair (.sl (.int .i64)) (.pair (.pair (.sl (.int .i64)) (.pair (.sl (.int .i64)) (.unit))) (.pair (.int .i64) (.pair (.int .i64) (.unit))))), .val (.pair (.int .i64) (.pair (.int .i64) (.pair (.int .i64) (.unit))))], [], [[.val (.pair (.sl (.int .i64)) (.pair (.pair (.sl (.int .i64)) (.pair (.sl (.int .i64)) (.unit))) (.pair (.int .i64) (.pair (.int .i64) (.unit))))), .val (.int .i64)]], fun x => f28 k x.1 x.2.1 x.2.2.1⟩
noncomputable def E_f28 (k : Nat) : Env := ⟨Try.prog, G0, scons 38 [f38_sig k] (scons 37 [f37_sig k] (snil)), tnil, tnil, unil, k, qnil⟩
theorem f28_run (k : Nat) (x : (lTy (lay 0 (f28_sig k).ins)).den) : runF (E_f28 k) Try.f28 (f28_sig k) x = (f28_sig k).F x := by kernel_rfl
theorem f28_ok [Dr] (k : Nat) : FnOK Try.prog G0 28 (f28_sig k) :=
  fn_ok2 (E := E_f28 k) (env_cons (one_sig (f38_ok k)) (env_cons (one_sig (f37_ok k)) (env_nil))) (qenv_nil) mixed Try.func28 Try.call28 (by kernel_rfl) (by kernel_rfl) (m := 0) (by kernel_rfl) trivial (sk := []) (by kernel_rfl) trivial (f28_run k)

/-! ### (*gamehall/plain.Game).Play: function 17 -/
noncomputable def f17 (k : Nat) (x0 : (ByteArray × Int × Int × (List (Int × Int × Int × (List (Int × Int × Int × Int × Unit)) × Unit)) × (List Int) × Bool × Bool × (List (Int × Int × Int × Bool × Unit)) × Int × Int × Int × Unit) × (List ((List Int) × ((List Int) × (List Int) × Unit) × Int × Int × Unit)) × (List (Int × Int × Int × Unit)) × Unit) (x1 : Int × Int × Int × Unit) : Option ((Int × ((ByteArray × Int × Int × (List (Int × Int × Int × (List (Int × Int × Int × Int × Unit)) × Unit)) × (List Int) × Bool × Bool × (List (Int × Int × Int × Bool × Unit)) × Int × Int × Int × Unit) × (List ((List Int) × ((List Int) × (List Int) × Unit) × Int × Int × Unit)) × (List (Int × Int × Int × Unit)) × Unit) × Unit)) :=
  (f22 k x0).bind fun r1 =>
  bif r1.1 != 0 then
    some (14, x0, ())
  else
  bif decide (0 ≤ (w64 ((x0.2.1.length : Int) - 1))) && decide ((w64 ((x0.2.1.length : Int) - 1)) < (x0.2.1.length : Int)) then
    (f28 k x0.1 (rd (([], ([], [], ()), 0, 0, ()) : (List Int) × ((List Int) × (List Int) × Unit) × Int × Int × Unit) x0.2.1 (w64 ((x0.2.1.length : Int) - 1))) x1).bind fun r2 =>
    bif r2.2.1 != 0 then
      some (13, x0, ())
    else
    bif (x0.2.2.1.length : Int) == 400 then
      some (9, x0, ())
    else
    bif decide ((x0.2.1.length + ([r2.1] : List ((List Int) × ((List Int) × (List Int) × Unit) × Int × Int × Unit)).length) * 88 ≤ roomN) then
      bif decide ((x0.2.2.1.length + ([x1] : List (Int × Int × Int × Unit)).length) * 24 ≤ roomN) then
        some (0, (x0.1, x0.2.1 ++ [r2.1], x0.2.2.1 ++ [x1], ()), ())
      else
        none
    else
      none
  else
    none
noncomputable def f17_sig (k : Nat) : Sig := ⟨[.box (.cons (.val (.pair (.str) (.pair (.int .i64) (.pair (.int .i64) (.pair (.sl (.pair (.int .u8) (.pair (.int .i64) (.pair (.int .i64) (.pair (.sl (.pair (.int .i64) (.pair (.int .i64) (.pair (.int .i64) (.pair (.int .i64) (.unit)))))) (.unit)))))) (.pair (.sl (.int .i64)) (.pair (.bool) (.pair (.bool) (.pair (.sl (.pair (.int .i64) (.pair (.int .i64) (.pair (.int .i64) (.pair (.bool) (.unit)))))) (.pair (.int .i64) (.pair (.int .i64) (.pair (.int .i64) (.unit))))))))))))) (.cons (.row (.pair (.sl (.int .i64)) (.pair (.pair (.sl (.int .i64)) (.pair (.sl (.int .i64)) (.unit))) (.pair (.int .i64) (.pair (.int .i64) (.unit)))))) (.cons (.row (.pair (.int .i64) (.pair (.int .i64) (.pair (.int .i64) (.unit))))) (.nil)))), .val (.pair (.int .i64) (.pair (.int .i64) (.pair (.int .i64) (.unit))))], [0], [[.val (.int .i64), .box (.cons (.val (.pair (.str) (.pair (.int .i64) (.pair (.int .i64) (.pair (.sl (.pair (.int .u8) (.pair (.int .i64) (.pair (.int .i64) (.pair (.sl (.pair (.int .i64) (.pair (.int .i64) (.pair (.int .i64) (.pair (.int .i64) (.unit)))))) (.unit)))))) (.pair (.sl (.int .i64)) (.pair (.bool) (.pair (.bool) (.pair (.sl (.pair (.int .i64) (.pair (.int .i64) (.pair (.int .i64) (.pair (.bool) (.unit)))))) (.pair (.int .i64) (.pair (.int .i64) (.pair (.int .i64) (.unit))))))))))))) (.cons (.row (.pair (.sl (.int .i64)) (.pair (.pair (.sl (.int .i64)) (.pair (.sl (.int .i64)) (.unit))) (.pair (.int .i64) (.pair (.int .i64) (.unit)))))) (.cons (.row (.pair (.int .i64) (.pair (.int .i64) (.pair (.int .i64) (.unit))))) (.nil))))]], fun x => f17 k x.1 x.2.1⟩
noncomputable def E_f17 (k : Nat) : Env := ⟨Try.prog, G0, scons 28 [f28_sig k] (snil), tnil, tnil, unil, k, qcons 22 (f22_q k) (qcons 29 (mkQ Try.prog G0 Try.f29) (qnil))⟩
theorem f17_run (k : Nat) (x : (lTy (lay 0 (f17_sig k).ins)).den) : runF (E_f17 k) Try.f17 (f17_sig k) x = (f17_sig k).F x := by kernel_rfl
theorem f17_ok [Dr] (k : Nat) : FnOK Try.prog G0 17 (f17_sig k) :=
  fn_ok2 (E := E_f17 k) (env_cons (one_sig (f28_ok k)) (env_nil)) (qenv_cons (f22_qok k) (qenv_cons (q_ok mixed Try.func29 Try.call29) (qenv_nil))) mixed Try.func17 Try.call17 (by kernel_rfl) (by kernel_rfl) (m := 0) (by kernel_rfl) trivial (sk := []) (by kernel_rfl) trivial (f17_run k)

/-! ### gamehall/record.first: function 30 -/
noncomputable def l30_2 (k : Nat) : Nat → (List (Int × (Int × Int × Int × Unit) × ByteArray × Unit)) → Int → (List (Int × (Int × Int × Int × Unit) × ByteArray × Unit)) → Int → Int → Option ((Int × Unit) ⊕ (Int × Unit))
  | 0, _, _, _, _, _ => none
  | j + 1, s0, s1, s7, s8, s9 =>
    bif decide (s9 < s8) then
      bif decide (0 ≤ s9) && decide (s9 < (s7.length : Int)) then
        bif decide (0 ≤ s1) && decide (s1 < (s0.length : Int)) then
          bif (rd ((0, (0, 0, 0, ()), (⟨#[]⟩ : ByteArray), ()) : Int × (Int × Int × Int × Unit) × ByteArray × Unit) s7 s9).1 == (rd ((0, (0, 0, 0, ()), (⟨#[]⟩ : ByteArray), ()) : Int × (Int × Int × Int × Unit) × ByteArray × Unit) s0 s1).1 then
            some (.inr (s9, ()))
          else
            l30_2 k j s0 s1 s7 s8 (w64 (s9 + 1))
        else
          none
      else
        none
    else
      some (.inl (s1, ()))
noncomputable def l30_2_sig (k : Nat) : LoopSig := ⟨[(0, .obj (.val (.sl (.pair (.int .i64) (.pair (.pair (.int .i64) (.pair (.int .i64) (.pair (.int .i64) (.unit)))) (.pair (.str) (.unit))))))), (1, .obj (.val (.int .i64))), (7, .obj (.val (.sl (.pair (.int .i64) (.pair (.pair (.int .i64) (.pair (.int .i64) (.pair (.int .i64) (.unit)))) (.pair (.str) (.unit))))))), (8, .obj (.val (.int .i64))), (9, .obj (.val (.int .i64)))], [(.exit 0, [(1, .obj (.val (.int .i64)))]), (.ret, [(4, .obj (.val (.int .i64)))])], fun j x => l30_2 k j x.1 x.2.1 x.2.2.1 x.2.2.2.1 x.2.2.2.2.1⟩
noncomputable def f30 (k : Nat) (x0 : List (Int × (Int × Int × Int × Unit) × ByteArray × Unit)) (x1 : Int) : Option ((Int × Unit)) :=
  (l30_2 k k x0 x1 x0 (x0.length : Int) 0).bind fun w26 =>
  Sum.elim
    (fun y1 =>
      some y1)
    (fun y2 =>
      some y2)
    w26
noncomputable def f30_sig (k : Nat) : Sig := ⟨[.val (.sl (.pair (.int .i64) (.pair (.pair (.int .i64) (.pair (.int .i64) (.pair (.int .i64) (.unit)))) (.pair (.str) (.unit))))), .val (.int .i64)], [], [[.val (.int .i64)]], fun x => f30 k x.1 x.2.1⟩
noncomputable def E_f30 (k : Nat) : Env := ⟨Try.prog, G0, snil, tcons 2 (l30_2_sig k) (tnil), tnil, unil, k, qnil⟩
theorem l30_2_ok (k : Nat) : LoopOK (E_f30 k) ⟨Try.f30.ntmps, [], G0⟩ (nthC 0 (loopsIn (Try.f30.body.getD .skip))) :=
  loop_ok (ls := l30_2_sig k) (by kernel_rfl) (fun _ => by kernel_rfl) (fun j x => by kernel_rfl)
theorem f30_run (k : Nat) (x : (lTy (lay 0 (f30_sig k).ins)).den) : runF (E_f30 k) Try.f30 (f30_sig k) x = (f30_sig k).F x := by kernel_rfl
theorem f30_ok [Dr] (k : Nat) : FnOK Try.prog G0 30 (f30_sig k) :=
  fn_ok2 (E := E_f30 k) (env_nil) (qenv_nil) mixed Try.func30 Try.call30 (by kernel_rfl) (by kernel_rfl) (m := 1) (by kernel_rfl) ⟨trivial, l30_2_ok k⟩ (sk := []) (by kernel_rfl) trivial (f30_run k)

/-! ### gamehall/record.deep: function 18 -/
noncomputable def l18_4 (k : Nat) : Nat → (List (Int × (Int × Int × Int × Unit) × ByteArray × Unit)) → Int → (List Int) → (List (Int × (Int × Int × Int × Unit) × ByteArray × Unit)) → Int → Int → Option ((Int × Unit))
  | 0, _, _, _, _, _, _ => none
  | j + 1, s0, s3, s4, s10, s11, s12 =>
    bif decide (s12 < s11) then
      bif decide (0 ≤ s12) && decide (s12 < (s10.length : Int)) then
        bif decide ((rd ((0, (0, 0, 0, ()), (⟨#[]⟩ : ByteArray), ()) : Int × (Int × Int × Int × Unit) × ByteArray × Unit) s10 s12).1 ≥ 0) then
          bif decide (0 ≤ (rd ((0, (0, 0, 0, ()), (⟨#[]⟩ : ByteArray), ()) : Int × (Int × Int × Int × Unit) × ByteArray × Unit) s10 s12).1) && decide ((rd ((0, (0, 0, 0, ()), (⟨#[]⟩ : ByteArray), ()) : Int × (Int × Int × Int × Unit) × ByteArray × Unit) s10 s12).1 < (s4.length : Int)) then
            bif decide (0 ≤ s12) && decide (s12 < (s4.length : Int)) then
              (f30 k s0 s12).bind fun r1 =>
              bif r1.1 != s12 then
                bif decide (0 ≤ s12) && decide (s12 < ((s4.set s12.toNat (rd (0 : Int) s4 (rd ((0, (0, 0, 0, ()), (⟨#[]⟩ : ByteArray), ()) : Int × (Int × Int × Int × Unit) × ByteArray × Unit) s10 s12).1)).length : Int)) then
                  bif decide (0 ≤ s12) && decide (s12 < ((s4.set s12.toNat (rd (0 : Int) s4 (rd ((0, (0, 0, 0, ()), (⟨#[]⟩ : ByteArray), ()) : Int × (Int × Int × Int × Unit) × ByteArray × Unit) s10 s12).1)).length : Int)) then
                    bif decide (0 ≤ s12) && decide (s12 < (((s4.set s12.toNat (rd (0 : Int) s4 (rd ((0, (0, 0, 0, ()), (⟨#[]⟩ : ByteArray), ()) : Int × (Int × Int × Int × Unit) × ByteArray × Unit) s10 s12).1)).set s12.toNat (w64 ((rd (0 : Int) (s4.set s12.toNat (rd (0 : Int) s4 (rd ((0, (0, 0, 0, ()), (⟨#[]⟩ : ByteArray), ()) : Int × (Int × Int × Int × Unit) × ByteArray × Unit) s10 s12).1)) s12) + 1))).length : Int)) then
                      l18_4 k j s0 (if (rd (0 : Int) ((s4.set s12.toNat (rd (0 : Int) s4 (rd ((0, (0, 0, 0, ()), (⟨#[]⟩ : ByteArray), ()) : Int × (Int × Int × Int × Unit) × ByteArray × Unit) s10 s12).1)).set s12.toNat (w64 ((rd (0 : Int) (s4.set s12.toNat (rd (0 : Int) s4 (rd ((0, (0, 0, 0, ()), (⟨#[]⟩ : ByteArray), ()) : Int × (Int × Int × Int × Unit) × ByteArray × Unit) s10 s12).1)) s12) + 1))) s12) > s3 then rd (0 : Int) ((s4.set s12.toNat (rd (0 : Int) s4 (rd ((0, (0, 0, 0, ()), (⟨#[]⟩ : ByteArray), ()) : Int × (Int × Int × Int × Unit) × ByteArray × Unit) s10 s12).1)).set s12.toNat (w64 ((rd (0 : Int) (s4.set s12.toNat (rd (0 : Int) s4 (rd ((0, (0, 0, 0, ()), (⟨#[]⟩ : ByteArray), ()) : Int × (Int × Int × Int × Unit) × ByteArray × Unit) s10 s12).1)) s12) + 1))) s12 else s3) ((s4.set s12.toNat (rd (0 : Int) s4 (rd ((0, (0, 0, 0, ()), (⟨#[]⟩ : ByteArray), ()) : Int × (Int × Int × Int × Unit) × ByteArray × Unit) s10 s12).1)).set s12.toNat (w64 ((rd (0 : Int) (s4.set s12.toNat (rd (0 : Int) s4 (rd ((0, (0, 0, 0, ()), (⟨#[]⟩ : ByteArray), ()) : Int × (Int × Int × Int × Unit) × ByteArray × Unit) s10 s12).1)) s12) + 1))) s10 s11 (w64 (s12 + 1))
                    else
                      none
                  else
                    none
                else
                  none
              else
              bif decide (0 ≤ s12) && decide (s12 < ((s4.set s12.toNat (rd (0 : Int) s4 (rd ((0, (0, 0, 0, ()), (⟨#[]⟩ : ByteArray), ()) : Int × (Int × Int × Int × Unit) × ByteArray × Unit) s10 s12).1)).length : Int)) then
                l18_4 k j s0 (if (rd (0 : Int) (s4.set s12.toNat (rd (0 : Int) s4 (rd ((0, (0, 0, 0, ()), (⟨#[]⟩ : ByteArray), ()) : Int × (Int × Int × Int × Unit) × ByteArray × Unit) s10 s12).1)) s12) > s3 then rd (0 : Int) (s4.set s12.toNat (rd (0 : Int) s4 (rd ((0, (0, 0, 0, ()), (⟨#[]⟩ : ByteArray), ()) : Int × (Int × Int × Int × Unit) × ByteArray × Unit) s10 s12).1)) s12 else s3) (s4.set s12.toNat (rd (0 : Int) s4 (rd ((0, (0, 0, 0, ()), (⟨#[]⟩ : ByteArray), ()) : Int × (Int × Int × Int × Unit) × ByteArray × Unit) s10 s12).1)) s10 s11 (w64 (s12 + 1))
              else
                none
            else
              none
          else
            none
        else
          (f30 k s0 s12).bind fun r2 =>
          bif r2.1 != s12 then
            bif decide (0 ≤ s12) && decide (s12 < (s4.length : Int)) then
              bif decide (0 ≤ s12) && decide (s12 < (s4.length : Int)) then
                bif decide (0 ≤ s12) && decide (s12 < ((s4.set s12.toNat (w64 ((rd (0 : Int) s4 s12) + 1))).length : Int)) then
                  l18_4 k j s0 (if (rd (0 : Int) (s4.set s12.toNat (w64 ((rd (0 : Int) s4 s12) + 1))) s12) > s3 then rd (0 : Int) (s4.set s12.toNat (w64 ((rd (0 : Int) s4 s12) + 1))) s12 else s3) (s4.set s12.toNat (w64 ((rd (0 : Int) s4 s12) + 1))) s10 s11 (w64 (s12 + 1))
                else
                  none
              else
                none
            else
              none
          else
          bif decide (0 ≤ s12) && decide (s12 < (s4.length : Int)) then
            l18_4 k j s0 (if (rd (0 : Int) s4 s12) > s3 then rd (0 : Int) s4 s12 else s3) s4 s10 s11 (w64 (s12 + 1))
          else
            none
      else
        none
    else
      some (s3, ())
noncomputable def l18_4_sig (k : Nat) : LoopSig := ⟨[(0, .obj (.val (.sl (.pair (.int .i64) (.pair (.pair (.int .i64) (.pair (.int .i64) (.pair (.int .i64) (.unit)))) (.pair (.str) (.unit))))))), (3, .obj (.val (.int .i64))), (4, .obj (.row (.int .i64))), (10, .obj (.val (.sl (.pair (.int .i64) (.pair (.pair (.int .i64) (.pair (.int .i64) (.pair (.int .i64) (.unit)))) (.pair (.str) (.unit))))))), (11, .obj (.val (.int .i64))), (12, .obj (.val (.int .i64)))], [(.exit 0, [(3, .obj (.val (.int .i64)))])], fun j x => l18_4 k j x.1 x.2.1 x.2.2.1 x.2.2.2.1 x.2.2.2.2.1 x.2.2.2.2.2.1⟩
noncomputable def f18 (k : Nat) (x0 : List (Int × (Int × Int × Int × Unit) × ByteArray × Unit)) : Option ((Int × Unit)) :=
  bif decide (0 ≤ (x0.length : Int)) && (decide ((x0.length : Int) ≤ (x0.length : Int)) && decide (((8 : Nat) : Int) * (x0.length : Int) ≤ 281474976710656)) && decide ((x0.length : Int) ≤ 9223372036854775807) then
    (l18_4 k k x0 0 (List.replicate (x0.length : Int).toNat 0) x0 (x0.length : Int) 0).bind fun o1 =>
    some o1
  else
    none
noncomputable def f18_sig (k : Nat) : Sig := ⟨[.val (.sl (.pair (.int .i64) (.pair (.pair (.int .i64) (.pair (.int .i64) (.pair (.int .i64) (.unit)))) (.pair (.str) (.unit)))))], [], [[.val (.int .i64)]], fun x => f18 k x.1⟩
noncomputable def E_f18 (k : Nat) : Env := ⟨Try.prog, G0, scons 30 [f30_sig k] (snil), tcons 4 (l18_4_sig k) (tnil), tnil, unil, k, qnil⟩
theorem l18_4_ok (k : Nat) : LoopOK (E_f18 k) ⟨Try.f18.ntmps, [], G0⟩ (nthC 0 (loopsIn (Try.f18.body.getD .skip))) :=
  loop_ok (ls := l18_4_sig k) (by kernel_rfl) (fun _ => by kernel_rfl) (fun j x => by kernel_rfl)
theorem f18_run (k : Nat) (x : (lTy (lay 0 (f18_sig k).ins)).den) : runF (E_f18 k) Try.f18 (f18_sig k) x = (f18_sig k).F x := by kernel_rfl
theorem f18_ok [Dr] (k : Nat) : FnOK Try.prog G0 18 (f18_sig k) :=
  fn_ok2 (E := E_f18 k) (env_cons (one_sig (f30_ok k)) (env_nil)) (qenv_nil) mixed Try.func18 Try.call18 (by kernel_rfl) (by kernel_rfl) (m := 1) (by kernel_rfl) ⟨trivial, l18_4_ok k⟩ (sk := []) (by kernel_rfl) trivial (f18_run k)

/-! ### gamehall/record.Check: function 7 -/
noncomputable def l7_14 (k : Nat) : Nat → ((List (ByteArray × ByteArray × Unit)) × ByteArray × (List (Int × (Int × Int × Int × Unit) × ByteArray × Unit)) × Int × Unit) → ((ByteArray × Int × Int × (List (Int × Int × Int × (List (Int × Int × Int × Int × Unit)) × Unit)) × (List Int) × Bool × Bool × (List (Int × Int × Int × Bool × Unit)) × Int × Int × Int × Unit) × (List ((List Int) × ((List Int) × (List Int) × Unit) × Int × Int × Unit)) × (List (Int × Int × Int × Unit)) × Unit) → (List Int) → Int → (Int × (Int × Int × Int × Unit) × ByteArray × Unit) → (List (Int × (Int × Int × Int × Unit) × ByteArray × Unit)) → Int → Int → Option ((((List (ByteArray × ByteArray × Unit)) × ByteArray × (List (Int × (Int × Int × Int × Unit) × ByteArray × Unit)) × Int × Unit) × ((ByteArray × Int × Int × (List (Int × Int × Int × (List (Int × Int × Int × Int × Unit)) × Unit)) × (List Int) × Bool × Bool × (List (Int × Int × Int × Bool × Unit)) × Int × Int × Int × Unit) × (List ((List Int) × ((List Int) × (List Int) × Unit) × Int × Int × Unit)) × (List (Int × Int × Int × Unit)) × Unit) × (List Int) × Int × (Int × (Int × Int × Int × Unit) × ByteArray × Unit) × (List (Int × (Int × Int × Int × Unit) × ByteArray × Unit)) × Int × Int × Unit))
  | 0, _, _, _, _, _, _, _, _ => none
  | j + 1, s3, s5, s8, s9, s10, s29, s30, s31 =>
    bif decide ((s8.length : Int) > 0) then
      bif decide (0 ≤ (w64 ((s8.length : Int) - 1))) && decide ((w64 ((s8.length : Int) - 1)) < (s8.length : Int)) then
        bif (rd (0 : Int) s8 (w64 ((s8.length : Int) - 1))) != s10.1 then
          bif decide (0 ≤ (w64 ((s8.length : Int) - 1))) && decide ((w64 ((s8.length : Int) - 1)) ≤ (s8.length : Int)) then
            (f16 k s5).bind fun r1 =>
            l7_14 k j s3 r1.2.1 (first (w64 ((s8.length : Int) - 1)).toNat s8) s9 s10 s29 s30 s31
          else
            none
        else
          some (s3, s5, s8, s9, s10, s29, s30, s31, ())
      else
        none
    else
      some (s3, s5, s8, s9, s10, s29, s30, s31, ())
noncomputable def l7_14_sig (k : Nat) : LoopSig := ⟨[(3, .obj (.box (.val (.pair (.sl (.pair (.str) (.pair (.str) (.unit)))) (.pair (.str) (.pair (.sl (.pair (.int .i64) (.pair (.pair (.int .i64) (.pair (.int .i64) (.pair (.int .i64) (.unit)))) (.pair (.str) (.unit))))) (.pair (.int .i64) (.unit)))))))), (5, .obj (.box (.cons (.val (.pair (.str) (.pair (.int .i64) (.pair (.int .i64) (.pair (.sl (.pair (.int .u8) (.pair (.int .i64) (.pair (.int .i64) (.pair (.sl (.pair (.int .i64) (.pair (.int .i64) (.pair (.int .i64) (.pair (.int .i64) (.unit)))))) (.unit)))))) (.pair (.sl (.int .i64)) (.pair (.bool) (.pair (.bool) (.pair (.sl (.pair (.int .i64) (.pair (.int .i64) (.pair (.int .i64) (.pair (.bool) (.unit)))))) (.pair (.int .i64) (.pair (.int .i64) (.pair (.int .i64) (.unit))))))))))))) (.cons (.row (.pair (.sl (.int .i64)) (.pair (.pair (.sl (.int .i64)) (.pair (.sl (.int .i64)) (.unit))) (.pair (.int .i64) (.pair (.int .i64) (.unit)))))) (.cons (.row (.pair (.int .i64) (.pair (.int .i64) (.pair (.int .i64) (.unit))))) (.nil)))))), (8, .obj (.row (.int .i64))), (9, .obj (.val (.int .i64))), (10, .obj (.box (.val (.pair (.int .i64) (.pair (.pair (.int .i64) (.pair (.int .i64) (.pair (.int .i64) (.unit)))) (.pair (.str) (.unit))))))), (29, .obj (.val (.sl (.pair (.int .i64) (.pair (.pair (.int .i64) (.pair (.int .i64) (.pair (.int .i64) (.unit)))) (.pair (.str) (.unit))))))), (30, .obj (.val (.int .i64))), (31, .obj (.val (.int .i64)))], [(.exit 2, [(3, .obj (.box (.val (.pair (.sl (.pair (.str) (.pair (.str) (.unit)))) (.pair (.str) (.pair (.sl (.pair (.int .i64) (.pair (.pair (.int .i64) (.pair (.int .i64) (.pair (.int .i64) (.unit)))) (.pair (.str) (.unit))))) (.pair (.int .i64) (.unit)))))))), (5, .obj (.box (.cons (.val (.pair (.str) (.pair (.int .i64) (.pair (.int .i64) (.pair (.sl (.pair (.int .u8) (.pair (.int .i64) (.pair (.int .i64) (.pair (.sl (.pair (.int .i64) (.pair (.int .i64) (.pair (.int .i64) (.pair (.int .i64) (.unit)))))) (.unit)))))) (.pair (.sl (.int .i64)) (.pair (.bool) (.pair (.bool) (.pair (.sl (.pair (.int .i64) (.pair (.int .i64) (.pair (.int .i64) (.pair (.bool) (.unit)))))) (.pair (.int .i64) (.pair (.int .i64) (.pair (.int .i64) (.unit))))))))))))) (.cons (.row (.pair (.sl (.int .i64)) (.pair (.pair (.sl (.int .i64)) (.pair (.sl (.int .i64)) (.unit))) (.pair (.int .i64) (.pair (.int .i64) (.unit)))))) (.cons (.row (.pair (.int .i64) (.pair (.int .i64) (.pair (.int .i64) (.unit))))) (.nil)))))), (8, .obj (.row (.int .i64))), (9, .obj (.val (.int .i64))), (10, .obj (.box (.val (.pair (.int .i64) (.pair (.pair (.int .i64) (.pair (.int .i64) (.pair (.int .i64) (.unit)))) (.pair (.str) (.unit))))))), (29, .obj (.val (.sl (.pair (.int .i64) (.pair (.pair (.int .i64) (.pair (.int .i64) (.pair (.int .i64) (.unit)))) (.pair (.str) (.unit))))))), (30, .obj (.val (.int .i64))), (31, .obj (.val (.int .i64)))])], fun j x => l7_14 k j x.1 x.2.1 x.2.2.1 x.2.2.2.1 x.2.2.2.2.1 x.2.2.2.2.2.1 x.2.2.2.2.2.2.1 x.2.2.2.2.2.2.2.1⟩
noncomputable def l7_20 (k : Nat) : Nat → ((List (ByteArray × ByteArray × Unit)) × ByteArray × (List (Int × (Int × Int × Int × Unit) × ByteArray × Unit)) × Int × Unit) → ((ByteArray × Int × Int × (List (Int × Int × Int × (List (Int × Int × Int × Int × Unit)) × Unit)) × (List Int) × Bool × Bool × (List (Int × Int × Int × Bool × Unit)) × Int × Int × Int × Unit) × (List ((List Int) × ((List Int) × (List Int) × Unit) × Int × Int × Unit)) × (List (Int × Int × Int × Unit)) × Unit) → (List Int) → Int → (Int × (Int × Int × Int × Unit) × ByteArray × Unit) → (List (Int × (Int × Int × Int × Unit) × ByteArray × Unit)) → Int → Int → (List (Int × (Int × Int × Int × Unit) × ByteArray × Unit)) → Int → Int → Option ((((List (ByteArray × ByteArray × Unit)) × ByteArray × (List (Int × (Int × Int × Int × Unit) × ByteArray × Unit)) × Int × Unit) × ((ByteArray × Int × Int × (List (Int × Int × Int × (List (Int × Int × Int × Int × Unit)) × Unit)) × (List Int) × Bool × Bool × (List (Int × Int × Int × Bool × Unit)) × Int × Int × Int × Unit) × (List ((List Int) × ((List Int) × (List Int) × Unit) × Int × Int × Unit)) × (List (Int × Int × Int × Unit)) × Unit) × (List Int) × Int × (Int × (Int × Int × Int × Unit) × ByteArray × Unit) × (List (Int × (Int × Int × Int × Unit) × ByteArray × Unit)) × Int × Int × Unit) ⊕ (Int × Unit))
  | 0, _, _, _, _, _, _, _, _, _, _, _ => none
  | j + 1, s3, s5, s8, s9, s10, s29, s30, s31, s74, s75, s76 =>
    bif decide (s76 < s75) then
      bif decide (0 ≤ s76) && decide (s76 < (s74.length : Int)) then
        bif (rd ((0, (0, 0, 0, ()), (⟨#[]⟩ : ByteArray), ()) : Int × (Int × Int × Int × Unit) × ByteArray × Unit) s74 s76).1 == s10.1 then
          bif ((rd ((0, (0, 0, 0, ()), (⟨#[]⟩ : ByteArray), ()) : Int × (Int × Int × Int × Unit) × ByteArray × Unit) s74 s76).2.1.1 == s10.2.1.1) && (((rd ((0, (0, 0, 0, ()), (⟨#[]⟩ : ByteArray), ()) : Int × (Int × Int × Int × Unit) × ByteArray × Unit) s74 s76).2.1.2.1 == s10.2.1.2.1) && (((rd ((0, (0, 0, 0, ()), (⟨#[]⟩ : ByteArray), ()) : Int × (Int × Int × Int × Unit) × ByteArray × Unit) s74 s76).2.1.2.2.1 == s10.2.1.2.2.1) && true)) then
            some (.inr (7, ()))
          else
            l7_20 k j s3 s5 s8 s9 s10 s29 s30 s31 s74 s75 (w64 (s76 + 1))
        else
          l7_20 k j s3 s5 s8 s9 s10 s29 s30 s31 s74 s75 (w64 (s76 + 1))
      else
        none
    else
      some (.inl (s3, s5, s8, s9, s10, s29, s30, s31, ()))
noncomputable def l7_20_sig (k : Nat) : LoopSig := ⟨[(3, .obj (.box (.val (.pair (.sl (.pair (.str) (.pair (.str) (.unit)))) (.pair (.str) (.pair (.sl (.pair (.int .i64) (.pair (.pair (.int .i64) (.pair (.int .i64) (.pair (.int .i64) (.unit)))) (.pair (.str) (.unit))))) (.pair (.int .i64) (.unit)))))))), (5, .obj (.box (.cons (.val (.pair (.str) (.pair (.int .i64) (.pair (.int .i64) (.pair (.sl (.pair (.int .u8) (.pair (.int .i64) (.pair (.int .i64) (.pair (.sl (.pair (.int .i64) (.pair (.int .i64) (.pair (.int .i64) (.pair (.int .i64) (.unit)))))) (.unit)))))) (.pair (.sl (.int .i64)) (.pair (.bool) (.pair (.bool) (.pair (.sl (.pair (.int .i64) (.pair (.int .i64) (.pair (.int .i64) (.pair (.bool) (.unit)))))) (.pair (.int .i64) (.pair (.int .i64) (.pair (.int .i64) (.unit))))))))))))) (.cons (.row (.pair (.sl (.int .i64)) (.pair (.pair (.sl (.int .i64)) (.pair (.sl (.int .i64)) (.unit))) (.pair (.int .i64) (.pair (.int .i64) (.unit)))))) (.cons (.row (.pair (.int .i64) (.pair (.int .i64) (.pair (.int .i64) (.unit))))) (.nil)))))), (8, .obj (.row (.int .i64))), (9, .obj (.val (.int .i64))), (10, .obj (.box (.val (.pair (.int .i64) (.pair (.pair (.int .i64) (.pair (.int .i64) (.pair (.int .i64) (.unit)))) (.pair (.str) (.unit))))))), (29, .obj (.val (.sl (.pair (.int .i64) (.pair (.pair (.int .i64) (.pair (.int .i64) (.pair (.int .i64) (.unit)))) (.pair (.str) (.unit))))))), (30, .obj (.val (.int .i64))), (31, .obj (.val (.int .i64))), (74, .obj (.val (.sl (.pair (.int .i64) (.pair (.pair (.int .i64) (.pair (.int .i64) (.pair (.int .i64) (.unit)))) (.pair (.str) (.unit))))))), (75, .obj (.val (.int .i64))), (76, .obj (.val (.int .i64)))], [(.exit 4, [(3, .obj (.box (.val (.pair (.sl (.pair (.str) (.pair (.str) (.unit)))) (.pair (.str) (.pair (.sl (.pair (.int .i64) (.pair (.pair (.int .i64) (.pair (.int .i64) (.pair (.int .i64) (.unit)))) (.pair (.str) (.unit))))) (.pair (.int .i64) (.unit)))))))), (5, .obj (.box (.cons (.val (.pair (.str) (.pair (.int .i64) (.pair (.int .i64) (.pair (.sl (.pair (.int .u8) (.pair (.int .i64) (.pair (.int .i64) (.pair (.sl (.pair (.int .i64) (.pair (.int .i64) (.pair (.int .i64) (.pair (.int .i64) (.unit)))))) (.unit)))))) (.pair (.sl (.int .i64)) (.pair (.bool) (.pair (.bool) (.pair (.sl (.pair (.int .i64) (.pair (.int .i64) (.pair (.int .i64) (.pair (.bool) (.unit)))))) (.pair (.int .i64) (.pair (.int .i64) (.pair (.int .i64) (.unit))))))))))))) (.cons (.row (.pair (.sl (.int .i64)) (.pair (.pair (.sl (.int .i64)) (.pair (.sl (.int .i64)) (.unit))) (.pair (.int .i64) (.pair (.int .i64) (.unit)))))) (.cons (.row (.pair (.int .i64) (.pair (.int .i64) (.pair (.int .i64) (.unit))))) (.nil)))))), (8, .obj (.row (.int .i64))), (9, .obj (.val (.int .i64))), (10, .obj (.box (.val (.pair (.int .i64) (.pair (.pair (.int .i64) (.pair (.int .i64) (.pair (.int .i64) (.unit)))) (.pair (.str) (.unit))))))), (29, .obj (.val (.sl (.pair (.int .i64) (.pair (.pair (.int .i64) (.pair (.int .i64) (.pair (.int .i64) (.unit)))) (.pair (.str) (.unit))))))), (30, .obj (.val (.int .i64))), (31, .obj (.val (.int .i64)))]), (.ret, [(4, .obj (.val (.int .i64)))])], fun j x => l7_20 k j x.1 x.2.1 x.2.2.1 x.2.2.2.1 x.2.2.2.2.1 x.2.2.2.2.2.1 x.2.2.2.2.2.2.1 x.2.2.2.2.2.2.2.1 x.2.2.2.2.2.2.2.2.1 x.2.2.2.2.2.2.2.2.2.1 x.2.2.2.2.2.2.2.2.2.2.1⟩
noncomputable def l7_9 (k : Nat) : Nat → ((List (ByteArray × ByteArray × Unit)) × ByteArray × (List (Int × (Int × Int × Int × Unit) × ByteArray × Unit)) × Int × Unit) → ((ByteArray × Int × Int × (List (Int × Int × Int × (List (Int × Int × Int × Int × Unit)) × Unit)) × (List Int) × Bool × Bool × (List (Int × Int × Int × Bool × Unit)) × Int × Int × Int × Unit) × (List ((List Int) × ((List Int) × (List Int) × Unit) × Int × Int × Unit)) × (List (Int × Int × Int × Unit)) × Unit) → (List Int) → (List (Int × (Int × Int × Int × Unit) × ByteArray × Unit)) → Int → Int → Option ((((List (ByteArray × ByteArray × Unit)) × ByteArray × (List (Int × (Int × Int × Int × Unit) × ByteArray × Unit)) × Int × Unit) × Unit) ⊕ (Int × Unit))
  | 0, _, _, _, _, _, _ => none
  | j + 1, s3, s5, s8, s29, s30, s31 =>
    bif decide (s31 < s30) then
      bif decide (0 ≤ s31) && decide (s31 < (s29.length : Int)) then
        (f15 k (rd ((0, (0, 0, 0, ()), (⟨#[]⟩ : ByteArray), ()) : Int × (Int × Int × Int × Unit) × ByteArray × Unit) s29 s31).2.2.1).bind fun r1 =>
        bif r1.1 != 0 then
          some (.inr r1)
        else
          (l7_14 k k s3 s5 s8 s31 (rd ((0, (0, 0, 0, ()), (⟨#[]⟩ : ByteArray), ()) : Int × (Int × Int × Int × Unit) × ByteArray × Unit) s29 s31) s29 s30 s31).bind fun o2 =>
          bif o2.2.2.2.2.1.1 != (-1) then
            bif (o2.2.2.1.length : Int) == 0 then
              some (.inr (3, ()))
            else
            bif decide (0 ≤ o2.2.2.2.1) && decide (o2.2.2.2.1 ≤ (o2.1.2.2.1.length : Int)) then
              (l7_20 k k o2.1 o2.2.1 o2.2.2.1 o2.2.2.2.1 o2.2.2.2.2.1 o2.2.2.2.2.2.1 o2.2.2.2.2.2.2.1 o2.2.2.2.2.2.2.2.1 (sliceOf o2.1.2.2.1 0 o2.2.2.2.1) ((sliceOf o2.1.2.2.1 0 o2.2.2.2.1).length : Int) 0).bind fun w27 =>
              Sum.elim
                (fun y3 =>
                  (f17 k y3.2.1 y3.2.2.2.2.1.2.1).bind fun r4 =>
                  bif r4.1 != 0 then
                    some (.inr (r4.1, ()))
                  else
                  bif decide ((y3.2.2.1.length + [y3.2.2.2.1].length) * 8 ≤ roomN) then
                    l7_9 k j y3.1 r4.2.1 (y3.2.2.1 ++ [y3.2.2.2.1]) y3.2.2.2.2.2.1 y3.2.2.2.2.2.2.1 (w64 (y3.2.2.2.2.2.2.2.1 + 1))
                  else
                    none)
                (fun y5 =>
                  some (.inr y5))
                w27
            else
              none
          else
          bif decide (0 ≤ o2.2.2.2.1) && decide (o2.2.2.2.1 ≤ (o2.1.2.2.1.length : Int)) then
            (l7_20 k k o2.1 o2.2.1 o2.2.2.1 o2.2.2.2.1 o2.2.2.2.2.1 o2.2.2.2.2.2.1 o2.2.2.2.2.2.2.1 o2.2.2.2.2.2.2.2.1 (sliceOf o2.1.2.2.1 0 o2.2.2.2.1) ((sliceOf o2.1.2.2.1 0 o2.2.2.2.1).length : Int) 0).bind fun w28 =>
            Sum.elim
              (fun y6 =>
                (f17 k y6.2.1 y6.2.2.2.2.1.2.1).bind fun r7 =>
                bif r7.1 != 0 then
                  some (.inr (r7.1, ()))
                else
                bif decide ((y6.2.2.1.length + [y6.2.2.2.1].length) * 8 ≤ roomN) then
                  l7_9 k j y6.1 r7.2.1 (y6.2.2.1 ++ [y6.2.2.2.1]) y6.2.2.2.2.2.1 y6.2.2.2.2.2.2.1 (w64 (y6.2.2.2.2.2.2.2.1 + 1))
                else
                  none)
              (fun y8 =>
                some (.inr y8))
              w28
          else
            none
      else
        none
    else
      some (.inl (s3, ()))
noncomputable def l7_9_sig (k : Nat) : LoopSig := ⟨[(3, .obj (.box (.val (.pair (.sl (.pair (.str) (.pair (.str) (.unit)))) (.pair (.str) (.pair (.sl (.pair (.int .i64) (.pair (.pair (.int .i64) (.pair (.int .i64) (.pair (.int .i64) (.unit)))) (.pair (.str) (.unit))))) (.pair (.int .i64) (.unit)))))))), (5, .obj (.box (.cons (.val (.pair (.str) (.pair (.int .i64) (.pair (.int .i64) (.pair (.sl (.pair (.int .u8) (.pair (.int .i64) (.pair (.int .i64) (.pair (.sl (.pair (.int .i64) (.pair (.int .i64) (.pair (.int .i64) (.pair (.int .i64) (.unit)))))) (.unit)))))) (.pair (.sl (.int .i64)) (.pair (.bool) (.pair (.bool) (.pair (.sl (.pair (.int .i64) (.pair (.int .i64) (.pair (.int .i64) (.pair (.bool) (.unit)))))) (.pair (.int .i64) (.pair (.int .i64) (.pair (.int .i64) (.unit))))))))))))) (.cons (.row (.pair (.sl (.int .i64)) (.pair (.pair (.sl (.int .i64)) (.pair (.sl (.int .i64)) (.unit))) (.pair (.int .i64) (.pair (.int .i64) (.unit)))))) (.cons (.row (.pair (.int .i64) (.pair (.int .i64) (.pair (.int .i64) (.unit))))) (.nil)))))), (8, .obj (.row (.int .i64))), (29, .obj (.val (.sl (.pair (.int .i64) (.pair (.pair (.int .i64) (.pair (.int .i64) (.pair (.int .i64) (.unit)))) (.pair (.str) (.unit))))))), (30, .obj (.val (.int .i64))), (31, .obj (.val (.int .i64)))], [(.exit 0, [(3, .obj (.box (.val (.pair (.sl (.pair (.str) (.pair (.str) (.unit)))) (.pair (.str) (.pair (.sl (.pair (.int .i64) (.pair (.pair (.int .i64) (.pair (.int .i64) (.pair (.int .i64) (.unit)))) (.pair (.str) (.unit))))) (.pair (.int .i64) (.unit))))))))]), (.ret, [(4, .obj (.val (.int .i64)))])], fun j x => l7_9 k j x.1 x.2.1 x.2.2.1 x.2.2.2.1 x.2.2.2.2.1 x.2.2.2.2.2.1⟩
noncomputable def f7 (k : Nat) (x0 : ByteArray × Int × Int × (List (Int × Int × Int × (List (Int × Int × Int × Int × Unit)) × Unit)) × (List Int) × Bool × Bool × (List (Int × Int × Int × Bool × Unit)) × Int × Int × Int × Unit) (x1 : (List (ByteArray × ByteArray × Unit)) × ByteArray × (List (Int × (Int × Int × Int × Unit) × ByteArray × Unit)) × Int × Unit) : Option ((Int × Unit)) :=
  (f13 k x0).bind fun w29 =>
  Sum.elim
    (fun y1 =>
      bif y1.2.1 != 0 then
        some y1.2
      else
        (f14 k x1).bind fun r2 =>
        bif r2.1 != 0 then
          some r2
        else
          (l7_9 k k x1 y1.1 [] x1.2.2.1 (x1.2.2.1.length : Int) 0).bind fun w30 =>
          Sum.elim
            (fun y3 =>
              (f18 k y3.1.2.2.1).bind fun r4 =>
              bif decide (r4.1 > 20) then
                some (2, ())
              else
                some (0, ()))
            (fun y5 =>
              some y5)
            w30)
    (fun y6 =>
      bif y6.2.1 != 0 then
        some y6.2
      else
        (f14 k x1).bind fun r7 =>
        bif r7.1 != 0 then
          some r7
        else
          none)
    w29
noncomputable def f7_sig (k : Nat) : Sig := ⟨[.val (.pair (.str) (.pair (.int .i64) (.pair (.int .i64) (.pair (.sl (.pair (.int .u8) (.pair (.int .i64) (.pair (.int .i64) (.pair (.sl (.pair (.int .i64) (.pair (.int .i64) (.pair (.int .i64) (.pair (.int .i64) (.unit)))))) (.unit)))))) (.pair (.sl (.int .i64)) (.pair (.bool) (.pair (.bool) (.pair (.sl (.pair (.int .i64) (.pair (.int .i64) (.pair (.int .i64) (.pair (.bool) (.unit)))))) (.pair (.int .i64) (.pair (.int .i64) (.pair (.int .i64) (.unit)))))))))))), .val (.pair (.sl (.pair (.str) (.pair (.str) (.unit)))) (.pair (.str) (.pair (.sl (.pair (.int .i64) (.pair (.pair (.int .i64) (.pair (.int .i64) (.pair (.int .i64) (.unit)))) (.pair (.str) (.unit))))) (.pair (.int .i64) (.unit)))))], [], [[.val (.int .i64)]], fun x => f7 k x.1 x.2.1⟩
noncomputable def E_f7 (k : Nat) : Env := ⟨Try.prog, G0, scons 18 [f18_sig k] (scons 17 [f17_sig k] (scons 16 [f16_sig k] (scons 15 [f15_sig k] (scons 14 [f14_sig k] (scons 13 [f13_sig k] (snil)))))), tcons 9 (l7_9_sig k) (tcons 20 (l7_20_sig k) (tcons 14 (l7_14_sig k) (tnil))), tnil, unil, k, qnil⟩
theorem l7_9_ok (k : Nat) : LoopOK (E_f7 k) ⟨Try.f7.ntmps, [], G0⟩ (nthC 0 (loopsIn (Try.f7.body.getD .skip))) :=
  loop_ok (ls := l7_9_sig k) (by kernel_rfl) (fun _ => by kernel_rfl) (fun j x => by kernel_rfl)
theorem l7_14_ok (k : Nat) : LoopOK (E_f7 k) ⟨Try.f7.ntmps, [], G0⟩ (nthC 1 (loopsIn (Try.f7.body.getD .skip))) :=
  loop_ok (ls := l7_14_sig k) (by kernel_rfl) (fun _ => by kernel_rfl) (fun j x => by kernel_rfl)
theorem l7_20_ok (k : Nat) : LoopOK (E_f7 k) ⟨Try.f7.ntmps, [], G0⟩ (nthC 2 (loopsIn (Try.f7.body.getD .skip))) :=
  loop_ok (ls := l7_20_sig k) (by kernel_rfl) (fun _ => by kernel_rfl) (fun j x => by kernel_rfl)
theorem f7_run (k : Nat) (x : (lTy (lay 0 (f7_sig k).ins)).den) : runF (E_f7 k) Try.f7 (f7_sig k) x = (f7_sig k).F x := by kernel_rfl
theorem f7_ok [Dr] (k : Nat) : FnOK Try.prog G0 7 (f7_sig k) :=
  fn_ok2 (E := E_f7 k) (env_cons (one_sig (f18_ok k)) (env_cons (one_sig (f17_ok k)) (env_cons (one_sig (f16_ok k)) (env_cons (one_sig (f15_ok k)) (env_cons (one_sig (f14_ok k)) (env_cons (one_sig (f13_ok k)) (env_nil))))))) (qenv_nil) mixed Try.func7 Try.call7 (by kernel_rfl) (by kernel_rfl) (m := 3) (by kernel_rfl) ⟨⟨⟨trivial, l7_9_ok k⟩, l7_14_ok k⟩, l7_20_ok k⟩ (sk := []) (by kernel_rfl) trivial (f7_run k)

/-! ### gamehall/annotate.args: function 19 -/
noncomputable def f19 (k : Nat) (x0 : ByteArray × Int × Int × (List (Int × Int × Int × (List (Int × Int × Int × Int × Unit)) × Unit)) × (List Int) × Bool × Bool × (List (Int × Int × Int × Bool × Unit)) × Int × Int × Int × Unit) (x1 : (List (ByteArray × ByteArray × Unit)) × ByteArray × (List (Int × (Int × Int × Int × Unit) × ByteArray × Unit)) × Int × Unit) (x2 : Int) : Option ((Int × Unit)) :=
  (f7 k x0 x1).bind fun r1 =>
  bif r1.1 != 0 then
    some r1
  else
  bif decide (x2 < 0) then
    some (1, ())
  else
  bif decide (x2 ≥ (x1.2.2.1.length : Int)) then
    some (1, ())
  else
    some (0, ())
noncomputable def f19_sig (k : Nat) : Sig := ⟨[.val (.pair (.str) (.pair (.int .i64) (.pair (.int .i64) (.pair (.sl (.pair (.int .u8) (.pair (.int .i64) (.pair (.int .i64) (.pair (.sl (.pair (.int .i64) (.pair (.int .i64) (.pair (.int .i64) (.pair (.int .i64) (.unit)))))) (.unit)))))) (.pair (.sl (.int .i64)) (.pair (.bool) (.pair (.bool) (.pair (.sl (.pair (.int .i64) (.pair (.int .i64) (.pair (.int .i64) (.pair (.bool) (.unit)))))) (.pair (.int .i64) (.pair (.int .i64) (.pair (.int .i64) (.unit)))))))))))), .val (.pair (.sl (.pair (.str) (.pair (.str) (.unit)))) (.pair (.str) (.pair (.sl (.pair (.int .i64) (.pair (.pair (.int .i64) (.pair (.int .i64) (.pair (.int .i64) (.unit)))) (.pair (.str) (.unit))))) (.pair (.int .i64) (.unit))))), .val (.int .i64)], [], [[.val (.int .i64)]], fun x => f19 k x.1 x.2.1 x.2.2.1⟩
noncomputable def E_f19 (k : Nat) : Env := ⟨Try.prog, G0, scons 7 [f7_sig k] (snil), tnil, tnil, unil, k, qnil⟩
theorem f19_run (k : Nat) (x : (lTy (lay 0 (f19_sig k).ins)).den) : runF (E_f19 k) Try.f19 (f19_sig k) x = (f19_sig k).F x := by kernel_rfl
theorem f19_ok [Dr] (k : Nat) : FnOK Try.prog G0 19 (f19_sig k) :=
  fn_ok2 (E := E_f19 k) (env_cons (one_sig (f7_ok k)) (env_nil)) (qenv_nil) mixed Try.func19 Try.call19 (by kernel_rfl) (by kernel_rfl) (m := 0) (by kernel_rfl) trivial (sk := []) (by kernel_rfl) trivial (f19_run k)

/-! ### gamehall/annotate.path: function 20 -/
noncomputable def f20_body (k : Nat) (rec : (List (Int × (Int × Int × Int × Unit) × ByteArray × Unit)) → Int → Option (((List (Int × Int × Int × Unit)) × Unit))) (x0 : List (Int × (Int × Int × Int × Unit) × ByteArray × Unit)) (x1 : Int) : Option (((List (Int × Int × Int × Unit)) × Unit)) :=
  bif decide (x1 < 0) then
    some ([], ())
  else
  bif decide (0 ≤ x1) && decide (x1 < (x0.length : Int)) then
    (rec x0 (rd ((0, (0, 0, 0, ()), (⟨#[]⟩ : ByteArray), ()) : Int × (Int × Int × Int × Unit) × ByteArray × Unit) x0 x1).1).bind fun r1 =>
    bif decide (0 ≤ x1) && decide (x1 < (x0.length : Int)) then
      bif decide ((r1.1.length + ([(rd ((0, (0, 0, 0, ()), (⟨#[]⟩ : ByteArray), ()) : Int × (Int × Int × Int × Unit) × ByteArray × Unit) x0 x1).2.1] : List (Int × Int × Int × Unit)).length) * 24 ≤ roomN) then
        some (r1.1 ++ [(rd ((0, (0, 0, 0, ()), (⟨#[]⟩ : ByteArray), ()) : Int × (Int × Int × Int × Unit) × ByteArray × Unit) x0 x1).2.1], ())
      else
        none
    else
      none
  else
    none
noncomputable def f20_at (k : Nat) : Nat → (List (Int × (Int × Int × Int × Unit) × ByteArray × Unit)) → Int → Option (((List (Int × Int × Int × Unit)) × Unit))
  | 0, _, _ => none
  | d + 1, x0, x1 => f20_body k (f20_at k d) x0 x1
noncomputable def f20 (k : Nat) (x0 : List (Int × (Int × Int × Int × Unit) × ByteArray × Unit)) (x1 : Int) : Option (((List (Int × Int × Int × Unit)) × Unit)) := f20_at k k x0 x1
noncomputable def f20_sig_at (k d : Nat) : Sig := ⟨[.val (.sl (.pair (.int .i64) (.pair (.pair (.int .i64) (.pair (.int .i64) (.pair (.int .i64) (.unit)))) (.pair (.str) (.unit))))), .val (.int .i64)], [], [[.row (.pair (.int .i64) (.pair (.int .i64) (.pair (.int .i64) (.unit))))]], fun x => f20_at k d x.1 x.2.1⟩
noncomputable def f20_sig (k : Nat) : Sig := ⟨[.val (.sl (.pair (.int .i64) (.pair (.pair (.int .i64) (.pair (.int .i64) (.pair (.int .i64) (.unit)))) (.pair (.str) (.unit))))), .val (.int .i64)], [], [[.row (.pair (.int .i64) (.pair (.int .i64) (.pair (.int .i64) (.unit))))]], fun x => f20 k x.1 x.2.1⟩
noncomputable def E_f20 (k d : Nat) : Env := ⟨Try.prog, G0, scons 20 [f20_sig_at k d] (snil), tnil, tnil, unil, k, qnil⟩
theorem f20_run (k d : Nat) (x : (lTy (lay 0 (f20_sig_at k (d + 1)).ins)).den) : runF (E_f20 k d) Try.f20 (f20_sig_at k (d + 1)) x = (f20_sig_at k (d + 1)).F x := by kernel_rfl
theorem f20_ok_at [Dr] (k : Nat) : (d : Nat) → FnOK Try.prog G0 20 (f20_sig_at k d)
  | 0 => fn_none Try.call20 (fun _ => rfl)
  | d + 1 => fn_ok2 (E := E_f20 k d) (env_cons (one_sig (f20_ok_at k d)) (env_nil)) (qenv_nil) mixed Try.func20 Try.call20 (by kernel_rfl) (by kernel_rfl) (m := 0) (by kernel_rfl) trivial (sk := []) (by kernel_rfl) trivial (f20_run k d)
theorem f20_ok [Dr] (k : Nat) : FnOK Try.prog G0 20 (f20_sig k) := f20_ok_at k k

/-! ### gamehall/annotate.Path: function 8 -/
noncomputable def f8 (k : Nat) (x0 : ByteArray × Int × Int × (List (Int × Int × Int × (List (Int × Int × Int × Int × Unit)) × Unit)) × (List Int) × Bool × Bool × (List (Int × Int × Int × Bool × Unit)) × Int × Int × Int × Unit) (x1 : (List (ByteArray × ByteArray × Unit)) × ByteArray × (List (Int × (Int × Int × Int × Unit) × ByteArray × Unit)) × Int × Unit) (x2 : Int) : Option (((List (Int × Int × Int × Unit)) × Int × Unit)) :=
  (f19 k x0 x1 x2).bind fun r1 =>
  bif r1.1 != 0 then
    some ([], r1)
  else
    (f20 k x1.2.2.1 x2).bind fun r2 =>
    some (r2.1, 0, ())
noncomputable def f8_sig (k : Nat) : Sig := ⟨[.val (.pair (.str) (.pair (.int .i64) (.pair (.int .i64) (.pair (.sl (.pair (.int .u8) (.pair (.int .i64) (.pair (.int .i64) (.pair (.sl (.pair (.int .i64) (.pair (.int .i64) (.pair (.int .i64) (.pair (.int .i64) (.unit)))))) (.unit)))))) (.pair (.sl (.int .i64)) (.pair (.bool) (.pair (.bool) (.pair (.sl (.pair (.int .i64) (.pair (.int .i64) (.pair (.int .i64) (.pair (.bool) (.unit)))))) (.pair (.int .i64) (.pair (.int .i64) (.pair (.int .i64) (.unit)))))))))))), .val (.pair (.sl (.pair (.str) (.pair (.str) (.unit)))) (.pair (.str) (.pair (.sl (.pair (.int .i64) (.pair (.pair (.int .i64) (.pair (.int .i64) (.pair (.int .i64) (.unit)))) (.pair (.str) (.unit))))) (.pair (.int .i64) (.unit))))), .val (.int .i64)], [], [[.row (.pair (.int .i64) (.pair (.int .i64) (.pair (.int .i64) (.unit)))), .val (.int .i64)]], fun x => f8 k x.1 x.2.1 x.2.2.1⟩
noncomputable def E_f8 (k : Nat) : Env := ⟨Try.prog, G0, scons 20 [f20_sig k] (scons 19 [f19_sig k] (snil)), tnil, tnil, unil, k, qnil⟩
theorem f8_run (k : Nat) (x : (lTy (lay 0 (f8_sig k).ins)).den) : runF (E_f8 k) Try.f8 (f8_sig k) x = (f8_sig k).F x := by kernel_rfl
theorem f8_ok [Dr] (k : Nat) : FnOK Try.prog G0 8 (f8_sig k) :=
  fn_ok2 (E := E_f8 k) (env_cons (one_sig (f20_ok k)) (env_cons (one_sig (f19_ok k)) (env_nil))) (qenv_nil) mixed Try.func8 Try.call8 (by kernel_rfl) (by kernel_rfl) (m := 0) (by kernel_rfl) trivial (sk := []) (by kernel_rfl) trivial (f8_run k)

/-! ### gamehall/gamehallkeep3.annotates: function 4 -/
noncomputable def f4 (k : Nat) : Option ((Bool × Unit)) :=
  (f11 k).bind fun r1 =>
  (f12 k).bind fun r2 =>
  (f8 k r1.1 r2.1 0).bind fun r3 =>
  bif r3.2.1 == 0 then
    some ((r3.1.length : Int) == 1, ())
  else
    some (false, ())
noncomputable def f4_sig (k : Nat) : Sig := ⟨[], [], [[.val (.bool)]], fun x => f4 k⟩
noncomputable def E_f4 (k : Nat) : Env := ⟨Try.prog, G0, scons 12 [f12_sig k] (scons 11 [f11_sig k] (scons 8 [f8_sig k] (snil))), tnil, tnil, unil, k, qnil⟩
theorem f4_run (k : Nat) (x : (lTy (lay 0 (f4_sig k).ins)).den) : runF (E_f4 k) Try.f4 (f4_sig k) x = (f4_sig k).F x := by kernel_rfl
theorem f4_ok [Dr] (k : Nat) : FnOK Try.prog G0 4 (f4_sig k) :=
  fn_ok2 (E := E_f4 k) (env_cons (one_sig (f12_ok k)) (env_cons (one_sig (f11_ok k)) (env_cons (one_sig (f8_ok k)) (env_nil)))) (qenv_nil) mixed Try.func4 Try.call4 (by kernel_rfl) (by kernel_rfl) (m := 0) (by kernel_rfl) trivial (sk := []) (by kernel_rfl) trivial (f4_run k)

/-! ### gamehall/gamehallkeep3.short: function 5 -/
noncomputable def f5 (k : Nat) (x0 : (List (ByteArray × ByteArray × Unit)) × ByteArray × (List (Int × (Int × Int × Int × Unit) × ByteArray × Unit)) × Int × Unit) : Option ((((List (ByteArray × ByteArray × Unit)) × ByteArray × (List (Int × (Int × Int × Int × Unit) × ByteArray × Unit)) × Int × Unit) × Unit)) :=
  bif decide (0 ≤ (if 30 < (x0.2.2.1.length : Int) then 30 else (x0.2.2.1.length : Int))) && decide ((if 30 < (x0.2.2.1.length : Int) then 30 else (x0.2.2.1.length : Int)) ≤ (x0.2.2.1.length : Int)) then
    some ((x0.1, x0.2.1, sliceOf x0.2.2.1 0 (if 30 < (x0.2.2.1.length : Int) then 30 else (x0.2.2.1.length : Int)), x0.2.2.2), ())
  else
    none
noncomputable def f5_sig (k : Nat) : Sig := ⟨[.val (.pair (.sl (.pair (.str) (.pair (.str) (.unit)))) (.pair (.str) (.pair (.sl (.pair (.int .i64) (.pair (.pair (.int .i64) (.pair (.int .i64) (.pair (.int .i64) (.unit)))) (.pair (.str) (.unit))))) (.pair (.int .i64) (.unit)))))], [], [[.val (.pair (.sl (.pair (.str) (.pair (.str) (.unit)))) (.pair (.str) (.pair (.sl (.pair (.int .i64) (.pair (.pair (.int .i64) (.pair (.int .i64) (.pair (.int .i64) (.unit)))) (.pair (.str) (.unit))))) (.pair (.int .i64) (.unit)))))]], fun x => f5 k x.1⟩
noncomputable def E_f5 (k : Nat) : Env := ⟨Try.prog, G0, snil, tnil, tnil, unil, k, qnil⟩
theorem f5_run (k : Nat) (x : (lTy (lay 0 (f5_sig k).ins)).den) : runF (E_f5 k) Try.f5 (f5_sig k) x = (f5_sig k).F x := by kernel_rfl
theorem f5_ok [Dr] (k : Nat) : FnOK Try.prog G0 5 (f5_sig k) :=
  fn_ok2 (E := E_f5 k) (env_nil) (qenv_nil) mixed Try.func5 Try.call5 (by kernel_rfl) (by kernel_rfl) (m := 0) (by kernel_rfl) trivial (sk := []) (by kernel_rfl) trivial (f5_run k)

/-! ### gamehall/gamehallkeep3.great: function 6 -/
noncomputable def f6 (k : Nat) (x0 : ByteArray × Int × Int × (List (Int × Int × Int × (List (Int × Int × Int × Int × Unit)) × Unit)) × (List Int) × Bool × Bool × (List (Int × Int × Int × Bool × Unit)) × Int × Int × Int × Unit) : Option ((Bool × Unit)) :=
  some (decide ((x0.2.2.2.2.1.length : Int) > 20), ())
noncomputable def f6_sig (k : Nat) : Sig := ⟨[.val (.pair (.str) (.pair (.int .i64) (.pair (.int .i64) (.pair (.sl (.pair (.int .u8) (.pair (.int .i64) (.pair (.int .i64) (.pair (.sl (.pair (.int .i64) (.pair (.int .i64) (.pair (.int .i64) (.pair (.int .i64) (.unit)))))) (.unit)))))) (.pair (.sl (.int .i64)) (.pair (.bool) (.pair (.bool) (.pair (.sl (.pair (.int .i64) (.pair (.int .i64) (.pair (.int .i64) (.pair (.bool) (.unit)))))) (.pair (.int .i64) (.pair (.int .i64) (.pair (.int .i64) (.unit))))))))))))], [], [[.val (.bool)]], fun x => f6 k x.1⟩
noncomputable def E_f6 (k : Nat) : Env := ⟨Try.prog, G0, snil, tnil, tnil, unil, k, qnil⟩
theorem f6_run (k : Nat) (x : (lTy (lay 0 (f6_sig k).ins)).den) : runF (E_f6 k) Try.f6 (f6_sig k) x = (f6_sig k).F x := by kernel_rfl
theorem f6_ok [Dr] (k : Nat) : FnOK Try.prog G0 6 (f6_sig k) :=
  fn_ok2 (E := E_f6 k) (env_nil) (qenv_nil) mixed Try.func6 Try.call6 (by kernel_rfl) (by kernel_rfl) (m := 0) (by kernel_rfl) trivial (sk := []) (by kernel_rfl) trivial (f6_run k)

/-! ### gamehall/annotate.Find: function 9 -/
noncomputable def l9_10 (k : Nat) : Nat → ((List (ByteArray × ByteArray × Unit)) × ByteArray × (List (Int × (Int × Int × Int × Unit) × ByteArray × Unit)) × Int × Unit) → Int → (Int × Int × Int × Unit) → Int → (List (Int × Int × Int × Unit)) → Int → Int → (List (Int × (Int × Int × Int × Unit) × ByteArray × Unit)) → Int → Int → Option ((((List (ByteArray × ByteArray × Unit)) × ByteArray × (List (Int × (Int × Int × Int × Unit) × ByteArray × Unit)) × Int × Unit) × Int × (List (Int × Int × Int × Unit)) × Int × Int × Unit))
  | 0, _, _, _, _, _, _, _, _, _, _ => none
  | j + 1, s4, s9, s11, s12, s21, s22, s23, s28, s29, s30 =>
    bif decide (s30 < s29) then
      bif decide (0 ≤ s30) && decide (s30 < (s28.length : Int)) then
        bif (rd ((0, (0, 0, 0, ()), (⟨#[]⟩ : ByteArray), ()) : Int × (Int × Int × Int × Unit) × ByteArray × Unit) s28 s30).1 == s9 then
          bif ((rd ((0, (0, 0, 0, ()), (⟨#[]⟩ : ByteArray), ()) : Int × (Int × Int × Int × Unit) × ByteArray × Unit) s28 s30).2.1.1 == s11.1) && (((rd ((0, (0, 0, 0, ()), (⟨#[]⟩ : ByteArray), ()) : Int × (Int × Int × Int × Unit) × ByteArray × Unit) s28 s30).2.1.2.1 == s11.2.1) && (((rd ((0, (0, 0, 0, ()), (⟨#[]⟩ : ByteArray), ()) : Int × (Int × Int × Int × Unit) × ByteArray × Unit) s28 s30).2.1.2.2.1 == s11.2.2.1) && true)) then
            l9_10 k j s4 s9 s11 s30 s21 s22 s23 s28 s29 (w64 (s30 + 1))
          else
            l9_10 k j s4 s9 s11 s12 s21 s22 s23 s28 s29 (w64 (s30 + 1))
        else
          l9_10 k j s4 s9 s11 s12 s21 s22 s23 s28 s29 (w64 (s30 + 1))
      else
        none
    else
      some (s4, s12, s21, s22, s23, ())
noncomputable def l9_10_sig (k : Nat) : LoopSig := ⟨[(4, .obj (.box (.val (.pair (.sl (.pair (.str) (.pair (.str) (.unit)))) (.pair (.str) (.pair (.sl (.pair (.int .i64) (.pair (.pair (.int .i64) (.pair (.int .i64) (.pair (.int .i64) (.unit)))) (.pair (.str) (.unit))))) (.pair (.int .i64) (.unit)))))))), (9, .obj (.val (.int .i64))), (11, .obj (.box (.val (.pair (.int .i64) (.pair (.int .i64) (.pair (.int .i64) (.unit))))))), (12, .obj (.val (.int .i64))), (21, .obj (.val (.sl (.pair (.int .i64) (.pair (.int .i64) (.pair (.int .i64) (.unit))))))), (22, .obj (.val (.int .i64))), (23, .obj (.val (.int .i64))), (28, .obj (.val (.sl (.pair (.int .i64) (.pair (.pair (.int .i64) (.pair (.int .i64) (.pair (.int .i64) (.unit)))) (.pair (.str) (.unit))))))), (29, .obj (.val (.int .i64))), (30, .obj (.val (.int .i64)))], [(.exit 2, [(4, .obj (.box (.val (.pair (.sl (.pair (.str) (.pair (.str) (.unit)))) (.pair (.str) (.pair (.sl (.pair (.int .i64) (.pair (.pair (.int .i64) (.pair (.int .i64) (.pair (.int .i64) (.unit)))) (.pair (.str) (.unit))))) (.pair (.int .i64) (.unit)))))))), (12, .obj (.val (.int .i64))), (21, .obj (.val (.sl (.pair (.int .i64) (.pair (.int .i64) (.pair (.int .i64) (.unit))))))), (22, .obj (.val (.int .i64))), (23, .obj (.val (.int .i64)))])], fun j x => l9_10 k j x.1 x.2.1 x.2.2.1 x.2.2.2.1 x.2.2.2.2.1 x.2.2.2.2.2.1 x.2.2.2.2.2.2.1 x.2.2.2.2.2.2.2.1 x.2.2.2.2.2.2.2.2.1 x.2.2.2.2.2.2.2.2.2.1⟩
noncomputable def l9_6 (k : Nat) : Nat → ((List (ByteArray × ByteArray × Unit)) × ByteArray × (List (Int × (Int × Int × Int × Unit) × ByteArray × Unit)) × Int × Unit) → Int → (List (Int × Int × Int × Unit)) → Int → Int → Option ((Int × Unit) ⊕ (Int × Int × Unit))
  | 0, _, _, _, _, _ => none
  | j + 1, s4, s9, s21, s22, s23 =>
    bif decide (s23 < s22) then
      bif decide (0 ≤ s23) && decide (s23 < (s21.length : Int)) then
        (l9_10 k k s4 s9 (rd ((0, 0, 0, ()) : Int × Int × Int × Unit) s21 s23) (-1) s21 s22 s23 s4.2.2.1 (s4.2.2.1.length : Int) 0).bind fun o1 =>
        bif decide (o1.2.1 < 0) then
          some (.inr (0, 8, ()))
        else
          l9_6 k j o1.1 o1.2.1 o1.2.2.1 o1.2.2.2.1 (w64 (o1.2.2.2.2.1 + 1))
      else
        none
    else
      some (.inl (s9, ()))
noncomputable def l9_6_sig (k : Nat) : LoopSig := ⟨[(4, .obj (.box (.val (.pair (.sl (.pair (.str) (.pair (.str) (.unit)))) (.pair (.str) (.pair (.sl (.pair (.int .i64) (.pair (.pair (.int .i64) (.pair (.int .i64) (.pair (.int .i64) (.unit)))) (.pair (.str) (.unit))))) (.pair (.int .i64) (.unit)))))))), (9, .obj (.val (.int .i64))), (21, .obj (.val (.sl (.pair (.int .i64) (.pair (.int .i64) (.pair (.int .i64) (.unit))))))), (22, .obj (.val (.int .i64))), (23, .obj (.val (.int .i64)))], [(.exit 0, [(9, .obj (.val (.int .i64)))]), (.ret, [(6, .obj (.val (.int .i64))), (7, .obj (.val (.int .i64)))])], fun j x => l9_6 k j x.1 x.2.1 x.2.2.1 x.2.2.2.1 x.2.2.2.2.1⟩
noncomputable def f9 (k : Nat) (x0 : ByteArray × Int × Int × (List (Int × Int × Int × (List (Int × Int × Int × Int × Unit)) × Unit)) × (List Int) × Bool × Bool × (List (Int × Int × Int × Bool × Unit)) × Int × Int × Int × Unit) (x1 : (List (ByteArray × ByteArray × Unit)) × ByteArray × (List (Int × (Int × Int × Int × Unit) × ByteArray × Unit)) × Int × Unit) (x2 : List (Int × Int × Int × Unit)) : Option ((Int × Int × Unit)) :=
  (f7 k x0 x1).bind fun r1 =>
  bif r1.1 != 0 then
    some (0, r1)
  else
    (l9_6 k k x1 (-1) x2 (x2.length : Int) 0).bind fun w31 =>
    Sum.elim
      (fun y2 =>
        bif decide (y2.1 < 0) then
          some (0, 8, ())
        else
          some (y2.1, 0, ()))
      (fun y3 =>
        some y3)
      w31
noncomputable def f9_sig (k : Nat) : Sig := ⟨[.val (.pair (.str) (.pair (.int .i64) (.pair (.int .i64) (.pair (.sl (.pair (.int .u8) (.pair (.int .i64) (.pair (.int .i64) (.pair (.sl (.pair (.int .i64) (.pair (.int .i64) (.pair (.int .i64) (.pair (.int .i64) (.unit)))))) (.unit)))))) (.pair (.sl (.int .i64)) (.pair (.bool) (.pair (.bool) (.pair (.sl (.pair (.int .i64) (.pair (.int .i64) (.pair (.int .i64) (.pair (.bool) (.unit)))))) (.pair (.int .i64) (.pair (.int .i64) (.pair (.int .i64) (.unit)))))))))))), .val (.pair (.sl (.pair (.str) (.pair (.str) (.unit)))) (.pair (.str) (.pair (.sl (.pair (.int .i64) (.pair (.pair (.int .i64) (.pair (.int .i64) (.pair (.int .i64) (.unit)))) (.pair (.str) (.unit))))) (.pair (.int .i64) (.unit))))), .val (.sl (.pair (.int .i64) (.pair (.int .i64) (.pair (.int .i64) (.unit)))))], [], [[.val (.int .i64), .val (.int .i64)]], fun x => f9 k x.1 x.2.1 x.2.2.1⟩
noncomputable def E_f9 (k : Nat) : Env := ⟨Try.prog, G0, scons 7 [f7_sig k] (snil), tcons 6 (l9_6_sig k) (tcons 10 (l9_10_sig k) (tnil)), tnil, unil, k, qnil⟩
theorem l9_6_ok (k : Nat) : LoopOK (E_f9 k) ⟨Try.f9.ntmps, [], G0⟩ (nthC 0 (loopsIn (Try.f9.body.getD .skip))) :=
  loop_ok (ls := l9_6_sig k) (by kernel_rfl) (fun _ => by kernel_rfl) (fun j x => by kernel_rfl)
theorem l9_10_ok (k : Nat) : LoopOK (E_f9 k) ⟨Try.f9.ntmps, [], G0⟩ (nthC 1 (loopsIn (Try.f9.body.getD .skip))) :=
  loop_ok (ls := l9_10_sig k) (by kernel_rfl) (fun _ => by kernel_rfl) (fun j x => by kernel_rfl)
theorem f9_run (k : Nat) (x : (lTy (lay 0 (f9_sig k).ins)).den) : runF (E_f9 k) Try.f9 (f9_sig k) x = (f9_sig k).F x := by kernel_rfl
theorem f9_ok [Dr] (k : Nat) : FnOK Try.prog G0 9 (f9_sig k) :=
  fn_ok2 (E := E_f9 k) (env_cons (one_sig (f7_ok k)) (env_nil)) (qenv_nil) mixed Try.func9 Try.call9 (by kernel_rfl) (by kernel_rfl) (m := 2) (by kernel_rfl) ⟨⟨trivial, l9_6_ok k⟩, l9_10_ok k⟩ (sk := []) (by kernel_rfl) trivial (f9_run k)

/-! ### (*gamehall/plain.Game).Position: function 21 -/
noncomputable def f21 (k : Nat) (x0 : (ByteArray × Int × Int × (List (Int × Int × Int × (List (Int × Int × Int × Int × Unit)) × Unit)) × (List Int) × Bool × Bool × (List (Int × Int × Int × Bool × Unit)) × Int × Int × Int × Unit) × (List ((List Int) × ((List Int) × (List Int) × Unit) × Int × Int × Unit)) × (List (Int × Int × Int × Unit)) × Unit) : Option ((((List Int) × ((List Int) × (List Int) × Unit) × Int × Int × Unit) × Unit)) :=
  (f29 k x0).bind fun r1 =>
  (f31 k r1.1).bind fun r2 =>
  some r2
noncomputable def f21_sig (k : Nat) : Sig := ⟨[.view (.pair (.pair (.str) (.pair (.int .i64) (.pair (.int .i64) (.pair (.sl (.pair (.int .u8) (.pair (.int .i64) (.pair (.int .i64) (.pair (.sl (.pair (.int .i64) (.pair (.int .i64) (.pair (.int .i64) (.pair (.int .i64) (.unit)))))) (.unit)))))) (.pair (.sl (.int .i64)) (.pair (.bool) (.pair (.bool) (.pair (.sl (.pair (.int .i64) (.pair (.int .i64) (.pair (.int .i64) (.pair (.bool) (.unit)))))) (.pair (.int .i64) (.pair (.int .i64) (.pair (.int .i64) (.unit)))))))))))) (.pair (.sl (.pair (.sl (.int .i64)) (.pair (.pair (.sl (.int .i64)) (.pair (.sl (.int .i64)) (.unit))) (.pair (.int .i64) (.pair (.int .i64) (.unit)))))) (.pair (.sl (.pair (.int .i64) (.pair (.int .i64) (.pair (.int .i64) (.unit))))) (.unit))))], [], [[.cons (.row (.int .i64)) (.cons (.cons (.row (.int .i64)) (.cons (.row (.int .i64)) (.nil))) (.cons (.val (.int .i64)) (.cons (.val (.int .i64)) (.nil))))]], fun x => f21 k x.1⟩
noncomputable def E_f21 (k : Nat) : Env := ⟨Try.prog, G0, scons 31 [f31_sig k] (scons 29 [f29_sig k] (snil)), tnil, tnil, unil, k, qnil⟩
theorem f21_run (k : Nat) (x : (lTy (lay 0 (f21_sig k).ins)).den) : runF (E_f21 k) Try.f21 (f21_sig k) x = (f21_sig k).F x := by kernel_rfl
theorem f21_ok [Dr] (k : Nat) : FnOK Try.prog G0 21 (f21_sig k) :=
  fn_ok2 (E := E_f21 k) (env_cons (one_sig (f31_ok k)) (env_cons (one_sig (f29_ok k)) (env_nil))) (qenv_nil) mixed Try.func21 Try.call21 (by kernel_rfl) (by kernel_rfl) (m := 0) (by kernel_rfl) trivial (sk := []) (by kernel_rfl) trivial (f21_run k)
noncomputable def f21_q (k : Nat) : QFun := mkW [.view (.pair (.pair (.str) (.pair (.int .i64) (.pair (.int .i64) (.pair (.sl (.pair (.int .u8) (.pair (.int .i64) (.pair (.int .i64) (.pair (.sl (.pair (.int .i64) (.pair (.int .i64) (.pair (.int .i64) (.pair (.int .i64) (.unit)))))) (.unit)))))) (.pair (.sl (.int .i64)) (.pair (.bool) (.pair (.bool) (.pair (.sl (.pair (.int .i64) (.pair (.int .i64) (.pair (.int .i64) (.pair (.bool) (.unit)))))) (.pair (.int .i64) (.pair (.int .i64) (.pair (.int .i64) (.unit)))))))))))) (.pair (.sl (.pair (.sl (.int .i64)) (.pair (.pair (.sl (.int .i64)) (.pair (.sl (.int .i64)) (.unit))) (.pair (.int .i64) (.pair (.int .i64) (.unit)))))) (.pair (.sl (.pair (.int .i64) (.pair (.int .i64) (.pair (.int .i64) (.unit))))) (.unit))))] (.cons (.row (.int .i64)) (.cons (.cons (.row (.int .i64)) (.cons (.row (.int .i64)) (.nil))) (.cons (.val (.int .i64)) (.cons (.val (.int .i64)) (.nil))))) (fun x => f21 k x.1)
theorem f21_qok [Dr] (k : Nat) : QOK Try.prog G0 21 (f21_q k) := w_ok (f21_ok k)

/-! ### gamehall/plain.Run: function 10 -/
noncomputable def l10_5 (k : Nat) : Nat → ((List Int) × ((List Int) × (List Int) × Unit) × Int × Int × Unit) → ((ByteArray × Int × Int × (List (Int × Int × Int × (List (Int × Int × Int × Int × Unit)) × Unit)) × (List Int) × Bool × Bool × (List (Int × Int × Int × Bool × Unit)) × Int × Int × Int × Unit) × (List ((List Int) × ((List Int) × (List Int) × Unit) × Int × Int × Unit)) × (List (Int × Int × Int × Unit)) × Unit) → (List (Int × Int × Int × Unit)) → Int → Int → Option ((((List Int) × ((List Int) × (List Int) × Unit) × Int × Int × Unit) × ((ByteArray × Int × Int × (List (Int × Int × Int × (List (Int × Int × Int × Int × Unit)) × Unit)) × (List Int) × Bool × Bool × (List (Int × Int × Int × Bool × Unit)) × Int × Int × Int × Unit) × (List ((List Int) × ((List Int) × (List Int) × Unit) × Int × Int × Unit)) × (List (Int × Int × Int × Unit)) × Unit) × Unit) ⊕ (((List Int) × ((List Int) × (List Int) × Unit) × Int × Int × Unit) × Int × Int × Unit))
  | 0, _, _, _, _, _ => none
  | j + 1, s4, s7, s21, s22, s23 =>
    bif decide (s23 < s22) then
      bif decide (0 ≤ s23) && decide (s23 < (s21.length : Int)) then
        (f17 k s7 (rd ((0, 0, 0, ()) : Int × Int × Int × Unit) s21 s23)).bind fun r1 =>
        bif r1.1 != 0 then
          some (.inr (([], ([], [], ()), 0, 0, ()), 0, r1.1, ()))
        else
          l10_5 k j s4 r1.2.1 s21 s22 (w64 (s23 + 1))
      else
        none
    else
      some (.inl (s4, s7, ()))
noncomputable def l10_5_sig (k : Nat) : LoopSig := ⟨[(4, .obj (.box (.cons (.row (.int .i64)) (.cons (.cons (.row (.int .i64)) (.cons (.row (.int .i64)) (.nil))) (.cons (.val (.int .i64)) (.cons (.val (.int .i64)) (.nil))))))), (7, .obj (.box (.cons (.val (.pair (.str) (.pair (.int .i64) (.pair (.int .i64) (.pair (.sl (.pair (.int .u8) (.pair (.int .i64) (.pair (.int .i64) (.pair (.sl (.pair (.int .i64) (.pair (.int .i64) (.pair (.int .i64) (.pair (.int .i64) (.unit)))))) (.unit)))))) (.pair (.sl (.int .i64)) (.pair (.bool) (.pair (.bool) (.pair (.sl (.pair (.int .i64) (.pair (.int .i64) (.pair (.int .i64) (.pair (.bool) (.unit)))))) (.pair (.int .i64) (.pair (.int .i64) (.pair (.int .i64) (.unit))))))))))))) (.cons (.row (.pair (.sl (.int .i64)) (.pair (.pair (.sl (.int .i64)) (.pair (.sl (.int .i64)) (.unit))) (.pair (.int .i64) (.pair (.int .i64) (.unit)))))) (.cons (.row (.pair (.int .i64) (.pair (.int .i64) (.pair (.int .i64) (.unit))))) (.nil)))))), (21, .obj (.val (.sl (.pair (.int .i64) (.pair (.int .i64) (.pair (.int .i64) (.unit))))))), (22, .obj (.val (.int .i64))), (23, .obj (.val (.int .i64)))], [(.exit 0, [(4, .obj (.box (.cons (.row (.int .i64)) (.cons (.cons (.row (.int .i64)) (.cons (.row (.int .i64)) (.nil))) (.cons (.val (.int .i64)) (.cons (.val (.int .i64)) (.nil))))))), (7, .obj (.box (.cons (.val (.pair (.str) (.pair (.int .i64) (.pair (.int .i64) (.pair (.sl (.pair (.int .u8) (.pair (.int .i64) (.pair (.int .i64) (.pair (.sl (.pair (.int .i64) (.pair (.int .i64) (.pair (.int .i64) (.pair (.int .i64) (.unit)))))) (.unit)))))) (.pair (.sl (.int .i64)) (.pair (.bool) (.pair (.bool) (.pair (.sl (.pair (.int .i64) (.pair (.int .i64) (.pair (.int .i64) (.pair (.bool) (.unit)))))) (.pair (.int .i64) (.pair (.int .i64) (.pair (.int .i64) (.unit))))))))))))) (.cons (.row (.pair (.sl (.int .i64)) (.pair (.pair (.sl (.int .i64)) (.pair (.sl (.int .i64)) (.unit))) (.pair (.int .i64) (.pair (.int .i64) (.unit)))))) (.cons (.row (.pair (.int .i64) (.pair (.int .i64) (.pair (.int .i64) (.unit))))) (.nil))))))]), (.ret, [(4, .obj (.box (.cons (.row (.int .i64)) (.cons (.cons (.row (.int .i64)) (.cons (.row (.int .i64)) (.nil))) (.cons (.val (.int .i64)) (.cons (.val (.int .i64)) (.nil))))))), (5, .obj (.val (.int .i64))), (6, .obj (.val (.int .i64)))])], fun j x => l10_5 k j x.1 x.2.1 x.2.2.1 x.2.2.2.1 x.2.2.2.2.1⟩
noncomputable def f10 (k : Nat) (x0 : ByteArray × Int × Int × (List (Int × Int × Int × (List (Int × Int × Int × Int × Unit)) × Unit)) × (List Int) × Bool × Bool × (List (Int × Int × Int × Bool × Unit)) × Int × Int × Int × Unit) (x1 : List (Int × Int × Int × Unit)) : Option ((((List Int) × ((List Int) × (List Int) × Unit) × Int × Int × Unit) × Int × Int × Unit)) :=
  (f13 k x0).bind fun w32 =>
  Sum.elim
    (fun y1 =>
      bif y1.2.1 != 0 then
        some (([], ([], [], ()), 0, 0, ()), 0, y1.2)
      else
        (l10_5 k k ([], ([], [], ()), 0, 0, ()) y1.1 x1 (x1.length : Int) 0).bind fun w33 =>
        Sum.elim
          (fun y2 =>
            (f21 k y2.2.1).bind fun r3 =>
            (f22 k y2.2.1).bind fun r4 =>
            some (r3.1, r4.1, 0, ()))
          (fun y5 =>
            some y5)
          w33)
    (fun y6 =>
      bif y6.2.1 != 0 then
        some (([], ([], [], ()), 0, 0, ()), 0, y6.2)
      else
        none)
    w32
noncomputable def f10_sig (k : Nat) : Sig := ⟨[.val (.pair (.str) (.pair (.int .i64) (.pair (.int .i64) (.pair (.sl (.pair (.int .u8) (.pair (.int .i64) (.pair (.int .i64) (.pair (.sl (.pair (.int .i64) (.pair (.int .i64) (.pair (.int .i64) (.pair (.int .i64) (.unit)))))) (.unit)))))) (.pair (.sl (.int .i64)) (.pair (.bool) (.pair (.bool) (.pair (.sl (.pair (.int .i64) (.pair (.int .i64) (.pair (.int .i64) (.pair (.bool) (.unit)))))) (.pair (.int .i64) (.pair (.int .i64) (.pair (.int .i64) (.unit)))))))))))), .val (.sl (.pair (.int .i64) (.pair (.int .i64) (.pair (.int .i64) (.unit)))))], [], [[.val (.pair (.sl (.int .i64)) (.pair (.pair (.sl (.int .i64)) (.pair (.sl (.int .i64)) (.unit))) (.pair (.int .i64) (.pair (.int .i64) (.unit))))), .val (.int .i64), .val (.int .i64)]], fun x => f10 k x.1 x.2.1⟩
noncomputable def E_f10 (k : Nat) : Env := ⟨Try.prog, G0, scons 17 [f17_sig k] (scons 13 [f13_sig k] (snil)), tcons 5 (l10_5_sig k) (tnil), tnil, unil, k, qcons 22 (f22_q k) (qcons 21 (f21_q k) (qnil))⟩
theorem l10_5_ok (k : Nat) : LoopOK (E_f10 k) ⟨Try.f10.ntmps, [], G0⟩ (nthC 0 (loopsIn (Try.f10.body.getD .skip))) :=
  loop_ok (ls := l10_5_sig k) (by kernel_rfl) (fun _ => by kernel_rfl) (fun j x => by kernel_rfl)
theorem f10_run (k : Nat) (x : (lTy (lay 0 (f10_sig k).ins)).den) : runF (E_f10 k) Try.f10 (f10_sig k) x = (f10_sig k).F x := by kernel_rfl
theorem f10_ok [Dr] (k : Nat) : FnOK Try.prog G0 10 (f10_sig k) :=
  fn_ok2 (E := E_f10 k) (env_cons (one_sig (f17_ok k)) (env_cons (one_sig (f13_ok k)) (env_nil))) (qenv_cons (f22_qok k) (qenv_cons (f21_qok k) (qenv_nil))) mixed Try.func10 Try.call10 (by kernel_rfl) (by kernel_rfl) (m := 1) (by kernel_rfl) ⟨trivial, l10_5_ok k⟩ (sk := []) (by kernel_rfl) trivial (f10_run k)

/-! ### gamehall/gamehallkeep3.AnnotateFinds: function 3 -/
noncomputable def f3 (k : Nat) (x0 : ByteArray × Int × Int × (List (Int × Int × Int × (List (Int × Int × Int × Int × Unit)) × Unit)) × (List Int) × Bool × Bool × (List (Int × Int × Int × Bool × Unit)) × Int × Int × Int × Unit) (x1 : (List (ByteArray × ByteArray × Unit)) × ByteArray × (List (Int × (Int × Int × Int × Unit) × ByteArray × Unit)) × Int × Unit) (x2 : Int) : Option ((Bool × Unit)) :=
  (f4 k).bind fun r1 =>
  bif !r1.1 then
    some (false, ())
  else
    (f5 k x1).bind fun r2 =>
    (f6 k x0).bind fun r3 =>
    bif r3.1 then
      some (true, ())
    else
      (f7 k x0 r2.1).bind fun r4 =>
      bif r4.1 != 0 then
        some (true, ())
      else
      bif decide (x2 < 0) then
        some (true, ())
      else
      bif decide (x2 ≥ (r2.1.2.2.1.length : Int)) then
        some (true, ())
      else
        (f8 k x0 r2.1 x2).bind fun r5 =>
        (f9 k x0 r2.1 r5.1).bind fun r6 =>
        (f10 k x0 r5.1).bind fun r7 =>
        bif r5.2.1 == 0 then
          bif r6.2.1 == 0 then
            bif r6.1 == x2 then
              some (r7.2.2.1 == 0, ())
            else
              some (false, ())
          else
            some (false, ())
        else
          some (false, ())
noncomputable def f3_sig (k : Nat) : Sig := ⟨[.val (.pair (.str) (.pair (.int .i64) (.pair (.int .i64) (.pair (.sl (.pair (.int .u8) (.pair (.int .i64) (.pair (.int .i64) (.pair (.sl (.pair (.int .i64) (.pair (.int .i64) (.pair (.int .i64) (.pair (.int .i64) (.unit)))))) (.unit)))))) (.pair (.sl (.int .i64)) (.pair (.bool) (.pair (.bool) (.pair (.sl (.pair (.int .i64) (.pair (.int .i64) (.pair (.int .i64) (.pair (.bool) (.unit)))))) (.pair (.int .i64) (.pair (.int .i64) (.pair (.int .i64) (.unit)))))))))))), .val (.pair (.sl (.pair (.str) (.pair (.str) (.unit)))) (.pair (.str) (.pair (.sl (.pair (.int .i64) (.pair (.pair (.int .i64) (.pair (.int .i64) (.pair (.int .i64) (.unit)))) (.pair (.str) (.unit))))) (.pair (.int .i64) (.unit))))), .val (.int .i64)], [], [[.val (.bool)]], fun x => f3 k x.1 x.2.1 x.2.2.1⟩
noncomputable def E_f3 (k : Nat) : Env := ⟨Try.prog, G0, scons 10 [f10_sig k] (scons 9 [f9_sig k] (scons 8 [f8_sig k] (scons 7 [f7_sig k] (scons 6 [f6_sig k] (scons 5 [f5_sig k] (scons 4 [f4_sig k] (snil))))))), tnil, tnil, unil, k, qnil⟩
theorem f3_run (k : Nat) (x : (lTy (lay 0 (f3_sig k).ins)).den) : runF (E_f3 k) Try.f3 (f3_sig k) x = (f3_sig k).F x := by kernel_rfl
theorem f3_ok [Dr] (k : Nat) : FnOK Try.prog G0 3 (f3_sig k) :=
  fn_ok2 (E := E_f3 k) (env_cons (one_sig (f10_ok k)) (env_cons (one_sig (f9_ok k)) (env_cons (one_sig (f8_ok k)) (env_cons (one_sig (f7_ok k)) (env_cons (one_sig (f6_ok k)) (env_cons (one_sig (f5_ok k)) (env_cons (one_sig (f4_ok k)) (env_nil)))))))) (qenv_nil) mixed Try.func3 Try.call3 (by kernel_rfl) (by kernel_rfl) (m := 0) (by kernel_rfl) trivial (sk := []) (by kernel_rfl) trivial (f3_run k)

end Go.Proofs.Ytgglflagbbfalaa.G
