import Derived.Test.YtpfakfiaaidimaaVM22
import Derived.Test.YtpfakfiaaidimaaChecked
namespace Go.Proofs.Ytpfakfiaaidimaa.G
open Go.VM Go.Proofs

abbrev w64 (n : Int) : Int := IntKind.i64.wrap n
theorem mixed : Try.prog.follows .mixedOrders = true := by kernel_rfl
noncomputable def G0 : GTab := []

/-! ### gamehall/swiss.times: function 20 -/
noncomputable def l20_3 (k : Nat) : Nat → Int → Int → (List Int) → Int → Int → Option ((Int × Unit))
  | 0, _, _, _, _, _ => none
  | j + 1, s2, s7, s14, s15, s16 =>
    bif decide (s16 < s15) then
      bif decide (0 ≤ s16) && decide (s16 < (s14.length : Int)) then
        bif (rd (0 : Int) s14 s16) == s2 then
          l20_3 k j s2 (w64 (s7 + 1)) s14 s15 (w64 (s16 + 1))
        else
          l20_3 k j s2 s7 s14 s15 (w64 (s16 + 1))
      else
        none
    else
      some (s7, ())
noncomputable def l20_3_sig (k : Nat) : LoopSig := ⟨[(2, .obj (.val (.int .i64))), (7, .obj (.val (.int .i64))), (14, .obj (.val (.sl (.int .i64)))), (15, .obj (.val (.int .i64))), (16, .obj (.val (.int .i64)))], [(.exit 0, [(7, .obj (.val (.int .i64)))])], fun j x => l20_3 k j x.1 x.2.1 x.2.2.1 x.2.2.2.1 x.2.2.2.2.1⟩
noncomputable def f20 (k : Nat) (x0 : List (Int × (List Int) × Int × Bool × Unit)) (x1 : Int) (x2 : Int) : Option ((Int × Unit)) :=
  bif decide (0 ≤ x1) && decide (x1 < (x0.length : Int)) then
    (l20_3 k k x2 0 (rd ((0, [], 0, false, ()) : Int × (List Int) × Int × Bool × Unit) x0 x1).2.1 ((rd ((0, [], 0, false, ()) : Int × (List Int) × Int × Bool × Unit) x0 x1).2.1.length : Int) 0).bind fun o1 =>
    some o1
  else
    none
noncomputable def f20_sig (k : Nat) : Sig := ⟨[.val (.sl (.pair (.int .i64) (.pair (.sl (.int .i64)) (.pair (.int .i64) (.pair (.bool) (.unit)))))), .val (.int .i64), .val (.int .i64)], [], [[.val (.int .i64)]], fun x => f20 k x.1 x.2.1 x.2.2.1⟩
noncomputable def E_f20 (k : Nat) : Env := ⟨Try.prog, G0, snil, tcons 3 (l20_3_sig k) (tnil), tnil, unil, k, qnil, true⟩
theorem l20_3_ok (k : Nat) : LoopOK (E_f20 k) ⟨Try.f20.ntmps, [], G0⟩ (nthC 0 (loopsIn (Try.f20.body.getD .skip))) :=
  loop_ok (ls := l20_3_sig k) (by kernel_rfl) (fun _ => by kernel_rfl) (fun j x => by kernel_rfl)
theorem f20_run (k : Nat) (x : (lTy (lay 0 (f20_sig k).ins)).den) : runF (E_f20 k) Try.f20 (f20_sig k) x = (f20_sig k).F x := by kernel_rfl
theorem f20_ok (k : Nat) : FnOK Try.prog G0 20 (f20_sig k) :=
  fn_ok2 (E := E_f20 k) (env_nil) (qenv_nil) mixed Try.func20 Try.call20 (by kernel_rfl) (by kernel_rfl) (m := 1) (by kernel_rfl) ⟨trivial, l20_3_ok k⟩ (sk := []) (by kernel_rfl) trivial (f20_run k)

/-! ### gamehall/swiss.Check: function 14 -/
noncomputable def l14_11 (k : Nat) : Nat → (List (Int × (List Int) × Int × Bool × Unit)) → Int → (List (Int × (List Int) × Int × Bool × Unit)) → Int → Int → (List Int) → Int → Int → Option (((List (Int × (List Int) × Int × Bool × Unit)) × (List (Int × (List Int) × Int × Bool × Unit)) × Int × Int × Unit) ⊕ (Int × Unit))
  | 0, _, _, _, _, _, _, _, _ => none
  | j + 1, s0, s3, s17, s18, s19, s47, s48, s49 =>
    bif decide (s49 < s48) then
      bif decide (0 ≤ s49) && decide (s49 < (s47.length : Int)) then
        bif decide ((rd (0 : Int) s47 s49) < 0) then
          some (.inr (3, ()))
        else
        bif decide ((rd (0 : Int) s47 s49) ≥ (s0.length : Int)) then
          some (.inr (3, ()))
        else
        bif (rd (0 : Int) s47 s49) == s3 then
          some (.inr (3, ()))
        else
          l14_11 k j s0 s3 s17 s18 s19 s47 s48 (w64 (s49 + 1))
      else
        none
    else
      some (.inl (s0, s17, s18, s19, ()))
noncomputable def l14_11_sig (k : Nat) : LoopSig := ⟨[(0, .obj (.val (.sl (.pair (.int .i64) (.pair (.sl (.int .i64)) (.pair (.int .i64) (.pair (.bool) (.unit)))))))), (3, .obj (.val (.int .i64))), (17, .obj (.val (.sl (.pair (.int .i64) (.pair (.sl (.int .i64)) (.pair (.int .i64) (.pair (.bool) (.unit)))))))), (18, .obj (.val (.int .i64))), (19, .obj (.val (.int .i64))), (47, .obj (.val (.sl (.int .i64)))), (48, .obj (.val (.int .i64))), (49, .obj (.val (.int .i64)))], [(.exit 2, [(0, .obj (.val (.sl (.pair (.int .i64) (.pair (.sl (.int .i64)) (.pair (.int .i64) (.pair (.bool) (.unit)))))))), (17, .obj (.val (.sl (.pair (.int .i64) (.pair (.sl (.int .i64)) (.pair (.int .i64) (.pair (.bool) (.unit)))))))), (18, .obj (.val (.int .i64))), (19, .obj (.val (.int .i64)))]), (.ret, [(2, .obj (.val (.int .i64)))])], fun j x => l14_11 k j x.1 x.2.1 x.2.2.1 x.2.2.2.1 x.2.2.2.2.1 x.2.2.2.2.2.1 x.2.2.2.2.2.2.1 x.2.2.2.2.2.2.2.1⟩
noncomputable def l14_4 (k : Nat) : Nat → (List (Int × (List Int) × Int × Bool × Unit)) → (List (Int × (List Int) × Int × Bool × Unit)) → Int → Int → Option (((List (Int × (List Int) × Int × Bool × Unit)) × Unit) ⊕ (Int × Unit))
  | 0, _, _, _, _ => none
  | j + 1, s0, s17, s18, s19 =>
    bif decide (s19 < s18) then
      bif decide (0 ≤ s19) && decide (s19 < (s17.length : Int)) then
        bif decide ((rd ((0, [], 0, false, ()) : Int × (List Int) × Int × Bool × Unit) s17 s19).1 < 0) then
          some (.inr (4, ()))
        else
        bif decide ((rd ((0, [], 0, false, ()) : Int × (List Int) × Int × Bool × Unit) s17 s19).1 > 40) then
          some (.inr (4, ()))
        else
        bif decide ((rd ((0, [], 0, false, ()) : Int × (List Int) × Int × Bool × Unit) s17 s19).2.2.1 < (-20)) then
          some (.inr (4, ()))
        else
        bif decide ((rd ((0, [], 0, false, ()) : Int × (List Int) × Int × Bool × Unit) s17 s19).2.2.1 > 20) then
          some (.inr (4, ()))
        else
        bif decide (((rd ((0, [], 0, false, ()) : Int × (List Int) × Int × Bool × Unit) s17 s19).2.1.length : Int) > 20) then
          some (.inr (2, ()))
        else
          (l14_11 k k s0 s19 s17 s18 s19 (rd ((0, [], 0, false, ()) : Int × (List Int) × Int × Bool × Unit) s17 s19).2.1 ((rd ((0, [], 0, false, ()) : Int × (List Int) × Int × Bool × Unit) s17 s19).2.1.length : Int) 0).bind fun w1 =>
          Sum.elim
            (fun y1 =>
              l14_4 k j y1.1 y1.2.1 y1.2.2.1 (w64 (y1.2.2.2.1 + 1)))
            (fun y2 =>
              some (.inr y2))
            w1
      else
        none
    else
      some (.inl (s0, ()))
noncomputable def l14_4_sig (k : Nat) : LoopSig := ⟨[(0, .obj (.val (.sl (.pair (.int .i64) (.pair (.sl (.int .i64)) (.pair (.int .i64) (.pair (.bool) (.unit)))))))), (17, .obj (.val (.sl (.pair (.int .i64) (.pair (.sl (.int .i64)) (.pair (.int .i64) (.pair (.bool) (.unit)))))))), (18, .obj (.val (.int .i64))), (19, .obj (.val (.int .i64)))], [(.exit 0, [(0, .obj (.val (.sl (.pair (.int .i64) (.pair (.sl (.int .i64)) (.pair (.int .i64) (.pair (.bool) (.unit))))))))]), (.ret, [(2, .obj (.val (.int .i64)))])], fun j x => l14_4 k j x.1 x.2.1 x.2.2.1 x.2.2.2.1⟩
noncomputable def l14_21 (k : Nat) : Nat → (List (Int × (List Int) × Int × Bool × Unit)) → Int → Int → Int → Int → Int → Option (((List (Int × (List Int) × Int × Bool × Unit)) × Int × Int × Unit) ⊕ (Int × Unit))
  | 0, _, _, _, _, _, _ => none
  | j + 1, s0, s7, s69, s70, s73, s74 =>
    bif decide (s74 < s73) then
      (f20 k s0 s7 s74).bind fun r1 =>
      (f20 k s0 s74 s7).bind fun r2 =>
      bif r1.1 != r2.1 then
        some (.inr (3, ()))
      else
        (f20 k s0 s7 s74).bind fun r3 =>
        bif decide (r3.1 > 1) then
          some (.inr (7, ()))
        else
          l14_21 k j s0 s7 s69 s70 s73 (w64 (s74 + 1))
    else
      some (.inl (s0, s69, s70, ()))
noncomputable def l14_21_sig (k : Nat) : LoopSig := ⟨[(0, .obj (.val (.sl (.pair (.int .i64) (.pair (.sl (.int .i64)) (.pair (.int .i64) (.pair (.bool) (.unit)))))))), (7, .obj (.val (.int .i64))), (69, .obj (.val (.int .i64))), (70, .obj (.val (.int .i64))), (73, .obj (.val (.int .i64))), (74, .obj (.val (.int .i64)))], [(.exit 6, [(0, .obj (.val (.sl (.pair (.int .i64) (.pair (.sl (.int .i64)) (.pair (.int .i64) (.pair (.bool) (.unit)))))))), (69, .obj (.val (.int .i64))), (70, .obj (.val (.int .i64)))]), (.ret, [(2, .obj (.val (.int .i64)))])], fun j x => l14_21 k j x.1 x.2.1 x.2.2.1 x.2.2.2.1 x.2.2.2.2.1 x.2.2.2.2.2.1⟩
noncomputable def l14_18 (k : Nat) : Nat → (List (Int × (List Int) × Int × Bool × Unit)) → Int → Int → Option (Unit ⊕ (Int × Unit))
  | 0, _, _, _ => none
  | j + 1, s0, s69, s70 =>
    bif decide (s70 < s69) then
      (l14_21 k k s0 s70 s69 s70 s70 0).bind fun w2 =>
      Sum.elim
        (fun y1 =>
          l14_18 k j y1.1 y1.2.1 (w64 (y1.2.2.1 + 1)))
        (fun y2 =>
          some (.inr y2))
        w2
    else
      some (.inl ())
noncomputable def l14_18_sig (k : Nat) : LoopSig := ⟨[(0, .obj (.val (.sl (.pair (.int .i64) (.pair (.sl (.int .i64)) (.pair (.int .i64) (.pair (.bool) (.unit)))))))), (69, .obj (.val (.int .i64))), (70, .obj (.val (.int .i64)))], [(.exit 4, []), (.ret, [(2, .obj (.val (.int .i64)))])], fun j x => l14_18 k j x.1 x.2.1 x.2.2.1⟩
noncomputable def f14 (k : Nat) (x0 : List (Int × (List Int) × Int × Bool × Unit)) : Option ((Int × Unit)) :=
  bif decide ((x0.length : Int) < 2) then
    some (2, ())
  else
  bif decide ((x0.length : Int) > 8) then
    some (2, ())
  else
    (l14_4 k k x0 x0 (x0.length : Int) 0).bind fun w3 =>
    Sum.elim
      (fun y1 =>
        (l14_18 k k y1.1 (y1.1.length : Int) 0).bind fun w4 =>
        Sum.elim
          (fun y2 =>
            some (0, ()))
          (fun y3 =>
            some y3)
          w4)
      (fun y4 =>
        some y4)
      w3
noncomputable def f14_sig (k : Nat) : Sig := ⟨[.val (.sl (.pair (.int .i64) (.pair (.sl (.int .i64)) (.pair (.int .i64) (.pair (.bool) (.unit))))))], [], [[.val (.int .i64)]], fun x => f14 k x.1⟩
noncomputable def E_f14 (k : Nat) : Env := ⟨Try.prog, G0, scons 20 [f20_sig k] (snil), tcons 18 (l14_18_sig k) (tcons 21 (l14_21_sig k) (tcons 4 (l14_4_sig k) (tcons 11 (l14_11_sig k) (tnil)))), tnil, unil, k, qnil, true⟩
theorem l14_4_ok (k : Nat) : LoopOK (E_f14 k) ⟨Try.f14.ntmps, [], G0⟩ (nthC 0 (loopsIn (Try.f14.body.getD .skip))) :=
  loop_ok (ls := l14_4_sig k) (by kernel_rfl) (fun _ => by kernel_rfl) (fun j x => by kernel_rfl)
theorem l14_11_ok (k : Nat) : LoopOK (E_f14 k) ⟨Try.f14.ntmps, [], G0⟩ (nthC 1 (loopsIn (Try.f14.body.getD .skip))) :=
  loop_ok (ls := l14_11_sig k) (by kernel_rfl) (fun _ => by kernel_rfl) (fun j x => by kernel_rfl)
theorem l14_18_ok (k : Nat) : LoopOK (E_f14 k) ⟨Try.f14.ntmps, [], G0⟩ (nthC 2 (loopsIn (Try.f14.body.getD .skip))) :=
  loop_ok (ls := l14_18_sig k) (by kernel_rfl) (fun _ => by kernel_rfl) (fun j x => by kernel_rfl)
theorem l14_21_ok (k : Nat) : LoopOK (E_f14 k) ⟨Try.f14.ntmps, [], G0⟩ (nthC 3 (loopsIn (Try.f14.body.getD .skip))) :=
  loop_ok (ls := l14_21_sig k) (by kernel_rfl) (fun _ => by kernel_rfl) (fun j x => by kernel_rfl)
theorem f14_run (k : Nat) (x : (lTy (lay 0 (f14_sig k).ins)).den) : runF (E_f14 k) Try.f14 (f14_sig k) x = (f14_sig k).F x := by kernel_rfl
theorem f14_ok (k : Nat) : FnOK Try.prog G0 14 (f14_sig k) :=
  fn_ok2 (E := E_f14 k) (env_cons (one_sig (f20_ok k)) (env_nil)) (qenv_nil) mixed Try.func14 Try.call14 (by kernel_rfl) (by kernel_rfl) (m := 4) (by kernel_rfl) ⟨⟨⟨⟨trivial, l14_4_ok k⟩, l14_11_ok k⟩, l14_18_ok k⟩, l14_21_ok k⟩ (sk := []) (by kernel_rfl) trivial (f14_run k)

/-! ### gamehall/swiss.cost: function 17 -/
noncomputable def f17 (k : Nat) (x0 : List (Int × (List Int) × Int × Bool × Unit)) (x1 : Int) (x2 : Int) : Option ((Int × Unit)) :=
  bif decide (0 ≤ x1) && decide (x1 < (x0.length : Int)) then
    bif decide (0 ≤ x2) && decide (x2 < (x0.length : Int)) then
      bif decide (0 ≤ x1) && decide (x1 < (x0.length : Int)) then
        bif decide (0 ≤ x2) && decide (x2 < (x0.length : Int)) then
          some (w64 ((w64 ((w64 (100 * (w64 ((rd ((0, [], 0, false, ()) : Int × (List Int) × Int × Bool × Unit) x0 x1).1 - (rd ((0, [], 0, false, ()) : Int × (List Int) × Int × Bool × Unit) x0 x2).1)))) * (w64 ((rd ((0, [], 0, false, ()) : Int × (List Int) × Int × Bool × Unit) x0 x1).1 - (rd ((0, [], 0, false, ()) : Int × (List Int) × Int × Bool × Unit) x0 x2).1)))) + (w64 ((w64 ((rd ((0, [], 0, false, ()) : Int × (List Int) × Int × Bool × Unit) x0 x1).2.2.1 + (rd ((0, [], 0, false, ()) : Int × (List Int) × Int × Bool × Unit) x0 x2).2.2.1)) * (w64 ((rd ((0, [], 0, false, ()) : Int × (List Int) × Int × Bool × Unit) x0 x1).2.2.1 + (rd ((0, [], 0, false, ()) : Int × (List Int) × Int × Bool × Unit) x0 x2).2.2.1))))), ())
        else
          none
      else
        none
    else
      none
  else
    none
noncomputable def f17_sig (k : Nat) : Sig := ⟨[.val (.sl (.pair (.int .i64) (.pair (.sl (.int .i64)) (.pair (.int .i64) (.pair (.bool) (.unit)))))), .val (.int .i64), .val (.int .i64)], [], [[.val (.int .i64)]], fun x => f17 k x.1 x.2.1 x.2.2.1⟩
noncomputable def E_f17 (k : Nat) : Env := ⟨Try.prog, G0, snil, tnil, tnil, unil, k, qnil, true⟩
theorem f17_run (k : Nat) (x : (lTy (lay 0 (f17_sig k).ins)).den) : runF (E_f17 k) Try.f17 (f17_sig k) x = (f17_sig k).F x := by kernel_rfl
theorem f17_ok (k : Nat) : FnOK Try.prog G0 17 (f17_sig k) :=
  fn_ok2 (E := E_f17 k) (env_nil) (qenv_nil) mixed Try.func17 Try.call17 (by kernel_rfl) (by kernel_rfl) (m := 0) (by kernel_rfl) trivial (sk := []) (by kernel_rfl) trivial (f17_run k)

/-! ### (*gamehall/swiss.search).free: function 21 -/
noncomputable def l21_4 (k : Nat) : Nat → ((List (Int × (List Int) × Int × Bool × Unit)) × (List Int) × (List (Unit × Int)) × Int × Unit) → Unit → Int → Int → Option ((((List (Int × (List Int) × Int × Bool × Unit)) × (List Int) × (List (Unit × Int)) × Int × Unit) × Unit) ⊕ (((List (Int × (List Int) × Int × Bool × Unit)) × (List Int) × (List (Unit × Int)) × Int × Unit) × Bool × Unit))
  | 0, _, _, _, _ => none
  | j + 1, s0, s15, s16, s17 =>
    bif decide (s17 < s16) then
      bif decide (0 ≤ s17) && decide (s17 < (s0.2.1.length : Int)) then
        bif (rd (0 : Int) s0.2.1 s17) == (-1) then
          some (.inr (s0, false, ()))
        else
          l21_4 k j s0 () s16 (w64 (s17 + 1))
      else
        none
    else
      some (.inl (s0, ()))
noncomputable def l21_4_sig (k : Nat) : LoopSig := ⟨[(0, .obj (.box (.cons (.val (.sl (.pair (.int .i64) (.pair (.sl (.int .i64)) (.pair (.int .i64) (.pair (.bool) (.unit))))))) (.cons (.row (.int .i64)) (.cons (.val (.sl (.pair (.unit) (.int .i64)))) (.cons (.val (.int .i64)) (.nil))))))), (15, .fld 0 1), (16, .obj (.val (.int .i64))), (17, .obj (.val (.int .i64)))], [(.exit 0, [(0, .obj (.box (.cons (.val (.sl (.pair (.int .i64) (.pair (.sl (.int .i64)) (.pair (.int .i64) (.pair (.bool) (.unit))))))) (.cons (.row (.int .i64)) (.cons (.val (.sl (.pair (.unit) (.int .i64)))) (.cons (.val (.int .i64)) (.nil)))))))]), (.ret, [(0, .obj (.box (.cons (.val (.sl (.pair (.int .i64) (.pair (.sl (.int .i64)) (.pair (.int .i64) (.pair (.bool) (.unit))))))) (.cons (.row (.int .i64)) (.cons (.val (.sl (.pair (.unit) (.int .i64)))) (.cons (.val (.int .i64)) (.nil))))))), (2, .obj (.val (.bool)))])], fun j x => l21_4 k j x.1 x.2.1 x.2.2.1 x.2.2.2.1⟩
noncomputable def f21 (k : Nat) (x0 : (List (Int × (List Int) × Int × Bool × Unit)) × (List Int) × (List (Unit × Int)) × Int × Unit) : Option ((Bool × ((List (Int × (List Int) × Int × Bool × Unit)) × (List Int) × (List (Unit × Int)) × Int × Unit) × Unit)) :=
  bif ((x0.1.length : Int).tmod 2) == 0 then
    some (false, x0, ())
  else
    (l21_4 k k x0 () (x0.2.1.length : Int) 0).bind fun w5 =>
    Sum.elim
      (fun y1 =>
        some (true, y1))
      (fun y2 =>
        some (y2.2.1, y2.1, ()))
      w5
noncomputable def f21_sig (k : Nat) : Sig := ⟨[.box (.cons (.val (.sl (.pair (.int .i64) (.pair (.sl (.int .i64)) (.pair (.int .i64) (.pair (.bool) (.unit))))))) (.cons (.row (.int .i64)) (.cons (.val (.sl (.pair (.unit) (.int .i64)))) (.cons (.val (.int .i64)) (.nil)))))], [0], [[.val (.bool), .box (.cons (.val (.sl (.pair (.int .i64) (.pair (.sl (.int .i64)) (.pair (.int .i64) (.pair (.bool) (.unit))))))) (.cons (.row (.int .i64)) (.cons (.val (.sl (.pair (.unit) (.int .i64)))) (.cons (.val (.int .i64)) (.nil)))))]], fun x => f21 k x.1⟩
noncomputable def E_f21 (k : Nat) : Env := ⟨Try.prog, G0, snil, tcons 4 (l21_4_sig k) (tnil), tnil, unil, k, qnil, true⟩
theorem l21_4_ok (k : Nat) : LoopOK (E_f21 k) ⟨Try.f21.ntmps, [0], G0⟩ (nthC 0 (loopsIn (Try.f21.body.getD .skip))) :=
  loop_ok (ls := l21_4_sig k) (by kernel_rfl) (fun _ => by kernel_rfl) (fun j x => by kernel_rfl)
theorem f21_run (k : Nat) (x : (lTy (lay 0 (f21_sig k).ins)).den) : runF (E_f21 k) Try.f21 (f21_sig k) x = (f21_sig k).F x := by kernel_rfl
theorem f21_ok (k : Nat) : FnOK Try.prog G0 21 (f21_sig k) :=
  fn_ok2 (E := E_f21 k) (env_nil) (qenv_nil) mixed Try.func21 Try.call21 (by kernel_rfl) (by kernel_rfl) (m := 1) (by kernel_rfl) ⟨trivial, l21_4_ok k⟩ (sk := []) (by kernel_rfl) trivial (f21_run k)

/-! ### gamehall/swiss.bye: function 22 -/
noncomputable def f22 (k : Nat) (x0 : List (Int × (List Int) × Int × Bool × Unit)) (x1 : Int) : Option ((Int × Unit)) :=
  bif decide (0 ≤ x1) && decide (x1 < (x0.length : Int)) then
    bif decide (0 ≤ x1) && decide (x1 < (x0.length : Int)) then
      some (w64 ((w64 (100 * (rd ((0, [], 0, false, ()) : Int × (List Int) × Int × Bool × Unit) x0 x1).1)) * (rd ((0, [], 0, false, ()) : Int × (List Int) × Int × Bool × Unit) x0 x1).1), ())
    else
      none
  else
    none
noncomputable def f22_sig (k : Nat) : Sig := ⟨[.val (.sl (.pair (.int .i64) (.pair (.sl (.int .i64)) (.pair (.int .i64) (.pair (.bool) (.unit)))))), .val (.int .i64)], [], [[.val (.int .i64)]], fun x => f22 k x.1 x.2.1⟩
noncomputable def E_f22 (k : Nat) : Env := ⟨Try.prog, G0, snil, tnil, tnil, unil, k, qnil, true⟩
theorem f22_run (k : Nat) (x : (lTy (lay 0 (f22_sig k).ins)).den) : runF (E_f22 k) Try.f22 (f22_sig k) x = (f22_sig k).F x := by kernel_rfl
theorem f22_ok (k : Nat) : FnOK Try.prog G0 22 (f22_sig k) :=
  fn_ok2 (E := E_f22 k) (env_nil) (qenv_nil) mixed Try.func22 Try.call22 (by kernel_rfl) (by kernel_rfl) (m := 0) (by kernel_rfl) trivial (sk := []) (by kernel_rfl) trivial (f22_run k)

/-! ### (*gamehall/swiss.search).try: function 15 -/
noncomputable def l15_2 (k : Nat) (rec : ((List (Int × (List Int) × Int × Bool × Unit)) × (List Int) × (List (Unit × Int)) × Int × Unit) → Int → Option ((((List (Int × (List Int) × Int × Bool × Unit)) × (List Int) × (List (Unit × Int)) × Int × Unit) × Unit))) : Nat → ((List (Int × (List Int) × Int × Bool × Unit)) × (List Int) × (List (Unit × Int)) × Int × Unit) → Int → Int → Option ((((List (Int × (List Int) × Int × Bool × Unit)) × (List Int) × (List (Unit × Int)) × Int × Unit) × Int × Int × Unit))
  | 0, _, _, _ => none
  | j + 1, s0, s1, s4 =>
    bif decide (s4 < (s0.1.length : Int)) then
      bif decide (0 ≤ s4) && decide (s4 < (s0.2.1.length : Int)) then
        bif (rd (0 : Int) s0.2.1 s4) != (-2) then
          l15_2 k rec j s0 s1 (w64 (s4 + 1))
        else
          some (s0, s1, s4, ())
      else
        none
    else
      some (s0, s1, s4, ())
noncomputable def l15_7 (k : Nat) (rec : ((List (Int × (List Int) × Int × Bool × Unit)) × (List Int) × (List (Unit × Int)) × Int × Unit) → Int → Option ((((List (Int × (List Int) × Int × Bool × Unit)) × (List Int) × (List (Unit × Int)) × Int × Unit) × Unit))) : Nat → ((List (Int × (List Int) × Int × Bool × Unit)) × (List Int) × (List (Unit × Int)) × Int × Unit) → Int → Int → Int → Option ((((List (Int × (List Int) × Int × Bool × Unit)) × (List Int) × (List (Unit × Int)) × Int × Unit) × Int × Int × Unit))
  | 0, _, _, _, _ => none
  | j + 1, s0, s1, s4, s5 =>
    bif decide (s5 < (s0.1.length : Int)) then
      bif decide (0 ≤ s5) && decide (s5 < (s0.2.1.length : Int)) then
        bif (rd (0 : Int) s0.2.1 s5) == (-2) then
          (f20 k s0.1 s4 s5).bind fun r1 =>
          bif r1.1 == 0 then
            bif decide (0 ≤ s4) && decide (s4 < (s0.2.1.length : Int)) then
              bif decide (0 ≤ s5) && decide (s5 < ((s0.2.1.set s4.toNat s5).length : Int)) then
                (f17 k s0.1 s4 s5).bind fun r2 =>
                (rec (s0.1, (s0.2.1.set s4.toNat s5).set s5.toNat s4, s0.2.2) (w64 (s1 + r2.1))).bind fun r3 =>
                bif decide (0 ≤ s4) && decide (s4 < (r3.1.2.1.length : Int)) then
                  bif decide (0 ≤ s5) && decide (s5 < ((r3.1.2.1.set s4.toNat (-2)).length : Int)) then
                    l15_7 k rec j (r3.1.1, (r3.1.2.1.set s4.toNat (-2)).set s5.toNat (-2), r3.1.2.2) s1 s4 (w64 (s5 + 1))
                  else
                    none
                else
                  none
              else
                none
            else
              none
          else
            l15_7 k rec j s0 s1 s4 (w64 (s5 + 1))
        else
          l15_7 k rec j s0 s1 s4 (w64 (s5 + 1))
      else
        none
    else
      some (s0, s1, s4, ())
noncomputable def f15_body (k : Nat) (rec : ((List (Int × (List Int) × Int × Bool × Unit)) × (List Int) × (List (Unit × Int)) × Int × Unit) → Int → Option ((((List (Int × (List Int) × Int × Bool × Unit)) × (List Int) × (List (Unit × Int)) × Int × Unit) × Unit))) (x0 : (List (Int × (List Int) × Int × Bool × Unit)) × (List Int) × (List (Unit × Int)) × Int × Unit) (x1 : Int) : Option ((((List (Int × (List Int) × Int × Bool × Unit)) × (List Int) × (List (Unit × Int)) × Int × Unit) × Unit)) :=
  bif nilB x0.2.2.1 then
    (l15_2 k rec k x0 x1 0).bind fun o1 =>
    bif o1.2.2.1 == (o1.1.1.length : Int) then
      bif decide ((([] : List Int).length + o1.1.2.1.length) * 8 ≤ roomN) then
        bif nilB ([] ++ o1.1.2.1) then
          none
        else
          some ((o1.1.1, o1.1.2.1, List.map (fun z : Int => ((), z)) ([] ++ o1.1.2.1), o1.2.1, ()), ())
      else
        none
    else
      (l15_7 k rec k o1.1 o1.2.1 o1.2.2.1 (w64 (o1.2.2.1 + 1))).bind fun o2 =>
      bif decide (0 ≤ o2.2.2.1) && decide (o2.2.2.1 < (o2.1.1.length : Int)) then
        bif !(rd ((0, [], 0, false, ()) : Int × (List Int) × Int × Bool × Unit) o2.1.1 o2.2.2.1).2.2.2.1 then
          (f21 k o2.1).bind fun r3 =>
          bif r3.1 then
            bif decide (0 ≤ o2.2.2.1) && decide (o2.2.2.1 < (r3.2.1.2.1.length : Int)) then
              (f22 k r3.2.1.1 o2.2.2.1).bind fun r4 =>
              (rec (r3.2.1.1, r3.2.1.2.1.set o2.2.2.1.toNat (-1), r3.2.1.2.2) (w64 (o2.2.1 + r4.1))).bind fun r5 =>
              bif decide (0 ≤ o2.2.2.1) && decide (o2.2.2.1 < (r5.1.2.1.length : Int)) then
                some ((r5.1.1, r5.1.2.1.set o2.2.2.1.toNat (-2), r5.1.2.2), ())
              else
                none
            else
              none
          else
            some r3.2
        else
          some (o2.1, ())
      else
        none
  else
  bif decide (x1 ≥ x0.2.2.2.1) then
    some (x0, ())
  else
    (l15_2 k rec k x0 x1 0).bind fun o6 =>
    bif o6.2.2.1 == (o6.1.1.length : Int) then
      bif decide ((([] : List Int).length + o6.1.2.1.length) * 8 ≤ roomN) then
        bif nilB ([] ++ o6.1.2.1) then
          none
        else
          some ((o6.1.1, o6.1.2.1, List.map (fun z : Int => ((), z)) ([] ++ o6.1.2.1), o6.2.1, ()), ())
      else
        none
    else
      (l15_7 k rec k o6.1 o6.2.1 o6.2.2.1 (w64 (o6.2.2.1 + 1))).bind fun o7 =>
      bif decide (0 ≤ o7.2.2.1) && decide (o7.2.2.1 < (o7.1.1.length : Int)) then
        bif !(rd ((0, [], 0, false, ()) : Int × (List Int) × Int × Bool × Unit) o7.1.1 o7.2.2.1).2.2.2.1 then
          (f21 k o7.1).bind fun r8 =>
          bif r8.1 then
            bif decide (0 ≤ o7.2.2.1) && decide (o7.2.2.1 < (r8.2.1.2.1.length : Int)) then
              (f22 k r8.2.1.1 o7.2.2.1).bind fun r9 =>
              (rec (r8.2.1.1, r8.2.1.2.1.set o7.2.2.1.toNat (-1), r8.2.1.2.2) (w64 (o7.2.1 + r9.1))).bind fun r10 =>
              bif decide (0 ≤ o7.2.2.1) && decide (o7.2.2.1 < (r10.1.2.1.length : Int)) then
                some ((r10.1.1, r10.1.2.1.set o7.2.2.1.toNat (-2), r10.1.2.2), ())
              else
                none
            else
              none
          else
            some r8.2
        else
          some (o7.1, ())
      else
        none
noncomputable def f15_at (k : Nat) : Nat → ((List (Int × (List Int) × Int × Bool × Unit)) × (List Int) × (List (Unit × Int)) × Int × Unit) → Int → Option ((((List (Int × (List Int) × Int × Bool × Unit)) × (List Int) × (List (Unit × Int)) × Int × Unit) × Unit))
  | 0, _, _ => none
  | d + 1, x0, x1 => f15_body k (f15_at k d) x0 x1
noncomputable def f15 (k : Nat) (x0 : (List (Int × (List Int) × Int × Bool × Unit)) × (List Int) × (List (Unit × Int)) × Int × Unit) (x1 : Int) : Option ((((List (Int × (List Int) × Int × Bool × Unit)) × (List Int) × (List (Unit × Int)) × Int × Unit) × Unit)) := f15_at k k x0 x1
noncomputable def l15_2_sig (k d : Nat) : LoopSig := ⟨[(0, .obj (.box (.cons (.val (.sl (.pair (.int .i64) (.pair (.sl (.int .i64)) (.pair (.int .i64) (.pair (.bool) (.unit))))))) (.cons (.row (.int .i64)) (.cons (.val (.sl (.pair (.unit) (.int .i64)))) (.cons (.val (.int .i64)) (.nil))))))), (1, .obj (.val (.int .i64))), (4, .obj (.val (.int .i64)))], [(.exit 0, [(0, .obj (.box (.cons (.val (.sl (.pair (.int .i64) (.pair (.sl (.int .i64)) (.pair (.int .i64) (.pair (.bool) (.unit))))))) (.cons (.row (.int .i64)) (.cons (.val (.sl (.pair (.unit) (.int .i64)))) (.cons (.val (.int .i64)) (.nil))))))), (1, .obj (.val (.int .i64))), (4, .obj (.val (.int .i64)))])], fun j x => l15_2 k (f15_at k d) j x.1 x.2.1 x.2.2.1⟩
noncomputable def l15_7_sig (k d : Nat) : LoopSig := ⟨[(0, .obj (.box (.cons (.val (.sl (.pair (.int .i64) (.pair (.sl (.int .i64)) (.pair (.int .i64) (.pair (.bool) (.unit))))))) (.cons (.row (.int .i64)) (.cons (.val (.sl (.pair (.unit) (.int .i64)))) (.cons (.val (.int .i64)) (.nil))))))), (1, .obj (.val (.int .i64))), (4, .obj (.val (.int .i64))), (5, .obj (.val (.int .i64)))], [(.exit 2, [(0, .obj (.box (.cons (.val (.sl (.pair (.int .i64) (.pair (.sl (.int .i64)) (.pair (.int .i64) (.pair (.bool) (.unit))))))) (.cons (.row (.int .i64)) (.cons (.val (.sl (.pair (.unit) (.int .i64)))) (.cons (.val (.int .i64)) (.nil))))))), (1, .obj (.val (.int .i64))), (4, .obj (.val (.int .i64)))])], fun j x => l15_7 k (f15_at k d) j x.1 x.2.1 x.2.2.1 x.2.2.2.1⟩
noncomputable def f15_sig_at (k d : Nat) : Sig := ⟨[.box (.cons (.val (.sl (.pair (.int .i64) (.pair (.sl (.int .i64)) (.pair (.int .i64) (.pair (.bool) (.unit))))))) (.cons (.row (.int .i64)) (.cons (.val (.sl (.pair (.unit) (.int .i64)))) (.cons (.val (.int .i64)) (.nil))))), .val (.int .i64)], [0], [[.box (.cons (.val (.sl (.pair (.int .i64) (.pair (.sl (.int .i64)) (.pair (.int .i64) (.pair (.bool) (.unit))))))) (.cons (.row (.int .i64)) (.cons (.val (.sl (.pair (.unit) (.int .i64)))) (.cons (.val (.int .i64)) (.nil)))))]], fun x => f15_at k d x.1 x.2.1⟩
noncomputable def f15_sig (k : Nat) : Sig := ⟨[.box (.cons (.val (.sl (.pair (.int .i64) (.pair (.sl (.int .i64)) (.pair (.int .i64) (.pair (.bool) (.unit))))))) (.cons (.row (.int .i64)) (.cons (.val (.sl (.pair (.unit) (.int .i64)))) (.cons (.val (.int .i64)) (.nil))))), .val (.int .i64)], [0], [[.box (.cons (.val (.sl (.pair (.int .i64) (.pair (.sl (.int .i64)) (.pair (.int .i64) (.pair (.bool) (.unit))))))) (.cons (.row (.int .i64)) (.cons (.val (.sl (.pair (.unit) (.int .i64)))) (.cons (.val (.int .i64)) (.nil)))))]], fun x => f15 k x.1 x.2.1⟩
noncomputable def E_f15 (k d : Nat) : Env := ⟨Try.prog, G0, scons 22 [f22_sig k] (scons 21 [f21_sig k] (scons 20 [f20_sig k] (scons 17 [f17_sig k] (scons 15 [f15_sig_at k d] (snil))))), tcons 7 (l15_7_sig k d) (tcons 2 (l15_2_sig k d) (tnil)), tnil, unil, k, qnil, true⟩
theorem l15_2_ok (k d : Nat) : LoopOK (E_f15 k d) ⟨Try.f15.ntmps, [0], G0⟩ (nthC 0 (loopsIn (Try.f15.body.getD .skip))) :=
  loop_ok (ls := l15_2_sig k d) (by kernel_rfl) (fun _ => by kernel_rfl) (fun j x => by kernel_rfl)
theorem l15_7_ok (k d : Nat) : LoopOK (E_f15 k d) ⟨Try.f15.ntmps, [0], G0⟩ (nthC 1 (loopsIn (Try.f15.body.getD .skip))) :=
  loop_ok (ls := l15_7_sig k d) (by kernel_rfl) (fun _ => by kernel_rfl) (fun j x => by kernel_rfl)
theorem f15_run (k d : Nat) (x : (lTy (lay 0 (f15_sig_at k (d + 1)).ins)).den) : runF (E_f15 k d) Try.f15 (f15_sig_at k (d + 1)) x = (f15_sig_at k (d + 1)).F x := by kernel_rfl
theorem f15_ok_at (k : Nat) : (d : Nat) → FnOK Try.prog G0 15 (f15_sig_at k d)
  | 0 => fn_none Try.call15 (fun _ => rfl)
  | d + 1 => fn_ok2 (E := E_f15 k d) (env_cons (one_sig (f22_ok k)) (env_cons (one_sig (f21_ok k)) (env_cons (one_sig (f20_ok k)) (env_cons (one_sig (f17_ok k)) (env_cons (one_sig (f15_ok_at k d)) (env_nil)))))) (qenv_nil) mixed Try.func15 Try.call15 (by kernel_rfl) (by kernel_rfl) (m := 2) (by kernel_rfl) ⟨⟨trivial, l15_2_ok k d⟩, l15_7_ok k d⟩ (sk := []) (by kernel_rfl) trivial (f15_run k d)
theorem f15_ok (k : Nat) : FnOK Try.prog G0 15 (f15_sig k) := f15_ok_at k k

/-! ### gamehall/swiss.colour: function 16 -/
noncomputable def f16 (k : Nat) (x0 : List (Int × (List Int) × Int × Bool × Unit)) (x1 : Int) (x2 : Int) : Option (((Int × Int × Unit) × Unit)) :=
  bif decide (0 ≤ x2) && decide (x2 < (x0.length : Int)) then
    bif decide (0 ≤ x1) && decide (x1 < (x0.length : Int)) then
      bif decide ((rd ((0, [], 0, false, ()) : Int × (List Int) × Int × Bool × Unit) x0 x2).2.2.1 < (rd ((0, [], 0, false, ()) : Int × (List Int) × Int × Bool × Unit) x0 x1).2.2.1) then
        some ((x2, x1, ()), ())
      else
        some ((x1, x2, ()), ())
    else
      none
  else
    none
noncomputable def f16_sig (k : Nat) : Sig := ⟨[.val (.sl (.pair (.int .i64) (.pair (.sl (.int .i64)) (.pair (.int .i64) (.pair (.bool) (.unit)))))), .val (.int .i64), .val (.int .i64)], [], [[.val (.pair (.int .i64) (.pair (.int .i64) (.unit)))]], fun x => f16 k x.1 x.2.1 x.2.2.1⟩
noncomputable def E_f16 (k : Nat) : Env := ⟨Try.prog, G0, snil, tnil, tnil, unil, k, qnil, true⟩
theorem f16_run (k : Nat) (x : (lTy (lay 0 (f16_sig k).ins)).den) : runF (E_f16 k) Try.f16 (f16_sig k) x = (f16_sig k).F x := by kernel_rfl
theorem f16_ok (k : Nat) : FnOK Try.prog G0 16 (f16_sig k) :=
  fn_ok2 (E := E_f16 k) (env_nil) (qenv_nil) mixed Try.func16 Try.call16 (by kernel_rfl) (by kernel_rfl) (m := 0) (by kernel_rfl) trivial (sk := []) (by kernel_rfl) trivial (f16_run k)

/-! ### gamehall/swiss.Pair: function 8 -/
noncomputable def l8_6 (k : Nat) : Nat → (List (Int × (List Int) × Int × Bool × Unit)) → ((List (Int × (List Int) × Int × Bool × Unit)) × (List Int) × (List (Unit × Int)) × Int × Unit) → Int → Int → Option (((List (Int × (List Int) × Int × Bool × Unit)) × ((List (Int × (List Int) × Int × Bool × Unit)) × (List Int) × (List (Unit × Int)) × Int × Unit) × Unit))
  | 0, _, _, _, _ => none
  | j + 1, s0, s7, s28, s29 =>
    bif decide (s29 < s28) then
      bif decide (0 ≤ s29) && decide (s29 < (s7.2.1.length : Int)) then
        l8_6 k j s0 (s7.1, s7.2.1.set s29.toNat (-2), s7.2.2) s28 (w64 (s29 + 1))
      else
        none
    else
      some (s0, s7, ())
noncomputable def l8_6_sig (k : Nat) : LoopSig := ⟨[(0, .obj (.val (.sl (.pair (.int .i64) (.pair (.sl (.int .i64)) (.pair (.int .i64) (.pair (.bool) (.unit)))))))), (7, .obj (.box (.cons (.val (.sl (.pair (.int .i64) (.pair (.sl (.int .i64)) (.pair (.int .i64) (.pair (.bool) (.unit))))))) (.cons (.row (.int .i64)) (.cons (.val (.sl (.pair (.unit) (.int .i64)))) (.cons (.val (.int .i64)) (.nil))))))), (28, .obj (.val (.int .i64))), (29, .obj (.val (.int .i64)))], [(.exit 0, [(0, .obj (.val (.sl (.pair (.int .i64) (.pair (.sl (.int .i64)) (.pair (.int .i64) (.pair (.bool) (.unit)))))))), (7, .obj (.box (.cons (.val (.sl (.pair (.int .i64) (.pair (.sl (.int .i64)) (.pair (.int .i64) (.pair (.bool) (.unit))))))) (.cons (.row (.int .i64)) (.cons (.val (.sl (.pair (.unit) (.int .i64)))) (.cons (.val (.int .i64)) (.nil)))))))])], fun j x => l8_6 k j x.1 x.2.1 x.2.2.1 x.2.2.2.1⟩
noncomputable def l8_16 (k : Nat) : Nat → (List (Int × (List Int) × Int × Bool × Unit)) → ((List (Int × (List Int) × Int × Bool × Unit)) × (List Int) × (List (Unit × Int)) × Int × Unit) → (List (Int × Int × Unit)) → Int → (List (Unit × Int)) → Int → Int → Option ((((List (Int × (List Int) × Int × Bool × Unit)) × (List Int) × (List (Unit × Int)) × Int × Unit) × (List (Int × Int × Unit)) × Int × Unit))
  | 0, _, _, _, _, _, _, _ => none
  | j + 1, s0, s7, s9, s10, s49, s50, s51 =>
    bif decide (s51 < s50) then
      bif decide (0 ≤ s51) && decide (s51 < (s49.length : Int)) then
        bif decide ((rd (((), 0) : Unit × Int) s49 s51).2 < 0) then
          l8_16 k j s0 s7 s9 s51 s49 s50 (w64 (s51 + 1))
        else
        bif decide (s51 < (rd (((), 0) : Unit × Int) s49 s51).2) then
          (f16 k s0 s51 (rd (((), 0) : Unit × Int) s49 s51).2).bind fun r1 =>
          bif decide ((s9.length + ([r1.1] : List (Int × Int × Unit)).length) * 16 ≤ roomN) then
            l8_16 k j s0 s7 (s9 ++ [r1.1]) s10 s49 s50 (w64 (s51 + 1))
          else
            none
        else
          l8_16 k j s0 s7 s9 s10 s49 s50 (w64 (s51 + 1))
      else
        none
    else
      some (s7, s9, s10, ())
noncomputable def l8_16_sig (k : Nat) : LoopSig := ⟨[(0, .obj (.val (.sl (.pair (.int .i64) (.pair (.sl (.int .i64)) (.pair (.int .i64) (.pair (.bool) (.unit)))))))), (7, .obj (.box (.cons (.val (.sl (.pair (.int .i64) (.pair (.sl (.int .i64)) (.pair (.int .i64) (.pair (.bool) (.unit))))))) (.cons (.row (.int .i64)) (.cons (.val (.sl (.pair (.unit) (.int .i64)))) (.cons (.val (.int .i64)) (.nil))))))), (9, .obj (.row (.pair (.int .i64) (.pair (.int .i64) (.unit))))), (10, .obj (.val (.int .i64))), (49, .obj (.val (.sl (.pair (.unit) (.int .i64))))), (50, .obj (.val (.int .i64))), (51, .obj (.val (.int .i64)))], [(.exit 2, [(7, .obj (.box (.cons (.val (.sl (.pair (.int .i64) (.pair (.sl (.int .i64)) (.pair (.int .i64) (.pair (.bool) (.unit))))))) (.cons (.row (.int .i64)) (.cons (.val (.sl (.pair (.unit) (.int .i64)))) (.cons (.val (.int .i64)) (.nil))))))), (9, .obj (.row (.pair (.int .i64) (.pair (.int .i64) (.unit))))), (10, .obj (.val (.int .i64)))])], fun j x => l8_16 k j x.1 x.2.1 x.2.2.1 x.2.2.2.1 x.2.2.2.2.1 x.2.2.2.2.2.1 x.2.2.2.2.2.2.1⟩
noncomputable def f8 (k : Nat) (x0 : List (Int × (List Int) × Int × Bool × Unit)) : Option (((List (Int × Int × Unit)) × Int × Int × Int × Unit)) :=
  (f14 k x0).bind fun r1 =>
  bif r1.1 != 0 then
    some ([], 0, 0, r1)
  else
  bif decide (0 ≤ (x0.length : Int)) && (decide ((x0.length : Int) ≤ (x0.length : Int)) && decide (((8 : Nat) : Int) * (x0.length : Int) ≤ 281474976710656)) && decide ((x0.length : Int) ≤ 9223372036854775807) then
    (l8_6 k k x0 (x0, List.replicate (x0.length : Int).toNat (0 : Int), [], 0, ()) ((List.replicate (x0.length : Int).toNat (0 : Int)).length : Int) 0).bind fun o2 =>
    (f15 k o2.2.1 0).bind fun r3 =>
    bif nilB r3.1.2.2.1 then
      some ([], 0, 0, 8, ())
    else
      (l8_16 k k o2.1 r3.1 [] (-1) r3.1.2.2.1 (r3.1.2.2.1.length : Int) 0).bind fun o4 =>
      some (o4.2.1, o4.1.2.2.2.1, o4.2.2.1, 0, ())
  else
    none
noncomputable def f8_sig (k : Nat) : Sig := ⟨[.val (.sl (.pair (.int .i64) (.pair (.sl (.int .i64)) (.pair (.int .i64) (.pair (.bool) (.unit))))))], [], [[.row (.pair (.int .i64) (.pair (.int .i64) (.unit))), .val (.int .i64), .val (.int .i64), .val (.int .i64)]], fun x => f8 k x.1⟩
noncomputable def E_f8 (k : Nat) : Env := ⟨Try.prog, G0, scons 16 [f16_sig k] (scons 15 [f15_sig k] (scons 14 [f14_sig k] (snil))), tcons 16 (l8_16_sig k) (tcons 6 (l8_6_sig k) (tnil)), tnil, unil, k, qnil, true⟩
theorem l8_6_ok (k : Nat) : LoopOK (E_f8 k) ⟨Try.f8.ntmps, [], G0⟩ (nthC 0 (loopsIn (Try.f8.body.getD .skip))) :=
  loop_ok (ls := l8_6_sig k) (by kernel_rfl) (fun _ => by kernel_rfl) (fun j x => by kernel_rfl)
theorem l8_16_ok (k : Nat) : LoopOK (E_f8 k) ⟨Try.f8.ntmps, [], G0⟩ (nthC 1 (loopsIn (Try.f8.body.getD .skip))) :=
  loop_ok (ls := l8_16_sig k) (by kernel_rfl) (fun _ => by kernel_rfl) (fun j x => by kernel_rfl)
theorem f8_run (k : Nat) (x : (lTy (lay 0 (f8_sig k).ins)).den) : runF (E_f8 k) Try.f8 (f8_sig k) x = (f8_sig k).F x := by kernel_rfl
theorem f8_ok (k : Nat) : FnOK Try.prog G0 8 (f8_sig k) :=
  fn_ok2 (E := E_f8 k) (env_cons (one_sig (f16_ok k)) (env_cons (one_sig (f15_ok k)) (env_cons (one_sig (f14_ok k)) (env_nil)))) (qenv_nil) mixed Try.func8 Try.call8 (by kernel_rfl) (by kernel_rfl) (m := 2) (by kernel_rfl) ⟨⟨trivial, l8_6_ok k⟩, l8_16_ok k⟩ (sk := []) (by kernel_rfl) trivial (f8_run k)

/-! ### gamehall/gamehallkeep3.swisses: function 7 -/
noncomputable def f7 (k : Nat) : Option ((Bool × Unit)) :=
  (f8 k (List.replicate (2 : Int).toNat ((0, [], 0, false, ()) : Int × (List Int) × Int × Bool × Unit))).bind fun r1 =>
  bif r1.2.2.2.1 == 0 then
    bif (r1.1.length : Int) == 1 then
      some (r1.2.2.1 == (-1), ())
    else
      some (false, ())
  else
    some (false, ())
noncomputable def f7_sig (k : Nat) : Sig := ⟨[], [], [[.val (.bool)]], fun x => f7 k⟩
noncomputable def E_f7 (k : Nat) : Env := ⟨Try.prog, G0, scons 8 [f8_sig k] (snil), tnil, tnil, unil, k, qnil, true⟩
theorem f7_run (k : Nat) (x : (lTy (lay 0 (f7_sig k).ins)).den) : runF (E_f7 k) Try.f7 (f7_sig k) x = (f7_sig k).F x := by kernel_rfl
theorem f7_ok (k : Nat) : FnOK Try.prog G0 7 (f7_sig k) :=
  fn_ok2 (E := E_f7 k) (env_cons (one_sig (f8_ok k)) (env_nil)) (qenv_nil) mixed Try.func7 Try.call7 (by kernel_rfl) (by kernel_rfl) (m := 0) (by kernel_rfl) trivial (sk := []) (by kernel_rfl) trivial (f7_run k)

/-! ### gamehall/swiss.Cost: function 9 -/
noncomputable def f9 (k : Nat) (x0 : List (Int × (List Int) × Int × Bool × Unit)) (x1 : Int) (x2 : Int) : Option ((Int × Int × Unit)) :=
  (f14 k x0).bind fun r1 =>
  bif r1.1 != 0 then
    some (0, r1)
  else
  bif decide ((if x2 < x1 then x2 else x1) < 0) then
    some (0, 1, ())
  else
  bif decide ((if x2 > x1 then x2 else x1) ≥ (x0.length : Int)) then
    some (0, 1, ())
  else
  bif x1 == x2 then
    some (0, 1, ())
  else
    (f17 k x0 x1 x2).bind fun r2 =>
    some (r2.1, 0, ())
noncomputable def f9_sig (k : Nat) : Sig := ⟨[.val (.sl (.pair (.int .i64) (.pair (.sl (.int .i64)) (.pair (.int .i64) (.pair (.bool) (.unit)))))), .val (.int .i64), .val (.int .i64)], [], [[.val (.int .i64), .val (.int .i64)]], fun x => f9 k x.1 x.2.1 x.2.2.1⟩
noncomputable def E_f9 (k : Nat) : Env := ⟨Try.prog, G0, scons 17 [f17_sig k] (scons 14 [f14_sig k] (snil)), tnil, tnil, unil, k, qnil, true⟩
theorem f9_run (k : Nat) (x : (lTy (lay 0 (f9_sig k).ins)).den) : runF (E_f9 k) Try.f9 (f9_sig k) x = (f9_sig k).F x := by kernel_rfl
theorem f9_ok (k : Nat) : FnOK Try.prog G0 9 (f9_sig k) :=
  fn_ok2 (E := E_f9 k) (env_cons (one_sig (f17_ok k)) (env_cons (one_sig (f14_ok k)) (env_nil))) (qenv_nil) mixed Try.func9 Try.call9 (by kernel_rfl) (by kernel_rfl) (m := 0) (by kernel_rfl) trivial (sk := []) (by kernel_rfl) trivial (f9_run k)

/-! ### gamehall/gamehallkeep3.SwissCosts: function 4 -/
noncomputable def l4_10 (k : Nat) : Nat → (List (Int × (List Int) × Int × Bool × Unit)) → Int → Int → (List (Int × Int × Unit)) → Int → Int → Unit → Int → Int → Option (((List (Int × (List Int) × Int × Bool × Unit)) × Int × Int × (List (Int × Int × Unit)) × Int × Int × Unit) ⊕ (Bool × Unit))
  | 0, _, _, _, _, _, _, _, _, _ => none
  | j + 1, s0, s1, s2, s7, s8, s11, s57, s58, s59 =>
    bif decide (s59 < s58) then
      bif decide (0 ≤ s59) && decide (s59 < (s7.length : Int)) then
        (f9 k s0 (rd ((0, 0, ()) : Int × Int × Unit) s7 s59).1 (rd ((0, 0, ()) : Int × Int × Unit) s7 s59).2.1).bind fun r1 =>
        bif r1.2.1 != 0 then
          some (.inr (false, ()))
        else
          l4_10 k j s0 s1 s2 s7 s8 (w64 (s11 + r1.1)) () s58 (w64 (s59 + 1))
      else
        none
    else
      some (.inl (s0, s1, s2, s7, s8, s11, ()))
noncomputable def l4_10_sig (k : Nat) : LoopSig := ⟨[(0, .obj (.val (.sl (.pair (.int .i64) (.pair (.sl (.int .i64)) (.pair (.int .i64) (.pair (.bool) (.unit)))))))), (1, .obj (.val (.int .i64))), (2, .obj (.val (.int .i64))), (7, .obj (.row (.pair (.int .i64) (.pair (.int .i64) (.unit))))), (8, .obj (.val (.int .i64))), (11, .obj (.val (.int .i64))), (57, .same 7), (58, .obj (.val (.int .i64))), (59, .obj (.val (.int .i64)))], [(.exit 0, [(0, .obj (.val (.sl (.pair (.int .i64) (.pair (.sl (.int .i64)) (.pair (.int .i64) (.pair (.bool) (.unit)))))))), (1, .obj (.val (.int .i64))), (2, .obj (.val (.int .i64))), (7, .obj (.row (.pair (.int .i64) (.pair (.int .i64) (.unit))))), (8, .obj (.val (.int .i64))), (11, .obj (.val (.int .i64)))]), (.ret, [(6, .obj (.val (.bool)))])], fun j x => l4_10 k j x.1 x.2.1 x.2.2.1 x.2.2.2.1 x.2.2.2.2.1 x.2.2.2.2.2.1 x.2.2.2.2.2.2.1 x.2.2.2.2.2.2.2.1 x.2.2.2.2.2.2.2.2.1⟩
noncomputable def l4_21 (k : Nat) : Nat → (List (Int × (List Int) × Int × Bool × Unit)) → (Int × Int × Unit) → (Int × Int × Unit) → (List Int) → Int → Int → Option (((List (Int × (List Int) × Int × Bool × Unit)) × (Int × Int × Unit) × (Int × Int × Unit) × Unit) ⊕ (Bool × Unit))
  | 0, _, _, _, _, _, _ => none
  | j + 1, s0, s16, s17, s126, s127, s128 =>
    bif decide (s128 < s127) then
      bif decide (0 ≤ s128) && decide (s128 < (s126.length : Int)) then
        bif (rd (0 : Int) s126 s128) == s17.2.1 then
          some (.inr (true, ()))
        else
          l4_21 k j s0 s16 s17 s126 s127 (w64 (s128 + 1))
      else
        none
    else
      some (.inl (s0, s16, s17, ()))
noncomputable def l4_21_sig (k : Nat) : LoopSig := ⟨[(0, .obj (.val (.sl (.pair (.int .i64) (.pair (.sl (.int .i64)) (.pair (.int .i64) (.pair (.bool) (.unit)))))))), (16, .obj (.box (.val (.pair (.int .i64) (.pair (.int .i64) (.unit)))))), (17, .obj (.box (.val (.pair (.int .i64) (.pair (.int .i64) (.unit)))))), (126, .obj (.row (.int .i64))), (127, .obj (.val (.int .i64))), (128, .obj (.val (.int .i64)))], [(.exit 2, [(0, .obj (.val (.sl (.pair (.int .i64) (.pair (.sl (.int .i64)) (.pair (.int .i64) (.pair (.bool) (.unit)))))))), (16, .obj (.box (.val (.pair (.int .i64) (.pair (.int .i64) (.unit)))))), (17, .obj (.box (.val (.pair (.int .i64) (.pair (.int .i64) (.unit))))))]), (.ret, [(6, .obj (.val (.bool)))])], fun j x => l4_21 k j x.1 x.2.1 x.2.2.1 x.2.2.2.1 x.2.2.2.2.1 x.2.2.2.2.2.1⟩
noncomputable def l4_27 (k : Nat) : Nat → (List (Int × (List Int) × Int × Bool × Unit)) → (Int × Int × Unit) → (Int × Int × Unit) → (List Int) → Int → Int → Option (((List (Int × (List Int) × Int × Bool × Unit)) × (Int × Int × Unit) × (Int × Int × Unit) × Unit) ⊕ (Bool × Unit))
  | 0, _, _, _, _, _, _ => none
  | j + 1, s0, s16, s17, s146, s147, s148 =>
    bif decide (s148 < s147) then
      bif decide (0 ≤ s148) && decide (s148 < (s146.length : Int)) then
        bif (rd (0 : Int) s146 s148) == s16.2.1 then
          some (.inr (true, ()))
        else
          l4_27 k j s0 s16 s17 s146 s147 (w64 (s148 + 1))
      else
        none
    else
      some (.inl (s0, s16, s17, ()))
noncomputable def l4_27_sig (k : Nat) : LoopSig := ⟨[(0, .obj (.val (.sl (.pair (.int .i64) (.pair (.sl (.int .i64)) (.pair (.int .i64) (.pair (.bool) (.unit)))))))), (16, .obj (.box (.val (.pair (.int .i64) (.pair (.int .i64) (.unit)))))), (17, .obj (.box (.val (.pair (.int .i64) (.pair (.int .i64) (.unit)))))), (146, .obj (.row (.int .i64))), (147, .obj (.val (.int .i64))), (148, .obj (.val (.int .i64)))], [(.exit 4, [(0, .obj (.val (.sl (.pair (.int .i64) (.pair (.sl (.int .i64)) (.pair (.int .i64) (.pair (.bool) (.unit)))))))), (16, .obj (.box (.val (.pair (.int .i64) (.pair (.int .i64) (.unit)))))), (17, .obj (.box (.val (.pair (.int .i64) (.pair (.int .i64) (.unit))))))]), (.ret, [(6, .obj (.val (.bool)))])], fun j x => l4_27 k j x.1 x.2.1 x.2.2.1 x.2.2.2.1 x.2.2.2.2.1 x.2.2.2.2.2.1⟩
noncomputable def f4 (k : Nat) (x0 : List (Int × (List Int) × Int × Bool × Unit)) (x1 : Int) (x2 : Int) : Option ((Bool × Unit)) :=
  (f7 k).bind fun r1 =>
  bif !r1.1 then
    some (false, ())
  else
    (f8 k x0).bind fun r2 =>
    bif r2.2.2.2.1 != 0 then
      some (r2.2.1 == 0, ())
    else
    bif decide (r2.2.2.1 ≥ 0) then
      bif decide (0 ≤ r2.2.2.1) && decide (r2.2.2.1 < (x0.length : Int)) then
        bif decide (0 ≤ r2.2.2.1) && decide (r2.2.2.1 < (x0.length : Int)) then
          (l4_10 k k x0 x1 x2 r2.1 r2.2.1 (w64 ((w64 (100 * (rd ((0, [], 0, false, ()) : Int × (List Int) × Int × Bool × Unit) x0 r2.2.2.1).1)) * (rd ((0, [], 0, false, ()) : Int × (List Int) × Int × Bool × Unit) x0 r2.2.2.1).1)) () (r2.1.length : Int) 0).bind fun w6 =>
          Sum.elim
            (fun y3 =>
              bif y3.2.2.2.2.2.1 != y3.2.2.2.2.1 then
                some (y3.2.2.2.2.2.1 == y3.2.2.2.2.1, ())
              else
              bif decide (y3.2.1 < 0) then
                some (y3.2.2.2.2.2.1 == y3.2.2.2.2.1, ())
              else
              bif decide (y3.2.2.1 < 0) then
                some (y3.2.2.2.2.2.1 == y3.2.2.2.2.1, ())
              else
              bif decide (y3.2.1 ≥ (y3.2.2.2.1.length : Int)) then
                some (y3.2.2.2.2.2.1 == y3.2.2.2.2.1, ())
              else
              bif decide (y3.2.2.1 ≥ (y3.2.2.2.1.length : Int)) then
                some (y3.2.2.2.2.2.1 == y3.2.2.2.2.1, ())
              else
              bif y3.2.1 == y3.2.2.1 then
                some (y3.2.2.2.2.2.1 == y3.2.2.2.2.1, ())
              else
              bif decide (0 ≤ y3.2.1) && decide (y3.2.1 < (y3.2.2.2.1.length : Int)) then
                bif decide (0 ≤ y3.2.2.1) && decide (y3.2.2.1 < (y3.2.2.2.1.length : Int)) then
                  bif decide (0 ≤ (rd ((0, 0, ()) : Int × Int × Unit) y3.2.2.2.1 y3.2.1).1) && decide ((rd ((0, 0, ()) : Int × Int × Unit) y3.2.2.2.1 y3.2.1).1 < (y3.1.length : Int)) then
                    bif decide ((([] : List Int).length + (rd ((0, [], 0, false, ()) : Int × (List Int) × Int × Bool × Unit) y3.1 (rd ((0, 0, ()) : Int × Int × Unit) y3.2.2.2.1 y3.2.1).1).2.1.length) * 8 ≤ roomN) then
                      bif decide ((([] ++ (rd ((0, [], 0, false, ()) : Int × (List Int) × Int × Bool × Unit) y3.1 (rd ((0, 0, ()) : Int × Int × Unit) y3.2.2.2.1 y3.2.1).1).2.1).length + [(-1)].length) * 8 ≤ roomN) then
                        (l4_21 k k y3.1 (rd ((0, 0, ()) : Int × Int × Unit) y3.2.2.2.1 y3.2.1) (rd ((0, 0, ()) : Int × Int × Unit) y3.2.2.2.1 y3.2.2.1) (([] ++ (rd ((0, [], 0, false, ()) : Int × (List Int) × Int × Bool × Unit) y3.1 (rd ((0, 0, ()) : Int × Int × Unit) y3.2.2.2.1 y3.2.1).1).2.1) ++ [(-1)]) ((([] ++ (rd ((0, [], 0, false, ()) : Int × (List Int) × Int × Bool × Unit) y3.1 (rd ((0, 0, ()) : Int × Int × Unit) y3.2.2.2.1 y3.2.1).1).2.1) ++ [(-1)]).length : Int) 0).bind fun w7 =>
                        Sum.elim
                          (fun y4 =>
                            bif decide (0 ≤ y4.2.2.1.1) && decide (y4.2.2.1.1 < (y4.1.length : Int)) then
                              bif decide ((([] : List Int).length + (rd ((0, [], 0, false, ()) : Int × (List Int) × Int × Bool × Unit) y4.1 y4.2.2.1.1).2.1.length) * 8 ≤ roomN) then
                                bif decide ((([] ++ (rd ((0, [], 0, false, ()) : Int × (List Int) × Int × Bool × Unit) y4.1 y4.2.2.1.1).2.1).length + [(-1)].length) * 8 ≤ roomN) then
                                  (l4_27 k k y4.1 y4.2.1 y4.2.2.1 (([] ++ (rd ((0, [], 0, false, ()) : Int × (List Int) × Int × Bool × Unit) y4.1 y4.2.2.1.1).2.1) ++ [(-1)]) ((([] ++ (rd ((0, [], 0, false, ()) : Int × (List Int) × Int × Bool × Unit) y4.1 y4.2.2.1.1).2.1) ++ [(-1)]).length : Int) 0).bind fun w8 =>
                                  Sum.elim
                                    (fun y5 =>
                                      (f9 k y5.1 y5.2.1.1 y5.2.1.2.1).bind fun r6 =>
                                      (f9 k y5.1 y5.2.2.1.1 y5.2.2.1.2.1).bind fun r7 =>
                                      (f9 k y5.1 y5.2.1.1 y5.2.2.1.2.1).bind fun r8 =>
                                      (f9 k y5.1 y5.2.2.1.1 y5.2.1.2.1).bind fun r9 =>
                                      some (decide ((w64 (r6.1 + r7.1)) ≤ (w64 (r8.1 + r9.1))), ()))
                                    (fun y10 =>
                                      some y10)
                                    w8
                                else
                                  none
                              else
                                none
                            else
                              none)
                          (fun y11 =>
                            some y11)
                          w7
                      else
                        none
                    else
                      none
                  else
                    none
                else
                  none
              else
                none)
            (fun y12 =>
              some y12)
            w6
        else
          none
      else
        none
    else
      (l4_10 k k x0 x1 x2 r2.1 r2.2.1 0 () (r2.1.length : Int) 0).bind fun w9 =>
      Sum.elim
        (fun y13 =>
          bif y13.2.2.2.2.2.1 != y13.2.2.2.2.1 then
            some (y13.2.2.2.2.2.1 == y13.2.2.2.2.1, ())
          else
          bif decide (y13.2.1 < 0) then
            some (y13.2.2.2.2.2.1 == y13.2.2.2.2.1, ())
          else
          bif decide (y13.2.2.1 < 0) then
            some (y13.2.2.2.2.2.1 == y13.2.2.2.2.1, ())
          else
          bif decide (y13.2.1 ≥ (y13.2.2.2.1.length : Int)) then
            some (y13.2.2.2.2.2.1 == y13.2.2.2.2.1, ())
          else
          bif decide (y13.2.2.1 ≥ (y13.2.2.2.1.length : Int)) then
            some (y13.2.2.2.2.2.1 == y13.2.2.2.2.1, ())
          else
          bif y13.2.1 == y13.2.2.1 then
            some (y13.2.2.2.2.2.1 == y13.2.2.2.2.1, ())
          else
          bif decide (0 ≤ y13.2.1) && decide (y13.2.1 < (y13.2.2.2.1.length : Int)) then
            bif decide (0 ≤ y13.2.2.1) && decide (y13.2.2.1 < (y13.2.2.2.1.length : Int)) then
              bif decide (0 ≤ (rd ((0, 0, ()) : Int × Int × Unit) y13.2.2.2.1 y13.2.1).1) && decide ((rd ((0, 0, ()) : Int × Int × Unit) y13.2.2.2.1 y13.2.1).1 < (y13.1.length : Int)) then
                bif decide ((([] : List Int).length + (rd ((0, [], 0, false, ()) : Int × (List Int) × Int × Bool × Unit) y13.1 (rd ((0, 0, ()) : Int × Int × Unit) y13.2.2.2.1 y13.2.1).1).2.1.length) * 8 ≤ roomN) then
                  bif decide ((([] ++ (rd ((0, [], 0, false, ()) : Int × (List Int) × Int × Bool × Unit) y13.1 (rd ((0, 0, ()) : Int × Int × Unit) y13.2.2.2.1 y13.2.1).1).2.1).length + [(-1)].length) * 8 ≤ roomN) then
                    (l4_21 k k y13.1 (rd ((0, 0, ()) : Int × Int × Unit) y13.2.2.2.1 y13.2.1) (rd ((0, 0, ()) : Int × Int × Unit) y13.2.2.2.1 y13.2.2.1) (([] ++ (rd ((0, [], 0, false, ()) : Int × (List Int) × Int × Bool × Unit) y13.1 (rd ((0, 0, ()) : Int × Int × Unit) y13.2.2.2.1 y13.2.1).1).2.1) ++ [(-1)]) ((([] ++ (rd ((0, [], 0, false, ()) : Int × (List Int) × Int × Bool × Unit) y13.1 (rd ((0, 0, ()) : Int × Int × Unit) y13.2.2.2.1 y13.2.1).1).2.1) ++ [(-1)]).length : Int) 0).bind fun w10 =>
                    Sum.elim
                      (fun y14 =>
                        bif decide (0 ≤ y14.2.2.1.1) && decide (y14.2.2.1.1 < (y14.1.length : Int)) then
                          bif decide ((([] : List Int).length + (rd ((0, [], 0, false, ()) : Int × (List Int) × Int × Bool × Unit) y14.1 y14.2.2.1.1).2.1.length) * 8 ≤ roomN) then
                            bif decide ((([] ++ (rd ((0, [], 0, false, ()) : Int × (List Int) × Int × Bool × Unit) y14.1 y14.2.2.1.1).2.1).length + [(-1)].length) * 8 ≤ roomN) then
                              (l4_27 k k y14.1 y14.2.1 y14.2.2.1 (([] ++ (rd ((0, [], 0, false, ()) : Int × (List Int) × Int × Bool × Unit) y14.1 y14.2.2.1.1).2.1) ++ [(-1)]) ((([] ++ (rd ((0, [], 0, false, ()) : Int × (List Int) × Int × Bool × Unit) y14.1 y14.2.2.1.1).2.1) ++ [(-1)]).length : Int) 0).bind fun w11 =>
                              Sum.elim
                                (fun y15 =>
                                  (f9 k y15.1 y15.2.1.1 y15.2.1.2.1).bind fun r16 =>
                                  (f9 k y15.1 y15.2.2.1.1 y15.2.2.1.2.1).bind fun r17 =>
                                  (f9 k y15.1 y15.2.1.1 y15.2.2.1.2.1).bind fun r18 =>
                                  (f9 k y15.1 y15.2.2.1.1 y15.2.1.2.1).bind fun r19 =>
                                  some (decide ((w64 (r16.1 + r17.1)) ≤ (w64 (r18.1 + r19.1))), ()))
                                (fun y20 =>
                                  some y20)
                                w11
                            else
                              none
                          else
                            none
                        else
                          none)
                      (fun y21 =>
                        some y21)
                      w10
                  else
                    none
                else
                  none
              else
                none
            else
              none
          else
            none)
        (fun y22 =>
          some y22)
        w9
noncomputable def f4_sig (k : Nat) : Sig := ⟨[.val (.sl (.pair (.int .i64) (.pair (.sl (.int .i64)) (.pair (.int .i64) (.pair (.bool) (.unit)))))), .val (.int .i64), .val (.int .i64)], [], [[.val (.bool)]], fun x => f4 k x.1 x.2.1 x.2.2.1⟩
noncomputable def E_f4 (k : Nat) : Env := ⟨Try.prog, G0, scons 9 [f9_sig k] (scons 8 [f8_sig k] (scons 7 [f7_sig k] (snil))), tcons 27 (l4_27_sig k) (tcons 21 (l4_21_sig k) (tcons 10 (l4_10_sig k) (tnil))), tnil, unil, k, qnil, true⟩
theorem l4_10_ok (k : Nat) : LoopOK (E_f4 k) ⟨Try.f4.ntmps, [], G0⟩ (nthC 0 (loopsIn (Try.f4.body.getD .skip))) :=
  loop_ok (ls := l4_10_sig k) (by kernel_rfl) (fun _ => by kernel_rfl) (fun j x => by kernel_rfl)
theorem l4_21_ok (k : Nat) : LoopOK (E_f4 k) ⟨Try.f4.ntmps, [], G0⟩ (nthC 1 (loopsIn (Try.f4.body.getD .skip))) :=
  loop_ok (ls := l4_21_sig k) (by kernel_rfl) (fun _ => by kernel_rfl) (fun j x => by kernel_rfl)
theorem l4_27_ok (k : Nat) : LoopOK (E_f4 k) ⟨Try.f4.ntmps, [], G0⟩ (nthC 2 (loopsIn (Try.f4.body.getD .skip))) :=
  loop_ok (ls := l4_27_sig k) (by kernel_rfl) (fun _ => by kernel_rfl) (fun j x => by kernel_rfl)
theorem f4_run (k : Nat) (x : (lTy (lay 0 (f4_sig k).ins)).den) : runF (E_f4 k) Try.f4 (f4_sig k) x = (f4_sig k).F x := by kernel_rfl
theorem f4_ok (k : Nat) : FnOK Try.prog G0 4 (f4_sig k) :=
  fn_ok2 (E := E_f4 k) (env_cons (one_sig (f9_ok k)) (env_cons (one_sig (f8_ok k)) (env_cons (one_sig (f7_ok k)) (env_nil)))) (qenv_nil) mixed Try.func4 Try.call4 (by kernel_rfl) (by kernel_rfl) (m := 3) (by kernel_rfl) ⟨⟨⟨trivial, l4_10_ok k⟩, l4_21_ok k⟩, l4_27_ok k⟩ (sk := []) (by kernel_rfl) trivial (f4_run k)

end Go.Proofs.Ytpfakfiaaidimaa.G
