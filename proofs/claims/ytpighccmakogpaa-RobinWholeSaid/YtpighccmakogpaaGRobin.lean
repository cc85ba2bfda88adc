import Derived.Test.YtpighccmakogpaaVM21
import Derived.Test.YtpighccmakogpaaChecked
namespace Go.Proofs.Ytpighccmakogpaa.G
open Go.VM Go.Proofs

abbrev w64 (n : Int) : Int := IntKind.i64.wrap n
theorem mixed : Try.prog.follows .mixedOrders = true := by kernel_rfl

/-! ### gamehall/robin.Rounds: function 21 -/
noncomputable def f21 (k : Nat) (x0 : Int) (x1 : Bool) : Option ((Int × Int × Unit)) :=
  bif decide (x0 < 2) then
    some (0, 4, ())
  else
  bif decide (x0 > 32) then
    some (0, 4, ())
  else
  bif x1 then
    some (w64 ((w64 ((w64 (x0 - 1)) + (x0.tmod 2))) * 2), 0, ())
  else
    some (w64 ((w64 (x0 - 1)) + (x0.tmod 2)), 0, ())
noncomputable def f21_sig (k : Nat) : Sig := ⟨[.val (.int .i64), .val (.bool)], [], [[.val (.int .i64), .val (.int .i64)]], fun x => f21 k x.1 x.2.1⟩
noncomputable def E_f21 (k : Nat) : Env := ⟨Try.prog, snil, tnil, tnil, unil, k⟩
theorem f21_run (k : Nat) (x : (lTy (lay 0 (f21_sig k).ins)).den) : runF (E_f21 k) Try.f21 (f21_sig k) x = (f21_sig k).F x := by kernel_rfl
theorem f21_ok (k : Nat) : FnOK Try.prog 21 (f21_sig k) :=
  fn_ok2 (E := E_f21 k) (env_nil) mixed Try.func21 Try.call21 (by kernel_rfl) (by kernel_rfl) (m := 0) (by kernel_rfl) trivial (sk := []) (by kernel_rfl) trivial (f21_run k)

/-! ### gamehall/gamehallkeep3.rounds: function 15 -/
noncomputable def f15 (k : Nat) : Option ((Bool × Unit)) :=
  (f21 k 2 false).bind fun r1 =>
  bif r1.2.1 == 0 then
    some (r1.1 == 1, ())
  else
    some (false, ())
noncomputable def f15_sig (k : Nat) : Sig := ⟨[], [], [[.val (.bool)]], fun x => f15 k⟩
noncomputable def E_f15 (k : Nat) : Env := ⟨Try.prog, scons 21 [f21_sig k] (snil), tnil, tnil, unil, k⟩
theorem f15_run (k : Nat) (x : (lTy (lay 0 (f15_sig k).ins)).den) : runF (E_f15 k) Try.f15 (f15_sig k) x = (f15_sig k).F x := by kernel_rfl
theorem f15_ok (k : Nat) : FnOK Try.prog 15 (f15_sig k) :=
  fn_ok2 (E := E_f15 k) (env_cons (one_sig (f21_ok k)) (env_nil)) mixed Try.func15 Try.call15 (by kernel_rfl) (by kernel_rfl) (m := 0) (by kernel_rfl) trivial (sk := []) (by kernel_rfl) trivial (f15_run k)

/-! ### gamehall/robin.seat: function 32 -/
noncomputable def f32 (k : Nat) (x0 : Int) (x1 : Int) (x2 : Int) : Option ((Int × Unit)) :=
  bif decide (w64 (x0 - 1) = 0) then
    none
  else
    some ((w64 (x1 + x2)).tmod (w64 (x0 - 1)), ())
noncomputable def f32_sig (k : Nat) : Sig := ⟨[.val (.int .i64), .val (.int .i64), .val (.int .i64)], [], [[.val (.int .i64)]], fun x => f32 k x.1 x.2.1 x.2.2.1⟩
noncomputable def E_f32 (k : Nat) : Env := ⟨Try.prog, snil, tnil, tnil, unil, k⟩
theorem f32_run (k : Nat) (x : (lTy (lay 0 (f32_sig k).ins)).den) : runF (E_f32 k) Try.f32 (f32_sig k) x = (f32_sig k).F x := by kernel_rfl
theorem f32_ok (k : Nat) : FnOK Try.prog 32 (f32_sig k) :=
  fn_ok2 (E := E_f32 k) (env_nil) mixed Try.func32 Try.call32 (by kernel_rfl) (by kernel_rfl) (m := 0) (by kernel_rfl) trivial (sk := []) (by kernel_rfl) trivial (f32_run k)

/-! ### gamehall/robin.Round: function 16 -/
noncomputable def l16_16 (k : Nat) : Nat → Int → Bool → Int → (List (Int × Int × Unit)) → Int → Option ((Bool × (List (Int × Int × Unit)) × Unit))
  | 0, _, _, _, _, _ => none
  | j + 1, s10, s11, s12, s13, s15 =>
    bif decide (s15 < (w64 (s10.tdiv 2))) then
      (f32 k s10 s12 s15).bind fun r1 =>
      (f32 k s10 s12 (w64 ((w64 (s10 - 1)) - s15))).bind fun r2 =>
      bif (s15.tmod 2) == 1 then
        bif decide ((s13.length + ([(r2.1, r1)] : List (Int × Int × Unit)).length) * 16 ≤ roomN) then
          l16_16 k j s10 s11 s12 (s13 ++ [(r2.1, r1)]) (w64 (s15 + 1))
        else
          none
      else
      bif decide ((s13.length + ([(r1.1, r2)] : List (Int × Int × Unit)).length) * 16 ≤ roomN) then
        l16_16 k j s10 s11 s12 (s13 ++ [(r1.1, r2)]) (w64 (s15 + 1))
      else
        none
    else
      some (s11, s13, ())
noncomputable def l16_16_sig (k : Nat) : LoopSig := ⟨[(10, .obj (.val (.int .i64))), (11, .obj (.val (.bool))), (12, .obj (.val (.int .i64))), (13, .obj (.row (.pair (.int .i64) (.pair (.int .i64) (.unit))))), (15, .obj (.val (.int .i64)))], [(.exit 0, [(11, .obj (.val (.bool))), (13, .obj (.row (.pair (.int .i64) (.pair (.int .i64) (.unit)))))])], fun j x => l16_16 k j x.1 x.2.1 x.2.2.1 x.2.2.2.1 x.2.2.2.2.1⟩
noncomputable def l16_24 (k : Nat) : Nat → (List (Int × Int × Unit)) → Unit → Int → Int → Option (((List (Int × Int × Unit)) × Unit))
  | 0, _, _, _, _ => none
  | j + 1, s13, s99, s100, s101 =>
    bif decide (s101 < s100) then
      bif decide (0 ≤ s101) && decide (s101 < (s13.length : Int)) then
        bif decide (0 ≤ s101) && decide (s101 < (s13.length : Int)) then
          l16_24 k j (s13.set s101.toNat ((rd ((0, 0, ()) : Int × Int × Unit) s13 s101).2.1, (rd ((0, 0, ()) : Int × Int × Unit) s13 s101).1, ())) () s100 (w64 (s101 + 1))
        else
          none
      else
        none
    else
      some (s13, ())
noncomputable def l16_24_sig (k : Nat) : LoopSig := ⟨[(13, .obj (.row (.pair (.int .i64) (.pair (.int .i64) (.unit))))), (99, .same 13), (100, .obj (.val (.int .i64))), (101, .obj (.val (.int .i64)))], [(.exit 2, [(13, .obj (.row (.pair (.int .i64) (.pair (.int .i64) (.unit)))))])], fun j x => l16_24 k j x.1 x.2.1 x.2.2.1 x.2.2.2.1⟩
noncomputable def f16 (k : Nat) (x0 : Int) (x1 : Bool) (x2 : Int) : Option (((List (Int × Int × Unit)) × Int × Unit)) :=
  (f21 k x0 x1).bind fun r1 =>
  bif r1.2.1 != 0 then
    some ([], r1.2)
  else
  bif decide (x2 < 0) then
    some ([], 1, ())
  else
  bif decide (x2 ≥ r1.1) then
    some ([], 1, ())
  else
  bif decide (w64 ((w64 (x0 + (x0.tmod 2))) - 1) = 0) then
    none
  else
  bif x0 == (w64 (x0 + (x0.tmod 2))) then
    (f32 k (w64 (x0 + (x0.tmod 2))) (x2.tmod (w64 ((w64 (x0 + (x0.tmod 2))) - 1))) 0).bind fun r2 =>
    bif ((x2.tmod (w64 ((w64 (x0 + (x0.tmod 2))) - 1))).tmod 2) == 1 then
      (l16_16 k k (w64 (x0 + (x0.tmod 2))) (decide (x2 ≥ (w64 ((w64 (x0 + (x0.tmod 2))) - 1)))) (x2.tmod (w64 ((w64 (x0 + (x0.tmod 2))) - 1))) [(w64 ((w64 (x0 + (x0.tmod 2))) - 1), r2)] 1).bind fun o3 =>
      bif o3.1 then
        (l16_24 k k o3.2.1 () (o3.2.1.length : Int) 0).bind fun o4 =>
        some (o4.1, 0, ())
      else
        some (o3.2.1, 0, ())
    else
      (l16_16 k k (w64 (x0 + (x0.tmod 2))) (decide (x2 ≥ (w64 ((w64 (x0 + (x0.tmod 2))) - 1)))) (x2.tmod (w64 ((w64 (x0 + (x0.tmod 2))) - 1))) [(r2.1, w64 ((w64 (x0 + (x0.tmod 2))) - 1), ())] 1).bind fun o5 =>
      bif o5.1 then
        (l16_24 k k o5.2.1 () (o5.2.1.length : Int) 0).bind fun o6 =>
        some (o6.1, 0, ())
      else
        some (o5.2.1, 0, ())
  else
    (l16_16 k k (w64 (x0 + (x0.tmod 2))) (decide (x2 ≥ (w64 ((w64 (x0 + (x0.tmod 2))) - 1)))) (x2.tmod (w64 ((w64 (x0 + (x0.tmod 2))) - 1))) [] 1).bind fun o7 =>
    bif o7.1 then
      (l16_24 k k o7.2.1 () (o7.2.1.length : Int) 0).bind fun o8 =>
      some (o8.1, 0, ())
    else
      some (o7.2.1, 0, ())
noncomputable def f16_sig (k : Nat) : Sig := ⟨[.val (.int .i64), .val (.bool), .val (.int .i64)], [], [[.row (.pair (.int .i64) (.pair (.int .i64) (.unit))), .val (.int .i64)]], fun x => f16 k x.1 x.2.1 x.2.2.1⟩
noncomputable def E_f16 (k : Nat) : Env := ⟨Try.prog, scons 32 [f32_sig k] (scons 21 [f21_sig k] (snil)), tcons 24 (l16_24_sig k) (tcons 16 (l16_16_sig k) (tnil)), tnil, unil, k⟩
theorem l16_16_ok (k : Nat) : LoopOK (E_f16 k) ⟨Try.f16.ntmps, []⟩ (nthC 0 (loopsIn (Try.f16.body.getD .skip))) :=
  loop_ok (ls := l16_16_sig k) (by kernel_rfl) (fun _ => by kernel_rfl) (fun j x => by kernel_rfl)
theorem l16_24_ok (k : Nat) : LoopOK (E_f16 k) ⟨Try.f16.ntmps, []⟩ (nthC 1 (loopsIn (Try.f16.body.getD .skip))) :=
  loop_ok (ls := l16_24_sig k) (by kernel_rfl) (fun _ => by kernel_rfl) (fun j x => by kernel_rfl)
theorem f16_run (k : Nat) (x : (lTy (lay 0 (f16_sig k).ins)).den) : runF (E_f16 k) Try.f16 (f16_sig k) x = (f16_sig k).F x := by kernel_rfl
theorem f16_ok (k : Nat) : FnOK Try.prog 16 (f16_sig k) :=
  fn_ok2 (E := E_f16 k) (env_cons (one_sig (f32_ok k)) (env_cons (one_sig (f21_ok k)) (env_nil))) mixed Try.func16 Try.call16 (by kernel_rfl) (by kernel_rfl) (m := 2) (by kernel_rfl) ⟨⟨trivial, l16_16_ok k⟩, l16_24_ok k⟩ (sk := []) (by kernel_rfl) trivial (f16_run k)

/-! ### gamehall/robin.All: function 23 -/
noncomputable def l23_6 (k : Nat) : Nat → Int → Bool → (List (List (Int × Int × Unit))) → Int → Int → Option (((List (List (Int × Int × Unit))) × Unit))
  | 0, _, _, _, _, _ => none
  | j + 1, s0, s1, s8, s21, s22 =>
    bif decide (s22 < s21) then
      (f16 k s0 s1 s22).bind fun r1 =>
      bif decide ((s8.length + [r1.1].length) * 24 ≤ roomN) then
        l23_6 k j s0 s1 (s8 ++ [r1.1]) s21 (w64 (s22 + 1))
      else
        none
    else
      some (s8, ())
noncomputable def l23_6_sig (k : Nat) : LoopSig := ⟨[(0, .obj (.val (.int .i64))), (1, .obj (.val (.bool))), (8, .obj (.row (.sl (.pair (.int .i64) (.pair (.int .i64) (.unit)))))), (21, .obj (.val (.int .i64))), (22, .obj (.val (.int .i64)))], [(.exit 0, [(8, .obj (.row (.sl (.pair (.int .i64) (.pair (.int .i64) (.unit))))))])], fun j x => l23_6 k j x.1 x.2.1 x.2.2.1 x.2.2.2.1 x.2.2.2.2.1⟩
noncomputable def f23 (k : Nat) (x0 : Int) (x1 : Bool) : Option (((List (List (Int × Int × Unit))) × Int × Unit)) :=
  (f21 k x0 x1).bind fun r1 =>
  bif r1.2.1 != 0 then
    some ([], r1.2)
  else
    (l23_6 k k x0 x1 [] r1.1 0).bind fun o2 =>
    some (o2.1, 0, ())
noncomputable def f23_sig (k : Nat) : Sig := ⟨[.val (.int .i64), .val (.bool)], [], [[.row (.sl (.pair (.int .i64) (.pair (.int .i64) (.unit)))), .val (.int .i64)]], fun x => f23 k x.1 x.2.1⟩
noncomputable def E_f23 (k : Nat) : Env := ⟨Try.prog, scons 21 [f21_sig k] (scons 16 [f16_sig k] (snil)), tcons 6 (l23_6_sig k) (tnil), tnil, unil, k⟩
theorem l23_6_ok (k : Nat) : LoopOK (E_f23 k) ⟨Try.f23.ntmps, []⟩ (nthC 0 (loopsIn (Try.f23.body.getD .skip))) :=
  loop_ok (ls := l23_6_sig k) (by kernel_rfl) (fun _ => by kernel_rfl) (fun j x => by kernel_rfl)
theorem f23_run (k : Nat) (x : (lTy (lay 0 (f23_sig k).ins)).den) : runF (E_f23 k) Try.f23 (f23_sig k) x = (f23_sig k).F x := by kernel_rfl
theorem f23_ok (k : Nat) : FnOK Try.prog 23 (f23_sig k) :=
  fn_ok2 (E := E_f23 k) (env_cons (one_sig (f21_ok k)) (env_cons (one_sig (f16_ok k)) (env_nil))) mixed Try.func23 Try.call23 (by kernel_rfl) (by kernel_rfl) (m := 1) (by kernel_rfl) ⟨trivial, l23_6_ok k⟩ (sk := []) (by kernel_rfl) trivial (f23_run k)

/-! ### gamehall/robin.Check: function 24 -/
noncomputable def l24_12 (k : Nat) : Nat → Int → Bool → (List Int) → (List Int) → (List (List (Int × Int × Unit))) → Int → Int → (List (Int × Int × Unit)) → Int → Int → Option ((Int × Bool × (List Int) × (List (List (Int × Int × Unit))) × Int × Int × Unit) ⊕ (Int × Unit))
  | 0, _, _, _, _, _, _, _, _, _, _ => none
  | j + 1, s0, s1, s9, s12, s36, s37, s38, s44, s45, s46 =>
    bif decide (s46 < s45) then
      bif decide (0 ≤ s46) && decide (s46 < (s44.length : Int)) then
        bif decide ((if (rd ((0, 0, ()) : Int × Int × Unit) s44 s46).2.1 < (rd ((0, 0, ()) : Int × Int × Unit) s44 s46).1 then (rd ((0, 0, ()) : Int × Int × Unit) s44 s46).2.1 else (rd ((0, 0, ()) : Int × Int × Unit) s44 s46).1) < 0) then
          some (.inr (4, ()))
        else
        bif decide ((if (rd ((0, 0, ()) : Int × Int × Unit) s44 s46).2.1 > (rd ((0, 0, ()) : Int × Int × Unit) s44 s46).1 then (rd ((0, 0, ()) : Int × Int × Unit) s44 s46).2.1 else (rd ((0, 0, ()) : Int × Int × Unit) s44 s46).1) ≥ s0) then
          some (.inr (4, ()))
        else
        bif (rd ((0, 0, ()) : Int × Int × Unit) s44 s46).1 == (rd ((0, 0, ()) : Int × Int × Unit) s44 s46).2.1 then
          some (.inr (4, ()))
        else
        bif decide (0 ≤ (rd ((0, 0, ()) : Int × Int × Unit) s44 s46).1) && decide ((rd ((0, 0, ()) : Int × Int × Unit) s44 s46).1 < (s12.length : Int)) then
          bif decide (0 ≤ (rd ((0, 0, ()) : Int × Int × Unit) s44 s46).1) && decide ((rd ((0, 0, ()) : Int × Int × Unit) s44 s46).1 < (s12.length : Int)) then
            bif decide (0 ≤ (rd ((0, 0, ()) : Int × Int × Unit) s44 s46).2.1) && decide ((rd ((0, 0, ()) : Int × Int × Unit) s44 s46).2.1 < ((s12.set (rd ((0, 0, ()) : Int × Int × Unit) s44 s46).1.toNat (w64 ((rd 0 s12 (rd ((0, 0, ()) : Int × Int × Unit) s44 s46).1) + 1))).length : Int)) then
              bif decide (0 ≤ (rd ((0, 0, ()) : Int × Int × Unit) s44 s46).2.1) && decide ((rd ((0, 0, ()) : Int × Int × Unit) s44 s46).2.1 < ((s12.set (rd ((0, 0, ()) : Int × Int × Unit) s44 s46).1.toNat (w64 ((rd 0 s12 (rd ((0, 0, ()) : Int × Int × Unit) s44 s46).1) + 1))).length : Int)) then
                bif decide (0 ≤ (rd ((0, 0, ()) : Int × Int × Unit) s44 s46).1) && decide ((rd ((0, 0, ()) : Int × Int × Unit) s44 s46).1 < (((s12.set (rd ((0, 0, ()) : Int × Int × Unit) s44 s46).1.toNat (w64 ((rd 0 s12 (rd ((0, 0, ()) : Int × Int × Unit) s44 s46).1) + 1))).set (rd ((0, 0, ()) : Int × Int × Unit) s44 s46).2.1.toNat (w64 ((rd 0 (s12.set (rd ((0, 0, ()) : Int × Int × Unit) s44 s46).1.toNat (w64 ((rd 0 s12 (rd ((0, 0, ()) : Int × Int × Unit) s44 s46).1) + 1))) (rd ((0, 0, ()) : Int × Int × Unit) s44 s46).2.1) + 1))).length : Int)) then
                  bif decide ((rd 0 ((s12.set (rd ((0, 0, ()) : Int × Int × Unit) s44 s46).1.toNat (w64 ((rd 0 s12 (rd ((0, 0, ()) : Int × Int × Unit) s44 s46).1) + 1))).set (rd ((0, 0, ()) : Int × Int × Unit) s44 s46).2.1.toNat (w64 ((rd 0 (s12.set (rd ((0, 0, ()) : Int × Int × Unit) s44 s46).1.toNat (w64 ((rd 0 s12 (rd ((0, 0, ()) : Int × Int × Unit) s44 s46).1) + 1))) (rd ((0, 0, ()) : Int × Int × Unit) s44 s46).2.1) + 1))) (rd ((0, 0, ()) : Int × Int × Unit) s44 s46).1) > 1) then
                    some (.inr (7, ()))
                  else
                  bif decide (0 ≤ (rd ((0, 0, ()) : Int × Int × Unit) s44 s46).2.1) && decide ((rd ((0, 0, ()) : Int × Int × Unit) s44 s46).2.1 < (((s12.set (rd ((0, 0, ()) : Int × Int × Unit) s44 s46).1.toNat (w64 ((rd 0 s12 (rd ((0, 0, ()) : Int × Int × Unit) s44 s46).1) + 1))).set (rd ((0, 0, ()) : Int × Int × Unit) s44 s46).2.1.toNat (w64 ((rd 0 (s12.set (rd ((0, 0, ()) : Int × Int × Unit) s44 s46).1.toNat (w64 ((rd 0 s12 (rd ((0, 0, ()) : Int × Int × Unit) s44 s46).1) + 1))) (rd ((0, 0, ()) : Int × Int × Unit) s44 s46).2.1) + 1))).length : Int)) then
                    bif decide ((rd 0 ((s12.set (rd ((0, 0, ()) : Int × Int × Unit) s44 s46).1.toNat (w64 ((rd 0 s12 (rd ((0, 0, ()) : Int × Int × Unit) s44 s46).1) + 1))).set (rd ((0, 0, ()) : Int × Int × Unit) s44 s46).2.1.toNat (w64 ((rd 0 (s12.set (rd ((0, 0, ()) : Int × Int × Unit) s44 s46).1.toNat (w64 ((rd 0 s12 (rd ((0, 0, ()) : Int × Int × Unit) s44 s46).1) + 1))) (rd ((0, 0, ()) : Int × Int × Unit) s44 s46).2.1) + 1))) (rd ((0, 0, ()) : Int × Int × Unit) s44 s46).2.1) > 1) then
                      some (.inr (7, ()))
                    else
                    bif decide (0 ≤ (w64 ((w64 ((rd ((0, 0, ()) : Int × Int × Unit) s44 s46).1 * s0)) + (rd ((0, 0, ()) : Int × Int × Unit) s44 s46).2.1))) && decide ((w64 ((w64 ((rd ((0, 0, ()) : Int × Int × Unit) s44 s46).1 * s0)) + (rd ((0, 0, ()) : Int × Int × Unit) s44 s46).2.1)) < (s9.length : Int)) then
                      bif decide (0 ≤ (w64 ((w64 ((rd ((0, 0, ()) : Int × Int × Unit) s44 s46).1 * s0)) + (rd ((0, 0, ()) : Int × Int × Unit) s44 s46).2.1))) && decide ((w64 ((w64 ((rd ((0, 0, ()) : Int × Int × Unit) s44 s46).1 * s0)) + (rd ((0, 0, ()) : Int × Int × Unit) s44 s46).2.1)) < (s9.length : Int)) then
                        l24_12 k j s0 s1 (s9.set (w64 ((w64 ((rd ((0, 0, ()) : Int × Int × Unit) s44 s46).1 * s0)) + (rd ((0, 0, ()) : Int × Int × Unit) s44 s46).2.1)).toNat (w64 ((rd 0 s9 (w64 ((w64 ((rd ((0, 0, ()) : Int × Int × Unit) s44 s46).1 * s0)) + (rd ((0, 0, ()) : Int × Int × Unit) s44 s46).2.1))) + 1))) ((s12.set (rd ((0, 0, ()) : Int × Int × Unit) s44 s46).1.toNat (w64 ((rd 0 s12 (rd ((0, 0, ()) : Int × Int × Unit) s44 s46).1) + 1))).set (rd ((0, 0, ()) : Int × Int × Unit) s44 s46).2.1.toNat (w64 ((rd 0 (s12.set (rd ((0, 0, ()) : Int × Int × Unit) s44 s46).1.toNat (w64 ((rd 0 s12 (rd ((0, 0, ()) : Int × Int × Unit) s44 s46).1) + 1))) (rd ((0, 0, ()) : Int × Int × Unit) s44 s46).2.1) + 1))) s36 s37 s38 s44 s45 (w64 (s46 + 1))
                      else
                        none
                    else
                      none
                  else
                    none
                else
                  none
              else
                none
            else
              none
          else
            none
        else
          none
      else
        none
    else
      some (.inl (s0, s1, s9, s36, s37, s38, ()))
noncomputable def l24_12_sig (k : Nat) : LoopSig := ⟨[(0, .obj (.val (.int .i64))), (1, .obj (.val (.bool))), (9, .obj (.row (.int .i64))), (12, .obj (.row (.int .i64))), (36, .obj (.val (.sl (.sl (.pair (.int .i64) (.pair (.int .i64) (.unit))))))), (37, .obj (.val (.int .i64))), (38, .obj (.val (.int .i64))), (44, .obj (.val (.sl (.pair (.int .i64) (.pair (.int .i64) (.unit)))))), (45, .obj (.val (.int .i64))), (46, .obj (.val (.int .i64)))], [(.exit 2, [(0, .obj (.val (.int .i64))), (1, .obj (.val (.bool))), (9, .obj (.row (.int .i64))), (36, .obj (.val (.sl (.sl (.pair (.int .i64) (.pair (.int .i64) (.unit))))))), (37, .obj (.val (.int .i64))), (38, .obj (.val (.int .i64)))]), (.ret, [(6, .obj (.val (.int .i64)))])], fun j x => l24_12 k j x.1 x.2.1 x.2.2.1 x.2.2.2.1 x.2.2.2.2.1 x.2.2.2.2.2.1 x.2.2.2.2.2.2.1 x.2.2.2.2.2.2.2.1 x.2.2.2.2.2.2.2.2.1 x.2.2.2.2.2.2.2.2.2.1⟩
noncomputable def l24_8 (k : Nat) : Nat → Int → Bool → (List Int) → (List (List (Int × Int × Unit))) → Int → Int → Option ((Int × Bool × (List Int) × Unit) ⊕ (Int × Unit))
  | 0, _, _, _, _, _, _ => none
  | j + 1, s0, s1, s9, s36, s37, s38 =>
    bif decide (s38 < s37) then
      bif decide (0 ≤ s38) && decide (s38 < (s36.length : Int)) then
        bif decide (0 ≤ s0) && (decide (s0 ≤ s0) && decide (((8 : Nat) : Int) * s0 ≤ 281474976710656)) && decide (s0 ≤ 9223372036854775807) then
          (l24_12 k k s0 s1 s9 (List.replicate s0.toNat 0) s36 s37 s38 (rd [] s36 s38) ((rd [] s36 s38).length : Int) 0).bind fun w1 =>
          Sum.elim
            (fun y1 =>
              l24_8 k j y1.1 y1.2.1 y1.2.2.1 y1.2.2.2.1 y1.2.2.2.2.1 (w64 (y1.2.2.2.2.2.1 + 1)))
            (fun y2 =>
              some (.inr y2))
            w1
        else
          none
      else
        none
    else
      some (.inl (s0, s1, s9, ()))
noncomputable def l24_8_sig (k : Nat) : LoopSig := ⟨[(0, .obj (.val (.int .i64))), (1, .obj (.val (.bool))), (9, .obj (.row (.int .i64))), (36, .obj (.val (.sl (.sl (.pair (.int .i64) (.pair (.int .i64) (.unit))))))), (37, .obj (.val (.int .i64))), (38, .obj (.val (.int .i64)))], [(.exit 0, [(0, .obj (.val (.int .i64))), (1, .obj (.val (.bool))), (9, .obj (.row (.int .i64)))]), (.ret, [(6, .obj (.val (.int .i64)))])], fun j x => l24_8 k j x.1 x.2.1 x.2.2.1 x.2.2.2.1 x.2.2.2.2.1 x.2.2.2.2.2.1⟩
noncomputable def l24_27 (k : Nat) : Nat → Int → Bool → (List Int) → Int → Int → Int → Int → Int → Option ((Int × Bool × (List Int) × Int × Int × Unit) ⊕ (Int × Unit))
  | 0, _, _, _, _, _, _, _, _ => none
  | j + 1, s0, s1, s9, s15, s114, s115, s118, s119 =>
    bif decide (s119 < s118) then
      bif decide (0 ≤ (w64 ((w64 (s15 * s0)) + s119))) && decide ((w64 ((w64 (s15 * s0)) + s119)) < (s9.length : Int)) then
        bif decide (0 ≤ (w64 ((w64 (s119 * s0)) + s15))) && decide ((w64 ((w64 (s119 * s0)) + s15)) < (s9.length : Int)) then
          bif s1 then
            bif (rd 0 s9 (w64 ((w64 (s15 * s0)) + s119))) != 1 then
              some (.inr (8, ()))
            else
            bif (rd 0 s9 (w64 ((w64 (s119 * s0)) + s15))) != 1 then
              some (.inr (8, ()))
            else
            bif !s1 then
              bif (w64 ((rd 0 s9 (w64 ((w64 (s15 * s0)) + s119))) + (rd 0 s9 (w64 ((w64 (s119 * s0)) + s15))))) != 1 then
                some (.inr (8, ()))
              else
                l24_27 k j s0 s1 s9 s15 s114 s115 s118 (w64 (s119 + 1))
            else
              l24_27 k j s0 s1 s9 s15 s114 s115 s118 (w64 (s119 + 1))
          else
          bif !s1 then
            bif (w64 ((rd 0 s9 (w64 ((w64 (s15 * s0)) + s119))) + (rd 0 s9 (w64 ((w64 (s119 * s0)) + s15))))) != 1 then
              some (.inr (8, ()))
            else
              l24_27 k j s0 s1 s9 s15 s114 s115 s118 (w64 (s119 + 1))
          else
            l24_27 k j s0 s1 s9 s15 s114 s115 s118 (w64 (s119 + 1))
        else
          none
      else
        none
    else
      some (.inl (s0, s1, s9, s114, s115, ()))
noncomputable def l24_27_sig (k : Nat) : LoopSig := ⟨[(0, .obj (.val (.int .i64))), (1, .obj (.val (.bool))), (9, .obj (.row (.int .i64))), (15, .obj (.val (.int .i64))), (114, .obj (.val (.int .i64))), (115, .obj (.val (.int .i64))), (118, .obj (.val (.int .i64))), (119, .obj (.val (.int .i64)))], [(.exit 6, [(0, .obj (.val (.int .i64))), (1, .obj (.val (.bool))), (9, .obj (.row (.int .i64))), (114, .obj (.val (.int .i64))), (115, .obj (.val (.int .i64)))]), (.ret, [(6, .obj (.val (.int .i64)))])], fun j x => l24_27 k j x.1 x.2.1 x.2.2.1 x.2.2.2.1 x.2.2.2.2.1 x.2.2.2.2.2.1 x.2.2.2.2.2.2.1 x.2.2.2.2.2.2.2.1⟩
noncomputable def l24_24 (k : Nat) : Nat → Int → Bool → (List Int) → Int → Int → Option (Unit ⊕ (Int × Unit))
  | 0, _, _, _, _, _ => none
  | j + 1, s0, s1, s9, s114, s115 =>
    bif decide (s115 < s114) then
      (l24_27 k k s0 s1 s9 s115 s114 s115 s115 0).bind fun w2 =>
      Sum.elim
        (fun y1 =>
          l24_24 k j y1.1 y1.2.1 y1.2.2.1 y1.2.2.2.1 (w64 (y1.2.2.2.2.1 + 1)))
        (fun y2 =>
          some (.inr y2))
        w2
    else
      some (.inl ())
noncomputable def l24_24_sig (k : Nat) : LoopSig := ⟨[(0, .obj (.val (.int .i64))), (1, .obj (.val (.bool))), (9, .obj (.row (.int .i64))), (114, .obj (.val (.int .i64))), (115, .obj (.val (.int .i64)))], [(.exit 4, []), (.ret, [(6, .obj (.val (.int .i64)))])], fun j x => l24_24 k j x.1 x.2.1 x.2.2.1 x.2.2.2.1 x.2.2.2.2.1⟩
noncomputable def f24 (k : Nat) (x0 : Int) (x1 : Bool) (x2 : List (List (Int × Int × Unit))) : Option ((Int × Unit)) :=
  (f21 k x0 x1).bind fun r1 =>
  bif r1.2.1 != 0 then
    some r1.2
  else
  bif (x2.length : Int) != r1.1 then
    some (3, ())
  else
  bif decide (0 ≤ (w64 (x0 * x0))) && (decide ((w64 (x0 * x0)) ≤ (w64 (x0 * x0))) && decide (((8 : Nat) : Int) * (w64 (x0 * x0)) ≤ 281474976710656)) && decide ((w64 (x0 * x0)) ≤ 9223372036854775807) then
    (l24_8 k k x0 x1 (List.replicate (w64 (x0 * x0)).toNat 0) x2 (x2.length : Int) 0).bind fun w3 =>
    Sum.elim
      (fun y2 =>
        (l24_24 k k y2.1 y2.2.1 y2.2.2.1 y2.1 0).bind fun w4 =>
        Sum.elim
          (fun y3 =>
            some (0, ()))
          (fun y4 =>
            some y4)
          w4)
      (fun y5 =>
        some y5)
      w3
  else
    none
noncomputable def f24_sig (k : Nat) : Sig := ⟨[.val (.int .i64), .val (.bool), .val (.sl (.sl (.pair (.int .i64) (.pair (.int .i64) (.unit)))))], [], [[.val (.int .i64)]], fun x => f24 k x.1 x.2.1 x.2.2.1⟩
noncomputable def E_f24 (k : Nat) : Env := ⟨Try.prog, scons 21 [f21_sig k] (snil), tcons 24 (l24_24_sig k) (tcons 27 (l24_27_sig k) (tcons 8 (l24_8_sig k) (tcons 12 (l24_12_sig k) (tnil)))), tnil, unil, k⟩
theorem l24_8_ok (k : Nat) : LoopOK (E_f24 k) ⟨Try.f24.ntmps, []⟩ (nthC 0 (loopsIn (Try.f24.body.getD .skip))) :=
  loop_ok (ls := l24_8_sig k) (by kernel_rfl) (fun _ => by kernel_rfl) (fun j x => by kernel_rfl)
theorem l24_12_ok (k : Nat) : LoopOK (E_f24 k) ⟨Try.f24.ntmps, []⟩ (nthC 1 (loopsIn (Try.f24.body.getD .skip))) :=
  loop_ok (ls := l24_12_sig k) (by kernel_rfl) (fun _ => by kernel_rfl) (fun j x => by kernel_rfl)
theorem l24_24_ok (k : Nat) : LoopOK (E_f24 k) ⟨Try.f24.ntmps, []⟩ (nthC 2 (loopsIn (Try.f24.body.getD .skip))) :=
  loop_ok (ls := l24_24_sig k) (by kernel_rfl) (fun _ => by kernel_rfl) (fun j x => by kernel_rfl)
theorem l24_27_ok (k : Nat) : LoopOK (E_f24 k) ⟨Try.f24.ntmps, []⟩ (nthC 3 (loopsIn (Try.f24.body.getD .skip))) :=
  loop_ok (ls := l24_27_sig k) (by kernel_rfl) (fun _ => by kernel_rfl) (fun j x => by kernel_rfl)
theorem f24_run (k : Nat) (x : (lTy (lay 0 (f24_sig k).ins)).den) : runF (E_f24 k) Try.f24 (f24_sig k) x = (f24_sig k).F x := by kernel_rfl
theorem f24_ok (k : Nat) : FnOK Try.prog 24 (f24_sig k) :=
  fn_ok2 (E := E_f24 k) (env_cons (one_sig (f21_ok k)) (env_nil)) mixed Try.func24 Try.call24 (by kernel_rfl) (by kernel_rfl) (m := 4) (by kernel_rfl) ⟨⟨⟨⟨trivial, l24_8_ok k⟩, l24_12_ok k⟩, l24_24_ok k⟩, l24_27_ok k⟩ (sk := []) (by kernel_rfl) trivial (f24_run k)

/-! ### gamehall/gamehallkeep3.RobinWhole: function 7 -/
noncomputable def f7 (k : Nat) (x0 : Int) (x1 : Bool) : Option ((Bool × Unit)) :=
  (f15 k).bind fun r1 =>
  bif !r1.1 then
    some (false, ())
  else
    (f23 k x0 x1).bind fun r2 =>
    bif r2.2.1 != 0 then
      bif r2.2.1 == 4 then
        bif (r2.1.length : Int) == 0 then
          (f24 k x0 x1 []).bind fun r3 =>
          some (r3.1 == r2.2.1, ())
        else
          some (false, ())
      else
        some (false, ())
    else
      (f24 k x0 x1 r2.1).bind fun r4 =>
      some (r4.1 == 0, ())
noncomputable def f7_sig (k : Nat) : Sig := ⟨[.val (.int .i64), .val (.bool)], [], [[.val (.bool)]], fun x => f7 k x.1 x.2.1⟩
noncomputable def E_f7 (k : Nat) : Env := ⟨Try.prog, scons 24 [f24_sig k] (scons 23 [f23_sig k] (scons 15 [f15_sig k] (snil))), tnil, tnil, unil, k⟩
theorem f7_run (k : Nat) (x : (lTy (lay 0 (f7_sig k).ins)).den) : runF (E_f7 k) Try.f7 (f7_sig k) x = (f7_sig k).F x := by kernel_rfl
theorem f7_ok (k : Nat) : FnOK Try.prog 7 (f7_sig k) :=
  fn_ok2 (E := E_f7 k) (env_cons (one_sig (f24_ok k)) (env_cons (one_sig (f23_ok k)) (env_cons (one_sig (f15_ok k)) (env_nil)))) mixed Try.func7 Try.call7 (by kernel_rfl) (by kernel_rfl) (m := 0) (by kernel_rfl) trivial (sk := []) (by kernel_rfl) trivial (f7_run k)
end Go.Proofs.Ytpighccmakogpaa.G
