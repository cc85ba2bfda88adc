import Derived.Test.YtpighccmakogpaaVM21
import Derived.Test.YtpighccmakogpaaChecked
namespace Go.Proofs.Ytpighccmakogpaa.G
open Go.VM Go.Proofs

abbrev w64 (n : Int) : Int := IntKind.i64.wrap n
theorem mixed : Try.prog.follows .mixedOrders = true := by kernel_rfl

/-! ### gamehall/knockout.Check: function 31 -/
noncomputable def f31 (k : Nat) (x0 : Int) : Option ((Int × Unit)) :=
  bif decide (x0 < 2) then
    some (4, ())
  else
  bif decide (x0 > 32) then
    some (4, ())
  else
    some (0, ())
noncomputable def f31_sig (k : Nat) : Sig := ⟨[.val (.int .i64)], [], [[.val (.int .i64)]], fun x => f31 k x.1⟩
noncomputable def E_f31 (k : Nat) : Env := ⟨Try.prog, snil, tnil, tnil, unil, k⟩
theorem f31_run (k : Nat) (x : (lTy (lay 0 (f31_sig k).ins)).den) : runF (E_f31 k) Try.f31 (f31_sig k) x = (f31_sig k).F x := by kernel_rfl
theorem f31_ok (k : Nat) : FnOK Try.prog 31 (f31_sig k) :=
  fn_ok2 (E := E_f31 k) (env_nil) mixed Try.func31 Try.call31 (by kernel_rfl) (by kernel_rfl) (m := 0) (by kernel_rfl) trivial (sk := []) (by kernel_rfl) trivial (f31_run k)

/-! ### gamehall/knockout.Rounds: function 14 -/
noncomputable def l14_5 (k : Nat) : Nat → Int → Int → Option ((Int × Unit))
  | 0, _, _ => none
  | j + 1, s0, s5 =>
    bif decide (s5 < 0) then
      none
    else
    bif decide ((w64 (1 * 2 ^ (min s5.toNat 64))) < s0) then
      l14_5 k j s0 (w64 (s5 + 1))
    else
      some (s5, ())
noncomputable def l14_5_sig (k : Nat) : LoopSig := ⟨[(0, .obj (.val (.int .i64))), (5, .obj (.val (.int .i64)))], [(.exit 0, [(5, .obj (.val (.int .i64)))])], fun j x => l14_5 k j x.1 x.2.1⟩
noncomputable def f14 (k : Nat) (x0 : Int) : Option ((Int × Int × Unit)) :=
  (f31 k x0).bind fun r1 =>
  bif r1.1 != 0 then
    some (0, r1)
  else
    (l14_5 k k x0 0).bind fun o2 =>
    some (o2.1, 0, ())
noncomputable def f14_sig (k : Nat) : Sig := ⟨[.val (.int .i64)], [], [[.val (.int .i64), .val (.int .i64)]], fun x => f14 k x.1⟩
noncomputable def E_f14 (k : Nat) : Env := ⟨Try.prog, scons 31 [f31_sig k] (snil), tcons 5 (l14_5_sig k) (tnil), tnil, unil, k⟩
theorem l14_5_ok (k : Nat) : LoopOK (E_f14 k) ⟨Try.f14.ntmps, []⟩ (nthC 0 (loopsIn (Try.f14.body.getD .skip))) :=
  loop_ok (ls := l14_5_sig k) (by kernel_rfl) (fun _ => by kernel_rfl) (fun j x => by kernel_rfl)
theorem f14_run (k : Nat) (x : (lTy (lay 0 (f14_sig k).ins)).den) : runF (E_f14 k) Try.f14 (f14_sig k) x = (f14_sig k).F x := by kernel_rfl
theorem f14_ok (k : Nat) : FnOK Try.prog 14 (f14_sig k) :=
  fn_ok2 (E := E_f14 k) (env_cons (one_sig (f31_ok k)) (env_nil)) mixed Try.func14 Try.call14 (by kernel_rfl) (by kernel_rfl) (m := 1) (by kernel_rfl) ⟨trivial, l14_5_ok k⟩ (sk := []) (by kernel_rfl) trivial (f14_run k)

/-! ### gamehall/knockout.Seeds: function 30 -/
noncomputable def l30_9 (k : Nat) : Nat → Int → (List Int) → (List Int) → Int → Int → Unit → Int → Int → Option ((Int × (List Int) × Int × Int × Unit))
  | 0, _, _, _, _, _, _, _, _ => none
  | j + 1, s0, s6, s7, s23, s24, s26, s27, s28 =>
    bif decide (s28 < s27) then
      bif decide (0 ≤ s28) && decide (s28 < (s6.length : Int)) then
        bif (s28.tmod 2) == 1 then
          bif decide ((s7.length + [w64 ((w64 ((w64 (2 * (s6.length : Int))) - 1)) - (rd 0 s6 s28)), rd 0 s6 s28].length) * 8 ≤ roomN) then
            l30_9 k j s0 s6 (s7 ++ [w64 ((w64 ((w64 (2 * (s6.length : Int))) - 1)) - (rd 0 s6 s28)), rd 0 s6 s28]) s23 s24 () s27 (w64 (s28 + 1))
          else
            none
        else
        bif decide ((s7.length + [rd 0 s6 s28, w64 ((w64 ((w64 (2 * (s6.length : Int))) - 1)) - (rd 0 s6 s28))].length) * 8 ≤ roomN) then
          l30_9 k j s0 s6 (s7 ++ [rd 0 s6 s28, w64 ((w64 ((w64 (2 * (s6.length : Int))) - 1)) - (rd 0 s6 s28))]) s23 s24 () s27 (w64 (s28 + 1))
        else
          none
      else
        none
    else
      some (s0, s7, s23, s24, ())
noncomputable def l30_9_sig (k : Nat) : LoopSig := ⟨[(0, .obj (.val (.int .i64))), (6, .obj (.row (.int .i64))), (7, .obj (.row (.int .i64))), (23, .obj (.val (.int .i64))), (24, .obj (.val (.int .i64))), (26, .same 6), (27, .obj (.val (.int .i64))), (28, .obj (.val (.int .i64)))], [(.exit 2, [(0, .obj (.val (.int .i64))), (7, .obj (.row (.int .i64))), (23, .obj (.val (.int .i64))), (24, .obj (.val (.int .i64)))])], fun j x => l30_9 k j x.1 x.2.1 x.2.2.1 x.2.2.2.1 x.2.2.2.2.1 x.2.2.2.2.2.1 x.2.2.2.2.2.2.1 x.2.2.2.2.2.2.2.1⟩
noncomputable def l30_6 (k : Nat) : Nat → Int → (List Int) → Int → Int → Option ((Int × (List Int) × Unit))
  | 0, _, _, _, _ => none
  | j + 1, s0, s6, s23, s24 =>
    bif decide (s24 < s23) then
      (l30_9 k k s0 s6 [] s23 s24 () (s6.length : Int) 0).bind fun o1 =>
      l30_6 k j o1.1 o1.2.1 o1.2.2.1 (w64 (o1.2.2.2.1 + 1))
    else
      some (s0, s6, ())
noncomputable def l30_6_sig (k : Nat) : LoopSig := ⟨[(0, .obj (.val (.int .i64))), (6, .obj (.row (.int .i64))), (23, .obj (.val (.int .i64))), (24, .obj (.val (.int .i64)))], [(.exit 0, [(0, .obj (.val (.int .i64))), (6, .obj (.row (.int .i64)))])], fun j x => l30_6 k j x.1 x.2.1 x.2.2.1 x.2.2.2.1⟩
noncomputable def l30_19 (k : Nat) : Nat → Int → (List Int) → Unit → Int → Int → Option (((List Int) × Unit))
  | 0, _, _, _, _, _ => none
  | j + 1, s0, s6, s53, s54, s55 =>
    bif decide (s55 < s54) then
      bif decide (0 ≤ s55) && decide (s55 < (s6.length : Int)) then
        bif decide ((rd 0 s6 s55) ≥ s0) then
          bif decide (0 ≤ s55) && decide (s55 < (s6.length : Int)) then
            l30_19 k j s0 (s6.set s55.toNat (-1)) () s54 (w64 (s55 + 1))
          else
            none
        else
          l30_19 k j s0 s6 () s54 (w64 (s55 + 1))
      else
        none
    else
      some (s6, ())
noncomputable def l30_19_sig (k : Nat) : LoopSig := ⟨[(0, .obj (.val (.int .i64))), (6, .obj (.row (.int .i64))), (53, .same 6), (54, .obj (.val (.int .i64))), (55, .obj (.val (.int .i64)))], [(.exit 4, [(6, .obj (.row (.int .i64)))])], fun j x => l30_19 k j x.1 x.2.1 x.2.2.1 x.2.2.2.1 x.2.2.2.2.1⟩
noncomputable def f30 (k : Nat) (x0 : Int) : Option (((List Int) × Int × Unit)) :=
  (f14 k x0).bind fun r1 =>
  bif r1.2.1 != 0 then
    some ([], r1.2)
  else
    (l30_6 k k x0 [0] r1.1 0).bind fun o2 =>
    (l30_19 k k o2.1 o2.2.1 () (o2.2.1.length : Int) 0).bind fun o3 =>
    some (o3.1, 0, ())
noncomputable def f30_sig (k : Nat) : Sig := ⟨[.val (.int .i64)], [], [[.row (.int .i64), .val (.int .i64)]], fun x => f30 k x.1⟩
noncomputable def E_f30 (k : Nat) : Env := ⟨Try.prog, scons 14 [f14_sig k] (snil), tcons 19 (l30_19_sig k) (tcons 6 (l30_6_sig k) (tcons 9 (l30_9_sig k) (tnil))), tnil, unil, k⟩
theorem l30_6_ok (k : Nat) : LoopOK (E_f30 k) ⟨Try.f30.ntmps, []⟩ (nthC 0 (loopsIn (Try.f30.body.getD .skip))) :=
  loop_ok (ls := l30_6_sig k) (by kernel_rfl) (fun _ => by kernel_rfl) (fun j x => by kernel_rfl)
theorem l30_9_ok (k : Nat) : LoopOK (E_f30 k) ⟨Try.f30.ntmps, []⟩ (nthC 1 (loopsIn (Try.f30.body.getD .skip))) :=
  loop_ok (ls := l30_9_sig k) (by kernel_rfl) (fun _ => by kernel_rfl) (fun j x => by kernel_rfl)
theorem l30_19_ok (k : Nat) : LoopOK (E_f30 k) ⟨Try.f30.ntmps, []⟩ (nthC 2 (loopsIn (Try.f30.body.getD .skip))) :=
  loop_ok (ls := l30_19_sig k) (by kernel_rfl) (fun _ => by kernel_rfl) (fun j x => by kernel_rfl)
theorem f30_run (k : Nat) (x : (lTy (lay 0 (f30_sig k).ins)).den) : runF (E_f30 k) Try.f30 (f30_sig k) x = (f30_sig k).F x := by kernel_rfl
theorem f30_ok (k : Nat) : FnOK Try.prog 30 (f30_sig k) :=
  fn_ok2 (E := E_f30 k) (env_cons (one_sig (f14_ok k)) (env_nil)) mixed Try.func30 Try.call30 (by kernel_rfl) (by kernel_rfl) (m := 3) (by kernel_rfl) ⟨⟨⟨trivial, l30_6_ok k⟩, l30_9_ok k⟩, l30_19_ok k⟩ (sk := []) (by kernel_rfl) trivial (f30_run k)

/-! ### gamehall/gamehallkeep3.brackets: function 12 -/
noncomputable def f12 (k : Nat) : Option ((Bool × Unit)) :=
  (f30 k 2).bind fun r1 =>
  bif r1.2.1 == 0 then
    bif (r1.1.length : Int) == 2 then
      bif decide (0 < (r1.1.length : Int)) then
        bif (rd 0 r1.1 0) == 0 then
          bif decide (1 < (r1.1.length : Int)) then
            some ((rd 0 r1.1 1) == 1, ())
          else
            none
        else
          some (false, ())
      else
        none
    else
      some (false, ())
  else
    some (false, ())
noncomputable def f12_sig (k : Nat) : Sig := ⟨[], [], [[.val (.bool)]], fun x => f12 k⟩
noncomputable def E_f12 (k : Nat) : Env := ⟨Try.prog, scons 30 [f30_sig k] (snil), tnil, tnil, unil, k⟩
theorem f12_run (k : Nat) (x : (lTy (lay 0 (f12_sig k).ins)).den) : runF (E_f12 k) Try.f12 (f12_sig k) x = (f12_sig k).F x := by kernel_rfl
theorem f12_ok (k : Nat) : FnOK Try.prog 12 (f12_sig k) :=
  fn_ok2 (E := E_f12 k) (env_cons (one_sig (f30_ok k)) (env_nil)) mixed Try.func12 Try.call12 (by kernel_rfl) (by kernel_rfl) (m := 0) (by kernel_rfl) trivial (sk := []) (by kernel_rfl) trivial (f12_run k)

/-! ### gamehall/knockout.winner: function 36 -/
noncomputable def f36 (k : Nat) (x0 : Int × Int × Int × Unit) (x1 : Int) : Option ((Int × Unit)) :=
  bif decide (x0.2.2.1 < 0) then
    some (x0.2.1, ())
  else
  bif decide (x0.2.1 < 0) then
    some x0.2.2
  else
  bif x1 == 2 then
    some (x0.2.1, ())
  else
    some x0.2.2
noncomputable def f36_sig (k : Nat) : Sig := ⟨[.val (.pair (.int .i64) (.pair (.int .i64) (.pair (.int .i64) (.unit)))), .val (.int .i64)], [], [[.val (.int .i64)]], fun x => f36 k x.1 x.2.1⟩
noncomputable def E_f36 (k : Nat) : Env := ⟨Try.prog, snil, tnil, tnil, unil, k⟩
theorem f36_run (k : Nat) (x : (lTy (lay 0 (f36_sig k).ins)).den) : runF (E_f36 k) Try.f36 (f36_sig k) x = (f36_sig k).F x := by kernel_rfl
theorem f36_ok (k : Nat) : FnOK Try.prog 36 (f36_sig k) :=
  fn_ok2 (E := E_f36 k) (env_nil) mixed Try.func36 Try.call36 (by kernel_rfl) (by kernel_rfl) (m := 0) (by kernel_rfl) trivial (sk := []) (by kernel_rfl) trivial (f36_run k)

/-! ### gamehall/knockout.late: function 37 -/
noncomputable def f37 (k : Nat) (x0 : Int) (x1 : List Int) : Option ((Int × Unit)) :=
  bif decide (x0 < (x1.length : Int)) then
    some (2, ())
  else
    some (0, ())
noncomputable def f37_sig (k : Nat) : Sig := ⟨[.val (.int .i64), .val (.sl (.int .i64))], [], [[.val (.int .i64)]], fun x => f37 k x.1 x.2.1⟩
noncomputable def E_f37 (k : Nat) : Env := ⟨Try.prog, snil, tnil, tnil, unil, k⟩
theorem f37_run (k : Nat) (x : (lTy (lay 0 (f37_sig k).ins)).den) : runF (E_f37 k) Try.f37 (f37_sig k) x = (f37_sig k).F x := by kernel_rfl
theorem f37_ok (k : Nat) : FnOK Try.prog 37 (f37_sig k) :=
  fn_ok2 (E := E_f37 k) (env_nil) mixed Try.func37 Try.call37 (by kernel_rfl) (by kernel_rfl) (m := 0) (by kernel_rfl) trivial (sk := []) (by kernel_rfl) trivial (f37_run k)

/-! ### gamehall/knockout.Play: function 28 -/
noncomputable def l28_5 (k : Nat) : Nat → (List Int) → (List Int) → (List Int) → Int → Int → Option (((List Int) × (List Int) × Unit) ⊕ ((List (Int × Int × Int × Unit)) × Int × Int × Unit))
  | 0, _, _, _, _, _ => none
  | j + 1, s1, s7, s27, s28, s29 =>
    bif decide (s29 < s28) then
      bif decide (0 ≤ s29) && decide (s29 < (s27.length : Int)) then
        bif (rd 0 s27 s29) != 0 then
          bif (rd 0 s27 s29) != 2 then
            some (.inr ([], 0, 4, ()))
          else
            l28_5 k j s1 s7 s27 s28 (w64 (s29 + 1))
        else
          l28_5 k j s1 s7 s27 s28 (w64 (s29 + 1))
      else
        none
    else
      some (.inl (s1, s7, ()))
noncomputable def l28_5_sig (k : Nat) : LoopSig := ⟨[(1, .obj (.val (.sl (.int .i64)))), (7, .obj (.row (.int .i64))), (27, .obj (.val (.sl (.int .i64)))), (28, .obj (.val (.int .i64))), (29, .obj (.val (.int .i64)))], [(.exit 0, [(1, .obj (.val (.sl (.int .i64)))), (7, .obj (.row (.int .i64)))]), (.ret, [(4, .obj (.row (.pair (.int .i64) (.pair (.int .i64) (.pair (.int .i64) (.unit)))))), (5, .obj (.val (.int .i64))), (6, .obj (.val (.int .i64)))])], fun j x => l28_5 k j x.1 x.2.1 x.2.2.1 x.2.2.2.1 x.2.2.2.2.1⟩
noncomputable def l28_17 (k : Nat) : Nat → (List Int) → (List Int) → (List (Int × Int × Int × Unit)) → Int → Int → (List Int) → Int → Option (((List Int) × (List Int) × (List (Int × Int × Int × Unit)) × Int × Int × (List Int) × Unit))
  | 0, _, _, _, _, _, _, _ => none
  | j + 1, s1, s7, s11, s12, s13, s14, s15 =>
    bif decide ((w64 (s15 + 1)) < (s7.length : Int)) then
      bif decide (0 ≤ s15) && decide (s15 < (s7.length : Int)) then
        bif decide (0 ≤ (w64 (s15 + 1))) && decide ((w64 (s15 + 1)) < (s7.length : Int)) then
          bif decide ((s11.length + ([(s13, rd 0 s7 s15, rd 0 s7 (w64 (s15 + 1)), ())] : List (Int × Int × Int × Unit)).length) * 24 ≤ roomN) then
            bif decide ((rd 0 s7 s15) < 0) then
              (f36 k (s13, rd 0 s7 s15, rd 0 s7 (w64 (s15 + 1)), ()) 0).bind fun r1 =>
              bif decide ((s14.length + [r1.1].length) * 8 ≤ roomN) then
                l28_17 k j s1 s7 (s11 ++ [(s13, rd 0 s7 s15, rd 0 s7 (w64 (s15 + 1)), ())]) s12 s13 (s14 ++ [r1.1]) (w64 (s15 + 2))
              else
                none
            else
            bif decide ((rd 0 s7 (w64 (s15 + 1))) < 0) then
              (f36 k (s13, rd 0 s7 s15, rd 0 s7 (w64 (s15 + 1)), ()) 0).bind fun r2 =>
              bif decide ((s14.length + [r2.1].length) * 8 ≤ roomN) then
                l28_17 k j s1 s7 (s11 ++ [(s13, rd 0 s7 s15, rd 0 s7 (w64 (s15 + 1)), ())]) s12 s13 (s14 ++ [r2.1]) (w64 (s15 + 2))
              else
                none
            else
            bif decide (s12 < (s1.length : Int)) then
              bif decide (0 ≤ s12) && decide (s12 < (s1.length : Int)) then
                (f36 k (s13, rd 0 s7 s15, rd 0 s7 (w64 (s15 + 1)), ()) (rd 0 s1 s12)).bind fun r3 =>
                bif decide ((s14.length + [r3.1].length) * 8 ≤ roomN) then
                  l28_17 k j s1 s7 (s11 ++ [(s13, rd 0 s7 s15, rd 0 s7 (w64 (s15 + 1)), ())]) (w64 (s12 + 1)) s13 (s14 ++ [r3.1]) (w64 (s15 + 2))
                else
                  none
              else
                none
            else
              l28_17 k j s1 s7 (s11 ++ [(s13, rd 0 s7 s15, rd 0 s7 (w64 (s15 + 1)), ())]) s12 s13 s14 (w64 (s15 + 2))
          else
            none
        else
          none
      else
        none
    else
      some (s1, s7, s11, s12, s13, s14, ())
noncomputable def l28_17_sig (k : Nat) : LoopSig := ⟨[(1, .obj (.val (.sl (.int .i64)))), (7, .obj (.row (.int .i64))), (11, .obj (.row (.pair (.int .i64) (.pair (.int .i64) (.pair (.int .i64) (.unit)))))), (12, .obj (.val (.int .i64))), (13, .obj (.val (.int .i64))), (14, .obj (.row (.int .i64))), (15, .obj (.val (.int .i64)))], [(.exit 4, [(1, .obj (.val (.sl (.int .i64)))), (7, .obj (.row (.int .i64))), (11, .obj (.row (.pair (.int .i64) (.pair (.int .i64) (.pair (.int .i64) (.unit)))))), (12, .obj (.val (.int .i64))), (13, .obj (.val (.int .i64))), (14, .obj (.row (.int .i64)))])], fun j x => l28_17 k j x.1 x.2.1 x.2.2.1 x.2.2.2.1 x.2.2.2.2.1 x.2.2.2.2.2.1 x.2.2.2.2.2.2.1⟩
noncomputable def l28_13 (k : Nat) : Nat → (List Int) → (List Int) → (List (Int × Int × Int × Unit)) → Int → Int → Option (((List Int) × (List Int) × (List (Int × Int × Int × Unit)) × Int × Unit) ⊕ ((List (Int × Int × Int × Unit)) × Int × Int × Unit))
  | 0, _, _, _, _, _ => none
  | j + 1, s1, s7, s11, s12, s13 =>
    bif decide ((s7.length : Int) > 1) then
      (l28_17 k k s1 s7 s11 s12 s13 [] 0).bind fun o1 =>
      bif decide ((w64 ((o1.2.2.2.2.2.1.length : Int) * 2)) < (o1.2.1.length : Int)) then
        (f37 k o1.2.2.2.1 o1.1).bind fun r2 =>
        bif r2.1 != 0 then
          some (.inr ([], 0, r2))
        else
          some (.inr (o1.2.2.1, (-1), 0, ()))
      else
        l28_13 k j o1.1 o1.2.2.2.2.2.1 o1.2.2.1 o1.2.2.2.1 (w64 (o1.2.2.2.2.1 + 1))
    else
      some (.inl (s1, s7, s11, s12, ()))
noncomputable def l28_13_sig (k : Nat) : LoopSig := ⟨[(1, .obj (.val (.sl (.int .i64)))), (7, .obj (.row (.int .i64))), (11, .obj (.row (.pair (.int .i64) (.pair (.int .i64) (.pair (.int .i64) (.unit)))))), (12, .obj (.val (.int .i64))), (13, .obj (.val (.int .i64)))], [(.exit 2, [(1, .obj (.val (.sl (.int .i64)))), (7, .obj (.row (.int .i64))), (11, .obj (.row (.pair (.int .i64) (.pair (.int .i64) (.pair (.int .i64) (.unit)))))), (12, .obj (.val (.int .i64)))]), (.ret, [(4, .obj (.row (.pair (.int .i64) (.pair (.int .i64) (.pair (.int .i64) (.unit)))))), (5, .obj (.val (.int .i64))), (6, .obj (.val (.int .i64)))])], fun j x => l28_13 k j x.1 x.2.1 x.2.2.1 x.2.2.2.1 x.2.2.2.2.1⟩
noncomputable def f28 (k : Nat) (x0 : Int) (x1 : List Int) : Option (((List (Int × Int × Int × Unit)) × Int × Int × Unit)) :=
  (f30 k x0).bind fun r1 =>
  bif r1.2.1 != 0 then
    some ([], 0, r1.2)
  else
    (l28_5 k k x1 r1.1 x1 (x1.length : Int) 0).bind fun w1 =>
    Sum.elim
      (fun y2 =>
        (l28_13 k k y2.1 y2.2.1 [] 0 0).bind fun w2 =>
        Sum.elim
          (fun y3 =>
            (f37 k y3.2.2.2.1 y3.1).bind fun r4 =>
            bif r4.1 != 0 then
              some ([], 0, r4)
            else
            bif decide (0 < (y3.2.1.length : Int)) then
              some (y3.2.2.1, rd 0 y3.2.1 0, 0, ())
            else
              none)
          (fun y5 =>
            some y5)
          w2)
      (fun y6 =>
        some y6)
      w1
noncomputable def f28_sig (k : Nat) : Sig := ⟨[.val (.int .i64), .val (.sl (.int .i64))], [], [[.row (.pair (.int .i64) (.pair (.int .i64) (.pair (.int .i64) (.unit)))), .val (.int .i64), .val (.int .i64)]], fun x => f28 k x.1 x.2.1⟩
noncomputable def E_f28 (k : Nat) : Env := ⟨Try.prog, scons 37 [f37_sig k] (scons 36 [f36_sig k] (scons 30 [f30_sig k] (snil))), tcons 13 (l28_13_sig k) (tcons 17 (l28_17_sig k) (tcons 5 (l28_5_sig k) (tnil))), tnil, unil, k⟩
theorem l28_5_ok (k : Nat) : LoopOK (E_f28 k) ⟨Try.f28.ntmps, []⟩ (nthC 0 (loopsIn (Try.f28.body.getD .skip))) :=
  loop_ok (ls := l28_5_sig k) (by kernel_rfl) (fun _ => by kernel_rfl) (fun j x => by kernel_rfl)
theorem l28_13_ok (k : Nat) : LoopOK (E_f28 k) ⟨Try.f28.ntmps, []⟩ (nthC 1 (loopsIn (Try.f28.body.getD .skip))) :=
  loop_ok (ls := l28_13_sig k) (by kernel_rfl) (fun _ => by kernel_rfl) (fun j x => by kernel_rfl)
theorem l28_17_ok (k : Nat) : LoopOK (E_f28 k) ⟨Try.f28.ntmps, []⟩ (nthC 2 (loopsIn (Try.f28.body.getD .skip))) :=
  loop_ok (ls := l28_17_sig k) (by kernel_rfl) (fun _ => by kernel_rfl) (fun j x => by kernel_rfl)
theorem f28_run (k : Nat) (x : (lTy (lay 0 (f28_sig k).ins)).den) : runF (E_f28 k) Try.f28 (f28_sig k) x = (f28_sig k).F x := by kernel_rfl
theorem f28_ok (k : Nat) : FnOK Try.prog 28 (f28_sig k) :=
  fn_ok2 (E := E_f28 k) (env_cons (one_sig (f37_ok k)) (env_cons (one_sig (f36_ok k)) (env_cons (one_sig (f30_ok k)) (env_nil)))) mixed Try.func28 Try.call28 (by kernel_rfl) (by kernel_rfl) (m := 3) (by kernel_rfl) ⟨⟨⟨trivial, l28_5_ok k⟩, l28_13_ok k⟩, l28_17_ok k⟩ (sk := []) (by kernel_rfl) trivial (f28_run k)

/-! ### gamehall/gamehallkeep3.KnockoutOnce: function 11 -/
noncomputable def l11_5 (k : Nat) : Nat → Int → (List Int) → (List Int) → Int → Option ((Int × (List Int) × Unit))
  | 0, _, _, _, _ => none
  | j + 1, s0, s1, s5, s6 =>
    bif decide (s6 < (w64 (s0 - 1))) then
      bif decide (s6 < 31) then
        bif decide (s6 < (s1.length : Int)) then
          bif decide (0 ≤ s6) && decide (s6 < (s1.length : Int)) then
            bif ((rd 0 s1 s6).tmod 2) == 0 then
              bif decide ((s5.length + [2].length) * 8 ≤ roomN) then
                l11_5 k j s0 s1 (s5 ++ [2]) (w64 (s6 + 1))
              else
                none
            else
            bif decide ((s5.length + [0].length) * 8 ≤ roomN) then
              l11_5 k j s0 s1 (s5 ++ [0]) (w64 (s6 + 1))
            else
              none
          else
            none
        else
        bif decide ((s5.length + [0].length) * 8 ≤ roomN) then
          l11_5 k j s0 s1 (s5 ++ [0]) (w64 (s6 + 1))
        else
          none
      else
        some (s0, s5, ())
    else
      some (s0, s5, ())
noncomputable def l11_5_sig (k : Nat) : LoopSig := ⟨[(0, .obj (.val (.int .i64))), (1, .obj (.val (.sl (.int .i64)))), (5, .obj (.row (.int .i64))), (6, .obj (.val (.int .i64)))], [(.exit 0, [(0, .obj (.val (.int .i64))), (5, .obj (.row (.int .i64)))])], fun j x => l11_5 k j x.1 x.2.1 x.2.2.1 x.2.2.2.1⟩
noncomputable def l11_17 (k : Nat) : Nat → Int → (List Int) → Int → (List Int) → Int → (List (Int × Int × Int × Unit)) → Int → Int → Option ((Int × Int × (List Int) × Int × Unit) ⊕ (Bool × Unit))
  | 0, _, _, _, _, _, _, _, _ => none
  | j + 1, s0, s5, s9, s11, s12, s67, s68, s69 =>
    bif decide (s69 < s68) then
      bif decide (0 ≤ s69) && decide (s69 < (s67.length : Int)) then
        bif decide ((rd ((0, 0, 0, ()) : Int × Int × Int × Unit) s67 s69).2.1 < 0) then
          l11_17 k j s0 s5 s9 s11 s12 s67 s68 (w64 (s69 + 1))
        else
        bif decide ((rd ((0, 0, 0, ()) : Int × Int × Int × Unit) s67 s69).2.2.1 < 0) then
          l11_17 k j s0 s5 s9 s11 s12 s67 s68 (w64 (s69 + 1))
        else
        bif decide (s12 ≥ (s5.length : Int)) then
          some (.inr (false, ()))
        else
        bif decide ((if (rd ((0, 0, 0, ()) : Int × Int × Int × Unit) s67 s69).2.2.1 > (rd ((0, 0, 0, ()) : Int × Int × Int × Unit) s67 s69).2.1 then (rd ((0, 0, 0, ()) : Int × Int × Int × Unit) s67 s69).2.2.1 else (rd ((0, 0, 0, ()) : Int × Int × Int × Unit) s67 s69).2.1) ≥ s0) then
          some (.inr (false, ()))
        else
        bif decide (0 ≤ s12) && decide (s12 < (s5.length : Int)) then
          bif (rd 0 s5 s12) == 2 then
            bif decide (0 ≤ (rd ((0, 0, 0, ()) : Int × Int × Int × Unit) s67 s69).2.2.1) && decide ((rd ((0, 0, 0, ()) : Int × Int × Int × Unit) s67 s69).2.2.1 < (s11.length : Int)) then
              bif decide (0 ≤ (rd ((0, 0, 0, ()) : Int × Int × Int × Unit) s67 s69).2.2.1) && decide ((rd ((0, 0, 0, ()) : Int × Int × Int × Unit) s67 s69).2.2.1 < (s11.length : Int)) then
                l11_17 k j s0 s5 s9 (s11.set (rd ((0, 0, 0, ()) : Int × Int × Int × Unit) s67 s69).2.2.1.toNat (w64 ((rd 0 s11 (rd ((0, 0, 0, ()) : Int × Int × Int × Unit) s67 s69).2.2.1) + 1))) (w64 (s12 + 1)) s67 s68 (w64 (s69 + 1))
              else
                none
            else
              none
          else
          bif decide (0 ≤ (rd ((0, 0, 0, ()) : Int × Int × Int × Unit) s67 s69).2.1) && decide ((rd ((0, 0, 0, ()) : Int × Int × Int × Unit) s67 s69).2.1 < (s11.length : Int)) then
            bif decide (0 ≤ (rd ((0, 0, 0, ()) : Int × Int × Int × Unit) s67 s69).2.1) && decide ((rd ((0, 0, 0, ()) : Int × Int × Int × Unit) s67 s69).2.1 < (s11.length : Int)) then
              l11_17 k j s0 s5 s9 (s11.set (rd ((0, 0, 0, ()) : Int × Int × Int × Unit) s67 s69).2.1.toNat (w64 ((rd 0 s11 (rd ((0, 0, 0, ()) : Int × Int × Int × Unit) s67 s69).2.1) + 1))) (w64 (s12 + 1)) s67 s68 (w64 (s69 + 1))
            else
              none
          else
            none
        else
          none
      else
        none
    else
      some (.inl (s0, s9, s11, s12, ()))
noncomputable def l11_17_sig (k : Nat) : LoopSig := ⟨[(0, .obj (.val (.int .i64))), (5, .obj (.row (.int .i64))), (9, .obj (.val (.int .i64))), (11, .obj (.row (.int .i64))), (12, .obj (.val (.int .i64))), (67, .obj (.row (.pair (.int .i64) (.pair (.int .i64) (.pair (.int .i64) (.unit)))))), (68, .obj (.val (.int .i64))), (69, .obj (.val (.int .i64)))], [(.exit 2, [(0, .obj (.val (.int .i64))), (9, .obj (.val (.int .i64))), (11, .obj (.row (.int .i64))), (12, .obj (.val (.int .i64)))]), (.ret, [(4, .obj (.val (.bool)))])], fun j x => l11_17 k j x.1 x.2.1 x.2.2.1 x.2.2.2.1 x.2.2.2.2.1 x.2.2.2.2.2.1 x.2.2.2.2.2.2.1 x.2.2.2.2.2.2.2.1⟩
noncomputable def l11_28 (k : Nat) : Nat → Int → Int → Int → (List Int) → Int → Int → Option ((Int × Int × Unit) ⊕ (Bool × Unit))
  | 0, _, _, _, _, _, _ => none
  | j + 1, s0, s9, s12, s116, s117, s118 =>
    bif decide (s118 < s117) then
      bif decide (0 ≤ s118) && decide (s118 < (s116.length : Int)) then
        bif !(((rd 0 s116 s118) == 0) == (s118 == s9)) then
          some (.inr (false, ()))
        else
        bif decide ((rd 0 s116 s118) > 1) then
          some (.inr (false, ()))
        else
          l11_28 k j s0 s9 s12 s116 s117 (w64 (s118 + 1))
      else
        none
    else
      some (.inl (s0, s12, ()))
noncomputable def l11_28_sig (k : Nat) : LoopSig := ⟨[(0, .obj (.val (.int .i64))), (9, .obj (.val (.int .i64))), (12, .obj (.val (.int .i64))), (116, .obj (.row (.int .i64))), (117, .obj (.val (.int .i64))), (118, .obj (.val (.int .i64)))], [(.exit 4, [(0, .obj (.val (.int .i64))), (12, .obj (.val (.int .i64)))]), (.ret, [(4, .obj (.val (.bool)))])], fun j x => l11_28 k j x.1 x.2.1 x.2.2.1 x.2.2.2.1 x.2.2.2.2.1 x.2.2.2.2.2.1⟩
noncomputable def f11 (k : Nat) (x0 : Int) (x1 : List Int) : Option ((Bool × Unit)) :=
  (f12 k).bind fun r1 =>
  bif !r1.1 then
    some (false, ())
  else
    (l11_5 k k x0 x1 [] 0).bind fun o2 =>
    (f28 k o2.1 o2.2.1).bind fun r3 =>
    bif r3.2.2.1 != 0 then
      bif decide (o2.1 < 2) then
        some ((r3.1.length : Int) == 0, ())
      else
      bif decide (o2.1 > 32) then
        some ((r3.1.length : Int) == 0, ())
      else
        some (false, ())
    else
    bif decide (0 ≤ o2.1) && (decide (o2.1 ≤ o2.1) && decide (((8 : Nat) : Int) * o2.1 ≤ 281474976710656)) && decide (o2.1 ≤ 9223372036854775807) then
      (l11_17 k k o2.1 o2.2.1 r3.2.1 (List.replicate o2.1.toNat 0) 0 r3.1 (r3.1.length : Int) 0).bind fun w3 =>
      Sum.elim
        (fun y4 =>
          (l11_28 k k y4.1 y4.2.1 y4.2.2.2.1 y4.2.2.1 (y4.2.2.1.length : Int) 0).bind fun w4 =>
          Sum.elim
            (fun y5 =>
              some (y5.2.1 == (w64 (y5.1 - 1)), ()))
            (fun y6 =>
              some y6)
            w4)
        (fun y7 =>
          some y7)
        w3
    else
      none
noncomputable def f11_sig (k : Nat) : Sig := ⟨[.val (.int .i64), .val (.sl (.int .i64))], [], [[.val (.bool)]], fun x => f11 k x.1 x.2.1⟩
noncomputable def E_f11 (k : Nat) : Env := ⟨Try.prog, scons 28 [f28_sig k] (scons 12 [f12_sig k] (snil)), tcons 28 (l11_28_sig k) (tcons 17 (l11_17_sig k) (tcons 5 (l11_5_sig k) (tnil))), tnil, unil, k⟩
theorem l11_5_ok (k : Nat) : LoopOK (E_f11 k) ⟨Try.f11.ntmps, []⟩ (nthC 0 (loopsIn (Try.f11.body.getD .skip))) :=
  loop_ok (ls := l11_5_sig k) (by kernel_rfl) (fun _ => by kernel_rfl) (fun j x => by kernel_rfl)
theorem l11_17_ok (k : Nat) : LoopOK (E_f11 k) ⟨Try.f11.ntmps, []⟩ (nthC 1 (loopsIn (Try.f11.body.getD .skip))) :=
  loop_ok (ls := l11_17_sig k) (by kernel_rfl) (fun _ => by kernel_rfl) (fun j x => by kernel_rfl)
theorem l11_28_ok (k : Nat) : LoopOK (E_f11 k) ⟨Try.f11.ntmps, []⟩ (nthC 2 (loopsIn (Try.f11.body.getD .skip))) :=
  loop_ok (ls := l11_28_sig k) (by kernel_rfl) (fun _ => by kernel_rfl) (fun j x => by kernel_rfl)
theorem f11_run (k : Nat) (x : (lTy (lay 0 (f11_sig k).ins)).den) : runF (E_f11 k) Try.f11 (f11_sig k) x = (f11_sig k).F x := by kernel_rfl
theorem f11_ok (k : Nat) : FnOK Try.prog 11 (f11_sig k) :=
  fn_ok2 (E := E_f11 k) (env_cons (one_sig (f28_ok k)) (env_cons (one_sig (f12_ok k)) (env_nil))) mixed Try.func11 Try.call11 (by kernel_rfl) (by kernel_rfl) (m := 3) (by kernel_rfl) ⟨⟨⟨trivial, l11_5_ok k⟩, l11_17_ok k⟩, l11_28_ok k⟩ (sk := []) (by kernel_rfl) trivial (f11_run k)
end Go.Proofs.Ytpighccmakogpaa.G
