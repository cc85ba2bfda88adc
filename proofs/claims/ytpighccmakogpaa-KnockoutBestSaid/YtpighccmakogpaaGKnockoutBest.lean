import Derived.Test.YtpighccmakogpaaVM21
import Derived.Test.YtpighccmakogpaaChecked
namespace Go.Proofs.Ytpighccmakogpaa.G
open Go.VM Go.Proofs

abbrev w64 (n : Int) : Int := IntKind.i64.wrap n
theorem mixed : Try.prog.follows .mixedOrders = true := by kernel_rfl

/-! ### gamehall/knockout.Check: function 31 -/
def f31 (k : Nat) (x0 : Int) : Option (Int × Unit) :=
  bif decide (x0 < 2) then
    some (4, ())
  else
  bif decide (x0 > 32) then
    some (4, ())
  else
    some (0, ())
def f31_sig (k : Nat) : Sig := ⟨[.int .i64], [.int .i64], true, fun x => f31 k x.1⟩
noncomputable def E31 (k : Nat) : Env := ⟨Try.prog, tnil, tnil, k⟩
theorem f31_run (k : Nat) (x : (tupT (f31_sig k).pt).den) : runF (E31 k) Try.f31 (f31_sig k).pt (f31_sig k).rt (f31_sig k).own x = (f31_sig k).f x := by kernel_rfl
theorem f31_ok (k : Nat) : FnOK Try.prog 31 (f31_sig k) :=
  fn_ok2 (E := E31 k) (env_nil) mixed Try.func31 Try.call31 (by kernel_rfl) (by kernel_rfl) (by kernel_rfl) (m := 0) (by kernel_rfl) trivial (f31_run k)

/-! ### gamehall/knockout.Rounds: function 14 -/
def l14_5 (k : Nat) : Nat → Int → Int → Option ((Int × Unit))
  | 0, _, _ => none
  | j + 1, s0, s5 =>
    bif decide (s5 < 0) then
      none
    else
    bif decide ((w64 (1 * 2 ^ (min s5.toNat 64))) < s0) then
      l14_5 k j s0 (w64 (s5 + 1))
    else
      some (s5, ())
noncomputable def l14_5_sig (k : Nat) : LoopSig := ⟨[(0, .val (.int .i64)), (5, .val (.int .i64))], [(.exit 0, [(5, .val (.int .i64))])], fun j x => l14_5 k j x.1 x.2.1⟩
def f14 (k : Nat) (x0 : Int) : Option (Int × Int × Unit) :=
  (f31 k x0).bind fun r1 =>
  bif r1.1 != 0 then
    some (0, r1)
  else
    (l14_5 k k x0 0).bind fun o2 =>
    some (o2.1, 0, ())
def f14_sig (k : Nat) : Sig := ⟨[.int .i64], [.int .i64, .int .i64], true, fun x => f14 k x.1⟩
noncomputable def E14 (k : Nat) : Env := ⟨Try.prog, tcons 31 (f31_sig k) (tnil), tcons 5 (l14_5_sig k) (tnil), k⟩
theorem l14_5_ok (k : Nat) : LoopOK (E14 k) Try.f14.ntmps (nthC 0 (loopsIn (Try.f14.body.getD .skip))) :=
  loop_ok (ls := l14_5_sig k) (by kernel_rfl) (fun _ => by kernel_rfl) (fun j x => by kernel_rfl)
theorem f14_run (k : Nat) (x : (tupT (f14_sig k).pt).den) : runF (E14 k) Try.f14 (f14_sig k).pt (f14_sig k).rt (f14_sig k).own x = (f14_sig k).f x := by kernel_rfl
theorem f14_ok (k : Nat) : FnOK Try.prog 14 (f14_sig k) :=
  fn_ok2 (E := E14 k) (env_cons (f31_ok k) (env_nil)) mixed Try.func14 Try.call14 (by kernel_rfl) (by kernel_rfl) (by kernel_rfl) (m := 1) (by kernel_rfl) ⟨trivial, l14_5_ok k⟩ (f14_run k)

/-! ### gamehall/knockout.Seeds: function 30 -/
def l30_9 (k : Nat) : Nat → Int → (List Int) → (List Int) → Int → Int → Unit → Int → Int → Option ((Int × (List Int) × Int × Int × Unit))
  | 0, _, _, _, _, _, _, _, _ => none
  | j + 1, s0, s6, s7, s23, s24, s26, s27, s28 =>
    bif decide (s28 < s27) then
      bif decide (0 ≤ s28) && decide (s28 < (s6.length : Int)) then
        bif (s28.tmod 2) == 1 then
          bif decide ((s7.length + [w64 ((w64 ((w64 (2 * (s6.length : Int))) - 1)) - (rd 0 s6 s28)), rd 0 s6 s28].length) * 8 ≤ roomN) then
            l30_9 k j s0 s6 (s7 ++ [w64 ((w64 ((w64 (2 * (s6.length : Int))) - 1)) - (rd 0 s6 s28)), rd 0 s6 s28]) s23 s24 () s27 (w64 (s28 + 1))
          else
            none
        else
        bif decide ((s7.length + [rd 0 s6 s28, w64 ((w64 ((w64 (2 * (s6.length : Int))) - 1)) - (rd 0 s6 s28))].length) * 8 ≤ roomN) then
          l30_9 k j s0 s6 (s7 ++ [rd 0 s6 s28, w64 ((w64 ((w64 (2 * (s6.length : Int))) - 1)) - (rd 0 s6 s28))]) s23 s24 () s27 (w64 (s28 + 1))
        else
          none
      else
        none
    else
      some (s0, s7, s23, s24, ())
noncomputable def l30_9_sig (k : Nat) : LoopSig := ⟨[(0, .val (.int .i64)), (6, .row (.int .i64)), (7, .row (.int .i64)), (23, .val (.int .i64)), (24, .val (.int .i64)), (26, .same 6), (27, .val (.int .i64)), (28, .val (.int .i64))], [(.exit 2, [(0, .val (.int .i64)), (7, .row (.int .i64)), (23, .val (.int .i64)), (24, .val (.int .i64))])], fun j x => l30_9 k j x.1 x.2.1 x.2.2.1 x.2.2.2.1 x.2.2.2.2.1 x.2.2.2.2.2.1 x.2.2.2.2.2.2.1 x.2.2.2.2.2.2.2.1⟩
def l30_6 (k : Nat) : Nat → Int → (List Int) → Int → Int → Option ((Int × (List Int) × Unit))
  | 0, _, _, _, _ => none
  | j + 1, s0, s6, s23, s24 =>
    bif decide (s24 < s23) then
      (l30_9 k k s0 s6 [] s23 s24 () (s6.length : Int) 0).bind fun o1 =>
      l30_6 k j o1.1 o1.2.1 o1.2.2.1 (w64 (o1.2.2.2.1 + 1))
    else
      some (s0, s6, ())
noncomputable def l30_6_sig (k : Nat) : LoopSig := ⟨[(0, .val (.int .i64)), (6, .row (.int .i64)), (23, .val (.int .i64)), (24, .val (.int .i64))], [(.exit 0, [(0, .val (.int .i64)), (6, .row (.int .i64))])], fun j x => l30_6 k j x.1 x.2.1 x.2.2.1 x.2.2.2.1⟩
def l30_19 (k : Nat) : Nat → Int → (List Int) → Unit → Int → Int → Option (((List Int) × Unit))
  | 0, _, _, _, _, _ => none
  | j + 1, s0, s6, s53, s54, s55 =>
    bif decide (s55 < s54) then
      bif decide (0 ≤ s55) && decide (s55 < (s6.length : Int)) then
        bif decide ((rd 0 s6 s55) ≥ s0) then
          bif decide (0 ≤ s55) && decide (s55 < (s6.length : Int)) then
            l30_19 k j s0 (s6.set s55.toNat (-1)) () s54 (w64 (s55 + 1))
          else
            none
        else
          l30_19 k j s0 s6 () s54 (w64 (s55 + 1))
      else
        none
    else
      some (s6, ())
noncomputable def l30_19_sig (k : Nat) : LoopSig := ⟨[(0, .val (.int .i64)), (6, .row (.int .i64)), (53, .same 6), (54, .val (.int .i64)), (55, .val (.int .i64))], [(.exit 4, [(6, .row (.int .i64))])], fun j x => l30_19 k j x.1 x.2.1 x.2.2.1 x.2.2.2.1 x.2.2.2.2.1⟩
def f30 (k : Nat) (x0 : Int) : Option ((List Int) × Int × Unit) :=
  (f14 k x0).bind fun r1 =>
  bif r1.2.1 != 0 then
    some ([], r1.2)
  else
    (l30_6 k k x0 [0] r1.1 0).bind fun o2 =>
    (l30_19 k k o2.1 o2.2.1 () (o2.2.1.length : Int) 0).bind fun o3 =>
    some (o3.1, 0, ())
def f30_sig (k : Nat) : Sig := ⟨[.int .i64], [.sl (.int .i64), .int .i64], true, fun x => f30 k x.1⟩
noncomputable def E30 (k : Nat) : Env := ⟨Try.prog, tcons 14 (f14_sig k) (tnil), tcons 19 (l30_19_sig k) (tcons 6 (l30_6_sig k) (tcons 9 (l30_9_sig k) (tnil))), k⟩
theorem l30_6_ok (k : Nat) : LoopOK (E30 k) Try.f30.ntmps (nthC 0 (loopsIn (Try.f30.body.getD .skip))) :=
  loop_ok (ls := l30_6_sig k) (by kernel_rfl) (fun _ => by kernel_rfl) (fun j x => by kernel_rfl)
theorem l30_9_ok (k : Nat) : LoopOK (E30 k) Try.f30.ntmps (nthC 1 (loopsIn (Try.f30.body.getD .skip))) :=
  loop_ok (ls := l30_9_sig k) (by kernel_rfl) (fun _ => by kernel_rfl) (fun j x => by kernel_rfl)
theorem l30_19_ok (k : Nat) : LoopOK (E30 k) Try.f30.ntmps (nthC 2 (loopsIn (Try.f30.body.getD .skip))) :=
  loop_ok (ls := l30_19_sig k) (by kernel_rfl) (fun _ => by kernel_rfl) (fun j x => by kernel_rfl)
theorem f30_run (k : Nat) (x : (tupT (f30_sig k).pt).den) : runF (E30 k) Try.f30 (f30_sig k).pt (f30_sig k).rt (f30_sig k).own x = (f30_sig k).f x := by kernel_rfl
theorem f30_ok (k : Nat) : FnOK Try.prog 30 (f30_sig k) :=
  fn_ok2 (E := E30 k) (env_cons (f14_ok k) (env_nil)) mixed Try.func30 Try.call30 (by kernel_rfl) (by kernel_rfl) (by kernel_rfl) (m := 3) (by kernel_rfl) ⟨⟨⟨trivial, l30_6_ok k⟩, l30_9_ok k⟩, l30_19_ok k⟩ (f30_run k)

/-! ### gamehall/gamehallkeep3.brackets: function 12 -/
def f12 (k : Nat) : Option (Bool × Unit) :=
  (f30 k 2).bind fun r1 =>
  bif r1.2.1 == 0 then
    bif (r1.1.length : Int) == 2 then
      bif decide (0 < (r1.1.length : Int)) then
        bif (rd 0 r1.1 0) == 0 then
          bif decide (1 < (r1.1.length : Int)) then
            some ((rd 0 r1.1 1) == 1, ())
          else
            none
        else
          some (false, ())
      else
        none
    else
      some (false, ())
  else
    some (false, ())
def f12_sig (k : Nat) : Sig := ⟨[], [.bool], true, fun x => f12 k⟩
noncomputable def E12 (k : Nat) : Env := ⟨Try.prog, tcons 30 (f30_sig k) (tnil), tnil, k⟩
theorem f12_run (k : Nat) (x : (tupT (f12_sig k).pt).den) : runF (E12 k) Try.f12 (f12_sig k).pt (f12_sig k).rt (f12_sig k).own x = (f12_sig k).f x := by kernel_rfl
theorem f12_ok (k : Nat) : FnOK Try.prog 12 (f12_sig k) :=
  fn_ok2 (E := E12 k) (env_cons (f30_ok k) (env_nil)) mixed Try.func12 Try.call12 (by kernel_rfl) (by kernel_rfl) (by kernel_rfl) (m := 0) (by kernel_rfl) trivial (f12_run k)

/-! ### gamehall/knockout.winner: function 36 -/
def f36 (k : Nat) (x0 : Int × Int × Int × Unit) (x1 : Int) : Option (Int × Unit) :=
  bif decide (x0.2.2.1 < 0) then
    some (x0.2.1, ())
  else
  bif decide (x0.2.1 < 0) then
    some x0.2.2
  else
  bif x1 == 2 then
    some (x0.2.1, ())
  else
    some x0.2.2
def f36_sig (k : Nat) : Sig := ⟨[.pair (.int .i64) (.pair (.int .i64) (.pair (.int .i64) (.unit))), .int .i64], [.int .i64], true, fun x => f36 k x.1 x.2.1⟩
noncomputable def E36 (k : Nat) : Env := ⟨Try.prog, tnil, tnil, k⟩
theorem f36_run (k : Nat) (x : (tupT (f36_sig k).pt).den) : runF (E36 k) Try.f36 (f36_sig k).pt (f36_sig k).rt (f36_sig k).own x = (f36_sig k).f x := by kernel_rfl
theorem f36_ok (k : Nat) : FnOK Try.prog 36 (f36_sig k) :=
  fn_ok2 (E := E36 k) (env_nil) mixed Try.func36 Try.call36 (by kernel_rfl) (by kernel_rfl) (by kernel_rfl) (m := 0) (by kernel_rfl) trivial (f36_run k)

/-! ### gamehall/knockout.late: function 37 -/
def f37 (k : Nat) (x0 : Int) (x1 : List Int) : Option (Int × Unit) :=
  bif decide (x0 < (x1.length : Int)) then
    some (2, ())
  else
    some (0, ())
def f37_sig (k : Nat) : Sig := ⟨[.int .i64, .sl (.int .i64)], [.int .i64], true, fun x => f37 k x.1 x.2.1⟩
noncomputable def E37 (k : Nat) : Env := ⟨Try.prog, tnil, tnil, k⟩
theorem f37_run (k : Nat) (x : (tupT (f37_sig k).pt).den) : runF (E37 k) Try.f37 (f37_sig k).pt (f37_sig k).rt (f37_sig k).own x = (f37_sig k).f x := by kernel_rfl
theorem f37_ok (k : Nat) : FnOK Try.prog 37 (f37_sig k) :=
  fn_ok2 (E := E37 k) (env_nil) mixed Try.func37 Try.call37 (by kernel_rfl) (by kernel_rfl) (by kernel_rfl) (m := 0) (by kernel_rfl) trivial (f37_run k)

/-! ### gamehall/knockout.Play: function 28 -/
def l28_5 (k : Nat) : Nat → (List Int) → (List Int) → (List Int) → Int → Int → Option (((List Int) × (List Int) × Unit) ⊕ ((List (Int × Int × Int × Unit)) × Int × Int × Unit))
  | 0, _, _, _, _, _ => none
  | j + 1, s1, s7, s27, s28, s29 =>
    bif decide (s29 < s28) then
      bif decide (0 ≤ s29) && decide (s29 < (s27.length : Int)) then
        bif (rd 0 s27 s29) != 0 then
          bif (rd 0 s27 s29) != 2 then
            some (.inr ([], 0, 4, ()))
          else
            l28_5 k j s1 s7 s27 s28 (w64 (s29 + 1))
        else
          l28_5 k j s1 s7 s27 s28 (w64 (s29 + 1))
      else
        none
    else
      some (.inl (s1, s7, ()))
noncomputable def l28_5_sig (k : Nat) : LoopSig := ⟨[(1, .val (.sl (.int .i64))), (7, .row (.int .i64)), (27, .val (.sl (.int .i64))), (28, .val (.int .i64)), (29, .val (.int .i64))], [(.exit 0, [(1, .val (.sl (.int .i64))), (7, .row (.int .i64))]), (.ret, [(4, .row (.pair (.int .i64) (.pair (.int .i64) (.pair (.int .i64) (.unit))))), (5, .val (.int .i64)), (6, .val (.int .i64))])], fun j x => l28_5 k j x.1 x.2.1 x.2.2.1 x.2.2.2.1 x.2.2.2.2.1⟩
def l28_17 (k : Nat) : Nat → (List Int) → (List Int) → (List (Int × Int × Int × Unit)) → Int → Int → (List Int) → Int → Option (((List Int) × (List Int) × (List (Int × Int × Int × Unit)) × Int × Int × (List Int) × Unit))
  | 0, _, _, _, _, _, _, _ => none
  | j + 1, s1, s7, s11, s12, s13, s14, s15 =>
    bif decide ((w64 (s15 + 1)) < (s7.length : Int)) then
      bif decide (0 ≤ s15) && decide (s15 < (s7.length : Int)) then
        bif decide (0 ≤ (w64 (s15 + 1))) && decide ((w64 (s15 + 1)) < (s7.length : Int)) then
          bif decide ((s11.length + [(s13, rd 0 s7 s15, rd 0 s7 (w64 (s15 + 1)), ())].length) * 24 ≤ roomN) then
            bif decide ((rd 0 s7 s15) < 0) then
              (f36 k (s13, rd 0 s7 s15, rd 0 s7 (w64 (s15 + 1)), ()) 0).bind fun r1 =>
              bif decide ((s14.length + [r1.1].length) * 8 ≤ roomN) then
                l28_17 k j s1 s7 (s11 ++ [(s13, rd 0 s7 s15, rd 0 s7 (w64 (s15 + 1)), ())]) s12 s13 (s14 ++ [r1.1]) (w64 (s15 + 2))
              else
                none
            else
            bif decide ((rd 0 s7 (w64 (s15 + 1))) < 0) then
              (f36 k (s13, rd 0 s7 s15, rd 0 s7 (w64 (s15 + 1)), ()) 0).bind fun r2 =>
              bif decide ((s14.length + [r2.1].length) * 8 ≤ roomN) then
                l28_17 k j s1 s7 (s11 ++ [(s13, rd 0 s7 s15, rd 0 s7 (w64 (s15 + 1)), ())]) s12 s13 (s14 ++ [r2.1]) (w64 (s15 + 2))
              else
                none
            else
            bif decide (s12 < (s1.length : Int)) then
              bif decide (0 ≤ s12) && decide (s12 < (s1.length : Int)) then
                (f36 k (s13, rd 0 s7 s15, rd 0 s7 (w64 (s15 + 1)), ()) (rd 0 s1 s12)).bind fun r3 =>
                bif decide ((s14.length + [r3.1].length) * 8 ≤ roomN) then
                  l28_17 k j s1 s7 (s11 ++ [(s13, rd 0 s7 s15, rd 0 s7 (w64 (s15 + 1)), ())]) (w64 (s12 + 1)) s13 (s14 ++ [r3.1]) (w64 (s15 + 2))
                else
                  none
              else
                none
            else
              l28_17 k j s1 s7 (s11 ++ [(s13, rd 0 s7 s15, rd 0 s7 (w64 (s15 + 1)), ())]) s12 s13 s14 (w64 (s15 + 2))
          else
            none
        else
          none
      else
        none
    else
      some (s1, s7, s11, s12, s13, s14, ())
noncomputable def l28_17_sig (k : Nat) : LoopSig := ⟨[(1, .val (.sl (.int .i64))), (7, .row (.int .i64)), (11, .row (.pair (.int .i64) (.pair (.int .i64) (.pair (.int .i64) (.unit))))), (12, .val (.int .i64)), (13, .val (.int .i64)), (14, .row (.int .i64)), (15, .val (.int .i64))], [(.exit 4, [(1, .val (.sl (.int .i64))), (7, .row (.int .i64)), (11, .row (.pair (.int .i64) (.pair (.int .i64) (.pair (.int .i64) (.unit))))), (12, .val (.int .i64)), (13, .val (.int .i64)), (14, .row (.int .i64))])], fun j x => l28_17 k j x.1 x.2.1 x.2.2.1 x.2.2.2.1 x.2.2.2.2.1 x.2.2.2.2.2.1 x.2.2.2.2.2.2.1⟩
def l28_13 (k : Nat) : Nat → (List Int) → (List Int) → (List (Int × Int × Int × Unit)) → Int → Int → Option (((List Int) × (List Int) × (List (Int × Int × Int × Unit)) × Int × Unit) ⊕ ((List (Int × Int × Int × Unit)) × Int × Int × Unit))
  | 0, _, _, _, _, _ => none
  | j + 1, s1, s7, s11, s12, s13 =>
    bif decide ((s7.length : Int) > 1) then
      (l28_17 k k s1 s7 s11 s12 s13 [] 0).bind fun o1 =>
      bif decide ((w64 ((o1.2.2.2.2.2.1.length : Int) * 2)) < (o1.2.1.length : Int)) then
        (f37 k o1.2.2.2.1 o1.1).bind fun r2 =>
        bif r2.1 != 0 then
          some (.inr ([], 0, r2))
        else
          some (.inr (o1.2.2.1, (-1), 0, ()))
      else
        l28_13 k j o1.1 o1.2.2.2.2.2.1 o1.2.2.1 o1.2.2.2.1 (w64 (o1.2.2.2.2.1 + 1))
    else
      some (.inl (s1, s7, s11, s12, ()))
noncomputable def l28_13_sig (k : Nat) : LoopSig := ⟨[(1, .val (.sl (.int .i64))), (7, .row (.int .i64)), (11, .row (.pair (.int .i64) (.pair (.int .i64) (.pair (.int .i64) (.unit))))), (12, .val (.int .i64)), (13, .val (.int .i64))], [(.exit 2, [(1, .val (.sl (.int .i64))), (7, .row (.int .i64)), (11, .row (.pair (.int .i64) (.pair (.int .i64) (.pair (.int .i64) (.unit))))), (12, .val (.int .i64))]), (.ret, [(4, .row (.pair (.int .i64) (.pair (.int .i64) (.pair (.int .i64) (.unit))))), (5, .val (.int .i64)), (6, .val (.int .i64))])], fun j x => l28_13 k j x.1 x.2.1 x.2.2.1 x.2.2.2.1 x.2.2.2.2.1⟩
def f28 (k : Nat) (x0 : Int) (x1 : List Int) : Option ((List (Int × Int × Int × Unit)) × Int × Int × Unit) :=
  (f30 k x0).bind fun r1 =>
  bif r1.2.1 != 0 then
    some ([], 0, r1.2)
  else
    (l28_5 k k x1 r1.1 x1 (x1.length : Int) 0).bind fun w1 =>
    Sum.elim
      (fun y3 =>
        (l28_13 k k y3.1 y3.2.1 [] 0 0).bind fun w2 =>
        Sum.elim
          (fun y5 =>
            (f37 k y5.2.2.2.1 y5.1).bind fun r6 =>
            bif r6.1 != 0 then
              some ([], 0, r6)
            else
            bif decide (0 < (y5.2.1.length : Int)) then
              some (y5.2.2.1, rd 0 y5.2.1 0, 0, ())
            else
              none)
          (fun y7 =>
            some y7)
          w2)
      (fun y8 =>
        some y8)
      w1
def f28_sig (k : Nat) : Sig := ⟨[.int .i64, .sl (.int .i64)], [.sl (.pair (.int .i64) (.pair (.int .i64) (.pair (.int .i64) (.unit)))), .int .i64, .int .i64], true, fun x => f28 k x.1 x.2.1⟩
noncomputable def E28 (k : Nat) : Env := ⟨Try.prog, tcons 37 (f37_sig k) (tcons 36 (f36_sig k) (tcons 30 (f30_sig k) (tnil))), tcons 13 (l28_13_sig k) (tcons 17 (l28_17_sig k) (tcons 5 (l28_5_sig k) (tnil))), k⟩
theorem l28_5_ok (k : Nat) : LoopOK (E28 k) Try.f28.ntmps (nthC 0 (loopsIn (Try.f28.body.getD .skip))) :=
  loop_ok (ls := l28_5_sig k) (by kernel_rfl) (fun _ => by kernel_rfl) (fun j x => by kernel_rfl)
theorem l28_13_ok (k : Nat) : LoopOK (E28 k) Try.f28.ntmps (nthC 1 (loopsIn (Try.f28.body.getD .skip))) :=
  loop_ok (ls := l28_13_sig k) (by kernel_rfl) (fun _ => by kernel_rfl) (fun j x => by kernel_rfl)
theorem l28_17_ok (k : Nat) : LoopOK (E28 k) Try.f28.ntmps (nthC 2 (loopsIn (Try.f28.body.getD .skip))) :=
  loop_ok (ls := l28_17_sig k) (by kernel_rfl) (fun _ => by kernel_rfl) (fun j x => by kernel_rfl)
theorem f28_run (k : Nat) (x : (tupT (f28_sig k).pt).den) : runF (E28 k) Try.f28 (f28_sig k).pt (f28_sig k).rt (f28_sig k).own x = (f28_sig k).f x := by kernel_rfl
theorem f28_ok (k : Nat) : FnOK Try.prog 28 (f28_sig k) :=
  fn_ok2 (E := E28 k) (env_cons (f37_ok k) (env_cons (f36_ok k) (env_cons (f30_ok k) (env_nil)))) mixed Try.func28 Try.call28 (by kernel_rfl) (by kernel_rfl) (by kernel_rfl) (m := 3) (by kernel_rfl) ⟨⟨⟨trivial, l28_5_ok k⟩, l28_13_ok k⟩, l28_17_ok k⟩ (f28_run k)

/-! ### gamehall/gamehallkeep3.paired: function 29 -/
def l29_2 (k : Nat) : Nat → Int → (List (Int × Int × Int × Unit)) → (List (Int × Int × Int × Unit)) → Int → Int → Option ((Int × (List (Int × Int × Int × Unit)) × Unit) ⊕ (Bool × Unit))
  | 0, _, _, _, _, _ => none
  | j + 1, s1, s2, s9, s10, s11 =>
    bif decide (s11 < s10) then
      bif decide (0 ≤ s11) && decide (s11 < (s9.length : Int)) then
        bif decide ((rd ((0, 0, 0, ()) : Int × Int × Int × Unit) s9 s11).2.1 ≥ 0) then
          bif decide ((rd ((0, 0, 0, ()) : Int × Int × Int × Unit) s9 s11).2.2.1 ≥ 0) then
            bif decide ((w64 (s1 - (rd ((0, 0, 0, ()) : Int × Int × Int × Unit) s9 s11).1)) < 0) then
              none
            else
            bif (w64 ((rd ((0, 0, 0, ()) : Int × Int × Int × Unit) s9 s11).2.1 + (rd ((0, 0, 0, ()) : Int × Int × Int × Unit) s9 s11).2.2.1)) != (w64 ((w64 (1 * 2 ^ (min (w64 (s1 - (rd ((0, 0, 0, ()) : Int × Int × Int × Unit) s9 s11).1)).toNat 64))) - 1)) then
              some (.inr (false, ()))
            else
              l29_2 k j s1 s2 s9 s10 (w64 (s11 + 1))
          else
            l29_2 k j s1 s2 s9 s10 (w64 (s11 + 1))
        else
          l29_2 k j s1 s2 s9 s10 (w64 (s11 + 1))
      else
        none
    else
      some (.inl (s1, s2, ()))
noncomputable def l29_2_sig (k : Nat) : LoopSig := ⟨[(1, .val (.int .i64)), (2, .val (.sl (.pair (.int .i64) (.pair (.int .i64) (.pair (.int .i64) (.unit)))))), (9, .val (.sl (.pair (.int .i64) (.pair (.int .i64) (.pair (.int .i64) (.unit)))))), (10, .val (.int .i64)), (11, .val (.int .i64))], [(.exit 0, [(1, .val (.int .i64)), (2, .val (.sl (.pair (.int .i64) (.pair (.int .i64) (.pair (.int .i64) (.unit))))))]), (.ret, [(6, .val (.bool))])], fun j x => l29_2 k j x.1 x.2.1 x.2.2.1 x.2.2.2.1 x.2.2.2.2.1⟩
def f29 (k : Nat) (x0 : Int) (x1 : Int) (x2 : List (Int × Int × Int × Unit)) : Option (Bool × Unit) :=
  (l29_2 k k x1 x2 x2 (x2.length : Int) 0).bind fun w3 =>
  Sum.elim
    (fun y2 =>
      bif decide (y2.1 < 0) then
        none
      else
        some ((y2.2.1.length : Int) == (w64 ((w64 (1 * 2 ^ (min y2.1.toNat 64))) - 1)), ()))
    (fun y3 =>
      some y3)
    w3
def f29_sig (k : Nat) : Sig := ⟨[.int .i64, .int .i64, .sl (.pair (.int .i64) (.pair (.int .i64) (.pair (.int .i64) (.unit))))], [.bool], true, fun x => f29 k x.1 x.2.1 x.2.2.1⟩
noncomputable def E29 (k : Nat) : Env := ⟨Try.prog, tnil, tcons 2 (l29_2_sig k) (tnil), k⟩
theorem l29_2_ok (k : Nat) : LoopOK (E29 k) Try.f29.ntmps (nthC 0 (loopsIn (Try.f29.body.getD .skip))) :=
  loop_ok (ls := l29_2_sig k) (by kernel_rfl) (fun _ => by kernel_rfl) (fun j x => by kernel_rfl)
theorem f29_run (k : Nat) (x : (tupT (f29_sig k).pt).den) : runF (E29 k) Try.f29 (f29_sig k).pt (f29_sig k).rt (f29_sig k).own x = (f29_sig k).f x := by kernel_rfl
theorem f29_ok (k : Nat) : FnOK Try.prog 29 (f29_sig k) :=
  fn_ok2 (E := E29 k) (env_nil) mixed Try.func29 Try.call29 (by kernel_rfl) (by kernel_rfl) (by kernel_rfl) (m := 1) (by kernel_rfl) ⟨trivial, l29_2_ok k⟩ (f29_run k)

/-! ### gamehall/gamehallkeep3.KnockoutBest: function 10 -/
def l10_16 (k : Nat) : Nat → Int → Int → (List Int) → Int → Int → (List (Int × Int × Int × Unit)) → Int → Int → Option ((Int × Int × (List Int) × Int × Unit))
  | 0, _, _, _, _, _, _, _, _ => none
  | j + 1, s0, s3, s5, s9, s24, s45, s46, s47 =>
    bif decide (s47 < s46) then
      bif decide (0 ≤ s47) && decide (s47 < (s45.length : Int)) then
        bif decide ((rd ((0, 0, 0, ()) : Int × Int × Int × Unit) s45 s47).2.1 < 0) then
          l10_16 k j s0 s3 s5 s9 s24 s45 s46 (w64 (s47 + 1))
        else
        bif decide ((rd ((0, 0, 0, ()) : Int × Int × Int × Unit) s45 s47).2.2.1 < 0) then
          l10_16 k j s0 s3 s5 s9 s24 s45 s46 (w64 (s47 + 1))
        else
        bif s9 == (s5.length : Int) then
          bif decide ((rd ((0, 0, 0, ()) : Int × Int × Int × Unit) s45 s47).2.2.1 < (rd ((0, 0, 0, ()) : Int × Int × Int × Unit) s45 s47).2.1) then
            bif decide ((s5.length + [0].length) * 8 ≤ roomN) then
              some (s0, s3, s5 ++ [0], s24, ())
            else
              none
          else
          bif decide ((s5.length + [2].length) * 8 ≤ roomN) then
            some (s0, s3, s5 ++ [2], s24, ())
          else
            none
        else
          l10_16 k j s0 s3 s5 (w64 (s9 + 1)) s24 s45 s46 (w64 (s47 + 1))
      else
        none
    else
      some (s0, s3, s5, s24, ())
noncomputable def l10_16_sig (k : Nat) : LoopSig := ⟨[(0, .val (.int .i64)), (3, .val (.int .i64)), (5, .row (.int .i64)), (9, .val (.int .i64)), (24, .val (.int .i64)), (45, .row (.pair (.int .i64) (.pair (.int .i64) (.pair (.int .i64) (.unit))))), (46, .val (.int .i64)), (47, .val (.int .i64))], [(.exit 2, [(0, .val (.int .i64)), (3, .val (.int .i64)), (5, .row (.int .i64)), (24, .val (.int .i64))])], fun j x => l10_16 k j x.1 x.2.1 x.2.2.1 x.2.2.2.1 x.2.2.2.2.1 x.2.2.2.2.2.1 x.2.2.2.2.2.2.1 x.2.2.2.2.2.2.2.1⟩
def l10_8 (k : Nat) : Nat → Int → Int → (List Int) → Int → Option (Unit ⊕ (Bool × Unit))
  | 0, _, _, _, _ => none
  | j + 1, s0, s3, s5, s24 =>
    bif decide (s24 < 64) then
      (f28 k s0 s5).bind fun r1 =>
      bif r1.2.2.1 != 0 then
        some (.inr (false, ()))
      else
      bif decide (r1.2.1 ≥ 0) then
        bif r1.2.1 == 0 then
          (f29 k s0 s3 r1.1).bind fun r2 =>
          some (.inr r2)
        else
          some (.inr (false, ()))
      else
        (l10_16 k k s0 s3 s5 0 s24 r1.1 (r1.1.length : Int) 0).bind fun o3 =>
        l10_8 k j o3.1 o3.2.1 o3.2.2.1 (w64 (o3.2.2.2.1 + 1))
    else
      some (.inl ())
noncomputable def l10_8_sig (k : Nat) : LoopSig := ⟨[(0, .val (.int .i64)), (3, .val (.int .i64)), (5, .row (.int .i64)), (24, .val (.int .i64))], [(.exit 0, []), (.ret, [(2, .val (.bool))])], fun j x => l10_8 k j x.1 x.2.1 x.2.2.1 x.2.2.2.1⟩
def f10 (k : Nat) (x0 : Int) : Option (Bool × Unit) :=
  (f12 k).bind fun r1 =>
  bif !r1.1 then
    some (false, ())
  else
    (f14 k x0).bind fun r2 =>
    bif r2.2.1 != 0 then
      some (r2.2.1 == 4, ())
    else
      (l10_8 k k x0 r2.1 [] 0).bind fun w4 =>
      Sum.elim
        (fun y4 =>
          some (false, ()))
        (fun y5 =>
          some y5)
        w4
def f10_sig (k : Nat) : Sig := ⟨[.int .i64], [.bool], true, fun x => f10 k x.1⟩
noncomputable def E10 (k : Nat) : Env := ⟨Try.prog, tcons 29 (f29_sig k) (tcons 28 (f28_sig k) (tcons 14 (f14_sig k) (tcons 12 (f12_sig k) (tnil)))), tcons 8 (l10_8_sig k) (tcons 16 (l10_16_sig k) (tnil)), k⟩
theorem l10_8_ok (k : Nat) : LoopOK (E10 k) Try.f10.ntmps (nthC 0 (loopsIn (Try.f10.body.getD .skip))) :=
  loop_ok (ls := l10_8_sig k) (by kernel_rfl) (fun _ => by kernel_rfl) (fun j x => by kernel_rfl)
theorem l10_16_ok (k : Nat) : LoopOK (E10 k) Try.f10.ntmps (nthC 1 (loopsIn (Try.f10.body.getD .skip))) :=
  loop_ok (ls := l10_16_sig k) (by kernel_rfl) (fun _ => by kernel_rfl) (fun j x => by kernel_rfl)
theorem f10_run (k : Nat) (x : (tupT (f10_sig k).pt).den) : runF (E10 k) Try.f10 (f10_sig k).pt (f10_sig k).rt (f10_sig k).own x = (f10_sig k).f x := by kernel_rfl
theorem f10_ok (k : Nat) : FnOK Try.prog 10 (f10_sig k) :=
  fn_ok2 (E := E10 k) (env_cons (f29_ok k) (env_cons (f28_ok k) (env_cons (f14_ok k) (env_cons (f12_ok k) (env_nil))))) mixed Try.func10 Try.call10 (by kernel_rfl) (by kernel_rfl) (by kernel_rfl) (m := 2) (by kernel_rfl) ⟨⟨trivial, l10_8_ok k⟩, l10_16_ok k⟩ (f10_run k)
end Go.Proofs.Ytpighccmakogpaa.G
