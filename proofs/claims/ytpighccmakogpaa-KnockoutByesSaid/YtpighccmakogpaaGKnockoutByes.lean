import Derived.Test.YtpighccmakogpaaVM21
import Derived.Test.YtpighccmakogpaaChecked
namespace Go.Proofs.Ytpighccmakogpaa.G
open Go.VM Go.Proofs

abbrev w64 (n : Int) : Int := IntKind.i64.wrap n
theorem mixed : Try.prog.follows .mixedOrders = true := by kernel_rfl

/-! ### gamehall/knockout.Check: function 31 -/
def f31 (k : Nat) (x0 : Int) : Option (Int × Unit) :=
  bif decide (x0 < 2) then
    some (4, ())
  else
  bif decide (x0 > 32) then
    some (4, ())
  else
    some (0, ())
def f31_sig (k : Nat) : Sig := ⟨[.int .i64], [.int .i64], true, fun x => f31 k x.1⟩
noncomputable def E31 (k : Nat) : Env := ⟨Try.prog, tnil, tnil, k⟩
theorem f31_run (k : Nat) (x : (tupT (f31_sig k).pt).den) : runF (E31 k) Try.f31 (f31_sig k).pt (f31_sig k).rt (f31_sig k).own x = (f31_sig k).f x := by kernel_rfl
theorem f31_ok (k : Nat) : FnOK Try.prog 31 (f31_sig k) :=
  fn_ok2 (E := E31 k) (env_nil) mixed Try.func31 Try.call31 (by kernel_rfl) (by kernel_rfl) (by kernel_rfl) (m := 0) (by kernel_rfl) trivial (f31_run k)

/-! ### gamehall/knockout.Rounds: function 14 -/
def l14_5 (k : Nat) : Nat → Int → Int → Option ((Int × Unit))
  | 0, _, _ => none
  | j + 1, s0, s5 =>
    bif decide (s5 < 0) then
      none
    else
    bif decide ((w64 (1 * 2 ^ (min s5.toNat 64))) < s0) then
      l14_5 k j s0 (w64 (s5 + 1))
    else
      some (s5, ())
noncomputable def l14_5_sig (k : Nat) : LoopSig := ⟨[(0, .val (.int .i64)), (5, .val (.int .i64))], [(.exit 0, [(5, .val (.int .i64))])], fun j x => l14_5 k j x.1 x.2.1⟩
def f14 (k : Nat) (x0 : Int) : Option (Int × Int × Unit) :=
  (f31 k x0).bind fun r1 =>
  bif r1.1 != 0 then
    some (0, r1)
  else
    (l14_5 k k x0 0).bind fun o2 =>
    some (o2.1, 0, ())
def f14_sig (k : Nat) : Sig := ⟨[.int .i64], [.int .i64, .int .i64], true, fun x => f14 k x.1⟩
noncomputable def E14 (k : Nat) : Env := ⟨Try.prog, tcons 31 (f31_sig k) (tnil), tcons 5 (l14_5_sig k) (tnil), k⟩
theorem l14_5_ok (k : Nat) : LoopOK (E14 k) Try.f14.ntmps (nthC 0 (loopsIn (Try.f14.body.getD .skip))) :=
  loop_ok (ls := l14_5_sig k) (by kernel_rfl) (fun _ => by kernel_rfl) (fun j x => by kernel_rfl)
theorem f14_run (k : Nat) (x : (tupT (f14_sig k).pt).den) : runF (E14 k) Try.f14 (f14_sig k).pt (f14_sig k).rt (f14_sig k).own x = (f14_sig k).f x := by kernel_rfl
theorem f14_ok (k : Nat) : FnOK Try.prog 14 (f14_sig k) :=
  fn_ok2 (E := E14 k) (env_cons (f31_ok k) (env_nil)) mixed Try.func14 Try.call14 (by kernel_rfl) (by kernel_rfl) (by kernel_rfl) (m := 1) (by kernel_rfl) ⟨trivial, l14_5_ok k⟩ (f14_run k)

/-! ### gamehall/knockout.Seeds: function 30 -/
def l30_9 (k : Nat) : Nat → Int → (List Int) → (List Int) → Int → Int → Unit → Int → Int → Option ((Int × (List Int) × Int × Int × Unit))
  | 0, _, _, _, _, _, _, _, _ => none
  | j + 1, s0, s6, s7, s23, s24, s26, s27, s28 =>
    bif decide (s28 < s27) then
      bif decide (0 ≤ s28) && decide (s28 < (s6.length : Int)) then
        bif (s28.tmod 2) == 1 then
          bif decide ((s7.length + [w64 ((w64 ((w64 (2 * (s6.length : Int))) - 1)) - (rd 0 s6 s28)), rd 0 s6 s28].length) * 8 ≤ roomN) then
            l30_9 k j s0 s6 (s7 ++ [w64 ((w64 ((w64 (2 * (s6.length : Int))) - 1)) - (rd 0 s6 s28)), rd 0 s6 s28]) s23 s24 () s27 (w64 (s28 + 1))
          else
            none
        else
        bif decide ((s7.length + [rd 0 s6 s28, w64 ((w64 ((w64 (2 * (s6.length : Int))) - 1)) - (rd 0 s6 s28))].length) * 8 ≤ roomN) then
          l30_9 k j s0 s6 (s7 ++ [rd 0 s6 s28, w64 ((w64 ((w64 (2 * (s6.length : Int))) - 1)) - (rd 0 s6 s28))]) s23 s24 () s27 (w64 (s28 + 1))
        else
          none
      else
        none
    else
      some (s0, s7, s23, s24, ())
noncomputable def l30_9_sig (k : Nat) : LoopSig := ⟨[(0, .val (.int .i64)), (6, .row (.int .i64)), (7, .row (.int .i64)), (23, .val (.int .i64)), (24, .val (.int .i64)), (26, .same 6), (27, .val (.int .i64)), (28, .val (.int .i64))], [(.exit 2, [(0, .val (.int .i64)), (7, .row (.int .i64)), (23, .val (.int .i64)), (24, .val (.int .i64))])], fun j x => l30_9 k j x.1 x.2.1 x.2.2.1 x.2.2.2.1 x.2.2.2.2.1 x.2.2.2.2.2.1 x.2.2.2.2.2.2.1 x.2.2.2.2.2.2.2.1⟩
def l30_6 (k : Nat) : Nat → Int → (List Int) → Int → Int → Option ((Int × (List Int) × Unit))
  | 0, _, _, _, _ => none
  | j + 1, s0, s6, s23, s24 =>
    bif decide (s24 < s23) then
      (l30_9 k k s0 s6 [] s23 s24 () (s6.length : Int) 0).bind fun o1 =>
      l30_6 k j o1.1 o1.2.1 o1.2.2.1 (w64 (o1.2.2.2.1 + 1))
    else
      some (s0, s6, ())
noncomputable def l30_6_sig (k : Nat) : LoopSig := ⟨[(0, .val (.int .i64)), (6, .row (.int .i64)), (23, .val (.int .i64)), (24, .val (.int .i64))], [(.exit 0, [(0, .val (.int .i64)), (6, .row (.int .i64))])], fun j x => l30_6 k j x.1 x.2.1 x.2.2.1 x.2.2.2.1⟩
def l30_19 (k : Nat) : Nat → Int → (List Int) → Unit → Int → Int → Option (((List Int) × Unit))
  | 0, _, _, _, _, _ => none
  | j + 1, s0, s6, s53, s54, s55 =>
    bif decide (s55 < s54) then
      bif decide (0 ≤ s55) && decide (s55 < (s6.length : Int)) then
        bif decide ((rd 0 s6 s55) ≥ s0) then
          bif decide (0 ≤ s55) && decide (s55 < (s6.length : Int)) then
            l30_19 k j s0 (s6.set s55.toNat (-1)) () s54 (w64 (s55 + 1))
          else
            none
        else
          l30_19 k j s0 s6 () s54 (w64 (s55 + 1))
      else
        none
    else
      some (s6, ())
noncomputable def l30_19_sig (k : Nat) : LoopSig := ⟨[(0, .val (.int .i64)), (6, .row (.int .i64)), (53, .same 6), (54, .val (.int .i64)), (55, .val (.int .i64))], [(.exit 4, [(6, .row (.int .i64))])], fun j x => l30_19 k j x.1 x.2.1 x.2.2.1 x.2.2.2.1 x.2.2.2.2.1⟩
def f30 (k : Nat) (x0 : Int) : Option ((List Int) × Int × Unit) :=
  (f14 k x0).bind fun r1 =>
  bif r1.2.1 != 0 then
    some ([], r1.2)
  else
    (l30_6 k k x0 [0] r1.1 0).bind fun o2 =>
    (l30_19 k k o2.1 o2.2.1 () (o2.2.1.length : Int) 0).bind fun o3 =>
    some (o3.1, 0, ())
def f30_sig (k : Nat) : Sig := ⟨[.int .i64], [.sl (.int .i64), .int .i64], true, fun x => f30 k x.1⟩
noncomputable def E30 (k : Nat) : Env := ⟨Try.prog, tcons 14 (f14_sig k) (tnil), tcons 19 (l30_19_sig k) (tcons 6 (l30_6_sig k) (tcons 9 (l30_9_sig k) (tnil))), k⟩
theorem l30_6_ok (k : Nat) : LoopOK (E30 k) Try.f30.ntmps (nthC 0 (loopsIn (Try.f30.body.getD .skip))) :=
  loop_ok (ls := l30_6_sig k) (by kernel_rfl) (fun _ => by kernel_rfl) (fun j x => by kernel_rfl)
theorem l30_9_ok (k : Nat) : LoopOK (E30 k) Try.f30.ntmps (nthC 1 (loopsIn (Try.f30.body.getD .skip))) :=
  loop_ok (ls := l30_9_sig k) (by kernel_rfl) (fun _ => by kernel_rfl) (fun j x => by kernel_rfl)
theorem l30_19_ok (k : Nat) : LoopOK (E30 k) Try.f30.ntmps (nthC 2 (loopsIn (Try.f30.body.getD .skip))) :=
  loop_ok (ls := l30_19_sig k) (by kernel_rfl) (fun _ => by kernel_rfl) (fun j x => by kernel_rfl)
theorem f30_run (k : Nat) (x : (tupT (f30_sig k).pt).den) : runF (E30 k) Try.f30 (f30_sig k).pt (f30_sig k).rt (f30_sig k).own x = (f30_sig k).f x := by kernel_rfl
theorem f30_ok (k : Nat) : FnOK Try.prog 30 (f30_sig k) :=
  fn_ok2 (E := E30 k) (env_cons (f14_ok k) (env_nil)) mixed Try.func30 Try.call30 (by kernel_rfl) (by kernel_rfl) (by kernel_rfl) (m := 3) (by kernel_rfl) ⟨⟨⟨trivial, l30_6_ok k⟩, l30_9_ok k⟩, l30_19_ok k⟩ (f30_run k)

/-! ### gamehall/gamehallkeep3.brackets: function 12 -/
def f12 (k : Nat) : Option (Bool × Unit) :=
  (f30 k 2).bind fun r1 =>
  bif r1.2.1 == 0 then
    bif (r1.1.length : Int) == 2 then
      bif decide (0 < (r1.1.length : Int)) then
        bif (rd 0 r1.1 0) == 0 then
          bif decide (1 < (r1.1.length : Int)) then
            some ((rd 0 r1.1 1) == 1, ())
          else
            none
        else
          some (false, ())
      else
        none
    else
      some (false, ())
  else
    some (false, ())
def f12_sig (k : Nat) : Sig := ⟨[], [.bool], true, fun x => f12 k⟩
noncomputable def E12 (k : Nat) : Env := ⟨Try.prog, tcons 30 (f30_sig k) (tnil), tnil, k⟩
theorem f12_run (k : Nat) (x : (tupT (f12_sig k).pt).den) : runF (E12 k) Try.f12 (f12_sig k).pt (f12_sig k).rt (f12_sig k).own x = (f12_sig k).f x := by kernel_rfl
theorem f12_ok (k : Nat) : FnOK Try.prog 12 (f12_sig k) :=
  fn_ok2 (E := E12 k) (env_cons (f30_ok k) (env_nil)) mixed Try.func12 Try.call12 (by kernel_rfl) (by kernel_rfl) (by kernel_rfl) (m := 0) (by kernel_rfl) trivial (f12_run k)

/-! ### gamehall/knockout.Byes: function 13 -/
def l13_9 (k : Nat) : Nat → (List Int) → (List Int) → Int → Int → Int → Unit → Int → Int → Option (((List Int) × (List Int) × Int × Int × Unit))
  | 0, _, _, _, _, _, _, _, _ => none
  | j + 1, s4, s6, s7, s18, s19, s22, s23, s24 =>
    bif decide (s24 < s23) then
      bif decide (0 ≤ s24) && decide (s24 < (s4.length : Int)) then
        bif (rd 0 s4 s24) == s7 then
          bif decide (0 ≤ (bitsOp .xor .i64 s24 1)) && decide ((bitsOp .xor .i64 s24 1) < (s4.length : Int)) then
            bif decide ((rd 0 s4 (bitsOp .xor .i64 s24 1)) < 0) then
              bif decide ((s6.length + [s7].length) * 8 ≤ roomN) then
                l13_9 k j s4 (s6 ++ [s7]) s7 s18 s19 () s23 (w64 (s24 + 1))
              else
                none
            else
              l13_9 k j s4 s6 s7 s18 s19 () s23 (w64 (s24 + 1))
          else
            none
        else
          l13_9 k j s4 s6 s7 s18 s19 () s23 (w64 (s24 + 1))
      else
        none
    else
      some (s4, s6, s18, s19, ())
noncomputable def l13_9_sig (k : Nat) : LoopSig := ⟨[(4, .row (.int .i64)), (6, .row (.int .i64)), (7, .val (.int .i64)), (18, .val (.int .i64)), (19, .val (.int .i64)), (22, .same 4), (23, .val (.int .i64)), (24, .val (.int .i64))], [(.exit 2, [(4, .row (.int .i64)), (6, .row (.int .i64)), (18, .val (.int .i64)), (19, .val (.int .i64))])], fun j x => l13_9 k j x.1 x.2.1 x.2.2.1 x.2.2.2.1 x.2.2.2.2.1 x.2.2.2.2.2.1 x.2.2.2.2.2.2.1 x.2.2.2.2.2.2.2.1⟩
def l13_6 (k : Nat) : Nat → (List Int) → (List Int) → Int → Int → Option (((List Int) × Unit))
  | 0, _, _, _, _ => none
  | j + 1, s4, s6, s18, s19 =>
    bif decide (s19 < s18) then
      (l13_9 k k s4 s6 s19 s18 s19 () (s4.length : Int) 0).bind fun o1 =>
      l13_6 k j o1.1 o1.2.1 o1.2.2.1 (w64 (o1.2.2.2.1 + 1))
    else
      some (s6, ())
noncomputable def l13_6_sig (k : Nat) : LoopSig := ⟨[(4, .row (.int .i64)), (6, .row (.int .i64)), (18, .val (.int .i64)), (19, .val (.int .i64))], [(.exit 0, [(6, .row (.int .i64))])], fun j x => l13_6 k j x.1 x.2.1 x.2.2.1 x.2.2.2.1⟩
def f13 (k : Nat) (x0 : Int) : Option ((List Int) × Int × Unit) :=
  (f30 k x0).bind fun r1 =>
  bif r1.2.1 != 0 then
    some ([], r1.2)
  else
    (l13_6 k k r1.1 [] x0 0).bind fun o2 =>
    some (o2.1, 0, ())
def f13_sig (k : Nat) : Sig := ⟨[.int .i64], [.sl (.int .i64), .int .i64], true, fun x => f13 k x.1⟩
noncomputable def E13 (k : Nat) : Env := ⟨Try.prog, tcons 30 (f30_sig k) (tnil), tcons 6 (l13_6_sig k) (tcons 9 (l13_9_sig k) (tnil)), k⟩
theorem l13_6_ok (k : Nat) : LoopOK (E13 k) Try.f13.ntmps (nthC 0 (loopsIn (Try.f13.body.getD .skip))) :=
  loop_ok (ls := l13_6_sig k) (by kernel_rfl) (fun _ => by kernel_rfl) (fun j x => by kernel_rfl)
theorem l13_9_ok (k : Nat) : LoopOK (E13 k) Try.f13.ntmps (nthC 1 (loopsIn (Try.f13.body.getD .skip))) :=
  loop_ok (ls := l13_9_sig k) (by kernel_rfl) (fun _ => by kernel_rfl) (fun j x => by kernel_rfl)
theorem f13_run (k : Nat) (x : (tupT (f13_sig k).pt).den) : runF (E13 k) Try.f13 (f13_sig k).pt (f13_sig k).rt (f13_sig k).own x = (f13_sig k).f x := by kernel_rfl
theorem f13_ok (k : Nat) : FnOK Try.prog 13 (f13_sig k) :=
  fn_ok2 (E := E13 k) (env_cons (f30_ok k) (env_nil)) mixed Try.func13 Try.call13 (by kernel_rfl) (by kernel_rfl) (by kernel_rfl) (m := 2) (by kernel_rfl) ⟨⟨trivial, l13_6_ok k⟩, l13_9_ok k⟩ (f13_run k)

/-! ### gamehall/gamehallkeep3.KnockoutByes: function 3 -/
def l3_8 (k : Nat) : Nat → Int → (List Int) → Int → Int → Unit → Int → Int → Option ((Int × (List Int) × Int × Int × Unit) ⊕ (Bool × Unit))
  | 0, _, _, _, _, _, _, _ => none
  | j + 1, s0, s3, s5, s6, s30, s31, s32 =>
    bif decide (s32 < s31) then
      bif decide (0 ≤ s32) && decide (s32 < (s3.length : Int)) then
        bif (rd 0 s3 s32) != s32 then
          some (.inr (false, ()))
        else
          l3_8 k j s0 s3 s5 s6 () s31 (w64 (s32 + 1))
      else
        none
    else
      some (.inl (s0, s3, s5, s6, ()))
noncomputable def l3_8_sig (k : Nat) : LoopSig := ⟨[(0, .val (.int .i64)), (3, .row (.int .i64)), (5, .val (.int .i64)), (6, .val (.int .i64)), (30, .same 3), (31, .val (.int .i64)), (32, .val (.int .i64))], [(.exit 0, [(0, .val (.int .i64)), (3, .row (.int .i64)), (5, .val (.int .i64)), (6, .val (.int .i64))]), (.ret, [(2, .val (.bool))])], fun j x => l3_8 k j x.1 x.2.1 x.2.2.1 x.2.2.2.1 x.2.2.2.2.1 x.2.2.2.2.2.1 x.2.2.2.2.2.2.1⟩
def f3 (k : Nat) (x0 : Int) : Option (Bool × Unit) :=
  (f12 k).bind fun r1 =>
  bif !r1.1 then
    some (false, ())
  else
    (f13 k x0).bind fun r2 =>
    (f14 k x0).bind fun r3 =>
    bif r2.2.1 != 0 then
      bif r2.2.1 == 4 then
        some (r3.2.1 == r2.2.1, ())
      else
        some (false, ())
    else
      (l3_8 k k x0 r2.1 r3.1 r3.2.1 () (r2.1.length : Int) 0).bind fun w1 =>
      Sum.elim
        (fun y5 =>
          bif y5.2.2.2.1 == 0 then
            bif decide (y5.2.2.1 < 0) then
              none
            else
              some ((y5.2.1.length : Int) == (w64 ((w64 (1 * 2 ^ (min y5.2.2.1.toNat 64))) - y5.1)), ())
          else
            some (false, ()))
        (fun y6 =>
          some y6)
        w1
def f3_sig (k : Nat) : Sig := ⟨[.int .i64], [.bool], true, fun x => f3 k x.1⟩
noncomputable def E3 (k : Nat) : Env := ⟨Try.prog, tcons 14 (f14_sig k) (tcons 13 (f13_sig k) (tcons 12 (f12_sig k) (tnil))), tcons 8 (l3_8_sig k) (tnil), k⟩
theorem l3_8_ok (k : Nat) : LoopOK (E3 k) Try.f3.ntmps (nthC 0 (loopsIn (Try.f3.body.getD .skip))) :=
  loop_ok (ls := l3_8_sig k) (by kernel_rfl) (fun _ => by kernel_rfl) (fun j x => by kernel_rfl)
theorem f3_run (k : Nat) (x : (tupT (f3_sig k).pt).den) : runF (E3 k) Try.f3 (f3_sig k).pt (f3_sig k).rt (f3_sig k).own x = (f3_sig k).f x := by kernel_rfl
theorem f3_ok (k : Nat) : FnOK Try.prog 3 (f3_sig k) :=
  fn_ok2 (E := E3 k) (env_cons (f14_ok k) (env_cons (f13_ok k) (env_cons (f12_ok k) (env_nil)))) mixed Try.func3 Try.call3 (by kernel_rfl) (by kernel_rfl) (by kernel_rfl) (m := 1) (by kernel_rfl) ⟨trivial, l3_8_ok k⟩ (f3_run k)
end Go.Proofs.Ytpighccmakogpaa.G
