import Derived.Test.YtpighccmakogpaaDoorVM22
import Derived.Test.YtpighccmakogpaaDoorChecked
namespace Go.Proofs.YtpighccmakogpaaDoor.G
open Go.VM Go.Proofs

abbrev w64 (n : Int) : Int := IntKind.i64.wrap n
theorem mixed : Tryd.prog.follows .mixedOrders = true := by kernel_rfl
def gl0 : List Int := [4, 11, 18, 26, 33, 40, 47, 54, 62, 69, 77, 84, 92, 99, 107, 114, 122, 130, 138, 146, 154, 163, 171, 180, 189, 198, 207, 216, 226, 236, 246, 257, 268, 279, 291, 303, 316, 329, 345, 358, 375, 392]
def G0 : GTab := [⟨0, repT gl0.length (.int .i64), tupI gl0 .i64⟩]

/-! ### gamehall/rating.Expect: function 8 -/
noncomputable def l8_5 (k : Nat) (rec : Int → Option ((Int × Unit))) : Nat → Int → Int → (Int × Int × Int × Int × Int × Int × Int × Int × Int × Int × Int × Int × Int × Int × Int × Int × Int × Int × Int × Int × Int × Int × Int × Int × Int × Int × Int × Int × Int × Int × Int × Int × Int × Int × Int × Int × Int × Int × Int × Int × Int × Int × Unit) → Int → Option ((Int × Unit))
  | 0, _, _, _, _ => none
  | j + 1, s0, s3, s13, s14 =>
    bif decide (s14 < 42) then
      bif s14 == 0 then
        bif decide (s0 ≥ (w64 (100 * s13.1))) then
          l8_5 k rec j s0 (w64 (s3 + 1)) s13 (w64 (s14 + 1))
        else
          l8_5 k rec j s0 s3 s13 (w64 (s14 + 1))
      else
      bif s14 == 1 then
        bif decide (s0 ≥ (w64 (100 * s13.2.1))) then
          l8_5 k rec j s0 (w64 (s3 + 1)) s13 (w64 (s14 + 1))
        else
          l8_5 k rec j s0 s3 s13 (w64 (s14 + 1))
      else
      bif s14 == 2 then
        bif decide (s0 ≥ (w64 (100 * s13.2.2.1))) then
          l8_5 k rec j s0 (w64 (s3 + 1)) s13 (w64 (s14 + 1))
        else
          l8_5 k rec j s0 s3 s13 (w64 (s14 + 1))
      else
      bif s14 == 3 then
        bif decide (s0 ≥ (w64 (100 * s13.2.2.2.1))) then
          l8_5 k rec j s0 (w64 (s3 + 1)) s13 (w64 (s14 + 1))
        else
          l8_5 k rec j s0 s3 s13 (w64 (s14 + 1))
      else
      bif s14 == 4 then
        bif decide (s0 ≥ (w64 (100 * s13.2.2.2.2.1))) then
          l8_5 k rec j s0 (w64 (s3 + 1)) s13 (w64 (s14 + 1))
        else
          l8_5 k rec j s0 s3 s13 (w64 (s14 + 1))
      else
      bif s14 == 5 then
        bif decide (s0 ≥ (w64 (100 * s13.2.2.2.2.2.1))) then
          l8_5 k rec j s0 (w64 (s3 + 1)) s13 (w64 (s14 + 1))
        else
          l8_5 k rec j s0 s3 s13 (w64 (s14 + 1))
      else
      bif s14 == 6 then
        bif decide (s0 ≥ (w64 (100 * s13.2.2.2.2.2.2.1))) then
          l8_5 k rec j s0 (w64 (s3 + 1)) s13 (w64 (s14 + 1))
        else
          l8_5 k rec j s0 s3 s13 (w64 (s14 + 1))
      else
      bif s14 == 7 then
        bif decide (s0 ≥ (w64 (100 * s13.2.2.2.2.2.2.2.1))) then
          l8_5 k rec j s0 (w64 (s3 + 1)) s13 (w64 (s14 + 1))
        else
          l8_5 k rec j s0 s3 s13 (w64 (s14 + 1))
      else
      bif s14 == 8 then
        bif decide (s0 ≥ (w64 (100 * s13.2.2.2.2.2.2.2.2.1))) then
          l8_5 k rec j s0 (w64 (s3 + 1)) s13 (w64 (s14 + 1))
        else
          l8_5 k rec j s0 s3 s13 (w64 (s14 + 1))
      else
      bif s14 == 9 then
        bif decide (s0 ≥ (w64 (100 * s13.2.2.2.2.2.2.2.2.2.1))) then
          l8_5 k rec j s0 (w64 (s3 + 1)) s13 (w64 (s14 + 1))
        else
          l8_5 k rec j s0 s3 s13 (w64 (s14 + 1))
      else
      bif s14 == 10 then
        bif decide (s0 ≥ (w64 (100 * s13.2.2.2.2.2.2.2.2.2.2.1))) then
          l8_5 k rec j s0 (w64 (s3 + 1)) s13 (w64 (s14 + 1))
        else
          l8_5 k rec j s0 s3 s13 (w64 (s14 + 1))
      else
      bif s14 == 11 then
        bif decide (s0 ≥ (w64 (100 * s13.2.2.2.2.2.2.2.2.2.2.2.1))) then
          l8_5 k rec j s0 (w64 (s3 + 1)) s13 (w64 (s14 + 1))
        else
          l8_5 k rec j s0 s3 s13 (w64 (s14 + 1))
      else
      bif s14 == 12 then
        bif decide (s0 ≥ (w64 (100 * s13.2.2.2.2.2.2.2.2.2.2.2.2.1))) then
          l8_5 k rec j s0 (w64 (s3 + 1)) s13 (w64 (s14 + 1))
        else
          l8_5 k rec j s0 s3 s13 (w64 (s14 + 1))
      else
      bif s14 == 13 then
        bif decide (s0 ≥ (w64 (100 * s13.2.2.2.2.2.2.2.2.2.2.2.2.2.1))) then
          l8_5 k rec j s0 (w64 (s3 + 1)) s13 (w64 (s14 + 1))
        else
          l8_5 k rec j s0 s3 s13 (w64 (s14 + 1))
      else
      bif s14 == 14 then
        bif decide (s0 ≥ (w64 (100 * s13.2.2.2.2.2.2.2.2.2.2.2.2.2.2.1))) then
          l8_5 k rec j s0 (w64 (s3 + 1)) s13 (w64 (s14 + 1))
        else
          l8_5 k rec j s0 s3 s13 (w64 (s14 + 1))
      else
      bif s14 == 15 then
        bif decide (s0 ≥ (w64 (100 * s13.2.2.2.2.2.2.2.2.2.2.2.2.2.2.2.1))) then
          l8_5 k rec j s0 (w64 (s3 + 1)) s13 (w64 (s14 + 1))
        else
          l8_5 k rec j s0 s3 s13 (w64 (s14 + 1))
      else
      bif s14 == 16 then
        bif decide (s0 ≥ (w64 (100 * s13.2.2.2.2.2.2.2.2.2.2.2.2.2.2.2.2.1))) then
          l8_5 k rec j s0 (w64 (s3 + 1)) s13 (w64 (s14 + 1))
        else
          l8_5 k rec j s0 s3 s13 (w64 (s14 + 1))
      else
      bif s14 == 17 then
        bif decide (s0 ≥ (w64 (100 * s13.2.2.2.2.2.2.2.2.2.2.2.2.2.2.2.2.2.1))) then
          l8_5 k rec j s0 (w64 (s3 + 1)) s13 (w64 (s14 + 1))
        else
          l8_5 k rec j s0 s3 s13 (w64 (s14 + 1))
      else
      bif s14 == 18 then
        bif decide (s0 ≥ (w64 (100 * s13.2.2.2.2.2.2.2.2.2.2.2.2.2.2.2.2.2.2.1))) then
          l8_5 k rec j s0 (w64 (s3 + 1)) s13 (w64 (s14 + 1))
        else
          l8_5 k rec j s0 s3 s13 (w64 (s14 + 1))
      else
      bif s14 == 19 then
        bif decide (s0 ≥ (w64 (100 * s13.2.2.2.2.2.2.2.2.2.2.2.2.2.2.2.2.2.2.2.1))) then
          l8_5 k rec j s0 (w64 (s3 + 1)) s13 (w64 (s14 + 1))
        else
          l8_5 k rec j s0 s3 s13 (w64 (s14 + 1))
      else
      bif s14 == 20 then
        bif decide (s0 ≥ (w64 (100 * s13.2.2.2.2.2.2.2.2.2.2.2.2.2.2.2.2.2.2.2.2.1))) then
          l8_5 k rec j s0 (w64 (s3 + 1)) s13 (w64 (s14 + 1))
        else
          l8_5 k rec j s0 s3 s13 (w64 (s14 + 1))
      else
      bif s14 == 21 then
        bif decide (s0 ≥ (w64 (100 * s13.2.2.2.2.2.2.2.2.2.2.2.2.2.2.2.2.2.2.2.2.2.1))) then
          l8_5 k rec j s0 (w64 (s3 + 1)) s13 (w64 (s14 + 1))
        else
          l8_5 k rec j s0 s3 s13 (w64 (s14 + 1))
      else
      bif s14 == 22 then
        bif decide (s0 ≥ (w64 (100 * s13.2.2.2.2.2.2.2.2.2.2.2.2.2.2.2.2.2.2.2.2.2.2.1))) then
          l8_5 k rec j s0 (w64 (s3 + 1)) s13 (w64 (s14 + 1))
        else
          l8_5 k rec j s0 s3 s13 (w64 (s14 + 1))
      else
      bif s14 == 23 then
        bif decide (s0 ≥ (w64 (100 * s13.2.2.2.2.2.2.2.2.2.2.2.2.2.2.2.2.2.2.2.2.2.2.2.1))) then
          l8_5 k rec j s0 (w64 (s3 + 1)) s13 (w64 (s14 + 1))
        else
          l8_5 k rec j s0 s3 s13 (w64 (s14 + 1))
      else
      bif s14 == 24 then
        bif decide (s0 ≥ (w64 (100 * s13.2.2.2.2.2.2.2.2.2.2.2.2.2.2.2.2.2.2.2.2.2.2.2.2.1))) then
          l8_5 k rec j s0 (w64 (s3 + 1)) s13 (w64 (s14 + 1))
        else
          l8_5 k rec j s0 s3 s13 (w64 (s14 + 1))
      else
      bif s14 == 25 then
        bif decide (s0 ≥ (w64 (100 * s13.2.2.2.2.2.2.2.2.2.2.2.2.2.2.2.2.2.2.2.2.2.2.2.2.2.1))) then
          l8_5 k rec j s0 (w64 (s3 + 1)) s13 (w64 (s14 + 1))
        else
          l8_5 k rec j s0 s3 s13 (w64 (s14 + 1))
      else
      bif s14 == 26 then
        bif decide (s0 ≥ (w64 (100 * s13.2.2.2.2.2.2.2.2.2.2.2.2.2.2.2.2.2.2.2.2.2.2.2.2.2.2.1))) then
          l8_5 k rec j s0 (w64 (s3 + 1)) s13 (w64 (s14 + 1))
        else
          l8_5 k rec j s0 s3 s13 (w64 (s14 + 1))
      else
      bif s14 == 27 then
        bif decide (s0 ≥ (w64 (100 * s13.2.2.2.2.2.2.2.2.2.2.2.2.2.2.2.2.2.2.2.2.2.2.2.2.2.2.2.1))) then
          l8_5 k rec j s0 (w64 (s3 + 1)) s13 (w64 (s14 + 1))
        else
          l8_5 k rec j s0 s3 s13 (w64 (s14 + 1))
      else
      bif s14 == 28 then
        bif decide (s0 ≥ (w64 (100 * s13.2.2.2.2.2.2.2.2.2.2.2.2.2.2.2.2.2.2.2.2.2.2.2.2.2.2.2.2.1))) then
          l8_5 k rec j s0 (w64 (s3 + 1)) s13 (w64 (s14 + 1))
        else
          l8_5 k rec j s0 s3 s13 (w64 (s14 + 1))
      else
      bif s14 == 29 then
        bif decide (s0 ≥ (w64 (100 * s13.2.2.2.2.2.2.2.2.2.2.2.2.2.2.2.2.2.2.2.2.2.2.2.2.2.2.2.2.2.1))) then
          l8_5 k rec j s0 (w64 (s3 + 1)) s13 (w64 (s14 + 1))
        else
          l8_5 k rec j s0 s3 s13 (w64 (s14 + 1))
      else
      bif s14 == 30 then
        bif decide (s0 ≥ (w64 (100 * s13.2.2.2.2.2.2.2.2.2.2.2.2.2.2.2.2.2.2.2.2.2.2.2.2.2.2.2.2.2.2.1))) then
          l8_5 k rec j s0 (w64 (s3 + 1)) s13 (w64 (s14 + 1))
        else
          l8_5 k rec j s0 s3 s13 (w64 (s14 + 1))
      else
      bif s14 == 31 then
        bif decide (s0 ≥ (w64 (100 * s13.2.2.2.2.2.2.2.2.2.2.2.2.2.2.2.2.2.2.2.2.2.2.2.2.2.2.2.2.2.2.2.1))) then
          l8_5 k rec j s0 (w64 (s3 + 1)) s13 (w64 (s14 + 1))
        else
          l8_5 k rec j s0 s3 s13 (w64 (s14 + 1))
      else
      bif s14 == 32 then
        bif decide (s0 ≥ (w64 (100 * s13.2.2.2.2.2.2.2.2.2.2.2.2.2.2.2.2.2.2.2.2.2.2.2.2.2.2.2.2.2.2.2.2.1))) then
          l8_5 k rec j s0 (w64 (s3 + 1)) s13 (w64 (s14 + 1))
        else
          l8_5 k rec j s0 s3 s13 (w64 (s14 + 1))
      else
      bif s14 == 33 then
        bif decide (s0 ≥ (w64 (100 * s13.2.2.2.2.2.2.2.2.2.2.2.2.2.2.2.2.2.2.2.2.2.2.2.2.2.2.2.2.2.2.2.2.2.1))) then
          l8_5 k rec j s0 (w64 (s3 + 1)) s13 (w64 (s14 + 1))
        else
          l8_5 k rec j s0 s3 s13 (w64 (s14 + 1))
      else
      bif s14 == 34 then
        bif decide (s0 ≥ (w64 (100 * s13.2.2.2.2.2.2.2.2.2.2.2.2.2.2.2.2.2.2.2.2.2.2.2.2.2.2.2.2.2.2.2.2.2.2.1))) then
          l8_5 k rec j s0 (w64 (s3 + 1)) s13 (w64 (s14 + 1))
        else
          l8_5 k rec j s0 s3 s13 (w64 (s14 + 1))
      else
      bif s14 == 35 then
        bif decide (s0 ≥ (w64 (100 * s13.2.2.2.2.2.2.2.2.2.2.2.2.2.2.2.2.2.2.2.2.2.2.2.2.2.2.2.2.2.2.2.2.2.2.2.1))) then
          l8_5 k rec j s0 (w64 (s3 + 1)) s13 (w64 (s14 + 1))
        else
          l8_5 k rec j s0 s3 s13 (w64 (s14 + 1))
      else
      bif s14 == 36 then
        bif decide (s0 ≥ (w64 (100 * s13.2.2.2.2.2.2.2.2.2.2.2.2.2.2.2.2.2.2.2.2.2.2.2.2.2.2.2.2.2.2.2.2.2.2.2.2.1))) then
          l8_5 k rec j s0 (w64 (s3 + 1)) s13 (w64 (s14 + 1))
        else
          l8_5 k rec j s0 s3 s13 (w64 (s14 + 1))
      else
      bif s14 == 37 then
        bif decide (s0 ≥ (w64 (100 * s13.2.2.2.2.2.2.2.2.2.2.2.2.2.2.2.2.2.2.2.2.2.2.2.2.2.2.2.2.2.2.2.2.2.2.2.2.2.1))) then
          l8_5 k rec j s0 (w64 (s3 + 1)) s13 (w64 (s14 + 1))
        else
          l8_5 k rec j s0 s3 s13 (w64 (s14 + 1))
      else
      bif s14 == 38 then
        bif decide (s0 ≥ (w64 (100 * s13.2.2.2.2.2.2.2.2.2.2.2.2.2.2.2.2.2.2.2.2.2.2.2.2.2.2.2.2.2.2.2.2.2.2.2.2.2.2.1))) then
          l8_5 k rec j s0 (w64 (s3 + 1)) s13 (w64 (s14 + 1))
        else
          l8_5 k rec j s0 s3 s13 (w64 (s14 + 1))
      else
      bif s14 == 39 then
        bif decide (s0 ≥ (w64 (100 * s13.2.2.2.2.2.2.2.2.2.2.2.2.2.2.2.2.2.2.2.2.2.2.2.2.2.2.2.2.2.2.2.2.2.2.2.2.2.2.2.1))) then
          l8_5 k rec j s0 (w64 (s3 + 1)) s13 (w64 (s14 + 1))
        else
          l8_5 k rec j s0 s3 s13 (w64 (s14 + 1))
      else
      bif s14 == 40 then
        bif decide (s0 ≥ (w64 (100 * s13.2.2.2.2.2.2.2.2.2.2.2.2.2.2.2.2.2.2.2.2.2.2.2.2.2.2.2.2.2.2.2.2.2.2.2.2.2.2.2.2.1))) then
          l8_5 k rec j s0 (w64 (s3 + 1)) s13 (w64 (s14 + 1))
        else
          l8_5 k rec j s0 s3 s13 (w64 (s14 + 1))
      else
      bif s14 == 41 then
        bif decide (s0 ≥ (w64 (100 * s13.2.2.2.2.2.2.2.2.2.2.2.2.2.2.2.2.2.2.2.2.2.2.2.2.2.2.2.2.2.2.2.2.2.2.2.2.2.2.2.2.2.1))) then
          l8_5 k rec j s0 (w64 (s3 + 1)) s13 (w64 (s14 + 1))
        else
          l8_5 k rec j s0 s3 s13 (w64 (s14 + 1))
      else
        none
    else
      some (s3, ())
noncomputable def f8_body (k : Nat) (rec : Int → Option ((Int × Unit))) (x0 : Int) : Option ((Int × Unit)) :=
  bif decide (x0 < 0) then
    (rec (w64 (0 - (if (-4000000) > x0 then (-4000000) else x0)))).bind fun r1 =>
    some (w64 (100 - r1.1), ())
  else
    (l8_5 k rec k x0 50 (4, 11, 18, 26, 33, 40, 47, 54, 62, 69, 77, 84, 92, 99, 107, 114, 122, 130, 138, 146, 154, 163, 171, 180, 189, 198, 207, 216, 226, 236, 246, 257, 268, 279, 291, 303, 316, 329, 345, 358, 375, 392, ()) 0).bind fun o2 =>
    some o2
noncomputable def f8_at (k : Nat) : Nat → Int → Option ((Int × Unit))
  | 0, _ => none
  | d + 1, x0 => f8_body k (f8_at k d) x0
noncomputable def f8 (k : Nat) (x0 : Int) : Option ((Int × Unit)) := f8_at k k x0
noncomputable def l8_5_sig (k d : Nat) : LoopSig := ⟨[(0, .obj (.val (.int .i64))), (3, .obj (.val (.int .i64))), (13, .obj (.val (.pair (.int .i64) (.pair (.int .i64) (.pair (.int .i64) (.pair (.int .i64) (.pair (.int .i64) (.pair (.int .i64) (.pair (.int .i64) (.pair (.int .i64) (.pair (.int .i64) (.pair (.int .i64) (.pair (.int .i64) (.pair (.int .i64) (.pair (.int .i64) (.pair (.int .i64) (.pair (.int .i64) (.pair (.int .i64) (.pair (.int .i64) (.pair (.int .i64) (.pair (.int .i64) (.pair (.int .i64) (.pair (.int .i64) (.pair (.int .i64) (.pair (.int .i64) (.pair (.int .i64) (.pair (.int .i64) (.pair (.int .i64) (.pair (.int .i64) (.pair (.int .i64) (.pair (.int .i64) (.pair (.int .i64) (.pair (.int .i64) (.pair (.int .i64) (.pair (.int .i64) (.pair (.int .i64) (.pair (.int .i64) (.pair (.int .i64) (.pair (.int .i64) (.pair (.int .i64) (.pair (.int .i64) (.pair (.int .i64) (.pair (.int .i64) (.pair (.int .i64) (.unit))))))))))))))))))))))))))))))))))))))))))))), (14, .obj (.val (.int .i64)))], [(.exit 0, [(3, .obj (.val (.int .i64)))])], fun j x => l8_5 k (f8_at k d) j x.1 x.2.1 x.2.2.1 x.2.2.2.1⟩
noncomputable def f8_sig_at (k d : Nat) : Sig := ⟨[.val (.int .i64)], [], [[.val (.int .i64)]], fun x => f8_at k d x.1⟩
noncomputable def f8_sig (k : Nat) : Sig := ⟨[.val (.int .i64)], [], [[.val (.int .i64)]], fun x => f8 k x.1⟩
noncomputable def E_f8 (k d : Nat) : Env := ⟨Tryd.prog, G0, scons 8 [f8_sig_at k d] (snil), tcons 5 (l8_5_sig k d) (tnil), tnil, unil, k⟩
theorem l8_5_ok (k d : Nat) : LoopOK (E_f8 k d) ⟨Tryd.f8.ntmps, [], G0⟩ (nthC 0 (loopsIn (Tryd.f8.body.getD .skip))) :=
  loop_ok (ls := l8_5_sig k d) (by kernel_rfl) (fun _ => by kernel_rfl) (fun j x => by kernel_rfl)
theorem f8_run (k d : Nat) (x : (lTy (lay 0 (f8_sig_at k (d + 1)).ins)).den) : runF (E_f8 k d) Tryd.f8 (f8_sig_at k (d + 1)) x = (f8_sig_at k (d + 1)).F x := by kernel_rfl
theorem f8_ok_at (k : Nat) : (d : Nat) → FnOK Tryd.prog G0 8 (f8_sig_at k d)
  | 0 => fn_none Tryd.call8 (fun _ => rfl)
  | d + 1 => fn_ok2 (E := E_f8 k d) (env_cons (one_sig (f8_ok_at k d)) (env_nil)) mixed Tryd.func8 Tryd.call8 (by kernel_rfl) (by kernel_rfl) (m := 1) (by kernel_rfl) ⟨trivial, l8_5_ok k d⟩ (sk := []) (by kernel_rfl) trivial (f8_run k d)
theorem f8_ok (k : Nat) : FnOK Tryd.prog G0 8 (f8_sig k) := f8_ok_at k k

/-! ### gamehall/gamehallkeep3.rates: function 6 -/
noncomputable def f6 (k : Nat) : Option ((Bool × Unit)) :=
  (f8 k 0).bind fun r1 =>
  bif r1.1 == 50 then
    (f8 k 400).bind fun r2 =>
    some (r2.1 == 51, ())
  else
    some (false, ())
noncomputable def f6_sig (k : Nat) : Sig := ⟨[], [], [[.val (.bool)]], fun x => f6 k⟩
noncomputable def E_f6 (k : Nat) : Env := ⟨Tryd.prog, G0, scons 8 [f8_sig k] (snil), tnil, tnil, unil, k⟩
theorem f6_run (k : Nat) (x : (lTy (lay 0 (f6_sig k).ins)).den) : runF (E_f6 k) Tryd.f6 (f6_sig k) x = (f6_sig k).F x := by kernel_rfl
theorem f6_ok (k : Nat) : FnOK Tryd.prog G0 6 (f6_sig k) :=
  fn_ok2 (E := E_f6 k) (env_cons (one_sig (f8_ok k)) (env_nil)) mixed Tryd.func6 Tryd.call6 (by kernel_rfl) (by kernel_rfl) (m := 0) (by kernel_rfl) trivial (sk := []) (by kernel_rfl) trivial (f6_run k)

/-! ### gamehall/rating.Check: function 11 -/
noncomputable def l11_4 (k : Nat) : Nat → (List Int) → Int → Int → Option (Unit ⊕ (Int × Unit))
  | 0, _, _, _ => none
  | j + 1, s13, s14, s15 =>
    bif decide (s15 < s14) then
      bif decide (0 ≤ s15) && decide (s15 < (s13.length : Int)) then
        bif decide ((rd (0 : Int) s13 s15) < (-1000000)) then
          some (.inr (4, ()))
        else
        bif decide ((rd (0 : Int) s13 s15) > 1000000) then
          some (.inr (4, ()))
        else
          l11_4 k j s13 s14 (w64 (s15 + 1))
      else
        none
    else
      some (.inl ())
noncomputable def l11_4_sig (k : Nat) : LoopSig := ⟨[(13, .obj (.val (.sl (.int .i64)))), (14, .obj (.val (.int .i64))), (15, .obj (.val (.int .i64)))], [(.exit 0, []), (.ret, [(2, .obj (.val (.int .i64)))])], fun j x => l11_4 k j x.1 x.2.1 x.2.2.1⟩
noncomputable def f11 (k : Nat) (x0 : List Int) : Option ((Int × Unit)) :=
  bif (x0.length : Int) == 0 then
    some (2, ())
  else
  bif decide ((x0.length : Int) > 64) then
    some (2, ())
  else
    (l11_4 k k x0 (x0.length : Int) 0).bind fun w1 =>
    Sum.elim
      (fun y1 =>
        some (0, ()))
      (fun y2 =>
        some y2)
      w1
noncomputable def f11_sig (k : Nat) : Sig := ⟨[.val (.sl (.int .i64))], [], [[.val (.int .i64)]], fun x => f11 k x.1⟩
noncomputable def E_f11 (k : Nat) : Env := ⟨Tryd.prog, G0, snil, tcons 4 (l11_4_sig k) (tnil), tnil, unil, k⟩
theorem l11_4_ok (k : Nat) : LoopOK (E_f11 k) ⟨Tryd.f11.ntmps, [], G0⟩ (nthC 0 (loopsIn (Tryd.f11.body.getD .skip))) :=
  loop_ok (ls := l11_4_sig k) (by kernel_rfl) (fun _ => by kernel_rfl) (fun j x => by kernel_rfl)
theorem f11_run (k : Nat) (x : (lTy (lay 0 (f11_sig k).ins)).den) : runF (E_f11 k) Tryd.f11 (f11_sig k) x = (f11_sig k).F x := by kernel_rfl
theorem f11_ok (k : Nat) : FnOK Tryd.prog G0 11 (f11_sig k) :=
  fn_ok2 (E := E_f11 k) (env_nil) mixed Tryd.func11 Tryd.call11 (by kernel_rfl) (by kernel_rfl) (m := 1) (by kernel_rfl) ⟨trivial, l11_4_ok k⟩ (sk := []) (by kernel_rfl) trivial (f11_run k)

/-! ### gamehall/rating.Change: function 7 -/
noncomputable def f7 (k : Nat) (x0 : Int) (x1 : Int) (x2 : Int) (x3 : Int) : Option ((Int × Int × Unit)) :=
  (f11 k [x0, x1]).bind fun r1 =>
  bif r1.1 != 0 then
    some (0, r1)
  else
  bif decide (x2 < 0) then
    some (0, 1, ())
  else
  bif decide (x2 > 2) then
    some (0, 1, ())
  else
  bif decide (x3 < 1) then
    some (0, 4, ())
  else
  bif decide (x3 > 64) then
    some (0, 4, ())
  else
    (f8 k (w64 (x0 - x1))).bind fun r2 =>
    some (w64 (x3 * (w64 ((w64 (50 * x2)) - r2.1))), 0, ())
noncomputable def f7_sig (k : Nat) : Sig := ⟨[.val (.int .i64), .val (.int .i64), .val (.int .i64), .val (.int .i64)], [], [[.val (.int .i64), .val (.int .i64)]], fun x => f7 k x.1 x.2.1 x.2.2.1 x.2.2.2.1⟩
noncomputable def E_f7 (k : Nat) : Env := ⟨Tryd.prog, G0, scons 11 [f11_sig k] (scons 8 [f8_sig k] (snil)), tnil, tnil, unil, k⟩
theorem f7_run (k : Nat) (x : (lTy (lay 0 (f7_sig k).ins)).den) : runF (E_f7 k) Tryd.f7 (f7_sig k) x = (f7_sig k).F x := by kernel_rfl
theorem f7_ok (k : Nat) : FnOK Tryd.prog G0 7 (f7_sig k) :=
  fn_ok2 (E := E_f7 k) (env_cons (one_sig (f11_ok k)) (env_cons (one_sig (f8_ok k)) (env_nil))) mixed Tryd.func7 Tryd.call7 (by kernel_rfl) (by kernel_rfl) (m := 0) (by kernel_rfl) trivial (sk := []) (by kernel_rfl) trivial (f7_run k)

/-! ### gamehall/gamehallkeep3.RatingTurns: function 3 -/
noncomputable def f3 (k : Nat) (x0 : Int) (x1 : Int) (x2 : Int) (x3 : Int) (x4 : Int) : Option ((Bool × Unit)) :=
  (f6 k).bind fun r1 =>
  bif !r1.1 then
    some (false, ())
  else
    (f7 k x0 x1 x2 x3).bind fun r2 =>
    (f7 k x1 x0 (w64 (2 - (if (if 2 < x2 then 2 else x2) > 0 then if 2 < x2 then 2 else x2 else 0))) x3).bind fun r3 =>
    bif r2.2.1 != 0 then
      some (r2.1 == 0, ())
    else
    bif decide (x4 < (-1099511627776)) then
      bif r3.2.1 == 0 then
        bif r2.1 == (w64 (0 - r3.1)) then
          (f8 k 0).bind fun r4 =>
          (f8 k 0).bind fun r5 =>
          bif (w64 (r4.1 + r5.1)) == 100 then
            (f8 k 0).bind fun r6 =>
            (f8 k 100).bind fun r7 =>
            some (decide (r6.1 ≤ r7.1), ())
          else
            some (false, ())
        else
          some (false, ())
      else
        some (false, ())
    else
    bif decide (x4 > 1099511627776) then
      bif r3.2.1 == 0 then
        bif r2.1 == (w64 (0 - r3.1)) then
          (f8 k 0).bind fun r8 =>
          (f8 k 0).bind fun r9 =>
          bif (w64 (r8.1 + r9.1)) == 100 then
            (f8 k 0).bind fun r10 =>
            (f8 k 100).bind fun r11 =>
            some (decide (r10.1 ≤ r11.1), ())
          else
            some (false, ())
        else
          some (false, ())
      else
        some (false, ())
    else
    bif r3.2.1 == 0 then
      bif r2.1 == (w64 (0 - r3.1)) then
        (f8 k x4).bind fun r12 =>
        (f8 k (w64 (0 - x4))).bind fun r13 =>
        bif (w64 (r12.1 + r13.1)) == 100 then
          (f8 k x4).bind fun r14 =>
          (f8 k (w64 (x4 + 100))).bind fun r15 =>
          some (decide (r14.1 ≤ r15.1), ())
        else
          some (false, ())
      else
        some (false, ())
    else
      some (false, ())
noncomputable def f3_sig (k : Nat) : Sig := ⟨[.val (.int .i64), .val (.int .i64), .val (.int .i64), .val (.int .i64), .val (.int .i64)], [], [[.val (.bool)]], fun x => f3 k x.1 x.2.1 x.2.2.1 x.2.2.2.1 x.2.2.2.2.1⟩
noncomputable def E_f3 (k : Nat) : Env := ⟨Tryd.prog, G0, scons 8 [f8_sig k] (scons 7 [f7_sig k] (scons 6 [f6_sig k] (snil))), tnil, tnil, unil, k⟩
theorem f3_run (k : Nat) (x : (lTy (lay 0 (f3_sig k).ins)).den) : runF (E_f3 k) Tryd.f3 (f3_sig k) x = (f3_sig k).F x := by kernel_rfl
theorem f3_ok (k : Nat) : FnOK Tryd.prog G0 3 (f3_sig k) :=
  fn_ok2 (E := E_f3 k) (env_cons (one_sig (f8_ok k)) (env_cons (one_sig (f7_ok k)) (env_cons (one_sig (f6_ok k)) (env_nil)))) mixed Tryd.func3 Tryd.call3 (by kernel_rfl) (by kernel_rfl) (m := 0) (by kernel_rfl) trivial (sk := []) (by kernel_rfl) trivial (f3_run k)

/-! ### gamehall/rating.Game: function 12 -/
noncomputable def f12 (k : Nat) (x0 : List Int) (x1 : Int × Int × Int × Unit) (x2 : Int) : Option (((List Int) × Int × Unit)) :=
  (f11 k x0).bind fun r1 =>
  bif r1.1 != 0 then
    some ([], r1)
  else
  bif decide ((if x1.2.1 < x1.1 then x1.2.1 else x1.1) < 0) then
    some ([], 3, ())
  else
  bif decide ((if x1.2.1 > x1.1 then x1.2.1 else x1.1) ≥ (x0.length : Int)) then
    some ([], 3, ())
  else
  bif x1.1 == x1.2.1 then
    some ([], 3, ())
  else
  bif decide (0 ≤ x1.1) && decide (x1.1 < (x0.length : Int)) then
    bif decide (0 ≤ x1.2.1) && decide (x1.2.1 < (x0.length : Int)) then
      (f7 k (rd (0 : Int) x0 x1.1) (rd (0 : Int) x0 x1.2.1) x1.2.2.1 x2).bind fun r2 =>
      bif r2.2.1 != 0 then
        some ([], r2.2)
      else
      bif decide (0 ≤ x1.1) && decide (x1.1 < (x0.length : Int)) then
        bif decide (0 ≤ x1.2.1) && decide (x1.2.1 < (x0.length : Int)) then
          bif decide (0 ≤ x1.1) && decide (x1.1 < (x0.length : Int)) then
            bif decide (0 ≤ x1.2.1) && decide (x1.2.1 < (x0.length : Int)) then
              bif decide ((([] : List Int).length + x0.length) * 8 ≤ roomN) then
                bif decide (0 ≤ x1.1) && decide (x1.1 < (([] ++ x0).length : Int)) then
                  bif decide (0 ≤ x1.1) && decide (x1.1 < (([] ++ x0).length : Int)) then
                    bif decide (0 ≤ x1.2.1) && decide (x1.2.1 < ((([] ++ x0).set x1.1.toNat (w64 ((rd (0 : Int) ([] ++ x0) x1.1) + (if (w64 ((rd (0 : Int) x0 x1.2.1) - 1000000)) > (if (w64 ((-1000000) - (rd (0 : Int) x0 x1.1))) > (if (w64 ((rd (0 : Int) x0 x1.2.1) + 1000000)) < (if (w64 (1000000 - (rd (0 : Int) x0 x1.1))) < r2.1 then w64 (1000000 - (rd (0 : Int) x0 x1.1)) else r2.1) then w64 ((rd (0 : Int) x0 x1.2.1) + 1000000) else if (w64 (1000000 - (rd (0 : Int) x0 x1.1))) < r2.1 then w64 (1000000 - (rd (0 : Int) x0 x1.1)) else r2.1) then w64 ((-1000000) - (rd (0 : Int) x0 x1.1)) else if (w64 ((rd (0 : Int) x0 x1.2.1) + 1000000)) < (if (w64 (1000000 - (rd (0 : Int) x0 x1.1))) < r2.1 then w64 (1000000 - (rd (0 : Int) x0 x1.1)) else r2.1) then w64 ((rd (0 : Int) x0 x1.2.1) + 1000000) else if (w64 (1000000 - (rd (0 : Int) x0 x1.1))) < r2.1 then w64 (1000000 - (rd (0 : Int) x0 x1.1)) else r2.1) then w64 ((rd (0 : Int) x0 x1.2.1) - 1000000) else if (w64 ((-1000000) - (rd (0 : Int) x0 x1.1))) > (if (w64 ((rd (0 : Int) x0 x1.2.1) + 1000000)) < (if (w64 (1000000 - (rd (0 : Int) x0 x1.1))) < r2.1 then w64 (1000000 - (rd (0 : Int) x0 x1.1)) else r2.1) then w64 ((rd (0 : Int) x0 x1.2.1) + 1000000) else if (w64 (1000000 - (rd (0 : Int) x0 x1.1))) < r2.1 then w64 (1000000 - (rd (0 : Int) x0 x1.1)) else r2.1) then w64 ((-1000000) - (rd (0 : Int) x0 x1.1)) else if (w64 ((rd (0 : Int) x0 x1.2.1) + 1000000)) < (if (w64 (1000000 - (rd (0 : Int) x0 x1.1))) < r2.1 then w64 (1000000 - (rd (0 : Int) x0 x1.1)) else r2.1) then w64 ((rd (0 : Int) x0 x1.2.1) + 1000000) else if (w64 (1000000 - (rd (0 : Int) x0 x1.1))) < r2.1 then w64 (1000000 - (rd (0 : Int) x0 x1.1)) else r2.1)))).length : Int)) then
                      bif decide (0 ≤ x1.2.1) && decide (x1.2.1 < ((([] ++ x0).set x1.1.toNat (w64 ((rd (0 : Int) ([] ++ x0) x1.1) + (if (w64 ((rd (0 : Int) x0 x1.2.1) - 1000000)) > (if (w64 ((-1000000) - (rd (0 : Int) x0 x1.1))) > (if (w64 ((rd (0 : Int) x0 x1.2.1) + 1000000)) < (if (w64 (1000000 - (rd (0 : Int) x0 x1.1))) < r2.1 then w64 (1000000 - (rd (0 : Int) x0 x1.1)) else r2.1) then w64 ((rd (0 : Int) x0 x1.2.1) + 1000000) else if (w64 (1000000 - (rd (0 : Int) x0 x1.1))) < r2.1 then w64 (1000000 - (rd (0 : Int) x0 x1.1)) else r2.1) then w64 ((-1000000) - (rd (0 : Int) x0 x1.1)) else if (w64 ((rd (0 : Int) x0 x1.2.1) + 1000000)) < (if (w64 (1000000 - (rd (0 : Int) x0 x1.1))) < r2.1 then w64 (1000000 - (rd (0 : Int) x0 x1.1)) else r2.1) then w64 ((rd (0 : Int) x0 x1.2.1) + 1000000) else if (w64 (1000000 - (rd (0 : Int) x0 x1.1))) < r2.1 then w64 (1000000 - (rd (0 : Int) x0 x1.1)) else r2.1) then w64 ((rd (0 : Int) x0 x1.2.1) - 1000000) else if (w64 ((-1000000) - (rd (0 : Int) x0 x1.1))) > (if (w64 ((rd (0 : Int) x0 x1.2.1) + 1000000)) < (if (w64 (1000000 - (rd (0 : Int) x0 x1.1))) < r2.1 then w64 (1000000 - (rd (0 : Int) x0 x1.1)) else r2.1) then w64 ((rd (0 : Int) x0 x1.2.1) + 1000000) else if (w64 (1000000 - (rd (0 : Int) x0 x1.1))) < r2.1 then w64 (1000000 - (rd (0 : Int) x0 x1.1)) else r2.1) then w64 ((-1000000) - (rd (0 : Int) x0 x1.1)) else if (w64 ((rd (0 : Int) x0 x1.2.1) + 1000000)) < (if (w64 (1000000 - (rd (0 : Int) x0 x1.1))) < r2.1 then w64 (1000000 - (rd (0 : Int) x0 x1.1)) else r2.1) then w64 ((rd (0 : Int) x0 x1.2.1) + 1000000) else if (w64 (1000000 - (rd (0 : Int) x0 x1.1))) < r2.1 then w64 (1000000 - (rd (0 : Int) x0 x1.1)) else r2.1)))).length : Int)) then
                        some ((([] ++ x0).set x1.1.toNat (w64 ((rd (0 : Int) ([] ++ x0) x1.1) + (if (w64 ((rd (0 : Int) x0 x1.2.1) - 1000000)) > (if (w64 ((-1000000) - (rd (0 : Int) x0 x1.1))) > (if (w64 ((rd (0 : Int) x0 x1.2.1) + 1000000)) < (if (w64 (1000000 - (rd (0 : Int) x0 x1.1))) < r2.1 then w64 (1000000 - (rd (0 : Int) x0 x1.1)) else r2.1) then w64 ((rd (0 : Int) x0 x1.2.1) + 1000000) else if (w64 (1000000 - (rd (0 : Int) x0 x1.1))) < r2.1 then w64 (1000000 - (rd (0 : Int) x0 x1.1)) else r2.1) then w64 ((-1000000) - (rd (0 : Int) x0 x1.1)) else if (w64 ((rd (0 : Int) x0 x1.2.1) + 1000000)) < (if (w64 (1000000 - (rd (0 : Int) x0 x1.1))) < r2.1 then w64 (1000000 - (rd (0 : Int) x0 x1.1)) else r2.1) then w64 ((rd (0 : Int) x0 x1.2.1) + 1000000) else if (w64 (1000000 - (rd (0 : Int) x0 x1.1))) < r2.1 then w64 (1000000 - (rd (0 : Int) x0 x1.1)) else r2.1) then w64 ((rd (0 : Int) x0 x1.2.1) - 1000000) else if (w64 ((-1000000) - (rd (0 : Int) x0 x1.1))) > (if (w64 ((rd (0 : Int) x0 x1.2.1) + 1000000)) < (if (w64 (1000000 - (rd (0 : Int) x0 x1.1))) < r2.1 then w64 (1000000 - (rd (0 : Int) x0 x1.1)) else r2.1) then w64 ((rd (0 : Int) x0 x1.2.1) + 1000000) else if (w64 (1000000 - (rd (0 : Int) x0 x1.1))) < r2.1 then w64 (1000000 - (rd (0 : Int) x0 x1.1)) else r2.1) then w64 ((-1000000) - (rd (0 : Int) x0 x1.1)) else if (w64 ((rd (0 : Int) x0 x1.2.1) + 1000000)) < (if (w64 (1000000 - (rd (0 : Int) x0 x1.1))) < r2.1 then w64 (1000000 - (rd (0 : Int) x0 x1.1)) else r2.1) then w64 ((rd (0 : Int) x0 x1.2.1) + 1000000) else if (w64 (1000000 - (rd (0 : Int) x0 x1.1))) < r2.1 then w64 (1000000 - (rd (0 : Int) x0 x1.1)) else r2.1)))).set x1.2.1.toNat (w64 ((rd (0 : Int) (([] ++ x0).set x1.1.toNat (w64 ((rd (0 : Int) ([] ++ x0) x1.1) + (if (w64 ((rd (0 : Int) x0 x1.2.1) - 1000000)) > (if (w64 ((-1000000) - (rd (0 : Int) x0 x1.1))) > (if (w64 ((rd (0 : Int) x0 x1.2.1) + 1000000)) < (if (w64 (1000000 - (rd (0 : Int) x0 x1.1))) < r2.1 then w64 (1000000 - (rd (0 : Int) x0 x1.1)) else r2.1) then w64 ((rd (0 : Int) x0 x1.2.1) + 1000000) else if (w64 (1000000 - (rd (0 : Int) x0 x1.1))) < r2.1 then w64 (1000000 - (rd (0 : Int) x0 x1.1)) else r2.1) then w64 ((-1000000) - (rd (0 : Int) x0 x1.1)) else if (w64 ((rd (0 : Int) x0 x1.2.1) + 1000000)) < (if (w64 (1000000 - (rd (0 : Int) x0 x1.1))) < r2.1 then w64 (1000000 - (rd (0 : Int) x0 x1.1)) else r2.1) then w64 ((rd (0 : Int) x0 x1.2.1) + 1000000) else if (w64 (1000000 - (rd (0 : Int) x0 x1.1))) < r2.1 then w64 (1000000 - (rd (0 : Int) x0 x1.1)) else r2.1) then w64 ((rd (0 : Int) x0 x1.2.1) - 1000000) else if (w64 ((-1000000) - (rd (0 : Int) x0 x1.1))) > (if (w64 ((rd (0 : Int) x0 x1.2.1) + 1000000)) < (if (w64 (1000000 - (rd (0 : Int) x0 x1.1))) < r2.1 then w64 (1000000 - (rd (0 : Int) x0 x1.1)) else r2.1) then w64 ((rd (0 : Int) x0 x1.2.1) + 1000000) else if (w64 (1000000 - (rd (0 : Int) x0 x1.1))) < r2.1 then w64 (1000000 - (rd (0 : Int) x0 x1.1)) else r2.1) then w64 ((-1000000) - (rd (0 : Int) x0 x1.1)) else if (w64 ((rd (0 : Int) x0 x1.2.1) + 1000000)) < (if (w64 (1000000 - (rd (0 : Int) x0 x1.1))) < r2.1 then w64 (1000000 - (rd (0 : Int) x0 x1.1)) else r2.1) then w64 ((rd (0 : Int) x0 x1.2.1) + 1000000) else if (w64 (1000000 - (rd (0 : Int) x0 x1.1))) < r2.1 then w64 (1000000 - (rd (0 : Int) x0 x1.1)) else r2.1)))) x1.2.1) - (if (w64 ((rd (0 : Int) x0 x1.2.1) - 1000000)) > (if (w64 ((-1000000) - (rd (0 : Int) x0 x1.1))) > (if (w64 ((rd (0 : Int) x0 x1.2.1) + 1000000)) < (if (w64 (1000000 - (rd (0 : Int) x0 x1.1))) < r2.1 then w64 (1000000 - (rd (0 : Int) x0 x1.1)) else r2.1) then w64 ((rd (0 : Int) x0 x1.2.1) + 1000000) else if (w64 (1000000 - (rd (0 : Int) x0 x1.1))) < r2.1 then w64 (1000000 - (rd (0 : Int) x0 x1.1)) else r2.1) then w64 ((-1000000) - (rd (0 : Int) x0 x1.1)) else if (w64 ((rd (0 : Int) x0 x1.2.1) + 1000000)) < (if (w64 (1000000 - (rd (0 : Int) x0 x1.1))) < r2.1 then w64 (1000000 - (rd (0 : Int) x0 x1.1)) else r2.1) then w64 ((rd (0 : Int) x0 x1.2.1) + 1000000) else if (w64 (1000000 - (rd (0 : Int) x0 x1.1))) < r2.1 then w64 (1000000 - (rd (0 : Int) x0 x1.1)) else r2.1) then w64 ((rd (0 : Int) x0 x1.2.1) - 1000000) else if (w64 ((-1000000) - (rd (0 : Int) x0 x1.1))) > (if (w64 ((rd (0 : Int) x0 x1.2.1) + 1000000)) < (if (w64 (1000000 - (rd (0 : Int) x0 x1.1))) < r2.1 then w64 (1000000 - (rd (0 : Int) x0 x1.1)) else r2.1) then w64 ((rd (0 : Int) x0 x1.2.1) + 1000000) else if (w64 (1000000 - (rd (0 : Int) x0 x1.1))) < r2.1 then w64 (1000000 - (rd (0 : Int) x0 x1.1)) else r2.1) then w64 ((-1000000) - (rd (0 : Int) x0 x1.1)) else if (w64 ((rd (0 : Int) x0 x1.2.1) + 1000000)) < (if (w64 (1000000 - (rd (0 : Int) x0 x1.1))) < r2.1 then w64 (1000000 - (rd (0 : Int) x0 x1.1)) else r2.1) then w64 ((rd (0 : Int) x0 x1.2.1) + 1000000) else if (w64 (1000000 - (rd (0 : Int) x0 x1.1))) < r2.1 then w64 (1000000 - (rd (0 : Int) x0 x1.1)) else r2.1))), 0, ())
                      else
                        none
                    else
                      none
                  else
                    none
                else
                  none
              else
                none
            else
              none
          else
            none
        else
          none
      else
        none
    else
      none
  else
    none
noncomputable def f12_sig (k : Nat) : Sig := ⟨[.val (.sl (.int .i64)), .val (.pair (.int .i64) (.pair (.int .i64) (.pair (.int .i64) (.unit)))), .val (.int .i64)], [], [[.row (.int .i64), .val (.int .i64)]], fun x => f12 k x.1 x.2.1 x.2.2.1⟩
noncomputable def E_f12 (k : Nat) : Env := ⟨Tryd.prog, G0, scons 11 [f11_sig k] (scons 7 [f7_sig k] (snil)), tnil, tnil, unil, k⟩
theorem f12_run (k : Nat) (x : (lTy (lay 0 (f12_sig k).ins)).den) : runF (E_f12 k) Tryd.f12 (f12_sig k) x = (f12_sig k).F x := by kernel_rfl
theorem f12_ok (k : Nat) : FnOK Tryd.prog G0 12 (f12_sig k) :=
  fn_ok2 (E := E_f12 k) (env_cons (one_sig (f11_ok k)) (env_cons (one_sig (f7_ok k)) (env_nil))) mixed Tryd.func12 Tryd.call12 (by kernel_rfl) (by kernel_rfl) (m := 0) (by kernel_rfl) trivial (sk := []) (by kernel_rfl) trivial (f12_run k)

/-! ### gamehall/rating.All: function 9 -/
noncomputable def l9_8 (k : Nat) : Nat → Int → (List Int) → (List (Int × Int × Int × Unit)) → Int → Int → Option (((List Int) × Unit) ⊕ ((List Int) × Int × Unit))
  | 0, _, _, _, _, _ => none
  | j + 1, s2, s9, s25, s26, s27 =>
    bif decide (s27 < s26) then
      bif decide (0 ≤ s27) && decide (s27 < (s25.length : Int)) then
        (f12 k s9 (rd ((0, 0, 0, ()) : Int × Int × Int × Unit) s25 s27) s2).bind fun r1 =>
        bif r1.2.1 != 0 then
          some (.inr ([], r1.2))
        else
          l9_8 k j s2 r1.1 s25 s26 (w64 (s27 + 1))
      else
        none
    else
      some (.inl (s9, ()))
noncomputable def l9_8_sig (k : Nat) : LoopSig := ⟨[(2, .obj (.val (.int .i64))), (9, .obj (.row (.int .i64))), (25, .obj (.val (.sl (.pair (.int .i64) (.pair (.int .i64) (.pair (.int .i64) (.unit))))))), (26, .obj (.val (.int .i64))), (27, .obj (.val (.int .i64)))], [(.exit 0, [(9, .obj (.row (.int .i64)))]), (.ret, [(6, .obj (.row (.int .i64))), (7, .obj (.val (.int .i64)))])], fun j x => l9_8 k j x.1 x.2.1 x.2.2.1 x.2.2.2.1 x.2.2.2.2.1⟩
noncomputable def f9 (k : Nat) (x0 : List Int) (x1 : List (Int × Int × Int × Unit)) (x2 : Int) : Option (((List Int) × Int × Unit)) :=
  (f11 k x0).bind fun r1 =>
  bif r1.1 != 0 then
    some ([], r1)
  else
  bif decide ((x1.length : Int) > 256) then
    some ([], 2, ())
  else
  bif decide ((([] : List Int).length + x0.length) * 8 ≤ roomN) then
    (l9_8 k k x2 ([] ++ x0) x1 (x1.length : Int) 0).bind fun w2 =>
    Sum.elim
      (fun y2 =>
        some (y2.1, 0, ()))
      (fun y3 =>
        some y3)
      w2
  else
    none
noncomputable def f9_sig (k : Nat) : Sig := ⟨[.val (.sl (.int .i64)), .val (.sl (.pair (.int .i64) (.pair (.int .i64) (.pair (.int .i64) (.unit))))), .val (.int .i64)], [], [[.row (.int .i64), .val (.int .i64)]], fun x => f9 k x.1 x.2.1 x.2.2.1⟩
noncomputable def E_f9 (k : Nat) : Env := ⟨Tryd.prog, G0, scons 12 [f12_sig k] (scons 11 [f11_sig k] (snil)), tcons 8 (l9_8_sig k) (tnil), tnil, unil, k⟩
theorem l9_8_ok (k : Nat) : LoopOK (E_f9 k) ⟨Tryd.f9.ntmps, [], G0⟩ (nthC 0 (loopsIn (Tryd.f9.body.getD .skip))) :=
  loop_ok (ls := l9_8_sig k) (by kernel_rfl) (fun _ => by kernel_rfl) (fun j x => by kernel_rfl)
theorem f9_run (k : Nat) (x : (lTy (lay 0 (f9_sig k).ins)).den) : runF (E_f9 k) Tryd.f9 (f9_sig k) x = (f9_sig k).F x := by kernel_rfl
theorem f9_ok (k : Nat) : FnOK Tryd.prog G0 9 (f9_sig k) :=
  fn_ok2 (E := E_f9 k) (env_cons (one_sig (f12_ok k)) (env_cons (one_sig (f11_ok k)) (env_nil))) mixed Tryd.func9 Tryd.call9 (by kernel_rfl) (by kernel_rfl) (m := 1) (by kernel_rfl) ⟨trivial, l9_8_ok k⟩ (sk := []) (by kernel_rfl) trivial (f9_run k)

/-! ### gamehall/gamehallkeep3.RatingParts: function 4 -/
noncomputable def l4_13 (k : Nat) : Nat → (List Int) → Int → (List Int) → Int → Int → Int → Option ((Int × Int × Unit) ⊕ (Bool × Unit))
  | 0, _, _, _, _, _, _ => none
  | j + 1, s9, s10, s13, s14, s74, s75 =>
    bif decide (s75 < s74) then
      bif decide (0 ≤ s75) && decide (s75 < (s9.length : Int)) then
        bif decide (0 ≤ s75) && decide (s75 < (s13.length : Int)) then
          bif (rd (0 : Int) s9 s75) != (rd (0 : Int) s13 s75) then
            some (.inr (false, ()))
          else
            l4_13 k j s9 s10 s13 s14 s74 (w64 (s75 + 1))
        else
          none
      else
        none
    else
      some (.inl (s10, s14, ()))
noncomputable def l4_13_sig (k : Nat) : LoopSig := ⟨[(9, .obj (.row (.int .i64))), (10, .obj (.val (.int .i64))), (13, .obj (.row (.int .i64))), (14, .obj (.val (.int .i64))), (74, .obj (.val (.int .i64))), (75, .obj (.val (.int .i64)))], [(.exit 0, [(10, .obj (.val (.int .i64))), (14, .obj (.val (.int .i64)))]), (.ret, [(8, .obj (.val (.bool)))])], fun j x => l4_13 k j x.1 x.2.1 x.2.2.1 x.2.2.2.1 x.2.2.2.2.1 x.2.2.2.2.2.1⟩
noncomputable def f4 (k : Nat) (x0 : List Int) (x1 : List (Int × Int × Int × Unit)) (x2 : Int) (x3 : Int) : Option ((Bool × Unit)) :=
  (f6 k).bind fun r1 =>
  bif !r1.1 then
    some (false, ())
  else
  bif decide (0 ≤ (if 64 < (x0.length : Int) then 64 else (x0.length : Int))) && decide ((if 64 < (x0.length : Int) then 64 else (x0.length : Int)) ≤ (x0.length : Int)) then
    bif decide (0 ≤ (if 60 < (x1.length : Int) then 60 else (x1.length : Int))) && decide ((if 60 < (x1.length : Int) then 60 else (x1.length : Int)) ≤ (x1.length : Int)) then
      (f9 k (sliceOf x0 0 (if 64 < (x0.length : Int) then 64 else (x0.length : Int))) (sliceOf x1 0 (if 60 < (x1.length : Int) then 60 else (x1.length : Int))) x2).bind fun r2 =>
      bif decide (0 ≤ (if (if ((sliceOf x1 0 (if 60 < (x1.length : Int) then 60 else (x1.length : Int))).length : Int) < x3 then ((sliceOf x1 0 (if 60 < (x1.length : Int) then 60 else (x1.length : Int))).length : Int) else x3) > 0 then if ((sliceOf x1 0 (if 60 < (x1.length : Int) then 60 else (x1.length : Int))).length : Int) < x3 then ((sliceOf x1 0 (if 60 < (x1.length : Int) then 60 else (x1.length : Int))).length : Int) else x3 else 0)) && decide ((if (if ((sliceOf x1 0 (if 60 < (x1.length : Int) then 60 else (x1.length : Int))).length : Int) < x3 then ((sliceOf x1 0 (if 60 < (x1.length : Int) then 60 else (x1.length : Int))).length : Int) else x3) > 0 then if ((sliceOf x1 0 (if 60 < (x1.length : Int) then 60 else (x1.length : Int))).length : Int) < x3 then ((sliceOf x1 0 (if 60 < (x1.length : Int) then 60 else (x1.length : Int))).length : Int) else x3 else 0) ≤ ((sliceOf x1 0 (if 60 < (x1.length : Int) then 60 else (x1.length : Int))).length : Int)) then
        (f9 k (sliceOf x0 0 (if 64 < (x0.length : Int) then 64 else (x0.length : Int))) (sliceOf (sliceOf x1 0 (if 60 < (x1.length : Int) then 60 else (x1.length : Int))) 0 (if (if ((sliceOf x1 0 (if 60 < (x1.length : Int) then 60 else (x1.length : Int))).length : Int) < x3 then ((sliceOf x1 0 (if 60 < (x1.length : Int) then 60 else (x1.length : Int))).length : Int) else x3) > 0 then if ((sliceOf x1 0 (if 60 < (x1.length : Int) then 60 else (x1.length : Int))).length : Int) < x3 then ((sliceOf x1 0 (if 60 < (x1.length : Int) then 60 else (x1.length : Int))).length : Int) else x3 else 0)) x2).bind fun r3 =>
        bif r3.2.1 != 0 then
          bif r2.2.1 == r3.2.1 then
            some ((r2.1.length : Int) == 0, ())
          else
            some (false, ())
        else
        bif decide (0 ≤ (if (if ((sliceOf x1 0 (if 60 < (x1.length : Int) then 60 else (x1.length : Int))).length : Int) < x3 then ((sliceOf x1 0 (if 60 < (x1.length : Int) then 60 else (x1.length : Int))).length : Int) else x3) > 0 then if ((sliceOf x1 0 (if 60 < (x1.length : Int) then 60 else (x1.length : Int))).length : Int) < x3 then ((sliceOf x1 0 (if 60 < (x1.length : Int) then 60 else (x1.length : Int))).length : Int) else x3 else 0)) && (decide ((if (if ((sliceOf x1 0 (if 60 < (x1.length : Int) then 60 else (x1.length : Int))).length : Int) < x3 then ((sliceOf x1 0 (if 60 < (x1.length : Int) then 60 else (x1.length : Int))).length : Int) else x3) > 0 then if ((sliceOf x1 0 (if 60 < (x1.length : Int) then 60 else (x1.length : Int))).length : Int) < x3 then ((sliceOf x1 0 (if 60 < (x1.length : Int) then 60 else (x1.length : Int))).length : Int) else x3 else 0) ≤ ((sliceOf x1 0 (if 60 < (x1.length : Int) then 60 else (x1.length : Int))).length : Int)) && decide (((sliceOf x1 0 (if 60 < (x1.length : Int) then 60 else (x1.length : Int))).length : Int) ≤ ((sliceOf x1 0 (if 60 < (x1.length : Int) then 60 else (x1.length : Int))).length : Int))) then
          (f9 k r3.1 (sliceOf (sliceOf x1 0 (if 60 < (x1.length : Int) then 60 else (x1.length : Int))) (if (if ((sliceOf x1 0 (if 60 < (x1.length : Int) then 60 else (x1.length : Int))).length : Int) < x3 then ((sliceOf x1 0 (if 60 < (x1.length : Int) then 60 else (x1.length : Int))).length : Int) else x3) > 0 then if ((sliceOf x1 0 (if 60 < (x1.length : Int) then 60 else (x1.length : Int))).length : Int) < x3 then ((sliceOf x1 0 (if 60 < (x1.length : Int) then 60 else (x1.length : Int))).length : Int) else x3 else 0) ((sliceOf x1 0 (if 60 < (x1.length : Int) then 60 else (x1.length : Int))).length : Int)) x2).bind fun r4 =>
          bif (r2.1.length : Int) != (r4.1.length : Int) then
            some (false, ())
          else
            (l4_13 k k r2.1 r2.2.1 r4.1 r4.2.1 (r2.1.length : Int) 0).bind fun w3 =>
            Sum.elim
              (fun y5 =>
                some (y5.1 == y5.2.1, ()))
              (fun y6 =>
                some y6)
              w3
        else
          none
      else
        none
    else
      none
  else
    none
noncomputable def f4_sig (k : Nat) : Sig := ⟨[.val (.sl (.int .i64)), .val (.sl (.pair (.int .i64) (.pair (.int .i64) (.pair (.int .i64) (.unit))))), .val (.int .i64), .val (.int .i64)], [], [[.val (.bool)]], fun x => f4 k x.1 x.2.1 x.2.2.1 x.2.2.2.1⟩
noncomputable def E_f4 (k : Nat) : Env := ⟨Tryd.prog, G0, scons 9 [f9_sig k] (scons 6 [f6_sig k] (snil)), tcons 13 (l4_13_sig k) (tnil), tnil, unil, k⟩
theorem l4_13_ok (k : Nat) : LoopOK (E_f4 k) ⟨Tryd.f4.ntmps, [], G0⟩ (nthC 0 (loopsIn (Tryd.f4.body.getD .skip))) :=
  loop_ok (ls := l4_13_sig k) (by kernel_rfl) (fun _ => by kernel_rfl) (fun j x => by kernel_rfl)
theorem f4_run (k : Nat) (x : (lTy (lay 0 (f4_sig k).ins)).den) : runF (E_f4 k) Tryd.f4 (f4_sig k) x = (f4_sig k).F x := by kernel_rfl
theorem f4_ok (k : Nat) : FnOK Tryd.prog G0 4 (f4_sig k) :=
  fn_ok2 (E := E_f4 k) (env_cons (one_sig (f9_ok k)) (env_cons (one_sig (f6_ok k)) (env_nil))) mixed Tryd.func4 Tryd.call4 (by kernel_rfl) (by kernel_rfl) (m := 1) (by kernel_rfl) ⟨trivial, l4_13_ok k⟩ (sk := []) (by kernel_rfl) trivial (f4_run k)

/-! ### gamehall/rating.Period: function 10 -/
noncomputable def l10_8 (k : Nat) : Nat → (List Int) → Int → (List Int) → (List (Int × Int × Int × Unit)) → Int → Int → Option (((List Int) × Unit) ⊕ ((List Int) × Int × Unit))
  | 0, _, _, _, _, _, _ => none
  | j + 1, s0, s2, s9, s26, s27, s28 =>
    bif decide (s28 < s27) then
      bif decide (0 ≤ s28) && decide (s28 < (s26.length : Int)) then
        bif decide ((if (rd ((0, 0, 0, ()) : Int × Int × Int × Unit) s26 s28).2.1 < (rd ((0, 0, 0, ()) : Int × Int × Int × Unit) s26 s28).1 then (rd ((0, 0, 0, ()) : Int × Int × Int × Unit) s26 s28).2.1 else (rd ((0, 0, 0, ()) : Int × Int × Int × Unit) s26 s28).1) < 0) then
          some (.inr ([], 3, ()))
        else
        bif decide ((if (rd ((0, 0, 0, ()) : Int × Int × Int × Unit) s26 s28).2.1 > (rd ((0, 0, 0, ()) : Int × Int × Int × Unit) s26 s28).1 then (rd ((0, 0, 0, ()) : Int × Int × Int × Unit) s26 s28).2.1 else (rd ((0, 0, 0, ()) : Int × Int × Int × Unit) s26 s28).1) ≥ (s0.length : Int)) then
          some (.inr ([], 3, ()))
        else
        bif (rd ((0, 0, 0, ()) : Int × Int × Int × Unit) s26 s28).1 == (rd ((0, 0, 0, ()) : Int × Int × Int × Unit) s26 s28).2.1 then
          some (.inr ([], 3, ()))
        else
        bif decide (0 ≤ (rd ((0, 0, 0, ()) : Int × Int × Int × Unit) s26 s28).1) && decide ((rd ((0, 0, 0, ()) : Int × Int × Int × Unit) s26 s28).1 < (s0.length : Int)) then
          bif decide (0 ≤ (rd ((0, 0, 0, ()) : Int × Int × Int × Unit) s26 s28).2.1) && decide ((rd ((0, 0, 0, ()) : Int × Int × Int × Unit) s26 s28).2.1 < (s0.length : Int)) then
            (f7 k (rd (0 : Int) s0 (rd ((0, 0, 0, ()) : Int × Int × Int × Unit) s26 s28).1) (rd (0 : Int) s0 (rd ((0, 0, 0, ()) : Int × Int × Int × Unit) s26 s28).2.1) (rd ((0, 0, 0, ()) : Int × Int × Int × Unit) s26 s28).2.2.1 s2).bind fun r1 =>
            bif r1.2.1 != 0 then
              some (.inr ([], r1.2))
            else
            bif decide (0 ≤ (rd ((0, 0, 0, ()) : Int × Int × Int × Unit) s26 s28).1) && decide ((rd ((0, 0, 0, ()) : Int × Int × Int × Unit) s26 s28).1 < (s9.length : Int)) then
              bif decide (0 ≤ (rd ((0, 0, 0, ()) : Int × Int × Int × Unit) s26 s28).1) && decide ((rd ((0, 0, 0, ()) : Int × Int × Int × Unit) s26 s28).1 < (s9.length : Int)) then
                bif decide (0 ≤ (rd ((0, 0, 0, ()) : Int × Int × Int × Unit) s26 s28).2.1) && decide ((rd ((0, 0, 0, ()) : Int × Int × Int × Unit) s26 s28).2.1 < ((s9.set (rd ((0, 0, 0, ()) : Int × Int × Int × Unit) s26 s28).1.toNat (w64 ((rd (0 : Int) s9 (rd ((0, 0, 0, ()) : Int × Int × Int × Unit) s26 s28).1) + r1.1))).length : Int)) then
                  bif decide (0 ≤ (rd ((0, 0, 0, ()) : Int × Int × Int × Unit) s26 s28).2.1) && decide ((rd ((0, 0, 0, ()) : Int × Int × Int × Unit) s26 s28).2.1 < ((s9.set (rd ((0, 0, 0, ()) : Int × Int × Int × Unit) s26 s28).1.toNat (w64 ((rd (0 : Int) s9 (rd ((0, 0, 0, ()) : Int × Int × Int × Unit) s26 s28).1) + r1.1))).length : Int)) then
                    l10_8 k j s0 s2 ((s9.set (rd ((0, 0, 0, ()) : Int × Int × Int × Unit) s26 s28).1.toNat (w64 ((rd (0 : Int) s9 (rd ((0, 0, 0, ()) : Int × Int × Int × Unit) s26 s28).1) + r1.1))).set (rd ((0, 0, 0, ()) : Int × Int × Int × Unit) s26 s28).2.1.toNat (w64 ((rd (0 : Int) (s9.set (rd ((0, 0, 0, ()) : Int × Int × Int × Unit) s26 s28).1.toNat (w64 ((rd (0 : Int) s9 (rd ((0, 0, 0, ()) : Int × Int × Int × Unit) s26 s28).1) + r1.1))) (rd ((0, 0, 0, ()) : Int × Int × Int × Unit) s26 s28).2.1) - r1.1))) s26 s27 (w64 (s28 + 1))
                  else
                    none
                else
                  none
              else
                none
            else
              none
          else
            none
        else
          none
      else
        none
    else
      some (.inl (s9, ()))
noncomputable def l10_8_sig (k : Nat) : LoopSig := ⟨[(0, .obj (.val (.sl (.int .i64)))), (2, .obj (.val (.int .i64))), (9, .obj (.row (.int .i64))), (26, .obj (.val (.sl (.pair (.int .i64) (.pair (.int .i64) (.pair (.int .i64) (.unit))))))), (27, .obj (.val (.int .i64))), (28, .obj (.val (.int .i64)))], [(.exit 0, [(9, .obj (.row (.int .i64)))]), (.ret, [(6, .obj (.row (.int .i64))), (7, .obj (.val (.int .i64)))])], fun j x => l10_8 k j x.1 x.2.1 x.2.2.1 x.2.2.2.1 x.2.2.2.2.1 x.2.2.2.2.2.1⟩
noncomputable def f10 (k : Nat) (x0 : List Int) (x1 : List (Int × Int × Int × Unit)) (x2 : Int) : Option (((List Int) × Int × Unit)) :=
  (f11 k x0).bind fun r1 =>
  bif r1.1 != 0 then
    some ([], r1)
  else
  bif decide ((x1.length : Int) > 256) then
    some ([], 2, ())
  else
  bif decide ((([] : List Int).length + x0.length) * 8 ≤ roomN) then
    (l10_8 k k x0 x2 ([] ++ x0) x1 (x1.length : Int) 0).bind fun w4 =>
    Sum.elim
      (fun y2 =>
        (f11 k y2.1).bind fun r3 =>
        bif r3.1 != 0 then
          some ([], r3)
        else
          some (y2.1, 0, ()))
      (fun y4 =>
        some y4)
      w4
  else
    none
noncomputable def f10_sig (k : Nat) : Sig := ⟨[.val (.sl (.int .i64)), .val (.sl (.pair (.int .i64) (.pair (.int .i64) (.pair (.int .i64) (.unit))))), .val (.int .i64)], [], [[.row (.int .i64), .val (.int .i64)]], fun x => f10 k x.1 x.2.1 x.2.2.1⟩
noncomputable def E_f10 (k : Nat) : Env := ⟨Tryd.prog, G0, scons 11 [f11_sig k] (scons 7 [f7_sig k] (snil)), tcons 8 (l10_8_sig k) (tnil), tnil, unil, k⟩
theorem l10_8_ok (k : Nat) : LoopOK (E_f10 k) ⟨Tryd.f10.ntmps, [], G0⟩ (nthC 0 (loopsIn (Tryd.f10.body.getD .skip))) :=
  loop_ok (ls := l10_8_sig k) (by kernel_rfl) (fun _ => by kernel_rfl) (fun j x => by kernel_rfl)
theorem f10_run (k : Nat) (x : (lTy (lay 0 (f10_sig k).ins)).den) : runF (E_f10 k) Tryd.f10 (f10_sig k) x = (f10_sig k).F x := by kernel_rfl
theorem f10_ok (k : Nat) : FnOK Tryd.prog G0 10 (f10_sig k) :=
  fn_ok2 (E := E_f10 k) (env_cons (one_sig (f11_ok k)) (env_cons (one_sig (f7_ok k)) (env_nil))) mixed Tryd.func10 Tryd.call10 (by kernel_rfl) (by kernel_rfl) (m := 1) (by kernel_rfl) ⟨trivial, l10_8_ok k⟩ (sk := []) (by kernel_rfl) trivial (f10_run k)

/-! ### gamehall/gamehallkeep3.RatingKept: function 5 -/
noncomputable def l5_8 (k : Nat) : Nat → (List Int) → (List Int) → Int → (List Int) → Int → Int → Int → Int → Int → Int → Option (((List Int) × (List Int) × Int × (List Int) × Int × Int × Int × Int × Unit))
  | 0, _, _, _, _, _, _, _, _, _, _ => none
  | j + 1, s0, s7, s8, s9, s10, s11, s12, s13, s42, s43 =>
    bif decide (s43 < s42) then
      bif decide (0 ≤ s43) && decide (s43 < (s0.length : Int)) then
        bif s8 == 0 then
          bif (s7.length : Int) == (s0.length : Int) then
            bif decide (0 ≤ s43) && decide (s43 < (s7.length : Int)) then
              bif s10 == 0 then
                bif (s9.length : Int) == (s0.length : Int) then
                  bif decide (0 ≤ s43) && decide (s43 < (s9.length : Int)) then
                    l5_8 k j s0 s7 s8 s9 s10 (w64 (s11 + (rd (0 : Int) s0 s43))) (w64 (s12 + (rd (0 : Int) s7 s43))) (w64 (s13 + (rd (0 : Int) s9 s43))) s42 (w64 (s43 + 1))
                  else
                    none
                else
                  l5_8 k j s0 s7 s8 s9 s10 (w64 (s11 + (rd (0 : Int) s0 s43))) (w64 (s12 + (rd (0 : Int) s7 s43))) s13 s42 (w64 (s43 + 1))
              else
                l5_8 k j s0 s7 s8 s9 s10 (w64 (s11 + (rd (0 : Int) s0 s43))) (w64 (s12 + (rd (0 : Int) s7 s43))) s13 s42 (w64 (s43 + 1))
            else
              none
          else
          bif s10 == 0 then
            bif (s9.length : Int) == (s0.length : Int) then
              bif decide (0 ≤ s43) && decide (s43 < (s9.length : Int)) then
                l5_8 k j s0 s7 s8 s9 s10 (w64 (s11 + (rd (0 : Int) s0 s43))) s12 (w64 (s13 + (rd (0 : Int) s9 s43))) s42 (w64 (s43 + 1))
              else
                none
            else
              l5_8 k j s0 s7 s8 s9 s10 (w64 (s11 + (rd (0 : Int) s0 s43))) s12 s13 s42 (w64 (s43 + 1))
          else
            l5_8 k j s0 s7 s8 s9 s10 (w64 (s11 + (rd (0 : Int) s0 s43))) s12 s13 s42 (w64 (s43 + 1))
        else
        bif s10 == 0 then
          bif (s9.length : Int) == (s0.length : Int) then
            bif decide (0 ≤ s43) && decide (s43 < (s9.length : Int)) then
              l5_8 k j s0 s7 s8 s9 s10 (w64 (s11 + (rd (0 : Int) s0 s43))) s12 (w64 (s13 + (rd (0 : Int) s9 s43))) s42 (w64 (s43 + 1))
            else
              none
          else
            l5_8 k j s0 s7 s8 s9 s10 (w64 (s11 + (rd (0 : Int) s0 s43))) s12 s13 s42 (w64 (s43 + 1))
        else
          l5_8 k j s0 s7 s8 s9 s10 (w64 (s11 + (rd (0 : Int) s0 s43))) s12 s13 s42 (w64 (s43 + 1))
      else
        none
    else
      some (s0, s7, s8, s9, s10, s11, s12, s13, ())
noncomputable def l5_8_sig (k : Nat) : LoopSig := ⟨[(0, .obj (.val (.sl (.int .i64)))), (7, .obj (.row (.int .i64))), (8, .obj (.val (.int .i64))), (9, .obj (.row (.int .i64))), (10, .obj (.val (.int .i64))), (11, .obj (.val (.int .i64))), (12, .obj (.val (.int .i64))), (13, .obj (.val (.int .i64))), (42, .obj (.val (.int .i64))), (43, .obj (.val (.int .i64)))], [(.exit 0, [(0, .obj (.val (.sl (.int .i64)))), (7, .obj (.row (.int .i64))), (8, .obj (.val (.int .i64))), (9, .obj (.row (.int .i64))), (10, .obj (.val (.int .i64))), (11, .obj (.val (.int .i64))), (12, .obj (.val (.int .i64))), (13, .obj (.val (.int .i64)))])], fun j x => l5_8 k j x.1 x.2.1 x.2.2.1 x.2.2.2.1 x.2.2.2.2.1 x.2.2.2.2.2.1 x.2.2.2.2.2.2.1 x.2.2.2.2.2.2.2.1 x.2.2.2.2.2.2.2.2.1 x.2.2.2.2.2.2.2.2.2.1⟩
noncomputable def f5 (k : Nat) (x0 : List Int) (x1 : List (Int × Int × Int × Unit)) (x2 : Int) : Option ((Bool × Unit)) :=
  (f6 k).bind fun r1 =>
  bif !r1.1 then
    some (false, ())
  else
  bif decide (0 ≤ (if 64 < (x0.length : Int) then 64 else (x0.length : Int))) && decide ((if 64 < (x0.length : Int) then 64 else (x0.length : Int)) ≤ (x0.length : Int)) then
    bif decide (0 ≤ (if 60 < (x1.length : Int) then 60 else (x1.length : Int))) && decide ((if 60 < (x1.length : Int) then 60 else (x1.length : Int)) ≤ (x1.length : Int)) then
      (f9 k (sliceOf x0 0 (if 64 < (x0.length : Int) then 64 else (x0.length : Int))) (sliceOf x1 0 (if 60 < (x1.length : Int) then 60 else (x1.length : Int))) x2).bind fun r2 =>
      (f10 k (sliceOf x0 0 (if 64 < (x0.length : Int) then 64 else (x0.length : Int))) (sliceOf x1 0 (if 60 < (x1.length : Int) then 60 else (x1.length : Int))) x2).bind fun r3 =>
      (l5_8 k k (sliceOf x0 0 (if 64 < (x0.length : Int) then 64 else (x0.length : Int))) r2.1 r2.2.1 r3.1 r3.2.1 0 0 0 ((sliceOf x0 0 (if 64 < (x0.length : Int) then 64 else (x0.length : Int))).length : Int) 0).bind fun o4 =>
      bif o4.2.2.1 != 0 then
        bif o4.2.2.2.2.1 != 0 then
          some (true, ())
        else
        bif o4.2.2.2.2.2.1 == o4.2.2.2.2.2.2.2.1 then
          some ((o4.2.2.2.1.length : Int) == (o4.1.length : Int), ())
        else
          some (false, ())
      else
      bif o4.2.2.2.2.2.1 == o4.2.2.2.2.2.2.1 then
        bif (o4.2.1.length : Int) == (o4.1.length : Int) then
          bif o4.2.2.2.2.1 != 0 then
            some (true, ())
          else
          bif o4.2.2.2.2.2.1 == o4.2.2.2.2.2.2.2.1 then
            some ((o4.2.2.2.1.length : Int) == (o4.1.length : Int), ())
          else
            some (false, ())
        else
          some (false, ())
      else
        some (false, ())
    else
      none
  else
    none
noncomputable def f5_sig (k : Nat) : Sig := ⟨[.val (.sl (.int .i64)), .val (.sl (.pair (.int .i64) (.pair (.int .i64) (.pair (.int .i64) (.unit))))), .val (.int .i64)], [], [[.val (.bool)]], fun x => f5 k x.1 x.2.1 x.2.2.1⟩
noncomputable def E_f5 (k : Nat) : Env := ⟨Tryd.prog, G0, scons 10 [f10_sig k] (scons 9 [f9_sig k] (scons 6 [f6_sig k] (snil))), tcons 8 (l5_8_sig k) (tnil), tnil, unil, k⟩
theorem l5_8_ok (k : Nat) : LoopOK (E_f5 k) ⟨Tryd.f5.ntmps, [], G0⟩ (nthC 0 (loopsIn (Tryd.f5.body.getD .skip))) :=
  loop_ok (ls := l5_8_sig k) (by kernel_rfl) (fun _ => by kernel_rfl) (fun j x => by kernel_rfl)
theorem f5_run (k : Nat) (x : (lTy (lay 0 (f5_sig k).ins)).den) : runF (E_f5 k) Tryd.f5 (f5_sig k) x = (f5_sig k).F x := by kernel_rfl
theorem f5_ok (k : Nat) : FnOK Tryd.prog G0 5 (f5_sig k) :=
  fn_ok2 (E := E_f5 k) (env_cons (one_sig (f10_ok k)) (env_cons (one_sig (f9_ok k)) (env_cons (one_sig (f6_ok k)) (env_nil)))) mixed Tryd.func5 Tryd.call5 (by kernel_rfl) (by kernel_rfl) (m := 1) (by kernel_rfl) ⟨trivial, l5_8_ok k⟩ (sk := []) (by kernel_rfl) trivial (f5_run k)
end Go.Proofs.YtpighccmakogpaaDoor.G
