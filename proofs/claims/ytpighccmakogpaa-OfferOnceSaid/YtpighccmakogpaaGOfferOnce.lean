import Derived.Test.YtpighccmakogpaaVM21
import Derived.Test.YtpighccmakogpaaChecked
namespace Go.Proofs.Ytpighccmakogpaa.G
open Go.VM Go.Proofs

abbrev w64 (n : Int) : Int := IntKind.i64.wrap n
theorem mixed : Try.prog.follows .mixedOrders = true := by kernel_rfl

/-! ### gamehall/offer.New: function 33 -/
def f33 (k : Nat) : Option (((Int × Int × Unit) × ((Int × Int × Unit) × (Int × Int × Unit) × Unit) × Unit) × Unit) :=
  some ((((-1), (-1), ()), (((-1), (-1), ()), ((-1), (-1), ()), ()), ()), ())
def f33_sig (k : Nat) : Sig := ⟨[], [.pair (.pair (.int .i64) (.pair (.int .i64) (.unit))) (.pair (.pair (.pair (.int .i64) (.pair (.int .i64) (.unit))) (.pair (.pair (.int .i64) (.pair (.int .i64) (.unit))) (.unit))) (.unit))], true, fun x => f33 k⟩
noncomputable def E33 (k : Nat) : Env := ⟨Try.prog, tnil, tnil, k⟩
theorem f33_run (k : Nat) (x : (tupT (f33_sig k).pt).den) : runF (E33 k) Try.f33 (f33_sig k).pt (f33_sig k).rt (f33_sig k).own x = (f33_sig k).f x := by kernel_rfl
theorem f33_ok (k : Nat) : FnOK Try.prog 33 (f33_sig k) :=
  fn_ok2 (E := E33 k) (env_nil) mixed Try.func33 Try.call33 (by kernel_rfl) (by kernel_rfl) (by kernel_rfl) (m := 0) (by kernel_rfl) trivial (f33_run k)

/-! ### gamehall/offer.Check: function 38 -/
def l38_7 (k : Nat) : Nat → (Int × Int × Int × Int × Int × Int × Unit) → Int → Int → Int → Option (((Int × Int × Int × Int × Int × Int × Unit) × Int × Int × Unit) ⊕ (Int × Unit))
  | 0, _, _, _, _ => none
  | j + 1, s1, s3, s6, s21 =>
    bif decide (s21 < 2) then
      bif s3 == 0 then
        bif s21 == 0 then
          bif decide (s1.2.2.1 < (-1)) then
            some (.inr (4, ()))
          else
          bif s3 == 0 then
            bif s21 == 0 then
              bif decide (s1.2.2.1 > 400) then
                some (.inr (4, ()))
              else
                l38_7 k j s1 s3 s6 (w64 (s21 + 1))
            else
            bif s21 == 1 then
              bif decide (s1.2.2.2.1 > 400) then
                some (.inr (4, ()))
              else
                l38_7 k j s1 s3 s6 (w64 (s21 + 1))
            else
              none
          else
          bif s3 == 1 then
            bif s21 == 0 then
              bif decide (s1.2.2.2.2.1 > 400) then
                some (.inr (4, ()))
              else
                l38_7 k j s1 s3 s6 (w64 (s21 + 1))
            else
            bif s21 == 1 then
              bif decide (s1.2.2.2.2.2.1 > 400) then
                some (.inr (4, ()))
              else
                l38_7 k j s1 s3 s6 (w64 (s21 + 1))
            else
              none
          else
            none
        else
        bif s21 == 1 then
          bif decide (s1.2.2.2.1 < (-1)) then
            some (.inr (4, ()))
          else
          bif s3 == 0 then
            bif s21 == 0 then
              bif decide (s1.2.2.1 > 400) then
                some (.inr (4, ()))
              else
                l38_7 k j s1 s3 s6 (w64 (s21 + 1))
            else
            bif s21 == 1 then
              bif decide (s1.2.2.2.1 > 400) then
                some (.inr (4, ()))
              else
                l38_7 k j s1 s3 s6 (w64 (s21 + 1))
            else
              none
          else
          bif s3 == 1 then
            bif s21 == 0 then
              bif decide (s1.2.2.2.2.1 > 400) then
                some (.inr (4, ()))
              else
                l38_7 k j s1 s3 s6 (w64 (s21 + 1))
            else
            bif s21 == 1 then
              bif decide (s1.2.2.2.2.2.1 > 400) then
                some (.inr (4, ()))
              else
                l38_7 k j s1 s3 s6 (w64 (s21 + 1))
            else
              none
          else
            none
        else
          none
      else
      bif s3 == 1 then
        bif s21 == 0 then
          bif decide (s1.2.2.2.2.1 < (-1)) then
            some (.inr (4, ()))
          else
          bif s3 == 0 then
            bif s21 == 0 then
              bif decide (s1.2.2.1 > 400) then
                some (.inr (4, ()))
              else
                l38_7 k j s1 s3 s6 (w64 (s21 + 1))
            else
            bif s21 == 1 then
              bif decide (s1.2.2.2.1 > 400) then
                some (.inr (4, ()))
              else
                l38_7 k j s1 s3 s6 (w64 (s21 + 1))
            else
              none
          else
          bif s3 == 1 then
            bif s21 == 0 then
              bif decide (s1.2.2.2.2.1 > 400) then
                some (.inr (4, ()))
              else
                l38_7 k j s1 s3 s6 (w64 (s21 + 1))
            else
            bif s21 == 1 then
              bif decide (s1.2.2.2.2.2.1 > 400) then
                some (.inr (4, ()))
              else
                l38_7 k j s1 s3 s6 (w64 (s21 + 1))
            else
              none
          else
            none
        else
        bif s21 == 1 then
          bif decide (s1.2.2.2.2.2.1 < (-1)) then
            some (.inr (4, ()))
          else
          bif s3 == 0 then
            bif s21 == 0 then
              bif decide (s1.2.2.1 > 400) then
                some (.inr (4, ()))
              else
                l38_7 k j s1 s3 s6 (w64 (s21 + 1))
            else
            bif s21 == 1 then
              bif decide (s1.2.2.2.1 > 400) then
                some (.inr (4, ()))
              else
                l38_7 k j s1 s3 s6 (w64 (s21 + 1))
            else
              none
          else
          bif s3 == 1 then
            bif s21 == 0 then
              bif decide (s1.2.2.2.2.1 > 400) then
                some (.inr (4, ()))
              else
                l38_7 k j s1 s3 s6 (w64 (s21 + 1))
            else
            bif s21 == 1 then
              bif decide (s1.2.2.2.2.2.1 > 400) then
                some (.inr (4, ()))
              else
                l38_7 k j s1 s3 s6 (w64 (s21 + 1))
            else
              none
          else
            none
        else
          none
      else
        none
    else
      some (.inl (s1, s3, s6, ()))
noncomputable def l38_7_sig (k : Nat) : LoopSig := ⟨[(1, .box [.val (.int .i64), .val (.int .i64), .val (.int .i64), .val (.int .i64), .val (.int .i64), .val (.int .i64)]), (3, .val (.int .i64)), (6, .val (.int .i64)), (21, .val (.int .i64))], [(.exit 2, [(1, .box [.val (.int .i64), .val (.int .i64), .val (.int .i64), .val (.int .i64), .val (.int .i64), .val (.int .i64)]), (3, .val (.int .i64)), (6, .val (.int .i64))]), (.ret, [(2, .val (.int .i64))])], fun j x => l38_7 k j x.1 x.2.1 x.2.2.1 x.2.2.2.1⟩
def l38_2 (k : Nat) : Nat → (Int × Int × Int × Int × Int × Int × Unit) → Int → Option (Unit ⊕ (Int × Unit))
  | 0, _, _ => none
  | j + 1, s1, s6 =>
    bif decide (s6 < 2) then
      bif s6 == 0 then
        bif decide (s1.1 < (-1)) then
          some (.inr (4, ()))
        else
        bif s6 == 0 then
          bif decide (s1.1 > 1) then
            some (.inr (4, ()))
          else
            (l38_7 k k s1 s6 s6 0).bind fun w1 =>
            Sum.elim
              (fun y2 =>
                bif y2.2.1 == 0 then
                  bif decide (y2.1.1 ≥ 0) then
                    bif y2.2.1 == 0 then
                      bif y2.1.1 == 0 then
                        bif decide (y2.1.2.2.1 < 0) then
                          some (.inr (3, ()))
                        else
                          l38_2 k j y2.1 (w64 (y2.2.2.1 + 1))
                      else
                      bif y2.1.1 == 1 then
                        bif decide (y2.1.2.2.2.1 < 0) then
                          some (.inr (3, ()))
                        else
                          l38_2 k j y2.1 (w64 (y2.2.2.1 + 1))
                      else
                        none
                    else
                    bif y2.2.1 == 1 then
                      bif y2.1.1 == 0 then
                        bif decide (y2.1.2.2.2.2.1 < 0) then
                          some (.inr (3, ()))
                        else
                          l38_2 k j y2.1 (w64 (y2.2.2.1 + 1))
                      else
                      bif y2.1.1 == 1 then
                        bif decide (y2.1.2.2.2.2.2.1 < 0) then
                          some (.inr (3, ()))
                        else
                          l38_2 k j y2.1 (w64 (y2.2.2.1 + 1))
                      else
                        none
                    else
                      none
                  else
                    l38_2 k j y2.1 (w64 (y2.2.2.1 + 1))
                else
                bif y2.2.1 == 1 then
                  bif decide (y2.1.2.1 ≥ 0) then
                    bif y2.2.1 == 0 then
                      bif y2.1.2.1 == 0 then
                        bif decide (y2.1.2.2.1 < 0) then
                          some (.inr (3, ()))
                        else
                          l38_2 k j y2.1 (w64 (y2.2.2.1 + 1))
                      else
                      bif y2.1.2.1 == 1 then
                        bif decide (y2.1.2.2.2.1 < 0) then
                          some (.inr (3, ()))
                        else
                          l38_2 k j y2.1 (w64 (y2.2.2.1 + 1))
                      else
                        none
                    else
                    bif y2.2.1 == 1 then
                      bif y2.1.2.1 == 0 then
                        bif decide (y2.1.2.2.2.2.1 < 0) then
                          some (.inr (3, ()))
                        else
                          l38_2 k j y2.1 (w64 (y2.2.2.1 + 1))
                      else
                      bif y2.1.2.1 == 1 then
                        bif decide (y2.1.2.2.2.2.2.1 < 0) then
                          some (.inr (3, ()))
                        else
                          l38_2 k j y2.1 (w64 (y2.2.2.1 + 1))
                      else
                        none
                    else
                      none
                  else
                    l38_2 k j y2.1 (w64 (y2.2.2.1 + 1))
                else
                  none)
              (fun y3 =>
                some (.inr y3))
              w1
        else
        bif s6 == 1 then
          bif decide (s1.2.1 > 1) then
            some (.inr (4, ()))
          else
            (l38_7 k k s1 s6 s6 0).bind fun w2 =>
            Sum.elim
              (fun y5 =>
                bif y5.2.1 == 0 then
                  bif decide (y5.1.1 ≥ 0) then
                    bif y5.2.1 == 0 then
                      bif y5.1.1 == 0 then
                        bif decide (y5.1.2.2.1 < 0) then
                          some (.inr (3, ()))
                        else
                          l38_2 k j y5.1 (w64 (y5.2.2.1 + 1))
                      else
                      bif y5.1.1 == 1 then
                        bif decide (y5.1.2.2.2.1 < 0) then
                          some (.inr (3, ()))
                        else
                          l38_2 k j y5.1 (w64 (y5.2.2.1 + 1))
                      else
                        none
                    else
                    bif y5.2.1 == 1 then
                      bif y5.1.1 == 0 then
                        bif decide (y5.1.2.2.2.2.1 < 0) then
                          some (.inr (3, ()))
                        else
                          l38_2 k j y5.1 (w64 (y5.2.2.1 + 1))
                      else
                      bif y5.1.1 == 1 then
                        bif decide (y5.1.2.2.2.2.2.1 < 0) then
                          some (.inr (3, ()))
                        else
                          l38_2 k j y5.1 (w64 (y5.2.2.1 + 1))
                      else
                        none
                    else
                      none
                  else
                    l38_2 k j y5.1 (w64 (y5.2.2.1 + 1))
                else
                bif y5.2.1 == 1 then
                  bif decide (y5.1.2.1 ≥ 0) then
                    bif y5.2.1 == 0 then
                      bif y5.1.2.1 == 0 then
                        bif decide (y5.1.2.2.1 < 0) then
                          some (.inr (3, ()))
                        else
                          l38_2 k j y5.1 (w64 (y5.2.2.1 + 1))
                      else
                      bif y5.1.2.1 == 1 then
                        bif decide (y5.1.2.2.2.1 < 0) then
                          some (.inr (3, ()))
                        else
                          l38_2 k j y5.1 (w64 (y5.2.2.1 + 1))
                      else
                        none
                    else
                    bif y5.2.1 == 1 then
                      bif y5.1.2.1 == 0 then
                        bif decide (y5.1.2.2.2.2.1 < 0) then
                          some (.inr (3, ()))
                        else
                          l38_2 k j y5.1 (w64 (y5.2.2.1 + 1))
                      else
                      bif y5.1.2.1 == 1 then
                        bif decide (y5.1.2.2.2.2.2.1 < 0) then
                          some (.inr (3, ()))
                        else
                          l38_2 k j y5.1 (w64 (y5.2.2.1 + 1))
                      else
                        none
                    else
                      none
                  else
                    l38_2 k j y5.1 (w64 (y5.2.2.1 + 1))
                else
                  none)
              (fun y6 =>
                some (.inr y6))
              w2
        else
          none
      else
      bif s6 == 1 then
        bif decide (s1.2.1 < (-1)) then
          some (.inr (4, ()))
        else
        bif s6 == 0 then
          bif decide (s1.1 > 1) then
            some (.inr (4, ()))
          else
            (l38_7 k k s1 s6 s6 0).bind fun w3 =>
            Sum.elim
              (fun y8 =>
                bif y8.2.1 == 0 then
                  bif decide (y8.1.1 ≥ 0) then
                    bif y8.2.1 == 0 then
                      bif y8.1.1 == 0 then
                        bif decide (y8.1.2.2.1 < 0) then
                          some (.inr (3, ()))
                        else
                          l38_2 k j y8.1 (w64 (y8.2.2.1 + 1))
                      else
                      bif y8.1.1 == 1 then
                        bif decide (y8.1.2.2.2.1 < 0) then
                          some (.inr (3, ()))
                        else
                          l38_2 k j y8.1 (w64 (y8.2.2.1 + 1))
                      else
                        none
                    else
                    bif y8.2.1 == 1 then
                      bif y8.1.1 == 0 then
                        bif decide (y8.1.2.2.2.2.1 < 0) then
                          some (.inr (3, ()))
                        else
                          l38_2 k j y8.1 (w64 (y8.2.2.1 + 1))
                      else
                      bif y8.1.1 == 1 then
                        bif decide (y8.1.2.2.2.2.2.1 < 0) then
                          some (.inr (3, ()))
                        else
                          l38_2 k j y8.1 (w64 (y8.2.2.1 + 1))
                      else
                        none
                    else
                      none
                  else
                    l38_2 k j y8.1 (w64 (y8.2.2.1 + 1))
                else
                bif y8.2.1 == 1 then
                  bif decide (y8.1.2.1 ≥ 0) then
                    bif y8.2.1 == 0 then
                      bif y8.1.2.1 == 0 then
                        bif decide (y8.1.2.2.1 < 0) then
                          some (.inr (3, ()))
                        else
                          l38_2 k j y8.1 (w64 (y8.2.2.1 + 1))
                      else
                      bif y8.1.2.1 == 1 then
                        bif decide (y8.1.2.2.2.1 < 0) then
                          some (.inr (3, ()))
                        else
                          l38_2 k j y8.1 (w64 (y8.2.2.1 + 1))
                      else
                        none
                    else
                    bif y8.2.1 == 1 then
                      bif y8.1.2.1 == 0 then
                        bif decide (y8.1.2.2.2.2.1 < 0) then
                          some (.inr (3, ()))
                        else
                          l38_2 k j y8.1 (w64 (y8.2.2.1 + 1))
                      else
                      bif y8.1.2.1 == 1 then
                        bif decide (y8.1.2.2.2.2.2.1 < 0) then
                          some (.inr (3, ()))
                        else
                          l38_2 k j y8.1 (w64 (y8.2.2.1 + 1))
                      else
                        none
                    else
                      none
                  else
                    l38_2 k j y8.1 (w64 (y8.2.2.1 + 1))
                else
                  none)
              (fun y9 =>
                some (.inr y9))
              w3
        else
        bif s6 == 1 then
          bif decide (s1.2.1 > 1) then
            some (.inr (4, ()))
          else
            (l38_7 k k s1 s6 s6 0).bind fun w4 =>
            Sum.elim
              (fun y11 =>
                bif y11.2.1 == 0 then
                  bif decide (y11.1.1 ≥ 0) then
                    bif y11.2.1 == 0 then
                      bif y11.1.1 == 0 then
                        bif decide (y11.1.2.2.1 < 0) then
                          some (.inr (3, ()))
                        else
                          l38_2 k j y11.1 (w64 (y11.2.2.1 + 1))
                      else
                      bif y11.1.1 == 1 then
                        bif decide (y11.1.2.2.2.1 < 0) then
                          some (.inr (3, ()))
                        else
                          l38_2 k j y11.1 (w64 (y11.2.2.1 + 1))
                      else
                        none
                    else
                    bif y11.2.1 == 1 then
                      bif y11.1.1 == 0 then
                        bif decide (y11.1.2.2.2.2.1 < 0) then
                          some (.inr (3, ()))
                        else
                          l38_2 k j y11.1 (w64 (y11.2.2.1 + 1))
                      else
                      bif y11.1.1 == 1 then
                        bif decide (y11.1.2.2.2.2.2.1 < 0) then
                          some (.inr (3, ()))
                        else
                          l38_2 k j y11.1 (w64 (y11.2.2.1 + 1))
                      else
                        none
                    else
                      none
                  else
                    l38_2 k j y11.1 (w64 (y11.2.2.1 + 1))
                else
                bif y11.2.1 == 1 then
                  bif decide (y11.1.2.1 ≥ 0) then
                    bif y11.2.1 == 0 then
                      bif y11.1.2.1 == 0 then
                        bif decide (y11.1.2.2.1 < 0) then
                          some (.inr (3, ()))
                        else
                          l38_2 k j y11.1 (w64 (y11.2.2.1 + 1))
                      else
                      bif y11.1.2.1 == 1 then
                        bif decide (y11.1.2.2.2.1 < 0) then
                          some (.inr (3, ()))
                        else
                          l38_2 k j y11.1 (w64 (y11.2.2.1 + 1))
                      else
                        none
                    else
                    bif y11.2.1 == 1 then
                      bif y11.1.2.1 == 0 then
                        bif decide (y11.1.2.2.2.2.1 < 0) then
                          some (.inr (3, ()))
                        else
                          l38_2 k j y11.1 (w64 (y11.2.2.1 + 1))
                      else
                      bif y11.1.2.1 == 1 then
                        bif decide (y11.1.2.2.2.2.2.1 < 0) then
                          some (.inr (3, ()))
                        else
                          l38_2 k j y11.1 (w64 (y11.2.2.1 + 1))
                      else
                        none
                    else
                      none
                  else
                    l38_2 k j y11.1 (w64 (y11.2.2.1 + 1))
                else
                  none)
              (fun y12 =>
                some (.inr y12))
              w4
        else
          none
      else
        none
    else
      some (.inl ())
noncomputable def l38_2_sig (k : Nat) : LoopSig := ⟨[(1, .box [.val (.int .i64), .val (.int .i64), .val (.int .i64), .val (.int .i64), .val (.int .i64), .val (.int .i64)]), (6, .val (.int .i64))], [(.exit 0, []), (.ret, [(2, .val (.int .i64))])], fun j x => l38_2 k j x.1 x.2.1⟩
def f38 (k : Nat) (x0 : (Int × Int × Unit) × ((Int × Int × Unit) × (Int × Int × Unit) × Unit) × Unit) : Option (Int × Unit) :=
  (l38_2 k k (x0.1.1, x0.1.2.1, x0.2.1.1.1, x0.2.1.1.2.1, x0.2.1.2.1) 0).bind fun w5 =>
  Sum.elim
    (fun y2 =>
      some (0, ()))
    (fun y3 =>
      some y3)
    w5
def f38_sig (k : Nat) : Sig := ⟨[.pair (.pair (.int .i64) (.pair (.int .i64) (.unit))) (.pair (.pair (.pair (.int .i64) (.pair (.int .i64) (.unit))) (.pair (.pair (.int .i64) (.pair (.int .i64) (.unit))) (.unit))) (.unit))], [.int .i64], true, fun x => f38 k x.1⟩
noncomputable def E38 (k : Nat) : Env := ⟨Try.prog, tnil, tcons 2 (l38_2_sig k) (tcons 7 (l38_7_sig k) (tnil)), k⟩
theorem l38_2_ok (k : Nat) : LoopOK (E38 k) Try.f38.ntmps (nthC 0 (loopsIn (Try.f38.body.getD .skip))) :=
  loop_ok (ls := l38_2_sig k) (by kernel_rfl) (fun _ => by kernel_rfl) (fun j x => by kernel_rfl)
theorem l38_7_ok (k : Nat) : LoopOK (E38 k) Try.f38.ntmps (nthC 1 (loopsIn (Try.f38.body.getD .skip))) :=
  loop_ok (ls := l38_7_sig k) (by kernel_rfl) (fun _ => by kernel_rfl) (fun j x => by kernel_rfl)
theorem f38_run (k : Nat) (x : (tupT (f38_sig k).pt).den) : runF (E38 k) Try.f38 (f38_sig k).pt (f38_sig k).rt (f38_sig k).own x = (f38_sig k).f x := by kernel_rfl
theorem f38_ok (k : Nat) : FnOK Try.prog 38 (f38_sig k) :=
  fn_ok2 (E := E38 k) (env_nil) mixed Try.func38 Try.call38 (by kernel_rfl) (by kernel_rfl) (by kernel_rfl) (m := 2) (by kernel_rfl) ⟨⟨trivial, l38_2_ok k⟩, l38_7_ok k⟩ (f38_run k)

/-! ### gamehall/offer.args: function 34 -/
def f34 (k : Nat) (x0 : (Int × Int × Unit) × ((Int × Int × Unit) × (Int × Int × Unit) × Unit) × Unit) (x1 : Int) (x2 : Int) (x3 : Int) : Option (Int × Unit) :=
  (f38 k x0).bind fun r1 =>
  bif r1.1 != 0 then
    some r1
  else
  bif decide (x1 < 0) then
    some (1, ())
  else
  bif decide (x1 > 1) then
    some (1, ())
  else
  bif decide (x2 < 0) then
    some (1, ())
  else
  bif decide (x2 > 1) then
    some (1, ())
  else
  bif decide (x3 < 0) then
    some (1, ())
  else
  bif decide (x3 > 400) then
    some (1, ())
  else
    some (0, ())
def f34_sig (k : Nat) : Sig := ⟨[.pair (.pair (.int .i64) (.pair (.int .i64) (.unit))) (.pair (.pair (.pair (.int .i64) (.pair (.int .i64) (.unit))) (.pair (.pair (.int .i64) (.pair (.int .i64) (.unit))) (.unit))) (.unit)), .int .i64, .int .i64, .int .i64], [.int .i64], true, fun x => f34 k x.1 x.2.1 x.2.2.1 x.2.2.2.1⟩
noncomputable def E34 (k : Nat) : Env := ⟨Try.prog, tcons 38 (f38_sig k) (tnil), tnil, k⟩
theorem f34_run (k : Nat) (x : (tupT (f34_sig k).pt).den) : runF (E34 k) Try.f34 (f34_sig k).pt (f34_sig k).rt (f34_sig k).own x = (f34_sig k).f x := by kernel_rfl
theorem f34_ok (k : Nat) : FnOK Try.prog 34 (f34_sig k) :=
  fn_ok2 (E := E34 k) (env_cons (f38_ok k) (env_nil)) mixed Try.func34 Try.call34 (by kernel_rfl) (by kernel_rfl) (by kernel_rfl) (m := 0) (by kernel_rfl) trivial (f34_run k)

/-! ### gamehall/offer.Turn: function 39 -/
def f39 (k : Nat) (x0 : Int) : Option (Int × Unit) :=
  bif decide (x0 < 0) then
    some (0, ())
  else
    some (x0.tmod 2, ())
def f39_sig (k : Nat) : Sig := ⟨[.int .i64], [.int .i64], true, fun x => f39 k x.1⟩
noncomputable def E39 (k : Nat) : Env := ⟨Try.prog, tnil, tnil, k⟩
theorem f39_run (k : Nat) (x : (tupT (f39_sig k).pt).den) : runF (E39 k) Try.f39 (f39_sig k).pt (f39_sig k).rt (f39_sig k).own x = (f39_sig k).f x := by kernel_rfl
theorem f39_ok (k : Nat) : FnOK Try.prog 39 (f39_sig k) :=
  fn_ok2 (E := E39 k) (env_nil) mixed Try.func39 Try.call39 (by kernel_rfl) (by kernel_rfl) (by kernel_rfl) (m := 0) (by kernel_rfl) trivial (f39_run k)

/-! ### gamehall/offer.Plies: function 35 -/
def f35 (k : Nat) (x0 : Int) (x1 : Int) : Option (Int × Unit) :=
  bif decide (x0 < 0) then
    some (0, ())
  else
  bif decide (x0 > 1) then
    some (0, ())
  else
  bif decide (x1 < 1) then
    some (0, ())
  else
    (f39 k x1).bind fun r1 =>
    bif r1.1 == x0 then
      bif decide (2 > x1) then
        some (0, ())
      else
        some (2, ())
    else
    bif decide (1 > x1) then
      some (0, ())
    else
      some (1, ())
def f35_sig (k : Nat) : Sig := ⟨[.int .i64, .int .i64], [.int .i64], true, fun x => f35 k x.1 x.2.1⟩
noncomputable def E35 (k : Nat) : Env := ⟨Try.prog, tcons 39 (f39_sig k) (tnil), tnil, k⟩
theorem f35_run (k : Nat) (x : (tupT (f35_sig k).pt).den) : runF (E35 k) Try.f35 (f35_sig k).pt (f35_sig k).rt (f35_sig k).own x = (f35_sig k).f x := by kernel_rfl
theorem f35_ok (k : Nat) : FnOK Try.prog 35 (f35_sig k) :=
  fn_ok2 (E := E35 k) (env_cons (f39_ok k) (env_nil)) mixed Try.func35 Try.call35 (by kernel_rfl) (by kernel_rfl) (by kernel_rfl) (m := 0) (by kernel_rfl) trivial (f35_run k)

/-! ### gamehall/offer.Make: function 19 -/
def f19 (k : Nat) (x0 : (Int × Int × Unit) × ((Int × Int × Unit) × (Int × Int × Unit) × Unit) × Unit) (x1 : Int) (x2 : Int) (x3 : Int) : Option (((Int × Int × Unit) × ((Int × Int × Unit) × (Int × Int × Unit) × Unit) × Unit) × Int × Unit) :=
  (f34 k x0 x1 x2 x3).bind fun r1 =>
  bif r1.1 != 0 then
    some (((0, 0, ()), ((0, 0, ()), (0, 0, ()), ()), ()), r1)
  else
  bif x1 == 0 then
    bif decide (x0.1.1 ≥ 0) then
      some (((0, 0, ()), ((0, 0, ()), (0, 0, ()), ()), ()), 7, ())
    else
    bif x1 == 0 then
      bif x2 == 0 then
        bif x0.2.1.1.1 == x3 then
          some (((0, 0, ()), ((0, 0, ()), (0, 0, ()), ()), ()), 11, ())
        else
        bif x1 == 1 then
          (f35 k x2 x3).bind fun r2 =>
          bif r2.1 == 0 then
            some (((0, 0, ()), ((0, 0, ()), (0, 0, ()), ()), ()), 8, ())
          else
          bif x1 == 0 then
            bif x1 == 0 then
              bif x2 == 0 then
                some (((x2, x0.1.2), ((x3, x0.2.1.1.2), x0.2.1.2), ()), 0, ())
              else
              bif x2 == 1 then
                some (((x2, x0.1.2), ((x0.2.1.1.1, x3, ()), x0.2.1.2), ()), 0, ())
              else
                none
            else
            bif x1 == 1 then
              bif x2 == 0 then
                some (((x2, x0.1.2), (x0.2.1.1, (x3, x0.2.1.2.1.2), ()), ()), 0, ())
              else
              bif x2 == 1 then
                some (((x2, x0.1.2), (x0.2.1.1, (x0.2.1.2.1.1, x3, ()), ()), ()), 0, ())
              else
                none
            else
              none
          else
          bif x1 == 1 then
            bif x1 == 0 then
              bif x2 == 0 then
                some (((x0.1.1, x2, ()), ((x3, x0.2.1.1.2), x0.2.1.2), ()), 0, ())
              else
              bif x2 == 1 then
                some (((x0.1.1, x2, ()), ((x0.2.1.1.1, x3, ()), x0.2.1.2), ()), 0, ())
              else
                none
            else
            bif x1 == 1 then
              bif x2 == 0 then
                some (((x0.1.1, x2, ()), (x0.2.1.1, (x3, x0.2.1.2.1.2), ()), ()), 0, ())
              else
              bif x2 == 1 then
                some (((x0.1.1, x2, ()), (x0.2.1.1, (x0.2.1.2.1.1, x3, ()), ()), ()), 0, ())
              else
                none
            else
              none
          else
            none
        else
        bif x1 == 0 then
          bif x1 == 0 then
            bif x2 == 0 then
              some (((x2, x0.1.2), ((x3, x0.2.1.1.2), x0.2.1.2), ()), 0, ())
            else
            bif x2 == 1 then
              some (((x2, x0.1.2), ((x0.2.1.1.1, x3, ()), x0.2.1.2), ()), 0, ())
            else
              none
          else
          bif x1 == 1 then
            bif x2 == 0 then
              some (((x2, x0.1.2), (x0.2.1.1, (x3, x0.2.1.2.1.2), ()), ()), 0, ())
            else
            bif x2 == 1 then
              some (((x2, x0.1.2), (x0.2.1.1, (x0.2.1.2.1.1, x3, ()), ()), ()), 0, ())
            else
              none
          else
            none
        else
        bif x1 == 1 then
          bif x1 == 0 then
            bif x2 == 0 then
              some (((x0.1.1, x2, ()), ((x3, x0.2.1.1.2), x0.2.1.2), ()), 0, ())
            else
            bif x2 == 1 then
              some (((x0.1.1, x2, ()), ((x0.2.1.1.1, x3, ()), x0.2.1.2), ()), 0, ())
            else
              none
          else
          bif x1 == 1 then
            bif x2 == 0 then
              some (((x0.1.1, x2, ()), (x0.2.1.1, (x3, x0.2.1.2.1.2), ()), ()), 0, ())
            else
            bif x2 == 1 then
              some (((x0.1.1, x2, ()), (x0.2.1.1, (x0.2.1.2.1.1, x3, ()), ()), ()), 0, ())
            else
              none
          else
            none
        else
          none
      else
      bif x2 == 1 then
        bif x0.2.1.1.2.1 == x3 then
          some (((0, 0, ()), ((0, 0, ()), (0, 0, ()), ()), ()), 11, ())
        else
        bif x1 == 1 then
          (f35 k x2 x3).bind fun r3 =>
          bif r3.1 == 0 then
            some (((0, 0, ()), ((0, 0, ()), (0, 0, ()), ()), ()), 8, ())
          else
          bif x1 == 0 then
            bif x1 == 0 then
              bif x2 == 0 then
                some (((x2, x0.1.2), ((x3, x0.2.1.1.2), x0.2.1.2), ()), 0, ())
              else
              bif x2 == 1 then
                some (((x2, x0.1.2), ((x0.2.1.1.1, x3, ()), x0.2.1.2), ()), 0, ())
              else
                none
            else
            bif x1 == 1 then
              bif x2 == 0 then
                some (((x2, x0.1.2), (x0.2.1.1, (x3, x0.2.1.2.1.2), ()), ()), 0, ())
              else
              bif x2 == 1 then
                some (((x2, x0.1.2), (x0.2.1.1, (x0.2.1.2.1.1, x3, ()), ()), ()), 0, ())
              else
                none
            else
              none
          else
          bif x1 == 1 then
            bif x1 == 0 then
              bif x2 == 0 then
                some (((x0.1.1, x2, ()), ((x3, x0.2.1.1.2), x0.2.1.2), ()), 0, ())
              else
              bif x2 == 1 then
                some (((x0.1.1, x2, ()), ((x0.2.1.1.1, x3, ()), x0.2.1.2), ()), 0, ())
              else
                none
            else
            bif x1 == 1 then
              bif x2 == 0 then
                some (((x0.1.1, x2, ()), (x0.2.1.1, (x3, x0.2.1.2.1.2), ()), ()), 0, ())
              else
              bif x2 == 1 then
                some (((x0.1.1, x2, ()), (x0.2.1.1, (x0.2.1.2.1.1, x3, ()), ()), ()), 0, ())
              else
                none
            else
              none
          else
            none
        else
        bif x1 == 0 then
          bif x1 == 0 then
            bif x2 == 0 then
              some (((x2, x0.1.2), ((x3, x0.2.1.1.2), x0.2.1.2), ()), 0, ())
            else
            bif x2 == 1 then
              some (((x2, x0.1.2), ((x0.2.1.1.1, x3, ()), x0.2.1.2), ()), 0, ())
            else
              none
          else
          bif x1 == 1 then
            bif x2 == 0 then
              some (((x2, x0.1.2), (x0.2.1.1, (x3, x0.2.1.2.1.2), ()), ()), 0, ())
            else
            bif x2 == 1 then
              some (((x2, x0.1.2), (x0.2.1.1, (x0.2.1.2.1.1, x3, ()), ()), ()), 0, ())
            else
              none
          else
            none
        else
        bif x1 == 1 then
          bif x1 == 0 then
            bif x2 == 0 then
              some (((x0.1.1, x2, ()), ((x3, x0.2.1.1.2), x0.2.1.2), ()), 0, ())
            else
            bif x2 == 1 then
              some (((x0.1.1, x2, ()), ((x0.2.1.1.1, x3, ()), x0.2.1.2), ()), 0, ())
            else
              none
          else
          bif x1 == 1 then
            bif x2 == 0 then
              some (((x0.1.1, x2, ()), (x0.2.1.1, (x3, x0.2.1.2.1.2), ()), ()), 0, ())
            else
            bif x2 == 1 then
              some (((x0.1.1, x2, ()), (x0.2.1.1, (x0.2.1.2.1.1, x3, ()), ()), ()), 0, ())
            else
              none
          else
            none
        else
          none
      else
        none
    else
    bif x1 == 1 then
      bif x2 == 0 then
        bif x0.2.1.2.1.1 == x3 then
          some (((0, 0, ()), ((0, 0, ()), (0, 0, ()), ()), ()), 11, ())
        else
        bif x1 == 1 then
          (f35 k x2 x3).bind fun r4 =>
          bif r4.1 == 0 then
            some (((0, 0, ()), ((0, 0, ()), (0, 0, ()), ()), ()), 8, ())
          else
          bif x1 == 0 then
            bif x1 == 0 then
              bif x2 == 0 then
                some (((x2, x0.1.2), ((x3, x0.2.1.1.2), x0.2.1.2), ()), 0, ())
              else
              bif x2 == 1 then
                some (((x2, x0.1.2), ((x0.2.1.1.1, x3, ()), x0.2.1.2), ()), 0, ())
              else
                none
            else
            bif x1 == 1 then
              bif x2 == 0 then
                some (((x2, x0.1.2), (x0.2.1.1, (x3, x0.2.1.2.1.2), ()), ()), 0, ())
              else
              bif x2 == 1 then
                some (((x2, x0.1.2), (x0.2.1.1, (x0.2.1.2.1.1, x3, ()), ()), ()), 0, ())
              else
                none
            else
              none
          else
          bif x1 == 1 then
            bif x1 == 0 then
              bif x2 == 0 then
                some (((x0.1.1, x2, ()), ((x3, x0.2.1.1.2), x0.2.1.2), ()), 0, ())
              else
              bif x2 == 1 then
                some (((x0.1.1, x2, ()), ((x0.2.1.1.1, x3, ()), x0.2.1.2), ()), 0, ())
              else
                none
            else
            bif x1 == 1 then
              bif x2 == 0 then
                some (((x0.1.1, x2, ()), (x0.2.1.1, (x3, x0.2.1.2.1.2), ()), ()), 0, ())
              else
              bif x2 == 1 then
                some (((x0.1.1, x2, ()), (x0.2.1.1, (x0.2.1.2.1.1, x3, ()), ()), ()), 0, ())
              else
                none
            else
              none
          else
            none
        else
        bif x1 == 0 then
          bif x1 == 0 then
            bif x2 == 0 then
              some (((x2, x0.1.2), ((x3, x0.2.1.1.2), x0.2.1.2), ()), 0, ())
            else
            bif x2 == 1 then
              some (((x2, x0.1.2), ((x0.2.1.1.1, x3, ()), x0.2.1.2), ()), 0, ())
            else
              none
          else
          bif x1 == 1 then
            bif x2 == 0 then
              some (((x2, x0.1.2), (x0.2.1.1, (x3, x0.2.1.2.1.2), ()), ()), 0, ())
            else
            bif x2 == 1 then
              some (((x2, x0.1.2), (x0.2.1.1, (x0.2.1.2.1.1, x3, ()), ()), ()), 0, ())
            else
              none
          else
            none
        else
        bif x1 == 1 then
          bif x1 == 0 then
            bif x2 == 0 then
              some (((x0.1.1, x2, ()), ((x3, x0.2.1.1.2), x0.2.1.2), ()), 0, ())
            else
            bif x2 == 1 then
              some (((x0.1.1, x2, ()), ((x0.2.1.1.1, x3, ()), x0.2.1.2), ()), 0, ())
            else
              none
          else
          bif x1 == 1 then
            bif x2 == 0 then
              some (((x0.1.1, x2, ()), (x0.2.1.1, (x3, x0.2.1.2.1.2), ()), ()), 0, ())
            else
            bif x2 == 1 then
              some (((x0.1.1, x2, ()), (x0.2.1.1, (x0.2.1.2.1.1, x3, ()), ()), ()), 0, ())
            else
              none
          else
            none
        else
          none
      else
      bif x2 == 1 then
        bif x0.2.1.2.1.2.1 == x3 then
          some (((0, 0, ()), ((0, 0, ()), (0, 0, ()), ()), ()), 11, ())
        else
        bif x1 == 1 then
          (f35 k x2 x3).bind fun r5 =>
          bif r5.1 == 0 then
            some (((0, 0, ()), ((0, 0, ()), (0, 0, ()), ()), ()), 8, ())
          else
          bif x1 == 0 then
            bif x1 == 0 then
              bif x2 == 0 then
                some (((x2, x0.1.2), ((x3, x0.2.1.1.2), x0.2.1.2), ()), 0, ())
              else
              bif x2 == 1 then
                some (((x2, x0.1.2), ((x0.2.1.1.1, x3, ()), x0.2.1.2), ()), 0, ())
              else
                none
            else
            bif x1 == 1 then
              bif x2 == 0 then
                some (((x2, x0.1.2), (x0.2.1.1, (x3, x0.2.1.2.1.2), ()), ()), 0, ())
              else
              bif x2 == 1 then
                some (((x2, x0.1.2), (x0.2.1.1, (x0.2.1.2.1.1, x3, ()), ()), ()), 0, ())
              else
                none
            else
              none
          else
          bif x1 == 1 then
            bif x1 == 0 then
              bif x2 == 0 then
                some (((x0.1.1, x2, ()), ((x3, x0.2.1.1.2), x0.2.1.2), ()), 0, ())
              else
              bif x2 == 1 then
                some (((x0.1.1, x2, ()), ((x0.2.1.1.1, x3, ()), x0.2.1.2), ()), 0, ())
              else
                none
            else
            bif x1 == 1 then
              bif x2 == 0 then
                some (((x0.1.1, x2, ()), (x0.2.1.1, (x3, x0.2.1.2.1.2), ()), ()), 0, ())
              else
              bif x2 == 1 then
                some (((x0.1.1, x2, ()), (x0.2.1.1, (x0.2.1.2.1.1, x3, ()), ()), ()), 0, ())
              else
                none
            else
              none
          else
            none
        else
        bif x1 == 0 then
          bif x1 == 0 then
            bif x2 == 0 then
              some (((x2, x0.1.2), ((x3, x0.2.1.1.2), x0.2.1.2), ()), 0, ())
            else
            bif x2 == 1 then
              some (((x2, x0.1.2), ((x0.2.1.1.1, x3, ()), x0.2.1.2), ()), 0, ())
            else
              none
          else
          bif x1 == 1 then
            bif x2 == 0 then
              some (((x2, x0.1.2), (x0.2.1.1, (x3, x0.2.1.2.1.2), ()), ()), 0, ())
            else
            bif x2 == 1 then
              some (((x2, x0.1.2), (x0.2.1.1, (x0.2.1.2.1.1, x3, ()), ()), ()), 0, ())
            else
              none
          else
            none
        else
        bif x1 == 1 then
          bif x1 == 0 then
            bif x2 == 0 then
              some (((x0.1.1, x2, ()), ((x3, x0.2.1.1.2), x0.2.1.2), ()), 0, ())
            else
            bif x2 == 1 then
              some (((x0.1.1, x2, ()), ((x0.2.1.1.1, x3, ()), x0.2.1.2), ()), 0, ())
            else
              none
          else
          bif x1 == 1 then
            bif x2 == 0 then
              some (((x0.1.1, x2, ()), (x0.2.1.1, (x3, x0.2.1.2.1.2), ()), ()), 0, ())
            else
            bif x2 == 1 then
              some (((x0.1.1, x2, ()), (x0.2.1.1, (x0.2.1.2.1.1, x3, ()), ()), ()), 0, ())
            else
              none
          else
            none
        else
          none
      else
        none
    else
      none
  else
  bif x1 == 1 then
    bif decide (x0.1.2.1 ≥ 0) then
      some (((0, 0, ()), ((0, 0, ()), (0, 0, ()), ()), ()), 7, ())
    else
    bif x1 == 0 then
      bif x2 == 0 then
        bif x0.2.1.1.1 == x3 then
          some (((0, 0, ()), ((0, 0, ()), (0, 0, ()), ()), ()), 11, ())
        else
        bif x1 == 1 then
          (f35 k x2 x3).bind fun r6 =>
          bif r6.1 == 0 then
            some (((0, 0, ()), ((0, 0, ()), (0, 0, ()), ()), ()), 8, ())
          else
          bif x1 == 0 then
            bif x1 == 0 then
              bif x2 == 0 then
                some (((x2, x0.1.2), ((x3, x0.2.1.1.2), x0.2.1.2), ()), 0, ())
              else
              bif x2 == 1 then
                some (((x2, x0.1.2), ((x0.2.1.1.1, x3, ()), x0.2.1.2), ()), 0, ())
              else
                none
            else
            bif x1 == 1 then
              bif x2 == 0 then
                some (((x2, x0.1.2), (x0.2.1.1, (x3, x0.2.1.2.1.2), ()), ()), 0, ())
              else
              bif x2 == 1 then
                some (((x2, x0.1.2), (x0.2.1.1, (x0.2.1.2.1.1, x3, ()), ()), ()), 0, ())
              else
                none
            else
              none
          else
          bif x1 == 1 then
            bif x1 == 0 then
              bif x2 == 0 then
                some (((x0.1.1, x2, ()), ((x3, x0.2.1.1.2), x0.2.1.2), ()), 0, ())
              else
              bif x2 == 1 then
                some (((x0.1.1, x2, ()), ((x0.2.1.1.1, x3, ()), x0.2.1.2), ()), 0, ())
              else
                none
            else
            bif x1 == 1 then
              bif x2 == 0 then
                some (((x0.1.1, x2, ()), (x0.2.1.1, (x3, x0.2.1.2.1.2), ()), ()), 0, ())
              else
              bif x2 == 1 then
                some (((x0.1.1, x2, ()), (x0.2.1.1, (x0.2.1.2.1.1, x3, ()), ()), ()), 0, ())
              else
                none
            else
              none
          else
            none
        else
        bif x1 == 0 then
          bif x1 == 0 then
            bif x2 == 0 then
              some (((x2, x0.1.2), ((x3, x0.2.1.1.2), x0.2.1.2), ()), 0, ())
            else
            bif x2 == 1 then
              some (((x2, x0.1.2), ((x0.2.1.1.1, x3, ()), x0.2.1.2), ()), 0, ())
            else
              none
          else
          bif x1 == 1 then
            bif x2 == 0 then
              some (((x2, x0.1.2), (x0.2.1.1, (x3, x0.2.1.2.1.2), ()), ()), 0, ())
            else
            bif x2 == 1 then
              some (((x2, x0.1.2), (x0.2.1.1, (x0.2.1.2.1.1, x3, ()), ()), ()), 0, ())
            else
              none
          else
            none
        else
        bif x1 == 1 then
          bif x1 == 0 then
            bif x2 == 0 then
              some (((x0.1.1, x2, ()), ((x3, x0.2.1.1.2), x0.2.1.2), ()), 0, ())
            else
            bif x2 == 1 then
              some (((x0.1.1, x2, ()), ((x0.2.1.1.1, x3, ()), x0.2.1.2), ()), 0, ())
            else
              none
          else
          bif x1 == 1 then
            bif x2 == 0 then
              some (((x0.1.1, x2, ()), (x0.2.1.1, (x3, x0.2.1.2.1.2), ()), ()), 0, ())
            else
            bif x2 == 1 then
              some (((x0.1.1, x2, ()), (x0.2.1.1, (x0.2.1.2.1.1, x3, ()), ()), ()), 0, ())
            else
              none
          else
            none
        else
          none
      else
      bif x2 == 1 then
        bif x0.2.1.1.2.1 == x3 then
          some (((0, 0, ()), ((0, 0, ()), (0, 0, ()), ()), ()), 11, ())
        else
        bif x1 == 1 then
          (f35 k x2 x3).bind fun r7 =>
          bif r7.1 == 0 then
            some (((0, 0, ()), ((0, 0, ()), (0, 0, ()), ()), ()), 8, ())
          else
          bif x1 == 0 then
            bif x1 == 0 then
              bif x2 == 0 then
                some (((x2, x0.1.2), ((x3, x0.2.1.1.2), x0.2.1.2), ()), 0, ())
              else
              bif x2 == 1 then
                some (((x2, x0.1.2), ((x0.2.1.1.1, x3, ()), x0.2.1.2), ()), 0, ())
              else
                none
            else
            bif x1 == 1 then
              bif x2 == 0 then
                some (((x2, x0.1.2), (x0.2.1.1, (x3, x0.2.1.2.1.2), ()), ()), 0, ())
              else
              bif x2 == 1 then
                some (((x2, x0.1.2), (x0.2.1.1, (x0.2.1.2.1.1, x3, ()), ()), ()), 0, ())
              else
                none
            else
              none
          else
          bif x1 == 1 then
            bif x1 == 0 then
              bif x2 == 0 then
                some (((x0.1.1, x2, ()), ((x3, x0.2.1.1.2), x0.2.1.2), ()), 0, ())
              else
              bif x2 == 1 then
                some (((x0.1.1, x2, ()), ((x0.2.1.1.1, x3, ()), x0.2.1.2), ()), 0, ())
              else
                none
            else
            bif x1 == 1 then
              bif x2 == 0 then
                some (((x0.1.1, x2, ()), (x0.2.1.1, (x3, x0.2.1.2.1.2), ()), ()), 0, ())
              else
              bif x2 == 1 then
                some (((x0.1.1, x2, ()), (x0.2.1.1, (x0.2.1.2.1.1, x3, ()), ()), ()), 0, ())
              else
                none
            else
              none
          else
            none
        else
        bif x1 == 0 then
          bif x1 == 0 then
            bif x2 == 0 then
              some (((x2, x0.1.2), ((x3, x0.2.1.1.2), x0.2.1.2), ()), 0, ())
            else
            bif x2 == 1 then
              some (((x2, x0.1.2), ((x0.2.1.1.1, x3, ()), x0.2.1.2), ()), 0, ())
            else
              none
          else
          bif x1 == 1 then
            bif x2 == 0 then
              some (((x2, x0.1.2), (x0.2.1.1, (x3, x0.2.1.2.1.2), ()), ()), 0, ())
            else
            bif x2 == 1 then
              some (((x2, x0.1.2), (x0.2.1.1, (x0.2.1.2.1.1, x3, ()), ()), ()), 0, ())
            else
              none
          else
            none
        else
        bif x1 == 1 then
          bif x1 == 0 then
            bif x2 == 0 then
              some (((x0.1.1, x2, ()), ((x3, x0.2.1.1.2), x0.2.1.2), ()), 0, ())
            else
            bif x2 == 1 then
              some (((x0.1.1, x2, ()), ((x0.2.1.1.1, x3, ()), x0.2.1.2), ()), 0, ())
            else
              none
          else
          bif x1 == 1 then
            bif x2 == 0 then
              some (((x0.1.1, x2, ()), (x0.2.1.1, (x3, x0.2.1.2.1.2), ()), ()), 0, ())
            else
            bif x2 == 1 then
              some (((x0.1.1, x2, ()), (x0.2.1.1, (x0.2.1.2.1.1, x3, ()), ()), ()), 0, ())
            else
              none
          else
            none
        else
          none
      else
        none
    else
    bif x1 == 1 then
      bif x2 == 0 then
        bif x0.2.1.2.1.1 == x3 then
          some (((0, 0, ()), ((0, 0, ()), (0, 0, ()), ()), ()), 11, ())
        else
        bif x1 == 1 then
          (f35 k x2 x3).bind fun r8 =>
          bif r8.1 == 0 then
            some (((0, 0, ()), ((0, 0, ()), (0, 0, ()), ()), ()), 8, ())
          else
          bif x1 == 0 then
            bif x1 == 0 then
              bif x2 == 0 then
                some (((x2, x0.1.2), ((x3, x0.2.1.1.2), x0.2.1.2), ()), 0, ())
              else
              bif x2 == 1 then
                some (((x2, x0.1.2), ((x0.2.1.1.1, x3, ()), x0.2.1.2), ()), 0, ())
              else
                none
            else
            bif x1 == 1 then
              bif x2 == 0 then
                some (((x2, x0.1.2), (x0.2.1.1, (x3, x0.2.1.2.1.2), ()), ()), 0, ())
              else
              bif x2 == 1 then
                some (((x2, x0.1.2), (x0.2.1.1, (x0.2.1.2.1.1, x3, ()), ()), ()), 0, ())
              else
                none
            else
              none
          else
          bif x1 == 1 then
            bif x1 == 0 then
              bif x2 == 0 then
                some (((x0.1.1, x2, ()), ((x3, x0.2.1.1.2), x0.2.1.2), ()), 0, ())
              else
              bif x2 == 1 then
                some (((x0.1.1, x2, ()), ((x0.2.1.1.1, x3, ()), x0.2.1.2), ()), 0, ())
              else
                none
            else
            bif x1 == 1 then
              bif x2 == 0 then
                some (((x0.1.1, x2, ()), (x0.2.1.1, (x3, x0.2.1.2.1.2), ()), ()), 0, ())
              else
              bif x2 == 1 then
                some (((x0.1.1, x2, ()), (x0.2.1.1, (x0.2.1.2.1.1, x3, ()), ()), ()), 0, ())
              else
                none
            else
              none
          else
            none
        else
        bif x1 == 0 then
          bif x1 == 0 then
            bif x2 == 0 then
              some (((x2, x0.1.2), ((x3, x0.2.1.1.2), x0.2.1.2), ()), 0, ())
            else
            bif x2 == 1 then
              some (((x2, x0.1.2), ((x0.2.1.1.1, x3, ()), x0.2.1.2), ()), 0, ())
            else
              none
          else
          bif x1 == 1 then
            bif x2 == 0 then
              some (((x2, x0.1.2), (x0.2.1.1, (x3, x0.2.1.2.1.2), ()), ()), 0, ())
            else
            bif x2 == 1 then
              some (((x2, x0.1.2), (x0.2.1.1, (x0.2.1.2.1.1, x3, ()), ()), ()), 0, ())
            else
              none
          else
            none
        else
        bif x1 == 1 then
          bif x1 == 0 then
            bif x2 == 0 then
              some (((x0.1.1, x2, ()), ((x3, x0.2.1.1.2), x0.2.1.2), ()), 0, ())
            else
            bif x2 == 1 then
              some (((x0.1.1, x2, ()), ((x0.2.1.1.1, x3, ()), x0.2.1.2), ()), 0, ())
            else
              none
          else
          bif x1 == 1 then
            bif x2 == 0 then
              some (((x0.1.1, x2, ()), (x0.2.1.1, (x3, x0.2.1.2.1.2), ()), ()), 0, ())
            else
            bif x2 == 1 then
              some (((x0.1.1, x2, ()), (x0.2.1.1, (x0.2.1.2.1.1, x3, ()), ()), ()), 0, ())
            else
              none
          else
            none
        else
          none
      else
      bif x2 == 1 then
        bif x0.2.1.2.1.2.1 == x3 then
          some (((0, 0, ()), ((0, 0, ()), (0, 0, ()), ()), ()), 11, ())
        else
        bif x1 == 1 then
          (f35 k x2 x3).bind fun r9 =>
          bif r9.1 == 0 then
            some (((0, 0, ()), ((0, 0, ()), (0, 0, ()), ()), ()), 8, ())
          else
          bif x1 == 0 then
            bif x1 == 0 then
              bif x2 == 0 then
                some (((x2, x0.1.2), ((x3, x0.2.1.1.2), x0.2.1.2), ()), 0, ())
              else
              bif x2 == 1 then
                some (((x2, x0.1.2), ((x0.2.1.1.1, x3, ()), x0.2.1.2), ()), 0, ())
              else
                none
            else
            bif x1 == 1 then
              bif x2 == 0 then
                some (((x2, x0.1.2), (x0.2.1.1, (x3, x0.2.1.2.1.2), ()), ()), 0, ())
              else
              bif x2 == 1 then
                some (((x2, x0.1.2), (x0.2.1.1, (x0.2.1.2.1.1, x3, ()), ()), ()), 0, ())
              else
                none
            else
              none
          else
          bif x1 == 1 then
            bif x1 == 0 then
              bif x2 == 0 then
                some (((x0.1.1, x2, ()), ((x3, x0.2.1.1.2), x0.2.1.2), ()), 0, ())
              else
              bif x2 == 1 then
                some (((x0.1.1, x2, ()), ((x0.2.1.1.1, x3, ()), x0.2.1.2), ()), 0, ())
              else
                none
            else
            bif x1 == 1 then
              bif x2 == 0 then
                some (((x0.1.1, x2, ()), (x0.2.1.1, (x3, x0.2.1.2.1.2), ()), ()), 0, ())
              else
              bif x2 == 1 then
                some (((x0.1.1, x2, ()), (x0.2.1.1, (x0.2.1.2.1.1, x3, ()), ()), ()), 0, ())
              else
                none
            else
              none
          else
            none
        else
        bif x1 == 0 then
          bif x1 == 0 then
            bif x2 == 0 then
              some (((x2, x0.1.2), ((x3, x0.2.1.1.2), x0.2.1.2), ()), 0, ())
            else
            bif x2 == 1 then
              some (((x2, x0.1.2), ((x0.2.1.1.1, x3, ()), x0.2.1.2), ()), 0, ())
            else
              none
          else
          bif x1 == 1 then
            bif x2 == 0 then
              some (((x2, x0.1.2), (x0.2.1.1, (x3, x0.2.1.2.1.2), ()), ()), 0, ())
            else
            bif x2 == 1 then
              some (((x2, x0.1.2), (x0.2.1.1, (x0.2.1.2.1.1, x3, ()), ()), ()), 0, ())
            else
              none
          else
            none
        else
        bif x1 == 1 then
          bif x1 == 0 then
            bif x2 == 0 then
              some (((x0.1.1, x2, ()), ((x3, x0.2.1.1.2), x0.2.1.2), ()), 0, ())
            else
            bif x2 == 1 then
              some (((x0.1.1, x2, ()), ((x0.2.1.1.1, x3, ()), x0.2.1.2), ()), 0, ())
            else
              none
          else
          bif x1 == 1 then
            bif x2 == 0 then
              some (((x0.1.1, x2, ()), (x0.2.1.1, (x3, x0.2.1.2.1.2), ()), ()), 0, ())
            else
            bif x2 == 1 then
              some (((x0.1.1, x2, ()), (x0.2.1.1, (x0.2.1.2.1.1, x3, ()), ()), ()), 0, ())
            else
              none
          else
            none
        else
          none
      else
        none
    else
      none
  else
    none
def f19_sig (k : Nat) : Sig := ⟨[.pair (.pair (.int .i64) (.pair (.int .i64) (.unit))) (.pair (.pair (.pair (.int .i64) (.pair (.int .i64) (.unit))) (.pair (.pair (.int .i64) (.pair (.int .i64) (.unit))) (.unit))) (.unit)), .int .i64, .int .i64, .int .i64], [.pair (.pair (.int .i64) (.pair (.int .i64) (.unit))) (.pair (.pair (.pair (.int .i64) (.pair (.int .i64) (.unit))) (.pair (.pair (.int .i64) (.pair (.int .i64) (.unit))) (.unit))) (.unit)), .int .i64], true, fun x => f19 k x.1 x.2.1 x.2.2.1 x.2.2.2.1⟩
noncomputable def E19 (k : Nat) : Env := ⟨Try.prog, tcons 35 (f35_sig k) (tcons 34 (f34_sig k) (tnil)), tnil, k⟩
theorem f19_run (k : Nat) (x : (tupT (f19_sig k).pt).den) : runF (E19 k) Try.f19 (f19_sig k).pt (f19_sig k).rt (f19_sig k).own x = (f19_sig k).f x := by kernel_rfl
theorem f19_ok (k : Nat) : FnOK Try.prog 19 (f19_sig k) :=
  fn_ok2 (E := E19 k) (env_cons (f35_ok k) (env_cons (f34_ok k) (env_nil))) mixed Try.func19 Try.call19 (by kernel_rfl) (by kernel_rfl) (by kernel_rfl) (m := 0) (by kernel_rfl) trivial (f19_run k)

/-! ### gamehall/gamehallkeep3.offers: function 18 -/
def f18 (k : Nat) : Option (Bool × Unit) :=
  (f33 k).bind fun r1 =>
  (f19 k r1.1 0 1 3).bind fun r2 =>
  bif (r1.1.1.1 == (-1)) && ((r1.1.1.2.1 == (-1)) && true) then
    bif r2.2.1 == 0 then
      some ((r2.1.1.1 == 1) && ((r2.1.1.2.1 == (-1)) && true), ())
    else
      some (false, ())
  else
    some (false, ())
def f18_sig (k : Nat) : Sig := ⟨[], [.bool], true, fun x => f18 k⟩
noncomputable def E18 (k : Nat) : Env := ⟨Try.prog, tcons 33 (f33_sig k) (tcons 19 (f19_sig k) (tnil)), tnil, k⟩
theorem f18_run (k : Nat) (x : (tupT (f18_sig k).pt).den) : runF (E18 k) Try.f18 (f18_sig k).pt (f18_sig k).rt (f18_sig k).own x = (f18_sig k).f x := by kernel_rfl
theorem f18_ok (k : Nat) : FnOK Try.prog 18 (f18_sig k) :=
  fn_ok2 (E := E18 k) (env_cons (f33_ok k) (env_cons (f19_ok k) (env_nil))) mixed Try.func18 Try.call18 (by kernel_rfl) (by kernel_rfl) (by kernel_rfl) (m := 0) (by kernel_rfl) trivial (f18_run k)

/-! ### gamehall/offer.Decline: function 20 -/
def f20 (k : Nat) (x0 : (Int × Int × Unit) × ((Int × Int × Unit) × (Int × Int × Unit) × Unit) × Unit) (x1 : Int) (x2 : Int) (x3 : Int) : Option (((Int × Int × Unit) × ((Int × Int × Unit) × (Int × Int × Unit) × Unit) × Unit) × Int × Unit) :=
  (f34 k x0 x1 x2 x3).bind fun r1 =>
  bif r1.1 != 0 then
    some (((0, 0, ()), ((0, 0, ()), (0, 0, ()), ()), ()), r1)
  else
  bif x1 == 0 then
    bif x0.1.1 != (w64 (1 - x2)) then
      some (((0, 0, ()), ((0, 0, ()), (0, 0, ()), ()), ()), 10, ())
    else
    bif x1 == 0 then
      some ((((-1), x0.1.2), x0.2), 0, ())
    else
    bif x1 == 1 then
      some (((x0.1.1, (-1), ()), x0.2), 0, ())
    else
      none
  else
  bif x1 == 1 then
    bif x0.1.2.1 != (w64 (1 - x2)) then
      some (((0, 0, ()), ((0, 0, ()), (0, 0, ()), ()), ()), 10, ())
    else
    bif x1 == 0 then
      some ((((-1), x0.1.2), x0.2), 0, ())
    else
    bif x1 == 1 then
      some (((x0.1.1, (-1), ()), x0.2), 0, ())
    else
      none
  else
    none
def f20_sig (k : Nat) : Sig := ⟨[.pair (.pair (.int .i64) (.pair (.int .i64) (.unit))) (.pair (.pair (.pair (.int .i64) (.pair (.int .i64) (.unit))) (.pair (.pair (.int .i64) (.pair (.int .i64) (.unit))) (.unit))) (.unit)), .int .i64, .int .i64, .int .i64], [.pair (.pair (.int .i64) (.pair (.int .i64) (.unit))) (.pair (.pair (.pair (.int .i64) (.pair (.int .i64) (.unit))) (.pair (.pair (.int .i64) (.pair (.int .i64) (.unit))) (.unit))) (.unit)), .int .i64], true, fun x => f20 k x.1 x.2.1 x.2.2.1 x.2.2.2.1⟩
noncomputable def E20 (k : Nat) : Env := ⟨Try.prog, tcons 34 (f34_sig k) (tnil), tnil, k⟩
theorem f20_run (k : Nat) (x : (tupT (f20_sig k).pt).den) : runF (E20 k) Try.f20 (f20_sig k).pt (f20_sig k).rt (f20_sig k).own x = (f20_sig k).f x := by kernel_rfl
theorem f20_ok (k : Nat) : FnOK Try.prog 20 (f20_sig k) :=
  fn_ok2 (E := E20 k) (env_cons (f34_ok k) (env_nil)) mixed Try.func20 Try.call20 (by kernel_rfl) (by kernel_rfl) (by kernel_rfl) (m := 0) (by kernel_rfl) trivial (f20_run k)

/-! ### gamehall/gamehallkeep3.OfferOnce: function 5 -/
def f5 (k : Nat) (x0 : (Int × Int × Unit) × ((Int × Int × Unit) × (Int × Int × Unit) × Unit) × Unit) (x1 : Int) (x2 : Int) (x3 : Int) : Option (Bool × Unit) :=
  (f18 k).bind fun r1 =>
  bif !r1.1 then
    some (false, ())
  else
    (f19 k x0 x1 x2 x3).bind fun r2 =>
    bif r2.2.1 != 0 then
      some (((r2.1.1.1 == 0) && ((r2.1.1.2.1 == 0) && true)) && ((((r2.1.2.1.1.1 == 0) && ((r2.1.2.1.1.2.1 == 0) && true)) && (((r2.1.2.1.2.1.1 == 0) && ((r2.1.2.1.2.1.2.1 == 0) && true)) && true)) && true), ())
    else
      (f19 k r2.1 x1 x2 x3).bind fun r3 =>
      (f20 k r2.1 x1 (w64 (1 - x2)) x3).bind fun r4 =>
      (f19 k r4.1 x1 x2 x3).bind fun r5 =>
      (f20 k r2.1 x1 x2 x3).bind fun r6 =>
      bif r3.2.1 == 7 then
        bif r4.2.1 == 0 then
          bif r5.2.1 == 11 then
            some (r6.2.1 == 10, ())
          else
            some (false, ())
        else
          some (false, ())
      else
        some (false, ())
def f5_sig (k : Nat) : Sig := ⟨[.pair (.pair (.int .i64) (.pair (.int .i64) (.unit))) (.pair (.pair (.pair (.int .i64) (.pair (.int .i64) (.unit))) (.pair (.pair (.int .i64) (.pair (.int .i64) (.unit))) (.unit))) (.unit)), .int .i64, .int .i64, .int .i64], [.bool], true, fun x => f5 k x.1 x.2.1 x.2.2.1 x.2.2.2.1⟩
noncomputable def E5 (k : Nat) : Env := ⟨Try.prog, tcons 20 (f20_sig k) (tcons 19 (f19_sig k) (tcons 18 (f18_sig k) (tnil))), tnil, k⟩
theorem f5_run (k : Nat) (x : (tupT (f5_sig k).pt).den) : runF (E5 k) Try.f5 (f5_sig k).pt (f5_sig k).rt (f5_sig k).own x = (f5_sig k).f x := by kernel_rfl
theorem f5_ok (k : Nat) : FnOK Try.prog 5 (f5_sig k) :=
  fn_ok2 (E := E5 k) (env_cons (f20_ok k) (env_cons (f19_ok k) (env_cons (f18_ok k) (env_nil)))) mixed Try.func5 Try.call5 (by kernel_rfl) (by kernel_rfl) (by kernel_rfl) (m := 0) (by kernel_rfl) trivial (f5_run k)
end Go.Proofs.Ytpighccmakogpaa.G
