import Derived.Test.YtpnbiakaknbofaaGreatDoorGEarliera
namespace Go.Proofs.YtpnbiakaknbofaaGreatDoor.G
open Go.VM Go.Proofs
noncomputable def f43 (k : Nat) (x0 : (Int × Int × Unit) × ((Int × Int × Unit) × (Int × Int × Unit) × Unit) × Unit) (x1 : Int) (x2 : Int) (x3 : Int) : Option ((((Int × Int × Unit) × ((Int × Int × Unit) × (Int × Int × Unit) × Unit) × Unit) × Int × Unit)) :=
  (f78 k x0 x1 x2 x3).bind fun r1 =>
  bif r1.1 != 0 then
  some (((0, 0, ()), ((0, 0, ()), (0, 0, ()), ()), ()), r1)
  else
  bif x1 == 0 then
  bif decide (x0.1.1 ≥ 0) then
  some (((0, 0, ()), ((0, 0, ()), (0, 0, ()), ()), ()), 7, ())
  else
  bif x1 == 0 then
  bif x2 == 0 then
  bif x0.2.1.1.1 == x3 then
  some (((0, 0, ()), ((0, 0, ()), (0, 0, ()), ()), ()), 11, ())
  else
  bif x1 == 1 then
  (f79 k x2 x3).bind fun r2 =>
  bif r2.1 == 0 then
  some (((0, 0, ()), ((0, 0, ()), (0, 0, ()), ()), ()), 8, ())
  else
  bif x1 == 0 then
  bif x1 == 0 then
  bif x2 == 0 then
  some (((x2, x0.1.2), ((x3, x0.2.1.1.2), x0.2.1.2), ()), 0, ())
  else
  bif x2 == 1 then
  some (((x2, x0.1.2), ((x0.2.1.1.1, x3, ()), x0.2.1.2), ()), 0, ())
  else
  none
  else
  bif x1 == 1 then
  bif x2 == 0 then
  some (((x2, x0.1.2), (x0.2.1.1, (x3, x0.2.1.2.1.2), ()), ()), 0, ())
  else
  bif x2 == 1 then
  some (((x2, x0.1.2), (x0.2.1.1, (x0.2.1.2.1.1, x3, ()), ()), ()), 0, ())
  else
  none
  else
  none
  else
  bif x1 == 1 then
  bif x1 == 0 then
  bif x2 == 0 then
  some (((x0.1.1, x2, ()), ((x3, x0.2.1.1.2), x0.2.1.2), ()), 0, ())
  else
  bif x2 == 1 then
  some (((x0.1.1, x2, ()), ((x0.2.1.1.1, x3, ()), x0.2.1.2), ()), 0, ())
  else
  none
  else
  bif x1 == 1 then
  bif x2 == 0 then
  some (((x0.1.1, x2, ()), (x0.2.1.1, (x3, x0.2.1.2.1.2), ()), ()), 0, ())
  else
  bif x2 == 1 then
  some (((x0.1.1, x2, ()), (x0.2.1.1, (x0.2.1.2.1.1, x3, ()), ()), ()), 0, ())
  else
  none
  else
  none
  else
  none
  else
  bif x1 == 0 then
  bif x1 == 0 then
  bif x2 == 0 then
  some (((x2, x0.1.2), ((x3, x0.2.1.1.2), x0.2.1.2), ()), 0, ())
  else
  bif x2 == 1 then
  some (((x2, x0.1.2), ((x0.2.1.1.1, x3, ()), x0.2.1.2), ()), 0, ())
  else
  none
  else
  bif x1 == 1 then
  bif x2 == 0 then
  some (((x2, x0.1.2), (x0.2.1.1, (x3, x0.2.1.2.1.2), ()), ()), 0, ())
  else
  bif x2 == 1 then
  some (((x2, x0.1.2), (x0.2.1.1, (x0.2.1.2.1.1, x3, ()), ()), ()), 0, ())
  else
  none
  else
  none
  else
  bif x1 == 1 then
  bif x1 == 0 then
  bif x2 == 0 then
  some (((x0.1.1, x2, ()), ((x3, x0.2.1.1.2), x0.2.1.2), ()), 0, ())
  else
  bif x2 == 1 then
  some (((x0.1.1, x2, ()), ((x0.2.1.1.1, x3, ()), x0.2.1.2), ()), 0, ())
  else
  none
  else
  bif x1 == 1 then
  bif x2 == 0 then
  some (((x0.1.1, x2, ()), (x0.2.1.1, (x3, x0.2.1.2.1.2), ()), ()), 0, ())
  else
  bif x2 == 1 then
  some (((x0.1.1, x2, ()), (x0.2.1.1, (x0.2.1.2.1.1, x3, ()), ()), ()), 0, ())
  else
  none
  else
  none
  else
  none
  else
  bif x2 == 1 then
  bif x0.2.1.1.2.1 == x3 then
  some (((0, 0, ()), ((0, 0, ()), (0, 0, ()), ()), ()), 11, ())
  else
  bif x1 == 1 then
  (f79 k x2 x3).bind fun r3 =>
  bif r3.1 == 0 then
  some (((0, 0, ()), ((0, 0, ()), (0, 0, ()), ()), ()), 8, ())
  else
  bif x1 == 0 then
  bif x1 == 0 then
  bif x2 == 0 then
  some (((x2, x0.1.2), ((x3, x0.2.1.1.2), x0.2.1.2), ()), 0, ())
  else
  bif x2 == 1 then
  some (((x2, x0.1.2), ((x0.2.1.1.1, x3, ()), x0.2.1.2), ()), 0, ())
  else
  none
  else
  bif x1 == 1 then
  bif x2 == 0 then
  some (((x2, x0.1.2), (x0.2.1.1, (x3, x0.2.1.2.1.2), ()), ()), 0, ())
  else
  bif x2 == 1 then
  some (((x2, x0.1.2), (x0.2.1.1, (x0.2.1.2.1.1, x3, ()), ()), ()), 0, ())
  else
  none
  else
  none
  else
  bif x1 == 1 then
  bif x1 == 0 then
  bif x2 == 0 then
  some (((x0.1.1, x2, ()), ((x3, x0.2.1.1.2), x0.2.1.2), ()), 0, ())
  else
  bif x2 == 1 then
  some (((x0.1.1, x2, ()), ((x0.2.1.1.1, x3, ()), x0.2.1.2), ()), 0, ())
  else
  none
  else
  bif x1 == 1 then
  bif x2 == 0 then
  some (((x0.1.1, x2, ()), (x0.2.1.1, (x3, x0.2.1.2.1.2), ()), ()), 0, ())
  else
  bif x2 == 1 then
  some (((x0.1.1, x2, ()), (x0.2.1.1, (x0.2.1.2.1.1, x3, ()), ()), ()), 0, ())
  else
  none
  else
  none
  else
  none
  else
  bif x1 == 0 then
  bif x1 == 0 then
  bif x2 == 0 then
  some (((x2, x0.1.2), ((x3, x0.2.1.1.2), x0.2.1.2), ()), 0, ())
  else
  bif x2 == 1 then
  some (((x2, x0.1.2), ((x0.2.1.1.1, x3, ()), x0.2.1.2), ()), 0, ())
  else
  none
  else
  bif x1 == 1 then
  bif x2 == 0 then
  some (((x2, x0.1.2), (x0.2.1.1, (x3, x0.2.1.2.1.2), ()), ()), 0, ())
  else
  bif x2 == 1 then
  some (((x2, x0.1.2), (x0.2.1.1, (x0.2.1.2.1.1, x3, ()), ()), ()), 0, ())
  else
  none
  else
  none
  else
  bif x1 == 1 then
  bif x1 == 0 then
  bif x2 == 0 then
  some (((x0.1.1, x2, ()), ((x3, x0.2.1.1.2), x0.2.1.2), ()), 0, ())
  else
  bif x2 == 1 then
  some (((x0.1.1, x2, ()), ((x0.2.1.1.1, x3, ()), x0.2.1.2), ()), 0, ())
  else
  none
  else
  bif x1 == 1 then
  bif x2 == 0 then
  some (((x0.1.1, x2, ()), (x0.2.1.1, (x3, x0.2.1.2.1.2), ()), ()), 0, ())
  else
  bif x2 == 1 then
  some (((x0.1.1, x2, ()), (x0.2.1.1, (x0.2.1.2.1.1, x3, ()), ()), ()), 0, ())
  else
  none
  else
  none
  else
  none
  else
  none
  else
  bif x1 == 1 then
  bif x2 == 0 then
  bif x0.2.1.2.1.1 == x3 then
  some (((0, 0, ()), ((0, 0, ()), (0, 0, ()), ()), ()), 11, ())
  else
  bif x1 == 1 then
  (f79 k x2 x3).bind fun r4 =>
  bif r4.1 == 0 then
  some (((0, 0, ()), ((0, 0, ()), (0, 0, ()), ()), ()), 8, ())
  else
  bif x1 == 0 then
  bif x1 == 0 then
  bif x2 == 0 then
  some (((x2, x0.1.2), ((x3, x0.2.1.1.2), x0.2.1.2), ()), 0, ())
  else
  bif x2 == 1 then
  some (((x2, x0.1.2), ((x0.2.1.1.1, x3, ()), x0.2.1.2), ()), 0, ())
  else
  none
  else
  bif x1 == 1 then
  bif x2 == 0 then
  some (((x2, x0.1.2), (x0.2.1.1, (x3, x0.2.1.2.1.2), ()), ()), 0, ())
  else
  bif x2 == 1 then
  some (((x2, x0.1.2), (x0.2.1.1, (x0.2.1.2.1.1, x3, ()), ()), ()), 0, ())
  else
  none
  else
  none
  else
  bif x1 == 1 then
  bif x1 == 0 then
  bif x2 == 0 then
  some (((x0.1.1, x2, ()), ((x3, x0.2.1.1.2), x0.2.1.2), ()), 0, ())
  else
  bif x2 == 1 then
  some (((x0.1.1, x2, ()), ((x0.2.1.1.1, x3, ()), x0.2.1.2), ()), 0, ())
  else
  none
  else
  bif x1 == 1 then
  bif x2 == 0 then
  some (((x0.1.1, x2, ()), (x0.2.1.1, (x3, x0.2.1.2.1.2), ()), ()), 0, ())
  else
  bif x2 == 1 then
  some (((x0.1.1, x2, ()), (x0.2.1.1, (x0.2.1.2.1.1, x3, ()), ()), ()), 0, ())
  else
  none
  else
  none
  else
  none
  else
  bif x1 == 0 then
  bif x1 == 0 then
  bif x2 == 0 then
  some (((x2, x0.1.2), ((x3, x0.2.1.1.2), x0.2.1.2), ()), 0, ())
  else
  bif x2 == 1 then
  some (((x2, x0.1.2), ((x0.2.1.1.1, x3, ()), x0.2.1.2), ()), 0, ())
  else
  none
  else
  bif x1 == 1 then
  bif x2 == 0 then
  some (((x2, x0.1.2), (x0.2.1.1, (x3, x0.2.1.2.1.2), ()), ()), 0, ())
  else
  bif x2 == 1 then
  some (((x2, x0.1.2), (x0.2.1.1, (x0.2.1.2.1.1, x3, ()), ()), ()), 0, ())
  else
  none
  else
  none
  else
  bif x1 == 1 then
  bif x1 == 0 then
  bif x2 == 0 then
  some (((x0.1.1, x2, ()), ((x3, x0.2.1.1.2), x0.2.1.2), ()), 0, ())
  else
  bif x2 == 1 then
  some (((x0.1.1, x2, ()), ((x0.2.1.1.1, x3, ()), x0.2.1.2), ()), 0, ())
  else
  none
  else
  bif x1 == 1 then
  bif x2 == 0 then
  some (((x0.1.1, x2, ()), (x0.2.1.1, (x3, x0.2.1.2.1.2), ()), ()), 0, ())
  else
  bif x2 == 1 then
  some (((x0.1.1, x2, ()), (x0.2.1.1, (x0.2.1.2.1.1, x3, ()), ()), ()), 0, ())
  else
  none
  else
  none
  else
  none
  else
  bif x2 == 1 then
  bif x0.2.1.2.1.2.1 == x3 then
  some (((0, 0, ()), ((0, 0, ()), (0, 0, ()), ()), ()), 11, ())
  else
  bif x1 == 1 then
  (f79 k x2 x3).bind fun r5 =>
  bif r5.1 == 0 then
  some (((0, 0, ()), ((0, 0, ()), (0, 0, ()), ()), ()), 8, ())
  else
  bif x1 == 0 then
  bif x1 == 0 then
  bif x2 == 0 then
  some (((x2, x0.1.2), ((x3, x0.2.1.1.2), x0.2.1.2), ()), 0, ())
  else
  bif x2 == 1 then
  some (((x2, x0.1.2), ((x0.2.1.1.1, x3, ()), x0.2.1.2), ()), 0, ())
  else
  none
  else
  bif x1 == 1 then
  bif x2 == 0 then
  some (((x2, x0.1.2), (x0.2.1.1, (x3, x0.2.1.2.1.2), ()), ()), 0, ())
  else
  bif x2 == 1 then
  some (((x2, x0.1.2), (x0.2.1.1, (x0.2.1.2.1.1, x3, ()), ()), ()), 0, ())
  else
  none
  else
  none
  else
  bif x1 == 1 then
  bif x1 == 0 then
  bif x2 == 0 then
  some (((x0.1.1, x2, ()), ((x3, x0.2.1.1.2), x0.2.1.2), ()), 0, ())
  else
  bif x2 == 1 then
  some (((x0.1.1, x2, ()), ((x0.2.1.1.1, x3, ()), x0.2.1.2), ()), 0, ())
  else
  none
  else
  bif x1 == 1 then
  bif x2 == 0 then
  some (((x0.1.1, x2, ()), (x0.2.1.1, (x3, x0.2.1.2.1.2), ()), ()), 0, ())
  else
  bif x2 == 1 then
  some (((x0.1.1, x2, ()), (x0.2.1.1, (x0.2.1.2.1.1, x3, ()), ()), ()), 0, ())
  else
  none
  else
  none
  else
  none
  else
  bif x1 == 0 then
  bif x1 == 0 then
  bif x2 == 0 then
  some (((x2, x0.1.2), ((x3, x0.2.1.1.2), x0.2.1.2), ()), 0, ())
  else
  bif x2 == 1 then
  some (((x2, x0.1.2), ((x0.2.1.1.1, x3, ()), x0.2.1.2), ()), 0, ())
  else
  none
  else
  bif x1 == 1 then
  bif x2 == 0 then
  some (((x2, x0.1.2), (x0.2.1.1, (x3, x0.2.1.2.1.2), ()), ()), 0, ())
  else
  bif x2 == 1 then
  some (((x2, x0.1.2), (x0.2.1.1, (x0.2.1.2.1.1, x3, ()), ()), ()), 0, ())
  else
  none
  else
  none
  else
  bif x1 == 1 then
  bif x1 == 0 then
  bif x2 == 0 then
  some (((x0.1.1, x2, ()), ((x3, x0.2.1.1.2), x0.2.1.2), ()), 0, ())
  else
  bif x2 == 1 then
  some (((x0.1.1, x2, ()), ((x0.2.1.1.1, x3, ()), x0.2.1.2), ()), 0, ())
  else
  none
  else
  bif x1 == 1 then
  bif x2 == 0 then
  some (((x0.1.1, x2, ()), (x0.2.1.1, (x3, x0.2.1.2.1.2), ()), ()), 0, ())
  else
  bif x2 == 1 then
  some (((x0.1.1, x2, ()), (x0.2.1.1, (x0.2.1.2.1.1, x3, ()), ()), ()), 0, ())
  else
  none
  else
  none
  else
  none
  else
  none
  else
  none
  else
  bif x1 == 1 then
  bif decide (x0.1.2.1 ≥ 0) then
  some (((0, 0, ()), ((0, 0, ()), (0, 0, ()), ()), ()), 7, ())
  else
  bif x1 == 0 then
  bif x2 == 0 then
  bif x0.2.1.1.1 == x3 then
  some (((0, 0, ()), ((0, 0, ()), (0, 0, ()), ()), ()), 11, ())
  else
  bif x1 == 1 then
  (f79 k x2 x3).bind fun r6 =>
  bif r6.1 == 0 then
  some (((0, 0, ()), ((0, 0, ()), (0, 0, ()), ()), ()), 8, ())
  else
  bif x1 == 0 then
  bif x1 == 0 then
  bif x2 == 0 then
  some (((x2, x0.1.2), ((x3, x0.2.1.1.2), x0.2.1.2), ()), 0, ())
  else
  bif x2 == 1 then
  some (((x2, x0.1.2), ((x0.2.1.1.1, x3, ()), x0.2.1.2), ()), 0, ())
  else
  none
  else
  bif x1 == 1 then
  bif x2 == 0 then
  some (((x2, x0.1.2), (x0.2.1.1, (x3, x0.2.1.2.1.2), ()), ()), 0, ())
  else
  bif x2 == 1 then
  some (((x2, x0.1.2), (x0.2.1.1, (x0.2.1.2.1.1, x3, ()), ()), ()), 0, ())
  else
  none
  else
  none
  else
  bif x1 == 1 then
  bif x1 == 0 then
  bif x2 == 0 then
  some (((x0.1.1, x2, ()), ((x3, x0.2.1.1.2), x0.2.1.2), ()), 0, ())
  else
  bif x2 == 1 then
  some (((x0.1.1, x2, ()), ((x0.2.1.1.1, x3, ()), x0.2.1.2), ()), 0, ())
  else
  none
  else
  bif x1 == 1 then
  bif x2 == 0 then
  some (((x0.1.1, x2, ()), (x0.2.1.1, (x3, x0.2.1.2.1.2), ()), ()), 0, ())
  else
  bif x2 == 1 then
  some (((x0.1.1, x2, ()), (x0.2.1.1, (x0.2.1.2.1.1, x3, ()), ()), ()), 0, ())
  else
  none
  else
  none
  else
  none
  else
  bif x1 == 0 then
  bif x1 == 0 then
  bif x2 == 0 then
  some (((x2, x0.1.2), ((x3, x0.2.1.1.2), x0.2.1.2), ()), 0, ())
  else
  bif x2 == 1 then
  some (((x2, x0.1.2), ((x0.2.1.1.1, x3, ()), x0.2.1.2), ()), 0, ())
  else
  none
  else
  bif x1 == 1 then
  bif x2 == 0 then
  some (((x2, x0.1.2), (x0.2.1.1, (x3, x0.2.1.2.1.2), ()), ()), 0, ())
  else
  bif x2 == 1 then
  some (((x2, x0.1.2), (x0.2.1.1, (x0.2.1.2.1.1, x3, ()), ()), ()), 0, ())
  else
  none
  else
  none
  else
  bif x1 == 1 then
  bif x1 == 0 then
  bif x2 == 0 then
  some (((x0.1.1, x2, ()), ((x3, x0.2.1.1.2), x0.2.1.2), ()), 0, ())
  else
  bif x2 == 1 then
  some (((x0.1.1, x2, ()), ((x0.2.1.1.1, x3, ()), x0.2.1.2), ()), 0, ())
  else
  none
  else
  bif x1 == 1 then
  bif x2 == 0 then
  some (((x0.1.1, x2, ()), (x0.2.1.1, (x3, x0.2.1.2.1.2), ()), ()), 0, ())
  else
  bif x2 == 1 then
  some (((x0.1.1, x2, ()), (x0.2.1.1, (x0.2.1.2.1.1, x3, ()), ()), ()), 0, ())
  else
  none
  else
  none
  else
  none
  else
  bif x2 == 1 then
  bif x0.2.1.1.2.1 == x3 then
  some (((0, 0, ()), ((0, 0, ()), (0, 0, ()), ()), ()), 11, ())
  else
  bif x1 == 1 then
  (f79 k x2 x3).bind fun r7 =>
  bif r7.1 == 0 then
  some (((0, 0, ()), ((0, 0, ()), (0, 0, ()), ()), ()), 8, ())
  else
  bif x1 == 0 then
  bif x1 == 0 then
  bif x2 == 0 then
  some (((x2, x0.1.2), ((x3, x0.2.1.1.2), x0.2.1.2), ()), 0, ())
  else
  bif x2 == 1 then
  some (((x2, x0.1.2), ((x0.2.1.1.1, x3, ()), x0.2.1.2), ()), 0, ())
  else
  none
  else
  bif x1 == 1 then
  bif x2 == 0 then
  some (((x2, x0.1.2), (x0.2.1.1, (x3, x0.2.1.2.1.2), ()), ()), 0, ())
  else
  bif x2 == 1 then
  some (((x2, x0.1.2), (x0.2.1.1, (x0.2.1.2.1.1, x3, ()), ()), ()), 0, ())
  else
  none
  else
  none
  else
  bif x1 == 1 then
  bif x1 == 0 then
  bif x2 == 0 then
  some (((x0.1.1, x2, ()), ((x3, x0.2.1.1.2), x0.2.1.2), ()), 0, ())
  else
  bif x2 == 1 then
  some (((x0.1.1, x2, ()), ((x0.2.1.1.1, x3, ()), x0.2.1.2), ()), 0, ())
  else
  none
  else
  bif x1 == 1 then
  bif x2 == 0 then
  some (((x0.1.1, x2, ()), (x0.2.1.1, (x3, x0.2.1.2.1.2), ()), ()), 0, ())
  else
  bif x2 == 1 then
  some (((x0.1.1, x2, ()), (x0.2.1.1, (x0.2.1.2.1.1, x3, ()), ()), ()), 0, ())
  else
  none
  else
  none
  else
  none
  else
  bif x1 == 0 then
  bif x1 == 0 then
  bif x2 == 0 then
  some (((x2, x0.1.2), ((x3, x0.2.1.1.2), x0.2.1.2), ()), 0, ())
  else
  bif x2 == 1 then
  some (((x2, x0.1.2), ((x0.2.1.1.1, x3, ()), x0.2.1.2), ()), 0, ())
  else
  none
  else
  bif x1 == 1 then
  bif x2 == 0 then
  some (((x2, x0.1.2), (x0.2.1.1, (x3, x0.2.1.2.1.2), ()), ()), 0, ())
  else
  bif x2 == 1 then
  some (((x2, x0.1.2), (x0.2.1.1, (x0.2.1.2.1.1, x3, ()), ()), ()), 0, ())
  else
  none
  else
  none
  else
  bif x1 == 1 then
  bif x1 == 0 then
  bif x2 == 0 then
  some (((x0.1.1, x2, ()), ((x3, x0.2.1.1.2), x0.2.1.2), ()), 0, ())
  else
  bif x2 == 1 then
  some (((x0.1.1, x2, ()), ((x0.2.1.1.1, x3, ()), x0.2.1.2), ()), 0, ())
  else
  none
  else
  bif x1 == 1 then
  bif x2 == 0 then
  some (((x0.1.1, x2, ()), (x0.2.1.1, (x3, x0.2.1.2.1.2), ()), ()), 0, ())
  else
  bif x2 == 1 then
  some (((x0.1.1, x2, ()), (x0.2.1.1, (x0.2.1.2.1.1, x3, ()), ()), ()), 0, ())
  else
  none
  else
  none
  else
  none
  else
  none
  else
  bif x1 == 1 then
  bif x2 == 0 then
  bif x0.2.1.2.1.1 == x3 then
  some (((0, 0, ()), ((0, 0, ()), (0, 0, ()), ()), ()), 11, ())
  else
  bif x1 == 1 then
  (f79 k x2 x3).bind fun r8 =>
  bif r8.1 == 0 then
  some (((0, 0, ()), ((0, 0, ()), (0, 0, ()), ()), ()), 8, ())
  else
  bif x1 == 0 then
  bif x1 == 0 then
  bif x2 == 0 then
  some (((x2, x0.1.2), ((x3, x0.2.1.1.2), x0.2.1.2), ()), 0, ())
  else
  bif x2 == 1 then
  some (((x2, x0.1.2), ((x0.2.1.1.1, x3, ()), x0.2.1.2), ()), 0, ())
  else
  none
  else
  bif x1 == 1 then
  bif x2 == 0 then
  some (((x2, x0.1.2), (x0.2.1.1, (x3, x0.2.1.2.1.2), ()), ()), 0, ())
  else
  bif x2 == 1 then
  some (((x2, x0.1.2), (x0.2.1.1, (x0.2.1.2.1.1, x3, ()), ()), ()), 0, ())
  else
  none
  else
  none
  else
  bif x1 == 1 then
  bif x1 == 0 then
  bif x2 == 0 then
  some (((x0.1.1, x2, ()), ((x3, x0.2.1.1.2), x0.2.1.2), ()), 0, ())
  else
  bif x2 == 1 then
  some (((x0.1.1, x2, ()), ((x0.2.1.1.1, x3, ()), x0.2.1.2), ()), 0, ())
  else
  none
  else
  bif x1 == 1 then
  bif x2 == 0 then
  some (((x0.1.1, x2, ()), (x0.2.1.1, (x3, x0.2.1.2.1.2), ()), ()), 0, ())
  else
  bif x2 == 1 then
  some (((x0.1.1, x2, ()), (x0.2.1.1, (x0.2.1.2.1.1, x3, ()), ()), ()), 0, ())
  else
  none
  else
  none
  else
  none
  else
  bif x1 == 0 then
  bif x1 == 0 then
  bif x2 == 0 then
  some (((x2, x0.1.2), ((x3, x0.2.1.1.2), x0.2.1.2), ()), 0, ())
  else
  bif x2 == 1 then
  some (((x2, x0.1.2), ((x0.2.1.1.1, x3, ()), x0.2.1.2), ()), 0, ())
  else
  none
  else
  bif x1 == 1 then
  bif x2 == 0 then
  some (((x2, x0.1.2), (x0.2.1.1, (x3, x0.2.1.2.1.2), ()), ()), 0, ())
  else
  bif x2 == 1 then
  some (((x2, x0.1.2), (x0.2.1.1, (x0.2.1.2.1.1, x3, ()), ()), ()), 0, ())
  else
  none
  else
  none
  else
  bif x1 == 1 then
  bif x1 == 0 then
  bif x2 == 0 then
  some (((x0.1.1, x2, ()), ((x3, x0.2.1.1.2), x0.2.1.2), ()), 0, ())
  else
  bif x2 == 1 then
  some (((x0.1.1, x2, ()), ((x0.2.1.1.1, x3, ()), x0.2.1.2), ()), 0, ())
  else
  none
  else
  bif x1 == 1 then
  bif x2 == 0 then
  some (((x0.1.1, x2, ()), (x0.2.1.1, (x3, x0.2.1.2.1.2), ()), ()), 0, ())
  else
  bif x2 == 1 then
  some (((x0.1.1, x2, ()), (x0.2.1.1, (x0.2.1.2.1.1, x3, ()), ()), ()), 0, ())
  else
  none
  else
  none
  else
  none
  else
  bif x2 == 1 then
  bif x0.2.1.2.1.2.1 == x3 then
  some (((0, 0, ()), ((0, 0, ()), (0, 0, ()), ()), ()), 11, ())
  else
  bif x1 == 1 then
  (f79 k x2 x3).bind fun r9 =>
  bif r9.1 == 0 then
  some (((0, 0, ()), ((0, 0, ()), (0, 0, ()), ()), ()), 8, ())
  else
  bif x1 == 0 then
  bif x1 == 0 then
  bif x2 == 0 then
  some (((x2, x0.1.2), ((x3, x0.2.1.1.2), x0.2.1.2), ()), 0, ())
  else
  bif x2 == 1 then
  some (((x2, x0.1.2), ((x0.2.1.1.1, x3, ()), x0.2.1.2), ()), 0, ())
  else
  none
  else
  bif x1 == 1 then
  bif x2 == 0 then
  some (((x2, x0.1.2), (x0.2.1.1, (x3, x0.2.1.2.1.2), ()), ()), 0, ())
  else
  bif x2 == 1 then
  some (((x2, x0.1.2), (x0.2.1.1, (x0.2.1.2.1.1, x3, ()), ()), ()), 0, ())
  else
  none
  else
  none
  else
  bif x1 == 1 then
  bif x1 == 0 then
  bif x2 == 0 then
  some (((x0.1.1, x2, ()), ((x3, x0.2.1.1.2), x0.2.1.2), ()), 0, ())
  else
  bif x2 == 1 then
  some (((x0.1.1, x2, ()), ((x0.2.1.1.1, x3, ()), x0.2.1.2), ()), 0, ())
  else
  none
  else
  bif x1 == 1 then
  bif x2 == 0 then
  some (((x0.1.1, x2, ()), (x0.2.1.1, (x3, x0.2.1.2.1.2), ()), ()), 0, ())
  else
  bif x2 == 1 then
  some (((x0.1.1, x2, ()), (x0.2.1.1, (x0.2.1.2.1.1, x3, ()), ()), ()), 0, ())
  else
  none
  else
  none
  else
  none
  else
  bif x1 == 0 then
  bif x1 == 0 then
  bif x2 == 0 then
  some (((x2, x0.1.2), ((x3, x0.2.1.1.2), x0.2.1.2), ()), 0, ())
  else
  bif x2 == 1 then
  some (((x2, x0.1.2), ((x0.2.1.1.1, x3, ()), x0.2.1.2), ()), 0, ())
  else
  none
  else
  bif x1 == 1 then
  bif x2 == 0 then
  some (((x2, x0.1.2), (x0.2.1.1, (x3, x0.2.1.2.1.2), ()), ()), 0, ())
  else
  bif x2 == 1 then
  some (((x2, x0.1.2), (x0.2.1.1, (x0.2.1.2.1.1, x3, ()), ()), ()), 0, ())
  else
  none
  else
  none
  else
  bif x1 == 1 then
  bif x1 == 0 then
  bif x2 == 0 then
  some (((x0.1.1, x2, ()), ((x3, x0.2.1.1.2), x0.2.1.2), ()), 0, ())
  else
  bif x2 == 1 then
  some (((x0.1.1, x2, ()), ((x0.2.1.1.1, x3, ()), x0.2.1.2), ()), 0, ())
  else
  none
  else
  bif x1 == 1 then
  bif x2 == 0 then
  some (((x0.1.1, x2, ()), (x0.2.1.1, (x3, x0.2.1.2.1.2), ()), ()), 0, ())
  else
  bif x2 == 1 then
  some (((x0.1.1, x2, ()), (x0.2.1.1, (x0.2.1.2.1.1, x3, ()), ()), ()), 0, ())
  else
  none
  else
  none
  else
  none
  else
  none
  else
  none
  else
  none
noncomputable def f43_sig (k : Nat) : Sig := ⟨[.val ty52, .val (.int .i64), .val (.int .i64), .val (.int .i64)], [], [[.val ty52, .val (.int .i64)]], fun x => f43 k x.1 x.2.1 x.2.2.1 x.2.2.2.1⟩
noncomputable def E_f43 (k : Nat) : Env := ⟨Tryz.prog, G0, scons 79 [f79_sig k] (scons 78 [f78_sig k] (snil)), tnil, tnil, unil, k, qnil⟩
theorem f43_run (k : Nat) (x : (lTy (lay 0 (f43_sig k).ins)).den) : runF (E_f43 k) Tryz.f43 (f43_sig k) x = (f43_sig k).F x := by kernel_rfl
theorem f43_ok [Dr] (k : Nat) : FnOK Tryz.prog G0 43 (f43_sig k) :=
  fn_ok2 (E := E_f43 k) (env_cons (one_sig (f79_ok k)) (env_cons (one_sig (f78_ok k)) (env_nil))) (qenv_nil) mixed Tryz.func43 Tryz.call43 (by kernel_rfl) (by kernel_rfl) (m := 0) (by kernel_rfl) trivial (sk := []) (by kernel_rfl) trivial (f43_run k)

noncomputable def f80 (k : Nat) (x0 : (Int × Int × Unit) × ((Int × Int × Unit) × (Int × Int × Unit) × Unit) × Unit) (x1 : Int) (x2 : Int) (x3 : Int) : Option ((((Int × Int × Unit) × ((Int × Int × Unit) × (Int × Int × Unit) × Unit) × Unit) × Int × Unit)) :=
  (f78 k x0 x1 x2 x3).bind fun r1 =>
  bif r1.1 != 0 then
  some (((0, 0, ()), ((0, 0, ()), (0, 0, ()), ()), ()), r1)
  else
  bif x1 == 0 then
  bif x0.1.1 != (w64 (1 - x2)) then
  some (((0, 0, ()), ((0, 0, ()), (0, 0, ()), ()), ()), 10, ())
  else
  some ((((-1), (-1), ()), x0.2), 0, ())
  else
  bif x1 == 1 then
  bif x0.1.2.1 != (w64 (1 - x2)) then
  some (((0, 0, ()), ((0, 0, ()), (0, 0, ()), ()), ()), 10, ())
  else
  some ((((-1), (-1), ()), x0.2), 0, ())
  else
  none
noncomputable def f80_sig (k : Nat) : Sig := ⟨[.val ty52, .val (.int .i64), .val (.int .i64), .val (.int .i64)], [], [[.val ty52, .val (.int .i64)]], fun x => f80 k x.1 x.2.1 x.2.2.1 x.2.2.2.1⟩
noncomputable def E_f80 (k : Nat) : Env := ⟨Tryz.prog, G0, scons 78 [f78_sig k] (snil), tnil, tnil, unil, k, qnil⟩
theorem f80_run (k : Nat) (x : (lTy (lay 0 (f80_sig k).ins)).den) : runF (E_f80 k) Tryz.f80 (f80_sig k) x = (f80_sig k).F x := by kernel_rfl
theorem f80_ok [Dr] (k : Nat) : FnOK Tryz.prog G0 80 (f80_sig k) :=
  fn_ok2 (E := E_f80 k) (env_cons (one_sig (f78_ok k)) (env_nil)) (qenv_nil) mixed Tryz.func80 Tryz.call80 (by kernel_rfl) (by kernel_rfl) (m := 0) (by kernel_rfl) trivial (sk := []) (by kernel_rfl) trivial (f80_run k)

noncomputable def f81 (k : Nat) (x0 : (Int × Int × Unit) × ((Int × Int × Unit) × (Int × Int × Unit) × Unit) × Unit) (x1 : Int) : Option ((((Int × Int × Unit) × ((Int × Int × Unit) × (Int × Int × Unit) × Unit) × Unit) × Int × Unit)) :=
  (f78 k x0 0 0 x1).bind fun r1 =>
  bif r1.1 != 0 then
  some (((0, 0, ()), ((0, 0, ()), (0, 0, ()), ()), ()), r1)
  else
  some ((((-1), (-1), ()), ((if x1 < x0.2.1.1.1 then x1 else x0.2.1.1.1, if x1 < x0.2.1.1.2.1 then x1 else x0.2.1.1.2.1, ()), (if x1 < x0.2.1.2.1.1 then x1 else x0.2.1.2.1.1, if x1 < x0.2.1.2.1.2.1 then x1 else x0.2.1.2.1.2.1, ()), ()), ()), 0, ())
noncomputable def f81_sig (k : Nat) : Sig := ⟨[.val ty52, .val (.int .i64)], [], [[.val ty52, .val (.int .i64)]], fun x => f81 k x.1 x.2.1⟩
noncomputable def E_f81 (k : Nat) : Env := ⟨Tryz.prog, G0, scons 78 [f78_sig k] (snil), tnil, tnil, ucons 9 3 (ucons 6 3 (unil)), k, qnil⟩
theorem f81_run (k : Nat) (x : (lTy (lay 0 (f81_sig k).ins)).den) : runF (E_f81 k) Tryz.f81 (f81_sig k) x = (f81_sig k).F x := by kernel_rfl
theorem f81_ok [Dr] (k : Nat) : FnOK Tryz.prog G0 81 (f81_sig k) :=
  fn_ok2 (E := E_f81 k) (env_cons (one_sig (f78_ok k)) (env_nil)) (qenv_nil) mixed Tryz.func81 Tryz.call81 (by kernel_rfl) (by kernel_rfl) (m := 2) (by kernel_rfl) ⟨⟨trivial, loop_none (by kernel_rfl)⟩, loop_none (by kernel_rfl)⟩ (sk := []) (by kernel_rfl) trivial (f81_run k)

noncomputable def f82 (k : Nat) (x0 : (ByteArray × Int × Int × (List (Int × Int × Int × (List (Int × Int × Int × Int × Unit)) × Unit)) × (List Int) × Bool × Bool × (List (Int × Int × Int × Bool × Unit)) × Int × Int × Int × Unit) × (List ((List Int) × ((List Int) × (List Int) × Unit) × Int × Int × Unit)) × (List (Int × Int × Int × Unit)) × Unit) : Option ((Int × ((ByteArray × Int × Int × (List (Int × Int × Int × (List (Int × Int × Int × Int × Unit)) × Unit)) × (List Int) × Bool × Bool × (List (Int × Int × Int × Bool × Unit)) × Int × Int × Int × Unit) × (List ((List Int) × ((List Int) × (List Int) × Unit) × Int × Int × Unit)) × (List (Int × Int × Int × Unit)) × Unit) × Unit)) :=
  bif (x0.2.2.1.length : Int) == 0 then
  some (8, x0, ())
  else
  bif decide (0 ≤ (w64 ((x0.2.1.length : Int) - 1))) && decide ((w64 ((x0.2.1.length : Int) - 1)) ≤ (x0.2.1.length : Int)) then
  bif decide (0 ≤ (w64 ((x0.2.2.1.length : Int) - 1))) && decide ((w64 ((x0.2.2.1.length : Int) - 1)) ≤ (x0.2.2.1.length : Int)) then
  some (0, (x0.1, first (w64 ((x0.2.1.length : Int) - 1)).toNat x0.2.1, first (w64 ((x0.2.2.1.length : Int) - 1)).toNat x0.2.2.1, ()), ())
  else
  none
  else
  none
noncomputable def f82_sig (k : Nat) : Sig := ⟨[.box ck66], [0], [[.val (.int .i64), .box ck66]], fun x => f82 k x.1⟩
noncomputable def E_f82 (k : Nat) : Env := ⟨Tryz.prog, G0, snil, tnil, tnil, unil, k, qnil⟩
theorem f82_run (k : Nat) (x : (lTy (lay 0 (f82_sig k).ins)).den) : runF (E_f82 k) Tryz.f82 (f82_sig k) x = (f82_sig k).F x := by kernel_rfl
theorem f82_ok [Dr] (k : Nat) : FnOK Tryz.prog G0 82 (f82_sig k) :=
  fn_ok2 (E := E_f82 k) (env_nil) (qenv_nil) mixed Tryz.func82 Tryz.call82 (by kernel_rfl) (by kernel_rfl) (m := 0) (by kernel_rfl) trivial (sk := []) (by kernel_rfl) trivial (f82_run k)

noncomputable def l44_14 (k : Nat) : Nat → ((ByteArray × Int × Int × (List (Int × Int × Int × (List (Int × Int × Int × Int × Unit)) × Unit)) × (List Int) × Bool × Bool × (List (Int × Int × Int × Bool × Unit)) × Int × Int × Int × Unit) × ((List (Int × Int × Unit)) × Int × Int × Unit) × ((ByteArray × Int × Int × (List (Int × Int × Int × (List (Int × Int × Int × Int × Unit)) × Unit)) × (List Int) × Bool × Bool × (List (Int × Int × Int × Bool × Unit)) × Int × Int × Int × Unit) × (List ((List Int) × ((List Int) × (List Int) × Unit) × Int × Int × Unit)) × (List (Int × Int × Int × Unit)) × Unit) × ((List (Int × Int × Int × Unit)) × Int × Int × ((Int × Int × Unit) × (Int × Int × Unit) × (Int × Int × Unit) × Int × Int × Bool × Int × Unit) × ((Int × Int × Unit) × ((Int × Int × Unit) × (Int × Int × Unit) × Unit) × Unit) × (List (Int × (Int × Int × Int × Unit) × Unit)) × Unit) × Int × (List (ByteArray × Int × Unit)) × Unit) → ((List (Int × Int × Int × Unit)) × Int × Int × ((Int × Int × Unit) × (Int × Int × Unit) × (Int × Int × Unit) × Int × Int × Bool × Int × Unit) × ((Int × Int × Unit) × ((Int × Int × Unit) × (Int × Int × Unit) × Unit) × Unit) × (List (Int × (Int × Int × Int × Unit) × Unit)) × Unit) → (Int × Int × Int × Int × (Int × Int × Int × Unit) × Unit) → Int → Int → Int → Int → Option ((((ByteArray × Int × Int × (List (Int × Int × Int × (List (Int × Int × Int × Int × Unit)) × Unit)) × (List Int) × Bool × Bool × (List (Int × Int × Int × Bool × Unit)) × Int × Int × Int × Unit) × ((List (Int × Int × Unit)) × Int × Int × Unit) × ((ByteArray × Int × Int × (List (Int × Int × Int × (List (Int × Int × Int × Int × Unit)) × Unit)) × (List Int) × Bool × Bool × (List (Int × Int × Int × Bool × Unit)) × Int × Int × Int × Unit) × (List ((List Int) × ((List Int) × (List Int) × Unit) × Int × Int × Unit)) × (List (Int × Int × Int × Unit)) × Unit) × ((List (Int × Int × Int × Unit)) × Int × Int × ((Int × Int × Unit) × (Int × Int × Unit) × (Int × Int × Unit) × Int × Int × Bool × Int × Unit) × ((Int × Int × Unit) × ((Int × Int × Unit) × (Int × Int × Unit) × Unit) × Unit) × (List (Int × (Int × Int × Int × Unit) × Unit)) × Unit) × Int × (List (ByteArray × Int × Unit)) × Unit) × ((List (Int × Int × Int × Unit)) × Int × Int × ((Int × Int × Unit) × (Int × Int × Unit) × (Int × Int × Unit) × Int × Int × Bool × Int × Unit) × ((Int × Int × Unit) × ((Int × Int × Unit) × (Int × Int × Unit) × Unit) × Unit) × (List (Int × (Int × Int × Int × Unit) × Unit)) × Unit) × (Int × Int × Int × Int × (Int × Int × Int × Unit) × Unit) × Int × Int × Unit))
 | 0, _, _, _, _, _, _, _ => none
 | j + 1, s0, s1, s5, s7, s10, s65, s66 =>
  bif decide (s66 < s65) then
  (f82 k s0.2.2.1).bind fun r1 =>
  l44_14 k j (s0.1, s0.2.1, r1.2.1, s0.2.2.2) s1 s5 s7 s10 s65 (w64 (s66 + 1))
  else
  some (s0, s1, s5, s7, s10, ())
noncomputable def l44_14_sig (k : Nat) : LoopSig := ⟨[(0, .obj ck68), (1, .obj (.box ck63)), (5, .obj ck49), (7, .obj ck1), (10, .obj ck1), (65, .obj ck1), (66, .obj ck1)], [(.exit 0, [(0, .obj ck68), (1, .obj (.box ck63)), (5, .obj ck49), (7, .obj ck1), (10, .obj ck1)])], fun j x => l44_14 k j x.1 x.2.1 x.2.2.1 x.2.2.2.1 x.2.2.2.2.1 x.2.2.2.2.2.1 x.2.2.2.2.2.2.1⟩
noncomputable def f44 (k : Nat) (x0 : (ByteArray × Int × Int × (List (Int × Int × Int × (List (Int × Int × Int × Int × Unit)) × Unit)) × (List Int) × Bool × Bool × (List (Int × Int × Int × Bool × Unit)) × Int × Int × Int × Unit) × ((List (Int × Int × Unit)) × Int × Int × Unit) × ((ByteArray × Int × Int × (List (Int × Int × Int × (List (Int × Int × Int × Int × Unit)) × Unit)) × (List Int) × Bool × Bool × (List (Int × Int × Int × Bool × Unit)) × Int × Int × Int × Unit) × (List ((List Int) × ((List Int) × (List Int) × Unit) × Int × Int × Unit)) × (List (Int × Int × Int × Unit)) × Unit) × ((List (Int × Int × Int × Unit)) × Int × Int × ((Int × Int × Unit) × (Int × Int × Unit) × (Int × Int × Unit) × Int × Int × Bool × Int × Unit) × ((Int × Int × Unit) × ((Int × Int × Unit) × (Int × Int × Unit) × Unit) × Unit) × (List (Int × (Int × Int × Int × Unit) × Unit)) × Unit) × Int × (List (ByteArray × Int × Unit)) × Unit) (x1 : (List (Int × Int × Int × Unit)) × Int × Int × ((Int × Int × Unit) × (Int × Int × Unit) × (Int × Int × Unit) × Int × Int × Bool × Int × Unit) × ((Int × Int × Unit) × ((Int × Int × Unit) × (Int × Int × Unit) × Unit) × Unit) × (List (Int × (Int × Int × Int × Unit) × Unit)) × Unit) (x2 : Int × Int × Int × Int × (Int × Int × Int × Unit) × Unit) : Option ((Int × ((ByteArray × Int × Int × (List (Int × Int × Int × (List (Int × Int × Int × Int × Unit)) × Unit)) × (List Int) × Bool × Bool × (List (Int × Int × Int × Bool × Unit)) × Int × Int × Int × Unit) × ((List (Int × Int × Unit)) × Int × Int × Unit) × ((ByteArray × Int × Int × (List (Int × Int × Int × (List (Int × Int × Int × Int × Unit)) × Unit)) × (List Int) × Bool × Bool × (List (Int × Int × Int × Bool × Unit)) × Int × Int × Int × Unit) × (List ((List Int) × ((List Int) × (List Int) × Unit) × Int × Int × Unit)) × (List (Int × Int × Int × Unit)) × Unit) × ((List (Int × Int × Int × Unit)) × Int × Int × ((Int × Int × Unit) × (Int × Int × Unit) × (Int × Int × Unit) × Int × Int × Bool × Int × Unit) × ((Int × Int × Unit) × ((Int × Int × Unit) × (Int × Int × Unit) × Unit) × Unit) × (List (Int × (Int × Int × Int × Unit) × Unit)) × Unit) × Int × (List (ByteArray × Int × Unit)) × Unit) × ((List (Int × Int × Int × Unit)) × Int × Int × ((Int × Int × Unit) × (Int × Int × Unit) × (Int × Int × Unit) × Int × Int × Bool × Int × Unit) × ((Int × Int × Unit) × ((Int × Int × Unit) × (Int × Int × Unit) × Unit) × Unit) × (List (Int × (Int × Int × Int × Unit) × Unit)) × Unit) × Unit)) :=
  (f38 k x0.2.2.1).bind fun r1 =>
  (f80 k x1.2.2.2.2.1 x2.2.2.1 x2.2.1 (r1.1.length : Int)).bind fun r2 =>
  bif r2.2.1 != 0 then
  some (r2.2.1, (x0.1, x0.2.1, r1.2.1, x0.2.2.2), x1, ())
  else
  bif x2.2.2.1 == 0 then
  some (0, (x0.1, x0.2.1, r1.2.1, x0.2.2.2), (x1.1, 3, 4, x1.2.2.2.1, r2.1, x1.2.2.2.2.2), ())
  else
  (f79 k (w64 (1 - x2.2.1)) (r1.1.length : Int)).bind fun r3 =>
  (f81 k r2.1 (w64 ((r1.1.length : Int) - r3.1))).bind fun r4 =>
  bif r4.2.1 != 0 then
  some (r4.2.1, (x0.1, x0.2.1, r1.2.1, x0.2.2.2), (x1.1, x1.2.1, x1.2.2.1, x1.2.2.2.1, r4.1, x1.2.2.2.2.2), ())
  else
  (l44_14 k k (x0.1, x0.2.1, r1.2.1, x0.2.2.2) (x1.1, x1.2.1, x1.2.2.1, x1.2.2.2.1, r4.1, x1.2.2.2.2.2) x2 (r1.1.length : Int) r3.1 r3.1 0).bind fun o5 =>
  some (0, o5.1, (o5.2.1.1, o5.2.1.2.1, o5.2.1.2.2.1, (o5.2.1.2.2.2.1.1, o5.2.1.2.2.2.1.2.1, o5.2.1.2.2.2.1.2.2.1, (w64 (o5.2.2.2.1 - o5.2.2.2.2.1)).tmod 2, o5.2.2.1.2.2.2.1, o5.2.1.2.2.2.1.2.2.2.2.2), o5.2.1.2.2.2.2.1, [], ()), ())
noncomputable def f44_sig (k : Nat) : Sig := ⟨[.box ck67, .box ck63, .val ty43], [0, 1], [[.val (.int .i64), .box ck67, .box ck63]], fun x => f44 k x.1 x.2.1 x.2.2.1⟩
noncomputable def E_f44 (k : Nat) : Env := ⟨Tryz.prog, G0, scons 82 [f82_sig k] (scons 81 [f81_sig k] (scons 80 [f80_sig k] (scons 79 [f79_sig k] (scons 38 [f38_sig k] (snil))))), tcons 14 (l44_14_sig k) (tnil), tnil, unil, k, qnil⟩
theorem l44_14_ok (k : Nat) : LoopOK (E_f44 k) ⟨Tryz.f44.ntmps, [0, 1], G0⟩ (nthC 0 (loopsIn (Tryz.f44.body.getD .skip))) :=
  loop_ok (ls := l44_14_sig k) (by kernel_rfl) (fun _ => by kernel_rfl) (fun j x => by kernel_rfl)
theorem f44_run (k : Nat) (x : (lTy (lay 0 (f44_sig k).ins)).den) : runF (E_f44 k) Tryz.f44 (f44_sig k) x = (f44_sig k).F x := by kernel_rfl
theorem f44_ok [Dr] (k : Nat) : FnOK Tryz.prog G0 44 (f44_sig k) :=
  fn_ok2 (E := E_f44 k) (env_cons (one_sig (f82_ok k)) (env_cons (one_sig (f81_ok k)) (env_cons (one_sig (f80_ok k)) (env_cons (one_sig (f79_ok k)) (env_cons (one_sig (f38_ok k)) (env_nil)))))) (qenv_nil) mixed Tryz.func44 Tryz.call44 (by kernel_rfl) (by kernel_rfl) (m := 1) (by kernel_rfl) ⟨trivial, l44_14_ok k⟩ (sk := []) (by kernel_rfl) trivial (f44_run k)

noncomputable def f45 (k : Nat) (x0 : (Int × Int × Unit) × ((Int × Int × Unit) × (Int × Int × Unit) × Unit) × Unit) (x1 : Int) (x2 : Int) (x3 : Int) : Option ((((Int × Int × Unit) × ((Int × Int × Unit) × (Int × Int × Unit) × Unit) × Unit) × Int × Unit)) :=
  (f78 k x0 x1 x2 x3).bind fun r1 =>
  bif r1.1 != 0 then
  some (((0, 0, ()), ((0, 0, ()), (0, 0, ()), ()), ()), r1)
  else
  bif x1 == 0 then
  bif x0.1.1 != (w64 (1 - x2)) then
  some (((0, 0, ()), ((0, 0, ()), (0, 0, ()), ()), ()), 10, ())
  else
  bif x1 == 0 then
  some ((((-1), x0.1.2), x0.2), 0, ())
  else
  bif x1 == 1 then
  some (((x0.1.1, (-1), ()), x0.2), 0, ())
  else
  none
  else
  bif x1 == 1 then
  bif x0.1.2.1 != (w64 (1 - x2)) then
  some (((0, 0, ()), ((0, 0, ()), (0, 0, ()), ()), ()), 10, ())
  else
  bif x1 == 0 then
  some ((((-1), x0.1.2), x0.2), 0, ())
  else
  bif x1 == 1 then
  some (((x0.1.1, (-1), ()), x0.2), 0, ())
  else
  none
  else
  none
noncomputable def f45_sig (k : Nat) : Sig := ⟨[.val ty52, .val (.int .i64), .val (.int .i64), .val (.int .i64)], [], [[.val ty52, .val (.int .i64)]], fun x => f45 k x.1 x.2.1 x.2.2.1 x.2.2.2.1⟩
noncomputable def E_f45 (k : Nat) : Env := ⟨Tryz.prog, G0, scons 78 [f78_sig k] (snil), tnil, tnil, unil, k, qnil⟩
theorem f45_run (k : Nat) (x : (lTy (lay 0 (f45_sig k).ins)).den) : runF (E_f45 k) Tryz.f45 (f45_sig k) x = (f45_sig k).F x := by kernel_rfl
theorem f45_ok [Dr] (k : Nat) : FnOK Tryz.prog G0 45 (f45_sig k) :=
  fn_ok2 (E := E_f45 k) (env_cons (one_sig (f78_ok k)) (env_nil)) (qenv_nil) mixed Tryz.func45 Tryz.call45 (by kernel_rfl) (by kernel_rfl) (m := 0) (by kernel_rfl) trivial (sk := []) (by kernel_rfl) trivial (f45_run k)

noncomputable def l184_2 (k : Nat) : Nat → Int → Int → (ByteArray × Int × Int × (List (Int × Int × Int × (List (Int × Int × Int × Int × Unit)) × Unit)) × (List Int) × Bool × Bool × (List (Int × Int × Int × Bool × Unit)) × Int × Int × Int × Unit) → Int → Option ((Int × Int × Unit) ⊕ (Bool × Unit))
 | 0, _, _, _, _ => none
 | j + 1, s1, s2, s3, s7 =>
  bif decide (s7 < 6) then
  bif s1 == s2 then
  some (.inr (true, ()))
  else
  bif decide (0 ≤ s1) && decide (s1 < (s3.2.2.2.1.length : Int)) then
  bif (rd ((0, 0, 0, [], ()) : Int × Int × Int × (List (Int × Int × Int × Int × Unit)) × Unit) s3.2.2.2.1 s1).2.2.1 == 0 then
  some (.inr (false, ()))
  else
  bif decide (0 ≤ s1) && decide (s1 < (s3.2.2.2.1.length : Int)) then
  l184_2 k j (w64 ((rd ((0, 0, 0, [], ()) : Int × Int × Int × (List (Int × Int × Int × Int × Unit)) × Unit) s3.2.2.2.1 s1).2.2.1 - 1)) s2 s3 (w64 (s7 + 1))
  else
  none
  else
  none
  else
  some (.inl (s1, s2, ()))
noncomputable def l184_2_sig (k : Nat) : LoopSig := ⟨[(1, .obj ck1), (2, .obj ck1), (3, .obj ck58), (7, .obj ck1)], [(.exit 0, [(1, .obj ck1), (2, .obj ck1)]), (.ret, [(6, .obj (.val (.bool)))])], fun j x => l184_2 k j x.1 x.2.1 x.2.2.1 x.2.2.2.1⟩
noncomputable def f184 (k : Nat) (x0 : ByteArray × Int × Int × (List (Int × Int × Int × (List (Int × Int × Int × Int × Unit)) × Unit)) × (List Int) × Bool × Bool × (List (Int × Int × Int × Bool × Unit)) × Int × Int × Int × Unit) (x1 : Int) (x2 : Int) : Option ((Bool × Unit)) :=
  (l184_2 k k x1 x2 x0 0).bind fun w31 =>
  Sum.elim
  (fun y1 =>
  some (y1.1 == y1.2.1, ()))
  (fun y2 =>
  some y2)
  w31
noncomputable def f184_sig (k : Nat) : Sig := ⟨[.val ty56, .val (.int .i64), .val (.int .i64)], [], [[.val (.bool)]], fun x => f184 k x.1 x.2.1 x.2.2.1⟩
noncomputable def E_f184 (k : Nat) : Env := ⟨Tryz.prog, G0, snil, tcons 2 (l184_2_sig k) (tnil), tnil, unil, k, qnil⟩
theorem l184_2_ok (k : Nat) : LoopOK (E_f184 k) ⟨Tryz.f184.ntmps, [], G0⟩ (nthC 0 (loopsIn (Tryz.f184.body.getD .skip))) :=
  loop_ok (ls := l184_2_sig k) (by kernel_rfl) (fun _ => by kernel_rfl) (fun j x => by kernel_rfl)
theorem f184_run (k : Nat) (x : (lTy (lay 0 (f184_sig k).ins)).den) : runF (E_f184 k) Tryz.f184 (f184_sig k) x = (f184_sig k).F x := by kernel_rfl
theorem f184_ok [Dr] (k : Nat) : FnOK Tryz.prog G0 184 (f184_sig k) :=
  fn_ok2 (E := E_f184 k) (env_nil) (qenv_nil) mixed Tryz.func184 Tryz.call184 (by kernel_rfl) (by kernel_rfl) (m := 1) (by kernel_rfl) ⟨trivial, l184_2_ok k⟩ (sk := []) (by kernel_rfl) trivial (f184_run k)

noncomputable def l183_4 (k : Nat) : Nat → Int → Int → (ByteArray × Int × Int × (List (Int × Int × Int × (List (Int × Int × Int × Int × Unit)) × Unit)) × (List Int) × Bool × Bool × (List (Int × Int × Int × Bool × Unit)) × Int × Int × Int × Unit) → Int → Int → Bool → (List (Int × Int × Int × Int × Unit)) → Int → Int → Option ((Int × (ByteArray × Int × Int × (List (Int × Int × Int × (List (Int × Int × Int × Int × Unit)) × Unit)) × (List Int) × Bool × Bool × (List (Int × Int × Int × Bool × Unit)) × Int × Int × Int × Unit) × Int × Int × Bool × Unit))
 | 0, _, _, _, _, _, _, _, _, _ => none
 | j + 1, s1, s2, s3, s4, s5, s6, s26, s27, s28 =>
  bif decide (s28 < s27) then
  bif decide (0 ≤ s28) && decide (s28 < (s26.length : Int)) then
  bif s6 then
  l183_4 k j s1 s2 s3 s4 s5 true s26 s27 (w64 (s28 + 1))
  else
  bif decide (s1 > 0) then
  l183_4 k j s1 s2 s3 s4 s5 ((rd ((0, 0, 0, 0, ()) : Int × Int × Int × Int × Unit) s26 s28).2.2.2.1 != 0) s26 s27 (w64 (s28 + 1))
  else
  l183_4 k j s1 s2 s3 s4 s5 false s26 s27 (w64 (s28 + 1))
  else
  none
  else
  some (s2, s3, s4, s5, s6, ())
noncomputable def l183_4_sig (k : Nat) : LoopSig := ⟨[(1, .obj ck1), (2, .obj ck6), (3, .obj ck58), (4, .obj ck6), (5, .obj ck6), (6, .obj ck4), (26, .obj (.val (.sl ty22))), (27, .obj ck1), (28, .obj ck1)], [(.exit 0, [(2, .obj ck6), (3, .obj ck58), (4, .obj ck6), (5, .obj ck6), (6, .obj ck4)])], fun j x => l183_4 k j x.1 x.2.1 x.2.2.1 x.2.2.2.1 x.2.2.2.2.1 x.2.2.2.2.2.1 x.2.2.2.2.2.2.1 x.2.2.2.2.2.2.2.1 x.2.2.2.2.2.2.2.2.1⟩
noncomputable def f183 (k : Nat) (x0 : Int) (x1 : Int) (x2 : Int) (x3 : ByteArray × Int × Int × (List (Int × Int × Int × (List (Int × Int × Int × Int × Unit)) × Unit)) × (List Int) × Bool × Bool × (List (Int × Int × Int × Bool × Unit)) × Int × Int × Int × Unit) (x4 : Int) (x5 : Int) (x6 : Bool) : Option ((Int × (ByteArray × Int × Int × (List (Int × Int × Int × (List (Int × Int × Int × Int × Unit)) × Unit)) × (List Int) × Bool × Bool × (List (Int × Int × Int × Bool × Unit)) × Int × Int × Int × Unit) × Int × Int × Bool × Unit)) :=
  (f184 k x3 x0 x4).bind fun r1 =>
  bif r1.1 then
  bif decide (0 ≤ x0) && decide (x0 < (x3.2.2.2.1.length : Int)) then
  (l183_4 k k x1 (w64 (x2 + x1)) x3 x4 (w64 (x5 + x1)) x6 (rd ((0, 0, 0, [], ()) : Int × Int × Int × (List (Int × Int × Int × Int × Unit)) × Unit) x3.2.2.2.1 x0).2.2.2.1 ((rd ((0, 0, 0, [], ()) : Int × Int × Int × (List (Int × Int × Int × Int × Unit)) × Unit) x3.2.2.2.1 x0).2.2.2.1.length : Int) 0).bind fun o2 =>
  some o2
  else
  none
  else
  bif decide (0 ≤ x0) && decide (x0 < (x3.2.2.2.1.length : Int)) then
  (l183_4 k k x1 (w64 (x2 + x1)) x3 x4 x5 x6 (rd ((0, 0, 0, [], ()) : Int × Int × Int × (List (Int × Int × Int × Int × Unit)) × Unit) x3.2.2.2.1 x0).2.2.2.1 ((rd ((0, 0, 0, [], ()) : Int × Int × Int × (List (Int × Int × Int × Int × Unit)) × Unit) x3.2.2.2.1 x0).2.2.2.1.length : Int) 0).bind fun o3 =>
  some o3
  else
  none
noncomputable def f183_sig (k : Nat) : Sig := ⟨[.val (.int .i64), .val (.int .i64), .box ck1, .box (.val ty56), .box ck1, .box ck1, .box (.val (.bool))], [2, 3, 4, 5, 6], [[.box ck1, .box (.val ty56), .box ck1, .box ck1, .box (.val (.bool))]], fun x => f183 k x.1 x.2.1 x.2.2.1 x.2.2.2.1 x.2.2.2.2.1 x.2.2.2.2.2.1 x.2.2.2.2.2.2.1⟩
noncomputable def E_f183 (k : Nat) : Env := ⟨Tryz.prog, G0, scons 184 [f184_sig k] (snil), tcons 4 (l183_4_sig k) (tnil), tnil, unil, k, qnil⟩
theorem l183_4_ok (k : Nat) : LoopOK (E_f183 k) ⟨Tryz.f183.ntmps, [2, 3, 4, 5, 6], G0⟩ (nthC 0 (loopsIn (Tryz.f183.body.getD .skip))) :=
  loop_ok (ls := l183_4_sig k) (by kernel_rfl) (fun _ => by kernel_rfl) (fun j x => by kernel_rfl)
theorem f183_run (k : Nat) (x : (lTy (lay 0 (f183_sig k).ins)).den) : runF (E_f183 k) Tryz.f183 (f183_sig k) x = (f183_sig k).F x := by kernel_rfl
theorem f183_ok [Dr] (k : Nat) : FnOK Tryz.prog G0 183 (f183_sig k) :=
  fn_ok2 (E := E_f183 k) (env_cons (one_sig (f184_ok k)) (env_nil)) (qenv_nil) mixed Tryz.func183 Tryz.call183 (by kernel_rfl) (by kernel_rfl) (m := 1) (by kernel_rfl) ⟨trivial, l183_4_ok k⟩ (sk := []) (by kernel_rfl) trivial (f183_run k)

noncomputable def l150_4 (k : Nat) : Nat → Int → (ByteArray × Int × Int × (List (Int × Int × Int × (List (Int × Int × Int × Int × Unit)) × Unit)) × (List Int) × Bool × Bool × (List (Int × Int × Int × Bool × Unit)) × Int × Int × Int × Unit) → ((List Int) × ((List Int) × (List Int) × Unit) × Int × Int × Unit) → Int → Int → Int → Bool → Unit → (List Int) → Int → Int → Option ((Int × (ByteArray × Int × Int × (List (Int × Int × Int × (List (Int × Int × Int × Int × Unit)) × Unit)) × (List Int) × Bool × Bool × (List (Int × Int × Int × Bool × Unit)) × Int × Int × Int × Unit) × ((List Int) × ((List Int) × (List Int) × Unit) × Int × Int × Unit) × Int × Int × Int × Bool × Unit × Unit))
 | 0, _, _, _, _, _, _, _, _, _, _, _ => none
 | j + 1, s2, s4, s5, s7, s11, s12, s13, s14, s21, s22, s23 =>
  bif decide (s23 < s22) then
  bif decide (0 ≤ s23) && decide (s23 < (s21.length : Int)) then
  (f109 k (rd (0 : Int) s21 s23)).bind fun r1 =>
  bif r1.1 == s2 then
  (f110 k (rd (0 : Int) s21 s23)).bind fun r2 =>
  (f183 k r2.1 1 s11 s4 s7 s12 s13).bind fun r3 =>
  l150_4 k j s2 r3.2.1 s5 r3.2.2.1 r3.1 r3.2.2.2.1 r3.2.2.2.2.1 () s21 s22 (w64 (s23 + 1))
  else
  l150_4 k j s2 s4 s5 s7 s11 s12 s13 () s21 s22 (w64 (s23 + 1))
  else
  none
  else
  some (s2, s4, s5, s7, s11, s12, s13, (), ())
noncomputable def l150_4_sig (k : Nat) : LoopSig := ⟨[(2, .obj ck1), (4, .obj ck58), (5, .obj ck41), (7, .obj ck6), (11, .obj ck6), (12, .obj ck6), (13, .obj ck4), (14, .cs 183 [11, 4, 7, 12, 13]), (21, .obj ck5), (22, .obj ck1), (23, .obj ck1)], [(.exit 0, [(2, .obj ck1), (4, .obj ck58), (5, .obj ck41), (7, .obj ck6), (11, .obj ck6), (12, .obj ck6), (13, .obj ck4), (14, .cs 183 [11, 4, 7, 12, 13])])], fun j x => l150_4 k j x.1 x.2.1 x.2.2.1 x.2.2.2.1 x.2.2.2.2.1 x.2.2.2.2.2.1 x.2.2.2.2.2.2.1 x.2.2.2.2.2.2.2.1 x.2.2.2.2.2.2.2.2.1 x.2.2.2.2.2.2.2.2.2.1 x.2.2.2.2.2.2.2.2.2.2.1⟩
noncomputable def l150_10 (k : Nat) : Nat → (ByteArray × Int × Int × (List (Int × Int × Int × (List (Int × Int × Int × Int × Unit)) × Unit)) × (List Int) × Bool × Bool × (List (Int × Int × Int × Bool × Unit)) × Int × Int × Int × Unit) → Int → Int → Int → Bool → Unit → (List Int) → Int → Int → Option ((Int × Int × Bool × Unit))
 | 0, _, _, _, _, _, _, _, _, _ => none
 | j + 1, s4, s7, s11, s12, s13, s14, s39, s40, s41 =>
  bif decide (s41 < s40) then
  bif decide (0 ≤ s41) && decide (s41 < (s39.length : Int)) then
  (f183 k s41 (rd (0 : Int) s39 s41) s11 s4 s7 s12 s13).bind fun r1 =>
  l150_10 k j r1.2.1 r1.2.2.1 r1.1 r1.2.2.2.1 r1.2.2.2.2.1 () s39 s40 (w64 (s41 + 1))
  else
  none
  else
  some (s11, s12, s13, ())
noncomputable def l150_10_sig (k : Nat) : LoopSig := ⟨[(4, .obj ck58), (7, .obj ck6), (11, .obj ck6), (12, .obj ck6), (13, .obj ck4), (14, .cs 183 [11, 4, 7, 12, 13]), (39, .obj ck5), (40, .obj ck1), (41, .obj ck1)], [(.exit 2, [(11, .obj ck6), (12, .obj ck6), (13, .obj ck4)])], fun j x => l150_10 k j x.1 x.2.1 x.2.2.1 x.2.2.2.1 x.2.2.2.2.1 x.2.2.2.2.2.1 x.2.2.2.2.2.2.1 x.2.2.2.2.2.2.2.1 x.2.2.2.2.2.2.2.2.1⟩
noncomputable def f150 (k : Nat) (x0 : ByteArray × Int × Int × (List (Int × Int × Int × (List (Int × Int × Int × Int × Unit)) × Unit)) × (List Int) × Bool × Bool × (List (Int × Int × Int × Bool × Unit)) × Int × Int × Int × Unit) (x1 : (List Int) × ((List Int) × (List Int) × Unit) × Int × Int × Unit) (x2 : Int) (x3 : Int) : Option ((Int × Int × Bool × Unit)) :=
  (l150_4 k k x2 x0 x1 x3 0 0 false () x1.1 (x1.1.length : Int) 0).bind fun o1 =>
  bif o1.1 == 0 then
  (l150_10 k k o1.2.1 o1.2.2.2.1 o1.2.2.2.2.1 o1.2.2.2.2.2.1 o1.2.2.2.2.2.2.1 () o1.2.2.1.2.1.1 (o1.2.2.1.2.1.1.length : Int) 0).bind fun o2 =>
  some o2
  else
  bif o1.1 == 1 then
  (l150_10 k k o1.2.1 o1.2.2.2.1 o1.2.2.2.2.1 o1.2.2.2.2.2.1 o1.2.2.2.2.2.2.1 () o1.2.2.1.2.1.2.1 (o1.2.2.1.2.1.2.1.length : Int) 0).bind fun o3 =>
  some o3
  else
  none
noncomputable def f150_sig (k : Nat) : Sig := ⟨[.val ty56, .val ty38, .val (.int .i64), .val (.int .i64)], [], [[.val (.int .i64), .val (.int .i64), .val (.bool)]], fun x => f150 k x.1 x.2.1 x.2.2.1 x.2.2.2.1⟩
noncomputable def E_f150 (k : Nat) : Env := ⟨Tryz.prog, G0, scons 183 [f183_sig k] (scons 110 [f110_sig k] (scons 109 [f109_sig k] (snil))), tcons 10 (l150_10_sig k) (tcons 4 (l150_4_sig k) (tnil)), tnil, unil, k, qnil⟩
theorem l150_4_ok (k : Nat) : LoopOK (E_f150 k) ⟨Tryz.f150.ntmps, [], G0⟩ (nthC 0 (loopsIn (Tryz.f150.body.getD .skip))) :=
  loop_ok (ls := l150_4_sig k) (by kernel_rfl) (fun _ => by kernel_rfl) (fun j x => by kernel_rfl)
theorem l150_10_ok (k : Nat) : LoopOK (E_f150 k) ⟨Tryz.f150.ntmps, [], G0⟩ (nthC 1 (loopsIn (Tryz.f150.body.getD .skip))) :=
  loop_ok (ls := l150_10_sig k) (by kernel_rfl) (fun _ => by kernel_rfl) (fun j x => by kernel_rfl)
theorem f150_run (k : Nat) (x : (lTy (lay 0 (f150_sig k).ins)).den) : runF (E_f150 k) Tryz.f150 (f150_sig k) x = (f150_sig k).F x := by kernel_rfl
theorem f150_ok [Dr] (k : Nat) : FnOK Tryz.prog G0 150 (f150_sig k) :=
  fn_ok2 (E := E_f150 k) (env_cons (one_sig (f183_ok k)) (env_cons (one_sig (f110_ok k)) (env_cons (one_sig (f109_ok k)) (env_nil)))) (qenv_nil) mixed Tryz.func150 Tryz.call150 (by kernel_rfl) (by kernel_rfl) (m := 2) (by kernel_rfl) ⟨⟨trivial, l150_4_ok k⟩, l150_10_ok k⟩ (sk := []) (by kernel_rfl) trivial (f150_run k)

noncomputable def l124_9 (k : Nat) : Nat → Int → (ByteArray × Int × Int × (List (Int × Int × Int × (List (Int × Int × Int × Int × Unit)) × Unit)) × (List Int) × Bool × Bool × (List (Int × Int × Int × Bool × Unit)) × Int × Int × Int × Unit) → ((List Int) × ((List Int) × (List Int) × Unit) × Int × Int × Unit) → (List (Int × Int × Int × Bool × Unit)) → Int → Int → Option (Unit ⊕ (Bool × Int × Unit))
 | 0, _, _, _, _, _, _ => none
 | j + 1, s2, s3, s4, s30, s31, s32 =>
  bif decide (s32 < s31) then
  bif decide (0 ≤ s32) && decide (s32 < (s30.length : Int)) then
  (f150 k s3 s4 s2 (rd ((0, 0, 0, false, ()) : Int × Int × Int × Bool × Unit) s30 s32).2.1).bind fun r1 =>
  bif (rd ((0, 0, 0, false, ()) : Int × Int × Int × Bool × Unit) s30 s32).2.2.2.1 then
  some (.inr (true, 0, ()))
  else
  bif (rd ((0, 0, 0, false, ()) : Int × Int × Int × Bool × Unit) s30 s32).1 == 2 then
  some (.inr (true, 0, ()))
  else
  bif (rd ((0, 0, 0, false, ()) : Int × Int × Int × Bool × Unit) s30 s32).1 == 0 then
  bif decide (r1.1 ≥ (rd ((0, 0, 0, false, ()) : Int × Int × Int × Bool × Unit) s30 s32).2.2.1) then
  some (.inr (true, 0, ()))
  else
  bif s3.2.2.2.2.2.2.1 then
  bif r1.2.2.1 then
  some (.inr (true, 0, ()))
  else
  bif (rd ((0, 0, 0, false, ()) : Int × Int × Int × Bool × Unit) s30 s32).1 == 1 then
  bif decide (r1.2.1 > 0) then
  some (.inr (true, 0, ()))
  else
  bif s3.2.2.2.2.2.2.1 then
  bif r1.2.2.1 then
  some (.inr (true, 0, ()))
  else
  l124_9 k j s2 s3 s4 s30 s31 (w64 (s32 + 1))
  else
  l124_9 k j s2 s3 s4 s30 s31 (w64 (s32 + 1))
  else
  l124_9 k j s2 s3 s4 s30 s31 (w64 (s32 + 1))
  else
  bif (rd ((0, 0, 0, false, ()) : Int × Int × Int × Bool × Unit) s30 s32).1 == 1 then
  bif decide (r1.2.1 > 0) then
  some (.inr (true, 0, ()))
  else
  bif s3.2.2.2.2.2.2.1 then
  bif r1.2.2.1 then
  some (.inr (true, 0, ()))
  else
  l124_9 k j s2 s3 s4 s30 s31 (w64 (s32 + 1))
  else
  l124_9 k j s2 s3 s4 s30 s31 (w64 (s32 + 1))
  else
  l124_9 k j s2 s3 s4 s30 s31 (w64 (s32 + 1))
  else
  bif (rd ((0, 0, 0, false, ()) : Int × Int × Int × Bool × Unit) s30 s32).1 == 1 then
  bif decide (r1.2.1 > 0) then
  some (.inr (true, 0, ()))
  else
  bif s3.2.2.2.2.2.2.1 then
  bif r1.2.2.1 then
  some (.inr (true, 0, ()))
  else
  l124_9 k j s2 s3 s4 s30 s31 (w64 (s32 + 1))
  else
  l124_9 k j s2 s3 s4 s30 s31 (w64 (s32 + 1))
  else
  l124_9 k j s2 s3 s4 s30 s31 (w64 (s32 + 1))
  else
  none
  else
  some (.inl ())
noncomputable def l124_9_sig (k : Nat) : LoopSig := ⟨[(2, .obj ck1), (3, .obj ck58), (4, .obj ck41), (30, .obj ck26), (31, .obj ck1), (32, .obj ck1)], [(.exit 0, []), (.ret, [(6, .obj (.val (.bool))), (7, .obj ck1)])], fun j x => l124_9 k j x.1 x.2.1 x.2.2.1 x.2.2.2.1 x.2.2.2.2.1 x.2.2.2.2.2.1⟩
noncomputable def f124 (k : Nat) (x0 : ByteArray × Int × Int × (List (Int × Int × Int × (List (Int × Int × Int × Int × Unit)) × Unit)) × (List Int) × Bool × Bool × (List (Int × Int × Int × Bool × Unit)) × Int × Int × Int × Unit) (x1 : (List Int) × ((List Int) × (List Int) × Unit) × Int × Int × Unit) (x2 : Int) : Option ((Bool × Int × Unit)) :=
  (f117 k x0 x1).bind fun r1 =>
  bif r1.1 != 0 then
  some (false, r1)
  else
  bif decide (x2 < 0) then
  some (false, 1, ())
  else
  bif decide (x2 > 1) then
  some (false, 1, ())
  else
  bif x0.2.2.2.2.2.2.2.2.1 != 2 then
  some (true, 0, ())
  else
  (l124_9 k k x2 x0 x1 x0.2.2.2.2.2.2.2.1 (x0.2.2.2.2.2.2.2.1.length : Int) 0).bind fun w32 =>
  Sum.elim
  (fun y2 =>
  some (false, 0, ()))
  (fun y3 =>
  some y3)
  w32
noncomputable def f124_sig (k : Nat) : Sig := ⟨[.val ty56, .val ty38, .val (.int .i64)], [], [[.val (.bool), .val (.int .i64)]], fun x => f124 k x.1 x.2.1 x.2.2.1⟩
noncomputable def E_f124 (k : Nat) : Env := ⟨Tryz.prog, G0, scons 150 [f150_sig k] (scons 117 [f117_sig k] (snil)), tcons 9 (l124_9_sig k) (tnil), tnil, unil, k, qnil⟩
theorem l124_9_ok (k : Nat) : LoopOK (E_f124 k) ⟨Tryz.f124.ntmps, [], G0⟩ (nthC 0 (loopsIn (Tryz.f124.body.getD .skip))) :=
  loop_ok (ls := l124_9_sig k) (by kernel_rfl) (fun _ => by kernel_rfl) (fun j x => by kernel_rfl)
theorem f124_run (k : Nat) (x : (lTy (lay 0 (f124_sig k).ins)).den) : runF (E_f124 k) Tryz.f124 (f124_sig k) x = (f124_sig k).F x := by kernel_rfl
theorem f124_ok [Dr] (k : Nat) : FnOK Tryz.prog G0 124 (f124_sig k) :=
  fn_ok2 (E := E_f124 k) (env_cons (one_sig (f150_ok k)) (env_cons (one_sig (f117_ok k)) (env_nil))) (qenv_nil) mixed Tryz.func124 Tryz.call124 (by kernel_rfl) (by kernel_rfl) (m := 1) (by kernel_rfl) ⟨trivial, l124_9_ok k⟩ (sk := []) (by kernel_rfl) trivial (f124_run k)

noncomputable def f83 (k : Nat) (x0 : ByteArray × Int × Int × (List (Int × Int × Int × (List (Int × Int × Int × Int × Unit)) × Unit)) × (List Int) × Bool × Bool × (List (Int × Int × Int × Bool × Unit)) × Int × Int × Int × Unit) (x1 : (List Int) × ((List Int) × (List Int) × Unit) × Int × Int × Unit) (x2 : Int) : Option ((Int × Int × Unit)) :=
  (f124 k x0 x1 (w64 (1 - x2))).bind fun r1 =>
  bif r1.2.1 != 0 then
  some (0, r1.2)
  else
  bif !r1.1 then
  some (3, 0, ())
  else
  some (w64 (2 - x2), 0, ())
noncomputable def f83_sig (k : Nat) : Sig := ⟨[.val ty56, .val ty38, .val (.int .i64)], [], [[.val (.int .i64), .val (.int .i64)]], fun x => f83 k x.1 x.2.1 x.2.2.1⟩
noncomputable def E_f83 (k : Nat) : Env := ⟨Tryz.prog, G0, scons 124 [f124_sig k] (snil), tnil, tnil, unil, k, qnil⟩
theorem f83_run (k : Nat) (x : (lTy (lay 0 (f83_sig k).ins)).den) : runF (E_f83 k) Tryz.f83 (f83_sig k) x = (f83_sig k).F x := by kernel_rfl
theorem f83_ok [Dr] (k : Nat) : FnOK Tryz.prog G0 83 (f83_sig k) :=
  fn_ok2 (E := E_f83 k) (env_cons (one_sig (f124_ok k)) (env_nil)) (qenv_nil) mixed Tryz.func83 Tryz.call83 (by kernel_rfl) (by kernel_rfl) (m := 0) (by kernel_rfl) trivial (sk := []) (by kernel_rfl) trivial (f83_run k)

noncomputable def f46 (k : Nat) (x0 : (ByteArray × Int × Int × (List (Int × Int × Int × (List (Int × Int × Int × Int × Unit)) × Unit)) × (List Int) × Bool × Bool × (List (Int × Int × Int × Bool × Unit)) × Int × Int × Int × Unit) × ((List (Int × Int × Unit)) × Int × Int × Unit) × ((ByteArray × Int × Int × (List (Int × Int × Int × (List (Int × Int × Int × Int × Unit)) × Unit)) × (List Int) × Bool × Bool × (List (Int × Int × Int × Bool × Unit)) × Int × Int × Int × Unit) × (List ((List Int) × ((List Int) × (List Int) × Unit) × Int × Int × Unit)) × (List (Int × Int × Int × Unit)) × Unit) × ((List (Int × Int × Int × Unit)) × Int × Int × ((Int × Int × Unit) × (Int × Int × Unit) × (Int × Int × Unit) × Int × Int × Bool × Int × Unit) × ((Int × Int × Unit) × ((Int × Int × Unit) × (Int × Int × Unit) × Unit) × Unit) × (List (Int × (Int × Int × Int × Unit) × Unit)) × Unit) × Int × (List (ByteArray × Int × Unit)) × Unit) (x1 : (List (Int × Int × Int × Unit)) × Int × Int × ((Int × Int × Unit) × (Int × Int × Unit) × (Int × Int × Unit) × Int × Int × Bool × Int × Unit) × ((Int × Int × Unit) × ((Int × Int × Unit) × (Int × Int × Unit) × Unit) × Unit) × (List (Int × (Int × Int × Int × Unit) × Unit)) × Unit) (x2 : Int × Int × Int × Int × (Int × Int × Int × Unit) × Unit) : Option ((Int × ((ByteArray × Int × Int × (List (Int × Int × Int × (List (Int × Int × Int × Int × Unit)) × Unit)) × (List Int) × Bool × Bool × (List (Int × Int × Int × Bool × Unit)) × Int × Int × Int × Unit) × ((List (Int × Int × Unit)) × Int × Int × Unit) × ((ByteArray × Int × Int × (List (Int × Int × Int × (List (Int × Int × Int × Int × Unit)) × Unit)) × (List Int) × Bool × Bool × (List (Int × Int × Int × Bool × Unit)) × Int × Int × Int × Unit) × (List ((List Int) × ((List Int) × (List Int) × Unit) × Int × Int × Unit)) × (List (Int × Int × Int × Unit)) × Unit) × ((List (Int × Int × Int × Unit)) × Int × Int × ((Int × Int × Unit) × (Int × Int × Unit) × (Int × Int × Unit) × Int × Int × Bool × Int × Unit) × ((Int × Int × Unit) × ((Int × Int × Unit) × (Int × Int × Unit) × Unit) × Unit) × (List (Int × (Int × Int × Int × Unit) × Unit)) × Unit) × Int × (List (ByteArray × Int × Unit)) × Unit) × ((List (Int × Int × Int × Unit)) × Int × Int × ((Int × Int × Unit) × (Int × Int × Unit) × (Int × Int × Unit) × Int × Int × Bool × Int × Unit) × ((Int × Int × Unit) × ((Int × Int × Unit) × (Int × Int × Unit) × Unit) × Unit) × (List (Int × (Int × Int × Int × Unit) × Unit)) × Unit) × Unit)) :=
  bif x2.2.2.1 == 2 then
  (f60 k x0.2.1 x1.2.2.2.1 x2.2.2.2.1).bind fun r1 =>
  bif decide (r1.1.2.2.2.2.2.2.1 < 0) then
  some (10, x0, x1, ())
  else
  (f52 k x0.2.2.1).bind fun r2 =>
  (f83 k x0.1 r2.1 r1.1.2.2.2.2.2.2.1).bind fun r3 =>
  bif r3.2.1 != 0 then
  some (r3.2.1, x0, x1, ())
  else
  some (0, x0, (x1.1, r3.1, 2, r1.1, x1.2.2.2.2), ())
  else
  bif x2.2.2.1 != 0 then
  bif x2.2.2.1 != 1 then
  some (1, x0, x1, ())
  else
  (f47 k x0).bind fun r4 =>
  bif x2.2.1 != r4.1 then
  some (12, r4.2.1, x1, ())
  else
  bif x2.2.2.1 == 0 then
  (f84 k r4.2.1.2.2.1).bind fun r5 =>
  bif decide (r5.1 < 3) then
  some (10, r4.2.1, x1, ())
  else
  bif x2.2.2.1 == 1 then
  (f52 k r4.2.1.2.2.1).bind fun r6 =>
  bif decide (r6.1.2.2.2.1 < 20) then
  some (10, r4.2.1, x1, ())
  else
  some (0, r4.2.1, (x1.1, 3, 5, x1.2.2.2), ())
  else
  some (0, r4.2.1, (x1.1, 3, 5, x1.2.2.2), ())
  else
  bif x2.2.2.1 == 1 then
  (f52 k r4.2.1.2.2.1).bind fun r7 =>
  bif decide (r7.1.2.2.2.1 < 20) then
  some (10, r4.2.1, x1, ())
  else
  some (0, r4.2.1, (x1.1, 3, 5, x1.2.2.2), ())
  else
  some (0, r4.2.1, (x1.1, 3, 5, x1.2.2.2), ())
  else
  (f47 k x0).bind fun r8 =>
  bif x2.2.1 != r8.1 then
  some (12, r8.2.1, x1, ())
  else
  bif x2.2.2.1 == 0 then
  (f84 k r8.2.1.2.2.1).bind fun r9 =>
  bif decide (r9.1 < 3) then
  some (10, r8.2.1, x1, ())
  else
  bif x2.2.2.1 == 1 then
  (f52 k r8.2.1.2.2.1).bind fun r10 =>
  bif decide (r10.1.2.2.2.1 < 20) then
  some (10, r8.2.1, x1, ())
  else
  some (0, r8.2.1, (x1.1, 3, 5, x1.2.2.2), ())
  else
  some (0, r8.2.1, (x1.1, 3, 5, x1.2.2.2), ())
  else
  bif x2.2.2.1 == 1 then
  (f52 k r8.2.1.2.2.1).bind fun r11 =>
  bif decide (r11.1.2.2.2.1 < 20) then
  some (10, r8.2.1, x1, ())
  else
  some (0, r8.2.1, (x1.1, 3, 5, x1.2.2.2), ())
  else
  some (0, r8.2.1, (x1.1, 3, 5, x1.2.2.2), ())
noncomputable def f46_sig (k : Nat) : Sig := ⟨[.box ck67, .box ck63, .val ty43], [0, 1], [[.val (.int .i64), .box ck67, .box ck63]], fun x => f46 k x.1 x.2.1 x.2.2.1⟩
noncomputable def E_f46 (k : Nat) : Env := ⟨Tryz.prog, G0, scons 83 [f83_sig k] (scons 60 [f60_sig k] (scons 47 [f47_sig k] (snil))), tnil, tnil, unil, k, qcons 84 (f84_q k) (qcons 52 (f52_q k) (qnil))⟩
theorem f46_run (k : Nat) (x : (lTy (lay 0 (f46_sig k).ins)).den) : runF (E_f46 k) Tryz.f46 (f46_sig k) x = (f46_sig k).F x := by kernel_rfl
theorem f46_ok [Dr] (k : Nat) : FnOK Tryz.prog G0 46 (f46_sig k) :=
  fn_ok2 (E := E_f46 k) (env_cons (one_sig (f83_ok k)) (env_cons (one_sig (f60_ok k)) (env_cons (one_sig (f47_ok k)) (env_nil)))) (qenv_cons (f84_qok k) (qenv_cons (f52_qok k) (qenv_nil))) mixed Tryz.func46 Tryz.call46 (by kernel_rfl) (by kernel_rfl) (m := 0) (by kernel_rfl) trivial (sk := []) (by kernel_rfl) trivial (f46_run k)

noncomputable def f48 (k : Nat) (x0 : List (Int × (Int × Int × Int × Unit) × Unit)) (x1 : Int) (x2 : Int × Int × Int × Unit) : Option (((List (Int × (Int × Int × Int × Unit) × Unit)) × Int × Unit)) :=
  (f85 k x0).bind fun r1 =>
  bif r1.1 != 0 then
  some ([], r1)
  else
  bif decide (x1 < 0) then
  some ([], 1, ())
  else
  bif decide (x1 > 1) then
  some ([], 1, ())
  else
  (f86 k x0 x1).bind fun r2 =>
  bif (r2.1.length : Int) == 4 then
  some ([], 9, ())
  else
  (f39 k x0).bind fun r3 =>
  bif decide ((r3.1.length + ([(x1, x2, ())] : List (Int × (Int × Int × Int × Unit) × Unit)).length) * 32 ≤ roomN) then
  some (r3.1 ++ [(x1, x2, ())], 0, ())
  else
  none
noncomputable def f48_sig (k : Nat) : Sig := ⟨[.val ty31, .val (.int .i64), .val ty18], [], [[.row ty29, .val (.int .i64)]], fun x => f48 k x.1 x.2.1 x.2.2.1⟩
noncomputable def E_f48 (k : Nat) : Env := ⟨Tryz.prog, G0, scons 86 [f86_sig k] (scons 85 [f85_sig k] (scons 39 [f39_sig k] (snil))), tnil, tnil, unil, k, qnil⟩
theorem f48_run (k : Nat) (x : (lTy (lay 0 (f48_sig k).ins)).den) : runF (E_f48 k) Tryz.f48 (f48_sig k) x = (f48_sig k).F x := by kernel_rfl
theorem f48_ok [Dr] (k : Nat) : FnOK Tryz.prog G0 48 (f48_sig k) :=
  fn_ok2 (E := E_f48 k) (env_cons (one_sig (f86_ok k)) (env_cons (one_sig (f85_ok k)) (env_cons (one_sig (f39_ok k)) (env_nil)))) (qenv_nil) mixed Tryz.func48 Tryz.call48 (by kernel_rfl) (by kernel_rfl) (m := 0) (by kernel_rfl) trivial (sk := []) (by kernel_rfl) trivial (f48_run k)

noncomputable def f12 (k : Nat) (x0 : (ByteArray × Int × Int × (List (Int × Int × Int × (List (Int × Int × Int × Int × Unit)) × Unit)) × (List Int) × Bool × Bool × (List (Int × Int × Int × Bool × Unit)) × Int × Int × Int × Unit) × ((List (Int × Int × Unit)) × Int × Int × Unit) × ((ByteArray × Int × Int × (List (Int × Int × Int × (List (Int × Int × Int × Int × Unit)) × Unit)) × (List Int) × Bool × Bool × (List (Int × Int × Int × Bool × Unit)) × Int × Int × Int × Unit) × (List ((List Int) × ((List Int) × (List Int) × Unit) × Int × Int × Unit)) × (List (Int × Int × Int × Unit)) × Unit) × ((List (Int × Int × Int × Unit)) × Int × Int × ((Int × Int × Unit) × (Int × Int × Unit) × (Int × Int × Unit) × Int × Int × Bool × Int × Unit) × ((Int × Int × Unit) × ((Int × Int × Unit) × (Int × Int × Unit) × Unit) × Unit) × (List (Int × (Int × Int × Int × Unit) × Unit)) × Unit) × Int × (List (ByteArray × Int × Unit)) × Unit) : Option ((((List (Int × Int × Int × Unit)) × Int × Int × ((Int × Int × Unit) × (Int × Int × Unit) × (Int × Int × Unit) × Int × Int × Bool × Int × Unit) × ((Int × Int × Unit) × ((Int × Int × Unit) × (Int × Int × Unit) × Unit) × Unit) × (List (Int × (Int × Int × Int × Unit) × Unit)) × Unit) × ((ByteArray × Int × Int × (List (Int × Int × Int × (List (Int × Int × Int × Int × Unit)) × Unit)) × (List Int) × Bool × Bool × (List (Int × Int × Int × Bool × Unit)) × Int × Int × Int × Unit) × ((List (Int × Int × Unit)) × Int × Int × Unit) × ((ByteArray × Int × Int × (List (Int × Int × Int × (List (Int × Int × Int × Int × Unit)) × Unit)) × (List Int) × Bool × Bool × (List (Int × Int × Int × Bool × Unit)) × Int × Int × Int × Unit) × (List ((List Int) × ((List Int) × (List Int) × Unit) × Int × Int × Unit)) × (List (Int × Int × Int × Unit)) × Unit) × ((List (Int × Int × Int × Unit)) × Int × Int × ((Int × Int × Unit) × (Int × Int × Unit) × (Int × Int × Unit) × Int × Int × Bool × Int × Unit) × ((Int × Int × Unit) × ((Int × Int × Unit) × (Int × Int × Unit) × Unit) × Unit) × (List (Int × (Int × Int × Int × Unit) × Unit)) × Unit) × Int × (List (ByteArray × Int × Unit)) × Unit) × Unit)) :=
  (f38 k x0.2.2.1).bind fun r1 =>
  (f39 k x0.2.2.2.1.2.2.2.2.2.1).bind fun r2 =>
  some ((r1.1, x0.2.2.2.1.2.1, x0.2.2.2.1.2.2.1, x0.2.2.2.1.2.2.2.1, x0.2.2.2.1.2.2.2.2.1, r2), (x0.1, x0.2.1, r1.2.1, x0.2.2.2), ())
noncomputable def f12_sig (k : Nat) : Sig := ⟨[.box ck67], [0], [[.val ty62, .box ck67]], fun x => f12 k x.1⟩
noncomputable def E_f12 (k : Nat) : Env := ⟨Tryz.prog, G0, scons 39 [f39_sig k] (scons 38 [f38_sig k] (snil)), tnil, tnil, unil, k, qnil⟩
theorem f12_run (k : Nat) (x : (lTy (lay 0 (f12_sig k).ins)).den) : runF (E_f12 k) Tryz.f12 (f12_sig k) x = (f12_sig k).F x := by kernel_rfl
theorem f12_ok [Dr] (k : Nat) : FnOK Tryz.prog G0 12 (f12_sig k) :=
  fn_ok2 (E := E_f12 k) (env_cons (one_sig (f39_ok k)) (env_cons (one_sig (f38_ok k)) (env_nil))) (qenv_nil) mixed Tryz.func12 Tryz.call12 (by kernel_rfl) (by kernel_rfl) (m := 0) (by kernel_rfl) trivial (sk := []) (by kernel_rfl) trivial (f12_run k)

noncomputable def f18 (k : Nat) (x0 : (ByteArray × Int × Int × (List (Int × Int × Int × (List (Int × Int × Int × Int × Unit)) × Unit)) × (List Int) × Bool × Bool × (List (Int × Int × Int × Bool × Unit)) × Int × Int × Int × Unit) × ((List (Int × Int × Unit)) × Int × Int × Unit) × ((ByteArray × Int × Int × (List (Int × Int × Int × (List (Int × Int × Int × Int × Unit)) × Unit)) × (List Int) × Bool × Bool × (List (Int × Int × Int × Bool × Unit)) × Int × Int × Int × Unit) × (List ((List Int) × ((List Int) × (List Int) × Unit) × Int × Int × Unit)) × (List (Int × Int × Int × Unit)) × Unit) × ((List (Int × Int × Int × Unit)) × Int × Int × ((Int × Int × Unit) × (Int × Int × Unit) × (Int × Int × Unit) × Int × Int × Bool × Int × Unit) × ((Int × Int × Unit) × ((Int × Int × Unit) × (Int × Int × Unit) × Unit) × Unit) × (List (Int × (Int × Int × Int × Unit) × Unit)) × Unit) × Int × (List (ByteArray × Int × Unit)) × Unit) : Option ((((List Int) × ((List Int) × (List Int) × Unit) × Int × Int × Unit) × ((ByteArray × Int × Int × (List (Int × Int × Int × (List (Int × Int × Int × Int × Unit)) × Unit)) × (List Int) × Bool × Bool × (List (Int × Int × Int × Bool × Unit)) × Int × Int × Int × Unit) × ((List (Int × Int × Unit)) × Int × Int × Unit) × ((ByteArray × Int × Int × (List (Int × Int × Int × (List (Int × Int × Int × Int × Unit)) × Unit)) × (List Int) × Bool × Bool × (List (Int × Int × Int × Bool × Unit)) × Int × Int × Int × Unit) × (List ((List Int) × ((List Int) × (List Int) × Unit) × Int × Int × Unit)) × (List (Int × Int × Int × Unit)) × Unit) × ((List (Int × Int × Int × Unit)) × Int × Int × ((Int × Int × Unit) × (Int × Int × Unit) × (Int × Int × Unit) × Int × Int × Bool × Int × Unit) × ((Int × Int × Unit) × ((Int × Int × Unit) × (Int × Int × Unit) × Unit) × Unit) × (List (Int × (Int × Int × Int × Unit) × Unit)) × Unit) × Int × (List (ByteArray × Int × Unit)) × Unit) × Unit)) :=
  (f52 k x0.2.2.1).bind fun r1 =>
  some (r1.1, x0, ())
noncomputable def f18_sig (k : Nat) : Sig := ⟨[.box ck67], [0], [[.val ty38, .box ck67]], fun x => f18 k x.1⟩
noncomputable def E_f18 (k : Nat) : Env := ⟨Tryz.prog, G0, snil, tnil, tnil, unil, k, qcons 52 (f52_q k) (qnil)⟩
theorem f18_run (k : Nat) (x : (lTy (lay 0 (f18_sig k).ins)).den) : runF (E_f18 k) Tryz.f18 (f18_sig k) x = (f18_sig k).F x := by kernel_rfl
theorem f18_ok [Dr] (k : Nat) : FnOK Tryz.prog G0 18 (f18_sig k) :=
  fn_ok2 (E := E_f18 k) (env_nil) (qenv_cons (f52_qok k) (qenv_nil)) mixed Tryz.func18 Tryz.call18 (by kernel_rfl) (by kernel_rfl) (m := 0) (by kernel_rfl) trivial (sk := []) (by kernel_rfl) trivial (f18_run k)

noncomputable def f27 (k : Nat) (x0 : (List (Int × Int × Unit)) × Int × Int × Unit) (x1 : (Int × Int × Unit) × (Int × Int × Unit) × (Int × Int × Unit) × Int × Int × Bool × Int × Unit) (x2 : Int) (x3 : Int) : Option ((Int × Int × Unit)) :=
  bif decide (x2 < 0) then
  some (0, 1, ())
  else
  bif decide (x2 > 1) then
  some (0, 1, ())
  else
  (f60 k x0 x1 x3).bind fun r1 =>
  bif r1.2.1 != 0 then
  some (0, r1.2)
  else
  bif decide (r1.1.2.2.2.2.2.2.1 ≥ 0) then
  bif x2 == 0 then
  some (r1.1.1.1, 0, ())
  else
  bif x2 == 1 then
  some (r1.1.1.2.1, 0, ())
  else
  none
  else
  bif x2 != r1.1.2.2.2.1 then
  bif x2 == 0 then
  some (r1.1.1.1, 0, ())
  else
  bif x2 == 1 then
  some (r1.1.1.2.1, 0, ())
  else
  none
  else
  bif x2 == 0 then
  (f63 k x0 r1.1 x3).bind fun r2 =>
  some (w64 (r1.1.1.1 - r2.1), 0, ())
  else
  bif x2 == 1 then
  (f63 k x0 r1.1 x3).bind fun r3 =>
  some (w64 (r1.1.1.2.1 - r3.1), 0, ())
  else
  none
noncomputable def f27_sig (k : Nat) : Sig := ⟨[.val ty30, .val ty54, .val (.int .i64), .val (.int .i64)], [], [[.val (.int .i64), .val (.int .i64)]], fun x => f27 k x.1 x.2.1 x.2.2.1 x.2.2.2.1⟩
noncomputable def E_f27 (k : Nat) : Env := ⟨Tryz.prog, G0, scons 63 [f63_sig k] (scons 60 [f60_sig k] (snil)), tnil, tnil, unil, k, qnil⟩
theorem f27_run (k : Nat) (x : (lTy (lay 0 (f27_sig k).ins)).den) : runF (E_f27 k) Tryz.f27 (f27_sig k) x = (f27_sig k).F x := by kernel_rfl
theorem f27_ok [Dr] (k : Nat) : FnOK Tryz.prog G0 27 (f27_sig k) :=
  fn_ok2 (E := E_f27 k) (env_cons (one_sig (f63_ok k)) (env_cons (one_sig (f60_ok k)) (env_nil))) (qenv_nil) mixed Tryz.func27 Tryz.call27 (by kernel_rfl) (by kernel_rfl) (m := 0) (by kernel_rfl) trivial (sk := []) (by kernel_rfl) trivial (f27_run k)

open Go.Shelf in
def joinL_ren : Go.Shelf.Ren := ⟨fun | 156 => 87 | 165 => 125 | 166 => 98 | 169 => 103 | 240 => 137 | 241 => 151 | 276 => 165 | 277 => 185 | n => n, fun | 31 => 162 | 9 => 9 | 3 => 3 | 4 => 4 | 0 => 0 | 20 => 20 | 72 => 178 | 76 => 171 | 70 => 175 | 37 => 176 | 75 => 170 | 127 => 215 | 164 => 239 | 5 => 5 | 80 => 188 | n => n, fun | n => n⟩
open Go.Shelf in
theorem joinL : Go.Proofs.Lays.n156 Tryz.prog joinL_ren := {
  mixed := by kernel_rfl
  f156 := Tryz.func87.trans (congrArg some (by kernel_rfl))
  f165 := Tryz.func125.trans (congrArg some (by kernel_rfl))
  f166 := Tryz.func98.trans (congrArg some (by kernel_rfl))
  f169 := Tryz.func103.trans (congrArg some (by kernel_rfl))
  f240 := Tryz.func137.trans (congrArg some (by kernel_rfl))
  f241 := Tryz.func151.trans (congrArg some (by kernel_rfl))
  f276 := Tryz.func165.trans (congrArg some (by kernel_rfl))
  f277 := Tryz.func185.trans (congrArg some (by kernel_rfl))
  t0 := Tryz.underlying0
  a0 := Tryz.isAgg0
  z0 := Tryz.sizeOf0
  v0 := Tryz.zeroValue0
  t3 := Tryz.underlying3
  a3 := Tryz.isAgg3
  z3 := Tryz.sizeOf3
  v3 := Tryz.zeroValue3
  t4 := Tryz.underlying4
  a4 := Tryz.isAgg4
  z4 := Tryz.sizeOf4
  v4 := Tryz.zeroValue4
  t9 := Tryz.underlying9
  a9 := Tryz.isAgg9
  z9 := Tryz.sizeOf9
  v9 := Tryz.zeroValue9
  t20 := Tryz.underlying20
  a20 := Tryz.isAgg20
  z20 := Tryz.sizeOf20
  v20 := Tryz.zeroValue20
  t31 := Tryz.underlying162
  a31 := Tryz.isAgg162
  z31 := Tryz.sizeOf162
  v31 := Tryz.zeroValue162
  t37 := Tryz.underlying176
  a37 := Tryz.isAgg176
  z37 := Tryz.sizeOf176
  v37 := Tryz.zeroValue176
  t70 := Tryz.underlying175
  a70 := Tryz.isAgg175
  z70 := Tryz.sizeOf175
  v70 := Tryz.zeroValue175
  t72 := Tryz.underlying178
  a72 := Tryz.isAgg178
  z72 := Tryz.sizeOf178
  v72 := Tryz.zeroValue178
  t75 := Tryz.underlying170
  a75 := Tryz.isAgg170
  z75 := Tryz.sizeOf170
  v75 := Tryz.zeroValue170
  t76 := Tryz.underlying171
  a76 := Tryz.isAgg171
  z76 := Tryz.sizeOf171
  v76 := Tryz.zeroValue171
  t127 := Tryz.underlying215
  a127 := Tryz.isAgg215
  z127 := Tryz.sizeOf215
  v127 := Tryz.zeroValue215
  t164 := Tryz.underlying239
  a164 := Tryz.isAgg239
  z164 := Tryz.sizeOf239
  v164 := Tryz.zeroValue239 }
open Go.Shelf in
theorem joinX : Go.Proofs.Builder.Extra Tryz.prog joinL_ren := {
  sizeBuilder := by kernel_rfl
  liesBuilder := by kernel_rfl
  t5 := Tryz.underlying5
  a5 := Tryz.isAgg5
  z5 := Tryz.sizeOf5
  v5 := Tryz.zeroValue5
  infoByte := by kernel_rfl
  cellsByte := by kernel_rfl
  sizeByte := by kernel_rfl
  neB5 := by decide }

noncomputable def f87 (k : Nat) (x0 : List ByteArray) (x1 : ByteArray) : Option (ByteArray × Unit) :=
  bif decide ((joinB x0 x1).size ≤ 281474976710656) && decide (x0.length ≤ 140737488355328) then some (joinB x0 x1, ()) else none
noncomputable def f87_sig (k : Nat) : Sig := ⟨[.val (.sl .str), .val .str], [], [[.val .str]], fun x => f87 k x.1 x.2.1⟩
theorem f87_ok (k : Nat) : FnOK Tryz.prog G0 87 (f87_sig k) := join_ok (ρ := joinL_ren) joinL joinX Tryz.call87


noncomputable def l49_3 (k : Nat) : Nat → (List ByteArray) → (List Int) → Int → Int → Option (((List ByteArray) × Unit))
 | 0, _, _, _, _ => none
 | j + 1, s3, s23, s24, s25 =>
  bif decide (s25 < s24) then
  bif decide (0 ≤ s25) && decide (s25 < (s23.length : Int)) then
  (f36 k (rd (0 : Int) s23 s25)).bind fun r1 =>
  bif decide ((s3.length + [r1.1].length) * 16 ≤ roomN) then
  l49_3 k j (s3 ++ [r1.1]) s23 s24 (w64 (s25 + 1))
  else
  none
  else
  none
  else
  some (s3, ())
noncomputable def l49_3_sig (k : Nat) : LoopSig := ⟨[(3, .obj (.row (.str))), (23, .obj ck2), (24, .obj ck1), (25, .obj ck1)], [(.exit 0, [(3, .obj (.row (.str)))])], fun j x => l49_3 k j x.1 x.2.1 x.2.2.1 x.2.2.2.1⟩
noncomputable def f49 (k : Nat) (x0 : Int × Int × Int × Int × (Int × Int × Int × Unit) × Unit) : Option ((ByteArray × Unit)) :=
  (l49_3 k k [] [x0.1, x0.2.1, x0.2.2.1, x0.2.2.2.1, x0.2.2.2.2.1.1, x0.2.2.2.2.1.2.1, x0.2.2.2.2.1.2.2.1] 7 0).bind fun o1 =>
  (f87 k o1.1 (⟨#[32]⟩ : ByteArray)).bind fun r2 =>
  some r2
noncomputable def f49_sig (k : Nat) : Sig := ⟨[.val ty43], [], [[.val (.str)]], fun x => f49 k x.1⟩
noncomputable def E_f49 (k : Nat) : Env := ⟨Tryz.prog, G0, scons 87 [f87_sig k] (scons 36 [f36_sig k] (snil)), tcons 3 (l49_3_sig k) (tnil), tnil, unil, k, qnil⟩
theorem l49_3_ok (k : Nat) : LoopOK (E_f49 k) ⟨Tryz.f49.ntmps, [], G0⟩ (nthC 0 (loopsIn (Tryz.f49.body.getD .skip))) :=
  loop_ok (ls := l49_3_sig k) (by kernel_rfl) (fun _ => by kernel_rfl) (fun j x => by kernel_rfl)
theorem f49_run (k : Nat) (x : (lTy (lay 0 (f49_sig k).ins)).den) : runF (E_f49 k) Tryz.f49 (f49_sig k) x = (f49_sig k).F x := by kernel_rfl
theorem f49_ok (k : Nat) : FnOK Tryz.prog G0 49 (f49_sig k) :=
  fn_ok2 (E := E_f49 k) (env_cons (one_sig (f87_ok k)) (env_cons (one_sig (f36_ok k)) (env_nil))) (qenv_nil) mixed Tryz.func49 Tryz.call49 (by kernel_rfl) (by kernel_rfl) (m := 1) (by kernel_rfl) ⟨trivial, l49_3_ok k⟩ (sk := []) (by kernel_rfl) trivial (f49_run k)

noncomputable def f14 (k : Nat) (x0 : (ByteArray × Int × Int × (List (Int × Int × Int × (List (Int × Int × Int × Int × Unit)) × Unit)) × (List Int) × Bool × Bool × (List (Int × Int × Int × Bool × Unit)) × Int × Int × Int × Unit) × ((List (Int × Int × Unit)) × Int × Int × Unit) × ((ByteArray × Int × Int × (List (Int × Int × Int × (List (Int × Int × Int × Int × Unit)) × Unit)) × (List Int) × Bool × Bool × (List (Int × Int × Int × Bool × Unit)) × Int × Int × Int × Unit) × (List ((List Int) × ((List Int) × (List Int) × Unit) × Int × Int × Unit)) × (List (Int × Int × Int × Unit)) × Unit) × ((List (Int × Int × Int × Unit)) × Int × Int × ((Int × Int × Unit) × (Int × Int × Unit) × (Int × Int × Unit) × Int × Int × Bool × Int × Unit) × ((Int × Int × Unit) × ((Int × Int × Unit) × (Int × Int × Unit) × Unit) × Unit) × (List (Int × (Int × Int × Int × Unit) × Unit)) × Unit) × Int × (List (ByteArray × Int × Unit)) × Unit) (x1 : Int × Int × Int × Int × (Int × Int × Int × Unit) × Unit) : Option ((Int × ((ByteArray × Int × Int × (List (Int × Int × Int × (List (Int × Int × Int × Int × Unit)) × Unit)) × (List Int) × Bool × Bool × (List (Int × Int × Int × Bool × Unit)) × Int × Int × Int × Unit) × ((List (Int × Int × Unit)) × Int × Int × Unit) × ((ByteArray × Int × Int × (List (Int × Int × Int × (List (Int × Int × Int × Int × Unit)) × Unit)) × (List Int) × Bool × Bool × (List (Int × Int × Int × Bool × Unit)) × Int × Int × Int × Unit) × (List ((List Int) × ((List Int) × (List Int) × Unit) × Int × Int × Unit)) × (List (Int × Int × Int × Unit)) × Unit) × ((List (Int × Int × Int × Unit)) × Int × Int × ((Int × Int × Unit) × (Int × Int × Unit) × (Int × Int × Unit) × Int × Int × Bool × Int × Unit) × ((Int × Int × Unit) × ((Int × Int × Unit) × (Int × Int × Unit) × Unit) × Unit) × (List (Int × (Int × Int × Int × Unit) × Unit)) × Unit) × Int × (List (ByteArray × Int × Unit)) × Unit) × Unit)) :=
  (f41 k x0 x1).bind fun r1 =>
  bif r1.1 != 0 then
  some r1
  else
  bif x1.1 == 0 then
  (f42 k r1.2.1 r1.2.1.2.2.2.1 x1).bind fun r2 =>
  bif r2.1 != 0 then
  some (r2.1, r2.2.1, ())
  else
  (f49 k x1).bind fun r3 =>
  (f35 k r2.2.1.2.2.2.2.2.1 r3.1).bind fun r4 =>
  (f37 k (r2.2.1.1, r2.2.1.2.1, r2.2.1.2.2.1, r2.2.2.1, x1.2.2.2.1, r4.1, ())).bind fun r5 =>
  some (0, r5)
  else
  bif x1.1 == 1 then
  (f38 k r1.2.1.2.2.1).bind fun r6 =>
  (f43 k r1.2.1.2.2.2.1.2.2.2.2.1 x1.2.2.1 x1.2.1 (r6.1.length : Int)).bind fun r7 =>
  bif r7.2.1 != 0 then
  some (r7.2.1, (r1.2.1.1, r1.2.1.2.1, r6.2.1, r1.2.1.2.2.2), ())
  else
  (f49 k x1).bind fun r8 =>
  (f35 k r1.2.1.2.2.2.2.2.1 r8.1).bind fun r9 =>
  (f37 k (r1.2.1.1, r1.2.1.2.1, r6.2.1, (r1.2.1.2.2.2.1.1, r1.2.1.2.2.2.1.2.1, r1.2.1.2.2.2.1.2.2.1, r1.2.1.2.2.2.1.2.2.2.1, r7.1, r1.2.1.2.2.2.1.2.2.2.2.2), x1.2.2.2.1, r9.1, ())).bind fun r10 =>
  some (0, r10)
  else
  bif x1.1 == 2 then
  (f44 k r1.2.1 r1.2.1.2.2.2.1 x1).bind fun r11 =>
  bif r11.1 != 0 then
  some (r11.1, r11.2.1, ())
  else
  (f49 k x1).bind fun r12 =>
  (f35 k r11.2.1.2.2.2.2.2.1 r12.1).bind fun r13 =>
  (f37 k (r11.2.1.1, r11.2.1.2.1, r11.2.1.2.2.1, r11.2.2.1, x1.2.2.2.1, r13.1, ())).bind fun r14 =>
  some (0, r14)
  else
  bif x1.1 == 3 then
  (f38 k r1.2.1.2.2.1).bind fun r15 =>
  (f45 k r1.2.1.2.2.2.1.2.2.2.2.1 x1.2.2.1 x1.2.1 (r15.1.length : Int)).bind fun r16 =>
  bif r16.2.1 != 0 then
  some (r16.2.1, (r1.2.1.1, r1.2.1.2.1, r15.2.1, r1.2.1.2.2.2), ())
  else
  (f49 k x1).bind fun r17 =>
  (f35 k r1.2.1.2.2.2.2.2.1 r17.1).bind fun r18 =>
  (f37 k (r1.2.1.1, r1.2.1.2.1, r15.2.1, (r1.2.1.2.2.2.1.1, r1.2.1.2.2.2.1.2.1, r1.2.1.2.2.2.1.2.2.1, r1.2.1.2.2.2.1.2.2.2.1, r16.1, r1.2.1.2.2.2.1.2.2.2.2.2), x1.2.2.2.1, r18.1, ())).bind fun r19 =>
  some (0, r19)
  else
  bif x1.1 == 4 then
  (f49 k x1).bind fun r20 =>
  (f35 k r1.2.1.2.2.2.2.2.1 r20.1).bind fun r21 =>
  (f37 k (r1.2.1.1, r1.2.1.2.1, r1.2.1.2.2.1, (r1.2.1.2.2.2.1.1, w64 (2 - x1.2.1), 3, r1.2.1.2.2.2.1.2.2.2), x1.2.2.2.1, r21.1, ())).bind fun r22 =>
  some (0, r22)
  else
  bif x1.1 == 5 then
  (f46 k r1.2.1 r1.2.1.2.2.2.1 x1).bind fun r23 =>
  bif r23.1 != 0 then
  some (r23.1, r23.2.1, ())
  else
  (f49 k x1).bind fun r24 =>
  (f35 k r23.2.1.2.2.2.2.2.1 r24.1).bind fun r25 =>
  (f37 k (r23.2.1.1, r23.2.1.2.1, r23.2.1.2.2.1, r23.2.2.1, x1.2.2.2.1, r25.1, ())).bind fun r26 =>
  some (0, r26)
  else
  (f47 k r1.2.1).bind fun r27 =>
  bif x1.2.1 == r27.1 then
  some (12, r27.2)
  else
  (f48 k r1.2.1.2.2.2.1.2.2.2.2.2.1 x1.2.1 x1.2.2.2.2.1).bind fun r28 =>
  bif r28.2.1 != 0 then
  some (r28.2.1, r27.2)
  else
  (f49 k x1).bind fun r29 =>
  (f35 k r27.2.1.2.2.2.2.2.1 r29.1).bind fun r30 =>
  (f37 k (r27.2.1.1, r27.2.1.2.1, r27.2.1.2.2.1, (r1.2.1.2.2.2.1.1, r1.2.1.2.2.2.1.2.1, r1.2.1.2.2.2.1.2.2.1, r1.2.1.2.2.2.1.2.2.2.1, r1.2.1.2.2.2.1.2.2.2.2.1, r28.1, ()), x1.2.2.2.1, r30.1, ())).bind fun r31 =>
  some (0, r31)
noncomputable def f14_sig (k : Nat) : Sig := ⟨[.box ck67, .val ty43], [0], [[.val (.int .i64), .box ck67]], fun x => f14 k x.1 x.2.1⟩
noncomputable def E_f14 (k : Nat) : Env := ⟨Tryz.prog, G0, scons 49 [f49_sig k] (scons 48 [f48_sig k] (scons 47 [f47_sig k] (scons 46 [f46_sig k] (scons 45 [f45_sig k] (scons 44 [f44_sig k] (scons 43 [f43_sig k] (scons 42 [f42_sig k] (scons 41 [f41_sig k] (scons 38 [f38_sig k] (scons 37 [f37_sig k] (scons 35 [f35_sig k] (snil)))))))))))), tnil, tnil, unil, k, qnil⟩
theorem f14_run (k : Nat) (x : (lTy (lay 0 (f14_sig k).ins)).den) : runF (E_f14 k) Tryz.f14 (f14_sig k) x = (f14_sig k).F x := by kernel_rfl
theorem f14_ok (k : Nat) : FnOK Tryz.prog G0 14 (f14_sig k) :=
  fn_ok2 (E := E_f14 k) (env_cons (one_sig (f49_ok k)) (env_cons (one_sig (f48_ok k)) (env_cons (one_sig (f47_ok k)) (env_cons (one_sig (f46_ok k)) (env_cons (one_sig (f45_ok k)) (env_cons (one_sig (f44_ok k)) (env_cons (one_sig (f43_ok k)) (env_cons (one_sig (f42_ok k)) (env_cons (one_sig (f41_ok k)) (env_cons (one_sig (f38_ok k)) (env_cons (one_sig (f37_ok k)) (env_cons (one_sig (f35_ok k)) (env_nil))))))))))))) (qenv_nil) mixed Tryz.func14 Tryz.call14 (by kernel_rfl) (by kernel_rfl) (m := 0) (by kernel_rfl) trivial (sk := []) (by kernel_rfl) trivial (f14_run k)

noncomputable def l19_16 (k : Nat) : Nat → ((ByteArray × Int × Int × (List (Int × Int × Int × (List (Int × Int × Int × Int × Unit)) × Unit)) × (List Int) × Bool × Bool × (List (Int × Int × Int × Bool × Unit)) × Int × Int × Int × Unit) × ((List (Int × Int × Unit)) × Int × Int × Unit) × ((ByteArray × Int × Int × (List (Int × Int × Int × (List (Int × Int × Int × Int × Unit)) × Unit)) × (List Int) × Bool × Bool × (List (Int × Int × Int × Bool × Unit)) × Int × Int × Int × Unit) × (List ((List Int) × ((List Int) × (List Int) × Unit) × Int × Int × Unit)) × (List (Int × Int × Int × Unit)) × Unit) × ((List (Int × Int × Int × Unit)) × Int × Int × ((Int × Int × Unit) × (Int × Int × Unit) × (Int × Int × Unit) × Int × Int × Bool × Int × Unit) × ((Int × Int × Unit) × ((Int × Int × Unit) × (Int × Int × Unit) × Unit) × Unit) × (List (Int × (Int × Int × Int × Unit) × Unit)) × Unit) × Int × (List (ByteArray × Int × Unit)) × Unit) → (List (ByteArray × Int × Unit)) → Int → Int → Option ((((ByteArray × Int × Int × (List (Int × Int × Int × (List (Int × Int × Int × Int × Unit)) × Unit)) × (List Int) × Bool × Bool × (List (Int × Int × Int × Bool × Unit)) × Int × Int × Int × Unit) × ((List (Int × Int × Unit)) × Int × Int × Unit) × ((ByteArray × Int × Int × (List (Int × Int × Int × (List (Int × Int × Int × Int × Unit)) × Unit)) × (List Int) × Bool × Bool × (List (Int × Int × Int × Bool × Unit)) × Int × Int × Int × Unit) × (List ((List Int) × ((List Int) × (List Int) × Unit) × Int × Int × Unit)) × (List (Int × Int × Int × Unit)) × Unit) × ((List (Int × Int × Int × Unit)) × Int × Int × ((Int × Int × Unit) × (Int × Int × Unit) × (Int × Int × Unit) × Int × Int × Bool × Int × Unit) × ((Int × Int × Unit) × ((Int × Int × Unit) × (Int × Int × Unit) × Unit) × Unit) × (List (Int × (Int × Int × Int × Unit) × Unit)) × Unit) × Int × (List (ByteArray × Int × Unit)) × Unit) × Unit) ⊕ (Unit × Int × Unit))
 | 0, _, _, _, _ => none
 | j + 1, s13, s58, s59, s60 =>
  bif decide (s60 < s59) then
  bif decide (0 ≤ s60) && decide (s60 < (s58.length : Int)) then
  (f58 k (rd (((⟨#[]⟩ : ByteArray), 0, ()) : ByteArray × Int × Unit) s58 s60).1).bind fun r1 =>
  bif r1.2.1 != 0 then
  some (.inr ((), r1.2))
  else
  (f14 k s13 r1.1).bind fun r2 =>
  bif r2.1 != 0 then
  some (.inr ((), r2.1, ()))
  else
  l19_16 k j r2.2.1 s58 s59 (w64 (s60 + 1))
  else
  none
  else
  some (.inl (s13, ()))
noncomputable def l19_16_sig (k : Nat) : LoopSig := ⟨[(13, .obj ck68), (58, .obj ck13), (59, .obj ck1), (60, .obj ck1)], [(.exit 0, [(13, .obj ck68)]), (.ret, [(6, .obj (.nilp)), (7, .obj ck1)])], fun j x => l19_16 k j x.1 x.2.1 x.2.2.1 x.2.2.2.1⟩
noncomputable def f19 (k : Nat) (x0 : ByteArray × Int × Int × (List (Int × Int × Int × (List (Int × Int × Int × Int × Unit)) × Unit)) × (List Int) × Bool × Bool × (List (Int × Int × Int × Bool × Unit)) × Int × Int × Int × Unit) (x1 : (List (Int × Int × Unit)) × Int × Int × Unit) (x2 : List (ByteArray × Int × Unit)) : Option ((((ByteArray × Int × Int × (List (Int × Int × Int × (List (Int × Int × Int × Int × Unit)) × Unit)) × (List Int) × Bool × Bool × (List (Int × Int × Int × Bool × Unit)) × Int × Int × Int × Unit) × ((List (Int × Int × Unit)) × Int × Int × Unit) × ((ByteArray × Int × Int × (List (Int × Int × Int × (List (Int × Int × Int × Int × Unit)) × Unit)) × (List Int) × Bool × Bool × (List (Int × Int × Int × Bool × Unit)) × Int × Int × Int × Unit) × (List ((List Int) × ((List Int) × (List Int) × Unit) × Int × Int × Unit)) × (List (Int × Int × Int × Unit)) × Unit) × ((List (Int × Int × Int × Unit)) × Int × Int × ((Int × Int × Unit) × (Int × Int × Unit) × (Int × Int × Unit) × Int × Int × Bool × Int × Unit) × ((Int × Int × Unit) × ((Int × Int × Unit) × (Int × Int × Unit) × Unit) × Unit) × (List (Int × (Int × Int × Int × Unit) × Unit)) × Unit) × Int × (List (ByteArray × Int × Unit)) × Unit) × Int × Unit) ⊕ (Unit × Int × Unit)) :=
  (f55 k x2).bind fun r1 =>
  bif r1.1 != 0 then
  some (.inr ((), r1))
  else
  bif (x2.length : Int) == 0 then
  some (.inr ((), 8, ()))
  else
  bif decide (0 < (x2.length : Int)) then
  (f56 k (rd (((⟨#[]⟩ : ByteArray), 0, ()) : ByteArray × Int × Unit) x2 0).1 (⟨#[115, 116, 97, 114, 116, 32]⟩ : ByteArray)).bind fun r2 =>
  bif !r2.2.1 then
  some (.inr ((), 5, ()))
  else
  (f57 k r2.1 1).bind fun r3 =>
  bif r3.2.1 != 0 then
  some (.inr ((), r3.2))
  else
  bif decide (0 < (r3.1.length : Int)) then
  (f11 k x0 x1 (rd (0 : Int) r3.1 0)).bind fun w33 =>
  Sum.elim
  (fun y4 =>
  bif y4.2.1 != 0 then
  some (.inr ((), y4.2))
  else
  bif decide (1 ≤ (x2.length : Int)) && decide ((x2.length : Int) ≤ (x2.length : Int)) then
  (l19_16 k k y4.1 (sliceOf x2 1 (x2.length : Int)) ((sliceOf x2 1 (x2.length : Int)).length : Int) 0).bind fun w34 =>
  Sum.elim
  (fun y5 =>
  some (.inl (y5.1, 0, ())))
  (fun y6 =>
  some (.inr ((), y6.2)))
  w34
  else
  none)
  (fun y7 =>
  bif y7.2.1 != 0 then
  some (.inr ((), y7.2))
  else
  bif decide (1 ≤ (x2.length : Int)) && decide ((x2.length : Int) ≤ (x2.length : Int)) then
  none
  else
  none)
  w33
  else
  none
  else
  none
noncomputable def f19_sig (k : Nat) : Sig := ⟨[.val ty56, .val ty30, .val (.sl ty9)], [], [[.box ck67, .val (.int .i64)], [.nilp, .val (.int .i64)]], fun x => f19 k x.1 x.2.1 x.2.2.1⟩
noncomputable def E_f19 (k : Nat) : Env := ⟨Tryz.prog, G0, scons 58 [f58_sig k] (scons 57 [f57_sig k] (scons 56 [f56_sig k] (scons 55 [f55_sig k] (scons 14 [f14_sig k] (scons 11 [f11_sig k] (snil)))))), tcons 16 (l19_16_sig k) (tnil), tnil, unil, k, qnil⟩
theorem l19_16_ok (k : Nat) : LoopOK (E_f19 k) ⟨Tryz.f19.ntmps, [], G0⟩ (nthC 0 (loopsIn (Tryz.f19.body.getD .skip))) :=
  loop_ok (ls := l19_16_sig k) (by kernel_rfl) (fun _ => by kernel_rfl) (fun j x => by kernel_rfl)
theorem f19_run (k : Nat) (x : (lTy (lay 0 (f19_sig k).ins)).den) : runF (E_f19 k) Tryz.f19 (f19_sig k) x = (f19_sig k).F x := by kernel_rfl
theorem f19_ok (k : Nat) : FnOK Tryz.prog G0 19 (f19_sig k) :=
  fn_ok2 (E := E_f19 k) (env_cons (one_sig (f58_ok k)) (env_cons (one_sig (f57_ok k)) (env_cons (one_sig (f56_ok k)) (env_cons (one_sig (f55_ok k)) (env_cons (one_sig (f14_ok k)) (env_cons (one_sig (f11_ok k)) (env_nil))))))) (qenv_nil) mixed Tryz.func19 Tryz.call19 (by kernel_rfl) (by kernel_rfl) (m := 1) (by kernel_rfl) ⟨trivial, l19_16_ok k⟩ (sk := []) (by kernel_rfl) trivial (f19_run k)

noncomputable def f59 (k : Nat) (x0 : ByteArray × Int × Int × (List (Int × Int × Int × (List (Int × Int × Int × Int × Unit)) × Unit)) × (List Int) × Bool × Bool × (List (Int × Int × Int × Bool × Unit)) × Int × Int × Int × Unit) (x1 : (List (Int × Int × Unit)) × Int × Int × Unit) (x2 : List (ByteArray × Int × Unit)) (x3 : Int × Int × Int × Int × (Int × Int × Int × Unit) × Unit) : Option ((Bool × Int × Unit)) :=
  (f19 k x0 x1 x2).bind fun w35 =>
  Sum.elim
  (fun y1 =>
  bif y1.2.1 != 0 then
  some (false, y1.2)
  else
  (f18 k y1.1).bind fun r2 =>
  (f12 k r2.2.1).bind fun r3 =>
  bif r3.1.2.1 == 0 then
  bif r2.1.2.2.1 == x3.2.2.1 then
  (f75 k x0 r2.1).bind fun r4 =>
  (f74 k r4.1 x3.2.2.2.2.1).bind fun r5 =>
  some (r5.1, 0, ())
  else
  some (false, 0, ())
  else
  some (false, 0, ()))
  (fun y6 =>
  bif y6.2.1 != 0 then
  some (false, y6.2)
  else
  none)
  w35
noncomputable def f59_sig (k : Nat) : Sig := ⟨[.val ty56, .val ty30, .val (.sl ty9), .val ty43], [], [[.val (.bool), .val (.int .i64)]], fun x => f59 k x.1 x.2.1 x.2.2.1 x.2.2.2.1⟩
noncomputable def E_f59 (k : Nat) : Env := ⟨Tryz.prog, G0, scons 75 [f75_sig k] (scons 74 [f74_sig k] (scons 19 [f19_sig k] (scons 18 [f18_sig k] (scons 12 [f12_sig k] (snil))))), tnil, tnil, unil, k, qnil⟩
theorem f59_run (k : Nat) (x : (lTy (lay 0 (f59_sig k).ins)).den) : runF (E_f59 k) Tryz.f59 (f59_sig k) x = (f59_sig k).F x := by kernel_rfl
theorem f59_ok (k : Nat) : FnOK Tryz.prog G0 59 (f59_sig k) :=
  fn_ok2 (E := E_f59 k) (env_cons (one_sig (f75_ok k)) (env_cons (one_sig (f74_ok k)) (env_cons (one_sig (f19_ok k)) (env_cons (one_sig (f18_ok k)) (env_cons (one_sig (f12_ok k)) (env_nil)))))) (qenv_nil) mixed Tryz.func59 Tryz.call59 (by kernel_rfl) (by kernel_rfl) (m := 0) (by kernel_rfl) trivial (sk := []) (by kernel_rfl) trivial (f59_run k)

noncomputable def f23 (k : Nat) (x0 : ByteArray × Int × Int × (List (Int × Int × Int × (List (Int × Int × Int × Int × Unit)) × Unit)) × (List Int) × Bool × Bool × (List (Int × Int × Int × Bool × Unit)) × Int × Int × Int × Unit) (x1 : (List (Int × Int × Unit)) × Int × Int × Unit) (x2 : List (ByteArray × Int × Unit)) (x3 : Int × Int × Int × Int × (Int × Int × Int × Unit) × Unit) : Option ((Bool × Int × Unit)) :=
  (f19 k x0 x1 x2).bind fun w36 =>
  Sum.elim
  (fun y1 =>
  bif y1.2.1 != 0 then
  some (false, y1.2)
  else
  bif decide (x3.1 < 0) then
  some (false, 1, ())
  else
  bif decide (x3.1 > 4) then
  some (false, 1, ())
  else
  bif decide (x3.2.2.1 < 0) then
  some (false, 1, ())
  else
  bif decide (x3.2.2.1 > 1) then
  some (false, 1, ())
  else
  bif decide (x3.2.1 < 0) then
  some (false, 1, ())
  else
  bif decide (x3.2.1 ≥ (x2.length : Int)) then
  some (false, 1, ())
  else
  bif decide (x3.2.1 > 0) then
  bif decide (0 ≤ x3.2.1) && decide (x3.2.1 < (x2.length : Int)) then
  (f58 k (rd (((⟨#[]⟩ : ByteArray), 0, ()) : ByteArray × Int × Unit) x2 x3.2.1).1).bind fun r2 =>
  bif decide (0 ≤ (w64 (x3.2.1 + 1))) && decide ((w64 (x3.2.1 + 1)) ≤ (x2.length : Int)) then
  (f19 k x0 x1 (sliceOf x2 0 (w64 (x3.2.1 + 1)))).bind fun w37 =>
  Sum.elim
  (fun y3 =>
  (f12 k y3.1).bind fun r4 =>
  bif x3.1 == 0 then
  bif decide (0 ≤ (if x3.2.1 > 1 then x3.2.1 else 1)) && decide ((if x3.2.1 > 1 then x3.2.1 else 1) ≤ (x2.length : Int)) then
  (f59 k x0 x1 (sliceOf x2 0 (if x3.2.1 > 1 then x3.2.1 else 1)) x3).bind fun r5 =>
  some r5
  else
  none
  else
  bif x3.1 == 1 then
  (f27 k x1 r4.1.2.2.2.1 x3.2.2.1 (if r4.1.2.2.2.1.2.2.2.2.1 > r2.1.2.2.2.1 then r4.1.2.2.2.1.2.2.2.2.1 else r2.1.2.2.2.1)).bind fun r6 =>
  bif r6.2.1 == 0 then
  some (decide (r6.1 ≥ x3.2.2.2.1), r6.2)
  else
  some (false, r6.2)
  else
  bif x3.1 == 2 then
  (f60 k x1 r4.1.2.2.2.1 (if r4.1.2.2.2.1.2.2.2.2.1 > r2.1.2.2.2.1 then r4.1.2.2.2.1.2.2.2.2.1 else r2.1.2.2.2.1)).bind fun r7 =>
  bif r7.2.1 == 0 then
  some (r7.1.2.2.2.2.2.2.1 == x3.2.2.1, r7.2)
  else
  some (false, r7.2)
  else
  bif x3.1 == 3 then
  some (r4.1.2.1 != 0, 0, ())
  else
  bif decide (x3.2.2.2.1 < 0) then
  some (false, 1, ())
  else
  bif decide (x3.2.2.2.1 > 1) then
  some (false, 1, ())
  else
  bif x3.2.2.2.1 == 0 then
  some (r4.1.2.2.2.2.1.1.1 == x3.2.2.1, 0, ())
  else
  bif x3.2.2.2.1 == 1 then
  some (r4.1.2.2.2.2.1.1.2.1 == x3.2.2.1, 0, ())
  else
  none)
  (fun y8 =>
  none)
  w37
  else
  none
  else
  none
  else
  bif decide (0 ≤ (w64 (x3.2.1 + 1))) && decide ((w64 (x3.2.1 + 1)) ≤ (x2.length : Int)) then
  (f19 k x0 x1 (sliceOf x2 0 (w64 (x3.2.1 + 1)))).bind fun w38 =>
  Sum.elim
  (fun y9 =>
  (f12 k y9.1).bind fun r10 =>
  bif x3.1 == 0 then
  bif decide (0 ≤ (if x3.2.1 > 1 then x3.2.1 else 1)) && decide ((if x3.2.1 > 1 then x3.2.1 else 1) ≤ (x2.length : Int)) then
  (f59 k x0 x1 (sliceOf x2 0 (if x3.2.1 > 1 then x3.2.1 else 1)) x3).bind fun r11 =>
  some r11
  else
  none
  else
  bif x3.1 == 1 then
  (f27 k x1 r10.1.2.2.2.1 x3.2.2.1 (if r10.1.2.2.2.1.2.2.2.2.1 > 0 then r10.1.2.2.2.1.2.2.2.2.1 else 0)).bind fun r12 =>
  bif r12.2.1 == 0 then
  some (decide (r12.1 ≥ x3.2.2.2.1), r12.2)
  else
  some (false, r12.2)
  else
  bif x3.1 == 2 then
  (f60 k x1 r10.1.2.2.2.1 (if r10.1.2.2.2.1.2.2.2.2.1 > 0 then r10.1.2.2.2.1.2.2.2.2.1 else 0)).bind fun r13 =>
  bif r13.2.1 == 0 then
  some (r13.1.2.2.2.2.2.2.1 == x3.2.2.1, r13.2)
  else
  some (false, r13.2)
  else
  bif x3.1 == 3 then
  some (r10.1.2.1 != 0, 0, ())
  else
  bif decide (x3.2.2.2.1 < 0) then
  some (false, 1, ())
  else
  bif decide (x3.2.2.2.1 > 1) then
  some (false, 1, ())
  else
  bif x3.2.2.2.1 == 0 then
  some (r10.1.2.2.2.2.1.1.1 == x3.2.2.1, 0, ())
  else
  bif x3.2.2.2.1 == 1 then
  some (r10.1.2.2.2.2.1.1.2.1 == x3.2.2.1, 0, ())
  else
  none)
  (fun y14 =>
  none)
  w38
  else
  none)
  (fun y15 =>
  bif y15.2.1 != 0 then
  some (false, y15.2)
  else
  bif decide (x3.1 < 0) then
  some (false, 1, ())
  else
  bif decide (x3.1 > 4) then
  some (false, 1, ())
  else
  bif decide (x3.2.2.1 < 0) then
  some (false, 1, ())
  else
  bif decide (x3.2.2.1 > 1) then
  some (false, 1, ())
  else
  bif decide (x3.2.1 < 0) then
  some (false, 1, ())
  else
  bif decide (x3.2.1 ≥ (x2.length : Int)) then
  some (false, 1, ())
  else
  bif decide (x3.2.1 > 0) then
  bif decide (0 ≤ x3.2.1) && decide (x3.2.1 < (x2.length : Int)) then
  (f58 k (rd (((⟨#[]⟩ : ByteArray), 0, ()) : ByteArray × Int × Unit) x2 x3.2.1).1).bind fun r16 =>
  bif decide (0 ≤ (w64 (x3.2.1 + 1))) && decide ((w64 (x3.2.1 + 1)) ≤ (x2.length : Int)) then
  (f19 k x0 x1 (sliceOf x2 0 (w64 (x3.2.1 + 1)))).bind fun w39 =>
  Sum.elim
  (fun y17 =>
  (f12 k y17.1).bind fun r18 =>
  bif x3.1 == 0 then
  bif decide (0 ≤ (if x3.2.1 > 1 then x3.2.1 else 1)) && decide ((if x3.2.1 > 1 then x3.2.1 else 1) ≤ (x2.length : Int)) then
  (f59 k x0 x1 (sliceOf x2 0 (if x3.2.1 > 1 then x3.2.1 else 1)) x3).bind fun r19 =>
  some r19
  else
  none
  else
  bif x3.1 == 1 then
  (f27 k x1 r18.1.2.2.2.1 x3.2.2.1 (if r18.1.2.2.2.1.2.2.2.2.1 > r16.1.2.2.2.1 then r18.1.2.2.2.1.2.2.2.2.1 else r16.1.2.2.2.1)).bind fun r20 =>
  bif r20.2.1 == 0 then
  some (decide (r20.1 ≥ x3.2.2.2.1), r20.2)
  else
  some (false, r20.2)
  else
  bif x3.1 == 2 then
  (f60 k x1 r18.1.2.2.2.1 (if r18.1.2.2.2.1.2.2.2.2.1 > r16.1.2.2.2.1 then r18.1.2.2.2.1.2.2.2.2.1 else r16.1.2.2.2.1)).bind fun r21 =>
  bif r21.2.1 == 0 then
  some (r21.1.2.2.2.2.2.2.1 == x3.2.2.1, r21.2)
  else
  some (false, r21.2)
  else
  bif x3.1 == 3 then
  some (r18.1.2.1 != 0, 0, ())
  else
  bif decide (x3.2.2.2.1 < 0) then
  some (false, 1, ())
  else
  bif decide (x3.2.2.2.1 > 1) then
  some (false, 1, ())
  else
  bif x3.2.2.2.1 == 0 then
  some (r18.1.2.2.2.2.1.1.1 == x3.2.2.1, 0, ())
  else
  bif x3.2.2.2.1 == 1 then
  some (r18.1.2.2.2.2.1.1.2.1 == x3.2.2.1, 0, ())
  else
  none)
  (fun y22 =>
  none)
  w39
  else
  none
  else
  none
  else
  bif decide (0 ≤ (w64 (x3.2.1 + 1))) && decide ((w64 (x3.2.1 + 1)) ≤ (x2.length : Int)) then
  (f19 k x0 x1 (sliceOf x2 0 (w64 (x3.2.1 + 1)))).bind fun w40 =>
  Sum.elim
  (fun y23 =>
  (f12 k y23.1).bind fun r24 =>
  bif x3.1 == 0 then
  bif decide (0 ≤ (if x3.2.1 > 1 then x3.2.1 else 1)) && decide ((if x3.2.1 > 1 then x3.2.1 else 1) ≤ (x2.length : Int)) then
  (f59 k x0 x1 (sliceOf x2 0 (if x3.2.1 > 1 then x3.2.1 else 1)) x3).bind fun r25 =>
  some r25
  else
  none
  else
  bif x3.1 == 1 then
  (f27 k x1 r24.1.2.2.2.1 x3.2.2.1 (if r24.1.2.2.2.1.2.2.2.2.1 > 0 then r24.1.2.2.2.1.2.2.2.2.1 else 0)).bind fun r26 =>
  bif r26.2.1 == 0 then
  some (decide (r26.1 ≥ x3.2.2.2.1), r26.2)
  else
  some (false, r26.2)
  else
  bif x3.1 == 2 then
  (f60 k x1 r24.1.2.2.2.1 (if r24.1.2.2.2.1.2.2.2.2.1 > 0 then r24.1.2.2.2.1.2.2.2.2.1 else 0)).bind fun r27 =>
  bif r27.2.1 == 0 then
  some (r27.1.2.2.2.2.2.2.1 == x3.2.2.1, r27.2)
  else
  some (false, r27.2)
  else
  bif x3.1 == 3 then
  some (r24.1.2.1 != 0, 0, ())
  else
  bif decide (x3.2.2.2.1 < 0) then
  some (false, 1, ())
  else
  bif decide (x3.2.2.2.1 > 1) then
  some (false, 1, ())
  else
  bif x3.2.2.2.1 == 0 then
  some (r24.1.2.2.2.2.1.1.1 == x3.2.2.1, 0, ())
  else
  bif x3.2.2.2.1 == 1 then
  some (r24.1.2.2.2.2.1.1.2.1 == x3.2.2.1, 0, ())
  else
  none)
  (fun y28 =>
  none)
  w40
  else
  none)
  w36
noncomputable def f23_sig (k : Nat) : Sig := ⟨[.val ty56, .val ty30, .val (.sl ty9), .val ty43], [], [[.val (.bool), .val (.int .i64)]], fun x => f23 k x.1 x.2.1 x.2.2.1 x.2.2.2.1⟩
noncomputable def E_f23 (k : Nat) : Env := ⟨Tryz.prog, G0, scons 60 [f60_sig k] (scons 59 [f59_sig k] (scons 58 [f58_sig k] (scons 27 [f27_sig k] (scons 19 [f19_sig k] (scons 12 [f12_sig k] (snil)))))), tnil, tnil, unil, k, qnil⟩
theorem f23_run (k : Nat) (x : (lTy (lay 0 (f23_sig k).ins)).den) : runF (E_f23 k) Tryz.f23 (f23_sig k) x = (f23_sig k).F x := by kernel_rfl
theorem f23_ok (k : Nat) : FnOK Tryz.prog G0 23 (f23_sig k) :=
  fn_ok2 (E := E_f23 k) (env_cons (one_sig (f60_ok k)) (env_cons (one_sig (f59_ok k)) (env_cons (one_sig (f58_ok k)) (env_cons (one_sig (f27_ok k)) (env_cons (one_sig (f19_ok k)) (env_cons (one_sig (f12_ok k)) (env_nil))))))) (qenv_nil) mixed Tryz.func23 Tryz.call23 (by kernel_rfl) (by kernel_rfl) (m := 0) (by kernel_rfl) trivial (sk := []) (by kernel_rfl) trivial (f23_run k)

noncomputable def f21 (k : Nat) : Option ((Bool × Unit)) :=
  (f22 k).bind fun r1 =>
  (f28 k).bind fun r2 =>
  (f11 k r1.1 r2.1 0).bind fun w41 =>
  Sum.elim
  (fun y3 =>
  bif y3.2.1 != 0 then
  some (false, ())
  else
  (f22 k).bind fun r4 =>
  (f28 k).bind fun r5 =>
  (f13 k y3.1).bind fun r6 =>
  (f29 k 0).bind fun r7 =>
  (f23 k r4.1 r5.1 r6.1 (0, 0, 0, 0, r7)).bind fun r8 =>
  bif r8.2.1 == 0 then
  some (r8.1, ())
  else
  some (false, ()))
  (fun y9 =>
  bif y9.2.1 != 0 then
  some (false, ())
  else
  (f22 k).bind fun r10 =>
  (f28 k).bind fun r11 =>
  none)
  w41
noncomputable def f21_sig (k : Nat) : Sig := ⟨[], [], [[.val (.bool)]], fun x => f21 k⟩
noncomputable def E_f21 (k : Nat) : Env := ⟨Tryz.prog, G0, scons 29 [f29_sig k] (scons 28 [f28_sig k] (scons 23 [f23_sig k] (scons 22 [f22_sig k] (scons 13 [f13_sig k] (scons 11 [f11_sig k] (snil)))))), tnil, tnil, unil, k, qnil⟩
theorem f21_run (k : Nat) (x : (lTy (lay 0 (f21_sig k).ins)).den) : runF (E_f21 k) Tryz.f21 (f21_sig k) x = (f21_sig k).F x := by kernel_rfl
theorem f21_ok (k : Nat) : FnOK Tryz.prog G0 21 (f21_sig k) :=
  fn_ok2 (E := E_f21 k) (env_cons (one_sig (f29_ok k)) (env_cons (one_sig (f28_ok k)) (env_cons (one_sig (f23_ok k)) (env_cons (one_sig (f22_ok k)) (env_cons (one_sig (f13_ok k)) (env_cons (one_sig (f11_ok k)) (env_nil))))))) (qenv_nil) mixed Tryz.func21 Tryz.call21 (by kernel_rfl) (by kernel_rfl) (m := 0) (by kernel_rfl) trivial (sk := []) (by kernel_rfl) trivial (f21_run k)

noncomputable def l24_6 (k : Nat) : Nat → (List (ByteArray × Int × Unit)) → (ByteArray × Int × Int × (List (Int × Int × Int × (List (Int × Int × Int × Int × Unit)) × Unit)) × (List Int) × Bool × Bool × (List (Int × Int × Int × Bool × Unit)) × Int × Int × Int × Unit) → ((List (Int × Int × Unit)) × Int × Int × Unit) → (Int × Int × Int × Int × (Int × Int × Int × Unit) × Unit) → Int → Int → Option (Unit ⊕ (Int × Int × Unit))
 | 0, _, _, _, _, _, _ => none
 | j + 1, s2, s4, s5, s7, s28, s29 =>
  bif decide (s29 < s28) then
  (f23 k s4 s5 s2 (s7.1, s29, s7.2.2)).bind fun r1 =>
  bif r1.2.1 == 0 then
  bif r1.1 then
  some (.inr (s29, 0, ()))
  else
  l24_6 k j s2 s4 s5 (s7.1, s29, s7.2.2) s28 (w64 (s29 + 1))
  else
  l24_6 k j s2 s4 s5 (s7.1, s29, s7.2.2) s28 (w64 (s29 + 1))
  else
  some (.inl ())
noncomputable def l24_6_sig (k : Nat) : LoopSig := ⟨[(2, .obj ck13), (4, .obj ck58), (5, .obj ck36), (7, .obj ck49), (28, .obj ck1), (29, .obj ck1)], [(.exit 0, []), (.ret, [(8, .obj ck1), (9, .obj ck1)])], fun j x => l24_6 k j x.1 x.2.1 x.2.2.1 x.2.2.2.1 x.2.2.2.2.1 x.2.2.2.2.2.1⟩
noncomputable def f24 (k : Nat) (x0 : ByteArray × Int × Int × (List (Int × Int × Int × (List (Int × Int × Int × Int × Unit)) × Unit)) × (List Int) × Bool × Bool × (List (Int × Int × Int × Bool × Unit)) × Int × Int × Int × Unit) (x1 : (List (Int × Int × Unit)) × Int × Int × Unit) (x2 : List (ByteArray × Int × Unit)) (x3 : Int × Int × Int × Int × (Int × Int × Int × Unit) × Unit) : Option ((Int × Int × Unit)) :=
  (f23 k x0 x1 x2 (x3.1, 0, x3.2.2)).bind fun r1 =>
  bif r1.2.1 != 0 then
  some (0, r1.2)
  else
  (l24_6 k k x2 x0 x1 (x3.1, 0, x3.2.2) (x2.length : Int) 0).bind fun w42 =>
  Sum.elim
  (fun y2 =>
  some (0, 8, ()))
  (fun y3 =>
  some y3)
  w42
noncomputable def f24_sig (k : Nat) : Sig := ⟨[.val ty56, .val ty30, .val (.sl ty9), .val ty43], [], [[.val (.int .i64), .val (.int .i64)]], fun x => f24 k x.1 x.2.1 x.2.2.1 x.2.2.2.1⟩
noncomputable def E_f24 (k : Nat) : Env := ⟨Tryz.prog, G0, scons 23 [f23_sig k] (snil), tcons 6 (l24_6_sig k) (tnil), tnil, unil, k, qnil⟩
theorem l24_6_ok (k : Nat) : LoopOK (E_f24 k) ⟨Tryz.f24.ntmps, [], G0⟩ (nthC 0 (loopsIn (Tryz.f24.body.getD .skip))) :=
  loop_ok (ls := l24_6_sig k) (by kernel_rfl) (fun _ => by kernel_rfl) (fun j x => by kernel_rfl)
theorem f24_run (k : Nat) (x : (lTy (lay 0 (f24_sig k).ins)).den) : runF (E_f24 k) Tryz.f24 (f24_sig k) x = (f24_sig k).F x := by kernel_rfl
theorem f24_ok (k : Nat) : FnOK Tryz.prog G0 24 (f24_sig k) :=
  fn_ok2 (E := E_f24 k) (env_cons (one_sig (f23_ok k)) (env_nil)) (qenv_nil) mixed Tryz.func24 Tryz.call24 (by kernel_rfl) (by kernel_rfl) (m := 1) (by kernel_rfl) ⟨trivial, l24_6_ok k⟩ (sk := []) (by kernel_rfl) trivial (f24_run k)

noncomputable def l7_8 (k : Nat) : Nat → ((List (Int × Int × Unit)) × Int × Int × Unit) → (Int × Int × Int × Int × (Int × Int × Int × Unit) × Unit) → ((ByteArray × Int × Int × (List (Int × Int × Int × (List (Int × Int × Int × Int × Unit)) × Unit)) × (List Int) × Bool × Bool × (List (Int × Int × Int × Bool × Unit)) × Int × Int × Int × Unit) × ((List (Int × Int × Unit)) × Int × Int × Unit) × ((ByteArray × Int × Int × (List (Int × Int × Int × (List (Int × Int × Int × Int × Unit)) × Unit)) × (List Int) × Bool × Bool × (List (Int × Int × Int × Bool × Unit)) × Int × Int × Int × Unit) × (List ((List Int) × ((List Int) × (List Int) × Unit) × Int × Int × Unit)) × (List (Int × Int × Int × Unit)) × Unit) × ((List (Int × Int × Int × Unit)) × Int × Int × ((Int × Int × Unit) × (Int × Int × Unit) × (Int × Int × Unit) × Int × Int × Bool × Int × Unit) × ((Int × Int × Unit) × ((Int × Int × Unit) × (Int × Int × Unit) × Unit) × Unit) × (List (Int × (Int × Int × Int × Unit) × Unit)) × Unit) × Int × (List (ByteArray × Int × Unit)) × Unit) → (List (Int × Int × Int × Int × (Int × Int × Int × Unit) × Unit)) → Int → Int → Option ((((List (Int × Int × Unit)) × Int × Int × Unit) × (Int × Int × Int × Int × (Int × Int × Int × Unit) × Unit) × ((ByteArray × Int × Int × (List (Int × Int × Int × (List (Int × Int × Int × Int × Unit)) × Unit)) × (List Int) × Bool × Bool × (List (Int × Int × Int × Bool × Unit)) × Int × Int × Int × Unit) × ((List (Int × Int × Unit)) × Int × Int × Unit) × ((ByteArray × Int × Int × (List (Int × Int × Int × (List (Int × Int × Int × Int × Unit)) × Unit)) × (List Int) × Bool × Bool × (List (Int × Int × Int × Bool × Unit)) × Int × Int × Int × Unit) × (List ((List Int) × ((List Int) × (List Int) × Unit) × Int × Int × Unit)) × (List (Int × Int × Int × Unit)) × Unit) × ((List (Int × Int × Int × Unit)) × Int × Int × ((Int × Int × Unit) × (Int × Int × Unit) × (Int × Int × Unit) × Int × Int × Bool × Int × Unit) × ((Int × Int × Unit) × ((Int × Int × Unit) × (Int × Int × Unit) × Unit) × Unit) × (List (Int × (Int × Int × Int × Unit) × Unit)) × Unit) × Int × (List (ByteArray × Int × Unit)) × Unit) × Unit))
 | 0, _, _, _, _, _, _ => none
 | j + 1, s3, s5, s7, s35, s36, s37 =>
  bif decide (s37 < s36) then
  bif decide (0 ≤ s37) && decide (s37 < (s35.length : Int)) then
  (f14 k s7 (rd ((0, 0, 0, 0, (0, 0, 0, ()), ()) : Int × Int × Int × Int × (Int × Int × Int × Unit) × Unit) s35 s37)).bind fun r1 =>
  l7_8 k j s3 s5 r1.2.1 s35 s36 (w64 (s37 + 1))
  else
  none
  else
  some (s3, s5, s7, ())
noncomputable def l7_8_sig (k : Nat) : LoopSig := ⟨[(3, .obj ck36), (5, .obj ck49), (7, .obj ck68), (35, .obj (.val (.sl ty43))), (36, .obj ck1), (37, .obj ck1)], [(.exit 0, [(3, .obj ck36), (5, .obj ck49), (7, .obj ck68)])], fun j x => l7_8 k j x.1 x.2.1 x.2.2.1 x.2.2.2.1 x.2.2.2.2.1 x.2.2.2.2.2.1⟩
noncomputable def f7 (k : Nat) (x0 : (List (Int × Int × Unit)) × Int × Int × Unit) (x1 : List (Int × Int × Int × Int × (Int × Int × Int × Unit) × Unit)) (x2 : Int × Int × Int × Int × (Int × Int × Int × Unit) × Unit) : Option ((Bool × Unit)) :=
  (f21 k).bind fun r1 =>
  bif !r1.1 then
  some (false, ())
  else
  bif decide (0 ≤ (if 12 < (x1.length : Int) then 12 else (x1.length : Int))) && decide ((if 12 < (x1.length : Int) then 12 else (x1.length : Int)) ≤ (x1.length : Int)) then
  (f22 k).bind fun r2 =>
  (f11 k r2.1 x0 0).bind fun w43 =>
  Sum.elim
  (fun y3 =>
  bif y3.2.1 != 0 then
  some (true, ())
  else
  (l7_8 k k x0 x2 y3.1 (sliceOf x1 0 (if 12 < (x1.length : Int) then 12 else (x1.length : Int))) ((sliceOf x1 0 (if 12 < (x1.length : Int) then 12 else (x1.length : Int))).length : Int) 0).bind fun o4 =>
  (f13 k o4.2.2.1).bind fun r5 =>
  (f22 k).bind fun r6 =>
  (f23 k r6.1 o4.1 r5.1 o4.2.1).bind fun r7 =>
  bif r7.2.1 == 0 then
  (f22 k).bind fun r8 =>
  bif decide (0 ≤ (w64 (o4.2.1.2.1 + 1))) && decide ((w64 (o4.2.1.2.1 + 1)) ≤ (r5.1.length : Int)) then
  (f23 k r8.1 o4.1 (first (w64 (o4.2.1.2.1 + 1)).toNat r5.1) o4.2.1).bind fun r9 =>
  bif r9.2.1 != 0 then
  some (false, ())
  else
  bif !(r9.1 == r7.1) then
  some (false, ())
  else
  (f22 k).bind fun r10 =>
  (f24 k r10.1 o4.1 r5.1 o4.2.1).bind fun r11 =>
  bif r11.2.1 != 0 then
  bif r11.1 == 0 then
  bif r7.2.1 != 0 then
  some (true, ())
  else
  some (!r7.1, ())
  else
  some (false, ())
  else
  bif r7.2.1 == 0 then
  bif r7.1 then
  bif decide (r11.1 > o4.2.1.2.1) then
  some (false, ())
  else
  (f22 k).bind fun r12 =>
  (f23 k r12.1 o4.1 r5.1 (o4.2.1.1, r11.1, o4.2.1.2.2)).bind fun r13 =>
  bif r13.2.1 == 0 then
  some (r13.1, ())
  else
  some (false, ())
  else
  (f22 k).bind fun r14 =>
  (f23 k r14.1 o4.1 r5.1 (o4.2.1.1, r11.1, o4.2.1.2.2)).bind fun r15 =>
  bif r15.2.1 == 0 then
  some (r15.1, ())
  else
  some (false, ())
  else
  (f22 k).bind fun r16 =>
  (f23 k r16.1 o4.1 r5.1 (o4.2.1.1, r11.1, o4.2.1.2.2)).bind fun r17 =>
  bif r17.2.1 == 0 then
  some (r17.1, ())
  else
  some (false, ())
  else
  none
  else
  (f22 k).bind fun r18 =>
  (f24 k r18.1 o4.1 r5.1 o4.2.1).bind fun r19 =>
  bif r19.2.1 != 0 then
  bif r19.1 == 0 then
  bif r7.2.1 != 0 then
  some (true, ())
  else
  some (!r7.1, ())
  else
  some (false, ())
  else
  bif r7.2.1 == 0 then
  bif r7.1 then
  bif decide (r19.1 > o4.2.1.2.1) then
  some (false, ())
  else
  (f22 k).bind fun r20 =>
  (f23 k r20.1 o4.1 r5.1 (o4.2.1.1, r19.1, o4.2.1.2.2)).bind fun r21 =>
  bif r21.2.1 == 0 then
  some (r21.1, ())
  else
  some (false, ())
  else
  (f22 k).bind fun r22 =>
  (f23 k r22.1 o4.1 r5.1 (o4.2.1.1, r19.1, o4.2.1.2.2)).bind fun r23 =>
  bif r23.2.1 == 0 then
  some (r23.1, ())
  else
  some (false, ())
  else
  (f22 k).bind fun r24 =>
  (f23 k r24.1 o4.1 r5.1 (o4.2.1.1, r19.1, o4.2.1.2.2)).bind fun r25 =>
  bif r25.2.1 == 0 then
  some (r25.1, ())
  else
  some (false, ()))
  (fun y26 =>
  bif y26.2.1 != 0 then
  some (true, ())
  else
  none)
  w43
  else
  none
noncomputable def f7_sig (k : Nat) : Sig := ⟨[.val ty30, .val (.sl ty43), .val ty43], [], [[.val (.bool)]], fun x => f7 k x.1 x.2.1 x.2.2.1⟩
noncomputable def E_f7 (k : Nat) : Env := ⟨Tryz.prog, G0, scons 24 [f24_sig k] (scons 23 [f23_sig k] (scons 22 [f22_sig k] (scons 21 [f21_sig k] (scons 14 [f14_sig k] (scons 13 [f13_sig k] (scons 11 [f11_sig k] (snil))))))), tcons 8 (l7_8_sig k) (tnil), tnil, unil, k, qnil⟩
theorem l7_8_ok (k : Nat) : LoopOK (E_f7 k) ⟨Tryz.f7.ntmps, [], G0⟩ (nthC 0 (loopsIn (Tryz.f7.body.getD .skip))) :=
  loop_ok (ls := l7_8_sig k) (by kernel_rfl) (fun _ => by kernel_rfl) (fun j x => by kernel_rfl)
theorem f7_run (k : Nat) (x : (lTy (lay 0 (f7_sig k).ins)).den) : runF (E_f7 k) Tryz.f7 (f7_sig k) x = (f7_sig k).F x := by kernel_rfl
theorem f7_ok (k : Nat) : FnOK Tryz.prog G0 7 (f7_sig k) :=
  fn_ok2 (E := E_f7 k) (env_cons (one_sig (f24_ok k)) (env_cons (one_sig (f23_ok k)) (env_cons (one_sig (f22_ok k)) (env_cons (one_sig (f21_ok k)) (env_cons (one_sig (f14_ok k)) (env_cons (one_sig (f13_ok k)) (env_cons (one_sig (f11_ok k)) (env_nil)))))))) (qenv_nil) mixed Tryz.func7 Tryz.call7 (by kernel_rfl) (by kernel_rfl) (m := 1) (by kernel_rfl) ⟨trivial, l7_8_ok k⟩ (sk := []) (by kernel_rfl) trivial (f7_run k)
end Go.Proofs.YtpnbiakaknbofaaGreatDoor.G
