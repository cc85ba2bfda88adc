import Derived.Test.YtpighccmakogpaaVM21
import Derived.Test.YtpighccmakogpaaChecked
namespace Go.Proofs.Ytpighccmakogpaa.G
open Go.VM Go.Proofs

abbrev w64 (n : Int) : Int := IntKind.i64.wrap n
theorem mixed : Try.prog.follows .mixedOrders = true := by kernel_rfl

/-! ### gamehall/robin.Rounds: function 21 -/
def f21 (k : Nat) (x0 : Int) (x1 : Bool) : Option (Int × Int × Unit) :=
  bif decide (x0 < 2) then
    some (0, 4, ())
  else
  bif decide (x0 > 32) then
    some (0, 4, ())
  else
  bif x1 then
    some (w64 ((w64 ((w64 (x0 - 1)) + (x0.tmod 2))) * 2), 0, ())
  else
    some (w64 ((w64 (x0 - 1)) + (x0.tmod 2)), 0, ())
def f21_sig (k : Nat) : Sig := ⟨[.int .i64, .bool], [.int .i64, .int .i64], true, fun x => f21 k x.1 x.2.1⟩
noncomputable def E21 (k : Nat) : Env := ⟨Try.prog, tnil, tnil, k⟩
theorem f21_run (k : Nat) (x : (tupT (f21_sig k).pt).den) : runF (E21 k) Try.f21 (f21_sig k).pt (f21_sig k).rt (f21_sig k).own x = (f21_sig k).f x := by kernel_rfl
theorem f21_ok (k : Nat) : FnOK Try.prog 21 (f21_sig k) :=
  fn_ok2 (E := E21 k) (env_nil) mixed Try.func21 Try.call21 (by kernel_rfl) (by kernel_rfl) (by kernel_rfl) (m := 0) (by kernel_rfl) trivial (f21_run k)

/-! ### gamehall/gamehallkeep3.rounds: function 15 -/
def f15 (k : Nat) : Option (Bool × Unit) :=
  (f21 k 2 false).bind fun r1 =>
  bif r1.2.1 == 0 then
    some (r1.1 == 1, ())
  else
    some (false, ())
def f15_sig (k : Nat) : Sig := ⟨[], [.bool], true, fun x => f15 k⟩
noncomputable def E15 (k : Nat) : Env := ⟨Try.prog, tcons 21 (f21_sig k) (tnil), tnil, k⟩
theorem f15_run (k : Nat) (x : (tupT (f15_sig k).pt).den) : runF (E15 k) Try.f15 (f15_sig k).pt (f15_sig k).rt (f15_sig k).own x = (f15_sig k).f x := by kernel_rfl
theorem f15_ok (k : Nat) : FnOK Try.prog 15 (f15_sig k) :=
  fn_ok2 (E := E15 k) (env_cons (f21_ok k) (env_nil)) mixed Try.func15 Try.call15 (by kernel_rfl) (by kernel_rfl) (by kernel_rfl) (m := 0) (by kernel_rfl) trivial (f15_run k)

/-! ### gamehall/robin.seat: function 32 -/
def f32 (k : Nat) (x0 : Int) (x1 : Int) (x2 : Int) : Option (Int × Unit) :=
  bif decide (w64 (x0 - 1) = 0) then
    none
  else
    some ((w64 (x1 + x2)).tmod (w64 (x0 - 1)), ())
def f32_sig (k : Nat) : Sig := ⟨[.int .i64, .int .i64, .int .i64], [.int .i64], true, fun x => f32 k x.1 x.2.1 x.2.2.1⟩
noncomputable def E32 (k : Nat) : Env := ⟨Try.prog, tnil, tnil, k⟩
theorem f32_run (k : Nat) (x : (tupT (f32_sig k).pt).den) : runF (E32 k) Try.f32 (f32_sig k).pt (f32_sig k).rt (f32_sig k).own x = (f32_sig k).f x := by kernel_rfl
theorem f32_ok (k : Nat) : FnOK Try.prog 32 (f32_sig k) :=
  fn_ok2 (E := E32 k) (env_nil) mixed Try.func32 Try.call32 (by kernel_rfl) (by kernel_rfl) (by kernel_rfl) (m := 0) (by kernel_rfl) trivial (f32_run k)

/-! ### gamehall/robin.Round: function 16 -/
def l16_16 (k : Nat) : Nat → Int → Bool → Int → (List (Int × Int × Unit)) → Int → Option ((Bool × (List (Int × Int × Unit)) × Unit))
  | 0, _, _, _, _, _ => none
  | j + 1, s10, s11, s12, s13, s15 =>
    bif decide (s15 < (w64 (s10.tdiv 2))) then
      (f32 k s10 s12 s15).bind fun r1 =>
      (f32 k s10 s12 (w64 ((w64 (s10 - 1)) - s15))).bind fun r2 =>
      bif (s15.tmod 2) == 1 then
        bif decide ((s13.length + [(r2.1, r1)].length) * 16 ≤ roomN) then
          l16_16 k j s10 s11 s12 (s13 ++ [(r2.1, r1)]) (w64 (s15 + 1))
        else
          none
      else
      bif decide ((s13.length + [(r1.1, r2)].length) * 16 ≤ roomN) then
        l16_16 k j s10 s11 s12 (s13 ++ [(r1.1, r2)]) (w64 (s15 + 1))
      else
        none
    else
      some (s11, s13, ())
noncomputable def l16_16_sig (k : Nat) : LoopSig := ⟨[(10, .val (.int .i64)), (11, .val (.bool)), (12, .val (.int .i64)), (13, .row (.pair (.int .i64) (.pair (.int .i64) (.unit)))), (15, .val (.int .i64))], [(.exit 0, [(11, .val (.bool)), (13, .row (.pair (.int .i64) (.pair (.int .i64) (.unit))))])], fun j x => l16_16 k j x.1 x.2.1 x.2.2.1 x.2.2.2.1 x.2.2.2.2.1⟩
def l16_24 (k : Nat) : Nat → (List (Int × Int × Unit)) → Unit → Int → Int → Option (((List (Int × Int × Unit)) × Unit))
  | 0, _, _, _, _ => none
  | j + 1, s13, s99, s100, s101 =>
    bif decide (s101 < s100) then
      bif decide (0 ≤ s101) && decide (s101 < (s13.length : Int)) then
        bif decide (0 ≤ s101) && decide (s101 < (s13.length : Int)) then
          l16_24 k j (s13.set s101.toNat ((rd ((0, 0, ()) : Int × Int × Unit) s13 s101).2.1, (rd ((0, 0, ()) : Int × Int × Unit) s13 s101).1, ())) () s100 (w64 (s101 + 1))
        else
          none
      else
        none
    else
      some (s13, ())
noncomputable def l16_24_sig (k : Nat) : LoopSig := ⟨[(13, .row (.pair (.int .i64) (.pair (.int .i64) (.unit)))), (99, .same 13), (100, .val (.int .i64)), (101, .val (.int .i64))], [(.exit 2, [(13, .row (.pair (.int .i64) (.pair (.int .i64) (.unit))))])], fun j x => l16_24 k j x.1 x.2.1 x.2.2.1 x.2.2.2.1⟩
def f16 (k : Nat) (x0 : Int) (x1 : Bool) (x2 : Int) : Option ((List (Int × Int × Unit)) × Int × Unit) :=
  (f21 k x0 x1).bind fun r1 =>
  bif r1.2.1 != 0 then
    some ([], r1.2)
  else
  bif decide (x2 < 0) then
    some ([], 1, ())
  else
  bif decide (x2 ≥ r1.1) then
    some ([], 1, ())
  else
  bif decide (w64 ((w64 (x0 + (x0.tmod 2))) - 1) = 0) then
    none
  else
  bif x0 == (w64 (x0 + (x0.tmod 2))) then
    (f32 k (w64 (x0 + (x0.tmod 2))) (x2.tmod (w64 ((w64 (x0 + (x0.tmod 2))) - 1))) 0).bind fun r2 =>
    bif ((x2.tmod (w64 ((w64 (x0 + (x0.tmod 2))) - 1))).tmod 2) == 1 then
      (l16_16 k k (w64 (x0 + (x0.tmod 2))) (decide (x2 ≥ (w64 ((w64 (x0 + (x0.tmod 2))) - 1)))) (x2.tmod (w64 ((w64 (x0 + (x0.tmod 2))) - 1))) [(w64 ((w64 (x0 + (x0.tmod 2))) - 1), r2)] 1).bind fun o3 =>
      bif o3.1 then
        (l16_24 k k o3.2.1 () (o3.2.1.length : Int) 0).bind fun o4 =>
        some (o4.1, 0, ())
      else
        some (o3.2.1, 0, ())
    else
      (l16_16 k k (w64 (x0 + (x0.tmod 2))) (decide (x2 ≥ (w64 ((w64 (x0 + (x0.tmod 2))) - 1)))) (x2.tmod (w64 ((w64 (x0 + (x0.tmod 2))) - 1))) [(r2.1, w64 ((w64 (x0 + (x0.tmod 2))) - 1), ())] 1).bind fun o5 =>
      bif o5.1 then
        (l16_24 k k o5.2.1 () (o5.2.1.length : Int) 0).bind fun o6 =>
        some (o6.1, 0, ())
      else
        some (o5.2.1, 0, ())
  else
    (l16_16 k k (w64 (x0 + (x0.tmod 2))) (decide (x2 ≥ (w64 ((w64 (x0 + (x0.tmod 2))) - 1)))) (x2.tmod (w64 ((w64 (x0 + (x0.tmod 2))) - 1))) [] 1).bind fun o7 =>
    bif o7.1 then
      (l16_24 k k o7.2.1 () (o7.2.1.length : Int) 0).bind fun o8 =>
      some (o8.1, 0, ())
    else
      some (o7.2.1, 0, ())
def f16_sig (k : Nat) : Sig := ⟨[.int .i64, .bool, .int .i64], [.sl (.pair (.int .i64) (.pair (.int .i64) (.unit))), .int .i64], true, fun x => f16 k x.1 x.2.1 x.2.2.1⟩
noncomputable def E16 (k : Nat) : Env := ⟨Try.prog, tcons 32 (f32_sig k) (tcons 21 (f21_sig k) (tnil)), tcons 24 (l16_24_sig k) (tcons 16 (l16_16_sig k) (tnil)), k⟩
theorem l16_16_ok (k : Nat) : LoopOK (E16 k) Try.f16.ntmps (nthC 0 (loopsIn (Try.f16.body.getD .skip))) :=
  loop_ok (ls := l16_16_sig k) (by kernel_rfl) (fun _ => by kernel_rfl) (fun j x => by kernel_rfl)
theorem l16_24_ok (k : Nat) : LoopOK (E16 k) Try.f16.ntmps (nthC 1 (loopsIn (Try.f16.body.getD .skip))) :=
  loop_ok (ls := l16_24_sig k) (by kernel_rfl) (fun _ => by kernel_rfl) (fun j x => by kernel_rfl)
theorem f16_run (k : Nat) (x : (tupT (f16_sig k).pt).den) : runF (E16 k) Try.f16 (f16_sig k).pt (f16_sig k).rt (f16_sig k).own x = (f16_sig k).f x := by kernel_rfl
theorem f16_ok (k : Nat) : FnOK Try.prog 16 (f16_sig k) :=
  fn_ok2 (E := E16 k) (env_cons (f32_ok k) (env_cons (f21_ok k) (env_nil))) mixed Try.func16 Try.call16 (by kernel_rfl) (by kernel_rfl) (by kernel_rfl) (m := 2) (by kernel_rfl) ⟨⟨trivial, l16_16_ok k⟩, l16_24_ok k⟩ (f16_run k)

/-! ### gamehall/robin.All: function 23 -/
def l23_6 (k : Nat) : Nat → Int → Bool → (List (List (Int × Int × Unit))) → Int → Int → Option (((List (List (Int × Int × Unit))) × Unit))
  | 0, _, _, _, _, _ => none
  | j + 1, s0, s1, s8, s21, s22 =>
    bif decide (s22 < s21) then
      (f16 k s0 s1 s22).bind fun r1 =>
      bif decide ((s8.length + [r1.1].length) * 24 ≤ roomN) then
        l23_6 k j s0 s1 (s8 ++ [r1.1]) s21 (w64 (s22 + 1))
      else
        none
    else
      some (s8, ())
noncomputable def l23_6_sig (k : Nat) : LoopSig := ⟨[(0, .val (.int .i64)), (1, .val (.bool)), (8, .row (.sl (.pair (.int .i64) (.pair (.int .i64) (.unit))))), (21, .val (.int .i64)), (22, .val (.int .i64))], [(.exit 0, [(8, .row (.sl (.pair (.int .i64) (.pair (.int .i64) (.unit)))))])], fun j x => l23_6 k j x.1 x.2.1 x.2.2.1 x.2.2.2.1 x.2.2.2.2.1⟩
def f23 (k : Nat) (x0 : Int) (x1 : Bool) : Option ((List (List (Int × Int × Unit))) × Int × Unit) :=
  (f21 k x0 x1).bind fun r1 =>
  bif r1.2.1 != 0 then
    some ([], r1.2)
  else
    (l23_6 k k x0 x1 [] r1.1 0).bind fun o2 =>
    some (o2.1, 0, ())
def f23_sig (k : Nat) : Sig := ⟨[.int .i64, .bool], [.sl (.sl (.pair (.int .i64) (.pair (.int .i64) (.unit)))), .int .i64], true, fun x => f23 k x.1 x.2.1⟩
noncomputable def E23 (k : Nat) : Env := ⟨Try.prog, tcons 21 (f21_sig k) (tcons 16 (f16_sig k) (tnil)), tcons 6 (l23_6_sig k) (tnil), k⟩
theorem l23_6_ok (k : Nat) : LoopOK (E23 k) Try.f23.ntmps (nthC 0 (loopsIn (Try.f23.body.getD .skip))) :=
  loop_ok (ls := l23_6_sig k) (by kernel_rfl) (fun _ => by kernel_rfl) (fun j x => by kernel_rfl)
theorem f23_run (k : Nat) (x : (tupT (f23_sig k).pt).den) : runF (E23 k) Try.f23 (f23_sig k).pt (f23_sig k).rt (f23_sig k).own x = (f23_sig k).f x := by kernel_rfl
theorem f23_ok (k : Nat) : FnOK Try.prog 23 (f23_sig k) :=
  fn_ok2 (E := E23 k) (env_cons (f21_ok k) (env_cons (f16_ok k) (env_nil))) mixed Try.func23 Try.call23 (by kernel_rfl) (by kernel_rfl) (by kernel_rfl) (m := 1) (by kernel_rfl) ⟨trivial, l23_6_ok k⟩ (f23_run k)

/-! ### gamehall/robin.Colours: function 22 -/
def l22_11 (k : Nat) : Nat → (List Int) → (List (List (Int × Int × Unit))) → Int → Int → (List (Int × Int × Unit)) → Int → Int → Option (((List Int) × (List (List (Int × Int × Unit))) × Int × Int × Unit))
  | 0, _, _, _, _, _, _, _ => none
  | j + 1, s10, s36, s37, s38, s42, s43, s44 =>
    bif decide (s44 < s43) then
      bif decide (0 ≤ s44) && decide (s44 < (s42.length : Int)) then
        bif decide (0 ≤ (rd ((0, 0, ()) : Int × Int × Unit) s42 s44).1) && decide ((rd ((0, 0, ()) : Int × Int × Unit) s42 s44).1 < (s10.length : Int)) then
          bif decide (0 ≤ (rd ((0, 0, ()) : Int × Int × Unit) s42 s44).1) && decide ((rd ((0, 0, ()) : Int × Int × Unit) s42 s44).1 < (s10.length : Int)) then
            bif decide (0 ≤ (rd ((0, 0, ()) : Int × Int × Unit) s42 s44).2.1) && decide ((rd ((0, 0, ()) : Int × Int × Unit) s42 s44).2.1 < ((s10.set (rd ((0, 0, ()) : Int × Int × Unit) s42 s44).1.toNat (w64 ((rd 0 s10 (rd ((0, 0, ()) : Int × Int × Unit) s42 s44).1) + 1))).length : Int)) then
              bif decide (0 ≤ (rd ((0, 0, ()) : Int × Int × Unit) s42 s44).2.1) && decide ((rd ((0, 0, ()) : Int × Int × Unit) s42 s44).2.1 < ((s10.set (rd ((0, 0, ()) : Int × Int × Unit) s42 s44).1.toNat (w64 ((rd 0 s10 (rd ((0, 0, ()) : Int × Int × Unit) s42 s44).1) + 1))).length : Int)) then
                l22_11 k j ((s10.set (rd ((0, 0, ()) : Int × Int × Unit) s42 s44).1.toNat (w64 ((rd 0 s10 (rd ((0, 0, ()) : Int × Int × Unit) s42 s44).1) + 1))).set (rd ((0, 0, ()) : Int × Int × Unit) s42 s44).2.1.toNat (w64 ((rd 0 (s10.set (rd ((0, 0, ()) : Int × Int × Unit) s42 s44).1.toNat (w64 ((rd 0 s10 (rd ((0, 0, ()) : Int × Int × Unit) s42 s44).1) + 1))) (rd ((0, 0, ()) : Int × Int × Unit) s42 s44).2.1) - 1))) s36 s37 s38 s42 s43 (w64 (s44 + 1))
              else
                none
            else
              none
          else
            none
        else
          none
      else
        none
    else
      some (s10, s36, s37, s38, ())
noncomputable def l22_11_sig (k : Nat) : LoopSig := ⟨[(10, .row (.int .i64)), (36, .val (.sl (.sl (.pair (.int .i64) (.pair (.int .i64) (.unit)))))), (37, .val (.int .i64)), (38, .val (.int .i64)), (42, .val (.sl (.pair (.int .i64) (.pair (.int .i64) (.unit))))), (43, .val (.int .i64)), (44, .val (.int .i64))], [(.exit 2, [(10, .row (.int .i64)), (36, .val (.sl (.sl (.pair (.int .i64) (.pair (.int .i64) (.unit)))))), (37, .val (.int .i64)), (38, .val (.int .i64))])], fun j x => l22_11 k j x.1 x.2.1 x.2.2.1 x.2.2.2.1 x.2.2.2.2.1 x.2.2.2.2.2.1 x.2.2.2.2.2.2.1⟩
def l22_8 (k : Nat) : Nat → (List Int) → (List (List (Int × Int × Unit))) → Int → Int → Option (((List Int) × Unit))
  | 0, _, _, _, _ => none
  | j + 1, s10, s36, s37, s38 =>
    bif decide (s38 < s37) then
      bif decide (0 ≤ s38) && decide (s38 < (s36.length : Int)) then
        (l22_11 k k s10 s36 s37 s38 (rd [] s36 s38) ((rd [] s36 s38).length : Int) 0).bind fun o1 =>
        l22_8 k j o1.1 o1.2.1 o1.2.2.1 (w64 (o1.2.2.2.1 + 1))
      else
        none
    else
      some (s10, ())
noncomputable def l22_8_sig (k : Nat) : LoopSig := ⟨[(10, .row (.int .i64)), (36, .val (.sl (.sl (.pair (.int .i64) (.pair (.int .i64) (.unit)))))), (37, .val (.int .i64)), (38, .val (.int .i64))], [(.exit 0, [(10, .row (.int .i64))])], fun j x => l22_8 k j x.1 x.2.1 x.2.2.1 x.2.2.2.1⟩
def f22 (k : Nat) (x0 : Int) (x1 : Bool) (x2 : Int) : Option ((List Int) × Int × Unit) :=
  (f23 k x0 x1).bind fun r1 =>
  bif r1.2.1 != 0 then
    some ([], r1.2)
  else
  bif decide (x2 < 0) then
    some ([], 1, ())
  else
  bif decide (x2 > (r1.1.length : Int)) then
    some ([], 1, ())
  else
  bif decide (0 ≤ x0) && (decide (x0 ≤ x0) && decide (((8 : Nat) : Int) * x0 ≤ 281474976710656)) && decide (x0 ≤ 9223372036854775807) then
    bif decide (0 ≤ x2) && decide (x2 ≤ (r1.1.length : Int)) then
      (l22_8 k k (List.replicate x0.toNat 0) (sliceOf r1.1 0 x2) ((sliceOf r1.1 0 x2).length : Int) 0).bind fun o2 =>
      some (o2.1, 0, ())
    else
      none
  else
    none
def f22_sig (k : Nat) : Sig := ⟨[.int .i64, .bool, .int .i64], [.sl (.int .i64), .int .i64], true, fun x => f22 k x.1 x.2.1 x.2.2.1⟩
noncomputable def E22 (k : Nat) : Env := ⟨Try.prog, tcons 23 (f23_sig k) (tnil), tcons 8 (l22_8_sig k) (tcons 11 (l22_11_sig k) (tnil)), k⟩
theorem l22_8_ok (k : Nat) : LoopOK (E22 k) Try.f22.ntmps (nthC 0 (loopsIn (Try.f22.body.getD .skip))) :=
  loop_ok (ls := l22_8_sig k) (by kernel_rfl) (fun _ => by kernel_rfl) (fun j x => by kernel_rfl)
theorem l22_11_ok (k : Nat) : LoopOK (E22 k) Try.f22.ntmps (nthC 1 (loopsIn (Try.f22.body.getD .skip))) :=
  loop_ok (ls := l22_11_sig k) (by kernel_rfl) (fun _ => by kernel_rfl) (fun j x => by kernel_rfl)
theorem f22_run (k : Nat) (x : (tupT (f22_sig k).pt).den) : runF (E22 k) Try.f22 (f22_sig k).pt (f22_sig k).rt (f22_sig k).own x = (f22_sig k).f x := by kernel_rfl
theorem f22_ok (k : Nat) : FnOK Try.prog 22 (f22_sig k) :=
  fn_ok2 (E := E22 k) (env_cons (f23_ok k) (env_nil)) mixed Try.func22 Try.call22 (by kernel_rfl) (by kernel_rfl) (by kernel_rfl) (m := 2) (by kernel_rfl) ⟨⟨trivial, l22_8_ok k⟩, l22_11_ok k⟩ (f22_run k)

/-! ### gamehall/gamehallkeep3.RobinFair: function 6 -/
def l6_8 (k : Nat) : Nat → Int → Bool → (List Int) → Int → Unit → Int → Int → Option ((Int × (List Int) × Int × Unit) ⊕ (Bool × Unit))
  | 0, _, _, _, _, _, _, _ => none
  | j + 1, s0, s1, s7, s8, s30, s31, s32 =>
    bif decide (s32 < s31) then
      bif decide (0 ≤ s32) && decide (s32 < (s7.length : Int)) then
        bif s1 then
          bif (rd 0 s7 s32) != 0 then
            some (.inr (false, ()))
          else
          bif decide ((rd 0 s7 s32) < (-1)) then
            some (.inr (false, ()))
          else
          bif decide ((rd 0 s7 s32) > 1) then
            some (.inr (false, ()))
          else
          bif (s0.tmod 2) == 1 then
            bif (rd 0 s7 s32) != 0 then
              some (.inr (false, ()))
            else
              l6_8 k j s0 s1 s7 s8 () s31 (w64 (s32 + 1))
          else
            l6_8 k j s0 s1 s7 s8 () s31 (w64 (s32 + 1))
        else
        bif decide ((rd 0 s7 s32) < (-1)) then
          some (.inr (false, ()))
        else
        bif decide ((rd 0 s7 s32) > 1) then
          some (.inr (false, ()))
        else
        bif (s0.tmod 2) == 1 then
          bif (rd 0 s7 s32) != 0 then
            some (.inr (false, ()))
          else
            l6_8 k j s0 s1 s7 s8 () s31 (w64 (s32 + 1))
        else
          l6_8 k j s0 s1 s7 s8 () s31 (w64 (s32 + 1))
      else
        none
    else
      some (.inl (s0, s7, s8, ()))
noncomputable def l6_8_sig (k : Nat) : LoopSig := ⟨[(0, .val (.int .i64)), (1, .val (.bool)), (7, .row (.int .i64)), (8, .val (.int .i64)), (30, .same 7), (31, .val (.int .i64)), (32, .val (.int .i64))], [(.exit 0, [(0, .val (.int .i64)), (7, .row (.int .i64)), (8, .val (.int .i64))]), (.ret, [(4, .val (.bool))])], fun j x => l6_8 k j x.1 x.2.1 x.2.2.1 x.2.2.2.1 x.2.2.2.2.1 x.2.2.2.2.2.1 x.2.2.2.2.2.2.1⟩
def f6 (k : Nat) (x0 : Int) (x1 : Bool) : Option (Bool × Unit) :=
  (f15 k).bind fun r1 =>
  bif !r1.1 then
    some (false, ())
  else
    (f21 k x0 x1).bind fun r2 =>
    bif r2.2.1 != 0 then
      some (r2.2.1 == 4, ())
    else
      (f22 k x0 x1 r2.1).bind fun r3 =>
      (l6_8 k k x0 x1 r3.1 r3.2.1 () (r3.1.length : Int) 0).bind fun w1 =>
      Sum.elim
        (fun y5 =>
          bif y5.2.2.1 == 0 then
            some ((y5.2.1.length : Int) == y5.1, ())
          else
            some (false, ()))
        (fun y6 =>
          some y6)
        w1
def f6_sig (k : Nat) : Sig := ⟨[.int .i64, .bool], [.bool], true, fun x => f6 k x.1 x.2.1⟩
noncomputable def E6 (k : Nat) : Env := ⟨Try.prog, tcons 22 (f22_sig k) (tcons 21 (f21_sig k) (tcons 15 (f15_sig k) (tnil))), tcons 8 (l6_8_sig k) (tnil), k⟩
theorem l6_8_ok (k : Nat) : LoopOK (E6 k) Try.f6.ntmps (nthC 0 (loopsIn (Try.f6.body.getD .skip))) :=
  loop_ok (ls := l6_8_sig k) (by kernel_rfl) (fun _ => by kernel_rfl) (fun j x => by kernel_rfl)
theorem f6_run (k : Nat) (x : (tupT (f6_sig k).pt).den) : runF (E6 k) Try.f6 (f6_sig k).pt (f6_sig k).rt (f6_sig k).own x = (f6_sig k).f x := by kernel_rfl
theorem f6_ok (k : Nat) : FnOK Try.prog 6 (f6_sig k) :=
  fn_ok2 (E := E6 k) (env_cons (f22_ok k) (env_cons (f21_ok k) (env_cons (f15_ok k) (env_nil)))) mixed Try.func6 Try.call6 (by kernel_rfl) (by kernel_rfl) (by kernel_rfl) (m := 1) (by kernel_rfl) ⟨trivial, l6_8_ok k⟩ (f6_run k)
end Go.Proofs.Ytpighccmakogpaa.G
