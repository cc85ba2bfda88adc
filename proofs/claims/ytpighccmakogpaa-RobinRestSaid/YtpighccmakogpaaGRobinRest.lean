import Derived.Test.YtpighccmakogpaaVM21
import Derived.Test.YtpighccmakogpaaChecked
namespace Go.Proofs.Ytpighccmakogpaa.G
open Go.VM Go.Proofs

abbrev w64 (n : Int) : Int := IntKind.i64.wrap n
theorem mixed : Try.prog.follows .mixedOrders = true := by kernel_rfl

/-! ### gamehall/robin.Rounds: function 21 -/
def f21 (k : Nat) (x0 : Int) (x1 : Bool) : Option (Int × Int × Unit) :=
  bif decide (x0 < 2) then
    some (0, 4, ())
  else
  bif decide (x0 > 32) then
    some (0, 4, ())
  else
  bif x1 then
    some (w64 ((w64 ((w64 (x0 - 1)) + (x0.tmod 2))) * 2), 0, ())
  else
    some (w64 ((w64 (x0 - 1)) + (x0.tmod 2)), 0, ())
def f21_sig (k : Nat) : Sig := ⟨[.int .i64, .bool], [.int .i64, .int .i64], true, fun x => f21 k x.1 x.2.1⟩
noncomputable def E21 (k : Nat) : Env := ⟨Try.prog, tnil, tnil, k⟩
theorem f21_run (k : Nat) (x : (tupT (f21_sig k).pt).den) : runF (E21 k) Try.f21 (f21_sig k).pt (f21_sig k).rt (f21_sig k).own x = (f21_sig k).f x := by kernel_rfl
theorem f21_ok (k : Nat) : FnOK Try.prog 21 (f21_sig k) :=
  fn_ok2 (E := E21 k) (env_nil) mixed Try.func21 Try.call21 (by kernel_rfl) (by kernel_rfl) (by kernel_rfl) (m := 0) (by kernel_rfl) trivial (f21_run k)

/-! ### gamehall/gamehallkeep3.rounds: function 15 -/
def f15 (k : Nat) : Option (Bool × Unit) :=
  (f21 k 2 false).bind fun r1 =>
  bif r1.2.1 == 0 then
    some (r1.1 == 1, ())
  else
    some (false, ())
def f15_sig (k : Nat) : Sig := ⟨[], [.bool], true, fun x => f15 k⟩
noncomputable def E15 (k : Nat) : Env := ⟨Try.prog, tcons 21 (f21_sig k) (tnil), tnil, k⟩
theorem f15_run (k : Nat) (x : (tupT (f15_sig k).pt).den) : runF (E15 k) Try.f15 (f15_sig k).pt (f15_sig k).rt (f15_sig k).own x = (f15_sig k).f x := by kernel_rfl
theorem f15_ok (k : Nat) : FnOK Try.prog 15 (f15_sig k) :=
  fn_ok2 (E := E15 k) (env_cons (f21_ok k) (env_nil)) mixed Try.func15 Try.call15 (by kernel_rfl) (by kernel_rfl) (by kernel_rfl) (m := 0) (by kernel_rfl) trivial (f15_run k)

/-! ### gamehall/robin.seat: function 32 -/
def f32 (k : Nat) (x0 : Int) (x1 : Int) (x2 : Int) : Option (Int × Unit) :=
  bif decide (w64 (x0 - 1) = 0) then
    none
  else
    some ((w64 (x1 + x2)).tmod (w64 (x0 - 1)), ())
def f32_sig (k : Nat) : Sig := ⟨[.int .i64, .int .i64, .int .i64], [.int .i64], true, fun x => f32 k x.1 x.2.1 x.2.2.1⟩
noncomputable def E32 (k : Nat) : Env := ⟨Try.prog, tnil, tnil, k⟩
theorem f32_run (k : Nat) (x : (tupT (f32_sig k).pt).den) : runF (E32 k) Try.f32 (f32_sig k).pt (f32_sig k).rt (f32_sig k).own x = (f32_sig k).f x := by kernel_rfl
theorem f32_ok (k : Nat) : FnOK Try.prog 32 (f32_sig k) :=
  fn_ok2 (E := E32 k) (env_nil) mixed Try.func32 Try.call32 (by kernel_rfl) (by kernel_rfl) (by kernel_rfl) (m := 0) (by kernel_rfl) trivial (f32_run k)

/-! ### gamehall/robin.Round: function 16 -/
def l16_16 (k : Nat) : Nat → Int → Bool → Int → (List (Int × Int × Unit)) → Int → Option ((Bool × (List (Int × Int × Unit)) × Unit))
  | 0, _, _, _, _, _ => none
  | j + 1, s10, s11, s12, s13, s15 =>
    bif decide (s15 < (w64 (s10.tdiv 2))) then
      (f32 k s10 s12 s15).bind fun r1 =>
      (f32 k s10 s12 (w64 ((w64 (s10 - 1)) - s15))).bind fun r2 =>
      bif (s15.tmod 2) == 1 then
        bif decide ((s13.length + [(r2.1, r1)].length) * 16 ≤ roomN) then
          l16_16 k j s10 s11 s12 (s13 ++ [(r2.1, r1)]) (w64 (s15 + 1))
        else
          none
      else
      bif decide ((s13.length + [(r1.1, r2)].length) * 16 ≤ roomN) then
        l16_16 k j s10 s11 s12 (s13 ++ [(r1.1, r2)]) (w64 (s15 + 1))
      else
        none
    else
      some (s11, s13, ())
noncomputable def l16_16_sig (k : Nat) : LoopSig := ⟨[(10, .val (.int .i64)), (11, .val (.bool)), (12, .val (.int .i64)), (13, .row (.pair (.int .i64) (.pair (.int .i64) (.unit)))), (15, .val (.int .i64))], [(.exit 0, [(11, .val (.bool)), (13, .row (.pair (.int .i64) (.pair (.int .i64) (.unit))))])], fun j x => l16_16 k j x.1 x.2.1 x.2.2.1 x.2.2.2.1 x.2.2.2.2.1⟩
def l16_24 (k : Nat) : Nat → (List (Int × Int × Unit)) → Unit → Int → Int → Option (((List (Int × Int × Unit)) × Unit))
  | 0, _, _, _, _ => none
  | j + 1, s13, s99, s100, s101 =>
    bif decide (s101 < s100) then
      bif decide (0 ≤ s101) && decide (s101 < (s13.length : Int)) then
        bif decide (0 ≤ s101) && decide (s101 < (s13.length : Int)) then
          l16_24 k j (s13.set s101.toNat ((rd ((0, 0, ()) : Int × Int × Unit) s13 s101).2.1, (rd ((0, 0, ()) : Int × Int × Unit) s13 s101).1, ())) () s100 (w64 (s101 + 1))
        else
          none
      else
        none
    else
      some (s13, ())
noncomputable def l16_24_sig (k : Nat) : LoopSig := ⟨[(13, .row (.pair (.int .i64) (.pair (.int .i64) (.unit)))), (99, .same 13), (100, .val (.int .i64)), (101, .val (.int .i64))], [(.exit 2, [(13, .row (.pair (.int .i64) (.pair (.int .i64) (.unit))))])], fun j x => l16_24 k j x.1 x.2.1 x.2.2.1 x.2.2.2.1⟩
def f16 (k : Nat) (x0 : Int) (x1 : Bool) (x2 : Int) : Option ((List (Int × Int × Unit)) × Int × Unit) :=
  (f21 k x0 x1).bind fun r1 =>
  bif r1.2.1 != 0 then
    some ([], r1.2)
  else
  bif decide (x2 < 0) then
    some ([], 1, ())
  else
  bif decide (x2 ≥ r1.1) then
    some ([], 1, ())
  else
  bif decide (w64 ((w64 (x0 + (x0.tmod 2))) - 1) = 0) then
    none
  else
  bif x0 == (w64 (x0 + (x0.tmod 2))) then
    (f32 k (w64 (x0 + (x0.tmod 2))) (x2.tmod (w64 ((w64 (x0 + (x0.tmod 2))) - 1))) 0).bind fun r2 =>
    bif ((x2.tmod (w64 ((w64 (x0 + (x0.tmod 2))) - 1))).tmod 2) == 1 then
      (l16_16 k k (w64 (x0 + (x0.tmod 2))) (decide (x2 ≥ (w64 ((w64 (x0 + (x0.tmod 2))) - 1)))) (x2.tmod (w64 ((w64 (x0 + (x0.tmod 2))) - 1))) [(w64 ((w64 (x0 + (x0.tmod 2))) - 1), r2)] 1).bind fun o3 =>
      bif o3.1 then
        (l16_24 k k o3.2.1 () (o3.2.1.length : Int) 0).bind fun o4 =>
        some (o4.1, 0, ())
      else
        some (o3.2.1, 0, ())
    else
      (l16_16 k k (w64 (x0 + (x0.tmod 2))) (decide (x2 ≥ (w64 ((w64 (x0 + (x0.tmod 2))) - 1)))) (x2.tmod (w64 ((w64 (x0 + (x0.tmod 2))) - 1))) [(r2.1, w64 ((w64 (x0 + (x0.tmod 2))) - 1), ())] 1).bind fun o5 =>
      bif o5.1 then
        (l16_24 k k o5.2.1 () (o5.2.1.length : Int) 0).bind fun o6 =>
        some (o6.1, 0, ())
      else
        some (o5.2.1, 0, ())
  else
    (l16_16 k k (w64 (x0 + (x0.tmod 2))) (decide (x2 ≥ (w64 ((w64 (x0 + (x0.tmod 2))) - 1)))) (x2.tmod (w64 ((w64 (x0 + (x0.tmod 2))) - 1))) [] 1).bind fun o7 =>
    bif o7.1 then
      (l16_24 k k o7.2.1 () (o7.2.1.length : Int) 0).bind fun o8 =>
      some (o8.1, 0, ())
    else
      some (o7.2.1, 0, ())
def f16_sig (k : Nat) : Sig := ⟨[.int .i64, .bool, .int .i64], [.sl (.pair (.int .i64) (.pair (.int .i64) (.unit))), .int .i64], true, fun x => f16 k x.1 x.2.1 x.2.2.1⟩
noncomputable def E16 (k : Nat) : Env := ⟨Try.prog, tcons 32 (f32_sig k) (tcons 21 (f21_sig k) (tnil)), tcons 24 (l16_24_sig k) (tcons 16 (l16_16_sig k) (tnil)), k⟩
theorem l16_16_ok (k : Nat) : LoopOK (E16 k) Try.f16.ntmps (nthC 0 (loopsIn (Try.f16.body.getD .skip))) :=
  loop_ok (ls := l16_16_sig k) (by kernel_rfl) (fun _ => by kernel_rfl) (fun j x => by kernel_rfl)
theorem l16_24_ok (k : Nat) : LoopOK (E16 k) Try.f16.ntmps (nthC 1 (loopsIn (Try.f16.body.getD .skip))) :=
  loop_ok (ls := l16_24_sig k) (by kernel_rfl) (fun _ => by kernel_rfl) (fun j x => by kernel_rfl)
theorem f16_run (k : Nat) (x : (tupT (f16_sig k).pt).den) : runF (E16 k) Try.f16 (f16_sig k).pt (f16_sig k).rt (f16_sig k).own x = (f16_sig k).f x := by kernel_rfl
theorem f16_ok (k : Nat) : FnOK Try.prog 16 (f16_sig k) :=
  fn_ok2 (E := E16 k) (env_cons (f32_ok k) (env_cons (f21_ok k) (env_nil))) mixed Try.func16 Try.call16 (by kernel_rfl) (by kernel_rfl) (by kernel_rfl) (m := 2) (by kernel_rfl) ⟨⟨trivial, l16_16_ok k⟩, l16_24_ok k⟩ (f16_run k)

/-! ### gamehall/robin.Bye: function 17 -/
def f17 (k : Nat) (x0 : Int) (x1 : Bool) (x2 : Int) : Option (Int × Int × Unit) :=
  (f21 k x0 x1).bind fun r1 =>
  bif r1.2.1 != 0 then
    some (0, r1.2)
  else
  bif decide (x2 < 0) then
    some (0, 1, ())
  else
  bif decide (x2 ≥ r1.1) then
    some (0, 1, ())
  else
  bif (x0.tmod 2) == 0 then
    some ((-1), 0, ())
  else
  bif decide (x0 = 0) then
    none
  else
    (f32 k (w64 (x0 + 1)) (x2.tmod x0) 0).bind fun r2 =>
    some (r2.1, 0, ())
def f17_sig (k : Nat) : Sig := ⟨[.int .i64, .bool, .int .i64], [.int .i64, .int .i64], true, fun x => f17 k x.1 x.2.1 x.2.2.1⟩
noncomputable def E17 (k : Nat) : Env := ⟨Try.prog, tcons 32 (f32_sig k) (tcons 21 (f21_sig k) (tnil)), tnil, k⟩
theorem f17_run (k : Nat) (x : (tupT (f17_sig k).pt).den) : runF (E17 k) Try.f17 (f17_sig k).pt (f17_sig k).rt (f17_sig k).own x = (f17_sig k).f x := by kernel_rfl
theorem f17_ok (k : Nat) : FnOK Try.prog 17 (f17_sig k) :=
  fn_ok2 (E := E17 k) (env_cons (f32_ok k) (env_cons (f21_ok k) (env_nil))) mixed Try.func17 Try.call17 (by kernel_rfl) (by kernel_rfl) (by kernel_rfl) (m := 0) (by kernel_rfl) trivial (f17_run k)

/-! ### gamehall/gamehallkeep3.RobinRest: function 4 -/
def l4_9 (k : Nat) : Nat → Int → Int → (List Int) → (List (Int × Int × Unit)) → Int → Int → Option ((Int × Int × (List Int) × Unit))
  | 0, _, _, _, _, _, _ => none
  | j + 1, s9, s10, s11, s46, s47, s48 =>
    bif decide (s48 < s47) then
      bif decide (0 ≤ s48) && decide (s48 < (s46.length : Int)) then
        bif decide (0 ≤ (rd ((0, 0, ()) : Int × Int × Unit) s46 s48).1) && decide ((rd ((0, 0, ()) : Int × Int × Unit) s46 s48).1 < (s11.length : Int)) then
          bif decide (0 ≤ (rd ((0, 0, ()) : Int × Int × Unit) s46 s48).1) && decide ((rd ((0, 0, ()) : Int × Int × Unit) s46 s48).1 < (s11.length : Int)) then
            bif decide (0 ≤ (rd ((0, 0, ()) : Int × Int × Unit) s46 s48).2.1) && decide ((rd ((0, 0, ()) : Int × Int × Unit) s46 s48).2.1 < ((s11.set (rd ((0, 0, ()) : Int × Int × Unit) s46 s48).1.toNat (w64 ((rd 0 s11 (rd ((0, 0, ()) : Int × Int × Unit) s46 s48).1) + 1))).length : Int)) then
              bif decide (0 ≤ (rd ((0, 0, ()) : Int × Int × Unit) s46 s48).2.1) && decide ((rd ((0, 0, ()) : Int × Int × Unit) s46 s48).2.1 < ((s11.set (rd ((0, 0, ()) : Int × Int × Unit) s46 s48).1.toNat (w64 ((rd 0 s11 (rd ((0, 0, ()) : Int × Int × Unit) s46 s48).1) + 1))).length : Int)) then
                l4_9 k j s9 s10 ((s11.set (rd ((0, 0, ()) : Int × Int × Unit) s46 s48).1.toNat (w64 ((rd 0 s11 (rd ((0, 0, ()) : Int × Int × Unit) s46 s48).1) + 1))).set (rd ((0, 0, ()) : Int × Int × Unit) s46 s48).2.1.toNat (w64 ((rd 0 (s11.set (rd ((0, 0, ()) : Int × Int × Unit) s46 s48).1.toNat (w64 ((rd 0 s11 (rd ((0, 0, ()) : Int × Int × Unit) s46 s48).1) + 1))) (rd ((0, 0, ()) : Int × Int × Unit) s46 s48).2.1) + 1))) s46 s47 (w64 (s48 + 1))
              else
                none
            else
              none
          else
            none
        else
          none
      else
        none
    else
      some (s9, s10, s11, ())
noncomputable def l4_9_sig (k : Nat) : LoopSig := ⟨[(9, .val (.int .i64)), (10, .val (.int .i64)), (11, .row (.int .i64)), (46, .row (.pair (.int .i64) (.pair (.int .i64) (.unit)))), (47, .val (.int .i64)), (48, .val (.int .i64))], [(.exit 0, [(9, .val (.int .i64)), (10, .val (.int .i64)), (11, .row (.int .i64))])], fun j x => l4_9 k j x.1 x.2.1 x.2.2.1 x.2.2.2.1 x.2.2.2.2.1 x.2.2.2.2.2.1⟩
def l4_15 (k : Nat) : Nat → Int → Int → (List Int) → Int → Int → Option ((Int × Unit) ⊕ (Bool × Unit))
  | 0, _, _, _, _, _ => none
  | j + 1, s9, s10, s67, s68, s69 =>
    bif decide (s69 < s68) then
      bif decide (0 ≤ s69) && decide (s69 < (s67.length : Int)) then
        bif !(((rd 0 s67 s69) == 0) == (s69 == s9)) then
          some (.inr (false, ()))
        else
        bif decide ((rd 0 s67 s69) > 1) then
          some (.inr (false, ()))
        else
          l4_15 k j s9 s10 s67 s68 (w64 (s69 + 1))
      else
        none
    else
      some (.inl (s10, ()))
noncomputable def l4_15_sig (k : Nat) : LoopSig := ⟨[(9, .val (.int .i64)), (10, .val (.int .i64)), (67, .row (.int .i64)), (68, .val (.int .i64)), (69, .val (.int .i64))], [(.exit 2, [(10, .val (.int .i64))]), (.ret, [(6, .val (.bool))])], fun j x => l4_15 k j x.1 x.2.1 x.2.2.1 x.2.2.2.1 x.2.2.2.2.1⟩
def f4 (k : Nat) (x0 : Int) (x1 : Bool) (x2 : Int) : Option (Bool × Unit) :=
  (f15 k).bind fun r1 =>
  bif !r1.1 then
    some (false, ())
  else
    (f16 k x0 x1 x2).bind fun r2 =>
    (f17 k x0 x1 x2).bind fun r3 =>
    bif r2.2.1 != 0 then
      bif r3.2.1 == r2.2.1 then
        some ((w64 ((r2.1.length : Int) + r3.1)) == 0, ())
      else
        some (false, ())
    else
    bif decide (0 ≤ x0) && (decide (x0 ≤ x0) && decide (((8 : Nat) : Int) * x0 ≤ 281474976710656)) && decide (x0 ≤ 9223372036854775807) then
      (l4_9 k k r3.1 r3.2.1 (List.replicate x0.toNat 0) r2.1 (r2.1.length : Int) 0).bind fun o4 =>
      (l4_15 k k o4.1 o4.2.1 o4.2.2.1 (o4.2.2.1.length : Int) 0).bind fun w1 =>
      Sum.elim
        (fun y6 =>
          some (y6.1 == 0, ()))
        (fun y7 =>
          some y7)
        w1
    else
      none
def f4_sig (k : Nat) : Sig := ⟨[.int .i64, .bool, .int .i64], [.bool], true, fun x => f4 k x.1 x.2.1 x.2.2.1⟩
noncomputable def E4 (k : Nat) : Env := ⟨Try.prog, tcons 17 (f17_sig k) (tcons 16 (f16_sig k) (tcons 15 (f15_sig k) (tnil))), tcons 15 (l4_15_sig k) (tcons 9 (l4_9_sig k) (tnil)), k⟩
theorem l4_9_ok (k : Nat) : LoopOK (E4 k) Try.f4.ntmps (nthC 0 (loopsIn (Try.f4.body.getD .skip))) :=
  loop_ok (ls := l4_9_sig k) (by kernel_rfl) (fun _ => by kernel_rfl) (fun j x => by kernel_rfl)
theorem l4_15_ok (k : Nat) : LoopOK (E4 k) Try.f4.ntmps (nthC 1 (loopsIn (Try.f4.body.getD .skip))) :=
  loop_ok (ls := l4_15_sig k) (by kernel_rfl) (fun _ => by kernel_rfl) (fun j x => by kernel_rfl)
theorem f4_run (k : Nat) (x : (tupT (f4_sig k).pt).den) : runF (E4 k) Try.f4 (f4_sig k).pt (f4_sig k).rt (f4_sig k).own x = (f4_sig k).f x := by kernel_rfl
theorem f4_ok (k : Nat) : FnOK Try.prog 4 (f4_sig k) :=
  fn_ok2 (E := E4 k) (env_cons (f17_ok k) (env_cons (f16_ok k) (env_cons (f15_ok k) (env_nil)))) mixed Try.func4 Try.call4 (by kernel_rfl) (by kernel_rfl) (by kernel_rfl) (m := 2) (by kernel_rfl) ⟨⟨trivial, l4_9_ok k⟩, l4_15_ok k⟩ (f4_run k)
end Go.Proofs.Ytpighccmakogpaa.G
