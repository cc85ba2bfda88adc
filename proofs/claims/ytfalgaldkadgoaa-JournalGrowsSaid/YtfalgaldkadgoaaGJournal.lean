import Derived.Test.YtfalgaldkadgoaaVM21
import Derived.Test.YtfalgaldkadgoaaChecked
namespace Go.Proofs.Ytfalgaldkadgoaa.G
open Go.VM Go.Proofs

abbrev w64 (n : Int) : Int := IntKind.i64.wrap n
theorem mixed : Try.prog.follows .mixedOrders = true := by kernel_rfl

/-! ### gamehall/journal.Sum: function 42 -/
noncomputable def l42_3 (k : Nat) : Nat → ByteArray → Int → Int → Int → Option ((ByteArray × Int × Unit))
  | 0, _, _, _, _ => none
  | j + 1, s1, s5, s10, s11 =>
    bif decide (s11 < s10) then
      bif decide (0 ≤ s11) && decide (s11 < (s1.size : Int)) then
        l42_3 k j s1 (IntKind.u64.wrap ((bitsOp .xor .u64 s5 (IntKind.u64.wrap (bt s1 s11))) * 1099511628211)) s10 (w64 (s11 + 1))
      else
        none
    else
      some (s1, s5, ())
noncomputable def l42_3_sig (k : Nat) : LoopSig := ⟨[(1, .obj (.val (.str))), (5, .obj (.val (.int .u64))), (10, .obj (.val (.int .i64))), (11, .obj (.val (.int .i64)))], [(.exit 0, [(1, .obj (.val (.str))), (5, .obj (.val (.int .u64)))])], fun j x => l42_3 k j x.1 x.2.1 x.2.2.1 x.2.2.2.1⟩
noncomputable def f42 (k : Nat) (x0 : Int) (x1 : ByteArray) : Option ((Int × Unit)) :=
  (l42_3 k k x1 (bitsOp .xor .u64 x0 14695981039346656037) (x1.size : Int) 0).bind fun o1 =>
  some (IntKind.u64.wrap ((bitsOp .xor .u64 o1.2.1 (IntKind.u64.wrap (o1.1.size : Int))) * 1099511628211), ())
noncomputable def f42_sig (k : Nat) : Sig := ⟨[.val (.int .u64), .val (.str)], [], [[.val (.int .u64)]], fun x => f42 k x.1 x.2.1⟩
noncomputable def E_f42 (k : Nat) : Env := ⟨Try.prog, snil, tcons 3 (l42_3_sig k) (tnil), tnil, unil, k⟩
theorem l42_3_ok (k : Nat) : LoopOK (E_f42 k) ⟨Try.f42.ntmps, []⟩ (nthC 0 (loopsIn (Try.f42.body.getD .skip))) :=
  loop_ok (ls := l42_3_sig k) (by kernel_rfl) (fun _ => by kernel_rfl) (fun j x => by kernel_rfl)
theorem f42_run (k : Nat) (x : (lTy (lay 0 (f42_sig k).ins)).den) : runF (E_f42 k) Try.f42 (f42_sig k) x = (f42_sig k).F x := by kernel_rfl
theorem f42_ok (k : Nat) : FnOK Try.prog 42 (f42_sig k) :=
  fn_ok2 (E := E_f42 k) (env_nil) mixed Try.func42 Try.call42 (by kernel_rfl) (by kernel_rfl) (m := 1) (by kernel_rfl) ⟨trivial, l42_3_ok k⟩ (sk := []) (by kernel_rfl) trivial (f42_run k)

/-! ### gamehall/journal.text: function 41 -/
noncomputable def l41_4 (k : Nat) : Nat → ByteArray → Int → Int → Option (Unit ⊕ (Int × Unit))
  | 0, _, _, _ => none
  | j + 1, s0, s8, s9 =>
    bif decide (s9 < s8) then
      bif decide (0 ≤ s9) && decide (s9 < (s0.size : Int)) then
        bif decide ((bt s0 s9) < 32) then
          some (.inr (3, ()))
        else
        bif decide (0 ≤ s9) && decide (s9 < (s0.size : Int)) then
          bif decide ((bt s0 s9) > 126) then
            some (.inr (3, ()))
          else
            l41_4 k j s0 s8 (w64 (s9 + 1))
        else
          none
      else
        none
    else
      some (.inl ())
noncomputable def l41_4_sig (k : Nat) : LoopSig := ⟨[(0, .obj (.val (.str))), (8, .obj (.val (.int .i64))), (9, .obj (.val (.int .i64)))], [(.exit 0, []), (.ret, [(2, .obj (.val (.int .i64)))])], fun j x => l41_4 k j x.1 x.2.1 x.2.2.1⟩
noncomputable def f41 (k : Nat) (x0 : ByteArray) : Option ((Int × Unit)) :=
  bif decide ((x0.size : Int) > 200) then
    some (2, ())
  else
    (l41_4 k k x0 (x0.size : Int) 0).bind fun w1 =>
    Sum.elim
      (fun y1 =>
        some (0, ()))
      (fun y2 =>
        some y2)
      w1
noncomputable def f41_sig (k : Nat) : Sig := ⟨[.val (.str)], [], [[.val (.int .i64)]], fun x => f41 k x.1⟩
noncomputable def E_f41 (k : Nat) : Env := ⟨Try.prog, snil, tcons 4 (l41_4_sig k) (tnil), tnil, unil, k⟩
theorem l41_4_ok (k : Nat) : LoopOK (E_f41 k) ⟨Try.f41.ntmps, []⟩ (nthC 0 (loopsIn (Try.f41.body.getD .skip))) :=
  loop_ok (ls := l41_4_sig k) (by kernel_rfl) (fun _ => by kernel_rfl) (fun j x => by kernel_rfl)
theorem f41_run (k : Nat) (x : (lTy (lay 0 (f41_sig k).ins)).den) : runF (E_f41 k) Try.f41 (f41_sig k) x = (f41_sig k).F x := by kernel_rfl
theorem f41_ok (k : Nat) : FnOK Try.prog 41 (f41_sig k) :=
  fn_ok2 (E := E_f41 k) (env_nil) mixed Try.func41 Try.call41 (by kernel_rfl) (by kernel_rfl) (m := 1) (by kernel_rfl) ⟨trivial, l41_4_ok k⟩ (sk := []) (by kernel_rfl) trivial (f41_run k)

/-! ### gamehall/journal.Good: function 19 -/
noncomputable def l19_3 (k : Nat) : Nat → (List (ByteArray × Int × Unit)) → Int → (List (ByteArray × Int × Unit)) → Int → Int → Option (((List (ByteArray × Int × Unit)) × Unit) ⊕ (Int × Unit))
  | 0, _, _, _, _, _ => none
  | j + 1, s0, s3, s6, s7, s8 =>
    bif decide (s8 < s7) then
      bif decide (0 ≤ s8) && decide (s8 < (s6.length : Int)) then
        (f42 k s3 (rd (((⟨#[]⟩ : ByteArray), 0, ()) : ByteArray × Int × Unit) s6 s8).1).bind fun r1 =>
        bif s8 == 1000 then
          some (.inr (s8, ()))
        else
          (f41 k (rd (((⟨#[]⟩ : ByteArray), 0, ()) : ByteArray × Int × Unit) s6 s8).1).bind fun r2 =>
          bif r2.1 != 0 then
            some (.inr (s8, ()))
          else
          bif (rd (((⟨#[]⟩ : ByteArray), 0, ()) : ByteArray × Int × Unit) s6 s8).2.1 != r1.1 then
            some (.inr (s8, ()))
          else
            l19_3 k j s0 r1.1 s6 s7 (w64 (s8 + 1))
      else
        none
    else
      some (.inl (s0, ()))
noncomputable def l19_3_sig (k : Nat) : LoopSig := ⟨[(0, .obj (.val (.sl (.pair (.str) (.pair (.int .u64) (.unit)))))), (3, .obj (.val (.int .u64))), (6, .obj (.val (.sl (.pair (.str) (.pair (.int .u64) (.unit)))))), (7, .obj (.val (.int .i64))), (8, .obj (.val (.int .i64)))], [(.exit 0, [(0, .obj (.val (.sl (.pair (.str) (.pair (.int .u64) (.unit))))))]), (.ret, [(2, .obj (.val (.int .i64)))])], fun j x => l19_3 k j x.1 x.2.1 x.2.2.1 x.2.2.2.1 x.2.2.2.2.1⟩
noncomputable def f19 (k : Nat) (x0 : List (ByteArray × Int × Unit)) : Option ((Int × Unit)) :=
  (l19_3 k k x0 0 x0 (x0.length : Int) 0).bind fun w2 =>
  Sum.elim
    (fun y1 =>
      some ((y1.1.length : Int), ()))
    (fun y2 =>
      some y2)
    w2
noncomputable def f19_sig (k : Nat) : Sig := ⟨[.val (.sl (.pair (.str) (.pair (.int .u64) (.unit))))], [], [[.val (.int .i64)]], fun x => f19 k x.1⟩
noncomputable def E_f19 (k : Nat) : Env := ⟨Try.prog, scons 42 [f42_sig k] (scons 41 [f41_sig k] (snil)), tcons 3 (l19_3_sig k) (tnil), tnil, unil, k⟩
theorem l19_3_ok (k : Nat) : LoopOK (E_f19 k) ⟨Try.f19.ntmps, []⟩ (nthC 0 (loopsIn (Try.f19.body.getD .skip))) :=
  loop_ok (ls := l19_3_sig k) (by kernel_rfl) (fun _ => by kernel_rfl) (fun j x => by kernel_rfl)
theorem f19_run (k : Nat) (x : (lTy (lay 0 (f19_sig k).ins)).den) : runF (E_f19 k) Try.f19 (f19_sig k) x = (f19_sig k).F x := by kernel_rfl
theorem f19_ok (k : Nat) : FnOK Try.prog 19 (f19_sig k) :=
  fn_ok2 (E := E_f19 k) (env_cons (one_sig (f42_ok k)) (env_cons (one_sig (f41_ok k)) (env_nil))) mixed Try.func19 Try.call19 (by kernel_rfl) (by kernel_rfl) (m := 1) (by kernel_rfl) ⟨trivial, l19_3_ok k⟩ (sk := []) (by kernel_rfl) trivial (f19_run k)

/-! ### gamehall/journal.Check: function 40 -/
noncomputable def f40 (k : Nat) (x0 : List (ByteArray × Int × Unit)) : Option ((Int × Unit)) :=
  bif decide ((x0.length : Int) > 1000) then
    some (2, ())
  else
    (f19 k x0).bind fun r1 =>
    bif r1.1 == (x0.length : Int) then
      some (0, ())
    else
    bif decide (0 ≤ r1.1) && decide (r1.1 < (x0.length : Int)) then
      (f41 k (rd (((⟨#[]⟩ : ByteArray), 0, ()) : ByteArray × Int × Unit) x0 r1.1).1).bind fun r2 =>
      bif r2.1 != 0 then
        some r2
      else
        some (15, ())
    else
      none
noncomputable def f40_sig (k : Nat) : Sig := ⟨[.val (.sl (.pair (.str) (.pair (.int .u64) (.unit))))], [], [[.val (.int .i64)]], fun x => f40 k x.1⟩
noncomputable def E_f40 (k : Nat) : Env := ⟨Try.prog, scons 41 [f41_sig k] (scons 19 [f19_sig k] (snil)), tnil, tnil, unil, k⟩
theorem f40_run (k : Nat) (x : (lTy (lay 0 (f40_sig k).ins)).den) : runF (E_f40 k) Try.f40 (f40_sig k) x = (f40_sig k).F x := by kernel_rfl
theorem f40_ok (k : Nat) : FnOK Try.prog 40 (f40_sig k) :=
  fn_ok2 (E := E_f40 k) (env_cons (one_sig (f41_ok k)) (env_cons (one_sig (f19_ok k)) (env_nil))) mixed Try.func40 Try.call40 (by kernel_rfl) (by kernel_rfl) (m := 0) (by kernel_rfl) trivial (sk := []) (by kernel_rfl) trivial (f40_run k)

/-! ### gamehall/journal.Append: function 17 -/
noncomputable def f17 (k : Nat) (x0 : List (ByteArray × Int × Unit)) (x1 : ByteArray) : Option (((List (ByteArray × Int × Unit)) × Int × Unit)) :=
  (f40 k x0).bind fun r1 =>
  bif r1.1 != 0 then
    some ([], r1)
  else
    (f41 k x1).bind fun r2 =>
    bif r2.1 != 0 then
      some ([], r2)
    else
    bif (x0.length : Int) == 1000 then
      some ([], 9, ())
    else
    bif decide ((x0.length : Int) > 0) then
      bif decide (0 ≤ (w64 ((x0.length : Int) - 1))) && decide ((w64 ((x0.length : Int) - 1)) < (x0.length : Int)) then
        bif decide ((([] : List (ByteArray × Int × Unit)).length + x0.length) * 24 ≤ roomN) then
          (f42 k (rd (((⟨#[]⟩ : ByteArray), 0, ()) : ByteArray × Int × Unit) x0 (w64 ((x0.length : Int) - 1))).2.1 x1).bind fun r3 =>
          bif decide ((([] ++ x0).length + ([(x1, r3)] : List (ByteArray × Int × Unit)).length) * 24 ≤ roomN) then
            some (([] ++ x0) ++ [(x1, r3)], 0, ())
          else
            none
        else
          none
      else
        none
    else
    bif decide ((([] : List (ByteArray × Int × Unit)).length + x0.length) * 24 ≤ roomN) then
      (f42 k 0 x1).bind fun r4 =>
      bif decide ((([] ++ x0).length + ([(x1, r4)] : List (ByteArray × Int × Unit)).length) * 24 ≤ roomN) then
        some (([] ++ x0) ++ [(x1, r4)], 0, ())
      else
        none
    else
      none
noncomputable def f17_sig (k : Nat) : Sig := ⟨[.val (.sl (.pair (.str) (.pair (.int .u64) (.unit)))), .val (.str)], [], [[.row (.pair (.str) (.pair (.int .u64) (.unit))), .val (.int .i64)]], fun x => f17 k x.1 x.2.1⟩
noncomputable def E_f17 (k : Nat) : Env := ⟨Try.prog, scons 42 [f42_sig k] (scons 41 [f41_sig k] (scons 40 [f40_sig k] (snil))), tnil, tnil, unil, k⟩
theorem f17_run (k : Nat) (x : (lTy (lay 0 (f17_sig k).ins)).den) : runF (E_f17 k) Try.f17 (f17_sig k) x = (f17_sig k).F x := by kernel_rfl
theorem f17_ok (k : Nat) : FnOK Try.prog 17 (f17_sig k) :=
  fn_ok2 (E := E_f17 k) (env_cons (one_sig (f42_ok k)) (env_cons (one_sig (f41_ok k)) (env_cons (one_sig (f40_ok k)) (env_nil)))) mixed Try.func17 Try.call17 (by kernel_rfl) (by kernel_rfl) (m := 0) (by kernel_rfl) trivial (sk := []) (by kernel_rfl) trivial (f17_run k)

/-! ### gamehall/gamehallkeep3.journals: function 15 -/
noncomputable def f15 (k : Nat) : Option ((Bool × Unit)) :=
  (f17 k [] (⟨#[97]⟩ : ByteArray)).bind fun r1 =>
  bif r1.2.1 == 0 then
    bif (r1.1.length : Int) == 1 then
      bif decide (0 < (r1.1.length : Int)) then
        bif (rd (((⟨#[]⟩ : ByteArray), 0, ()) : ByteArray × Int × Unit) r1.1 0).1.toList == (⟨#[97]⟩ : ByteArray).toList then
          bif decide (0 < (r1.1.length : Int)) then
            some ((rd (((⟨#[]⟩ : ByteArray), 0, ()) : ByteArray × Int × Unit) r1.1 0).2.1 != 0, ())
          else
            none
        else
          some (false, ())
      else
        none
    else
      some (false, ())
  else
    some (false, ())
noncomputable def f15_sig (k : Nat) : Sig := ⟨[], [], [[.val (.bool)]], fun x => f15 k⟩
noncomputable def E_f15 (k : Nat) : Env := ⟨Try.prog, scons 17 [f17_sig k] (snil), tnil, tnil, unil, k⟩
theorem f15_run (k : Nat) (x : (lTy (lay 0 (f15_sig k).ins)).den) : runF (E_f15 k) Try.f15 (f15_sig k) x = (f15_sig k).F x := by kernel_rfl
theorem f15_ok (k : Nat) : FnOK Try.prog 15 (f15_sig k) :=
  fn_ok2 (E := E_f15 k) (env_cons (one_sig (f17_ok k)) (env_nil)) mixed Try.func15 Try.call15 (by kernel_rfl) (by kernel_rfl) (m := 0) (by kernel_rfl) trivial (sk := []) (by kernel_rfl) trivial (f15_run k)

/-! ### gamehall/gamehallkeep3.written: function 16 -/
noncomputable def l16_3 (k : Nat) : Nat → (List (ByteArray × Int × Unit)) → (List ByteArray) → Int → Int → Option (((List (ByteArray × Int × Unit)) × Unit))
  | 0, _, _, _, _ => none
  | j + 1, s3, s12, s13, s14 =>
    bif decide (s14 < s13) then
      bif decide (0 ≤ s14) && decide (s14 < (s12.length : Int)) then
        (f17 k s3 (rd (⟨#[]⟩ : ByteArray) s12 s14)).bind fun r1 =>
        bif r1.2.1 == 0 then
          l16_3 k j r1.1 s12 s13 (w64 (s14 + 1))
        else
          l16_3 k j s3 s12 s13 (w64 (s14 + 1))
      else
        none
    else
      some (s3, ())
noncomputable def l16_3_sig (k : Nat) : LoopSig := ⟨[(3, .obj (.row (.pair (.str) (.pair (.int .u64) (.unit))))), (12, .obj (.val (.sl (.str)))), (13, .obj (.val (.int .i64))), (14, .obj (.val (.int .i64)))], [(.exit 0, [(3, .obj (.row (.pair (.str) (.pair (.int .u64) (.unit)))))])], fun j x => l16_3 k j x.1 x.2.1 x.2.2.1 x.2.2.2.1⟩
noncomputable def f16 (k : Nat) (x0 : List ByteArray) : Option (((List (ByteArray × Int × Unit)) × Unit)) :=
  bif decide (0 ≤ (if 20 < (x0.length : Int) then 20 else (x0.length : Int))) && decide ((if 20 < (x0.length : Int) then 20 else (x0.length : Int)) ≤ (x0.length : Int)) then
    (l16_3 k k [] (sliceOf x0 0 (if 20 < (x0.length : Int) then 20 else (x0.length : Int))) ((sliceOf x0 0 (if 20 < (x0.length : Int) then 20 else (x0.length : Int))).length : Int) 0).bind fun o1 =>
    some o1
  else
    none
noncomputable def f16_sig (k : Nat) : Sig := ⟨[.val (.sl (.str))], [], [[.row (.pair (.str) (.pair (.int .u64) (.unit)))]], fun x => f16 k x.1⟩
noncomputable def E_f16 (k : Nat) : Env := ⟨Try.prog, scons 17 [f17_sig k] (snil), tcons 3 (l16_3_sig k) (tnil), tnil, unil, k⟩
theorem l16_3_ok (k : Nat) : LoopOK (E_f16 k) ⟨Try.f16.ntmps, []⟩ (nthC 0 (loopsIn (Try.f16.body.getD .skip))) :=
  loop_ok (ls := l16_3_sig k) (by kernel_rfl) (fun _ => by kernel_rfl) (fun j x => by kernel_rfl)
theorem f16_run (k : Nat) (x : (lTy (lay 0 (f16_sig k).ins)).den) : runF (E_f16 k) Try.f16 (f16_sig k) x = (f16_sig k).F x := by kernel_rfl
theorem f16_ok (k : Nat) : FnOK Try.prog 16 (f16_sig k) :=
  fn_ok2 (E := E_f16 k) (env_cons (one_sig (f17_ok k)) (env_nil)) mixed Try.func16 Try.call16 (by kernel_rfl) (by kernel_rfl) (m := 1) (by kernel_rfl) ⟨trivial, l16_3_ok k⟩ (sk := []) (by kernel_rfl) trivial (f16_run k)

/-! ### gamehall/journal.Extends: function 18 -/
noncomputable def l18_4 (k : Nat) : Nat → (List (ByteArray × Int × Unit)) → (List (ByteArray × Int × Unit)) → Int → Int → Option (Unit ⊕ (Bool × Unit))
  | 0, _, _, _, _ => none
  | j + 1, s0, s12, s13, s14 =>
    bif decide (s14 < s13) then
      bif decide (0 ≤ s14) && decide (s14 < (s12.length : Int)) then
        bif decide (0 ≤ s14) && decide (s14 < (s0.length : Int)) then
          bif !(((rd (((⟨#[]⟩ : ByteArray), 0, ()) : ByteArray × Int × Unit) s0 s14).1 == (rd (((⟨#[]⟩ : ByteArray), 0, ()) : ByteArray × Int × Unit) s12 s14).1) && (((rd (((⟨#[]⟩ : ByteArray), 0, ()) : ByteArray × Int × Unit) s0 s14).2.1 == (rd (((⟨#[]⟩ : ByteArray), 0, ()) : ByteArray × Int × Unit) s12 s14).2.1) && true)) then
            some (.inr (false, ()))
          else
            l18_4 k j s0 s12 s13 (w64 (s14 + 1))
        else
          none
      else
        none
    else
      some (.inl ())
noncomputable def l18_4_sig (k : Nat) : LoopSig := ⟨[(0, .obj (.val (.sl (.pair (.str) (.pair (.int .u64) (.unit)))))), (12, .obj (.val (.sl (.pair (.str) (.pair (.int .u64) (.unit)))))), (13, .obj (.val (.int .i64))), (14, .obj (.val (.int .i64)))], [(.exit 0, []), (.ret, [(4, .obj (.val (.bool)))])], fun j x => l18_4 k j x.1 x.2.1 x.2.2.1 x.2.2.2.1⟩
noncomputable def f18 (k : Nat) (x0 : List (ByteArray × Int × Unit)) (x1 : List (ByteArray × Int × Unit)) : Option ((Bool × Unit)) :=
  bif decide ((x1.length : Int) > (x0.length : Int)) then
    some (false, ())
  else
    (l18_4 k k x0 x1 (x1.length : Int) 0).bind fun w3 =>
    Sum.elim
      (fun y1 =>
        some (true, ()))
      (fun y2 =>
        some y2)
      w3
noncomputable def f18_sig (k : Nat) : Sig := ⟨[.val (.sl (.pair (.str) (.pair (.int .u64) (.unit)))), .val (.sl (.pair (.str) (.pair (.int .u64) (.unit))))], [], [[.val (.bool)]], fun x => f18 k x.1 x.2.1⟩
noncomputable def E_f18 (k : Nat) : Env := ⟨Try.prog, snil, tcons 4 (l18_4_sig k) (tnil), tnil, unil, k⟩
theorem l18_4_ok (k : Nat) : LoopOK (E_f18 k) ⟨Try.f18.ntmps, []⟩ (nthC 0 (loopsIn (Try.f18.body.getD .skip))) :=
  loop_ok (ls := l18_4_sig k) (by kernel_rfl) (fun _ => by kernel_rfl) (fun j x => by kernel_rfl)
theorem f18_run (k : Nat) (x : (lTy (lay 0 (f18_sig k).ins)).den) : runF (E_f18 k) Try.f18 (f18_sig k) x = (f18_sig k).F x := by kernel_rfl
theorem f18_ok (k : Nat) : FnOK Try.prog 18 (f18_sig k) :=
  fn_ok2 (E := E_f18 k) (env_nil) mixed Try.func18 Try.call18 (by kernel_rfl) (by kernel_rfl) (m := 1) (by kernel_rfl) ⟨trivial, l18_4_ok k⟩ (sk := []) (by kernel_rfl) trivial (f18_run k)

/-! ### gamehall/gamehallkeep3.JournalGrows: function 3 -/
noncomputable def f3 (k : Nat) (x0 : List ByteArray) (x1 : ByteArray) (x2 : ByteArray) : Option ((Bool × Unit)) :=
  (f15 k).bind fun r1 =>
  bif !r1.1 then
    some (false, ())
  else
    (f16 k x0).bind fun r2 =>
    (f17 k r2.1 x1).bind fun r3 =>
    (f17 k r2.1 x2).bind fun r4 =>
    bif r3.2.1 != 0 then
      bif r3.2.1 != 0 then
        bif (r3.1.length : Int) == 0 then
          some (true, ())
        else
        bif r4.2.1 != 0 then
          some ((r4.1.length : Int) == 0, ())
        else
          some (false, ())
      else
      bif r4.2.1 != 0 then
        some ((r4.1.length : Int) == 0, ())
      else
        some (false, ())
    else
    bif r4.2.1 != 0 then
      bif r3.2.1 != 0 then
        bif (r3.1.length : Int) == 0 then
          some (true, ())
        else
        bif r4.2.1 != 0 then
          some ((r4.1.length : Int) == 0, ())
        else
          some (false, ())
      else
      bif r4.2.1 != 0 then
        some ((r4.1.length : Int) == 0, ())
      else
        some (false, ())
    else
      (f18 k r3.1 r2.1).bind fun r5 =>
      bif r5.1 then
        (f18 k r4.1 r2.1).bind fun r6 =>
        bif r6.1 then
          (f18 k r3.1 r4.1).bind fun r7 =>
          bif r7.1 == (x1.toList == x2.toList) then
            (f19 k r3.1).bind fun r8 =>
            some (r8.1 == (r3.1.length : Int), ())
          else
            some (false, ())
        else
          some (false, ())
      else
        some (false, ())
noncomputable def f3_sig (k : Nat) : Sig := ⟨[.val (.sl (.str)), .val (.str), .val (.str)], [], [[.val (.bool)]], fun x => f3 k x.1 x.2.1 x.2.2.1⟩
noncomputable def E_f3 (k : Nat) : Env := ⟨Try.prog, scons 19 [f19_sig k] (scons 18 [f18_sig k] (scons 17 [f17_sig k] (scons 16 [f16_sig k] (scons 15 [f15_sig k] (snil))))), tnil, tnil, unil, k⟩
theorem f3_run (k : Nat) (x : (lTy (lay 0 (f3_sig k).ins)).den) : runF (E_f3 k) Try.f3 (f3_sig k) x = (f3_sig k).F x := by kernel_rfl
theorem f3_ok (k : Nat) : FnOK Try.prog 3 (f3_sig k) :=
  fn_ok2 (E := E_f3 k) (env_cons (one_sig (f19_ok k)) (env_cons (one_sig (f18_ok k)) (env_cons (one_sig (f17_ok k)) (env_cons (one_sig (f16_ok k)) (env_cons (one_sig (f15_ok k)) (env_nil)))))) mixed Try.func3 Try.call3 (by kernel_rfl) (by kernel_rfl) (m := 0) (by kernel_rfl) trivial (sk := []) (by kernel_rfl) trivial (f3_run k)
end Go.Proofs.Ytfalgaldkadgoaa.G
