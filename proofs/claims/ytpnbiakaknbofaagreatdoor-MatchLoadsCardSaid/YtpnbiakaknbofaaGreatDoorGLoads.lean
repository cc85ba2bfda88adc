import Derived.Test.YtpnbiakaknbofaaGreatDoorGLoadsa
namespace Go.Proofs.YtpnbiakaknbofaaGreatDoor.G
open Go.VM Go.Proofs
noncomputable def l184_2 (k : Nat) : Nat → Int → Int → (ByteArray × Int × Int × (List (Int × Int × Int × (List (Int × Int × Int × Int × Unit)) × Unit)) × (List Int) × Bool × Bool × (List (Int × Int × Int × Bool × Unit)) × Int × Int × Int × Unit) → Int → Option ((Int × Int × Unit) ⊕ (Bool × Unit))
 | 0, _, _, _, _ => none
 | j + 1, s1, s2, s3, s7 =>
  bif decide (s7 < 6) then
  bif s1 == s2 then
  some (.inr (true, ()))
  else
  bif decide (0 ≤ s1) && decide (s1 < (s3.2.2.2.1.length : Int)) then
  bif (rd ((0, 0, 0, [], ()) : Int × Int × Int × (List (Int × Int × Int × Int × Unit)) × Unit) s3.2.2.2.1 s1).2.2.1 == 0 then
  some (.inr (false, ()))
  else
  bif decide (0 ≤ s1) && decide (s1 < (s3.2.2.2.1.length : Int)) then
  l184_2 k j (w64 ((rd ((0, 0, 0, [], ()) : Int × Int × Int × (List (Int × Int × Int × Int × Unit)) × Unit) s3.2.2.2.1 s1).2.2.1 - 1)) s2 s3 (w64 (s7 + 1))
  else
  none
  else
  none
  else
  some (.inl (s1, s2, ()))
noncomputable def l184_2_sig (k : Nat) : LoopSig := ⟨[(1, .obj ck1), (2, .obj ck1), (3, .obj ck59), (7, .obj ck1)], [(.exit 0, [(1, .obj ck1), (2, .obj ck1)]), (.ret, [(6, .obj (.val (.bool)))])], fun j x => l184_2 k j x.1 x.2.1 x.2.2.1 x.2.2.2.1⟩
noncomputable def f184 (k : Nat) (x0 : ByteArray × Int × Int × (List (Int × Int × Int × (List (Int × Int × Int × Int × Unit)) × Unit)) × (List Int) × Bool × Bool × (List (Int × Int × Int × Bool × Unit)) × Int × Int × Int × Unit) (x1 : Int) (x2 : Int) : Option ((Bool × Unit)) :=
  (l184_2 k k x1 x2 x0 0).bind fun w30 =>
  Sum.elim
  (fun y1 =>
  some (y1.1 == y1.2.1, ()))
  (fun y2 =>
  some y2)
  w30
noncomputable def f184_sig (k : Nat) : Sig := ⟨[.val ty57, .val (.int .i64), .val (.int .i64)], [], [[.val (.bool)]], fun x => f184 k x.1 x.2.1 x.2.2.1⟩
noncomputable def E_f184 (k : Nat) : Env := ⟨Tryz.prog, G0, snil, tcons 2 (l184_2_sig k) (tnil), tnil, unil, k, qnil⟩
theorem l184_2_ok (k : Nat) : LoopOK (E_f184 k) ⟨Tryz.f184.ntmps, [], G0⟩ (nthC 0 (loopsIn (Tryz.f184.body.getD .skip))) :=
  loop_ok (ls := l184_2_sig k) (by kernel_rfl) (fun _ => by kernel_rfl) (fun j x => by kernel_rfl)
theorem f184_run (k : Nat) (x : (lTy (lay 0 (f184_sig k).ins)).den) : runF (E_f184 k) Tryz.f184 (f184_sig k) x = (f184_sig k).F x := by kernel_rfl
theorem f184_ok [Dr] (k : Nat) : FnOK Tryz.prog G0 184 (f184_sig k) :=
  fn_ok2 (E := E_f184 k) (env_nil) (qenv_nil) mixed Tryz.func184 Tryz.call184 (by kernel_rfl) (by kernel_rfl) (m := 1) (by kernel_rfl) ⟨trivial, l184_2_ok k⟩ (sk := []) (by kernel_rfl) trivial (f184_run k)

noncomputable def l183_4 (k : Nat) : Nat → Int → Int → (ByteArray × Int × Int × (List (Int × Int × Int × (List (Int × Int × Int × Int × Unit)) × Unit)) × (List Int) × Bool × Bool × (List (Int × Int × Int × Bool × Unit)) × Int × Int × Int × Unit) → Int → Int → Bool → (List (Int × Int × Int × Int × Unit)) → Int → Int → Option ((Int × (ByteArray × Int × Int × (List (Int × Int × Int × (List (Int × Int × Int × Int × Unit)) × Unit)) × (List Int) × Bool × Bool × (List (Int × Int × Int × Bool × Unit)) × Int × Int × Int × Unit) × Int × Int × Bool × Unit))
 | 0, _, _, _, _, _, _, _, _, _ => none
 | j + 1, s1, s2, s3, s4, s5, s6, s26, s27, s28 =>
  bif decide (s28 < s27) then
  bif decide (0 ≤ s28) && decide (s28 < (s26.length : Int)) then
  bif s6 then
  l183_4 k j s1 s2 s3 s4 s5 true s26 s27 (w64 (s28 + 1))
  else
  bif decide (s1 > 0) then
  l183_4 k j s1 s2 s3 s4 s5 ((rd ((0, 0, 0, 0, ()) : Int × Int × Int × Int × Unit) s26 s28).2.2.2.1 != 0) s26 s27 (w64 (s28 + 1))
  else
  l183_4 k j s1 s2 s3 s4 s5 false s26 s27 (w64 (s28 + 1))
  else
  none
  else
  some (s2, s3, s4, s5, s6, ())
noncomputable def l183_4_sig (k : Nat) : LoopSig := ⟨[(1, .obj ck1), (2, .obj ck6), (3, .obj ck59), (4, .obj ck6), (5, .obj ck6), (6, .obj ck4), (26, .obj (.val (.sl ty23))), (27, .obj ck1), (28, .obj ck1)], [(.exit 0, [(2, .obj ck6), (3, .obj ck59), (4, .obj ck6), (5, .obj ck6), (6, .obj ck4)])], fun j x => l183_4 k j x.1 x.2.1 x.2.2.1 x.2.2.2.1 x.2.2.2.2.1 x.2.2.2.2.2.1 x.2.2.2.2.2.2.1 x.2.2.2.2.2.2.2.1 x.2.2.2.2.2.2.2.2.1⟩
noncomputable def f183 (k : Nat) (x0 : Int) (x1 : Int) (x2 : Int) (x3 : ByteArray × Int × Int × (List (Int × Int × Int × (List (Int × Int × Int × Int × Unit)) × Unit)) × (List Int) × Bool × Bool × (List (Int × Int × Int × Bool × Unit)) × Int × Int × Int × Unit) (x4 : Int) (x5 : Int) (x6 : Bool) : Option ((Int × (ByteArray × Int × Int × (List (Int × Int × Int × (List (Int × Int × Int × Int × Unit)) × Unit)) × (List Int) × Bool × Bool × (List (Int × Int × Int × Bool × Unit)) × Int × Int × Int × Unit) × Int × Int × Bool × Unit)) :=
  (f184 k x3 x0 x4).bind fun r1 =>
  bif r1.1 then
  bif decide (0 ≤ x0) && decide (x0 < (x3.2.2.2.1.length : Int)) then
  (l183_4 k k x1 (w64 (x2 + x1)) x3 x4 (w64 (x5 + x1)) x6 (rd ((0, 0, 0, [], ()) : Int × Int × Int × (List (Int × Int × Int × Int × Unit)) × Unit) x3.2.2.2.1 x0).2.2.2.1 ((rd ((0, 0, 0, [], ()) : Int × Int × Int × (List (Int × Int × Int × Int × Unit)) × Unit) x3.2.2.2.1 x0).2.2.2.1.length : Int) 0).bind fun o2 =>
  some o2
  else
  none
  else
  bif decide (0 ≤ x0) && decide (x0 < (x3.2.2.2.1.length : Int)) then
  (l183_4 k k x1 (w64 (x2 + x1)) x3 x4 x5 x6 (rd ((0, 0, 0, [], ()) : Int × Int × Int × (List (Int × Int × Int × Int × Unit)) × Unit) x3.2.2.2.1 x0).2.2.2.1 ((rd ((0, 0, 0, [], ()) : Int × Int × Int × (List (Int × Int × Int × Int × Unit)) × Unit) x3.2.2.2.1 x0).2.2.2.1.length : Int) 0).bind fun o3 =>
  some o3
  else
  none
noncomputable def f183_sig (k : Nat) : Sig := ⟨[.val (.int .i64), .val (.int .i64), .box ck1, .box (.val ty57), .box ck1, .box ck1, .box (.val (.bool))], [2, 3, 4, 5, 6], [[.box ck1, .box (.val ty57), .box ck1, .box ck1, .box (.val (.bool))]], fun x => f183 k x.1 x.2.1 x.2.2.1 x.2.2.2.1 x.2.2.2.2.1 x.2.2.2.2.2.1 x.2.2.2.2.2.2.1⟩
noncomputable def E_f183 (k : Nat) : Env := ⟨Tryz.prog, G0, scons 184 [f184_sig k] (snil), tcons 4 (l183_4_sig k) (tnil), tnil, unil, k, qnil⟩
theorem l183_4_ok (k : Nat) : LoopOK (E_f183 k) ⟨Tryz.f183.ntmps, [2, 3, 4, 5, 6], G0⟩ (nthC 0 (loopsIn (Tryz.f183.body.getD .skip))) :=
  loop_ok (ls := l183_4_sig k) (by kernel_rfl) (fun _ => by kernel_rfl) (fun j x => by kernel_rfl)
theorem f183_run (k : Nat) (x : (lTy (lay 0 (f183_sig k).ins)).den) : runF (E_f183 k) Tryz.f183 (f183_sig k) x = (f183_sig k).F x := by kernel_rfl
theorem f183_ok [Dr] (k : Nat) : FnOK Tryz.prog G0 183 (f183_sig k) :=
  fn_ok2 (E := E_f183 k) (env_cons (one_sig (f184_ok k)) (env_nil)) (qenv_nil) mixed Tryz.func183 Tryz.call183 (by kernel_rfl) (by kernel_rfl) (m := 1) (by kernel_rfl) ⟨trivial, l183_4_ok k⟩ (sk := []) (by kernel_rfl) trivial (f183_run k)

noncomputable def l150_4 (k : Nat) : Nat → Int → (ByteArray × Int × Int × (List (Int × Int × Int × (List (Int × Int × Int × Int × Unit)) × Unit)) × (List Int) × Bool × Bool × (List (Int × Int × Int × Bool × Unit)) × Int × Int × Int × Unit) → ((List Int) × ((List Int) × (List Int) × Unit) × Int × Int × Unit) → Int → Int → Int → Bool → Unit → (List Int) → Int → Int → Option ((Int × (ByteArray × Int × Int × (List (Int × Int × Int × (List (Int × Int × Int × Int × Unit)) × Unit)) × (List Int) × Bool × Bool × (List (Int × Int × Int × Bool × Unit)) × Int × Int × Int × Unit) × ((List Int) × ((List Int) × (List Int) × Unit) × Int × Int × Unit) × Int × Int × Int × Bool × Unit × Unit))
 | 0, _, _, _, _, _, _, _, _, _, _, _ => none
 | j + 1, s2, s4, s5, s7, s11, s12, s13, s14, s21, s22, s23 =>
  bif decide (s23 < s22) then
  bif decide (0 ≤ s23) && decide (s23 < (s21.length : Int)) then
  (f109 k (rd (0 : Int) s21 s23)).bind fun r1 =>
  bif r1.1 == s2 then
  (f110 k (rd (0 : Int) s21 s23)).bind fun r2 =>
  (f183 k r2.1 1 s11 s4 s7 s12 s13).bind fun r3 =>
  l150_4 k j s2 r3.2.1 s5 r3.2.2.1 r3.1 r3.2.2.2.1 r3.2.2.2.2.1 () s21 s22 (w64 (s23 + 1))
  else
  l150_4 k j s2 s4 s5 s7 s11 s12 s13 () s21 s22 (w64 (s23 + 1))
  else
  none
  else
  some (s2, s4, s5, s7, s11, s12, s13, (), ())
noncomputable def l150_4_sig (k : Nat) : LoopSig := ⟨[(2, .obj ck1), (4, .obj ck59), (5, .obj ck42), (7, .obj ck6), (11, .obj ck6), (12, .obj ck6), (13, .obj ck4), (14, .cs 183 [11, 4, 7, 12, 13]), (21, .obj ck5), (22, .obj ck1), (23, .obj ck1)], [(.exit 0, [(2, .obj ck1), (4, .obj ck59), (5, .obj ck42), (7, .obj ck6), (11, .obj ck6), (12, .obj ck6), (13, .obj ck4), (14, .cs 183 [11, 4, 7, 12, 13])])], fun j x => l150_4 k j x.1 x.2.1 x.2.2.1 x.2.2.2.1 x.2.2.2.2.1 x.2.2.2.2.2.1 x.2.2.2.2.2.2.1 x.2.2.2.2.2.2.2.1 x.2.2.2.2.2.2.2.2.1 x.2.2.2.2.2.2.2.2.2.1 x.2.2.2.2.2.2.2.2.2.2.1⟩
noncomputable def l150_10 (k : Nat) : Nat → (ByteArray × Int × Int × (List (Int × Int × Int × (List (Int × Int × Int × Int × Unit)) × Unit)) × (List Int) × Bool × Bool × (List (Int × Int × Int × Bool × Unit)) × Int × Int × Int × Unit) → Int → Int → Int → Bool → Unit → (List Int) → Int → Int → Option ((Int × Int × Bool × Unit))
 | 0, _, _, _, _, _, _, _, _, _ => none
 | j + 1, s4, s7, s11, s12, s13, s14, s39, s40, s41 =>
  bif decide (s41 < s40) then
  bif decide (0 ≤ s41) && decide (s41 < (s39.length : Int)) then
  (f183 k s41 (rd (0 : Int) s39 s41) s11 s4 s7 s12 s13).bind fun r1 =>
  l150_10 k j r1.2.1 r1.2.2.1 r1.1 r1.2.2.2.1 r1.2.2.2.2.1 () s39 s40 (w64 (s41 + 1))
  else
  none
  else
  some (s11, s12, s13, ())
noncomputable def l150_10_sig (k : Nat) : LoopSig := ⟨[(4, .obj ck59), (7, .obj ck6), (11, .obj ck6), (12, .obj ck6), (13, .obj ck4), (14, .cs 183 [11, 4, 7, 12, 13]), (39, .obj ck5), (40, .obj ck1), (41, .obj ck1)], [(.exit 2, [(11, .obj ck6), (12, .obj ck6), (13, .obj ck4)])], fun j x => l150_10 k j x.1 x.2.1 x.2.2.1 x.2.2.2.1 x.2.2.2.2.1 x.2.2.2.2.2.1 x.2.2.2.2.2.2.1 x.2.2.2.2.2.2.2.1 x.2.2.2.2.2.2.2.2.1⟩
noncomputable def f150 (k : Nat) (x0 : ByteArray × Int × Int × (List (Int × Int × Int × (List (Int × Int × Int × Int × Unit)) × Unit)) × (List Int) × Bool × Bool × (List (Int × Int × Int × Bool × Unit)) × Int × Int × Int × Unit) (x1 : (List Int) × ((List Int) × (List Int) × Unit) × Int × Int × Unit) (x2 : Int) (x3 : Int) : Option ((Int × Int × Bool × Unit)) :=
  (l150_4 k k x2 x0 x1 x3 0 0 false () x1.1 (x1.1.length : Int) 0).bind fun o1 =>
  bif o1.1 == 0 then
  (l150_10 k k o1.2.1 o1.2.2.2.1 o1.2.2.2.2.1 o1.2.2.2.2.2.1 o1.2.2.2.2.2.2.1 () o1.2.2.1.2.1.1 (o1.2.2.1.2.1.1.length : Int) 0).bind fun o2 =>
  some o2
  else
  bif o1.1 == 1 then
  (l150_10 k k o1.2.1 o1.2.2.2.1 o1.2.2.2.2.1 o1.2.2.2.2.2.1 o1.2.2.2.2.2.2.1 () o1.2.2.1.2.1.2.1 (o1.2.2.1.2.1.2.1.length : Int) 0).bind fun o3 =>
  some o3
  else
  none
noncomputable def f150_sig (k : Nat) : Sig := ⟨[.val ty57, .val ty39, .val (.int .i64), .val (.int .i64)], [], [[.val (.int .i64), .val (.int .i64), .val (.bool)]], fun x => f150 k x.1 x.2.1 x.2.2.1 x.2.2.2.1⟩
noncomputable def E_f150 (k : Nat) : Env := ⟨Tryz.prog, G0, scons 183 [f183_sig k] (scons 110 [f110_sig k] (scons 109 [f109_sig k] (snil))), tcons 10 (l150_10_sig k) (tcons 4 (l150_4_sig k) (tnil)), tnil, unil, k, qnil⟩
theorem l150_4_ok (k : Nat) : LoopOK (E_f150 k) ⟨Tryz.f150.ntmps, [], G0⟩ (nthC 0 (loopsIn (Tryz.f150.body.getD .skip))) :=
  loop_ok (ls := l150_4_sig k) (by kernel_rfl) (fun _ => by kernel_rfl) (fun j x => by kernel_rfl)
theorem l150_10_ok (k : Nat) : LoopOK (E_f150 k) ⟨Tryz.f150.ntmps, [], G0⟩ (nthC 1 (loopsIn (Tryz.f150.body.getD .skip))) :=
  loop_ok (ls := l150_10_sig k) (by kernel_rfl) (fun _ => by kernel_rfl) (fun j x => by kernel_rfl)
theorem f150_run (k : Nat) (x : (lTy (lay 0 (f150_sig k).ins)).den) : runF (E_f150 k) Tryz.f150 (f150_sig k) x = (f150_sig k).F x := by kernel_rfl
theorem f150_ok [Dr] (k : Nat) : FnOK Tryz.prog G0 150 (f150_sig k) :=
  fn_ok2 (E := E_f150 k) (env_cons (one_sig (f183_ok k)) (env_cons (one_sig (f110_ok k)) (env_cons (one_sig (f109_ok k)) (env_nil)))) (qenv_nil) mixed Tryz.func150 Tryz.call150 (by kernel_rfl) (by kernel_rfl) (m := 2) (by kernel_rfl) ⟨⟨trivial, l150_4_ok k⟩, l150_10_ok k⟩ (sk := []) (by kernel_rfl) trivial (f150_run k)

noncomputable def l124_9 (k : Nat) : Nat → Int → (ByteArray × Int × Int × (List (Int × Int × Int × (List (Int × Int × Int × Int × Unit)) × Unit)) × (List Int) × Bool × Bool × (List (Int × Int × Int × Bool × Unit)) × Int × Int × Int × Unit) → ((List Int) × ((List Int) × (List Int) × Unit) × Int × Int × Unit) → (List (Int × Int × Int × Bool × Unit)) → Int → Int → Option (Unit ⊕ (Bool × Int × Unit))
 | 0, _, _, _, _, _, _ => none
 | j + 1, s2, s3, s4, s30, s31, s32 =>
  bif decide (s32 < s31) then
  bif decide (0 ≤ s32) && decide (s32 < (s30.length : Int)) then
  (f150 k s3 s4 s2 (rd ((0, 0, 0, false, ()) : Int × Int × Int × Bool × Unit) s30 s32).2.1).bind fun r1 =>
  bif (rd ((0, 0, 0, false, ()) : Int × Int × Int × Bool × Unit) s30 s32).2.2.2.1 then
  some (.inr (true, 0, ()))
  else
  bif (rd ((0, 0, 0, false, ()) : Int × Int × Int × Bool × Unit) s30 s32).1 == 2 then
  some (.inr (true, 0, ()))
  else
  bif (rd ((0, 0, 0, false, ()) : Int × Int × Int × Bool × Unit) s30 s32).1 == 0 then
  bif decide (r1.1 ≥ (rd ((0, 0, 0, false, ()) : Int × Int × Int × Bool × Unit) s30 s32).2.2.1) then
  some (.inr (true, 0, ()))
  else
  bif s3.2.2.2.2.2.2.1 then
  bif r1.2.2.1 then
  some (.inr (true, 0, ()))
  else
  bif (rd ((0, 0, 0, false, ()) : Int × Int × Int × Bool × Unit) s30 s32).1 == 1 then
  bif decide (r1.2.1 > 0) then
  some (.inr (true, 0, ()))
  else
  bif s3.2.2.2.2.2.2.1 then
  bif r1.2.2.1 then
  some (.inr (true, 0, ()))
  else
  l124_9 k j s2 s3 s4 s30 s31 (w64 (s32 + 1))
  else
  l124_9 k j s2 s3 s4 s30 s31 (w64 (s32 + 1))
  else
  l124_9 k j s2 s3 s4 s30 s31 (w64 (s32 + 1))
  else
  bif (rd ((0, 0, 0, false, ()) : Int × Int × Int × Bool × Unit) s30 s32).1 == 1 then
  bif decide (r1.2.1 > 0) then
  some (.inr (true, 0, ()))
  else
  bif s3.2.2.2.2.2.2.1 then
  bif r1.2.2.1 then
  some (.inr (true, 0, ()))
  else
  l124_9 k j s2 s3 s4 s30 s31 (w64 (s32 + 1))
  else
  l124_9 k j s2 s3 s4 s30 s31 (w64 (s32 + 1))
  else
  l124_9 k j s2 s3 s4 s30 s31 (w64 (s32 + 1))
  else
  bif (rd ((0, 0, 0, false, ()) : Int × Int × Int × Bool × Unit) s30 s32).1 == 1 then
  bif decide (r1.2.1 > 0) then
  some (.inr (true, 0, ()))
  else
  bif s3.2.2.2.2.2.2.1 then
  bif r1.2.2.1 then
  some (.inr (true, 0, ()))
  else
  l124_9 k j s2 s3 s4 s30 s31 (w64 (s32 + 1))
  else
  l124_9 k j s2 s3 s4 s30 s31 (w64 (s32 + 1))
  else
  l124_9 k j s2 s3 s4 s30 s31 (w64 (s32 + 1))
  else
  none
  else
  some (.inl ())
noncomputable def l124_9_sig (k : Nat) : LoopSig := ⟨[(2, .obj ck1), (3, .obj ck59), (4, .obj ck42), (30, .obj ck27), (31, .obj ck1), (32, .obj ck1)], [(.exit 0, []), (.ret, [(6, .obj (.val (.bool))), (7, .obj ck1)])], fun j x => l124_9 k j x.1 x.2.1 x.2.2.1 x.2.2.2.1 x.2.2.2.2.1 x.2.2.2.2.2.1⟩
noncomputable def f124 (k : Nat) (x0 : ByteArray × Int × Int × (List (Int × Int × Int × (List (Int × Int × Int × Int × Unit)) × Unit)) × (List Int) × Bool × Bool × (List (Int × Int × Int × Bool × Unit)) × Int × Int × Int × Unit) (x1 : (List Int) × ((List Int) × (List Int) × Unit) × Int × Int × Unit) (x2 : Int) : Option ((Bool × Int × Unit)) :=
  (f117 k x0 x1).bind fun r1 =>
  bif r1.1 != 0 then
  some (false, r1)
  else
  bif decide (x2 < 0) then
  some (false, 1, ())
  else
  bif decide (x2 > 1) then
  some (false, 1, ())
  else
  bif x0.2.2.2.2.2.2.2.2.1 != 2 then
  some (true, 0, ())
  else
  (l124_9 k k x2 x0 x1 x0.2.2.2.2.2.2.2.1 (x0.2.2.2.2.2.2.2.1.length : Int) 0).bind fun w31 =>
  Sum.elim
  (fun y2 =>
  some (false, 0, ()))
  (fun y3 =>
  some y3)
  w31
noncomputable def f124_sig (k : Nat) : Sig := ⟨[.val ty57, .val ty39, .val (.int .i64)], [], [[.val (.bool), .val (.int .i64)]], fun x => f124 k x.1 x.2.1 x.2.2.1⟩
noncomputable def E_f124 (k : Nat) : Env := ⟨Tryz.prog, G0, scons 150 [f150_sig k] (scons 117 [f117_sig k] (snil)), tcons 9 (l124_9_sig k) (tnil), tnil, unil, k, qnil⟩
theorem l124_9_ok (k : Nat) : LoopOK (E_f124 k) ⟨Tryz.f124.ntmps, [], G0⟩ (nthC 0 (loopsIn (Tryz.f124.body.getD .skip))) :=
  loop_ok (ls := l124_9_sig k) (by kernel_rfl) (fun _ => by kernel_rfl) (fun j x => by kernel_rfl)
theorem f124_run (k : Nat) (x : (lTy (lay 0 (f124_sig k).ins)).den) : runF (E_f124 k) Tryz.f124 (f124_sig k) x = (f124_sig k).F x := by kernel_rfl
theorem f124_ok [Dr] (k : Nat) : FnOK Tryz.prog G0 124 (f124_sig k) :=
  fn_ok2 (E := E_f124 k) (env_cons (one_sig (f150_ok k)) (env_cons (one_sig (f117_ok k)) (env_nil))) (qenv_nil) mixed Tryz.func124 Tryz.call124 (by kernel_rfl) (by kernel_rfl) (m := 1) (by kernel_rfl) ⟨trivial, l124_9_ok k⟩ (sk := []) (by kernel_rfl) trivial (f124_run k)

noncomputable def f83 (k : Nat) (x0 : ByteArray × Int × Int × (List (Int × Int × Int × (List (Int × Int × Int × Int × Unit)) × Unit)) × (List Int) × Bool × Bool × (List (Int × Int × Int × Bool × Unit)) × Int × Int × Int × Unit) (x1 : (List Int) × ((List Int) × (List Int) × Unit) × Int × Int × Unit) (x2 : Int) : Option ((Int × Int × Unit)) :=
  (f124 k x0 x1 (w64 (1 - x2))).bind fun r1 =>
  bif r1.2.1 != 0 then
  some (0, r1.2)
  else
  bif !r1.1 then
  some (3, 0, ())
  else
  some (w64 (2 - x2), 0, ())
noncomputable def f83_sig (k : Nat) : Sig := ⟨[.val ty57, .val ty39, .val (.int .i64)], [], [[.val (.int .i64), .val (.int .i64)]], fun x => f83 k x.1 x.2.1 x.2.2.1⟩
noncomputable def E_f83 (k : Nat) : Env := ⟨Tryz.prog, G0, scons 124 [f124_sig k] (snil), tnil, tnil, unil, k, qnil⟩
theorem f83_run (k : Nat) (x : (lTy (lay 0 (f83_sig k).ins)).den) : runF (E_f83 k) Tryz.f83 (f83_sig k) x = (f83_sig k).F x := by kernel_rfl
theorem f83_ok [Dr] (k : Nat) : FnOK Tryz.prog G0 83 (f83_sig k) :=
  fn_ok2 (E := E_f83 k) (env_cons (one_sig (f124_ok k)) (env_nil)) (qenv_nil) mixed Tryz.func83 Tryz.call83 (by kernel_rfl) (by kernel_rfl) (m := 0) (by kernel_rfl) trivial (sk := []) (by kernel_rfl) trivial (f83_run k)

noncomputable def f46 (k : Nat) (x0 : (ByteArray × Int × Int × (List (Int × Int × Int × (List (Int × Int × Int × Int × Unit)) × Unit)) × (List Int) × Bool × Bool × (List (Int × Int × Int × Bool × Unit)) × Int × Int × Int × Unit) × ((List (Int × Int × Unit)) × Int × Int × Unit) × ((ByteArray × Int × Int × (List (Int × Int × Int × (List (Int × Int × Int × Int × Unit)) × Unit)) × (List Int) × Bool × Bool × (List (Int × Int × Int × Bool × Unit)) × Int × Int × Int × Unit) × (List ((List Int) × ((List Int) × (List Int) × Unit) × Int × Int × Unit)) × (List (Int × Int × Int × Unit)) × Unit) × ((List (Int × Int × Int × Unit)) × Int × Int × ((Int × Int × Unit) × (Int × Int × Unit) × (Int × Int × Unit) × Int × Int × Bool × Int × Unit) × ((Int × Int × Unit) × ((Int × Int × Unit) × (Int × Int × Unit) × Unit) × Unit) × (List (Int × (Int × Int × Int × Unit) × Unit)) × Unit) × Int × (List (ByteArray × Int × Unit)) × Unit) (x1 : (List (Int × Int × Int × Unit)) × Int × Int × ((Int × Int × Unit) × (Int × Int × Unit) × (Int × Int × Unit) × Int × Int × Bool × Int × Unit) × ((Int × Int × Unit) × ((Int × Int × Unit) × (Int × Int × Unit) × Unit) × Unit) × (List (Int × (Int × Int × Int × Unit) × Unit)) × Unit) (x2 : Int × Int × Int × Int × (Int × Int × Int × Unit) × Unit) : Option ((Int × ((ByteArray × Int × Int × (List (Int × Int × Int × (List (Int × Int × Int × Int × Unit)) × Unit)) × (List Int) × Bool × Bool × (List (Int × Int × Int × Bool × Unit)) × Int × Int × Int × Unit) × ((List (Int × Int × Unit)) × Int × Int × Unit) × ((ByteArray × Int × Int × (List (Int × Int × Int × (List (Int × Int × Int × Int × Unit)) × Unit)) × (List Int) × Bool × Bool × (List (Int × Int × Int × Bool × Unit)) × Int × Int × Int × Unit) × (List ((List Int) × ((List Int) × (List Int) × Unit) × Int × Int × Unit)) × (List (Int × Int × Int × Unit)) × Unit) × ((List (Int × Int × Int × Unit)) × Int × Int × ((Int × Int × Unit) × (Int × Int × Unit) × (Int × Int × Unit) × Int × Int × Bool × Int × Unit) × ((Int × Int × Unit) × ((Int × Int × Unit) × (Int × Int × Unit) × Unit) × Unit) × (List (Int × (Int × Int × Int × Unit) × Unit)) × Unit) × Int × (List (ByteArray × Int × Unit)) × Unit) × ((List (Int × Int × Int × Unit)) × Int × Int × ((Int × Int × Unit) × (Int × Int × Unit) × (Int × Int × Unit) × Int × Int × Bool × Int × Unit) × ((Int × Int × Unit) × ((Int × Int × Unit) × (Int × Int × Unit) × Unit) × Unit) × (List (Int × (Int × Int × Int × Unit) × Unit)) × Unit) × Unit)) :=
  bif x2.2.2.1 == 2 then
  (f60 k x0.2.1 x1.2.2.2.1 x2.2.2.2.1).bind fun r1 =>
  bif decide (r1.1.2.2.2.2.2.2.1 < 0) then
  some (10, x0, x1, ())
  else
  (f52 k x0.2.2.1).bind fun r2 =>
  (f83 k x0.1 r2.1 r1.1.2.2.2.2.2.2.1).bind fun r3 =>
  bif r3.2.1 != 0 then
  some (r3.2.1, x0, x1, ())
  else
  some (0, x0, (x1.1, r3.1, 2, r1.1, x1.2.2.2.2), ())
  else
  bif x2.2.2.1 != 0 then
  bif x2.2.2.1 != 1 then
  some (1, x0, x1, ())
  else
  (f47 k x0).bind fun r4 =>
  bif x2.2.1 != r4.1 then
  some (12, r4.2.1, x1, ())
  else
  bif x2.2.2.1 == 0 then
  (f84 k r4.2.1.2.2.1).bind fun r5 =>
  bif decide (r5.1 < 3) then
  some (10, r4.2.1, x1, ())
  else
  bif x2.2.2.1 == 1 then
  (f52 k r4.2.1.2.2.1).bind fun r6 =>
  bif decide (r6.1.2.2.2.1 < 20) then
  some (10, r4.2.1, x1, ())
  else
  some (0, r4.2.1, (x1.1, 3, 5, x1.2.2.2), ())
  else
  some (0, r4.2.1, (x1.1, 3, 5, x1.2.2.2), ())
  else
  bif x2.2.2.1 == 1 then
  (f52 k r4.2.1.2.2.1).bind fun r7 =>
  bif decide (r7.1.2.2.2.1 < 20) then
  some (10, r4.2.1, x1, ())
  else
  some (0, r4.2.1, (x1.1, 3, 5, x1.2.2.2), ())
  else
  some (0, r4.2.1, (x1.1, 3, 5, x1.2.2.2), ())
  else
  (f47 k x0).bind fun r8 =>
  bif x2.2.1 != r8.1 then
  some (12, r8.2.1, x1, ())
  else
  bif x2.2.2.1 == 0 then
  (f84 k r8.2.1.2.2.1).bind fun r9 =>
  bif decide (r9.1 < 3) then
  some (10, r8.2.1, x1, ())
  else
  bif x2.2.2.1 == 1 then
  (f52 k r8.2.1.2.2.1).bind fun r10 =>
  bif decide (r10.1.2.2.2.1 < 20) then
  some (10, r8.2.1, x1, ())
  else
  some (0, r8.2.1, (x1.1, 3, 5, x1.2.2.2), ())
  else
  some (0, r8.2.1, (x1.1, 3, 5, x1.2.2.2), ())
  else
  bif x2.2.2.1 == 1 then
  (f52 k r8.2.1.2.2.1).bind fun r11 =>
  bif decide (r11.1.2.2.2.1 < 20) then
  some (10, r8.2.1, x1, ())
  else
  some (0, r8.2.1, (x1.1, 3, 5, x1.2.2.2), ())
  else
  some (0, r8.2.1, (x1.1, 3, 5, x1.2.2.2), ())
noncomputable def f46_sig (k : Nat) : Sig := ⟨[.box ck68, .box ck64, .val ty44], [0, 1], [[.val (.int .i64), .box ck68, .box ck64]], fun x => f46 k x.1 x.2.1 x.2.2.1⟩
noncomputable def E_f46 (k : Nat) : Env := ⟨Tryz.prog, G0, scons 83 [f83_sig k] (scons 60 [f60_sig k] (scons 47 [f47_sig k] (snil))), tnil, tnil, unil, k, qcons 84 (f84_q k) (qcons 52 (f52_q k) (qnil))⟩
theorem f46_run (k : Nat) (x : (lTy (lay 0 (f46_sig k).ins)).den) : runF (E_f46 k) Tryz.f46 (f46_sig k) x = (f46_sig k).F x := by kernel_rfl
theorem f46_ok [Dr] (k : Nat) : FnOK Tryz.prog G0 46 (f46_sig k) :=
  fn_ok2 (E := E_f46 k) (env_cons (one_sig (f83_ok k)) (env_cons (one_sig (f60_ok k)) (env_cons (one_sig (f47_ok k)) (env_nil)))) (qenv_cons (f84_qok k) (qenv_cons (f52_qok k) (qenv_nil))) mixed Tryz.func46 Tryz.call46 (by kernel_rfl) (by kernel_rfl) (m := 0) (by kernel_rfl) trivial (sk := []) (by kernel_rfl) trivial (f46_run k)

noncomputable def f48 (k : Nat) (x0 : List (Int × (Int × Int × Int × Unit) × Unit)) (x1 : Int) (x2 : Int × Int × Int × Unit) : Option (((List (Int × (Int × Int × Int × Unit) × Unit)) × Int × Unit)) :=
  (f85 k x0).bind fun r1 =>
  bif r1.1 != 0 then
  some ([], r1)
  else
  bif decide (x1 < 0) then
  some ([], 1, ())
  else
  bif decide (x1 > 1) then
  some ([], 1, ())
  else
  (f86 k x0 x1).bind fun r2 =>
  bif (r2.1.length : Int) == 4 then
  some ([], 9, ())
  else
  (f39 k x0).bind fun r3 =>
  bif decide ((r3.1.length + ([(x1, x2, ())] : List (Int × (Int × Int × Int × Unit) × Unit)).length) * 32 ≤ roomN) then
  some (r3.1 ++ [(x1, x2, ())], 0, ())
  else
  none
noncomputable def f48_sig (k : Nat) : Sig := ⟨[.val ty32, .val (.int .i64), .val ty18], [], [[.row ty30, .val (.int .i64)]], fun x => f48 k x.1 x.2.1 x.2.2.1⟩
noncomputable def E_f48 (k : Nat) : Env := ⟨Tryz.prog, G0, scons 86 [f86_sig k] (scons 85 [f85_sig k] (scons 39 [f39_sig k] (snil))), tnil, tnil, unil, k, qnil⟩
theorem f48_run (k : Nat) (x : (lTy (lay 0 (f48_sig k).ins)).den) : runF (E_f48 k) Tryz.f48 (f48_sig k) x = (f48_sig k).F x := by kernel_rfl
theorem f48_ok [Dr] (k : Nat) : FnOK Tryz.prog G0 48 (f48_sig k) :=
  fn_ok2 (E := E_f48 k) (env_cons (one_sig (f86_ok k)) (env_cons (one_sig (f85_ok k)) (env_cons (one_sig (f39_ok k)) (env_nil)))) (qenv_nil) mixed Tryz.func48 Tryz.call48 (by kernel_rfl) (by kernel_rfl) (m := 0) (by kernel_rfl) trivial (sk := []) (by kernel_rfl) trivial (f48_run k)

noncomputable def f12 (k : Nat) (x0 : (ByteArray × Int × Int × (List (Int × Int × Int × (List (Int × Int × Int × Int × Unit)) × Unit)) × (List Int) × Bool × Bool × (List (Int × Int × Int × Bool × Unit)) × Int × Int × Int × Unit) × ((List (Int × Int × Unit)) × Int × Int × Unit) × ((ByteArray × Int × Int × (List (Int × Int × Int × (List (Int × Int × Int × Int × Unit)) × Unit)) × (List Int) × Bool × Bool × (List (Int × Int × Int × Bool × Unit)) × Int × Int × Int × Unit) × (List ((List Int) × ((List Int) × (List Int) × Unit) × Int × Int × Unit)) × (List (Int × Int × Int × Unit)) × Unit) × ((List (Int × Int × Int × Unit)) × Int × Int × ((Int × Int × Unit) × (Int × Int × Unit) × (Int × Int × Unit) × Int × Int × Bool × Int × Unit) × ((Int × Int × Unit) × ((Int × Int × Unit) × (Int × Int × Unit) × Unit) × Unit) × (List (Int × (Int × Int × Int × Unit) × Unit)) × Unit) × Int × (List (ByteArray × Int × Unit)) × Unit) : Option ((((List (Int × Int × Int × Unit)) × Int × Int × ((Int × Int × Unit) × (Int × Int × Unit) × (Int × Int × Unit) × Int × Int × Bool × Int × Unit) × ((Int × Int × Unit) × ((Int × Int × Unit) × (Int × Int × Unit) × Unit) × Unit) × (List (Int × (Int × Int × Int × Unit) × Unit)) × Unit) × ((ByteArray × Int × Int × (List (Int × Int × Int × (List (Int × Int × Int × Int × Unit)) × Unit)) × (List Int) × Bool × Bool × (List (Int × Int × Int × Bool × Unit)) × Int × Int × Int × Unit) × ((List (Int × Int × Unit)) × Int × Int × Unit) × ((ByteArray × Int × Int × (List (Int × Int × Int × (List (Int × Int × Int × Int × Unit)) × Unit)) × (List Int) × Bool × Bool × (List (Int × Int × Int × Bool × Unit)) × Int × Int × Int × Unit) × (List ((List Int) × ((List Int) × (List Int) × Unit) × Int × Int × Unit)) × (List (Int × Int × Int × Unit)) × Unit) × ((List (Int × Int × Int × Unit)) × Int × Int × ((Int × Int × Unit) × (Int × Int × Unit) × (Int × Int × Unit) × Int × Int × Bool × Int × Unit) × ((Int × Int × Unit) × ((Int × Int × Unit) × (Int × Int × Unit) × Unit) × Unit) × (List (Int × (Int × Int × Int × Unit) × Unit)) × Unit) × Int × (List (ByteArray × Int × Unit)) × Unit) × Unit)) :=
  (f38 k x0.2.2.1).bind fun r1 =>
  (f39 k x0.2.2.2.1.2.2.2.2.2.1).bind fun r2 =>
  some ((r1.1, x0.2.2.2.1.2.1, x0.2.2.2.1.2.2.1, x0.2.2.2.1.2.2.2.1, x0.2.2.2.1.2.2.2.2.1, r2), (x0.1, x0.2.1, r1.2.1, x0.2.2.2), ())
noncomputable def f12_sig (k : Nat) : Sig := ⟨[.box ck68], [0], [[.val ty63, .box ck68]], fun x => f12 k x.1⟩
noncomputable def E_f12 (k : Nat) : Env := ⟨Tryz.prog, G0, scons 39 [f39_sig k] (scons 38 [f38_sig k] (snil)), tnil, tnil, unil, k, qnil⟩
theorem f12_run (k : Nat) (x : (lTy (lay 0 (f12_sig k).ins)).den) : runF (E_f12 k) Tryz.f12 (f12_sig k) x = (f12_sig k).F x := by kernel_rfl
theorem f12_ok [Dr] (k : Nat) : FnOK Tryz.prog G0 12 (f12_sig k) :=
  fn_ok2 (E := E_f12 k) (env_cons (one_sig (f39_ok k)) (env_cons (one_sig (f38_ok k)) (env_nil))) (qenv_nil) mixed Tryz.func12 Tryz.call12 (by kernel_rfl) (by kernel_rfl) (m := 0) (by kernel_rfl) trivial (sk := []) (by kernel_rfl) trivial (f12_run k)

noncomputable def f10 (k : Nat) (x0 : ByteArray × Int × Int × (List (Int × Int × Int × (List (Int × Int × Int × Int × Unit)) × Unit)) × (List Int) × Bool × Bool × (List (Int × Int × Int × Bool × Unit)) × Int × Int × Int × Unit) : Option ((Bool × Unit)) :=
  some (decide ((x0.2.2.2.2.1.length : Int) > 20), ())
noncomputable def f10_sig (k : Nat) : Sig := ⟨[.val ty57], [], [[.val (.bool)]], fun x => f10 k x.1⟩
noncomputable def E_f10 (k : Nat) : Env := ⟨Tryz.prog, G0, snil, tnil, tnil, unil, k, qnil⟩
theorem f10_run (k : Nat) (x : (lTy (lay 0 (f10_sig k).ins)).den) : runF (E_f10 k) Tryz.f10 (f10_sig k) x = (f10_sig k).F x := by kernel_rfl
theorem f10_ok [Dr] (k : Nat) : FnOK Tryz.prog G0 10 (f10_sig k) :=
  fn_ok2 (E := E_f10 k) (env_nil) (qenv_nil) mixed Tryz.func10 Tryz.call10 (by kernel_rfl) (by kernel_rfl) (m := 0) (by kernel_rfl) trivial (sk := []) (by kernel_rfl) trivial (f10_run k)

noncomputable def f40 (k : Nat) (x0 : List (ByteArray × Int × Unit)) : Option (((List (ByteArray × Int × Unit)) × Unit)) :=
  bif nilB x0 then
  both (
  some ([], ()))
  (
  bif decide ((([] : List (ByteArray × Int × Unit)).length + x0.length) * 24 ≤ roomN) then
  some ([] ++ x0, ())
  else
  none)
  else
  bif decide ((([] : List (ByteArray × Int × Unit)).length + x0.length) * 24 ≤ roomN) then
  some ([] ++ x0, ())
  else
  none
noncomputable def f40_sig (k : Nat) : Sig := ⟨[.val (.sl ty9)], [], [[.row ty9]], fun x => f40 k x.1⟩
noncomputable def E_f40 (k : Nat) : Env := ⟨Tryz.prog, G0, snil, tnil, tnil, unil, k, qnil⟩
theorem f40_run (k : Nat) (x : (lTy (lay 0 (f40_sig k).ins)).den) : runF (E_f40 k) Tryz.f40 (f40_sig k) x = (f40_sig k).F x := by kernel_rfl
theorem f40_ok [Dr] (k : Nat) : FnOK Tryz.prog G0 40 (f40_sig k) :=
  fn_ok2 (E := E_f40 k) (env_nil) (qenv_nil) mixed Tryz.func40 Tryz.call40 (by kernel_rfl) (by kernel_rfl) (m := 0) (by kernel_rfl) trivial (sk := []) (by kernel_rfl) trivial (f40_run k)

noncomputable def f13 (k : Nat) (x0 : (ByteArray × Int × Int × (List (Int × Int × Int × (List (Int × Int × Int × Int × Unit)) × Unit)) × (List Int) × Bool × Bool × (List (Int × Int × Int × Bool × Unit)) × Int × Int × Int × Unit) × ((List (Int × Int × Unit)) × Int × Int × Unit) × ((ByteArray × Int × Int × (List (Int × Int × Int × (List (Int × Int × Int × Int × Unit)) × Unit)) × (List Int) × Bool × Bool × (List (Int × Int × Int × Bool × Unit)) × Int × Int × Int × Unit) × (List ((List Int) × ((List Int) × (List Int) × Unit) × Int × Int × Unit)) × (List (Int × Int × Int × Unit)) × Unit) × ((List (Int × Int × Int × Unit)) × Int × Int × ((Int × Int × Unit) × (Int × Int × Unit) × (Int × Int × Unit) × Int × Int × Bool × Int × Unit) × ((Int × Int × Unit) × ((Int × Int × Unit) × (Int × Int × Unit) × Unit) × Unit) × (List (Int × (Int × Int × Int × Unit) × Unit)) × Unit) × Int × (List (ByteArray × Int × Unit)) × Unit) : Option (((List (ByteArray × Int × Unit)) × ((ByteArray × Int × Int × (List (Int × Int × Int × (List (Int × Int × Int × Int × Unit)) × Unit)) × (List Int) × Bool × Bool × (List (Int × Int × Int × Bool × Unit)) × Int × Int × Int × Unit) × ((List (Int × Int × Unit)) × Int × Int × Unit) × ((ByteArray × Int × Int × (List (Int × Int × Int × (List (Int × Int × Int × Int × Unit)) × Unit)) × (List Int) × Bool × Bool × (List (Int × Int × Int × Bool × Unit)) × Int × Int × Int × Unit) × (List ((List Int) × ((List Int) × (List Int) × Unit) × Int × Int × Unit)) × (List (Int × Int × Int × Unit)) × Unit) × ((List (Int × Int × Int × Unit)) × Int × Int × ((Int × Int × Unit) × (Int × Int × Unit) × (Int × Int × Unit) × Int × Int × Bool × Int × Unit) × ((Int × Int × Unit) × ((Int × Int × Unit) × (Int × Int × Unit) × Unit) × Unit) × (List (Int × (Int × Int × Int × Unit) × Unit)) × Unit) × Int × (List (ByteArray × Int × Unit)) × Unit) × Unit)) :=
  (f40 k x0.2.2.2.2.2.1).bind fun r1 =>
  some (r1.1, x0, ())
noncomputable def f13_sig (k : Nat) : Sig := ⟨[.box ck68], [0], [[.row ty9, .box ck68]], fun x => f13 k x.1⟩
noncomputable def E_f13 (k : Nat) : Env := ⟨Tryz.prog, G0, scons 40 [f40_sig k] (snil), tnil, tnil, unil, k, qnil⟩
theorem f13_run (k : Nat) (x : (lTy (lay 0 (f13_sig k).ins)).den) : runF (E_f13 k) Tryz.f13 (f13_sig k) x = (f13_sig k).F x := by kernel_rfl
theorem f13_ok [Dr] (k : Nat) : FnOK Tryz.prog G0 13 (f13_sig k) :=
  fn_ok2 (E := E_f13 k) (env_cons (one_sig (f40_ok k)) (env_nil)) (qenv_nil) mixed Tryz.func13 Tryz.call13 (by kernel_rfl) (by kernel_rfl) (m := 0) (by kernel_rfl) trivial (sk := []) (by kernel_rfl) trivial (f13_run k)

noncomputable def f130 (k : Nat) (x0 : ByteArray) (x1 : ByteArray) : Option ((Bool × Unit)) :=
  bif decide ((x0.size : Int) ≥ (x1.size : Int)) then
  bif decide (0 ≤ (x1.size : Int)) && decide ((x1.size : Int) ≤ (x0.size : Int)) then
  some ((x0.extract (0 : Int).toNat (x1.size : Int).toNat).toList == x1.toList, ())
  else
  none
  else
  some (false, ())
noncomputable def f130_sig (k : Nat) : Sig := ⟨[.val (.str), .val (.str)], [], [[.val (.bool)]], fun x => f130 k x.1 x.2.1⟩
noncomputable def E_f130 (k : Nat) : Env := ⟨Tryz.prog, G0, snil, tnil, tnil, unil, k, qnil⟩
theorem f130_run (k : Nat) (x : (lTy (lay 0 (f130_sig k).ins)).den) : runF (E_f130 k) Tryz.f130 (f130_sig k) x = (f130_sig k).F x := by kernel_rfl
theorem f130_ok [Dr] (k : Nat) : FnOK Tryz.prog G0 130 (f130_sig k) :=
  fn_ok2 (E := E_f130 k) (env_nil) (qenv_nil) mixed Tryz.func130 Tryz.call130 (by kernel_rfl) (by kernel_rfl) (m := 0) (by kernel_rfl) trivial (sk := []) (by kernel_rfl) trivial (f130_run k)

noncomputable def f93 (k : Nat) (x0 : ByteArray) (x1 : ByteArray) : Option ((ByteArray × Bool × Unit)) :=
  (f130 k x0 x1).bind fun r1 =>
  bif !r1.1 then
  some (x0, false, ())
  else
  bif decide (0 ≤ (x1.size : Int)) && (decide ((x1.size : Int) ≤ (x0.size : Int)) && decide ((x0.size : Int) ≤ (x0.size : Int))) then
  some (x0.extract (x1.size : Int).toNat (x0.size : Int).toNat, true, ())
  else
  none
noncomputable def f93_sig (k : Nat) : Sig := ⟨[.val (.str), .val (.str)], [], [[.val (.str), .val (.bool)]], fun x => f93 k x.1 x.2.1⟩
noncomputable def E_f93 (k : Nat) : Env := ⟨Tryz.prog, G0, scons 130 [f130_sig k] (snil), tnil, tnil, unil, k, qnil⟩
theorem f93_run (k : Nat) (x : (lTy (lay 0 (f93_sig k).ins)).den) : runF (E_f93 k) Tryz.f93 (f93_sig k) x = (f93_sig k).F x := by kernel_rfl
theorem f93_ok [Dr] (k : Nat) : FnOK Tryz.prog G0 93 (f93_sig k) :=
  fn_ok2 (E := E_f93 k) (env_cons (one_sig (f130_ok k)) (env_nil)) (qenv_nil) mixed Tryz.func93 Tryz.call93 (by kernel_rfl) (by kernel_rfl) (m := 0) (by kernel_rfl) trivial (sk := []) (by kernel_rfl) trivial (f93_run k)

noncomputable def f56 (k : Nat) (x0 : ByteArray) (x1 : ByteArray) : Option ((ByteArray × Bool × Unit)) :=
  (f93 k x0 x1).bind fun r1 =>
  some r1
noncomputable def f56_sig (k : Nat) : Sig := ⟨[.val (.str), .val (.str)], [], [[.val (.str), .val (.bool)]], fun x => f56 k x.1 x.2.1⟩
noncomputable def E_f56 (k : Nat) : Env := ⟨Tryz.prog, G0, scons 93 [f93_sig k] (snil), tnil, tnil, unil, k, qnil⟩
theorem f56_run (k : Nat) (x : (lTy (lay 0 (f56_sig k).ins)).den) : runF (E_f56 k) Tryz.f56 (f56_sig k) x = (f56_sig k).F x := by kernel_rfl
theorem f56_ok [Dr] (k : Nat) : FnOK Tryz.prog G0 56 (f56_sig k) :=
  fn_ok2 (E := E_f56 k) (env_cons (one_sig (f93_ok k)) (env_nil)) (qenv_nil) mixed Tryz.func56 Tryz.call56 (by kernel_rfl) (by kernel_rfl) (m := 0) (by kernel_rfl) trivial (sk := []) (by kernel_rfl) trivial (f56_run k)

noncomputable def f155 (k : Nat) (x0 : ByteArray) (x1 : Int) : Option ((List ByteArray) × Unit) := none
noncomputable def f155_sig (k : Nat) : Sig := ⟨[.val (.str), .val (.int .i64)], [], [[.row (.str)]], fun x => f155 k x.1 x.2.1⟩
theorem f155_ok [Dr] (k : Nat) : FnOK Tryz.prog G0 155 (f155_sig k) := fn_none Tryz.call155 (fun _ => rfl)


open Go.Shelf in
def countL_ren : Go.Shelf.Ren := ⟨fun | 138 => 156 | 195 => 186 | 218 => 188 | 143 => 157 | 219 => 189 | 217 => 206 | 225 => 207 | 224 => 208 | 267 => 209 | 266 => 215 | 314 => 216 | n => n, fun | 9 => 9 | 3 => 3 | 4 => 4 | 5 => 5 | 0 => 0 | 46 => 223 | 146 => 293 | 51 => 257 | n => n, fun | 1 => 4 | n => n⟩
open Go.Shelf in
theorem countL : Go.Proofs.Lays.n138 Tryz.prog countL_ren := {
  mixed := by kernel_rfl
  f138 := Tryz.func156.trans (congrArg some (by kernel_rfl))
  f143 := Tryz.func157.trans (congrArg some (by kernel_rfl))
  f195 := Tryz.func186.trans (congrArg some (by kernel_rfl))
  f217 := Tryz.func206.trans (congrArg some (by kernel_rfl))
  f218 := Tryz.func188.trans (congrArg some (by kernel_rfl))
  f219 := Tryz.func189.trans (congrArg some (by kernel_rfl))
  f224 := Tryz.func208.trans (congrArg some (by kernel_rfl))
  f225 := Tryz.func207.trans (congrArg some (by kernel_rfl))
  f266 := Tryz.func215.trans (congrArg some (by kernel_rfl))
  f267 := Tryz.func209.trans (congrArg some (by kernel_rfl))
  f314 := Tryz.func216.trans (congrArg some (by kernel_rfl))
  t0 := Tryz.underlying0
  a0 := Tryz.isAgg0
  z0 := Tryz.sizeOf0
  v0 := Tryz.zeroValue0
  t3 := Tryz.underlying3
  a3 := Tryz.isAgg3
  z3 := Tryz.sizeOf3
  v3 := Tryz.zeroValue3
  t4 := Tryz.underlying4
  a4 := Tryz.isAgg4
  z4 := Tryz.sizeOf4
  v4 := Tryz.zeroValue4
  t5 := Tryz.underlying5
  a5 := Tryz.isAgg5
  z5 := Tryz.sizeOf5
  v5 := Tryz.zeroValue5
  t9 := Tryz.underlying9
  a9 := Tryz.isAgg9
  z9 := Tryz.sizeOf9
  v9 := Tryz.zeroValue9
  t46 := Tryz.underlying223
  a46 := Tryz.isAgg223
  z46 := Tryz.sizeOf223
  v46 := Tryz.zeroValue223
  t51 := Tryz.underlying257
  a51 := Tryz.isAgg257
  z51 := Tryz.sizeOf257
  v51 := Tryz.zeroValue257
  t146 := Tryz.underlying293
  a146 := Tryz.isAgg293
  z146 := Tryz.sizeOf293
  v146 := Tryz.zeroValue293
  g1 := by kernel_rfl }

noncomputable def f156 (k : Nat) (x0 : ByteArray) (x1 : ByteArray) : Option (Int × Unit) := bif Nat.beq x1.size 1 then some (countB1 x0 x1, ()) else none
noncomputable def f156_sig (k : Nat) : Sig := ⟨[.val (.str), .val (.str)], [], [[.val (.int .i64)]], fun x => f156 k x.1 x.2.1⟩
theorem f156_ok [Dr] (k : Nat) : FnOK Tryz.prog G0 156 (f156_sig k) := count_ok (ρ := countL_ren) countL Tryz.call156


open Go.Shelf in
def index1L_ren : Go.Shelf.Ren := ⟨fun | 143 => 157 | 219 => 189 | 217 => 206 | 225 => 207 | 224 => 208 | 267 => 209 | 266 => 215 | 314 => 216 | n => n, fun | 9 => 9 | 3 => 3 | 4 => 4 | 5 => 5 | 46 => 223 | 146 => 293 | 51 => 257 | n => n, fun | 1 => 4 | n => n⟩
open Go.Shelf in
theorem index1L : Go.Proofs.Lays.n143 Tryz.prog index1L_ren := {
  mixed := by kernel_rfl
  f143 := Tryz.func157.trans (congrArg some (by kernel_rfl))
  f217 := Tryz.func206.trans (congrArg some (by kernel_rfl))
  f219 := Tryz.func189.trans (congrArg some (by kernel_rfl))
  f224 := Tryz.func208.trans (congrArg some (by kernel_rfl))
  f225 := Tryz.func207.trans (congrArg some (by kernel_rfl))
  f266 := Tryz.func215.trans (congrArg some (by kernel_rfl))
  f267 := Tryz.func209.trans (congrArg some (by kernel_rfl))
  f314 := Tryz.func216.trans (congrArg some (by kernel_rfl))
  t3 := Tryz.underlying3
  a3 := Tryz.isAgg3
  z3 := Tryz.sizeOf3
  v3 := Tryz.zeroValue3
  t4 := Tryz.underlying4
  a4 := Tryz.isAgg4
  z4 := Tryz.sizeOf4
  v4 := Tryz.zeroValue4
  t5 := Tryz.underlying5
  a5 := Tryz.isAgg5
  z5 := Tryz.sizeOf5
  v5 := Tryz.zeroValue5
  t9 := Tryz.underlying9
  a9 := Tryz.isAgg9
  z9 := Tryz.sizeOf9
  v9 := Tryz.zeroValue9
  t46 := Tryz.underlying223
  a46 := Tryz.isAgg223
  z46 := Tryz.sizeOf223
  v46 := Tryz.zeroValue223
  t51 := Tryz.underlying257
  a51 := Tryz.isAgg257
  z51 := Tryz.sizeOf257
  v51 := Tryz.zeroValue257
  t146 := Tryz.underlying293
  a146 := Tryz.isAgg293
  z146 := Tryz.sizeOf293
  v146 := Tryz.zeroValue293
  g1 := by kernel_rfl }

noncomputable def f157 (k : Nat) (x0 : ByteArray) (x1 : ByteArray) : Option (Int × Unit) := bif Nat.beq x1.size 1 then some (indexB1 x0 x1, ()) else none
noncomputable def f157_sig (k : Nat) : Sig := ⟨[.val (.str), .val (.str)], [], [[.val (.int .i64)]], fun x => f157 k x.1 x.2.1⟩
theorem f157_ok [Dr] (k : Nat) : FnOK Tryz.prog G0 157 (f157_sig k) := index1_ok (ρ := index1L_ren) index1L Tryz.call157


noncomputable def l131_11 (k : Nat) : Nat → ByteArray → ByteArray → Int → Int → (List ByteArray) → Int → Option ((ByteArray × (List ByteArray) × Int × Unit))
 | 0, _, _, _, _, _, _ => none
 | j + 1, s0, s1, s2, s3, s9, s10 =>
  bif decide (s10 < s3) then
  (f157 k s0 s1).bind fun r1 =>
  bif decide (r1.1 < 0) then
  some (s0, s9, s10, ())
  else
  bif decide (0 ≤ (w64 (r1.1 + s2))) && decide ((w64 (r1.1 + s2)) ≤ (s0.size : Int)) then
  bif decide (0 ≤ s10) && decide (s10 < (s9.length : Int)) then
  bif decide (0 ≤ (w64 (r1.1 + (s1.size : Int)))) && (decide ((w64 (r1.1 + (s1.size : Int))) ≤ (s0.size : Int)) && decide ((s0.size : Int) ≤ (s0.size : Int))) then
  l131_11 k j (s0.extract (w64 (r1.1 + (s1.size : Int))).toNat (s0.size : Int).toNat) s1 s2 s3 (s9.set s10.toNat (s0.extract (0 : Int).toNat (w64 (r1.1 + s2)).toNat)) (w64 (s10 + 1))
  else
  none
  else
  none
  else
  none
  else
  some (s0, s9, s10, ())
noncomputable def l131_11_sig (k : Nat) : LoopSig := ⟨[(0, .obj (.val (.str))), (1, .obj (.val (.str))), (2, .obj ck1), (3, .obj ck1), (9, .obj (.row (.str))), (10, .obj ck1)], [(.exit 0, [(0, .obj (.val (.str))), (9, .obj (.row (.str))), (10, .obj ck1)])], fun j x => l131_11 k j x.1 x.2.1 x.2.2.1 x.2.2.2.1 x.2.2.2.2.1 x.2.2.2.2.2.1⟩
noncomputable def f131 (k : Nat) (x0 : ByteArray) (x1 : ByteArray) (x2 : Int) (x3 : Int) : Option (((List ByteArray) × Unit)) :=
  bif x3 == 0 then
  some ([], ())
  else
  bif x1.toList == (⟨#[]⟩ : ByteArray).toList then
  (f155 k x0 x3).bind fun r1 =>
  some r1
  else
  bif decide (x3 < 0) then
  (f156 k x0 x1).bind fun r2 =>
  bif decide (0 ≤ (if (w64 ((x0.size : Int) + 1)) < (w64 (r2.1 + 1)) then w64 ((x0.size : Int) + 1) else w64 (r2.1 + 1))) && (decide ((if (w64 ((x0.size : Int) + 1)) < (w64 (r2.1 + 1)) then w64 ((x0.size : Int) + 1) else w64 (r2.1 + 1)) ≤ (if (w64 ((x0.size : Int) + 1)) < (w64 (r2.1 + 1)) then w64 ((x0.size : Int) + 1) else w64 (r2.1 + 1))) && decide (((16 : Nat) : Int) * (if (w64 ((x0.size : Int) + 1)) < (w64 (r2.1 + 1)) then w64 ((x0.size : Int) + 1) else w64 (r2.1 + 1)) ≤ 281474976710656)) && decide ((if (w64 ((x0.size : Int) + 1)) < (w64 (r2.1 + 1)) then w64 ((x0.size : Int) + 1) else w64 (r2.1 + 1)) ≤ 9223372036854775807) then
  (l131_11 k k x0 x1 x2 (w64 ((if (w64 ((x0.size : Int) + 1)) < (w64 (r2.1 + 1)) then w64 ((x0.size : Int) + 1) else w64 (r2.1 + 1)) - 1)) (List.replicate (if (w64 ((x0.size : Int) + 1)) < (w64 (r2.1 + 1)) then w64 ((x0.size : Int) + 1) else w64 (r2.1 + 1)).toNat (⟨#[]⟩ : ByteArray)) 0).bind fun o3 =>
  bif decide (0 ≤ o3.2.2.1) && decide (o3.2.2.1 < (o3.2.1.length : Int)) then
  bif decide (0 ≤ (w64 (o3.2.2.1 + 1))) && decide ((w64 (o3.2.2.1 + 1)) ≤ ((o3.2.1.set o3.2.2.1.toNat o3.1).length : Int)) then
  some (first (w64 (o3.2.2.1 + 1)).toNat (o3.2.1.set o3.2.2.1.toNat o3.1), ())
  else
  none
  else
  none
  else
  none
  else
  bif decide (0 ≤ (if (w64 ((x0.size : Int) + 1)) < x3 then w64 ((x0.size : Int) + 1) else x3)) && (decide ((if (w64 ((x0.size : Int) + 1)) < x3 then w64 ((x0.size : Int) + 1) else x3) ≤ (if (w64 ((x0.size : Int) + 1)) < x3 then w64 ((x0.size : Int) + 1) else x3)) && decide (((16 : Nat) : Int) * (if (w64 ((x0.size : Int) + 1)) < x3 then w64 ((x0.size : Int) + 1) else x3) ≤ 281474976710656)) && decide ((if (w64 ((x0.size : Int) + 1)) < x3 then w64 ((x0.size : Int) + 1) else x3) ≤ 9223372036854775807) then
  (l131_11 k k x0 x1 x2 (w64 ((if (w64 ((x0.size : Int) + 1)) < x3 then w64 ((x0.size : Int) + 1) else x3) - 1)) (List.replicate (if (w64 ((x0.size : Int) + 1)) < x3 then w64 ((x0.size : Int) + 1) else x3).toNat (⟨#[]⟩ : ByteArray)) 0).bind fun o4 =>
  bif decide (0 ≤ o4.2.2.1) && decide (o4.2.2.1 < (o4.2.1.length : Int)) then
  bif decide (0 ≤ (w64 (o4.2.2.1 + 1))) && decide ((w64 (o4.2.2.1 + 1)) ≤ ((o4.2.1.set o4.2.2.1.toNat o4.1).length : Int)) then
  some (first (w64 (o4.2.2.1 + 1)).toNat (o4.2.1.set o4.2.2.1.toNat o4.1), ())
  else
  none
  else
  none
  else
  none
noncomputable def f131_sig (k : Nat) : Sig := ⟨[.val (.str), .val (.str), .val (.int .i64), .val (.int .i64)], [], [[.row (.str)]], fun x => f131 k x.1 x.2.1 x.2.2.1 x.2.2.2.1⟩
noncomputable def E_f131 (k : Nat) : Env := ⟨Tryz.prog, G0, scons 157 [f157_sig k] (scons 156 [f156_sig k] (scons 155 [f155_sig k] (snil))), tcons 11 (l131_11_sig k) (tnil), tnil, unil, k, qnil⟩
theorem l131_11_ok (k : Nat) : LoopOK (E_f131 k) ⟨Tryz.f131.ntmps, [], G0⟩ (nthC 0 (loopsIn (Tryz.f131.body.getD .skip))) :=
  loop_ok (ls := l131_11_sig k) (by kernel_rfl) (fun _ => by kernel_rfl) (fun j x => by kernel_rfl)
theorem f131_run (k : Nat) (x : (lTy (lay 0 (f131_sig k).ins)).den) : runF (E_f131 k) Tryz.f131 (f131_sig k) x = (f131_sig k).F x := by kernel_rfl
theorem f131_ok [Dr] (k : Nat) : FnOK Tryz.prog G0 131 (f131_sig k) :=
  fn_ok2 (E := E_f131 k) (env_cons (one_sig (f157_ok k)) (env_cons (one_sig (f156_ok k)) (env_cons (one_sig (f155_ok k)) (env_nil)))) (qenv_nil) mixed Tryz.func131 Tryz.call131 (by kernel_rfl) (by kernel_rfl) (m := 1) (by kernel_rfl) ⟨trivial, l131_11_ok k⟩ (sk := []) (by kernel_rfl) trivial (f131_run k)

noncomputable def f94 (k : Nat) (x0 : ByteArray) (x1 : ByteArray) : Option (((List ByteArray) × Unit)) :=
  (f131 k x0 x1 0 (-1)).bind fun r1 =>
  some r1
noncomputable def f94_sig (k : Nat) : Sig := ⟨[.val (.str), .val (.str)], [], [[.row (.str)]], fun x => f94 k x.1 x.2.1⟩
noncomputable def E_f94 (k : Nat) : Env := ⟨Tryz.prog, G0, scons 131 [f131_sig k] (snil), tnil, tnil, unil, k, qnil⟩
theorem f94_run (k : Nat) (x : (lTy (lay 0 (f94_sig k).ins)).den) : runF (E_f94 k) Tryz.f94 (f94_sig k) x = (f94_sig k).F x := by kernel_rfl
theorem f94_ok [Dr] (k : Nat) : FnOK Tryz.prog G0 94 (f94_sig k) :=
  fn_ok2 (E := E_f94 k) (env_cons (one_sig (f131_ok k)) (env_nil)) (qenv_nil) mixed Tryz.func94 Tryz.call94 (by kernel_rfl) (by kernel_rfl) (m := 0) (by kernel_rfl) trivial (sk := []) (by kernel_rfl) trivial (f94_run k)

open Go.Shelf in
def atoiL_ren : Go.Shelf.Ren := ⟨fun | 172 => 95 | 244 => 132 | 245 => 133 | 247 => 158 | 279 => 159 | 280 => 160 | 281 => 161 | 282 => 162 | 287 => 190 | 316 => 191 | 171 => 73 | 205 => 192 | 321 => 210 | 322 => 211 | 243 => 106 | 246 => 142 | 283 => 168 | 284 => 169 | 285 => 170 | 286 => 171 | 129 => 181 | 317 => 196 | 318 => 197 | 319 => 198 | 320 => 199 | 337 => 212 | 338 => 213 | n => n, fun | 9 => 9 | 3 => 3 | 75 => 170 | 76 => 171 | 4 => 4 | 5 => 5 | 167 => 232 | 37 => 176 | 0 => 0 | 85 => 233 | 2 => 2 | 168 => 235 | 53 => 100 | 175 => 266 | 46 => 223 | 210 => 270 | 127 => 215 | 145 => 285 | 143 => 283 | 21 => 21 | 171 => 243 | 173 => 246 | 212 => 274 | 51 => 257 | 20 => 20 | 213 => 275 | 232 => 295 | 233 => 296 | 80 => 188 | n => n, fun | 15 => 1 | 16 => 2 | 17 => 3 | 18 => 7 | 19 => 8 | n => n⟩
open Go.Shelf in
theorem atoiL : Go.Proofs.LaysC.n172 Tryz.prog atoiL_ren := {
  mixed := by kernel_rfl
  f129 := Tryz.func181.trans (congrArg some (by kernel_rfl))
  f171 := Tryz.func73.trans (congrArg some (by kernel_rfl))
  f172 := Tryz.func95.trans (congrArg some (by kernel_rfl))
  f205 := Tryz.func192.trans (congrArg some (by kernel_rfl))
  f243 := Tryz.func106.trans (congrArg some (by kernel_rfl))
  f244 := Tryz.func132.trans (congrArg some (by kernel_rfl))
  f245 := Tryz.func133.trans (congrArg some (by kernel_rfl))
  f246 := Tryz.func142.trans (congrArg some (by kernel_rfl))
  f247 := Tryz.func158.trans (congrArg some (by kernel_rfl))
  f279 := Tryz.func159.trans (congrArg some (by kernel_rfl))
  f280 := Tryz.func160.trans (congrArg some (by kernel_rfl))
  f281 := Tryz.func161.trans (congrArg some (by kernel_rfl))
  f282 := Tryz.func162.trans (congrArg some (by kernel_rfl))
  f283 := Tryz.func168.trans (congrArg some (by kernel_rfl))
  f284 := Tryz.func169.trans (congrArg some (by kernel_rfl))
  f285 := Tryz.func170.trans (congrArg some (by kernel_rfl))
  f286 := Tryz.func171.trans (congrArg some (by kernel_rfl))
  f287 := Tryz.func190.trans (congrArg some (by kernel_rfl))
  f316 := Tryz.func191.trans (congrArg some (by kernel_rfl))
  f317 := Tryz.func196.trans (congrArg some (by kernel_rfl))
  f318 := Tryz.func197.trans (congrArg some (by kernel_rfl))
  f319 := Tryz.func198.trans (congrArg some (by kernel_rfl))
  f320 := Tryz.func199.trans (congrArg some (by kernel_rfl))
  f321 := Tryz.func210.trans (congrArg some (by kernel_rfl))
  f322 := Tryz.func211.trans (congrArg some (by kernel_rfl))
  f337 := Tryz.func212.trans (congrArg some (by kernel_rfl))
  f338 := Tryz.func213.trans (congrArg some (by kernel_rfl))
  t0 := Tryz.underlying0
  a0 := Tryz.isAgg0
  z0 := Tryz.sizeOf0
  v0 := Tryz.zeroValue0
  t2 := Tryz.underlying2
  a2 := Tryz.isAgg2
  z2 := Tryz.sizeOf2
  v2 := Tryz.zeroValue2
  t3 := Tryz.underlying3
  a3 := Tryz.isAgg3
  z3 := Tryz.sizeOf3
  v3 := Tryz.zeroValue3
  t4 := Tryz.underlying4
  a4 := Tryz.isAgg4
  z4 := Tryz.sizeOf4
  v4 := Tryz.zeroValue4
  t5 := Tryz.underlying5
  a5 := Tryz.isAgg5
  z5 := Tryz.sizeOf5
  v5 := Tryz.zeroValue5
  t9 := Tryz.underlying9
  a9 := Tryz.isAgg9
  z9 := Tryz.sizeOf9
  v9 := Tryz.zeroValue9
  t20 := Tryz.underlying20
  a20 := Tryz.isAgg20
  z20 := Tryz.sizeOf20
  v20 := Tryz.zeroValue20
  t21 := Tryz.underlying21
  a21 := Tryz.isAgg21
  z21 := Tryz.sizeOf21
  v21 := Tryz.zeroValue21
  t37 := Tryz.underlying176
  a37 := Tryz.isAgg176
  z37 := Tryz.sizeOf176
  v37 := Tryz.zeroValue176
  t46 := Tryz.underlying223
  a46 := Tryz.isAgg223
  z46 := Tryz.sizeOf223
  v46 := Tryz.zeroValue223
  t51 := Tryz.underlying257
  a51 := Tryz.isAgg257
  z51 := Tryz.sizeOf257
  v51 := Tryz.zeroValue257
  t53 := Tryz.underlying100
  a53 := Tryz.isAgg100
  z53 := Tryz.sizeOf100
  v53 := Tryz.zeroValue100
  t75 := Tryz.underlying170
  a75 := Tryz.isAgg170
  z75 := Tryz.sizeOf170
  v75 := Tryz.zeroValue170
  t76 := Tryz.underlying171
  a76 := Tryz.isAgg171
  z76 := Tryz.sizeOf171
  v76 := Tryz.zeroValue171
  t85 := Tryz.underlying233
  a85 := Tryz.isAgg233
  z85 := Tryz.sizeOf233
  v85 := Tryz.zeroValue233
  t127 := Tryz.underlying215
  a127 := Tryz.isAgg215
  z127 := Tryz.sizeOf215
  v127 := Tryz.zeroValue215
  t143 := Tryz.underlying283
  a143 := Tryz.isAgg283
  z143 := Tryz.sizeOf283
  v143 := Tryz.zeroValue283
  t145 := Tryz.underlying285
  a145 := Tryz.isAgg285
  z145 := Tryz.sizeOf285
  v145 := Tryz.zeroValue285
  t167 := Tryz.underlying232
  a167 := Tryz.isAgg232
  z167 := Tryz.sizeOf232
  v167 := Tryz.zeroValue232
  t168 := Tryz.underlying235
  a168 := Tryz.isAgg235
  z168 := Tryz.sizeOf235
  v168 := Tryz.zeroValue235
  t171 := Tryz.underlying243
  a171 := Tryz.isAgg243
  z171 := Tryz.sizeOf243
  v171 := Tryz.zeroValue243
  t173 := Tryz.underlying246
  a173 := Tryz.isAgg246
  z173 := Tryz.sizeOf246
  v173 := Tryz.zeroValue246
  t175 := Tryz.underlying266
  a175 := Tryz.isAgg266
  z175 := Tryz.sizeOf266
  v175 := Tryz.zeroValue266
  t210 := Tryz.underlying270
  a210 := Tryz.isAgg270
  z210 := Tryz.sizeOf270
  v210 := Tryz.zeroValue270
  t212 := Tryz.underlying274
  a212 := Tryz.isAgg274
  z212 := Tryz.sizeOf274
  v212 := Tryz.zeroValue274
  t213 := Tryz.underlying275
  a213 := Tryz.isAgg275
  z213 := Tryz.sizeOf275
  t232 := Tryz.underlying295
  a232 := Tryz.isAgg295
  z232 := Tryz.sizeOf295
  v232 := Tryz.zeroValue295
  t233 := Tryz.underlying296
  a233 := Tryz.isAgg296
  z233 := Tryz.sizeOf296
  v233 := Tryz.zeroValue296
  g15 := by kernel_rfl
  g16 := by kernel_rfl
  g17 := by kernel_rfl
  g18 := by kernel_rfl
  g19 := by kernel_rfl
  t80 := Tryz.underlying188
  a80 := Tryz.isAgg188
  z80 := Tryz.sizeOf188
  v80 := Tryz.zeroValue188
  i0 := by kernel_rfl
  i2 := by kernel_rfl
  i3 := by kernel_rfl
  i4 := by kernel_rfl
  i5 := by kernel_rfl
  i9 := by kernel_rfl
  i20 := by kernel_rfl
  i21 := by kernel_rfl
  i37 := by kernel_rfl
  i46 := by kernel_rfl
  i51 := by kernel_rfl
  i53 := by kernel_rfl
  i75 := by kernel_rfl
  i76 := by kernel_rfl
  i80 := by kernel_rfl
  i85 := by kernel_rfl
  i127 := by kernel_rfl
  i143 := by kernel_rfl
  i145 := by kernel_rfl
  i167 := by kernel_rfl
  i168 := by kernel_rfl
  i171 := by kernel_rfl
  i173 := by kernel_rfl
  i175 := by kernel_rfl
  i210 := by kernel_rfl
  i212 := by kernel_rfl
  i232 := by kernel_rfl
  i233 := by kernel_rfl
  m15 := by kernel_rfl
  m16 := by kernel_rfl
  m17 := by kernel_rfl
  m18 := by kernel_rfl
  m19 := by kernel_rfl
  c0 := by kernel_rfl
  c2 := by kernel_rfl
  c3 := by kernel_rfl
  c4 := by kernel_rfl
  c5 := by kernel_rfl
  c9 := by kernel_rfl
  c20 := by kernel_rfl
  c21 := by kernel_rfl
  c37 := by kernel_rfl
  c46 := by kernel_rfl
  c51 := by kernel_rfl
  c53 := by kernel_rfl
  c75 := by kernel_rfl
  c76 := by kernel_rfl
  c80 := by kernel_rfl
  c85 := by kernel_rfl
  c127 := by kernel_rfl
  c143 := by kernel_rfl
  c145 := by kernel_rfl
  c167 := by kernel_rfl
  c168 := by kernel_rfl
  c171 := by kernel_rfl
  c173 := by kernel_rfl
  c175 := by kernel_rfl
  c210 := by kernel_rfl
  c212 := by kernel_rfl
  c213 := by kernel_rfl
  c232 := by kernel_rfl
  c233 := by kernel_rfl }

noncomputable def f95 (k : Nat) (x0 : ByteArray) : Option (Int × Bool × Unit) := atoiB x0
noncomputable def f95_sig (k : Nat) : Sig := ⟨[.val (.str)], [], [[.val (.int .i64), .val (.err)]], fun x => f95 k x.1⟩
theorem f95_ok [Dr] (k : Nat) : FnOK Tryz.prog G0 95 (f95_sig k) := atoi_ok (ρ := atoiL_ren) atoiL Tryz.call95


noncomputable def l57_6 (k : Nat) : Nat → (List Int) → (List ByteArray) → Int → Int → Option (((List Int) × Unit) ⊕ ((List Int) × Int × Unit))
 | 0, _, _, _, _ => none
 | j + 1, s7, s18, s19, s20 =>
  bif decide (s20 < s19) then
  bif decide (0 ≤ s20) && decide (s20 < (s18.length : Int)) then
  (f95 k (rd (⟨#[]⟩ : ByteArray) s18 s20)).bind fun r1 =>
  bif !r1.2.1 then
  some (.inr ([], 5, ()))
  else
  (f73 k r1.1).bind fun r2 =>
  bif !(r2.1.toList == (rd (⟨#[]⟩ : ByteArray) s18 s20).toList) then
  some (.inr ([], 5, ()))
  else
  bif decide ((s7.length + [r1.1].length) * 8 ≤ roomN) then
  l57_6 k j (s7 ++ [r1.1]) s18 s19 (w64 (s20 + 1))
  else
  none
  else
  none
  else
  some (.inl (s7, ()))
noncomputable def l57_6_sig (k : Nat) : LoopSig := ⟨[(7, .obj ck2), (18, .obj (.row (.str))), (19, .obj ck1), (20, .obj ck1)], [(.exit 0, [(7, .obj ck2)]), (.ret, [(4, .obj ck2), (5, .obj ck1)])], fun j x => l57_6 k j x.1 x.2.1 x.2.2.1 x.2.2.2.1⟩
noncomputable def f57 (k : Nat) (x0 : ByteArray) (x1 : Int) : Option (((List Int) × Int × Unit)) :=
  (f94 k x0 (⟨#[32]⟩ : ByteArray)).bind fun r1 =>
  bif (r1.1.length : Int) != x1 then
  some ([], 5, ())
  else
  (l57_6 k k [] r1.1 (r1.1.length : Int) 0).bind fun w33 =>
  Sum.elim
  (fun y2 =>
  some (y2.1, 0, ()))
  (fun y3 =>
  some y3)
  w33
noncomputable def f57_sig (k : Nat) : Sig := ⟨[.val (.str), .val (.int .i64)], [], [[.row (.int .i64), .val (.int .i64)]], fun x => f57 k x.1 x.2.1⟩
noncomputable def E_f57 (k : Nat) : Env := ⟨Tryz.prog, G0, scons 95 [f95_sig k] (scons 94 [f94_sig k] (scons 73 [f73_sig k] (snil))), tcons 6 (l57_6_sig k) (tnil), tnil, unil, k, qnil⟩
theorem l57_6_ok (k : Nat) : LoopOK (E_f57 k) ⟨Tryz.f57.ntmps, [], G0⟩ (nthC 0 (loopsIn (Tryz.f57.body.getD .skip))) :=
  loop_ok (ls := l57_6_sig k) (by kernel_rfl) (fun _ => by kernel_rfl) (fun j x => by kernel_rfl)
theorem f57_run (k : Nat) (x : (lTy (lay 0 (f57_sig k).ins)).den) : runF (E_f57 k) Tryz.f57 (f57_sig k) x = (f57_sig k).F x := by kernel_rfl
theorem f57_ok [Dr] (k : Nat) : FnOK Tryz.prog G0 57 (f57_sig k) :=
  fn_ok2 (E := E_f57 k) (env_cons (one_sig (f95_ok k)) (env_cons (one_sig (f94_ok k)) (env_cons (one_sig (f73_ok k)) (env_nil)))) (qenv_nil) mixed Tryz.func57 Tryz.call57 (by kernel_rfl) (by kernel_rfl) (m := 1) (by kernel_rfl) ⟨trivial, l57_6_ok k⟩ (sk := []) (by kernel_rfl) trivial (f57_run k)

noncomputable def f58 (k : Nat) (x0 : ByteArray) : Option (((Int × Int × Int × Int × (Int × Int × Int × Unit) × Unit) × Int × Unit)) :=
  (f57 k x0 7).bind fun r1 =>
  bif r1.2.1 != 0 then
  some ((0, 0, 0, 0, (0, 0, 0, ()), ()), r1.2)
  else
  bif decide (0 < (r1.1.length : Int)) then
  bif decide (1 < (r1.1.length : Int)) then
  bif decide (2 < (r1.1.length : Int)) then
  bif decide (3 < (r1.1.length : Int)) then
  bif decide (4 < (r1.1.length : Int)) then
  bif decide (5 < (r1.1.length : Int)) then
  bif decide (6 < (r1.1.length : Int)) then
  some ((rd (0 : Int) r1.1 0, rd (0 : Int) r1.1 1, rd (0 : Int) r1.1 2, rd (0 : Int) r1.1 3, (rd (0 : Int) r1.1 4, rd (0 : Int) r1.1 5, rd (0 : Int) r1.1 6, ()), ()), 0, ())
  else
  none
  else
  none
  else
  none
  else
  none
  else
  none
  else
  none
  else
  none
noncomputable def f58_sig (k : Nat) : Sig := ⟨[.val (.str)], [], [[.val ty44, .val (.int .i64)]], fun x => f58 k x.1⟩
noncomputable def E_f58 (k : Nat) : Env := ⟨Tryz.prog, G0, scons 57 [f57_sig k] (snil), tnil, tnil, unil, k, qnil⟩
theorem f58_run (k : Nat) (x : (lTy (lay 0 (f58_sig k).ins)).den) : runF (E_f58 k) Tryz.f58 (f58_sig k) x = (f58_sig k).F x := by kernel_rfl
theorem f58_ok [Dr] (k : Nat) : FnOK Tryz.prog G0 58 (f58_sig k) :=
  fn_ok2 (E := E_f58 k) (env_cons (one_sig (f57_ok k)) (env_nil)) (qenv_nil) mixed Tryz.func58 Tryz.call58 (by kernel_rfl) (by kernel_rfl) (m := 0) (by kernel_rfl) trivial (sk := []) (by kernel_rfl) trivial (f58_run k)

noncomputable def l50_4 (k : Nat) : Nat → (List (Int × Int × Int × Unit)) → (List (Int × Int × Int × Unit)) → Int → Int → Option (Unit ⊕ (Bool × Unit))
 | 0, _, _, _, _ => none
 | j + 1, s0, s1, s12, s13 =>
  bif decide (s13 < s12) then
  bif decide (0 ≤ s13) && decide (s13 < (s0.length : Int)) then
  bif decide (0 ≤ s13) && decide (s13 < (s1.length : Int)) then
  bif !(((rd ((0, 0, 0, ()) : Int × Int × Int × Unit) s0 s13).1 == (rd ((0, 0, 0, ()) : Int × Int × Int × Unit) s1 s13).1) && (((rd ((0, 0, 0, ()) : Int × Int × Int × Unit) s0 s13).2.1 == (rd ((0, 0, 0, ()) : Int × Int × Int × Unit) s1 s13).2.1) && (((rd ((0, 0, 0, ()) : Int × Int × Int × Unit) s0 s13).2.2.1 == (rd ((0, 0, 0, ()) : Int × Int × Int × Unit) s1 s13).2.2.1) && true))) then
  some (.inr (false, ()))
  else
  l50_4 k j s0 s1 s12 (w64 (s13 + 1))
  else
  none
  else
  none
  else
  some (.inl ())
noncomputable def l50_4_sig (k : Nat) : LoopSig := ⟨[(0, .obj (.val (.sl ty18))), (1, .obj (.val (.sl ty18))), (12, .obj ck1), (13, .obj ck1)], [(.exit 0, []), (.ret, [(4, .obj (.val (.bool)))])], fun j x => l50_4 k j x.1 x.2.1 x.2.2.1 x.2.2.2.1⟩
noncomputable def f50 (k : Nat) (x0 : List (Int × Int × Int × Unit)) (x1 : List (Int × Int × Int × Unit)) : Option ((Bool × Unit)) :=
  bif (x0.length : Int) != (x1.length : Int) then
  some (false, ())
  else
  (l50_4 k k x0 x1 (x0.length : Int) 0).bind fun w36 =>
  Sum.elim
  (fun y1 =>
  some (true, ()))
  (fun y2 =>
  some y2)
  w36
noncomputable def f50_sig (k : Nat) : Sig := ⟨[.val (.sl ty18), .val (.sl ty18)], [], [[.val (.bool)]], fun x => f50 k x.1 x.2.1⟩
noncomputable def E_f50 (k : Nat) : Env := ⟨Tryz.prog, G0, snil, tcons 4 (l50_4_sig k) (tnil), tnil, unil, k, qnil⟩
theorem l50_4_ok (k : Nat) : LoopOK (E_f50 k) ⟨Tryz.f50.ntmps, [], G0⟩ (nthC 0 (loopsIn (Tryz.f50.body.getD .skip))) :=
  loop_ok (ls := l50_4_sig k) (by kernel_rfl) (fun _ => by kernel_rfl) (fun j x => by kernel_rfl)
theorem f50_run (k : Nat) (x : (lTy (lay 0 (f50_sig k).ins)).den) : runF (E_f50 k) Tryz.f50 (f50_sig k) x = (f50_sig k).F x := by kernel_rfl
theorem f50_ok [Dr] (k : Nat) : FnOK Tryz.prog G0 50 (f50_sig k) :=
  fn_ok2 (E := E_f50 k) (env_nil) (qenv_nil) mixed Tryz.func50 Tryz.call50 (by kernel_rfl) (by kernel_rfl) (m := 1) (by kernel_rfl) ⟨trivial, l50_4_ok k⟩ (sk := []) (by kernel_rfl) trivial (f50_run k)

noncomputable def l15_4 (k : Nat) : Nat → ((List (Int × Int × Int × Unit)) × Int × Int × ((Int × Int × Unit) × (Int × Int × Unit) × (Int × Int × Unit) × Int × Int × Bool × Int × Unit) × ((Int × Int × Unit) × ((Int × Int × Unit) × (Int × Int × Unit) × Unit) × Unit) × (List (Int × (Int × Int × Int × Unit) × Unit)) × Unit) → ((List (Int × Int × Int × Unit)) × Int × Int × ((Int × Int × Unit) × (Int × Int × Unit) × (Int × Int × Unit) × Int × Int × Bool × Int × Unit) × ((Int × Int × Unit) × ((Int × Int × Unit) × (Int × Int × Unit) × Unit) × Unit) × (List (Int × (Int × Int × Int × Unit) × Unit)) × Unit) → Int → Int → Option ((((List (Int × Int × Int × Unit)) × Int × Int × ((Int × Int × Unit) × (Int × Int × Unit) × (Int × Int × Unit) × Int × Int × Bool × Int × Unit) × ((Int × Int × Unit) × ((Int × Int × Unit) × (Int × Int × Unit) × Unit) × Unit) × (List (Int × (Int × Int × Int × Unit) × Unit)) × Unit) × ((List (Int × Int × Int × Unit)) × Int × Int × ((Int × Int × Unit) × (Int × Int × Unit) × (Int × Int × Unit) × Int × Int × Bool × Int × Unit) × ((Int × Int × Unit) × ((Int × Int × Unit) × (Int × Int × Unit) × Unit) × Unit) × (List (Int × (Int × Int × Int × Unit) × Unit)) × Unit) × Unit) ⊕ (Bool × Unit))
 | 0, _, _, _, _ => none
 | j + 1, s2, s3, s23, s24 =>
  bif decide (s24 < s23) then
  bif decide (0 ≤ s24) && decide (s24 < (s2.2.2.2.2.2.1.length : Int)) then
  bif decide (0 ≤ s24) && decide (s24 < (s3.2.2.2.2.2.1.length : Int)) then
  bif !(((rd ((0, (0, 0, 0, ()), ()) : Int × (Int × Int × Int × Unit) × Unit) s2.2.2.2.2.2.1 s24).1 == (rd ((0, (0, 0, 0, ()), ()) : Int × (Int × Int × Int × Unit) × Unit) s3.2.2.2.2.2.1 s24).1) && ((((rd ((0, (0, 0, 0, ()), ()) : Int × (Int × Int × Int × Unit) × Unit) s2.2.2.2.2.2.1 s24).2.1.1 == (rd ((0, (0, 0, 0, ()), ()) : Int × (Int × Int × Int × Unit) × Unit) s3.2.2.2.2.2.1 s24).2.1.1) && (((rd ((0, (0, 0, 0, ()), ()) : Int × (Int × Int × Int × Unit) × Unit) s2.2.2.2.2.2.1 s24).2.1.2.1 == (rd ((0, (0, 0, 0, ()), ()) : Int × (Int × Int × Int × Unit) × Unit) s3.2.2.2.2.2.1 s24).2.1.2.1) && (((rd ((0, (0, 0, 0, ()), ()) : Int × (Int × Int × Int × Unit) × Unit) s2.2.2.2.2.2.1 s24).2.1.2.2.1 == (rd ((0, (0, 0, 0, ()), ()) : Int × (Int × Int × Int × Unit) × Unit) s3.2.2.2.2.2.1 s24).2.1.2.2.1) && true))) && true)) then
  some (.inr (false, ()))
  else
  l15_4 k j s2 s3 s23 (w64 (s24 + 1))
  else
  none
  else
  none
  else
  some (.inl (s2, s3, ()))
noncomputable def l15_4_sig (k : Nat) : LoopSig := ⟨[(2, .obj ck66), (3, .obj ck66), (23, .obj ck1), (24, .obj ck1)], [(.exit 0, [(2, .obj ck66), (3, .obj ck66)]), (.ret, [(4, .obj (.val (.bool)))])], fun j x => l15_4 k j x.1 x.2.1 x.2.2.1 x.2.2.2.1⟩
noncomputable def f15 (k : Nat) (x0 : (List (Int × Int × Int × Unit)) × Int × Int × ((Int × Int × Unit) × (Int × Int × Unit) × (Int × Int × Unit) × Int × Int × Bool × Int × Unit) × ((Int × Int × Unit) × ((Int × Int × Unit) × (Int × Int × Unit) × Unit) × Unit) × (List (Int × (Int × Int × Int × Unit) × Unit)) × Unit) (x1 : (List (Int × Int × Int × Unit)) × Int × Int × ((Int × Int × Unit) × (Int × Int × Unit) × (Int × Int × Unit) × Int × Int × Bool × Int × Unit) × ((Int × Int × Unit) × ((Int × Int × Unit) × (Int × Int × Unit) × Unit) × Unit) × (List (Int × (Int × Int × Int × Unit) × Unit)) × Unit) : Option ((Bool × Unit)) :=
  (f50 k x0.1 x1.1).bind fun r1 =>
  bif !r1.1 then
  some (false, ())
  else
  bif (x0.2.2.2.2.2.1.length : Int) != (x1.2.2.2.2.2.1.length : Int) then
  some (false, ())
  else
  (l15_4 k k x0 x1 (x0.2.2.2.2.2.1.length : Int) 0).bind fun w37 =>
  Sum.elim
  (fun y2 =>
  bif y2.1.2.1 == y2.2.1.2.1 then
  bif y2.1.2.2.1 == y2.2.1.2.2.1 then
  bif ((y2.1.2.2.2.1.1.1 == y2.2.1.2.2.2.1.1.1) && ((y2.1.2.2.2.1.1.2.1 == y2.2.1.2.2.2.1.1.2.1) && true)) && (((y2.1.2.2.2.1.2.1.1 == y2.2.1.2.2.2.1.2.1.1) && ((y2.1.2.2.2.1.2.1.2.1 == y2.2.1.2.2.2.1.2.1.2.1) && true)) && (((y2.1.2.2.2.1.2.2.1.1 == y2.2.1.2.2.2.1.2.2.1.1) && ((y2.1.2.2.2.1.2.2.1.2.1 == y2.2.1.2.2.2.1.2.2.1.2.1) && true)) && ((y2.1.2.2.2.1.2.2.2.1 == y2.2.1.2.2.2.1.2.2.2.1) && ((y2.1.2.2.2.1.2.2.2.2.1 == y2.2.1.2.2.2.1.2.2.2.2.1) && ((y2.1.2.2.2.1.2.2.2.2.2.1 == y2.2.1.2.2.2.1.2.2.2.2.2.1) && ((y2.1.2.2.2.1.2.2.2.2.2.2.1 == y2.2.1.2.2.2.1.2.2.2.2.2.2.1) && true)))))) then
  some (((y2.1.2.2.2.2.1.1.1 == y2.2.1.2.2.2.2.1.1.1) && ((y2.1.2.2.2.2.1.1.2.1 == y2.2.1.2.2.2.2.1.1.2.1) && true)) && ((((y2.1.2.2.2.2.1.2.1.1.1 == y2.2.1.2.2.2.2.1.2.1.1.1) && ((y2.1.2.2.2.2.1.2.1.1.2.1 == y2.2.1.2.2.2.2.1.2.1.1.2.1) && true)) && (((y2.1.2.2.2.2.1.2.1.2.1.1 == y2.2.1.2.2.2.2.1.2.1.2.1.1) && ((y2.1.2.2.2.2.1.2.1.2.1.2.1 == y2.2.1.2.2.2.2.1.2.1.2.1.2.1) && true)) && true)) && true), ())
  else
  some (false, ())
  else
  some (false, ())
  else
  some (false, ()))
  (fun y3 =>
  some y3)
  w37
noncomputable def f15_sig (k : Nat) : Sig := ⟨[.val ty63, .val ty63], [], [[.val (.bool)]], fun x => f15 k x.1 x.2.1⟩
noncomputable def E_f15 (k : Nat) : Env := ⟨Tryz.prog, G0, scons 50 [f50_sig k] (snil), tcons 4 (l15_4_sig k) (tnil), tnil, unil, k, qnil⟩
theorem l15_4_ok (k : Nat) : LoopOK (E_f15 k) ⟨Tryz.f15.ntmps, [], G0⟩ (nthC 0 (loopsIn (Tryz.f15.body.getD .skip))) :=
  loop_ok (ls := l15_4_sig k) (by kernel_rfl) (fun _ => by kernel_rfl) (fun j x => by kernel_rfl)
theorem f15_run (k : Nat) (x : (lTy (lay 0 (f15_sig k).ins)).den) : runF (E_f15 k) Tryz.f15 (f15_sig k) x = (f15_sig k).F x := by kernel_rfl
theorem f15_ok [Dr] (k : Nat) : FnOK Tryz.prog G0 15 (f15_sig k) :=
  fn_ok2 (E := E_f15 k) (env_cons (one_sig (f50_ok k)) (env_nil)) (qenv_nil) mixed Tryz.func15 Tryz.call15 (by kernel_rfl) (by kernel_rfl) (m := 1) (by kernel_rfl) ⟨trivial, l15_4_ok k⟩ (sk := []) (by kernel_rfl) trivial (f15_run k)

noncomputable def f18 (k : Nat) (x0 : (ByteArray × Int × Int × (List (Int × Int × Int × (List (Int × Int × Int × Int × Unit)) × Unit)) × (List Int) × Bool × Bool × (List (Int × Int × Int × Bool × Unit)) × Int × Int × Int × Unit) × ((List (Int × Int × Unit)) × Int × Int × Unit) × ((ByteArray × Int × Int × (List (Int × Int × Int × (List (Int × Int × Int × Int × Unit)) × Unit)) × (List Int) × Bool × Bool × (List (Int × Int × Int × Bool × Unit)) × Int × Int × Int × Unit) × (List ((List Int) × ((List Int) × (List Int) × Unit) × Int × Int × Unit)) × (List (Int × Int × Int × Unit)) × Unit) × ((List (Int × Int × Int × Unit)) × Int × Int × ((Int × Int × Unit) × (Int × Int × Unit) × (Int × Int × Unit) × Int × Int × Bool × Int × Unit) × ((Int × Int × Unit) × ((Int × Int × Unit) × (Int × Int × Unit) × Unit) × Unit) × (List (Int × (Int × Int × Int × Unit) × Unit)) × Unit) × Int × (List (ByteArray × Int × Unit)) × Unit) : Option ((((List Int) × ((List Int) × (List Int) × Unit) × Int × Int × Unit) × ((ByteArray × Int × Int × (List (Int × Int × Int × (List (Int × Int × Int × Int × Unit)) × Unit)) × (List Int) × Bool × Bool × (List (Int × Int × Int × Bool × Unit)) × Int × Int × Int × Unit) × ((List (Int × Int × Unit)) × Int × Int × Unit) × ((ByteArray × Int × Int × (List (Int × Int × Int × (List (Int × Int × Int × Int × Unit)) × Unit)) × (List Int) × Bool × Bool × (List (Int × Int × Int × Bool × Unit)) × Int × Int × Int × Unit) × (List ((List Int) × ((List Int) × (List Int) × Unit) × Int × Int × Unit)) × (List (Int × Int × Int × Unit)) × Unit) × ((List (Int × Int × Int × Unit)) × Int × Int × ((Int × Int × Unit) × (Int × Int × Unit) × (Int × Int × Unit) × Int × Int × Bool × Int × Unit) × ((Int × Int × Unit) × ((Int × Int × Unit) × (Int × Int × Unit) × Unit) × Unit) × (List (Int × (Int × Int × Int × Unit) × Unit)) × Unit) × Int × (List (ByteArray × Int × Unit)) × Unit) × Unit)) :=
  (f52 k x0.2.2.1).bind fun r1 =>
  some (r1.1, x0, ())
noncomputable def f18_sig (k : Nat) : Sig := ⟨[.box ck68], [0], [[.val ty39, .box ck68]], fun x => f18 k x.1⟩
noncomputable def E_f18 (k : Nat) : Env := ⟨Tryz.prog, G0, snil, tnil, tnil, unil, k, qcons 52 (f52_q k) (qnil)⟩
theorem f18_run (k : Nat) (x : (lTy (lay 0 (f18_sig k).ins)).den) : runF (E_f18 k) Tryz.f18 (f18_sig k) x = (f18_sig k).F x := by kernel_rfl
theorem f18_ok [Dr] (k : Nat) : FnOK Tryz.prog G0 18 (f18_sig k) :=
  fn_ok2 (E := E_f18 k) (env_nil) (qenv_cons (f52_qok k) (qenv_nil)) mixed Tryz.func18 Tryz.call18 (by kernel_rfl) (by kernel_rfl) (m := 0) (by kernel_rfl) trivial (sk := []) (by kernel_rfl) trivial (f18_run k)

noncomputable def l20_4 (k : Nat) : Nat → (List (ByteArray × Int × Unit)) → (List (ByteArray × Int × Unit)) → Int → Int → Option (Unit ⊕ (Bool × Unit))
 | 0, _, _, _, _ => none
 | j + 1, s0, s12, s13, s14 =>
  bif decide (s14 < s13) then
  bif decide (0 ≤ s14) && decide (s14 < (s12.length : Int)) then
  bif decide (0 ≤ s14) && decide (s14 < (s0.length : Int)) then
  bif !(((rd (((⟨#[]⟩ : ByteArray), 0, ()) : ByteArray × Int × Unit) s0 s14).1 == (rd (((⟨#[]⟩ : ByteArray), 0, ()) : ByteArray × Int × Unit) s12 s14).1) && (((rd (((⟨#[]⟩ : ByteArray), 0, ()) : ByteArray × Int × Unit) s0 s14).2.1 == (rd (((⟨#[]⟩ : ByteArray), 0, ()) : ByteArray × Int × Unit) s12 s14).2.1) && true)) then
  some (.inr (false, ()))
  else
  l20_4 k j s0 s12 s13 (w64 (s14 + 1))
  else
  none
  else
  none
  else
  some (.inl ())
noncomputable def l20_4_sig (k : Nat) : LoopSig := ⟨[(0, .obj ck13), (12, .obj ck13), (13, .obj ck1), (14, .obj ck1)], [(.exit 0, []), (.ret, [(4, .obj (.val (.bool)))])], fun j x => l20_4 k j x.1 x.2.1 x.2.2.1 x.2.2.2.1⟩
noncomputable def f20 (k : Nat) (x0 : List (ByteArray × Int × Unit)) (x1 : List (ByteArray × Int × Unit)) : Option ((Bool × Unit)) :=
  bif decide ((x1.length : Int) > (x0.length : Int)) then
  some (false, ())
  else
  (l20_4 k k x0 x1 (x1.length : Int) 0).bind fun w38 =>
  Sum.elim
  (fun y1 =>
  some (true, ()))
  (fun y2 =>
  some y2)
  w38
noncomputable def f20_sig (k : Nat) : Sig := ⟨[.val (.sl ty9), .val (.sl ty9)], [], [[.val (.bool)]], fun x => f20 k x.1 x.2.1⟩
noncomputable def E_f20 (k : Nat) : Env := ⟨Tryz.prog, G0, snil, tcons 4 (l20_4_sig k) (tnil), tnil, unil, k, qnil⟩
theorem l20_4_ok (k : Nat) : LoopOK (E_f20 k) ⟨Tryz.f20.ntmps, [], G0⟩ (nthC 0 (loopsIn (Tryz.f20.body.getD .skip))) :=
  loop_ok (ls := l20_4_sig k) (by kernel_rfl) (fun _ => by kernel_rfl) (fun j x => by kernel_rfl)
theorem f20_run (k : Nat) (x : (lTy (lay 0 (f20_sig k).ins)).den) : runF (E_f20 k) Tryz.f20 (f20_sig k) x = (f20_sig k).F x := by kernel_rfl
theorem f20_ok [Dr] (k : Nat) : FnOK Tryz.prog G0 20 (f20_sig k) :=
  fn_ok2 (E := E_f20 k) (env_nil) (qenv_nil) mixed Tryz.func20 Tryz.call20 (by kernel_rfl) (by kernel_rfl) (m := 1) (by kernel_rfl) ⟨trivial, l20_4_ok k⟩ (sk := []) (by kernel_rfl) trivial (f20_run k)

open Go.Shelf in
def joinL_ren : Go.Shelf.Ren := ⟨fun | 156 => 87 | 165 => 125 | 166 => 98 | 169 => 103 | 240 => 137 | 241 => 151 | 276 => 165 | 277 => 185 | n => n, fun | 31 => 162 | 9 => 9 | 3 => 3 | 4 => 4 | 0 => 0 | 20 => 20 | 72 => 178 | 76 => 171 | 70 => 175 | 37 => 176 | 75 => 170 | 127 => 215 | 164 => 239 | 5 => 5 | 80 => 188 | n => n, fun | n => n⟩
open Go.Shelf in
theorem joinL : Go.Proofs.Lays.n156 Tryz.prog joinL_ren := {
  mixed := by kernel_rfl
  f156 := Tryz.func87.trans (congrArg some (by kernel_rfl))
  f165 := Tryz.func125.trans (congrArg some (by kernel_rfl))
  f166 := Tryz.func98.trans (congrArg some (by kernel_rfl))
  f169 := Tryz.func103.trans (congrArg some (by kernel_rfl))
  f240 := Tryz.func137.trans (congrArg some (by kernel_rfl))
  f241 := Tryz.func151.trans (congrArg some (by kernel_rfl))
  f276 := Tryz.func165.trans (congrArg some (by kernel_rfl))
  f277 := Tryz.func185.trans (congrArg some (by kernel_rfl))
  t0 := Tryz.underlying0
  a0 := Tryz.isAgg0
  z0 := Tryz.sizeOf0
  v0 := Tryz.zeroValue0
  t3 := Tryz.underlying3
  a3 := Tryz.isAgg3
  z3 := Tryz.sizeOf3
  v3 := Tryz.zeroValue3
  t4 := Tryz.underlying4
  a4 := Tryz.isAgg4
  z4 := Tryz.sizeOf4
  v4 := Tryz.zeroValue4
  t9 := Tryz.underlying9
  a9 := Tryz.isAgg9
  z9 := Tryz.sizeOf9
  v9 := Tryz.zeroValue9
  t20 := Tryz.underlying20
  a20 := Tryz.isAgg20
  z20 := Tryz.sizeOf20
  v20 := Tryz.zeroValue20
  t31 := Tryz.underlying162
  a31 := Tryz.isAgg162
  z31 := Tryz.sizeOf162
  v31 := Tryz.zeroValue162
  t37 := Tryz.underlying176
  a37 := Tryz.isAgg176
  z37 := Tryz.sizeOf176
  v37 := Tryz.zeroValue176
  t70 := Tryz.underlying175
  a70 := Tryz.isAgg175
  z70 := Tryz.sizeOf175
  v70 := Tryz.zeroValue175
  t72 := Tryz.underlying178
  a72 := Tryz.isAgg178
  z72 := Tryz.sizeOf178
  v72 := Tryz.zeroValue178
  t75 := Tryz.underlying170
  a75 := Tryz.isAgg170
  z75 := Tryz.sizeOf170
  v75 := Tryz.zeroValue170
  t76 := Tryz.underlying171
  a76 := Tryz.isAgg171
  z76 := Tryz.sizeOf171
  v76 := Tryz.zeroValue171
  t127 := Tryz.underlying215
  a127 := Tryz.isAgg215
  z127 := Tryz.sizeOf215
  v127 := Tryz.zeroValue215
  t164 := Tryz.underlying239
  a164 := Tryz.isAgg239
  z164 := Tryz.sizeOf239
  v164 := Tryz.zeroValue239 }
open Go.Shelf in
theorem joinX : Go.Proofs.Builder.Extra Tryz.prog joinL_ren := {
  sizeBuilder := by kernel_rfl
  liesBuilder := by kernel_rfl
  t5 := Tryz.underlying5
  a5 := Tryz.isAgg5
  z5 := Tryz.sizeOf5
  v5 := Tryz.zeroValue5
  infoByte := by kernel_rfl
  cellsByte := by kernel_rfl
  sizeByte := by kernel_rfl
  neB5 := by decide }

noncomputable def f87 (k : Nat) (x0 : List ByteArray) (x1 : ByteArray) : Option (ByteArray × Unit) :=
  bif decide ((joinB x0 x1).size ≤ 281474976710656) && decide (x0.length ≤ 140737488355328) then some (joinB x0 x1, ()) else none
noncomputable def f87_sig (k : Nat) : Sig := ⟨[.val (.sl .str), .val .str], [], [[.val .str]], fun x => f87 k x.1 x.2.1⟩
theorem f87_ok (k : Nat) : FnOK Tryz.prog G0 87 (f87_sig k) := join_ok (ρ := joinL_ren) joinL joinX Tryz.call87


noncomputable def l49_3 (k : Nat) : Nat → (List ByteArray) → (List Int) → Int → Int → Option (((List ByteArray) × Unit))
 | 0, _, _, _, _ => none
 | j + 1, s3, s23, s24, s25 =>
  bif decide (s25 < s24) then
  bif decide (0 ≤ s25) && decide (s25 < (s23.length : Int)) then
  (f36 k (rd (0 : Int) s23 s25)).bind fun r1 =>
  bif decide ((s3.length + [r1.1].length) * 16 ≤ roomN) then
  l49_3 k j (s3 ++ [r1.1]) s23 s24 (w64 (s25 + 1))
  else
  none
  else
  none
  else
  some (s3, ())
noncomputable def l49_3_sig (k : Nat) : LoopSig := ⟨[(3, .obj (.row (.str))), (23, .obj ck2), (24, .obj ck1), (25, .obj ck1)], [(.exit 0, [(3, .obj (.row (.str)))])], fun j x => l49_3 k j x.1 x.2.1 x.2.2.1 x.2.2.2.1⟩
noncomputable def f49 (k : Nat) (x0 : Int × Int × Int × Int × (Int × Int × Int × Unit) × Unit) : Option ((ByteArray × Unit)) :=
  (l49_3 k k [] [x0.1, x0.2.1, x0.2.2.1, x0.2.2.2.1, x0.2.2.2.2.1.1, x0.2.2.2.2.1.2.1, x0.2.2.2.2.1.2.2.1] 7 0).bind fun o1 =>
  (f87 k o1.1 (⟨#[32]⟩ : ByteArray)).bind fun r2 =>
  some r2
noncomputable def f49_sig (k : Nat) : Sig := ⟨[.val ty44], [], [[.val (.str)]], fun x => f49 k x.1⟩
noncomputable def E_f49 (k : Nat) : Env := ⟨Tryz.prog, G0, scons 87 [f87_sig k] (scons 36 [f36_sig k] (snil)), tcons 3 (l49_3_sig k) (tnil), tnil, unil, k, qnil⟩
theorem l49_3_ok (k : Nat) : LoopOK (E_f49 k) ⟨Tryz.f49.ntmps, [], G0⟩ (nthC 0 (loopsIn (Tryz.f49.body.getD .skip))) :=
  loop_ok (ls := l49_3_sig k) (by kernel_rfl) (fun _ => by kernel_rfl) (fun j x => by kernel_rfl)
theorem f49_run (k : Nat) (x : (lTy (lay 0 (f49_sig k).ins)).den) : runF (E_f49 k) Tryz.f49 (f49_sig k) x = (f49_sig k).F x := by kernel_rfl
theorem f49_ok (k : Nat) : FnOK Tryz.prog G0 49 (f49_sig k) :=
  fn_ok2 (E := E_f49 k) (env_cons (one_sig (f87_ok k)) (env_cons (one_sig (f36_ok k)) (env_nil))) (qenv_nil) mixed Tryz.func49 Tryz.call49 (by kernel_rfl) (by kernel_rfl) (m := 1) (by kernel_rfl) ⟨trivial, l49_3_ok k⟩ (sk := []) (by kernel_rfl) trivial (f49_run k)

noncomputable def f14 (k : Nat) (x0 : (ByteArray × Int × Int × (List (Int × Int × Int × (List (Int × Int × Int × Int × Unit)) × Unit)) × (List Int) × Bool × Bool × (List (Int × Int × Int × Bool × Unit)) × Int × Int × Int × Unit) × ((List (Int × Int × Unit)) × Int × Int × Unit) × ((ByteArray × Int × Int × (List (Int × Int × Int × (List (Int × Int × Int × Int × Unit)) × Unit)) × (List Int) × Bool × Bool × (List (Int × Int × Int × Bool × Unit)) × Int × Int × Int × Unit) × (List ((List Int) × ((List Int) × (List Int) × Unit) × Int × Int × Unit)) × (List (Int × Int × Int × Unit)) × Unit) × ((List (Int × Int × Int × Unit)) × Int × Int × ((Int × Int × Unit) × (Int × Int × Unit) × (Int × Int × Unit) × Int × Int × Bool × Int × Unit) × ((Int × Int × Unit) × ((Int × Int × Unit) × (Int × Int × Unit) × Unit) × Unit) × (List (Int × (Int × Int × Int × Unit) × Unit)) × Unit) × Int × (List (ByteArray × Int × Unit)) × Unit) (x1 : Int × Int × Int × Int × (Int × Int × Int × Unit) × Unit) : Option ((Int × ((ByteArray × Int × Int × (List (Int × Int × Int × (List (Int × Int × Int × Int × Unit)) × Unit)) × (List Int) × Bool × Bool × (List (Int × Int × Int × Bool × Unit)) × Int × Int × Int × Unit) × ((List (Int × Int × Unit)) × Int × Int × Unit) × ((ByteArray × Int × Int × (List (Int × Int × Int × (List (Int × Int × Int × Int × Unit)) × Unit)) × (List Int) × Bool × Bool × (List (Int × Int × Int × Bool × Unit)) × Int × Int × Int × Unit) × (List ((List Int) × ((List Int) × (List Int) × Unit) × Int × Int × Unit)) × (List (Int × Int × Int × Unit)) × Unit) × ((List (Int × Int × Int × Unit)) × Int × Int × ((Int × Int × Unit) × (Int × Int × Unit) × (Int × Int × Unit) × Int × Int × Bool × Int × Unit) × ((Int × Int × Unit) × ((Int × Int × Unit) × (Int × Int × Unit) × Unit) × Unit) × (List (Int × (Int × Int × Int × Unit) × Unit)) × Unit) × Int × (List (ByteArray × Int × Unit)) × Unit) × Unit)) :=
  (f41 k x0 x1).bind fun r1 =>
  bif r1.1 != 0 then
  some r1
  else
  bif x1.1 == 0 then
  (f42 k r1.2.1 r1.2.1.2.2.2.1 x1).bind fun r2 =>
  bif r2.1 != 0 then
  some (r2.1, r2.2.1, ())
  else
  (f49 k x1).bind fun r3 =>
  (f35 k r2.2.1.2.2.2.2.2.1 r3.1).bind fun r4 =>
  (f37 k (r2.2.1.1, r2.2.1.2.1, r2.2.1.2.2.1, r2.2.2.1, x1.2.2.2.1, r4.1, ())).bind fun r5 =>
  some (0, r5)
  else
  bif x1.1 == 1 then
  (f38 k r1.2.1.2.2.1).bind fun r6 =>
  (f43 k r1.2.1.2.2.2.1.2.2.2.2.1 x1.2.2.1 x1.2.1 (r6.1.length : Int)).bind fun r7 =>
  bif r7.2.1 != 0 then
  some (r7.2.1, (r1.2.1.1, r1.2.1.2.1, r6.2.1, r1.2.1.2.2.2), ())
  else
  (f49 k x1).bind fun r8 =>
  (f35 k r1.2.1.2.2.2.2.2.1 r8.1).bind fun r9 =>
  (f37 k (r1.2.1.1, r1.2.1.2.1, r6.2.1, (r1.2.1.2.2.2.1.1, r1.2.1.2.2.2.1.2.1, r1.2.1.2.2.2.1.2.2.1, r1.2.1.2.2.2.1.2.2.2.1, r7.1, r1.2.1.2.2.2.1.2.2.2.2.2), x1.2.2.2.1, r9.1, ())).bind fun r10 =>
  some (0, r10)
  else
  bif x1.1 == 2 then
  (f44 k r1.2.1 r1.2.1.2.2.2.1 x1).bind fun r11 =>
  bif r11.1 != 0 then
  some (r11.1, r11.2.1, ())
  else
  (f49 k x1).bind fun r12 =>
  (f35 k r11.2.1.2.2.2.2.2.1 r12.1).bind fun r13 =>
  (f37 k (r11.2.1.1, r11.2.1.2.1, r11.2.1.2.2.1, r11.2.2.1, x1.2.2.2.1, r13.1, ())).bind fun r14 =>
  some (0, r14)
  else
  bif x1.1 == 3 then
  (f38 k r1.2.1.2.2.1).bind fun r15 =>
  (f45 k r1.2.1.2.2.2.1.2.2.2.2.1 x1.2.2.1 x1.2.1 (r15.1.length : Int)).bind fun r16 =>
  bif r16.2.1 != 0 then
  some (r16.2.1, (r1.2.1.1, r1.2.1.2.1, r15.2.1, r1.2.1.2.2.2), ())
  else
  (f49 k x1).bind fun r17 =>
  (f35 k r1.2.1.2.2.2.2.2.1 r17.1).bind fun r18 =>
  (f37 k (r1.2.1.1, r1.2.1.2.1, r15.2.1, (r1.2.1.2.2.2.1.1, r1.2.1.2.2.2.1.2.1, r1.2.1.2.2.2.1.2.2.1, r1.2.1.2.2.2.1.2.2.2.1, r16.1, r1.2.1.2.2.2.1.2.2.2.2.2), x1.2.2.2.1, r18.1, ())).bind fun r19 =>
  some (0, r19)
  else
  bif x1.1 == 4 then
  (f49 k x1).bind fun r20 =>
  (f35 k r1.2.1.2.2.2.2.2.1 r20.1).bind fun r21 =>
  (f37 k (r1.2.1.1, r1.2.1.2.1, r1.2.1.2.2.1, (r1.2.1.2.2.2.1.1, w64 (2 - x1.2.1), 3, r1.2.1.2.2.2.1.2.2.2), x1.2.2.2.1, r21.1, ())).bind fun r22 =>
  some (0, r22)
  else
  bif x1.1 == 5 then
  (f46 k r1.2.1 r1.2.1.2.2.2.1 x1).bind fun r23 =>
  bif r23.1 != 0 then
  some (r23.1, r23.2.1, ())
  else
  (f49 k x1).bind fun r24 =>
  (f35 k r23.2.1.2.2.2.2.2.1 r24.1).bind fun r25 =>
  (f37 k (r23.2.1.1, r23.2.1.2.1, r23.2.1.2.2.1, r23.2.2.1, x1.2.2.2.1, r25.1, ())).bind fun r26 =>
  some (0, r26)
  else
  (f47 k r1.2.1).bind fun r27 =>
  bif x1.2.1 == r27.1 then
  some (12, r27.2)
  else
  (f48 k r1.2.1.2.2.2.1.2.2.2.2.2.1 x1.2.1 x1.2.2.2.2.1).bind fun r28 =>
  bif r28.2.1 != 0 then
  some (r28.2.1, r27.2)
  else
  (f49 k x1).bind fun r29 =>
  (f35 k r27.2.1.2.2.2.2.2.1 r29.1).bind fun r30 =>
  (f37 k (r27.2.1.1, r27.2.1.2.1, r27.2.1.2.2.1, (r1.2.1.2.2.2.1.1, r1.2.1.2.2.2.1.2.1, r1.2.1.2.2.2.1.2.2.1, r1.2.1.2.2.2.1.2.2.2.1, r1.2.1.2.2.2.1.2.2.2.2.1, r28.1, ()), x1.2.2.2.1, r30.1, ())).bind fun r31 =>
  some (0, r31)
noncomputable def f14_sig (k : Nat) : Sig := ⟨[.box ck68, .val ty44], [0], [[.val (.int .i64), .box ck68]], fun x => f14 k x.1 x.2.1⟩
noncomputable def E_f14 (k : Nat) : Env := ⟨Tryz.prog, G0, scons 49 [f49_sig k] (scons 48 [f48_sig k] (scons 47 [f47_sig k] (scons 46 [f46_sig k] (scons 45 [f45_sig k] (scons 44 [f44_sig k] (scons 43 [f43_sig k] (scons 42 [f42_sig k] (scons 41 [f41_sig k] (scons 38 [f38_sig k] (scons 37 [f37_sig k] (scons 35 [f35_sig k] (snil)))))))))))), tnil, tnil, unil, k, qnil⟩
theorem f14_run (k : Nat) (x : (lTy (lay 0 (f14_sig k).ins)).den) : runF (E_f14 k) Tryz.f14 (f14_sig k) x = (f14_sig k).F x := by kernel_rfl
theorem f14_ok (k : Nat) : FnOK Tryz.prog G0 14 (f14_sig k) :=
  fn_ok2 (E := E_f14 k) (env_cons (one_sig (f49_ok k)) (env_cons (one_sig (f48_ok k)) (env_cons (one_sig (f47_ok k)) (env_cons (one_sig (f46_ok k)) (env_cons (one_sig (f45_ok k)) (env_cons (one_sig (f44_ok k)) (env_cons (one_sig (f43_ok k)) (env_cons (one_sig (f42_ok k)) (env_cons (one_sig (f41_ok k)) (env_cons (one_sig (f38_ok k)) (env_cons (one_sig (f37_ok k)) (env_cons (one_sig (f35_ok k)) (env_nil))))))))))))) (qenv_nil) mixed Tryz.func14 Tryz.call14 (by kernel_rfl) (by kernel_rfl) (m := 0) (by kernel_rfl) trivial (sk := []) (by kernel_rfl) trivial (f14_run k)

noncomputable def f9 (k : Nat) : Option ((Bool × Unit)) :=
  (f22 k).bind fun r1 =>
  (f28 k).bind fun r2 =>
  (f11 k r1.1 r2.1 0).bind fun w32 =>
  Sum.elim
  (fun y3 =>
  bif y3.2.1 != 0 then
  some (false, ())
  else
  (f29 k 4).bind fun r4 =>
  (f14 k y3.1 (0, 0, 0, 10, r4)).bind fun r5 =>
  (f12 k r5.2.1).bind fun r6 =>
  bif r5.1 == 0 then
  bif (r6.1.1.length : Int) == 1 then
  some (r6.1.2.2.2.1.1.1 == 60990, ())
  else
  some (false, ())
  else
  some (false, ()))
  (fun y7 =>
  bif y7.2.1 != 0 then
  some (false, ())
  else
  (f29 k 4).bind fun r8 =>
  none)
  w32
noncomputable def f9_sig (k : Nat) : Sig := ⟨[], [], [[.val (.bool)]], fun x => f9 k⟩
noncomputable def E_f9 (k : Nat) : Env := ⟨Tryz.prog, G0, scons 29 [f29_sig k] (scons 28 [f28_sig k] (scons 22 [f22_sig k] (scons 14 [f14_sig k] (scons 12 [f12_sig k] (scons 11 [f11_sig k] (snil)))))), tnil, tnil, unil, k, qnil⟩
theorem f9_run (k : Nat) (x : (lTy (lay 0 (f9_sig k).ins)).den) : runF (E_f9 k) Tryz.f9 (f9_sig k) x = (f9_sig k).F x := by kernel_rfl
theorem f9_ok (k : Nat) : FnOK Tryz.prog G0 9 (f9_sig k) :=
  fn_ok2 (E := E_f9 k) (env_cons (one_sig (f29_ok k)) (env_cons (one_sig (f28_ok k)) (env_cons (one_sig (f22_ok k)) (env_cons (one_sig (f14_ok k)) (env_cons (one_sig (f12_ok k)) (env_cons (one_sig (f11_ok k)) (env_nil))))))) (qenv_nil) mixed Tryz.func9 Tryz.call9 (by kernel_rfl) (by kernel_rfl) (m := 0) (by kernel_rfl) trivial (sk := []) (by kernel_rfl) trivial (f9_run k)

noncomputable def l19_16 (k : Nat) : Nat → ((ByteArray × Int × Int × (List (Int × Int × Int × (List (Int × Int × Int × Int × Unit)) × Unit)) × (List Int) × Bool × Bool × (List (Int × Int × Int × Bool × Unit)) × Int × Int × Int × Unit) × ((List (Int × Int × Unit)) × Int × Int × Unit) × ((ByteArray × Int × Int × (List (Int × Int × Int × (List (Int × Int × Int × Int × Unit)) × Unit)) × (List Int) × Bool × Bool × (List (Int × Int × Int × Bool × Unit)) × Int × Int × Int × Unit) × (List ((List Int) × ((List Int) × (List Int) × Unit) × Int × Int × Unit)) × (List (Int × Int × Int × Unit)) × Unit) × ((List (Int × Int × Int × Unit)) × Int × Int × ((Int × Int × Unit) × (Int × Int × Unit) × (Int × Int × Unit) × Int × Int × Bool × Int × Unit) × ((Int × Int × Unit) × ((Int × Int × Unit) × (Int × Int × Unit) × Unit) × Unit) × (List (Int × (Int × Int × Int × Unit) × Unit)) × Unit) × Int × (List (ByteArray × Int × Unit)) × Unit) → (List (ByteArray × Int × Unit)) → Int → Int → Option ((((ByteArray × Int × Int × (List (Int × Int × Int × (List (Int × Int × Int × Int × Unit)) × Unit)) × (List Int) × Bool × Bool × (List (Int × Int × Int × Bool × Unit)) × Int × Int × Int × Unit) × ((List (Int × Int × Unit)) × Int × Int × Unit) × ((ByteArray × Int × Int × (List (Int × Int × Int × (List (Int × Int × Int × Int × Unit)) × Unit)) × (List Int) × Bool × Bool × (List (Int × Int × Int × Bool × Unit)) × Int × Int × Int × Unit) × (List ((List Int) × ((List Int) × (List Int) × Unit) × Int × Int × Unit)) × (List (Int × Int × Int × Unit)) × Unit) × ((List (Int × Int × Int × Unit)) × Int × Int × ((Int × Int × Unit) × (Int × Int × Unit) × (Int × Int × Unit) × Int × Int × Bool × Int × Unit) × ((Int × Int × Unit) × ((Int × Int × Unit) × (Int × Int × Unit) × Unit) × Unit) × (List (Int × (Int × Int × Int × Unit) × Unit)) × Unit) × Int × (List (ByteArray × Int × Unit)) × Unit) × Unit) ⊕ (Unit × Int × Unit))
 | 0, _, _, _, _ => none
 | j + 1, s13, s58, s59, s60 =>
  bif decide (s60 < s59) then
  bif decide (0 ≤ s60) && decide (s60 < (s58.length : Int)) then
  (f58 k (rd (((⟨#[]⟩ : ByteArray), 0, ()) : ByteArray × Int × Unit) s58 s60).1).bind fun r1 =>
  bif r1.2.1 != 0 then
  some (.inr ((), r1.2))
  else
  (f14 k s13 r1.1).bind fun r2 =>
  bif r2.1 != 0 then
  some (.inr ((), r2.1, ()))
  else
  l19_16 k j r2.2.1 s58 s59 (w64 (s60 + 1))
  else
  none
  else
  some (.inl (s13, ()))
noncomputable def l19_16_sig (k : Nat) : LoopSig := ⟨[(13, .obj ck69), (58, .obj ck13), (59, .obj ck1), (60, .obj ck1)], [(.exit 0, [(13, .obj ck69)]), (.ret, [(6, .obj (.nilp)), (7, .obj ck1)])], fun j x => l19_16 k j x.1 x.2.1 x.2.2.1 x.2.2.2.1⟩
noncomputable def f19 (k : Nat) (x0 : ByteArray × Int × Int × (List (Int × Int × Int × (List (Int × Int × Int × Int × Unit)) × Unit)) × (List Int) × Bool × Bool × (List (Int × Int × Int × Bool × Unit)) × Int × Int × Int × Unit) (x1 : (List (Int × Int × Unit)) × Int × Int × Unit) (x2 : List (ByteArray × Int × Unit)) : Option ((((ByteArray × Int × Int × (List (Int × Int × Int × (List (Int × Int × Int × Int × Unit)) × Unit)) × (List Int) × Bool × Bool × (List (Int × Int × Int × Bool × Unit)) × Int × Int × Int × Unit) × ((List (Int × Int × Unit)) × Int × Int × Unit) × ((ByteArray × Int × Int × (List (Int × Int × Int × (List (Int × Int × Int × Int × Unit)) × Unit)) × (List Int) × Bool × Bool × (List (Int × Int × Int × Bool × Unit)) × Int × Int × Int × Unit) × (List ((List Int) × ((List Int) × (List Int) × Unit) × Int × Int × Unit)) × (List (Int × Int × Int × Unit)) × Unit) × ((List (Int × Int × Int × Unit)) × Int × Int × ((Int × Int × Unit) × (Int × Int × Unit) × (Int × Int × Unit) × Int × Int × Bool × Int × Unit) × ((Int × Int × Unit) × ((Int × Int × Unit) × (Int × Int × Unit) × Unit) × Unit) × (List (Int × (Int × Int × Int × Unit) × Unit)) × Unit) × Int × (List (ByteArray × Int × Unit)) × Unit) × Int × Unit) ⊕ (Unit × Int × Unit)) :=
  (f55 k x2).bind fun r1 =>
  bif r1.1 != 0 then
  some (.inr ((), r1))
  else
  bif (x2.length : Int) == 0 then
  some (.inr ((), 8, ()))
  else
  bif decide (0 < (x2.length : Int)) then
  (f56 k (rd (((⟨#[]⟩ : ByteArray), 0, ()) : ByteArray × Int × Unit) x2 0).1 (⟨#[115, 116, 97, 114, 116, 32]⟩ : ByteArray)).bind fun r2 =>
  bif !r2.2.1 then
  some (.inr ((), 5, ()))
  else
  (f57 k r2.1 1).bind fun r3 =>
  bif r3.2.1 != 0 then
  some (.inr ((), r3.2))
  else
  bif decide (0 < (r3.1.length : Int)) then
  (f11 k x0 x1 (rd (0 : Int) r3.1 0)).bind fun w34 =>
  Sum.elim
  (fun y4 =>
  bif y4.2.1 != 0 then
  some (.inr ((), y4.2))
  else
  bif decide (1 ≤ (x2.length : Int)) && decide ((x2.length : Int) ≤ (x2.length : Int)) then
  (l19_16 k k y4.1 (sliceOf x2 1 (x2.length : Int)) ((sliceOf x2 1 (x2.length : Int)).length : Int) 0).bind fun w35 =>
  Sum.elim
  (fun y5 =>
  some (.inl (y5.1, 0, ())))
  (fun y6 =>
  some (.inr ((), y6.2)))
  w35
  else
  none)
  (fun y7 =>
  bif y7.2.1 != 0 then
  some (.inr ((), y7.2))
  else
  bif decide (1 ≤ (x2.length : Int)) && decide ((x2.length : Int) ≤ (x2.length : Int)) then
  none
  else
  none)
  w34
  else
  none
  else
  none
noncomputable def f19_sig (k : Nat) : Sig := ⟨[.val ty57, .val ty31, .val (.sl ty9)], [], [[.box ck68, .val (.int .i64)], [.nilp, .val (.int .i64)]], fun x => f19 k x.1 x.2.1 x.2.2.1⟩
noncomputable def E_f19 (k : Nat) : Env := ⟨Tryz.prog, G0, scons 58 [f58_sig k] (scons 57 [f57_sig k] (scons 56 [f56_sig k] (scons 55 [f55_sig k] (scons 14 [f14_sig k] (scons 11 [f11_sig k] (snil)))))), tcons 16 (l19_16_sig k) (tnil), tnil, unil, k, qnil⟩
theorem l19_16_ok (k : Nat) : LoopOK (E_f19 k) ⟨Tryz.f19.ntmps, [], G0⟩ (nthC 0 (loopsIn (Tryz.f19.body.getD .skip))) :=
  loop_ok (ls := l19_16_sig k) (by kernel_rfl) (fun _ => by kernel_rfl) (fun j x => by kernel_rfl)
theorem f19_run (k : Nat) (x : (lTy (lay 0 (f19_sig k).ins)).den) : runF (E_f19 k) Tryz.f19 (f19_sig k) x = (f19_sig k).F x := by kernel_rfl
theorem f19_ok (k : Nat) : FnOK Tryz.prog G0 19 (f19_sig k) :=
  fn_ok2 (E := E_f19 k) (env_cons (one_sig (f58_ok k)) (env_cons (one_sig (f57_ok k)) (env_cons (one_sig (f56_ok k)) (env_cons (one_sig (f55_ok k)) (env_cons (one_sig (f14_ok k)) (env_cons (one_sig (f11_ok k)) (env_nil))))))) (qenv_nil) mixed Tryz.func19 Tryz.call19 (by kernel_rfl) (by kernel_rfl) (m := 1) (by kernel_rfl) ⟨trivial, l19_16_ok k⟩ (sk := []) (by kernel_rfl) trivial (f19_run k)

noncomputable def l5_10 (k : Nat) : Nat → (ByteArray × Int × Int × (List (Int × Int × Int × (List (Int × Int × Int × Int × Unit)) × Unit)) × (List Int) × Bool × Bool × (List (Int × Int × Int × Bool × Unit)) × Int × Int × Int × Unit) → ((List (Int × Int × Unit)) × Int × Int × Unit) → (Int × Int × Int × Int × (Int × Int × Int × Unit) × Unit) → ((ByteArray × Int × Int × (List (Int × Int × Int × (List (Int × Int × Int × Int × Unit)) × Unit)) × (List Int) × Bool × Bool × (List (Int × Int × Int × Bool × Unit)) × Int × Int × Int × Unit) × ((List (Int × Int × Unit)) × Int × Int × Unit) × ((ByteArray × Int × Int × (List (Int × Int × Int × (List (Int × Int × Int × Int × Unit)) × Unit)) × (List Int) × Bool × Bool × (List (Int × Int × Int × Bool × Unit)) × Int × Int × Int × Unit) × (List ((List Int) × ((List Int) × (List Int) × Unit) × Int × Int × Unit)) × (List (Int × Int × Int × Unit)) × Unit) × ((List (Int × Int × Int × Unit)) × Int × Int × ((Int × Int × Unit) × (Int × Int × Unit) × (Int × Int × Unit) × Int × Int × Bool × Int × Unit) × ((Int × Int × Unit) × ((Int × Int × Unit) × (Int × Int × Unit) × Unit) × Unit) × (List (Int × (Int × Int × Int × Unit) × Unit)) × Unit) × Int × (List (ByteArray × Int × Unit)) × Unit) → (List (Int × Int × Int × Int × (Int × Int × Int × Unit) × Unit)) → Int → Int → Option (((ByteArray × Int × Int × (List (Int × Int × Int × (List (Int × Int × Int × Int × Unit)) × Unit)) × (List Int) × Bool × Bool × (List (Int × Int × Int × Bool × Unit)) × Int × Int × Int × Unit) × ((List (Int × Int × Unit)) × Int × Int × Unit) × (Int × Int × Int × Int × (Int × Int × Int × Unit) × Unit) × ((ByteArray × Int × Int × (List (Int × Int × Int × (List (Int × Int × Int × Int × Unit)) × Unit)) × (List Int) × Bool × Bool × (List (Int × Int × Int × Bool × Unit)) × Int × Int × Int × Unit) × ((List (Int × Int × Unit)) × Int × Int × Unit) × ((ByteArray × Int × Int × (List (Int × Int × Int × (List (Int × Int × Int × Int × Unit)) × Unit)) × (List Int) × Bool × Bool × (List (Int × Int × Int × Bool × Unit)) × Int × Int × Int × Unit) × (List ((List Int) × ((List Int) × (List Int) × Unit) × Int × Int × Unit)) × (List (Int × Int × Int × Unit)) × Unit) × ((List (Int × Int × Int × Unit)) × Int × Int × ((Int × Int × Unit) × (Int × Int × Unit) × (Int × Int × Unit) × Int × Int × Bool × Int × Unit) × ((Int × Int × Unit) × ((Int × Int × Unit) × (Int × Int × Unit) × Unit) × Unit) × (List (Int × (Int × Int × Int × Unit) × Unit)) × Unit) × Int × (List (ByteArray × Int × Unit)) × Unit) × Unit))
 | 0, _, _, _, _, _, _, _ => none
 | j + 1, s4, s5, s7, s9, s35, s36, s37 =>
  bif decide (s37 < s36) then
  bif decide (0 ≤ s37) && decide (s37 < (s35.length : Int)) then
  (f14 k s9 (rd ((0, 0, 0, 0, (0, 0, 0, ()), ()) : Int × Int × Int × Int × (Int × Int × Int × Unit) × Unit) s35 s37)).bind fun r1 =>
  l5_10 k j s4 s5 s7 r1.2.1 s35 s36 (w64 (s37 + 1))
  else
  none
  else
  some (s4, s5, s7, s9, ())
noncomputable def l5_10_sig (k : Nat) : LoopSig := ⟨[(4, .obj ck59), (5, .obj ck37), (7, .obj ck50), (9, .obj ck69), (35, .obj (.val (.sl ty44))), (36, .obj ck1), (37, .obj ck1)], [(.exit 0, [(4, .obj ck59), (5, .obj ck37), (7, .obj ck50), (9, .obj ck69)])], fun j x => l5_10 k j x.1 x.2.1 x.2.2.1 x.2.2.2.1 x.2.2.2.2.1 x.2.2.2.2.2.1 x.2.2.2.2.2.2.1⟩
noncomputable def f5 (k : Nat) (x0 : ByteArray × Int × Int × (List (Int × Int × Int × (List (Int × Int × Int × Int × Unit)) × Unit)) × (List Int) × Bool × Bool × (List (Int × Int × Int × Bool × Unit)) × Int × Int × Int × Unit) (x1 : (List (Int × Int × Unit)) × Int × Int × Unit) (x2 : List (Int × Int × Int × Int × (Int × Int × Int × Unit) × Unit)) (x3 : Int × Int × Int × Int × (Int × Int × Int × Unit) × Unit) : Option ((Bool × Unit)) :=
  (f9 k).bind fun r1 =>
  bif !r1.1 then
  some (false, ())
  else
  bif decide (0 ≤ (if 25 < (x2.length : Int) then 25 else (x2.length : Int))) && decide ((if 25 < (x2.length : Int) then 25 else (x2.length : Int)) ≤ (x2.length : Int)) then
  (f10 k x0).bind fun r2 =>
  bif r2.1 then
  some (true, ())
  else
  (f11 k x0 x1 0).bind fun w39 =>
  Sum.elim
  (fun y3 =>
  bif y3.2.1 != 0 then
  some (true, ())
  else
  (l5_10 k k x0 x1 x3 y3.1 (sliceOf x2 0 (if 25 < (x2.length : Int) then 25 else (x2.length : Int))) ((sliceOf x2 0 (if 25 < (x2.length : Int) then 25 else (x2.length : Int))).length : Int) 0).bind fun o4 =>
  (f13 k o4.2.2.2.1).bind fun r5 =>
  (f19 k o4.1 o4.2.1 r5.1).bind fun w40 =>
  Sum.elim
  (fun y6 =>
  bif y6.2.1 != 0 then
  some (false, ())
  else
  (f12 k r5.2.1).bind fun r7 =>
  (f12 k y6.1).bind fun r8 =>
  (f15 k r7.1 r8.1).bind fun r9 =>
  bif !r9.1 then
  some (false, ())
  else
  (f18 k r7.2.1).bind fun r10 =>
  (f18 k r8.2.1).bind fun r11 =>
  (f17 k r10.1 r11.1).bind fun r12 =>
  bif !r12.1 then
  some (false, ())
  else
  (f14 k r10.2.1 o4.2.2.1).bind fun r13 =>
  (f14 k r11.2.1 o4.2.2.1).bind fun r14 =>
  (f13 k r13.2.1).bind fun r15 =>
  (f13 k r14.2.1).bind fun r16 =>
  bif r13.1 == r14.1 then
  (f12 k r15.2.1).bind fun r17 =>
  (f12 k r16.2.1).bind fun r18 =>
  (f15 k r17.1 r18.1).bind fun r19 =>
  bif r19.1 then
  bif (r15.1.length : Int) == (r16.1.length : Int) then
  (f20 k r15.1 r16.1).bind fun r20 =>
  some r20
  else
  some (false, ())
  else
  some (false, ())
  else
  some (false, ()))
  (fun y21 =>
  bif y21.2.1 != 0 then
  some (false, ())
  else
  (f12 k r5.2.1).bind fun r22 =>
  none)
  w40)
  (fun y23 =>
  bif y23.2.1 != 0 then
  some (true, ())
  else
  none)
  w39
  else
  none
noncomputable def f5_sig (k : Nat) : Sig := ⟨[.val ty57, .val ty31, .val (.sl ty44), .val ty44], [], [[.val (.bool)]], fun x => f5 k x.1 x.2.1 x.2.2.1 x.2.2.2.1⟩
noncomputable def E_f5 (k : Nat) : Env := ⟨Tryz.prog, G0, scons 20 [f20_sig k] (scons 19 [f19_sig k] (scons 18 [f18_sig k] (scons 17 [f17_sig k] (scons 15 [f15_sig k] (scons 14 [f14_sig k] (scons 13 [f13_sig k] (scons 12 [f12_sig k] (scons 11 [f11_sig k] (scons 10 [f10_sig k] (scons 9 [f9_sig k] (snil))))))))))), tcons 10 (l5_10_sig k) (tnil), tnil, unil, k, qnil⟩
theorem l5_10_ok (k : Nat) : LoopOK (E_f5 k) ⟨Tryz.f5.ntmps, [], G0⟩ (nthC 0 (loopsIn (Tryz.f5.body.getD .skip))) :=
  loop_ok (ls := l5_10_sig k) (by kernel_rfl) (fun _ => by kernel_rfl) (fun j x => by kernel_rfl)
theorem f5_run (k : Nat) (x : (lTy (lay 0 (f5_sig k).ins)).den) : runF (E_f5 k) Tryz.f5 (f5_sig k) x = (f5_sig k).F x := by kernel_rfl
theorem f5_ok (k : Nat) : FnOK Tryz.prog G0 5 (f5_sig k) :=
  fn_ok2 (E := E_f5 k) (env_cons (one_sig (f20_ok k)) (env_cons (one_sig (f19_ok k)) (env_cons (one_sig (f18_ok k)) (env_cons (one_sig (f17_ok k)) (env_cons (one_sig (f15_ok k)) (env_cons (one_sig (f14_ok k)) (env_cons (one_sig (f13_ok k)) (env_cons (one_sig (f12_ok k)) (env_cons (one_sig (f11_ok k)) (env_cons (one_sig (f10_ok k)) (env_cons (one_sig (f9_ok k)) (env_nil)))))))))))) (qenv_nil) mixed Tryz.func5 Tryz.call5 (by kernel_rfl) (by kernel_rfl) (m := 1) (by kernel_rfl) ⟨trivial, l5_10_ok k⟩ (sk := []) (by kernel_rfl) trivial (f5_run k)
end Go.Proofs.YtpnbiakaknbofaaGreatDoor.G
