import Derived.Test.YtpnbiakaknbofaaGreatDoorGTopa
namespace Go.Proofs.YtpnbiakaknbofaaGreatDoor.G
open Go.VM Go.Proofs
open Go.Shelf in
open Go.Shelf in
open Go.Shelf in
noncomputable def f45 (k : Nat) (x0 : (Int×Int×Unit)×((Int×Int×Unit)×(Int×Int×Unit)×Unit)×Unit) (x1 : Int) (x2 : Int) (x3 : Int) : Option ((((Int×Int×Unit)×((Int×Int×Unit)×(Int×Int×Unit)×Unit)×Unit)×Int×Unit)) :=
  (f78 k x0 x1 x2 x3).bind fun r1 =>
  bif r1.1 != 0 then
  some (((0,0,()),((0,0,()),(0,0,()),()),()),r1)
  else
  bif x1 == 0 then
  bif x0.1.1 != (w64 (1 - x2)) then
  some (((0,0,()),((0,0,()),(0,0,()),()),()),10,())
  else
  bif x1 == 0 then
  some ((((-1),x0.1.2),x0.2),0,())
  else
  bif x1 == 1 then
  some (((x0.1.1,(-1),()),x0.2),0,())
  else
  none
  else
  bif x1 == 1 then
  bif x0.1.2.1 != (w64 (1 - x2)) then
  some (((0,0,()),((0,0,()),(0,0,()),()),()),10,())
  else
  bif x1 == 0 then
  some ((((-1),x0.1.2),x0.2),0,())
  else
  bif x1 == 1 then
  some (((x0.1.1,(-1),()),x0.2),0,())
  else
  none
  else
  none
noncomputable def f45_sig (k : Nat) : Sig := ⟨[.val ty66,.val (.int .i64),.val (.int .i64),.val (.int .i64)],[],[[.val ty66,.val (.int .i64)]],fun x => f45 k x.1 x.2.1 x.2.2.1 x.2.2.2.1⟩
noncomputable def E_f45 (k : Nat) : Env := ⟨Tryz.prog,G0,scons 78 [f78_sig k] (snil),tnil,tnil,unil,k,qnil,false⟩
theorem f45_run (k : Nat) (x : (lTy (lay 0 (f45_sig k).ins)).den) : runF (E_f45 k) Tryz.f45 (f45_sig k) x = (f45_sig k).F x := by kernel_rfl
theorem f45_ok [Dr] (k : Nat) : FnOK Tryz.prog G0 45 (f45_sig k) :=
  fn_ok2 (E := E_f45 k) (env_cons (one_sig (f78_ok k)) (env_nil)) (qenv_nil) mixed Tryz.func45 Tryz.call45 (by kernel_rfl) (by kernel_rfl) (m := 0) (by kernel_rfl) trivial (sk := []) (by kernel_rfl) trivial (f45_run k)
noncomputable def l184_2 (k : Nat) : Nat → Int → Int → (ByteArray×Int×Int×(List (Int×Int×Int×(List (Int×Int×Int×Int×Unit))×Unit))×(List Int)×Bool×Bool×(List (Int×Int×Int×Bool×Unit))×Int×Int×Int×Unit) → Int → Option ((Int×Int×Unit) ⊕ (Bool×Unit))
 | 0,_,_,_,_ => none
 | j + 1,s1,s2,s3,s7 =>
  bif decide (s7 < 6) then
  bif s1 == s2 then
  some (.inr (true,()))
  else
  bif decide (0 ≤ s1) && decide (s1 < (s3.2.2.2.1.length : Int)) then
  bif (rd ((0,0,0,[],()) : Int×Int×Int×(List (Int×Int×Int×Int×Unit))×Unit) s3.2.2.2.1 s1).2.2.1 == 0 then
  some (.inr (false,()))
  else
  bif decide (0 ≤ s1) && decide (s1 < (s3.2.2.2.1.length : Int)) then
  l184_2 k j (w64 ((rd ((0,0,0,[],()) : Int×Int×Int×(List (Int×Int×Int×Int×Unit))×Unit) s3.2.2.2.1 s1).2.2.1 - 1)) s2 s3 (w64 (s7 + 1))
  else
  none
  else
  none
  else
  some (.inl (s1,s2,()))
noncomputable def l184_2_sig (k : Nat) : LoopSig := ⟨[(1,.obj ck1),(2,.obj ck1),(3,.obj ck75),(7,.obj ck1)],[(.exit 0,[(1,.obj ck1),(2,.obj ck1)]),(.ret,[(6,.obj (.val (.bool)))])],fun j x => l184_2 k j x.1 x.2.1 x.2.2.1 x.2.2.2.1⟩
noncomputable def f184 (k : Nat) (x0 : ByteArray×Int×Int×(List (Int×Int×Int×(List (Int×Int×Int×Int×Unit))×Unit))×(List Int)×Bool×Bool×(List (Int×Int×Int×Bool×Unit))×Int×Int×Int×Unit) (x1 : Int) (x2 : Int) : Option ((Bool×Unit)) :=
  (l184_2 k k x1 x2 x0 0).bind fun q30 =>
  Sum.elim
  (fun y1 =>
  some (y1.1 == y1.2.1,()))
  (fun y2 =>
  some y2)
  q30
noncomputable def f184_sig (k : Nat) : Sig := ⟨[.val ty73,.val (.int .i64),.val (.int .i64)],[],[[.val (.bool)]],fun x => f184 k x.1 x.2.1 x.2.2.1⟩
noncomputable def E_f184 (k : Nat) : Env := ⟨Tryz.prog,G0,snil,tcons 2 (l184_2_sig k) (tnil),tnil,unil,k,qnil,false⟩
theorem l184_2_ok (k : Nat) : LoopOK (E_f184 k) ⟨Tryz.f184.ntmps,[],G0⟩ (nthC 0 (loopsIn (Tryz.f184.body.getD .skip))) :=
  loop_ok (ls := l184_2_sig k) (by kernel_rfl) (fun _ => by kernel_rfl) (fun j x => by kernel_rfl)
theorem f184_run (k : Nat) (x : (lTy (lay 0 (f184_sig k).ins)).den) : runF (E_f184 k) Tryz.f184 (f184_sig k) x = (f184_sig k).F x := by kernel_rfl
theorem f184_ok [Dr] (k : Nat) : FnOK Tryz.prog G0 184 (f184_sig k) :=
  fn_ok2 (E := E_f184 k) (env_nil) (qenv_nil) mixed Tryz.func184 Tryz.call184 (by kernel_rfl) (by kernel_rfl) (m := 1) (by kernel_rfl) ⟨trivial,l184_2_ok k⟩ (sk := []) (by kernel_rfl) trivial (f184_run k)
noncomputable def l183_4 (k : Nat) : Nat → Int → Int → (ByteArray×Int×Int×(List (Int×Int×Int×(List (Int×Int×Int×Int×Unit))×Unit))×(List Int)×Bool×Bool×(List (Int×Int×Int×Bool×Unit))×Int×Int×Int×Unit) → Int → Int → Bool → (List (Int×Int×Int×Int×Unit)) → Int → Int → Option ((Int×(ByteArray×Int×Int×(List (Int×Int×Int×(List (Int×Int×Int×Int×Unit))×Unit))×(List Int)×Bool×Bool×(List (Int×Int×Int×Bool×Unit))×Int×Int×Int×Unit)×Int×Int×Bool×Unit))
 | 0,_,_,_,_,_,_,_,_,_ => none
 | j + 1,s1,s2,s3,s4,s5,s6,s26,s27,s28 =>
  bif decide (s28 < s27) then
  bif decide (0 ≤ s28) && decide (s28 < (s26.length : Int)) then
  bif s6 then
  l183_4 k j s1 s2 s3 s4 s5 true s26 s27 (w64 (s28 + 1))
  else
  bif decide (s1 > 0) then
  l183_4 k j s1 s2 s3 s4 s5 ((rd ((0,0,0,0,()) : Int×Int×Int×Int×Unit) s26 s28).2.2.2.1 != 0) s26 s27 (w64 (s28 + 1))
  else
  l183_4 k j s1 s2 s3 s4 s5 false s26 s27 (w64 (s28 + 1))
  else
  none
  else
  some (s2,s3,s4,s5,s6,())
noncomputable def l183_4_sig (k : Nat) : LoopSig := ⟨[(1,.obj ck1),(2,.obj ck8),(3,.obj ck75),(4,.obj ck8),(5,.obj ck8),(6,.obj ck5),(26,.obj (.val (.sl ty29))),(27,.obj ck1),(28,.obj ck1)],[(.exit 0,[(2,.obj ck8),(3,.obj ck75),(4,.obj ck8),(5,.obj ck8),(6,.obj ck5)])],fun j x => l183_4 k j x.1 x.2.1 x.2.2.1 x.2.2.2.1 x.2.2.2.2.1 x.2.2.2.2.2.1 x.2.2.2.2.2.2.1 x.2.2.2.2.2.2.2.1 x.2.2.2.2.2.2.2.2.1⟩
noncomputable def f183 (k : Nat) (x0 : Int) (x1 : Int) (x2 : Int) (x3 : ByteArray×Int×Int×(List (Int×Int×Int×(List (Int×Int×Int×Int×Unit))×Unit))×(List Int)×Bool×Bool×(List (Int×Int×Int×Bool×Unit))×Int×Int×Int×Unit) (x4 : Int) (x5 : Int) (x6 : Bool) : Option ((Int×(ByteArray×Int×Int×(List (Int×Int×Int×(List (Int×Int×Int×Int×Unit))×Unit))×(List Int)×Bool×Bool×(List (Int×Int×Int×Bool×Unit))×Int×Int×Int×Unit)×Int×Int×Bool×Unit)) :=
  (f184 k x3 x0 x4).bind fun r1 =>
  bif r1.1 then
  bif decide (0 ≤ x0) && decide (x0 < (x3.2.2.2.1.length : Int)) then
  (l183_4 k k x1 (w64 (x2 + x1)) x3 x4 (w64 (x5 + x1)) x6 (rd ((0,0,0,[],()) : Int×Int×Int×(List (Int×Int×Int×Int×Unit))×Unit) x3.2.2.2.1 x0).2.2.2.1 ((rd ((0,0,0,[],()) : Int×Int×Int×(List (Int×Int×Int×Int×Unit))×Unit) x3.2.2.2.1 x0).2.2.2.1.length : Int) 0).bind fun o2 =>
  some o2
  else
  none
  else
  bif decide (0 ≤ x0) && decide (x0 < (x3.2.2.2.1.length : Int)) then
  (l183_4 k k x1 (w64 (x2 + x1)) x3 x4 x5 x6 (rd ((0,0,0,[],()) : Int×Int×Int×(List (Int×Int×Int×Int×Unit))×Unit) x3.2.2.2.1 x0).2.2.2.1 ((rd ((0,0,0,[],()) : Int×Int×Int×(List (Int×Int×Int×Int×Unit))×Unit) x3.2.2.2.1 x0).2.2.2.1.length : Int) 0).bind fun o3 =>
  some o3
  else
  none
noncomputable def f183_sig (k : Nat) : Sig := ⟨[.val (.int .i64),.val (.int .i64),.box 3 ck1,.box 26 (.val ty73),.box 3 ck1,.box 3 ck1,.box 4 (.val (.bool))],[2,3,4,5,6],[[.box 3 ck1,.box 26 (.val ty73),.box 3 ck1,.box 3 ck1,.box 4 (.val (.bool))]],fun x => f183 k x.1 x.2.1 x.2.2.1 x.2.2.2.1 x.2.2.2.2.1 x.2.2.2.2.2.1 x.2.2.2.2.2.2.1⟩
noncomputable def E_f183 (k : Nat) : Env := ⟨Tryz.prog,G0,scons 184 [f184_sig k] (snil),tcons 4 (l183_4_sig k) (tnil),tnil,unil,k,qnil,false⟩
theorem l183_4_ok (k : Nat) : LoopOK (E_f183 k) ⟨Tryz.f183.ntmps,[2,3,4,5,6],G0⟩ (nthC 0 (loopsIn (Tryz.f183.body.getD .skip))) :=
  loop_ok (ls := l183_4_sig k) (by kernel_rfl) (fun _ => by kernel_rfl) (fun j x => by kernel_rfl)
theorem f183_run (k : Nat) (x : (lTy (lay 0 (f183_sig k).ins)).den) : runF (E_f183 k) Tryz.f183 (f183_sig k) x = (f183_sig k).F x := by kernel_rfl
theorem f183_ok [Dr] (k : Nat) : FnOK Tryz.prog G0 183 (f183_sig k) :=
  fn_ok2 (E := E_f183 k) (env_cons (one_sig (f184_ok k)) (env_nil)) (qenv_nil) mixed Tryz.func183 Tryz.call183 (by kernel_rfl) (by kernel_rfl) (m := 1) (by kernel_rfl) ⟨trivial,l183_4_ok k⟩ (sk := []) (by kernel_rfl) trivial (f183_run k)
noncomputable def l150_4 (k : Nat) : Nat → Int → (ByteArray×Int×Int×(List (Int×Int×Int×(List (Int×Int×Int×Int×Unit))×Unit))×(List Int)×Bool×Bool×(List (Int×Int×Int×Bool×Unit))×Int×Int×Int×Unit) → ((List Int)×((List Int)×(List Int)×Unit)×Int×Int×Unit) → Int → Int → Int → Bool → Unit → (List Int) → Int → Int → Option ((Int×(ByteArray×Int×Int×(List (Int×Int×Int×(List (Int×Int×Int×Int×Unit))×Unit))×(List Int)×Bool×Bool×(List (Int×Int×Int×Bool×Unit))×Int×Int×Int×Unit)×((List Int)×((List Int)×(List Int)×Unit)×Int×Int×Unit)×Int×Int×Int×Bool×Unit×Unit))
 | 0,_,_,_,_,_,_,_,_,_,_,_ => none
 | j + 1,s2,s4,s5,s7,s11,s12,s13,s14,s21,s22,s23 =>
  bif decide (s23 < s22) then
  bif decide (0 ≤ s23) && decide (s23 < (s21.length : Int)) then
  (f109 k (rd (0 : Int) s21 s23)).bind fun r1 =>
  bif r1.1 == s2 then
  (f110 k (rd (0 : Int) s21 s23)).bind fun r2 =>
  (f183 k r2.1 1 s11 s4 s7 s12 s13).bind fun r3 =>
  l150_4 k j s2 r3.2.1 s5 r3.2.2.1 r3.1 r3.2.2.2.1 r3.2.2.2.2.1 () s21 s22 (w64 (s23 + 1))
  else
  l150_4 k j s2 s4 s5 s7 s11 s12 s13 () s21 s22 (w64 (s23 + 1))
  else
  none
  else
  some (s2,s4,s5,s7,s11,s12,s13,(),())
noncomputable def l150_4_sig (k : Nat) : LoopSig := ⟨[(2,.obj ck1),(4,.obj ck75),(5,.obj ck53),(7,.obj ck8),(11,.obj ck8),(12,.obj ck8),(13,.obj ck5),(14,.cs 183 [11,4,7,12,13]),(21,.obj ck6),(22,.obj ck1),(23,.obj ck1)],[(.exit 0,[(2,.obj ck1),(4,.obj ck75),(5,.obj ck53),(7,.obj ck8),(11,.obj ck8),(12,.obj ck8),(13,.obj ck5),(14,.cs 183 [11,4,7,12,13])])],fun j x => l150_4 k j x.1 x.2.1 x.2.2.1 x.2.2.2.1 x.2.2.2.2.1 x.2.2.2.2.2.1 x.2.2.2.2.2.2.1 x.2.2.2.2.2.2.2.1 x.2.2.2.2.2.2.2.2.1 x.2.2.2.2.2.2.2.2.2.1 x.2.2.2.2.2.2.2.2.2.2.1⟩
noncomputable def l150_10 (k : Nat) : Nat → (ByteArray×Int×Int×(List (Int×Int×Int×(List (Int×Int×Int×Int×Unit))×Unit))×(List Int)×Bool×Bool×(List (Int×Int×Int×Bool×Unit))×Int×Int×Int×Unit) → Int → Int → Int → Bool → Unit → (List Int) → Int → Int → Option ((Int×Int×Bool×Unit))
 | 0,_,_,_,_,_,_,_,_,_ => none
 | j + 1,s4,s7,s11,s12,s13,s14,s39,s40,s41 =>
  bif decide (s41 < s40) then
  bif decide (0 ≤ s41) && decide (s41 < (s39.length : Int)) then
  (f183 k s41 (rd (0 : Int) s39 s41) s11 s4 s7 s12 s13).bind fun r1 =>
  l150_10 k j r1.2.1 r1.2.2.1 r1.1 r1.2.2.2.1 r1.2.2.2.2.1 () s39 s40 (w64 (s41 + 1))
  else
  none
  else
  some (s11,s12,s13,())
noncomputable def l150_10_sig (k : Nat) : LoopSig := ⟨[(4,.obj ck75),(7,.obj ck8),(11,.obj ck8),(12,.obj ck8),(13,.obj ck5),(14,.cs 183 [11,4,7,12,13]),(39,.obj ck6),(40,.obj ck1),(41,.obj ck1)],[(.exit 2,[(11,.obj ck8),(12,.obj ck8),(13,.obj ck5)])],fun j x => l150_10 k j x.1 x.2.1 x.2.2.1 x.2.2.2.1 x.2.2.2.2.1 x.2.2.2.2.2.1 x.2.2.2.2.2.2.1 x.2.2.2.2.2.2.2.1 x.2.2.2.2.2.2.2.2.1⟩
noncomputable def f150 (k : Nat) (x0 : ByteArray×Int×Int×(List (Int×Int×Int×(List (Int×Int×Int×Int×Unit))×Unit))×(List Int)×Bool×Bool×(List (Int×Int×Int×Bool×Unit))×Int×Int×Int×Unit) (x1 : (List Int)×((List Int)×(List Int)×Unit)×Int×Int×Unit) (x2 : Int) (x3 : Int) : Option ((Int×Int×Bool×Unit)) :=
  (l150_4 k k x2 x0 x1 x3 0 0 false () x1.1 (x1.1.length : Int) 0).bind fun o1 =>
  bif o1.1 == 0 then
  (l150_10 k k o1.2.1 o1.2.2.2.1 o1.2.2.2.2.1 o1.2.2.2.2.2.1 o1.2.2.2.2.2.2.1 () o1.2.2.1.2.1.1 (o1.2.2.1.2.1.1.length : Int) 0).bind fun o2 =>
  some o2
  else
  bif o1.1 == 1 then
  (l150_10 k k o1.2.1 o1.2.2.2.1 o1.2.2.2.2.1 o1.2.2.2.2.2.1 o1.2.2.2.2.2.2.1 () o1.2.2.1.2.1.2.1 (o1.2.2.1.2.1.2.1.length : Int) 0).bind fun o3 =>
  some o3
  else
  none
noncomputable def f150_sig (k : Nat) : Sig := ⟨[.val ty73,.val ty49,.val (.int .i64),.val (.int .i64)],[],[[.val (.int .i64),.val (.int .i64),.val (.bool)]],fun x => f150 k x.1 x.2.1 x.2.2.1 x.2.2.2.1⟩
noncomputable def E_f150 (k : Nat) : Env := ⟨Tryz.prog,G0,scons 183 [f183_sig k] (scons 110 [f110_sig k] (scons 109 [f109_sig k] (snil))),tcons 10 (l150_10_sig k) (tcons 4 (l150_4_sig k) (tnil)),tnil,unil,k,qnil,false⟩
theorem l150_4_ok (k : Nat) : LoopOK (E_f150 k) ⟨Tryz.f150.ntmps,[],G0⟩ (nthC 0 (loopsIn (Tryz.f150.body.getD .skip))) :=
  loop_ok (ls := l150_4_sig k) (by kernel_rfl) (fun _ => by kernel_rfl) (fun j x => by kernel_rfl)
theorem l150_10_ok (k : Nat) : LoopOK (E_f150 k) ⟨Tryz.f150.ntmps,[],G0⟩ (nthC 1 (loopsIn (Tryz.f150.body.getD .skip))) :=
  loop_ok (ls := l150_10_sig k) (by kernel_rfl) (fun _ => by kernel_rfl) (fun j x => by kernel_rfl)
theorem f150_run (k : Nat) (x : (lTy (lay 0 (f150_sig k).ins)).den) : runF (E_f150 k) Tryz.f150 (f150_sig k) x = (f150_sig k).F x := by kernel_rfl
theorem f150_ok [Dr] (k : Nat) : FnOK Tryz.prog G0 150 (f150_sig k) :=
  fn_ok2 (E := E_f150 k) (env_cons (one_sig (f183_ok k)) (env_cons (one_sig (f110_ok k)) (env_cons (one_sig (f109_ok k)) (env_nil)))) (qenv_nil) mixed Tryz.func150 Tryz.call150 (by kernel_rfl) (by kernel_rfl) (m := 2) (by kernel_rfl) ⟨⟨trivial,l150_4_ok k⟩,l150_10_ok k⟩ (sk := []) (by kernel_rfl) trivial (f150_run k)
noncomputable def l124_9 (k : Nat) : Nat → Int → (ByteArray×Int×Int×(List (Int×Int×Int×(List (Int×Int×Int×Int×Unit))×Unit))×(List Int)×Bool×Bool×(List (Int×Int×Int×Bool×Unit))×Int×Int×Int×Unit) → ((List Int)×((List Int)×(List Int)×Unit)×Int×Int×Unit) → (List (Int×Int×Int×Bool×Unit)) → Int → Int → Option (Unit ⊕ (Bool×Int×Unit))
 | 0,_,_,_,_,_,_ => none
 | j + 1,s2,s3,s4,s30,s31,s32 =>
  bif decide (s32 < s31) then
  bif decide (0 ≤ s32) && decide (s32 < (s30.length : Int)) then
  (f150 k s3 s4 s2 (rd ((0,0,0,false,()) : Int×Int×Int×Bool×Unit) s30 s32).2.1).bind fun r1 =>
  bif (rd ((0,0,0,false,()) : Int×Int×Int×Bool×Unit) s30 s32).2.2.2.1 then
  some (.inr (true,0,()))
  else
  bif (rd ((0,0,0,false,()) : Int×Int×Int×Bool×Unit) s30 s32).1 == 2 then
  some (.inr (true,0,()))
  else
  bif (rd ((0,0,0,false,()) : Int×Int×Int×Bool×Unit) s30 s32).1 == 0 then
  bif decide (r1.1 ≥ (rd ((0,0,0,false,()) : Int×Int×Int×Bool×Unit) s30 s32).2.2.1) then
  some (.inr (true,0,()))
  else
  bif s3.2.2.2.2.2.2.1 then
  bif r1.2.2.1 then
  some (.inr (true,0,()))
  else
  bif (rd ((0,0,0,false,()) : Int×Int×Int×Bool×Unit) s30 s32).1 == 1 then
  bif decide (r1.2.1 > 0) then
  some (.inr (true,0,()))
  else
  bif s3.2.2.2.2.2.2.1 then
  bif r1.2.2.1 then
  some (.inr (true,0,()))
  else
  l124_9 k j s2 s3 s4 s30 s31 (w64 (s32 + 1))
  else
  l124_9 k j s2 s3 s4 s30 s31 (w64 (s32 + 1))
  else
  l124_9 k j s2 s3 s4 s30 s31 (w64 (s32 + 1))
  else
  bif (rd ((0,0,0,false,()) : Int×Int×Int×Bool×Unit) s30 s32).1 == 1 then
  bif decide (r1.2.1 > 0) then
  some (.inr (true,0,()))
  else
  bif s3.2.2.2.2.2.2.1 then
  bif r1.2.2.1 then
  some (.inr (true,0,()))
  else
  l124_9 k j s2 s3 s4 s30 s31 (w64 (s32 + 1))
  else
  l124_9 k j s2 s3 s4 s30 s31 (w64 (s32 + 1))
  else
  l124_9 k j s2 s3 s4 s30 s31 (w64 (s32 + 1))
  else
  bif (rd ((0,0,0,false,()) : Int×Int×Int×Bool×Unit) s30 s32).1 == 1 then
  bif decide (r1.2.1 > 0) then
  some (.inr (true,0,()))
  else
  bif s3.2.2.2.2.2.2.1 then
  bif r1.2.2.1 then
  some (.inr (true,0,()))
  else
  l124_9 k j s2 s3 s4 s30 s31 (w64 (s32 + 1))
  else
  l124_9 k j s2 s3 s4 s30 s31 (w64 (s32 + 1))
  else
  l124_9 k j s2 s3 s4 s30 s31 (w64 (s32 + 1))
  else
  none
  else
  some (.inl ())
noncomputable def l124_9_sig (k : Nat) : LoopSig := ⟨[(2,.obj ck1),(3,.obj ck75),(4,.obj ck53),(30,.obj ck33),(31,.obj ck1),(32,.obj ck1)],[(.exit 0,[]),(.ret,[(6,.obj (.val (.bool))),(7,.obj ck1)])],fun j x => l124_9 k j x.1 x.2.1 x.2.2.1 x.2.2.2.1 x.2.2.2.2.1 x.2.2.2.2.2.1⟩
noncomputable def f124 (k : Nat) (x0 : ByteArray×Int×Int×(List (Int×Int×Int×(List (Int×Int×Int×Int×Unit))×Unit))×(List Int)×Bool×Bool×(List (Int×Int×Int×Bool×Unit))×Int×Int×Int×Unit) (x1 : (List Int)×((List Int)×(List Int)×Unit)×Int×Int×Unit) (x2 : Int) : Option ((Bool×Int×Unit)) :=
  (f117 k x0 x1).bind fun r1 =>
  bif r1.1 != 0 then
  some (false,r1)
  else
  bif decide (x2 < 0) then
  some (false,1,())
  else
  bif decide (x2 > 1) then
  some (false,1,())
  else
  bif x0.2.2.2.2.2.2.2.2.1 != 2 then
  some (true,0,())
  else
  (l124_9 k k x2 x0 x1 x0.2.2.2.2.2.2.2.1 (x0.2.2.2.2.2.2.2.1.length : Int) 0).bind fun q31 =>
  Sum.elim
  (fun y2 =>
  some (false,0,()))
  (fun y3 =>
  some y3)
  q31
noncomputable def f124_sig (k : Nat) : Sig := ⟨[.val ty73,.val ty49,.val (.int .i64)],[],[[.val (.bool),.val (.int .i64)]],fun x => f124 k x.1 x.2.1 x.2.2.1⟩
noncomputable def E_f124 (k : Nat) : Env := ⟨Tryz.prog,G0,scons 150 [f150_sig k] (scons 117 [f117_sig k] (snil)),tcons 9 (l124_9_sig k) (tnil),tnil,unil,k,qnil,false⟩
theorem l124_9_ok (k : Nat) : LoopOK (E_f124 k) ⟨Tryz.f124.ntmps,[],G0⟩ (nthC 0 (loopsIn (Tryz.f124.body.getD .skip))) :=
  loop_ok (ls := l124_9_sig k) (by kernel_rfl) (fun _ => by kernel_rfl) (fun j x => by kernel_rfl)
theorem f124_run (k : Nat) (x : (lTy (lay 0 (f124_sig k).ins)).den) : runF (E_f124 k) Tryz.f124 (f124_sig k) x = (f124_sig k).F x := by kernel_rfl
theorem f124_ok [Dr] (k : Nat) : FnOK Tryz.prog G0 124 (f124_sig k) :=
  fn_ok2 (E := E_f124 k) (env_cons (one_sig (f150_ok k)) (env_cons (one_sig (f117_ok k)) (env_nil))) (qenv_nil) mixed Tryz.func124 Tryz.call124 (by kernel_rfl) (by kernel_rfl) (m := 1) (by kernel_rfl) ⟨trivial,l124_9_ok k⟩ (sk := []) (by kernel_rfl) trivial (f124_run k)
noncomputable def f83 (k : Nat) (x0 : ByteArray×Int×Int×(List (Int×Int×Int×(List (Int×Int×Int×Int×Unit))×Unit))×(List Int)×Bool×Bool×(List (Int×Int×Int×Bool×Unit))×Int×Int×Int×Unit) (x1 : (List Int)×((List Int)×(List Int)×Unit)×Int×Int×Unit) (x2 : Int) : Option ((Int×Int×Unit)) :=
  (f124 k x0 x1 (w64 (1 - x2))).bind fun r1 =>
  bif r1.2.1 != 0 then
  some (0,r1.2)
  else
  bif !r1.1 then
  some (3,0,())
  else
  some (w64 (2 - x2),0,())
noncomputable def f83_sig (k : Nat) : Sig := ⟨[.val ty73,.val ty49,.val (.int .i64)],[],[[.val (.int .i64),.val (.int .i64)]],fun x => f83 k x.1 x.2.1 x.2.2.1⟩
noncomputable def E_f83 (k : Nat) : Env := ⟨Tryz.prog,G0,scons 124 [f124_sig k] (snil),tnil,tnil,unil,k,qnil,false⟩
theorem f83_run (k : Nat) (x : (lTy (lay 0 (f83_sig k).ins)).den) : runF (E_f83 k) Tryz.f83 (f83_sig k) x = (f83_sig k).F x := by kernel_rfl
theorem f83_ok [Dr] (k : Nat) : FnOK Tryz.prog G0 83 (f83_sig k) :=
  fn_ok2 (E := E_f83 k) (env_cons (one_sig (f124_ok k)) (env_nil)) (qenv_nil) mixed Tryz.func83 Tryz.call83 (by kernel_rfl) (by kernel_rfl) (m := 0) (by kernel_rfl) trivial (sk := []) (by kernel_rfl) trivial (f83_run k)
noncomputable def f46 (k : Nat) (x0 : (ByteArray×Int×Int×(List (Int×Int×Int×(List (Int×Int×Int×Int×Unit))×Unit))×(List Int)×Bool×Bool×(List (Int×Int×Int×Bool×Unit))×Int×Int×Int×Unit)×((List (Int×Int×Unit))×Int×Int×Unit)×((ByteArray×Int×Int×(List (Int×Int×Int×(List (Int×Int×Int×Int×Unit))×Unit))×(List Int)×Bool×Bool×(List (Int×Int×Int×Bool×Unit))×Int×Int×Int×Unit)×(List ((List Int)×((List Int)×(List Int)×Unit)×Int×Int×Unit))×(List (Int×Int×Int×Unit))×Unit)×((List (Int×Int×Int×Unit))×Int×Int×((Int×Int×Unit)×(Int×Int×Unit)×(Int×Int×Unit)×Int×Int×Bool×Int×Unit)×((Int×Int×Unit)×((Int×Int×Unit)×(Int×Int×Unit)×Unit)×Unit)×(List (Int×(Int×Int×Int×Unit)×Unit))×Unit)×Int×(List (ByteArray×Int×Unit))×Unit) (x1 : (List (Int×Int×Int×Unit))×Int×Int×((Int×Int×Unit)×(Int×Int×Unit)×(Int×Int×Unit)×Int×Int×Bool×Int×Unit)×((Int×Int×Unit)×((Int×Int×Unit)×(Int×Int×Unit)×Unit)×Unit)×(List (Int×(Int×Int×Int×Unit)×Unit))×Unit) (x2 : Int×Int×Int×Int×(Int×Int×Int×Unit)×Unit) : Option ((Int×((ByteArray×Int×Int×(List (Int×Int×Int×(List (Int×Int×Int×Int×Unit))×Unit))×(List Int)×Bool×Bool×(List (Int×Int×Int×Bool×Unit))×Int×Int×Int×Unit)×((List (Int×Int×Unit))×Int×Int×Unit)×((ByteArray×Int×Int×(List (Int×Int×Int×(List (Int×Int×Int×Int×Unit))×Unit))×(List Int)×Bool×Bool×(List (Int×Int×Int×Bool×Unit))×Int×Int×Int×Unit)×(List ((List Int)×((List Int)×(List Int)×Unit)×Int×Int×Unit))×(List (Int×Int×Int×Unit))×Unit)×((List (Int×Int×Int×Unit))×Int×Int×((Int×Int×Unit)×(Int×Int×Unit)×(Int×Int×Unit)×Int×Int×Bool×Int×Unit)×((Int×Int×Unit)×((Int×Int×Unit)×(Int×Int×Unit)×Unit)×Unit)×(List (Int×(Int×Int×Int×Unit)×Unit))×Unit)×Int×(List (ByteArray×Int×Unit))×Unit)×((List (Int×Int×Int×Unit))×Int×Int×((Int×Int×Unit)×(Int×Int×Unit)×(Int×Int×Unit)×Int×Int×Bool×Int×Unit)×((Int×Int×Unit)×((Int×Int×Unit)×(Int×Int×Unit)×Unit)×Unit)×(List (Int×(Int×Int×Int×Unit)×Unit))×Unit)×Unit)) :=
  bif x2.2.2.1 == 2 then
  (f60 k x0.2.1 x1.2.2.2.1 x2.2.2.2.1).bind fun r1 =>
  bif decide (r1.1.2.2.2.2.2.2.1 < 0) then
  some (10,x0,x1,())
  else
  (f52 k x0.2.2.1).bind fun r2 =>
  (f83 k x0.1 r2.1 r1.1.2.2.2.2.2.2.1).bind fun r3 =>
  bif r3.2.1 != 0 then
  some (r3.2.1,x0,x1,())
  else
  some (0,x0,(x1.1,r3.1,2,r1.1,x1.2.2.2.2),())
  else
  bif x2.2.2.1 != 0 then
  bif x2.2.2.1 != 1 then
  some (1,x0,x1,())
  else
  (f47 k x0).bind fun r4 =>
  bif x2.2.1 != r4.1 then
  some (12,r4.2.1,x1,())
  else
  bif x2.2.2.1 == 0 then
  (f84 k r4.2.1.2.2.1).bind fun r5 =>
  bif decide (r5.1 < 3) then
  some (10,r4.2.1,x1,())
  else
  bif x2.2.2.1 == 1 then
  (f52 k r4.2.1.2.2.1).bind fun r6 =>
  bif decide (r6.1.2.2.2.1 < 20) then
  some (10,r4.2.1,x1,())
  else
  some (0,r4.2.1,(x1.1,3,5,x1.2.2.2),())
  else
  some (0,r4.2.1,(x1.1,3,5,x1.2.2.2),())
  else
  bif x2.2.2.1 == 1 then
  (f52 k r4.2.1.2.2.1).bind fun r7 =>
  bif decide (r7.1.2.2.2.1 < 20) then
  some (10,r4.2.1,x1,())
  else
  some (0,r4.2.1,(x1.1,3,5,x1.2.2.2),())
  else
  some (0,r4.2.1,(x1.1,3,5,x1.2.2.2),())
  else
  (f47 k x0).bind fun r8 =>
  bif x2.2.1 != r8.1 then
  some (12,r8.2.1,x1,())
  else
  bif x2.2.2.1 == 0 then
  (f84 k r8.2.1.2.2.1).bind fun r9 =>
  bif decide (r9.1 < 3) then
  some (10,r8.2.1,x1,())
  else
  bif x2.2.2.1 == 1 then
  (f52 k r8.2.1.2.2.1).bind fun r10 =>
  bif decide (r10.1.2.2.2.1 < 20) then
  some (10,r8.2.1,x1,())
  else
  some (0,r8.2.1,(x1.1,3,5,x1.2.2.2),())
  else
  some (0,r8.2.1,(x1.1,3,5,x1.2.2.2),())
  else
  bif x2.2.2.1 == 1 then
  (f52 k r8.2.1.2.2.1).bind fun r11 =>
  bif decide (r11.1.2.2.2.1 < 20) then
  some (10,r8.2.1,x1,())
  else
  some (0,r8.2.1,(x1.1,3,5,x1.2.2.2),())
  else
  some (0,r8.2.1,(x1.1,3,5,x1.2.2.2),())
noncomputable def f46_sig (k : Nat) : Sig := ⟨[.box 89 ck87,.box 50 ck80,.val ty56],[0,1],[[.val (.int .i64),.box 89 ck87,.box 50 ck80]],fun x => f46 k x.1 x.2.1 x.2.2.1⟩
noncomputable def E_f46 (k : Nat) : Env := ⟨Tryz.prog,G0,scons 83 [f83_sig k] (scons 60 [f60_sig k] (scons 47 [f47_sig k] (snil))),tnil,tnil,unil,k,qcons 84 (f84_q k) (qcons 52 (f52_q k) (qnil)),false⟩
theorem f46_run (k : Nat) (x : (lTy (lay 0 (f46_sig k).ins)).den) : runF (E_f46 k) Tryz.f46 (f46_sig k) x = (f46_sig k).F x := by kernel_rfl
theorem f46_ok [Dr] (k : Nat) : FnOK Tryz.prog G0 46 (f46_sig k) :=
  fn_ok2 (E := E_f46 k) (env_cons (one_sig (f83_ok k)) (env_cons (one_sig (f60_ok k)) (env_cons (one_sig (f47_ok k)) (env_nil)))) (qenv_cons (f84_qok k) (qenv_cons (f52_qok k) (qenv_nil))) mixed Tryz.func46 Tryz.call46 (by kernel_rfl) (by kernel_rfl) (m := 0) (by kernel_rfl) trivial (sk := []) (by kernel_rfl) trivial (f46_run k)
noncomputable def f48 (k : Nat) (x0 : List (Int×(Int×Int×Int×Unit)×Unit)) (x1 : Int) (x2 : Int×Int×Int×Unit) : Option (((List (Int×(Int×Int×Int×Unit)×Unit))×Int×Unit)) :=
  (f85 k x0).bind fun r1 =>
  bif r1.1 != 0 then
  some ([],r1)
  else
  bif decide (x1 < 0) then
  some ([],1,())
  else
  bif decide (x1 > 1) then
  some ([],1,())
  else
  (f86 k x0 x1).bind fun r2 =>
  bif (r2.1.length : Int) == 4 then
  some ([],9,())
  else
  (f39 k x0).bind fun r3 =>
  bif decide ((r3.1.length + ([(x1,x2,())] : List (Int×(Int×Int×Int×Unit)×Unit)).length) * 32 ≤ roomN) then
  some (r3.1 ++ [(x1,x2,())],0,())
  else
  none
noncomputable def f48_sig (k : Nat) : Sig := ⟨[.val ty38,.val (.int .i64),.val ty23],[],[[.row ty36,.val (.int .i64)]],fun x => f48 k x.1 x.2.1 x.2.2.1⟩
noncomputable def E_f48 (k : Nat) : Env := ⟨Tryz.prog,G0,scons 86 [f86_sig k] (scons 85 [f85_sig k] (scons 39 [f39_sig k] (snil))),tnil,tnil,unil,k,qnil,false⟩
theorem f48_run (k : Nat) (x : (lTy (lay 0 (f48_sig k).ins)).den) : runF (E_f48 k) Tryz.f48 (f48_sig k) x = (f48_sig k).F x := by kernel_rfl
theorem f48_ok [Dr] (k : Nat) : FnOK Tryz.prog G0 48 (f48_sig k) :=
  fn_ok2 (E := E_f48 k) (env_cons (one_sig (f86_ok k)) (env_cons (one_sig (f85_ok k)) (env_cons (one_sig (f39_ok k)) (env_nil)))) (qenv_nil) mixed Tryz.func48 Tryz.call48 (by kernel_rfl) (by kernel_rfl) (m := 0) (by kernel_rfl) trivial (sk := []) (by kernel_rfl) trivial (f48_run k)
open Go.Shelf in
def indexL_ren : Go.Shelf.Ren := ⟨fun | 137 => 193 | 217 => 206 | 266 => 215 | n => n,fun | 9 => 9 | 5 => 5 | 3 => 3 | n => n,fun | n => n⟩
open Go.Shelf in
theorem indexL : Go.Proofs.Lays.n137 Tryz.prog indexL_ren := {
  mixed := by kernel_rfl
  f137 := Tryz.func193.trans (congrArg some (by kernel_rfl))
  f217 := Tryz.func206.trans (congrArg some (by kernel_rfl))
  f266 := Tryz.func215.trans (congrArg some (by kernel_rfl))
  t3 := Tryz.underlying3
  a3 := Tryz.isAgg3
  z3 := Tryz.sizeOf3
  v3 := Tryz.zeroValue3
  t5 := Tryz.underlying5
  a5 := Tryz.isAgg5
  z5 := Tryz.sizeOf5
  v5 := Tryz.zeroValue5
  t9 := Tryz.underlying9
  a9 := Tryz.isAgg9
  z9 := Tryz.sizeOf9
  v9 := Tryz.zeroValue9 }
noncomputable def f193 (k : Nat) (x0 : ByteArray) (x1 : Int) : Option (Int×Unit) := some (indexB x0 x1,())
noncomputable def f193_sig (k : Nat) : Sig := ⟨[.val .str,.val (.int .u8)],[],[[.val (.int .i64)]],fun x => f193 k x.1 x.2.1⟩
theorem f193_ok [Dr] (k : Nat) : FnOK Tryz.prog G0 193 (f193_sig k) := index_ok (ρ := indexL_ren) indexL Tryz.call193
noncomputable def l163_2 (k : Nat) : Nat → ByteArray → ByteArray → Int → Int → Option (Unit ⊕ (Bool×Unit))
 | 0,_,_,_,_ => none
 | j + 1,s0,s1,s7,s8 =>
  bif decide (s8 < s7) then
  bif decide (0 ≤ s8) && decide (s8 < (s0.size : Int)) then
  bif decide ((bt s0 s8) < 32) then
  some (.inr (false,()))
  else
  bif decide (0 ≤ s8) && decide (s8 < (s0.size : Int)) then
  bif decide ((bt s0 s8) > 126) then
  some (.inr (false,()))
  else
  bif decide (0 ≤ s8) && decide (s8 < (s0.size : Int)) then
  (f193 k s1 (bt s0 s8)).bind fun r1 =>
  bif decide (r1.1 ≥ 0) then
  some (.inr (false,()))
  else
  l163_2 k j s0 s1 s7 (w64 (s8 + 1))
  else
  none
  else
  none
  else
  none
  else
  some (.inl ())
noncomputable def l163_2_sig (k : Nat) : LoopSig := ⟨[(0,.obj (.val (.str))),(1,.obj (.val (.str))),(7,.obj ck1),(8,.obj ck1)],[(.exit 0,[]),(.ret,[(4,.obj (.val (.bool)))])],fun j x => l163_2 k j x.1 x.2.1 x.2.2.1 x.2.2.2.1⟩
noncomputable def f163 (k : Nat) (x0 : ByteArray) (x1 : ByteArray) : Option ((Bool×Unit)) :=
  (l163_2 k k x0 x1 (x0.size : Int) 0).bind fun q32 =>
  Sum.elim
  (fun y1 =>
  some (true,()))
  (fun y2 =>
  some y2)
  q32
noncomputable def f163_sig (k : Nat) : Sig := ⟨[.val (.str),.val (.str)],[],[[.val (.bool)]],fun x => f163 k x.1 x.2.1⟩
noncomputable def E_f163 (k : Nat) : Env := ⟨Tryz.prog,G0,scons 193 [f193_sig k] (snil),tcons 2 (l163_2_sig k) (tnil),tnil,unil,k,qnil,false⟩
theorem l163_2_ok (k : Nat) : LoopOK (E_f163 k) ⟨Tryz.f163.ntmps,[],G0⟩ (nthC 0 (loopsIn (Tryz.f163.body.getD .skip))) :=
  loop_ok (ls := l163_2_sig k) (by kernel_rfl) (fun _ => by kernel_rfl) (fun j x => by kernel_rfl)
theorem f163_run (k : Nat) (x : (lTy (lay 0 (f163_sig k).ins)).den) : runF (E_f163 k) Tryz.f163 (f163_sig k) x = (f163_sig k).F x := by kernel_rfl
theorem f163_ok [Dr] (k : Nat) : FnOK Tryz.prog G0 163 (f163_sig k) :=
  fn_ok2 (E := E_f163 k) (env_cons (one_sig (f193_ok k)) (env_nil)) (qenv_nil) mixed Tryz.func163 Tryz.call163 (by kernel_rfl) (by kernel_rfl) (m := 1) (by kernel_rfl) ⟨trivial,l163_2_ok k⟩ (sk := []) (by kernel_rfl) trivial (f163_run k)
noncomputable def f135 (k : Nat) (x0 : ByteArray) : Option ((Int×Unit)) :=
  bif decide ((x0.size : Int) > 60) then
  some (2,())
  else
  (f163 k x0 (⟨#[123,125]⟩ : ByteArray)).bind fun r1 =>
  bif !r1.1 then
  some (3,())
  else
  some (0,())
noncomputable def f135_sig (k : Nat) : Sig := ⟨[.val (.str)],[],[[.val (.int .i64)]],fun x => f135 k x.1⟩
noncomputable def E_f135 (k : Nat) : Env := ⟨Tryz.prog,G0,scons 163 [f163_sig k] (snil),tnil,tnil,unil,k,qnil,false⟩
theorem f135_run (k : Nat) (x : (lTy (lay 0 (f135_sig k).ins)).den) : runF (E_f135 k) Tryz.f135 (f135_sig k) x = (f135_sig k).F x := by kernel_rfl
theorem f135_ok [Dr] (k : Nat) : FnOK Tryz.prog G0 135 (f135_sig k) :=
  fn_ok2 (E := E_f135 k) (env_cons (one_sig (f163_ok k)) (env_nil)) (qenv_nil) mixed Tryz.func135 Tryz.call135 (by kernel_rfl) (by kernel_rfl) (m := 0) (by kernel_rfl) trivial (sk := []) (by kernel_rfl) trivial (f135_run k)
noncomputable def l134_13 (k : Nat) : Nat → ((List (ByteArray×ByteArray×Unit))×ByteArray×(List (Int×(Int×Int×Int×Unit)×ByteArray×Unit))×Int×Unit) → (ByteArray×ByteArray×Unit) → (List (ByteArray×ByteArray×Unit)) → Int → Int → (List (ByteArray×ByteArray×Unit)) → Int → Int → Option ((((List (ByteArray×ByteArray×Unit))×ByteArray×(List (Int×(Int×Int×Int×Unit)×ByteArray×Unit))×Int×Unit)×(List (ByteArray×ByteArray×Unit))×Int×Int×Unit) ⊕ (Int×Unit))
 | 0,_,_,_,_,_,_,_,_ => none
 | j + 1,s1,s4,s18,s19,s20,s40,s41,s42 =>
  bif decide (s42 < s41) then
  bif decide (0 ≤ s42) && decide (s42 < (s40.length : Int)) then
  bif (rd (((⟨#[]⟩ : ByteArray),(⟨#[]⟩ : ByteArray),()) : ByteArray×ByteArray×Unit) s40 s42).1.toList == s4.1.toList then
  some (.inr (7,()))
  else
  l134_13 k j s1 s4 s18 s19 s20 s40 s41 (w64 (s42 + 1))
  else
  none
  else
  some (.inl (s1,s18,s19,s20,()))
noncomputable def l134_13_sig (k : Nat) : LoopSig := ⟨[(1,.obj ck70),(4,.obj (.box 180 (.val ty9))),(18,.obj ck15),(19,.obj ck1),(20,.obj ck1),(40,.obj ck15),(41,.obj ck1),(42,.obj ck1)],[(.exit 2,[(1,.obj ck70),(18,.obj ck15),(19,.obj ck1),(20,.obj ck1)]),(.ret,[(2,.obj ck1)])],fun j x => l134_13 k j x.1 x.2.1 x.2.2.1 x.2.2.2.1 x.2.2.2.2.1 x.2.2.2.2.2.1 x.2.2.2.2.2.2.1 x.2.2.2.2.2.2.2.1⟩
noncomputable def l134_4 (k : Nat) : Nat → ((List (ByteArray×ByteArray×Unit))×ByteArray×(List (Int×(Int×Int×Int×Unit)×ByteArray×Unit))×Int×Unit) → (List (ByteArray×ByteArray×Unit)) → Int → Int → Option ((((List (ByteArray×ByteArray×Unit))×ByteArray×(List (Int×(Int×Int×Int×Unit)×ByteArray×Unit))×Int×Unit)×Unit) ⊕ (Int×Unit))
 | 0,_,_,_,_ => none
 | j + 1,s1,s18,s19,s20 =>
  bif decide (s20 < s19) then
  bif decide (0 ≤ s20) && decide (s20 < (s18.length : Int)) then
  (f139 k (rd (((⟨#[]⟩ : ByteArray),(⟨#[]⟩ : ByteArray),()) : ByteArray×ByteArray×Unit) s18 s20).1).bind fun r1 =>
  bif !r1.1 then
  some (.inr (6,()))
  else
  bif decide (((rd (((⟨#[]⟩ : ByteArray),(⟨#[]⟩ : ByteArray),()) : ByteArray×ByteArray×Unit) s18 s20).2.1.size : Int) > 40) then
  some (.inr (2,()))
  else
  (f163 k (rd (((⟨#[]⟩ : ByteArray),(⟨#[]⟩ : ByteArray),()) : ByteArray×ByteArray×Unit) s18 s20).2.1 (⟨#[34]⟩ : ByteArray)).bind fun r2 =>
  bif !r2.1 then
  some (.inr (3,()))
  else
  bif decide (0 ≤ s20) && decide (s20 ≤ (s1.1.length : Int)) then
  (l134_13 k k s1 (rd (((⟨#[]⟩ : ByteArray),(⟨#[]⟩ : ByteArray),()) : ByteArray×ByteArray×Unit) s18 s20) s18 s19 s20 (sliceOf s1.1 0 s20) ((sliceOf s1.1 0 s20).length : Int) 0).bind fun q33 =>
  Sum.elim
  (fun y3 =>
  l134_4 k j y3.1 y3.2.1 y3.2.2.1 (w64 (y3.2.2.2.1 + 1)))
  (fun y4 =>
  some (.inr y4))
  q33
  else
  none
  else
  none
  else
  some (.inl (s1,()))
noncomputable def l134_4_sig (k : Nat) : LoopSig := ⟨[(1,.obj ck70),(18,.obj ck15),(19,.obj ck1),(20,.obj ck1)],[(.exit 0,[(1,.obj ck70)]),(.ret,[(2,.obj ck1)])],fun j x => l134_4 k j x.1 x.2.1 x.2.2.1 x.2.2.2.1⟩
noncomputable def f134 (k : Nat) (x0 : (List (ByteArray×ByteArray×Unit))×ByteArray×(List (Int×(Int×Int×Int×Unit)×ByteArray×Unit))×Int×Unit) : Option ((Int×Unit)) :=
  bif decide ((x0.1.length : Int) > 10) then
  some (2,())
  else
  bif decide ((x0.2.2.1.length : Int) > 200) then
  some (2,())
  else
  (l134_4 k k x0 x0.1 (x0.1.length : Int) 0).bind fun q34 =>
  Sum.elim
  (fun y1 =>
  bif decide (y1.1.2.2.2.1 < 0) then
  some (4,())
  else
  bif decide (y1.1.2.2.2.1 > 3) then
  some (4,())
  else
  (f135 k y1.1.2.1).bind fun r2 =>
  some r2)
  (fun y3 =>
  some y3)
  q34
noncomputable def f134_sig (k : Nat) : Sig := ⟨[.val ty67],[],[[.val (.int .i64)]],fun x => f134 k x.1⟩
noncomputable def E_f134 (k : Nat) : Env := ⟨Tryz.prog,G0,scons 163 [f163_sig k] (scons 139 [f139_sig k] (scons 135 [f135_sig k] (snil))),tcons 4 (l134_4_sig k) (tcons 13 (l134_13_sig k) (tnil)),tnil,unil,k,qnil,false⟩
theorem l134_4_ok (k : Nat) : LoopOK (E_f134 k) ⟨Tryz.f134.ntmps,[],G0⟩ (nthC 0 (loopsIn (Tryz.f134.body.getD .skip))) :=
  loop_ok (ls := l134_4_sig k) (by kernel_rfl) (fun _ => by kernel_rfl) (fun j x => by kernel_rfl)
theorem l134_13_ok (k : Nat) : LoopOK (E_f134 k) ⟨Tryz.f134.ntmps,[],G0⟩ (nthC 1 (loopsIn (Tryz.f134.body.getD .skip))) :=
  loop_ok (ls := l134_13_sig k) (by kernel_rfl) (fun _ => by kernel_rfl) (fun j x => by kernel_rfl)
theorem f134_run (k : Nat) (x : (lTy (lay 0 (f134_sig k).ins)).den) : runF (E_f134 k) Tryz.f134 (f134_sig k) x = (f134_sig k).F x := by kernel_rfl
theorem f134_ok [Dr] (k : Nat) : FnOK Tryz.prog G0 134 (f134_sig k) :=
  fn_ok2 (E := E_f134 k) (env_cons (one_sig (f163_ok k)) (env_cons (one_sig (f139_ok k)) (env_cons (one_sig (f135_ok k)) (env_nil)))) (qenv_nil) mixed Tryz.func134 Tryz.call134 (by kernel_rfl) (by kernel_rfl) (m := 2) (by kernel_rfl) ⟨⟨trivial,l134_4_ok k⟩,l134_13_ok k⟩ (sk := []) (by kernel_rfl) trivial (f134_run k)
noncomputable def l164_2 (k : Nat) : Nat → (List (Int×(Int×Int×Int×Unit)×ByteArray×Unit)) → Int → (List (Int×(Int×Int×Int×Unit)×ByteArray×Unit)) → Int → Int → Option ((Int×Unit) ⊕ (Int×Unit))
 | 0,_,_,_,_,_ => none
 | j + 1,s0,s1,s7,s8,s9 =>
  bif decide (s9 < s8) then
  bif decide (0 ≤ s9) && decide (s9 < (s7.length : Int)) then
  bif decide (0 ≤ s1) && decide (s1 < (s0.length : Int)) then
  bif (rd ((0,(0,0,0,()),(⟨#[]⟩ : ByteArray),()) : Int×(Int×Int×Int×Unit)×ByteArray×Unit) s7 s9).1 == (rd ((0,(0,0,0,()),(⟨#[]⟩ : ByteArray),()) : Int×(Int×Int×Int×Unit)×ByteArray×Unit) s0 s1).1 then
  some (.inr (s9,()))
  else
  l164_2 k j s0 s1 s7 s8 (w64 (s9 + 1))
  else
  none
  else
  none
  else
  some (.inl (s1,()))
noncomputable def l164_2_sig (k : Nat) : LoopSig := ⟨[(0,.obj ck47),(1,.obj ck1),(7,.obj ck47),(8,.obj ck1),(9,.obj ck1)],[(.exit 0,[(1,.obj ck1)]),(.ret,[(4,.obj ck1)])],fun j x => l164_2 k j x.1 x.2.1 x.2.2.1 x.2.2.2.1 x.2.2.2.2.1⟩
noncomputable def f164 (k : Nat) (x0 : List (Int×(Int×Int×Int×Unit)×ByteArray×Unit)) (x1 : Int) : Option ((Int×Unit)) :=
  (l164_2 k k x0 x1 x0 (x0.length : Int) 0).bind fun q35 =>
  Sum.elim
  (fun y1 =>
  some y1)
  (fun y2 =>
  some y2)
  q35
noncomputable def f164_sig (k : Nat) : Sig := ⟨[.val (.sl ty42),.val (.int .i64)],[],[[.val (.int .i64)]],fun x => f164 k x.1 x.2.1⟩
noncomputable def E_f164 (k : Nat) : Env := ⟨Tryz.prog,G0,snil,tcons 2 (l164_2_sig k) (tnil),tnil,unil,k,qnil,false⟩
theorem l164_2_ok (k : Nat) : LoopOK (E_f164 k) ⟨Tryz.f164.ntmps,[],G0⟩ (nthC 0 (loopsIn (Tryz.f164.body.getD .skip))) :=
  loop_ok (ls := l164_2_sig k) (by kernel_rfl) (fun _ => by kernel_rfl) (fun j x => by kernel_rfl)
theorem f164_run (k : Nat) (x : (lTy (lay 0 (f164_sig k).ins)).den) : runF (E_f164 k) Tryz.f164 (f164_sig k) x = (f164_sig k).F x := by kernel_rfl
theorem f164_ok [Dr] (k : Nat) : FnOK Tryz.prog G0 164 (f164_sig k) :=
  fn_ok2 (E := E_f164 k) (env_nil) (qenv_nil) mixed Tryz.func164 Tryz.call164 (by kernel_rfl) (by kernel_rfl) (m := 1) (by kernel_rfl) ⟨trivial,l164_2_ok k⟩ (sk := []) (by kernel_rfl) trivial (f164_run k)
noncomputable def l136_4 (k : Nat) : Nat → (List (Int×(Int×Int×Int×Unit)×ByteArray×Unit)) → Int → (List Int) → (List (Int×(Int×Int×Int×Unit)×ByteArray×Unit)) → Int → Int → Option ((Int×Unit))
 | 0,_,_,_,_,_,_ => none
 | j + 1,s0,s3,s4,s10,s11,s12 =>
  bif decide (s12 < s11) then
  bif decide (0 ≤ s12) && decide (s12 < (s10.length : Int)) then
  bif decide ((rd ((0,(0,0,0,()),(⟨#[]⟩ : ByteArray),()) : Int×(Int×Int×Int×Unit)×ByteArray×Unit) s10 s12).1 ≥ 0) then
  bif decide (0 ≤ (rd ((0,(0,0,0,()),(⟨#[]⟩ : ByteArray),()) : Int×(Int×Int×Int×Unit)×ByteArray×Unit) s10 s12).1) && decide ((rd ((0,(0,0,0,()),(⟨#[]⟩ : ByteArray),()) : Int×(Int×Int×Int×Unit)×ByteArray×Unit) s10 s12).1 < (s4.length : Int)) then
  bif decide (0 ≤ s12) && decide (s12 < (s4.length : Int)) then
  (f164 k s0 s12).bind fun r1 =>
  bif r1.1 != s12 then
  bif decide (0 ≤ s12) && decide (s12 < ((s4.set s12.toNat (rd (0 : Int) s4 (rd ((0,(0,0,0,()),(⟨#[]⟩ : ByteArray),()) : Int×(Int×Int×Int×Unit)×ByteArray×Unit) s10 s12).1)).length : Int)) then
  bif decide (0 ≤ s12) && decide (s12 < ((s4.set s12.toNat (rd (0 : Int) s4 (rd ((0,(0,0,0,()),(⟨#[]⟩ : ByteArray),()) : Int×(Int×Int×Int×Unit)×ByteArray×Unit) s10 s12).1)).length : Int)) then
  bif decide (0 ≤ s12) && decide (s12 < (((s4.set s12.toNat (rd (0 : Int) s4 (rd ((0,(0,0,0,()),(⟨#[]⟩ : ByteArray),()) : Int×(Int×Int×Int×Unit)×ByteArray×Unit) s10 s12).1)).set s12.toNat (w64 ((rd (0 : Int) (s4.set s12.toNat (rd (0 : Int) s4 (rd ((0,(0,0,0,()),(⟨#[]⟩ : ByteArray),()) : Int×(Int×Int×Int×Unit)×ByteArray×Unit) s10 s12).1)) s12) + 1))).length : Int)) then
  l136_4 k j s0 (if (rd (0 : Int) ((s4.set s12.toNat (rd (0 : Int) s4 (rd ((0,(0,0,0,()),(⟨#[]⟩ : ByteArray),()) : Int×(Int×Int×Int×Unit)×ByteArray×Unit) s10 s12).1)).set s12.toNat (w64 ((rd (0 : Int) (s4.set s12.toNat (rd (0 : Int) s4 (rd ((0,(0,0,0,()),(⟨#[]⟩ : ByteArray),()) : Int×(Int×Int×Int×Unit)×ByteArray×Unit) s10 s12).1)) s12) + 1))) s12) > s3 then rd (0 : Int) ((s4.set s12.toNat (rd (0 : Int) s4 (rd ((0,(0,0,0,()),(⟨#[]⟩ : ByteArray),()) : Int×(Int×Int×Int×Unit)×ByteArray×Unit) s10 s12).1)).set s12.toNat (w64 ((rd (0 : Int) (s4.set s12.toNat (rd (0 : Int) s4 (rd ((0,(0,0,0,()),(⟨#[]⟩ : ByteArray),()) : Int×(Int×Int×Int×Unit)×ByteArray×Unit) s10 s12).1)) s12) + 1))) s12 else s3) ((s4.set s12.toNat (rd (0 : Int) s4 (rd ((0,(0,0,0,()),(⟨#[]⟩ : ByteArray),()) : Int×(Int×Int×Int×Unit)×ByteArray×Unit) s10 s12).1)).set s12.toNat (w64 ((rd (0 : Int) (s4.set s12.toNat (rd (0 : Int) s4 (rd ((0,(0,0,0,()),(⟨#[]⟩ : ByteArray),()) : Int×(Int×Int×Int×Unit)×ByteArray×Unit) s10 s12).1)) s12) + 1))) s10 s11 (w64 (s12 + 1))
  else
  none
  else
  none
  else
  none
  else
  bif decide (0 ≤ s12) && decide (s12 < ((s4.set s12.toNat (rd (0 : Int) s4 (rd ((0,(0,0,0,()),(⟨#[]⟩ : ByteArray),()) : Int×(Int×Int×Int×Unit)×ByteArray×Unit) s10 s12).1)).length : Int)) then
  l136_4 k j s0 (if (rd (0 : Int) (s4.set s12.toNat (rd (0 : Int) s4 (rd ((0,(0,0,0,()),(⟨#[]⟩ : ByteArray),()) : Int×(Int×Int×Int×Unit)×ByteArray×Unit) s10 s12).1)) s12) > s3 then rd (0 : Int) (s4.set s12.toNat (rd (0 : Int) s4 (rd ((0,(0,0,0,()),(⟨#[]⟩ : ByteArray),()) : Int×(Int×Int×Int×Unit)×ByteArray×Unit) s10 s12).1)) s12 else s3) (s4.set s12.toNat (rd (0 : Int) s4 (rd ((0,(0,0,0,()),(⟨#[]⟩ : ByteArray),()) : Int×(Int×Int×Int×Unit)×ByteArray×Unit) s10 s12).1)) s10 s11 (w64 (s12 + 1))
  else
  none
  else
  none
  else
  none
  else
  (f164 k s0 s12).bind fun r2 =>
  bif r2.1 != s12 then
  bif decide (0 ≤ s12) && decide (s12 < (s4.length : Int)) then
  bif decide (0 ≤ s12) && decide (s12 < (s4.length : Int)) then
  bif decide (0 ≤ s12) && decide (s12 < ((s4.set s12.toNat (w64 ((rd (0 : Int) s4 s12) + 1))).length : Int)) then
  l136_4 k j s0 (if (rd (0 : Int) (s4.set s12.toNat (w64 ((rd (0 : Int) s4 s12) + 1))) s12) > s3 then rd (0 : Int) (s4.set s12.toNat (w64 ((rd (0 : Int) s4 s12) + 1))) s12 else s3) (s4.set s12.toNat (w64 ((rd (0 : Int) s4 s12) + 1))) s10 s11 (w64 (s12 + 1))
  else
  none
  else
  none
  else
  none
  else
  bif decide (0 ≤ s12) && decide (s12 < (s4.length : Int)) then
  l136_4 k j s0 (if (rd (0 : Int) s4 s12) > s3 then rd (0 : Int) s4 s12 else s3) s4 s10 s11 (w64 (s12 + 1))
  else
  none
  else
  none
  else
  some (s3,())
noncomputable def l136_4_sig (k : Nat) : LoopSig := ⟨[(0,.obj ck47),(3,.obj ck1),(4,.obj ck2),(10,.obj ck47),(11,.obj ck1),(12,.obj ck1)],[(.exit 0,[(3,.obj ck1)])],fun j x => l136_4 k j x.1 x.2.1 x.2.2.1 x.2.2.2.1 x.2.2.2.2.1 x.2.2.2.2.2.1⟩
noncomputable def f136 (k : Nat) (x0 : List (Int×(Int×Int×Int×Unit)×ByteArray×Unit)) : Option ((Int×Unit)) :=
  bif decide (0 ≤ (x0.length : Int)) && (decide ((x0.length : Int) ≤ (x0.length : Int)) && decide (((8 : Nat) : Int) * (x0.length : Int) ≤ 281474976710656)) && decide ((x0.length : Int) ≤ 9223372036854775807) then
  (l136_4 k k x0 0 (List.replicate (x0.length : Int).toNat (0 : Int)) x0 (x0.length : Int) 0).bind fun o1 =>
  some o1
  else
  none
noncomputable def f136_sig (k : Nat) : Sig := ⟨[.val (.sl ty42)],[],[[.val (.int .i64)]],fun x => f136 k x.1⟩
noncomputable def E_f136 (k : Nat) : Env := ⟨Tryz.prog,G0,scons 164 [f164_sig k] (snil),tcons 4 (l136_4_sig k) (tnil),tnil,unil,k,qnil,false⟩
theorem l136_4_ok (k : Nat) : LoopOK (E_f136 k) ⟨Tryz.f136.ntmps,[],G0⟩ (nthC 0 (loopsIn (Tryz.f136.body.getD .skip))) :=
  loop_ok (ls := l136_4_sig k) (by kernel_rfl) (fun _ => by kernel_rfl) (fun j x => by kernel_rfl)
theorem f136_run (k : Nat) (x : (lTy (lay 0 (f136_sig k).ins)).den) : runF (E_f136 k) Tryz.f136 (f136_sig k) x = (f136_sig k).F x := by kernel_rfl
theorem f136_ok [Dr] (k : Nat) : FnOK Tryz.prog G0 136 (f136_sig k) :=
  fn_ok2 (E := E_f136 k) (env_cons (one_sig (f164_ok k)) (env_nil)) (qenv_nil) mixed Tryz.func136 Tryz.call136 (by kernel_rfl) (by kernel_rfl) (m := 1) (by kernel_rfl) ⟨trivial,l136_4_ok k⟩ (sk := []) (by kernel_rfl) trivial (f136_run k)
noncomputable def l97_14 (k : Nat) : Nat → ((List (ByteArray×ByteArray×Unit))×ByteArray×(List (Int×(Int×Int×Int×Unit)×ByteArray×Unit))×Int×Unit) → ((ByteArray×Int×Int×(List (Int×Int×Int×(List (Int×Int×Int×Int×Unit))×Unit))×(List Int)×Bool×Bool×(List (Int×Int×Int×Bool×Unit))×Int×Int×Int×Unit)×(List ((List Int)×((List Int)×(List Int)×Unit)×Int×Int×Unit))×(List (Int×Int×Int×Unit))×Unit) → (List Int) → Int → (Int×(Int×Int×Int×Unit)×ByteArray×Unit) → (List (Int×(Int×Int×Int×Unit)×ByteArray×Unit)) → Int → Int → Option ((((List (ByteArray×ByteArray×Unit))×ByteArray×(List (Int×(Int×Int×Int×Unit)×ByteArray×Unit))×Int×Unit)×((ByteArray×Int×Int×(List (Int×Int×Int×(List (Int×Int×Int×Int×Unit))×Unit))×(List Int)×Bool×Bool×(List (Int×Int×Int×Bool×Unit))×Int×Int×Int×Unit)×(List ((List Int)×((List Int)×(List Int)×Unit)×Int×Int×Unit))×(List (Int×Int×Int×Unit))×Unit)×(List Int)×Int×(Int×(Int×Int×Int×Unit)×ByteArray×Unit)×(List (Int×(Int×Int×Int×Unit)×ByteArray×Unit))×Int×Int×Unit))
 | 0,_,_,_,_,_,_,_,_ => none
 | j + 1,s3,s5,s8,s9,s10,s29,s30,s31 =>
  bif decide ((s8.length : Int) > 0) then
  bif decide (0 ≤ (w64 ((s8.length : Int) - 1))) && decide ((w64 ((s8.length : Int) - 1)) < (s8.length : Int)) then
  bif (rd (0 : Int) s8 (w64 ((s8.length : Int) - 1))) != s10.1 then
  bif decide (0 ≤ (w64 ((s8.length : Int) - 1))) && decide ((w64 ((s8.length : Int) - 1)) ≤ (s8.length : Int)) then
  (f82 k s5).bind fun r1 =>
  l97_14 k j s3 r1.2.1 (first (w64 ((s8.length : Int) - 1)).toNat s8) s9 s10 s29 s30 s31
  else
  none
  else
  some (s3,s5,s8,s9,s10,s29,s30,s31,())
  else
  none
  else
  some (s3,s5,s8,s9,s10,s29,s30,s31,())
noncomputable def l97_14_sig (k : Nat) : LoopSig := ⟨[(3,.obj ck70),(5,.obj ck84),(8,.obj ck2),(9,.obj ck1),(10,.obj ck48),(29,.obj ck47),(30,.obj ck1),(31,.obj ck1)],[(.exit 2,[(3,.obj ck70),(5,.obj ck84),(8,.obj ck2),(9,.obj ck1),(10,.obj ck48),(29,.obj ck47),(30,.obj ck1),(31,.obj ck1)])],fun j x => l97_14 k j x.1 x.2.1 x.2.2.1 x.2.2.2.1 x.2.2.2.2.1 x.2.2.2.2.2.1 x.2.2.2.2.2.2.1 x.2.2.2.2.2.2.2.1⟩
noncomputable def l97_20 (k : Nat) : Nat → ((List (ByteArray×ByteArray×Unit))×ByteArray×(List (Int×(Int×Int×Int×Unit)×ByteArray×Unit))×Int×Unit) → ((ByteArray×Int×Int×(List (Int×Int×Int×(List (Int×Int×Int×Int×Unit))×Unit))×(List Int)×Bool×Bool×(List (Int×Int×Int×Bool×Unit))×Int×Int×Int×Unit)×(List ((List Int)×((List Int)×(List Int)×Unit)×Int×Int×Unit))×(List (Int×Int×Int×Unit))×Unit) → (List Int) → Int → (Int×(Int×Int×Int×Unit)×ByteArray×Unit) → (List (Int×(Int×Int×Int×Unit)×ByteArray×Unit)) → Int → Int → (List (Int×(Int×Int×Int×Unit)×ByteArray×Unit)) → Int → Int → Option ((((List (ByteArray×ByteArray×Unit))×ByteArray×(List (Int×(Int×Int×Int×Unit)×ByteArray×Unit))×Int×Unit)×((ByteArray×Int×Int×(List (Int×Int×Int×(List (Int×Int×Int×Int×Unit))×Unit))×(List Int)×Bool×Bool×(List (Int×Int×Int×Bool×Unit))×Int×Int×Int×Unit)×(List ((List Int)×((List Int)×(List Int)×Unit)×Int×Int×Unit))×(List (Int×Int×Int×Unit))×Unit)×(List Int)×Int×(Int×(Int×Int×Int×Unit)×ByteArray×Unit)×(List (Int×(Int×Int×Int×Unit)×ByteArray×Unit))×Int×Int×Unit) ⊕ (Int×Unit))
 | 0,_,_,_,_,_,_,_,_,_,_,_ => none
 | j + 1,s3,s5,s8,s9,s10,s29,s30,s31,s74,s75,s76 =>
  bif decide (s76 < s75) then
  bif decide (0 ≤ s76) && decide (s76 < (s74.length : Int)) then
  bif (rd ((0,(0,0,0,()),(⟨#[]⟩ : ByteArray),()) : Int×(Int×Int×Int×Unit)×ByteArray×Unit) s74 s76).1 == s10.1 then
  bif ((rd ((0,(0,0,0,()),(⟨#[]⟩ : ByteArray),()) : Int×(Int×Int×Int×Unit)×ByteArray×Unit) s74 s76).2.1.1 == s10.2.1.1) && (((rd ((0,(0,0,0,()),(⟨#[]⟩ : ByteArray),()) : Int×(Int×Int×Int×Unit)×ByteArray×Unit) s74 s76).2.1.2.1 == s10.2.1.2.1) && (((rd ((0,(0,0,0,()),(⟨#[]⟩ : ByteArray),()) : Int×(Int×Int×Int×Unit)×ByteArray×Unit) s74 s76).2.1.2.2.1 == s10.2.1.2.2.1) && true)) then
  some (.inr (7,()))
  else
  l97_20 k j s3 s5 s8 s9 s10 s29 s30 s31 s74 s75 (w64 (s76 + 1))
  else
  l97_20 k j s3 s5 s8 s9 s10 s29 s30 s31 s74 s75 (w64 (s76 + 1))
  else
  none
  else
  some (.inl (s3,s5,s8,s9,s10,s29,s30,s31,()))
noncomputable def l97_20_sig (k : Nat) : LoopSig := ⟨[(3,.obj ck70),(5,.obj ck84),(8,.obj ck2),(9,.obj ck1),(10,.obj ck48),(29,.obj ck47),(30,.obj ck1),(31,.obj ck1),(74,.obj ck47),(75,.obj ck1),(76,.obj ck1)],[(.exit 4,[(3,.obj ck70),(5,.obj ck84),(8,.obj ck2),(9,.obj ck1),(10,.obj ck48),(29,.obj ck47),(30,.obj ck1),(31,.obj ck1)]),(.ret,[(4,.obj ck1)])],fun j x => l97_20 k j x.1 x.2.1 x.2.2.1 x.2.2.2.1 x.2.2.2.2.1 x.2.2.2.2.2.1 x.2.2.2.2.2.2.1 x.2.2.2.2.2.2.2.1 x.2.2.2.2.2.2.2.2.1 x.2.2.2.2.2.2.2.2.2.1 x.2.2.2.2.2.2.2.2.2.2.1⟩
noncomputable def l97_9 (k : Nat) : Nat → ((List (ByteArray×ByteArray×Unit))×ByteArray×(List (Int×(Int×Int×Int×Unit)×ByteArray×Unit))×Int×Unit) → ((ByteArray×Int×Int×(List (Int×Int×Int×(List (Int×Int×Int×Int×Unit))×Unit))×(List Int)×Bool×Bool×(List (Int×Int×Int×Bool×Unit))×Int×Int×Int×Unit)×(List ((List Int)×((List Int)×(List Int)×Unit)×Int×Int×Unit))×(List (Int×Int×Int×Unit))×Unit) → (List Int) → (List (Int×(Int×Int×Int×Unit)×ByteArray×Unit)) → Int → Int → Option ((((List (ByteArray×ByteArray×Unit))×ByteArray×(List (Int×(Int×Int×Int×Unit)×ByteArray×Unit))×Int×Unit)×Unit) ⊕ (Int×Unit))
 | 0,_,_,_,_,_,_ => none
 | j + 1,s3,s5,s8,s29,s30,s31 =>
  bif decide (s31 < s30) then
  bif decide (0 ≤ s31) && decide (s31 < (s29.length : Int)) then
  (f135 k (rd ((0,(0,0,0,()),(⟨#[]⟩ : ByteArray),()) : Int×(Int×Int×Int×Unit)×ByteArray×Unit) s29 s31).2.2.1).bind fun r1 =>
  bif r1.1 != 0 then
  some (.inr r1)
  else
  (l97_14 k k s3 s5 s8 s31 (rd ((0,(0,0,0,()),(⟨#[]⟩ : ByteArray),()) : Int×(Int×Int×Int×Unit)×ByteArray×Unit) s29 s31) s29 s30 s31).bind fun o2 =>
  bif o2.2.2.2.2.1.1 != (-1) then
  bif (o2.2.2.1.length : Int) == 0 then
  some (.inr (3,()))
  else
  bif decide (0 ≤ o2.2.2.2.1) && decide (o2.2.2.2.1 ≤ (o2.1.2.2.1.length : Int)) then
  (l97_20 k k o2.1 o2.2.1 o2.2.2.1 o2.2.2.2.1 o2.2.2.2.2.1 o2.2.2.2.2.2.1 o2.2.2.2.2.2.2.1 o2.2.2.2.2.2.2.2.1 (sliceOf o2.1.2.2.1 0 o2.2.2.2.1) ((sliceOf o2.1.2.2.1 0 o2.2.2.2.1).length : Int) 0).bind fun q36 =>
  Sum.elim
  (fun y3 =>
  (f51 k y3.2.1 y3.2.2.2.2.1.2.1).bind fun r4 =>
  bif r4.1 != 0 then
  some (.inr (r4.1,()))
  else
  bif decide ((y3.2.2.1.length + [y3.2.2.2.1].length) * 8 ≤ roomN) then
  l97_9 k j y3.1 r4.2.1 (y3.2.2.1 ++ [y3.2.2.2.1]) y3.2.2.2.2.2.1 y3.2.2.2.2.2.2.1 (w64 (y3.2.2.2.2.2.2.2.1 + 1))
  else
  none)
  (fun y5 =>
  some (.inr y5))
  q36
  else
  none
  else
  bif decide (0 ≤ o2.2.2.2.1) && decide (o2.2.2.2.1 ≤ (o2.1.2.2.1.length : Int)) then
  (l97_20 k k o2.1 o2.2.1 o2.2.2.1 o2.2.2.2.1 o2.2.2.2.2.1 o2.2.2.2.2.2.1 o2.2.2.2.2.2.2.1 o2.2.2.2.2.2.2.2.1 (sliceOf o2.1.2.2.1 0 o2.2.2.2.1) ((sliceOf o2.1.2.2.1 0 o2.2.2.2.1).length : Int) 0).bind fun q37 =>
  Sum.elim
  (fun y6 =>
  (f51 k y6.2.1 y6.2.2.2.2.1.2.1).bind fun r7 =>
  bif r7.1 != 0 then
  some (.inr (r7.1,()))
  else
  bif decide ((y6.2.2.1.length + [y6.2.2.2.1].length) * 8 ≤ roomN) then
  l97_9 k j y6.1 r7.2.1 (y6.2.2.1 ++ [y6.2.2.2.1]) y6.2.2.2.2.2.1 y6.2.2.2.2.2.2.1 (w64 (y6.2.2.2.2.2.2.2.1 + 1))
  else
  none)
  (fun y8 =>
  some (.inr y8))
  q37
  else
  none
  else
  none
  else
  some (.inl (s3,()))
noncomputable def l97_9_sig (k : Nat) : LoopSig := ⟨[(3,.obj ck70),(5,.obj ck84),(8,.obj ck2),(29,.obj ck47),(30,.obj ck1),(31,.obj ck1)],[(.exit 0,[(3,.obj ck70)]),(.ret,[(4,.obj ck1)])],fun j x => l97_9 k j x.1 x.2.1 x.2.2.1 x.2.2.2.1 x.2.2.2.2.1 x.2.2.2.2.2.1⟩
noncomputable def f97 (k : Nat) (x0 : ByteArray×Int×Int×(List (Int×Int×Int×(List (Int×Int×Int×Int×Unit))×Unit))×(List Int)×Bool×Bool×(List (Int×Int×Int×Bool×Unit))×Int×Int×Int×Unit) (x1 : (List (ByteArray×ByteArray×Unit))×ByteArray×(List (Int×(Int×Int×Int×Unit)×ByteArray×Unit))×Int×Unit) : Option ((Int×Unit)) :=
  (f30 k x0).bind fun q38 =>
  Sum.elim
  (fun y1 =>
  bif y1.2.1 != 0 then
  some y1.2
  else
  (f134 k x1).bind fun r2 =>
  bif r2.1 != 0 then
  some r2
  else
  (l97_9 k k x1 y1.1 [] x1.2.2.1 (x1.2.2.1.length : Int) 0).bind fun q39 =>
  Sum.elim
  (fun y3 =>
  (f136 k y3.1.2.2.1).bind fun r4 =>
  bif decide (r4.1 > 20) then
  some (2,())
  else
  some (0,()))
  (fun y5 =>
  some y5)
  q39)
  (fun y6 =>
  bif y6.2.1 != 0 then
  some y6.2
  else
  (f134 k x1).bind fun r7 =>
  bif r7.1 != 0 then
  some r7
  else
  none)
  q38
noncomputable def f97_sig (k : Nat) : Sig := ⟨[.val ty73,.val ty67],[],[[.val (.int .i64)]],fun x => f97 k x.1 x.2.1⟩
noncomputable def E_f97 (k : Nat) : Env := ⟨Tryz.prog,G0,scons 136 [f136_sig k] (scons 135 [f135_sig k] (scons 134 [f134_sig k] (scons 82 [f82_sig k] (scons 51 [f51_sig k] (scons 30 [f30_sig k] (snil)))))),tcons 9 (l97_9_sig k) (tcons 20 (l97_20_sig k) (tcons 14 (l97_14_sig k) (tnil))),tnil,unil,k,qnil,false⟩
theorem l97_9_ok (k : Nat) : LoopOK (E_f97 k) ⟨Tryz.f97.ntmps,[],G0⟩ (nthC 0 (loopsIn (Tryz.f97.body.getD .skip))) :=
  loop_ok (ls := l97_9_sig k) (by kernel_rfl) (fun _ => by kernel_rfl) (fun j x => by kernel_rfl)
theorem l97_14_ok (k : Nat) : LoopOK (E_f97 k) ⟨Tryz.f97.ntmps,[],G0⟩ (nthC 1 (loopsIn (Tryz.f97.body.getD .skip))) :=
  loop_ok (ls := l97_14_sig k) (by kernel_rfl) (fun _ => by kernel_rfl) (fun j x => by kernel_rfl)
theorem l97_20_ok (k : Nat) : LoopOK (E_f97 k) ⟨Tryz.f97.ntmps,[],G0⟩ (nthC 2 (loopsIn (Tryz.f97.body.getD .skip))) :=
  loop_ok (ls := l97_20_sig k) (by kernel_rfl) (fun _ => by kernel_rfl) (fun j x => by kernel_rfl)
theorem f97_run (k : Nat) (x : (lTy (lay 0 (f97_sig k).ins)).den) : runF (E_f97 k) Tryz.f97 (f97_sig k) x = (f97_sig k).F x := by kernel_rfl
theorem f97_ok [Dr] (k : Nat) : FnOK Tryz.prog G0 97 (f97_sig k) :=
  fn_ok2 (E := E_f97 k) (env_cons (one_sig (f136_ok k)) (env_cons (one_sig (f135_ok k)) (env_cons (one_sig (f134_ok k)) (env_cons (one_sig (f82_ok k)) (env_cons (one_sig (f51_ok k)) (env_cons (one_sig (f30_ok k)) (env_nil))))))) (qenv_nil) mixed Tryz.func97 Tryz.call97 (by kernel_rfl) (by kernel_rfl) (m := 3) (by kernel_rfl) ⟨⟨⟨trivial,l97_9_ok k⟩,l97_14_ok k⟩,l97_20_ok k⟩ (sk := []) (by kernel_rfl) trivial (f97_run k)
noncomputable def f137 (k : Nat) (x0 : (Unit×(List (Int×Unit×Unit×Unit×Unit×Unit×Unit×Unit))×Unit)) : Option (((Unit×(List (Int×Unit×Unit×Unit×Unit×Unit×Unit×Unit))×Unit))×Unit) := some (((),x0.2),())
noncomputable def f137_sig (k : Nat) : Sig := ⟨[.box 178 (.cons (.nilp) ck50)],[0],[[.box 178 ck54]],fun x => f137 k x.1⟩
theorem f137_ok [Dr] (k : Nat) : FnOK Tryz.prog G0 137 (f137_sig k) := bld_check_nilp (ρ := joinL_ren) (e := 5) { joinL with } joinX.toX72 Tryz.call137
noncomputable def f98 (k : Nat) (x0 : Unit×(List (Int×Unit×Unit×Unit×Unit×Unit×Unit×Unit))×Unit) (x1 : ByteArray) : Option ((Int×Bool×(Unit×(List (Int×Unit×Unit×Unit×Unit×Unit×Unit×Unit))×Unit)×Unit)) :=
  (f137 k ((),x0.2)).bind fun r1 =>
  bif decide ((r1.1.2.1.length + x1.size) * 1 ≤ roomN) then
  some ((x1.size : Int),true,((),List.append r1.1.2.1 (strL 5 x1),()),())
  else
  none
noncomputable def f98_sig (k : Nat) : Sig := ⟨[.box 178 (.cons (.nilp) ck50),.val (.str)],[0],[[.val (.int .i64),.val (.err),.box 178 ck54]],fun x => f98 k x.1 x.2.1⟩
noncomputable def E_f98 (k : Nat) : Env := ⟨Tryz.prog,G0,scons 137 [f137_sig k] (snil),tnil,tnil,unil,k,qnil,false⟩
theorem f98_run (k : Nat) (x : (lTy (lay 0 (f98_sig k).ins)).den) : runF (E_f98 k) Tryz.f98 (f98_sig k) x = (f98_sig k).F x := by kernel_rfl
theorem f98_ok [Dr] (k : Nat) : FnOK Tryz.prog G0 98 (f98_sig k) :=
  fn_ok2 (E := E_f98 k) (env_cons (one_sig (f137_ok k)) (env_nil)) (qenv_nil) mixed Tryz.func98 Tryz.call98 (by kernel_rfl) (by kernel_rfl) (m := 0) (by kernel_rfl) trivial (sk := []) (by kernel_rfl) trivial (f98_run k)
noncomputable def f137v1 (k : Nat) (x0 : (Unit×(List (Int×Unit×Unit×Unit×Unit×Unit×Unit×Unit))×Unit)) : Option (((Unit×(List (Int×Unit×Unit×Unit×Unit×Unit×Unit×Unit))×Unit))×Unit) := some (((),x0.2),())
noncomputable def f137v1_sig (k : Nat) : Sig := ⟨[.box 178 ck54],[0],[[.box 178 ck54]],fun x => f137v1 k x.1⟩
theorem f137v1_ok [Dr] (k : Nat) : FnOK Tryz.prog G0 137 (f137v1_sig k) := bld_check_slf (ρ := joinL_ren) (e := 5) { joinL with } joinX.toX72 Tryz.call137
noncomputable def f98v1 (k : Nat) (x0 : Unit×(List (Int×Unit×Unit×Unit×Unit×Unit×Unit×Unit))×Unit) (x1 : ByteArray) : Option ((Int×Bool×(Unit×(List (Int×Unit×Unit×Unit×Unit×Unit×Unit×Unit))×Unit)×Unit)) :=
  (f137v1 k ((),x0.2)).bind fun r1 =>
  bif decide ((r1.1.2.1.length + x1.size) * 1 ≤ roomN) then
  some ((x1.size : Int),true,((),List.append r1.1.2.1 (strL 5 x1),()),())
  else
  none
noncomputable def f98v1_sig (k : Nat) : Sig := ⟨[.box 178 ck54,.val (.str)],[0],[[.val (.int .i64),.val (.err),.box 178 ck54]],fun x => f98v1 k x.1 x.2.1⟩
noncomputable def E_f98v1 (k : Nat) : Env := ⟨Tryz.prog,G0,scons 137 [f137v1_sig k] (snil),tnil,tnil,unil,k,qnil,false⟩
theorem f98v1_run (k : Nat) (x : (lTy (lay 0 (f98v1_sig k).ins)).den) : runF (E_f98v1 k) Tryz.f98 (f98v1_sig k) x = (f98v1_sig k).F x := by kernel_rfl
theorem f98v1_ok [Dr] (k : Nat) : FnOK Tryz.prog G0 98 (f98v1_sig k) :=
  fn_ok2 (E := E_f98v1 k) (env_cons (one_sig (f137v1_ok k)) (env_nil)) (qenv_nil) mixed Tryz.func98 Tryz.call98 (by kernel_rfl) (by kernel_rfl) (m := 0) (by kernel_rfl) trivial (sk := []) (by kernel_rfl) trivial (f98v1_run k)
noncomputable def f99 (k : Nat) (x0 : (ByteArray×Int×Int×(List (Int×Int×Int×(List (Int×Int×Int×Int×Unit))×Unit))×(List Int)×Bool×Bool×(List (Int×Int×Int×Bool×Unit))×Int×Int×Int×Unit)×((List (ByteArray×ByteArray×Unit))×ByteArray×(List (Int×(Int×Int×Int×Unit)×ByteArray×Unit))×Int×Unit)×(List ByteArray)×Unit) (x1 : ByteArray) : Option ((((ByteArray×Int×Int×(List (Int×Int×Int×(List (Int×Int×Int×Int×Unit))×Unit))×(List Int)×Bool×Bool×(List (Int×Int×Int×Bool×Unit))×Int×Int×Int×Unit)×((List (ByteArray×ByteArray×Unit))×ByteArray×(List (Int×(Int×Int×Int×Unit)×ByteArray×Unit))×Int×Unit)×(List ByteArray)×Unit)×Unit)) :=
  bif decide ((x0.2.2.1.length : Int) > 0) then
  bif decide (0 ≤ (w64 ((x0.2.2.1.length : Int) - 1))) && decide ((w64 ((x0.2.2.1.length : Int) - 1)) < (x0.2.2.1.length : Int)) then
  bif (rd (⟨#[]⟩ : ByteArray) x0.2.2.1 (w64 ((x0.2.2.1.length : Int) - 1))).toList == (⟨#[40]⟩ : ByteArray).toList then
  bif fitsS (⟨#[40]⟩ : ByteArray) x1 then
  bif decide (0 ≤ (w64 ((x0.2.2.1.length : Int) - 1))) && decide ((w64 ((x0.2.2.1.length : Int) - 1)) < (x0.2.2.1.length : Int)) then
  some ((x0.1,x0.2.1,x0.2.2.1.set (w64 ((x0.2.2.1.length : Int) - 1)).toNat ((⟨#[40]⟩ : ByteArray) ++ x1),()),())
  else
  none
  else
  none
  else
  bif decide ((x0.2.2.1.length + [x1].length) * 16 ≤ roomN) then
  some ((x0.1,x0.2.1,x0.2.2.1 ++ [x1],()),())
  else
  none
  else
  none
  else
  bif decide ((x0.2.2.1.length + [x1].length) * 16 ≤ roomN) then
  some ((x0.1,x0.2.1,x0.2.2.1 ++ [x1],()),())
  else
  none
noncomputable def f99_sig (k : Nat) : Sig := ⟨[.box 183 ck85,.val (.str)],[0],[[.box 183 ck85]],fun x => f99 k x.1 x.2.1⟩
noncomputable def E_f99 (k : Nat) : Env := ⟨Tryz.prog,G0,snil,tnil,tnil,unil,k,qnil,false⟩
theorem f99_run (k : Nat) (x : (lTy (lay 0 (f99_sig k).ins)).den) : runF (E_f99 k) Tryz.f99 (f99_sig k) x = (f99_sig k).F x := by kernel_rfl
theorem f99_ok [Dr] (k : Nat) : FnOK Tryz.prog G0 99 (f99_sig k) :=
  fn_ok2 (E := E_f99 k) (env_nil) (qenv_nil) mixed Tryz.func99 Tryz.call99 (by kernel_rfl) (by kernel_rfl) (m := 0) (by kernel_rfl) trivial (sk := []) (by kernel_rfl) trivial (f99_run k)
noncomputable def l100_3 (k : Nat) : Nat → Int → (List Int) → (List (Int×(Int×Int×Int×Unit)×ByteArray×Unit)) → Int → Int → Option (((List Int)×Unit))
 | 0,_,_,_,_,_ => none
 | j + 1,s1,s5,s8,s9,s10 =>
  bif decide (s10 < s9) then
  bif decide (0 ≤ s10) && decide (s10 < (s8.length : Int)) then
  bif (rd ((0,(0,0,0,()),(⟨#[]⟩ : ByteArray),()) : Int×(Int×Int×Int×Unit)×ByteArray×Unit) s8 s10).1 == s1 then
  bif decide ((s5.length + [s10].length) * 8 ≤ roomN) then
  l100_3 k j s1 (s5 ++ [s10]) s8 s9 (w64 (s10 + 1))
  else
  none
  else
  l100_3 k j s1 s5 s8 s9 (w64 (s10 + 1))
  else
  none
  else
  some (s5,())
noncomputable def l100_3_sig (k : Nat) : LoopSig := ⟨[(1,.obj ck1),(5,.obj ck2),(8,.obj ck47),(9,.obj ck1),(10,.obj ck1)],[(.exit 0,[(5,.obj ck2)])],fun j x => l100_3 k j x.1 x.2.1 x.2.2.1 x.2.2.2.1 x.2.2.2.2.1⟩
noncomputable def f100 (k : Nat) (x0 : List (Int×(Int×Int×Int×Unit)×ByteArray×Unit)) (x1 : Int) : Option (((List Int)×Unit)) :=
  (l100_3 k k x1 [] x0 (x0.length : Int) 0).bind fun o1 =>
  some o1
noncomputable def f100_sig (k : Nat) : Sig := ⟨[.val (.sl ty42),.val (.int .i64)],[],[[.row (.int .i64)]],fun x => f100 k x.1 x.2.1⟩
noncomputable def E_f100 (k : Nat) : Env := ⟨Tryz.prog,G0,snil,tcons 3 (l100_3_sig k) (tnil),tnil,unil,k,qnil,false⟩
theorem l100_3_ok (k : Nat) : LoopOK (E_f100 k) ⟨Tryz.f100.ntmps,[],G0⟩ (nthC 0 (loopsIn (Tryz.f100.body.getD .skip))) :=
  loop_ok (ls := l100_3_sig k) (by kernel_rfl) (fun _ => by kernel_rfl) (fun j x => by kernel_rfl)
theorem f100_run (k : Nat) (x : (lTy (lay 0 (f100_sig k).ins)).den) : runF (E_f100 k) Tryz.f100 (f100_sig k) x = (f100_sig k).F x := by kernel_rfl
theorem f100_ok [Dr] (k : Nat) : FnOK Tryz.prog G0 100 (f100_sig k) :=
  fn_ok2 (E := E_f100 k) (env_nil) (qenv_nil) mixed Tryz.func100 Tryz.call100 (by kernel_rfl) (by kernel_rfl) (m := 1) (by kernel_rfl) ⟨trivial,l100_3_ok k⟩ (sk := []) (by kernel_rfl) trivial (f100_run k)
noncomputable def f194 (k : Nat) (x0 : ByteArray×Int×Int×(List (Int×Int×Int×(List (Int×Int×Int×Int×Unit))×Unit))×(List Int)×Bool×Bool×(List (Int×Int×Int×Bool×Unit))×Int×Int×Int×Unit) (x1 : Int) : Option ((ByteArray×Unit)) :=
  bif decide (x0.2.1 = 0) then
  none
  else
  bif decide (x0.2.1 = 0) then
  none
  else
  some (bytesOf [IntKind.u8.wrap (w64 (97 + (x1.tmod x0.2.1))),IntKind.u8.wrap (w64 (49 + (w64 (x1.tdiv x0.2.1))))],())
noncomputable def f194_sig (k : Nat) : Sig := ⟨[.val ty73,.val (.int .i64)],[],[[.val (.str)]],fun x => f194 k x.1 x.2.1⟩
noncomputable def E_f194 (k : Nat) : Env := ⟨Tryz.prog,G0,snil,tnil,tnil,unil,k,qnil,false⟩
theorem f194_run (k : Nat) (x : (lTy (lay 0 (f194_sig k).ins)).den) : runF (E_f194 k) Tryz.f194 (f194_sig k) x = (f194_sig k).F x := by kernel_rfl
theorem f194_ok [Dr] (k : Nat) : FnOK Tryz.prog G0 194 (f194_sig k) :=
  fn_ok2 (E := E_f194 k) (env_nil) (qenv_nil) mixed Tryz.func194 Tryz.call194 (by kernel_rfl) (by kernel_rfl) (m := 0) (by kernel_rfl) trivial (sk := []) (by kernel_rfl) trivial (f194_run k)
noncomputable def l195_3 (k : Nat) : Nat → (ByteArray×Int×Int×(List (Int×Int×Int×(List (Int×Int×Int×Int×Unit))×Unit))×(List Int)×Bool×Bool×(List (Int×Int×Int×Bool×Unit))×Int×Int×Int×Unit) → ((List Int)×((List Int)×(List Int)×Unit)×Int×Int×Unit) → (Int×Int×Int×Unit) → Bool → Bool → Bool → (List (Int×Int×Int×Unit)) → Int → Int → Option (((ByteArray×Int×Int×(List (Int×Int×Int×(List (Int×Int×Int×Int×Unit))×Unit))×(List Int)×Bool×Bool×(List (Int×Int×Int×Bool×Unit))×Int×Int×Int×Unit)×(Int×Int×Int×Unit)×Bool×Bool×Bool×Unit))
 | 0,_,_,_,_,_,_,_,_,_ => none
 | j + 1,s4,s5,s7,s9,s10,s11,s15,s16,s17 =>
  bif decide (s17 < s16) then
  bif decide (0 ≤ s17) && decide (s17 < (s15.length : Int)) then
  bif decide ((rd ((0,0,0,()) : Int×Int×Int×Unit) s15 s17).1 < 0) then
  l195_3 k j s4 s5 s7 s9 s10 s11 s15 s16 (w64 (s17 + 1))
  else
  bif (rd ((0,0,0,()) : Int×Int×Int×Unit) s15 s17).1 == s7.1 then
  l195_3 k j s4 s5 s7 s9 s10 s11 s15 s16 (w64 (s17 + 1))
  else
  bif (rd ((0,0,0,()) : Int×Int×Int×Unit) s15 s17).2.1 != s7.2.1 then
  l195_3 k j s4 s5 s7 s9 s10 s11 s15 s16 (w64 (s17 + 1))
  else
  bif decide (0 ≤ (rd ((0,0,0,()) : Int×Int×Int×Unit) s15 s17).1) && decide ((rd ((0,0,0,()) : Int×Int×Int×Unit) s15 s17).1 < (s5.1.length : Int)) then
  (f110 k (rd (0 : Int) s5.1 (rd ((0,0,0,()) : Int×Int×Int×Unit) s15 s17).1)).bind fun r1 =>
  bif decide (0 ≤ s7.1) && decide (s7.1 < (s5.1.length : Int)) then
  (f110 k (rd (0 : Int) s5.1 s7.1)).bind fun r2 =>
  bif r1.1 != r2.1 then
  l195_3 k j s4 s5 s7 s9 s10 s11 s15 s16 (w64 (s17 + 1))
  else
  bif s9 then
  bif s10 then
  l195_3 k j s4 s5 s7 true true true s15 s16 (w64 (s17 + 1))
  else
  bif decide (s4.2.1 = 0) then
  none
  else
  bif decide (s4.2.1 = 0) then
  none
  else
  l195_3 k j s4 s5 s7 true ((w64 ((rd ((0,0,0,()) : Int×Int×Int×Unit) s15 s17).1.tdiv s4.2.1)) == (w64 (s7.1.tdiv s4.2.1))) true s15 s16 (w64 (s17 + 1))
  else
  bif decide (s4.2.1 = 0) then
  none
  else
  bif decide (s4.2.1 = 0) then
  none
  else
  bif s10 then
  l195_3 k j s4 s5 s7 (((rd ((0,0,0,()) : Int×Int×Int×Unit) s15 s17).1.tmod s4.2.1) == (s7.1.tmod s4.2.1)) true true s15 s16 (w64 (s17 + 1))
  else
  bif decide (s4.2.1 = 0) then
  none
  else
  bif decide (s4.2.1 = 0) then
  none
  else
  l195_3 k j s4 s5 s7 (((rd ((0,0,0,()) : Int×Int×Int×Unit) s15 s17).1.tmod s4.2.1) == (s7.1.tmod s4.2.1)) ((w64 ((rd ((0,0,0,()) : Int×Int×Int×Unit) s15 s17).1.tdiv s4.2.1)) == (w64 (s7.1.tdiv s4.2.1))) true s15 s16 (w64 (s17 + 1))
  else
  none
  else
  none
  else
  none
  else
  some (s4,s7,s9,s10,s11,())
noncomputable def l195_3_sig (k : Nat) : LoopSig := ⟨[(4,.obj ck75),(5,.obj ck53),(7,.obj ck28),(9,.obj (.val (.bool))),(10,.obj (.val (.bool))),(11,.obj (.val (.bool))),(15,.obj (.val (.sl ty23))),(16,.obj ck1),(17,.obj ck1)],[(.exit 0,[(4,.obj ck75),(7,.obj ck28),(9,.obj (.val (.bool))),(10,.obj (.val (.bool))),(11,.obj (.val (.bool)))])],fun j x => l195_3 k j x.1 x.2.1 x.2.2.1 x.2.2.2.1 x.2.2.2.2.1 x.2.2.2.2.2.1 x.2.2.2.2.2.2.1 x.2.2.2.2.2.2.2.1 x.2.2.2.2.2.2.2.2.1⟩
noncomputable def f195 (k : Nat) (x0 : ByteArray×Int×Int×(List (Int×Int×Int×(List (Int×Int×Int×Int×Unit))×Unit))×(List Int)×Bool×Bool×(List (Int×Int×Int×Bool×Unit))×Int×Int×Int×Unit) (x1 : (List Int)×((List Int)×(List Int)×Unit)×Int×Int×Unit) (x2 : List (Int×Int×Int×Unit)) (x3 : Int×Int×Int×Unit) : Option ((ByteArray×Unit)) :=
  (l195_3 k k x0 x1 x3 false false false x2 (x2.length : Int) 0).bind fun o1 =>
  (f194 k o1.1 o1.2.1.1).bind fun r2 =>
  bif !o1.2.2.2.2.1 then
  some ((⟨#[]⟩ : ByteArray),())
  else
  bif !o1.2.2.1 then
  bif decide (1 ≤ (r2.1.size : Int)) then
  some (r2.1.extract (0 : Int).toNat (1 : Int).toNat,())
  else
  none
  else
  bif !o1.2.2.2.1 then
  bif decide (1 ≤ (r2.1.size : Int)) && decide ((r2.1.size : Int) ≤ (r2.1.size : Int)) then
  some (r2.1.extract (1 : Int).toNat (r2.1.size : Int).toNat,())
  else
  none
  else
  some r2
noncomputable def f195_sig (k : Nat) : Sig := ⟨[.val ty73,.val ty49,.val (.sl ty23),.val ty23],[],[[.val (.str)]],fun x => f195 k x.1 x.2.1 x.2.2.1 x.2.2.2.1⟩
noncomputable def E_f195 (k : Nat) : Env := ⟨Tryz.prog,G0,scons 194 [f194_sig k] (scons 110 [f110_sig k] (snil)),tcons 3 (l195_3_sig k) (tnil),tnil,unil,k,qnil,false⟩
theorem l195_3_ok (k : Nat) : LoopOK (E_f195 k) ⟨Tryz.f195.ntmps,[],G0⟩ (nthC 0 (loopsIn (Tryz.f195.body.getD .skip))) :=
  loop_ok (ls := l195_3_sig k) (by kernel_rfl) (fun _ => by kernel_rfl) (fun j x => by kernel_rfl)
theorem f195_run (k : Nat) (x : (lTy (lay 0 (f195_sig k).ins)).den) : runF (E_f195 k) Tryz.f195 (f195_sig k) x = (f195_sig k).F x := by kernel_rfl
theorem f195_ok [Dr] (k : Nat) : FnOK Tryz.prog G0 195 (f195_sig k) :=
  fn_ok2 (E := E_f195 k) (env_cons (one_sig (f194_ok k)) (env_cons (one_sig (f110_ok k)) (env_nil))) (qenv_nil) mixed Tryz.func195 Tryz.call195 (by kernel_rfl) (by kernel_rfl) (m := 1) (by kernel_rfl) ⟨trivial,l195_3_ok k⟩ (sk := []) (by kernel_rfl) trivial (f195_run k)
noncomputable def f166 (k : Nat) (x0 : ByteArray×Int×Int×(List (Int×Int×Int×(List (Int×Int×Int×Int×Unit))×Unit))×(List Int)×Bool×Bool×(List (Int×Int×Int×Bool×Unit))×Int×Int×Int×Unit) (x1 : (List Int)×((List Int)×(List Int)×Unit)×Int×Int×Unit) (x2 : List (Int×Int×Int×Unit)) (x3 : Int×Int×Int×Unit) : Option ((ByteArray×Unit)) :=
  bif decide (x3.1 < 0) then
  bif decide (0 ≤ x3.2.2.1) && decide (x3.2.2.1 < (x0.2.2.2.1.length : Int)) then
  bif fitsS (encS (rd ((0,0,0,[],()) : Int×Int×Int×(List (Int×Int×Int×Int×Unit))×Unit) x0.2.2.2.1 x3.2.2.1).1) (⟨#[64]⟩ : ByteArray) then
  (f194 k x0 x3.2.1).bind fun r1 =>
  bif fitsS ((encS (rd ((0,0,0,[],()) : Int×Int×Int×(List (Int×Int×Int×Int×Unit))×Unit) x0.2.2.2.1 x3.2.2.1).1) ++ (⟨#[64]⟩ : ByteArray)) r1.1 then
  some (((encS (rd ((0,0,0,[],()) : Int×Int×Int×(List (Int×Int×Int×Int×Unit))×Unit) x0.2.2.2.1 x3.2.2.1).1) ++ (⟨#[64]⟩ : ByteArray)) ++ r1.1,())
  else
  none
  else
  none
  else
  none
  else
  bif decide (0 ≤ x3.1) && decide (x3.1 < (x1.1.length : Int)) then
  (f110 k (rd (0 : Int) x1.1 x3.1)).bind fun r2 =>
  bif decide (0 ≤ r2.1) && decide (r2.1 < (x0.2.2.2.1.length : Int)) then
  (f195 k x0 x1 x2 x3).bind fun r3 =>
  bif fitsS (encS (rd ((0,0,0,[],()) : Int×Int×Int×(List (Int×Int×Int×Int×Unit))×Unit) x0.2.2.2.1 r2.1).1) r3.1 then
  bif decide (0 ≤ x3.2.1) && decide (x3.2.1 < (x1.1.length : Int)) then
  bif (rd (0 : Int) x1.1 x3.2.1) != 0 then
  bif fitsS ((encS (rd ((0,0,0,[],()) : Int×Int×Int×(List (Int×Int×Int×Int×Unit))×Unit) x0.2.2.2.1 r2.1).1) ++ r3.1) (⟨#[120]⟩ : ByteArray) then
  (f194 k x0 x3.2.1).bind fun r4 =>
  bif fitsS (((encS (rd ((0,0,0,[],()) : Int×Int×Int×(List (Int×Int×Int×Int×Unit))×Unit) x0.2.2.2.1 r2.1).1) ++ r3.1) ++ (⟨#[120]⟩ : ByteArray)) r4.1 then
  bif x3.2.2.1 != r2.1 then
  bif decide (0 ≤ x3.2.2.1) && decide (x3.2.2.1 < (x0.2.2.2.1.length : Int)) then
  bif fitsS (⟨#[61]⟩ : ByteArray) (encS (rd ((0,0,0,[],()) : Int×Int×Int×(List (Int×Int×Int×Int×Unit))×Unit) x0.2.2.2.1 x3.2.2.1).1) then
  bif fitsS ((((encS (rd ((0,0,0,[],()) : Int×Int×Int×(List (Int×Int×Int×Int×Unit))×Unit) x0.2.2.2.1 r2.1).1) ++ r3.1) ++ (⟨#[120]⟩ : ByteArray)) ++ r4.1) ((⟨#[61]⟩ : ByteArray) ++ (encS (rd ((0,0,0,[],()) : Int×Int×Int×(List (Int×Int×Int×Int×Unit))×Unit) x0.2.2.2.1 x3.2.2.1).1)) then
  some (((((encS (rd ((0,0,0,[],()) : Int×Int×Int×(List (Int×Int×Int×Int×Unit))×Unit) x0.2.2.2.1 r2.1).1) ++ r3.1) ++ (⟨#[120]⟩ : ByteArray)) ++ r4.1) ++ ((⟨#[61]⟩ : ByteArray) ++ (encS (rd ((0,0,0,[],()) : Int×Int×Int×(List (Int×Int×Int×Int×Unit))×Unit) x0.2.2.2.1 x3.2.2.1).1)),())
  else
  none
  else
  none
  else
  none
  else
  some ((((encS (rd ((0,0,0,[],()) : Int×Int×Int×(List (Int×Int×Int×Int×Unit))×Unit) x0.2.2.2.1 r2.1).1) ++ r3.1) ++ (⟨#[120]⟩ : ByteArray)) ++ r4.1,())
  else
  none
  else
  none
  else
  (f194 k x0 x3.2.1).bind fun r5 =>
  bif fitsS ((encS (rd ((0,0,0,[],()) : Int×Int×Int×(List (Int×Int×Int×Int×Unit))×Unit) x0.2.2.2.1 r2.1).1) ++ r3.1) r5.1 then
  bif x3.2.2.1 != r2.1 then
  bif decide (0 ≤ x3.2.2.1) && decide (x3.2.2.1 < (x0.2.2.2.1.length : Int)) then
  bif fitsS (⟨#[61]⟩ : ByteArray) (encS (rd ((0,0,0,[],()) : Int×Int×Int×(List (Int×Int×Int×Int×Unit))×Unit) x0.2.2.2.1 x3.2.2.1).1) then
  bif fitsS (((encS (rd ((0,0,0,[],()) : Int×Int×Int×(List (Int×Int×Int×Int×Unit))×Unit) x0.2.2.2.1 r2.1).1) ++ r3.1) ++ r5.1) ((⟨#[61]⟩ : ByteArray) ++ (encS (rd ((0,0,0,[],()) : Int×Int×Int×(List (Int×Int×Int×Int×Unit))×Unit) x0.2.2.2.1 x3.2.2.1).1)) then
  some ((((encS (rd ((0,0,0,[],()) : Int×Int×Int×(List (Int×Int×Int×Int×Unit))×Unit) x0.2.2.2.1 r2.1).1) ++ r3.1) ++ r5.1) ++ ((⟨#[61]⟩ : ByteArray) ++ (encS (rd ((0,0,0,[],()) : Int×Int×Int×(List (Int×Int×Int×Int×Unit))×Unit) x0.2.2.2.1 x3.2.2.1).1)),())
  else
  none
  else
  none
  else
  none
  else
  some (((encS (rd ((0,0,0,[],()) : Int×Int×Int×(List (Int×Int×Int×Int×Unit))×Unit) x0.2.2.2.1 r2.1).1) ++ r3.1) ++ r5.1,())
  else
  none
  else
  none
  else
  none
  else
  none
  else
  none
noncomputable def f166_sig (k : Nat) : Sig := ⟨[.val ty73,.val ty49,.val (.sl ty23),.val ty23],[],[[.val (.str)]],fun x => f166 k x.1 x.2.1 x.2.2.1 x.2.2.2.1⟩
noncomputable def E_f166 (k : Nat) : Env := ⟨Tryz.prog,G0,scons 195 [f195_sig k] (scons 194 [f194_sig k] (scons 110 [f110_sig k] (snil))),tnil,tnil,unil,k,qnil,false⟩
theorem f166_run (k : Nat) (x : (lTy (lay 0 (f166_sig k).ins)).den) : runF (E_f166 k) Tryz.f166 (f166_sig k) x = (f166_sig k).F x := by kernel_rfl
theorem f166_ok [Dr] (k : Nat) : FnOK Tryz.prog G0 166 (f166_sig k) :=
  fn_ok2 (E := E_f166 k) (env_cons (one_sig (f195_ok k)) (env_cons (one_sig (f194_ok k)) (env_cons (one_sig (f110_ok k)) (env_nil)))) (qenv_nil) mixed Tryz.func166 Tryz.call166 (by kernel_rfl) (by kernel_rfl) (m := 0) (by kernel_rfl) trivial (sk := []) (by kernel_rfl) trivial (f166_run k)
noncomputable def l138_6 (k : Nat) : Nat → (ByteArray×Int×Int×(List (Int×Int×Int×(List (Int×Int×Int×Int×Unit))×Unit))×(List Int)×Bool×Bool×(List (Int×Int×Int×Bool×Unit))×Int×Int×Int×Unit) → ((List Int)×((List Int)×(List Int)×Unit)×Int×Int×Unit) → (Int×Int×Int×Unit) → (List (Int×Int×Int×Unit)) → Unit → Int → Int → Option (Unit ⊕ (ByteArray×Int×Unit))
 | 0,_,_,_,_,_,_,_ => none
 | j + 1,s3,s4,s5,s9,s21,s22,s23 =>
  bif decide (s23 < s22) then
  bif decide (0 ≤ s23) && decide (s23 < (s9.length : Int)) then
  bif ((rd ((0,0,0,()) : Int×Int×Int×Unit) s9 s23).1 == s5.1) && (((rd ((0,0,0,()) : Int×Int×Int×Unit) s9 s23).2.1 == s5.2.1) && (((rd ((0,0,0,()) : Int×Int×Int×Unit) s9 s23).2.2.1 == s5.2.2.1) && true)) then
  (f166 k s3 s4 s9 s5).bind fun r1 =>
  some (.inr (r1.1,0,()))
  else
  l138_6 k j s3 s4 s5 s9 () s22 (w64 (s23 + 1))
  else
  none
  else
  some (.inl ())
noncomputable def l138_6_sig (k : Nat) : LoopSig := ⟨[(3,.obj ck75),(4,.obj ck53),(5,.obj ck28),(9,.obj ck25),(21,.same 9),(22,.obj ck1),(23,.obj ck1)],[(.exit 0,[]),(.ret,[(6,.obj (.val (.str))),(7,.obj ck1)])],fun j x => l138_6 k j x.1 x.2.1 x.2.2.1 x.2.2.2.1 x.2.2.2.2.1 x.2.2.2.2.2.1 x.2.2.2.2.2.2.1⟩
noncomputable def f138 (k : Nat) (x0 : ByteArray×Int×Int×(List (Int×Int×Int×(List (Int×Int×Int×Int×Unit))×Unit))×(List Int)×Bool×Bool×(List (Int×Int×Int×Bool×Unit))×Int×Int×Int×Unit) (x1 : (List Int)×((List Int)×(List Int)×Unit)×Int×Int×Unit) (x2 : Int×Int×Int×Unit) : Option ((ByteArray×Int×Unit)) :=
  (f117 k x0 x1).bind fun r1 =>
  bif r1.1 != 0 then
  some ((⟨#[]⟩ : ByteArray),r1)
  else
  (f75 k x0 x1).bind fun r2 =>
  (l138_6 k k x0 x1 x2 r2.1 () (r2.1.length : Int) 0).bind fun q40 =>
  Sum.elim
  (fun y3 =>
  some ((⟨#[]⟩ : ByteArray),13,()))
  (fun y4 =>
  some y4)
  q40
noncomputable def f138_sig (k : Nat) : Sig := ⟨[.val ty73,.val ty49,.val ty23],[],[[.val (.str),.val (.int .i64)]],fun x => f138 k x.1 x.2.1 x.2.2.1⟩
noncomputable def E_f138 (k : Nat) : Env := ⟨Tryz.prog,G0,scons 166 [f166_sig k] (scons 117 [f117_sig k] (scons 75 [f75_sig k] (snil))),tcons 6 (l138_6_sig k) (tnil),tnil,unil,k,qnil,false⟩
theorem l138_6_ok (k : Nat) : LoopOK (E_f138 k) ⟨Tryz.f138.ntmps,[],G0⟩ (nthC 0 (loopsIn (Tryz.f138.body.getD .skip))) :=
  loop_ok (ls := l138_6_sig k) (by kernel_rfl) (fun _ => by kernel_rfl) (fun j x => by kernel_rfl)
theorem f138_run (k : Nat) (x : (lTy (lay 0 (f138_sig k).ins)).den) : runF (E_f138 k) Tryz.f138 (f138_sig k) x = (f138_sig k).F x := by kernel_rfl
theorem f138_ok [Dr] (k : Nat) : FnOK Tryz.prog G0 138 (f138_sig k) :=
  fn_ok2 (E := E_f138 k) (env_cons (one_sig (f166_ok k)) (env_cons (one_sig (f117_ok k)) (env_cons (one_sig (f75_ok k)) (env_nil)))) (qenv_nil) mixed Tryz.func138 Tryz.call138 (by kernel_rfl) (by kernel_rfl) (m := 1) (by kernel_rfl) ⟨trivial,l138_6_ok k⟩ (sk := []) (by kernel_rfl) trivial (f138_run k)
noncomputable def l101_6 (k : Nat) (rec : ((ByteArray×Int×Int×(List (Int×Int×Int×(List (Int×Int×Int×Int×Unit))×Unit))×(List Int)×Bool×Bool×(List (Int×Int×Int×Bool×Unit))×Int×Int×Int×Unit)×((List (ByteArray×ByteArray×Unit))×ByteArray×(List (Int×(Int×Int×Int×Unit)×ByteArray×Unit))×Int×Unit)×(List ByteArray)×Unit) → ((ByteArray×Int×Int×(List (Int×Int×Int×(List (Int×Int×Int×Int×Unit))×Unit))×(List Int)×Bool×Bool×(List (Int×Int×Int×Bool×Unit))×Int×Int×Int×Unit)×(List ((List Int)×((List Int)×(List Int)×Unit)×Int×Int×Unit))×(List (Int×Int×Int×Unit))×Unit) → Int → (List Int) → Option ((((ByteArray×Int×Int×(List (Int×Int×Int×(List (Int×Int×Int×Int×Unit))×Unit))×(List Int)×Bool×Bool×(List (Int×Int×Int×Bool×Unit))×Int×Int×Int×Unit)×((List (ByteArray×ByteArray×Unit))×ByteArray×(List (Int×(Int×Int×Int×Unit)×ByteArray×Unit))×Int×Unit)×(List ByteArray)×Unit)×((ByteArray×Int×Int×(List (Int×Int×Int×(List (Int×Int×Int×Int×Unit))×Unit))×(List Int)×Bool×Bool×(List (Int×Int×Int×Bool×Unit))×Int×Int×Int×Unit)×(List ((List Int)×((List Int)×(List Int)×Unit)×Int×Int×Unit))×(List (Int×Int×Int×Unit))×Unit)×Unit))) : Nat → ((ByteArray×Int×Int×(List (Int×Int×Int×(List (Int×Int×Int×Int×Unit))×Unit))×(List Int)×Bool×Bool×(List (Int×Int×Int×Bool×Unit))×Int×Int×Int×Unit)×((List (ByteArray×ByteArray×Unit))×ByteArray×(List (Int×(Int×Int×Int×Unit)×ByteArray×Unit))×Int×Unit)×(List ByteArray)×Unit) → ((ByteArray×Int×Int×(List (Int×Int×Int×(List (Int×Int×Int×Int×Unit))×Unit))×(List Int)×Bool×Bool×(List (Int×Int×Int×Bool×Unit))×Int×Int×Int×Unit)×(List ((List Int)×((List Int)×(List Int)×Unit)×Int×Int×Unit))×(List (Int×Int×Int×Unit))×Unit) → Int → (Int×(Int×Int×Int×Unit)×ByteArray×Unit) → (List Int) → Int → Int → Option ((((ByteArray×Int×Int×(List (Int×Int×Int×(List (Int×Int×Int×Int×Unit))×Unit))×(List Int)×Bool×Bool×(List (Int×Int×Int×Bool×Unit))×Int×Int×Int×Unit)×((List (ByteArray×ByteArray×Unit))×ByteArray×(List (Int×(Int×Int×Int×Unit)×ByteArray×Unit))×Int×Unit)×(List ByteArray)×Unit)×((ByteArray×Int×Int×(List (Int×Int×Int×(List (Int×Int×Int×Int×Unit))×Unit))×(List Int)×Bool×Bool×(List (Int×Int×Int×Bool×Unit))×Int×Int×Int×Unit)×(List ((List Int)×((List Int)×(List Int)×Unit)×Int×Int×Unit))×(List (Int×Int×Int×Unit))×Unit)×Int×(Int×(Int×Int×Int×Unit)×ByteArray×Unit)×Unit))
 | 0,_,_,_,_,_,_,_ => none
 | j + 1,s0,s1,s2,s8,s46,s47,s48 =>
  bif decide (s48 < s47) then
  bif decide (0 ≤ s48) && decide (s48 < (s46.length : Int)) then
  bif decide ((s0.2.2.1.length + [(⟨#[40]⟩ : ByteArray)].length) * 16 ≤ roomN) then
  (rec (s0.1,s0.2.1,s0.2.2.1 ++ [(⟨#[40]⟩ : ByteArray)],()) s1 (rd (0 : Int) s46 s48) []).bind fun r1 =>
  bif decide (0 ≤ (w64 ((r1.1.2.2.1.length : Int) - 1))) && decide ((w64 ((r1.1.2.2.1.length : Int) - 1)) < (r1.1.2.2.1.length : Int)) then
  bif fitsS (rd (⟨#[]⟩ : ByteArray) r1.1.2.2.1 (w64 ((r1.1.2.2.1.length : Int) - 1))) (⟨#[41]⟩ : ByteArray) then
  bif decide (0 ≤ (w64 ((r1.1.2.2.1.length : Int) - 1))) && decide ((w64 ((r1.1.2.2.1.length : Int) - 1)) < (r1.1.2.2.1.length : Int)) then
  l101_6 k rec j (r1.1.1,r1.1.2.1,r1.1.2.2.1.set (w64 ((r1.1.2.2.1.length : Int) - 1)).toNat ((rd (⟨#[]⟩ : ByteArray) r1.1.2.2.1 (w64 ((r1.1.2.2.1.length : Int) - 1))) ++ (⟨#[41]⟩ : ByteArray)),()) r1.2.1 s2 s8 s46 s47 (w64 (s48 + 1))
  else
  none
  else
  none
  else
  none
  else
  none
  else
  none
  else
  some (s0,s1,s2,s8,())
noncomputable def f101_body (k : Nat) (rec : ((ByteArray×Int×Int×(List (Int×Int×Int×(List (Int×Int×Int×Int×Unit))×Unit))×(List Int)×Bool×Bool×(List (Int×Int×Int×Bool×Unit))×Int×Int×Int×Unit)×((List (ByteArray×ByteArray×Unit))×ByteArray×(List (Int×(Int×Int×Int×Unit)×ByteArray×Unit))×Int×Unit)×(List ByteArray)×Unit) → ((ByteArray×Int×Int×(List (Int×Int×Int×(List (Int×Int×Int×Int×Unit))×Unit))×(List Int)×Bool×Bool×(List (Int×Int×Int×Bool×Unit))×Int×Int×Int×Unit)×(List ((List Int)×((List Int)×(List Int)×Unit)×Int×Int×Unit))×(List (Int×Int×Int×Unit))×Unit) → Int → (List Int) → Option ((((ByteArray×Int×Int×(List (Int×Int×Int×(List (Int×Int×Int×Int×Unit))×Unit))×(List Int)×Bool×Bool×(List (Int×Int×Int×Bool×Unit))×Int×Int×Int×Unit)×((List (ByteArray×ByteArray×Unit))×ByteArray×(List (Int×(Int×Int×Int×Unit)×ByteArray×Unit))×Int×Unit)×(List ByteArray)×Unit)×((ByteArray×Int×Int×(List (Int×Int×Int×(List (Int×Int×Int×Int×Unit))×Unit))×(List Int)×Bool×Bool×(List (Int×Int×Int×Bool×Unit))×Int×Int×Int×Unit)×(List ((List Int)×((List Int)×(List Int)×Unit)×Int×Int×Unit))×(List (Int×Int×Int×Unit))×Unit)×Unit))) (x0 : (ByteArray×Int×Int×(List (Int×Int×Int×(List (Int×Int×Int×Int×Unit))×Unit))×(List Int)×Bool×Bool×(List (Int×Int×Int×Bool×Unit))×Int×Int×Int×Unit)×((List (ByteArray×ByteArray×Unit))×ByteArray×(List (Int×(Int×Int×Int×Unit)×ByteArray×Unit))×Int×Unit)×(List ByteArray)×Unit) (x1 : (ByteArray×Int×Int×(List (Int×Int×Int×(List (Int×Int×Int×Int×Unit))×Unit))×(List Int)×Bool×Bool×(List (Int×Int×Int×Bool×Unit))×Int×Int×Int×Unit)×(List ((List Int)×((List Int)×(List Int)×Unit)×Int×Int×Unit))×(List (Int×Int×Int×Unit))×Unit) (x2 : Int) (x3 : List Int) : Option ((((ByteArray×Int×Int×(List (Int×Int×Int×(List (Int×Int×Int×Int×Unit))×Unit))×(List Int)×Bool×Bool×(List (Int×Int×Int×Bool×Unit))×Int×Int×Int×Unit)×((List (ByteArray×ByteArray×Unit))×ByteArray×(List (Int×(Int×Int×Int×Unit)×ByteArray×Unit))×Int×Unit)×(List ByteArray)×Unit)×((ByteArray×Int×Int×(List (Int×Int×Int×(List (Int×Int×Int×Int×Unit))×Unit))×(List Int)×Bool×Bool×(List (Int×Int×Int×Bool×Unit))×Int×Int×Int×Unit)×(List ((List Int)×((List Int)×(List Int)×Unit)×Int×Int×Unit))×(List (Int×Int×Int×Unit))×Unit)×Unit)) :=
  bif decide (0 ≤ x2) && decide (x2 < (x0.2.1.2.2.1.length : Int)) then
  (f52 k x1).bind fun r1 =>
  (f138 k x0.1 r1.1 (rd ((0,(0,0,0,()),(⟨#[]⟩ : ByteArray),()) : Int×(Int×Int×Int×Unit)×ByteArray×Unit) x0.2.1.2.2.1 x2).2.1).bind fun r2 =>
  (f99 k x0 r2.1).bind fun r3 =>
  bif !((rd ((0,(0,0,0,()),(⟨#[]⟩ : ByteArray),()) : Int×(Int×Int×Int×Unit)×ByteArray×Unit) x0.2.1.2.2.1 x2).2.2.1.toList == (⟨#[]⟩ : ByteArray).toList) then
  bif fitsS (⟨#[123]⟩ : ByteArray) (rd ((0,(0,0,0,()),(⟨#[]⟩ : ByteArray),()) : Int×(Int×Int×Int×Unit)×ByteArray×Unit) x0.2.1.2.2.1 x2).2.2.1 then
  bif fitsS ((⟨#[123]⟩ : ByteArray) ++ (rd ((0,(0,0,0,()),(⟨#[]⟩ : ByteArray),()) : Int×(Int×Int×Int×Unit)×ByteArray×Unit) x0.2.1.2.2.1 x2).2.2.1) (⟨#[125]⟩ : ByteArray) then
  (f99 k r3.1 (((⟨#[123]⟩ : ByteArray) ++ (rd ((0,(0,0,0,()),(⟨#[]⟩ : ByteArray),()) : Int×(Int×Int×Int×Unit)×ByteArray×Unit) x0.2.1.2.2.1 x2).2.2.1) ++ (⟨#[125]⟩ : ByteArray))).bind fun r4 =>
  (l101_6 k rec k r4.1 x1 x2 (rd ((0,(0,0,0,()),(⟨#[]⟩ : ByteArray),()) : Int×(Int×Int×Int×Unit)×ByteArray×Unit) x0.2.1.2.2.1 x2) x3 (x3.length : Int) 0).bind fun o5 =>
  (f51 k o5.2.1 o5.2.2.2.1.2.1).bind fun r6 =>
  (f100 k o5.1.2.1.2.2.1 o5.2.2.1).bind fun r7 =>
  bif decide ((r7.1.length : Int) > 0) then
  bif decide (0 < (r7.1.length : Int)) then
  bif decide (1 ≤ (r7.1.length : Int)) && decide ((r7.1.length : Int) ≤ (r7.1.length : Int)) then
  (rec o5.1 r6.2.1 (rd (0 : Int) r7.1 0) ((r7.1.drop 1).take ((r7.1.length : Int) - 1).toNat)).bind fun r8 =>
  (f82 k r8.2.1).bind fun r9 =>
  some (r8.1,r9.2)
  else
  none
  else
  none
  else
  (f82 k r6.2.1).bind fun r10 =>
  some (o5.1,r10.2)
  else
  none
  else
  none
  else
  (l101_6 k rec k r3.1 x1 x2 (rd ((0,(0,0,0,()),(⟨#[]⟩ : ByteArray),()) : Int×(Int×Int×Int×Unit)×ByteArray×Unit) x0.2.1.2.2.1 x2) x3 (x3.length : Int) 0).bind fun o11 =>
  (f51 k o11.2.1 o11.2.2.2.1.2.1).bind fun r12 =>
  (f100 k o11.1.2.1.2.2.1 o11.2.2.1).bind fun r13 =>
  bif decide ((r13.1.length : Int) > 0) then
  bif decide (0 < (r13.1.length : Int)) then
  bif decide (1 ≤ (r13.1.length : Int)) && decide ((r13.1.length : Int) ≤ (r13.1.length : Int)) then
  (rec o11.1 r12.2.1 (rd (0 : Int) r13.1 0) ((r13.1.drop 1).take ((r13.1.length : Int) - 1).toNat)).bind fun r14 =>
  (f82 k r14.2.1).bind fun r15 =>
  some (r14.1,r15.2)
  else
  none
  else
  none
  else
  (f82 k r12.2.1).bind fun r16 =>
  some (o11.1,r16.2)
  else
  none
noncomputable def f101_at (k : Nat) : Nat → ((ByteArray×Int×Int×(List (Int×Int×Int×(List (Int×Int×Int×Int×Unit))×Unit))×(List Int)×Bool×Bool×(List (Int×Int×Int×Bool×Unit))×Int×Int×Int×Unit)×((List (ByteArray×ByteArray×Unit))×ByteArray×(List (Int×(Int×Int×Int×Unit)×ByteArray×Unit))×Int×Unit)×(List ByteArray)×Unit) → ((ByteArray×Int×Int×(List (Int×Int×Int×(List (Int×Int×Int×Int×Unit))×Unit))×(List Int)×Bool×Bool×(List (Int×Int×Int×Bool×Unit))×Int×Int×Int×Unit)×(List ((List Int)×((List Int)×(List Int)×Unit)×Int×Int×Unit))×(List (Int×Int×Int×Unit))×Unit) → Int → (List Int) → Option ((((ByteArray×Int×Int×(List (Int×Int×Int×(List (Int×Int×Int×Int×Unit))×Unit))×(List Int)×Bool×Bool×(List (Int×Int×Int×Bool×Unit))×Int×Int×Int×Unit)×((List (ByteArray×ByteArray×Unit))×ByteArray×(List (Int×(Int×Int×Int×Unit)×ByteArray×Unit))×Int×Unit)×(List ByteArray)×Unit)×((ByteArray×Int×Int×(List (Int×Int×Int×(List (Int×Int×Int×Int×Unit))×Unit))×(List Int)×Bool×Bool×(List (Int×Int×Int×Bool×Unit))×Int×Int×Int×Unit)×(List ((List Int)×((List Int)×(List Int)×Unit)×Int×Int×Unit))×(List (Int×Int×Int×Unit))×Unit)×Unit))
 | 0,_,_,_,_ => none
 | d + 1,x0,x1,x2,x3 => f101_body k (f101_at k d) x0 x1 x2 x3
noncomputable def f101 (k : Nat) (x0 : (ByteArray×Int×Int×(List (Int×Int×Int×(List (Int×Int×Int×Int×Unit))×Unit))×(List Int)×Bool×Bool×(List (Int×Int×Int×Bool×Unit))×Int×Int×Int×Unit)×((List (ByteArray×ByteArray×Unit))×ByteArray×(List (Int×(Int×Int×Int×Unit)×ByteArray×Unit))×Int×Unit)×(List ByteArray)×Unit) (x1 : (ByteArray×Int×Int×(List (Int×Int×Int×(List (Int×Int×Int×Int×Unit))×Unit))×(List Int)×Bool×Bool×(List (Int×Int×Int×Bool×Unit))×Int×Int×Int×Unit)×(List ((List Int)×((List Int)×(List Int)×Unit)×Int×Int×Unit))×(List (Int×Int×Int×Unit))×Unit) (x2 : Int) (x3 : List Int) : Option ((((ByteArray×Int×Int×(List (Int×Int×Int×(List (Int×Int×Int×Int×Unit))×Unit))×(List Int)×Bool×Bool×(List (Int×Int×Int×Bool×Unit))×Int×Int×Int×Unit)×((List (ByteArray×ByteArray×Unit))×ByteArray×(List (Int×(Int×Int×Int×Unit)×ByteArray×Unit))×Int×Unit)×(List ByteArray)×Unit)×((ByteArray×Int×Int×(List (Int×Int×Int×(List (Int×Int×Int×Int×Unit))×Unit))×(List Int)×Bool×Bool×(List (Int×Int×Int×Bool×Unit))×Int×Int×Int×Unit)×(List ((List Int)×((List Int)×(List Int)×Unit)×Int×Int×Unit))×(List (Int×Int×Int×Unit))×Unit)×Unit)) := f101_at k k x0 x1 x2 x3
noncomputable def l101_6_sig (k d : Nat) : LoopSig := ⟨[(0,.obj (.box 183 ck85)),(1,.obj ck84),(2,.obj ck1),(8,.obj ck48),(46,.obj ck6),(47,.obj ck1),(48,.obj ck1)],[(.exit 0,[(0,.obj (.box 183 ck85)),(1,.obj ck84),(2,.obj ck1),(8,.obj ck48)])],fun j x => l101_6 k (f101_at k d) j x.1 x.2.1 x.2.2.1 x.2.2.2.1 x.2.2.2.2.1 x.2.2.2.2.2.1 x.2.2.2.2.2.2.1⟩
noncomputable def f101_sig_at (k d : Nat) : Sig := ⟨[.box 183 (.cons (.val (.pair (.str) (.pair (.int .i64) (.pair (.int .i64) (.pair (.sl (.pair (.int .u8) (.pair (.int .i64) (.pair (.int .i64) (.pair (.sl (.pair (.int .i64) (.pair (.int .i64) (.pair (.int .i64) (.pair (.int .i64) (.unit)))))) (.unit)))))) (.pair (.sl (.int .i64)) (.pair (.bool) (.pair (.bool) (.pair (.sl (.pair (.int .i64) (.pair (.int .i64) (.pair (.int .i64) (.pair (.bool) (.unit)))))) (.pair (.int .i64) (.pair (.int .i64) (.pair (.int .i64) (.unit))))))))))))) (.cons (.val (.pair (.sl (.pair (.str) (.pair (.str) (.unit)))) (.pair (.str) (.pair (.sl (.pair (.int .i64) (.pair (.pair (.int .i64) (.pair (.int .i64) (.pair (.int .i64) (.unit)))) (.pair (.str) (.unit))))) (.pair (.int .i64) (.unit)))))) (.cons (.row (.str)) (.nil)))),.box 140 (.cons (.val (.pair (.str) (.pair (.int .i64) (.pair (.int .i64) (.pair (.sl (.pair (.int .u8) (.pair (.int .i64) (.pair (.int .i64) (.pair (.sl (.pair (.int .i64) (.pair (.int .i64) (.pair (.int .i64) (.pair (.int .i64) (.unit)))))) (.unit)))))) (.pair (.sl (.int .i64)) (.pair (.bool) (.pair (.bool) (.pair (.sl (.pair (.int .i64) (.pair (.int .i64) (.pair (.int .i64) (.pair (.bool) (.unit)))))) (.pair (.int .i64) (.pair (.int .i64) (.pair (.int .i64) (.unit))))))))))))) (.cons (.row (.pair (.sl (.int .i64)) (.pair (.pair (.sl (.int .i64)) (.pair (.sl (.int .i64)) (.unit))) (.pair (.int .i64) (.pair (.int .i64) (.unit)))))) (.cons (.row (.pair (.int .i64) (.pair (.int .i64) (.pair (.int .i64) (.unit))))) (.nil)))),.val (.int .i64),.val (.sl (.int .i64))],[0,1],[[.box 183 (.cons (.val (.pair (.str) (.pair (.int .i64) (.pair (.int .i64) (.pair (.sl (.pair (.int .u8) (.pair (.int .i64) (.pair (.int .i64) (.pair (.sl (.pair (.int .i64) (.pair (.int .i64) (.pair (.int .i64) (.pair (.int .i64) (.unit)))))) (.unit)))))) (.pair (.sl (.int .i64)) (.pair (.bool) (.pair (.bool) (.pair (.sl (.pair (.int .i64) (.pair (.int .i64) (.pair (.int .i64) (.pair (.bool) (.unit)))))) (.pair (.int .i64) (.pair (.int .i64) (.pair (.int .i64) (.unit))))))))))))) (.cons (.val (.pair (.sl (.pair (.str) (.pair (.str) (.unit)))) (.pair (.str) (.pair (.sl (.pair (.int .i64) (.pair (.pair (.int .i64) (.pair (.int .i64) (.pair (.int .i64) (.unit)))) (.pair (.str) (.unit))))) (.pair (.int .i64) (.unit)))))) (.cons (.row (.str)) (.nil)))),.box 140 (.cons (.val (.pair (.str) (.pair (.int .i64) (.pair (.int .i64) (.pair (.sl (.pair (.int .u8) (.pair (.int .i64) (.pair (.int .i64) (.pair (.sl (.pair (.int .i64) (.pair (.int .i64) (.pair (.int .i64) (.pair (.int .i64) (.unit)))))) (.unit)))))) (.pair (.sl (.int .i64)) (.pair (.bool) (.pair (.bool) (.pair (.sl (.pair (.int .i64) (.pair (.int .i64) (.pair (.int .i64) (.pair (.bool) (.unit)))))) (.pair (.int .i64) (.pair (.int .i64) (.pair (.int .i64) (.unit))))))))))))) (.cons (.row (.pair (.sl (.int .i64)) (.pair (.pair (.sl (.int .i64)) (.pair (.sl (.int .i64)) (.unit))) (.pair (.int .i64) (.pair (.int .i64) (.unit)))))) (.cons (.row (.pair (.int .i64) (.pair (.int .i64) (.pair (.int .i64) (.unit))))) (.nil))))]],fun x => f101_at k d x.1 x.2.1 x.2.2.1 x.2.2.2.1⟩
noncomputable def f101_sig (k : Nat) : Sig := ⟨[.box 183 ck85,.box 140 ck82,.val (.int .i64),.val ty0],[0,1],[[.box 183 ck85,.box 140 ck82]],fun x => f101 k x.1 x.2.1 x.2.2.1 x.2.2.2.1⟩
noncomputable def E_f101 (k d : Nat) : Env := ⟨Tryz.prog,G0,scons 138 [f138_sig k] (scons 100 [f100_sig k] (scons 99 [f99_sig k] (scons 82 [f82_sig k] (scons 51 [f51_sig k] (scons 101 [f101_sig_at k d] (snil)))))),tcons 6 (l101_6_sig k d) (tnil),tnil,unil,k,qcons 52 (f52_q k) (qnil),false⟩
theorem l101_6_ok (k d : Nat) : LoopOK (E_f101 k d) ⟨Tryz.f101.ntmps,[0,1],G0⟩ (nthC 0 (loopsIn (Tryz.f101.body.getD .skip))) :=
  loop_ok (ls := l101_6_sig k d) (by kernel_rfl) (fun _ => by kernel_rfl) (fun j x => by kernel_rfl)
theorem f101_run (k d : Nat) (x : (lTy (lay 0 (f101_sig_at k (d + 1)).ins)).den) : runF (E_f101 k d) Tryz.f101 (f101_sig_at k (d + 1)) x = (f101_sig_at k (d + 1)).F x := by kernel_rfl
theorem f101_ok_at [Dr] (k : Nat) : (d : Nat) → FnOK Tryz.prog G0 101 (f101_sig_at k d)
  | 0 => fn_none Tryz.call101 (fun _ => rfl)
  | d + 1 => fn_ok2 (E := E_f101 k d) (env_cons (one_sig (f138_ok k)) (env_cons (one_sig (f100_ok k)) (env_cons (one_sig (f99_ok k)) (env_cons (one_sig (f82_ok k)) (env_cons (one_sig (f51_ok k)) (env_cons (one_sig (f101_ok_at k d)) (env_nil))))))) (qenv_cons (f52_qok k) (qenv_nil)) mixed Tryz.func101 Tryz.call101 (by kernel_rfl) (by kernel_rfl) (m := 1) (by kernel_rfl) ⟨trivial,l101_6_ok k d⟩ (sk := []) (by kernel_rfl) trivial (f101_run k d)
theorem f101_ok [Dr] (k : Nat) : FnOK Tryz.prog G0 101 (f101_sig k) := f101_ok_at k k
noncomputable def f103 (k : Nat) (x0 : (Unit×(List (Int×Unit×Unit×Unit×Unit×Unit×Unit×Unit))×Unit)) : Option (ByteArray×((Unit×Unit×Unit))×Unit) := bif okU (x0.2.1.map (fun z => z.1)) then some (strU (x0.2.1.map (fun z => z.1)),(((),(),()) : (Unit×Unit×Unit)),()) else none
noncomputable def f103_sig (k : Nat) : Sig := ⟨[.box 178 ck54],[0],[[.val .str,.box 178 (.cons (.slf) (.cons (.skip) (.nil)))]],fun x => f103 k x.1⟩
theorem f103_ok [Dr] (k : Nat) : FnOK Tryz.prog G0 103 (f103_sig k) := bld_string_slf (ρ := joinL_ren) { joinL with } joinX Tryz.call103
noncomputable def f12 (k : Nat) (x0 : (ByteArray×Int×Int×(List (Int×Int×Int×(List (Int×Int×Int×Int×Unit))×Unit))×(List Int)×Bool×Bool×(List (Int×Int×Int×Bool×Unit))×Int×Int×Int×Unit)×((List (Int×Int×Unit))×Int×Int×Unit)×((ByteArray×Int×Int×(List (Int×Int×Int×(List (Int×Int×Int×Int×Unit))×Unit))×(List Int)×Bool×Bool×(List (Int×Int×Int×Bool×Unit))×Int×Int×Int×Unit)×(List ((List Int)×((List Int)×(List Int)×Unit)×Int×Int×Unit))×(List (Int×Int×Int×Unit))×Unit)×((List (Int×Int×Int×Unit))×Int×Int×((Int×Int×Unit)×(Int×Int×Unit)×(Int×Int×Unit)×Int×Int×Bool×Int×Unit)×((Int×Int×Unit)×((Int×Int×Unit)×(Int×Int×Unit)×Unit)×Unit)×(List (Int×(Int×Int×Int×Unit)×Unit))×Unit)×Int×(List (ByteArray×Int×Unit))×Unit) : Option ((((List (Int×Int×Int×Unit))×Int×Int×((Int×Int×Unit)×(Int×Int×Unit)×(Int×Int×Unit)×Int×Int×Bool×Int×Unit)×((Int×Int×Unit)×((Int×Int×Unit)×(Int×Int×Unit)×Unit)×Unit)×(List (Int×(Int×Int×Int×Unit)×Unit))×Unit)×((ByteArray×Int×Int×(List (Int×Int×Int×(List (Int×Int×Int×Int×Unit))×Unit))×(List Int)×Bool×Bool×(List (Int×Int×Int×Bool×Unit))×Int×Int×Int×Unit)×((List (Int×Int×Unit))×Int×Int×Unit)×((ByteArray×Int×Int×(List (Int×Int×Int×(List (Int×Int×Int×Int×Unit))×Unit))×(List Int)×Bool×Bool×(List (Int×Int×Int×Bool×Unit))×Int×Int×Int×Unit)×(List ((List Int)×((List Int)×(List Int)×Unit)×Int×Int×Unit))×(List (Int×Int×Int×Unit))×Unit)×((List (Int×Int×Int×Unit))×Int×Int×((Int×Int×Unit)×(Int×Int×Unit)×(Int×Int×Unit)×Int×Int×Bool×Int×Unit)×((Int×Int×Unit)×((Int×Int×Unit)×(Int×Int×Unit)×Unit)×Unit)×(List (Int×(Int×Int×Int×Unit)×Unit))×Unit)×Int×(List (ByteArray×Int×Unit))×Unit)×Unit)) :=
  (f38 k x0.2.2.1).bind fun r1 =>
  (f39 k x0.2.2.2.1.2.2.2.2.2.1).bind fun r2 =>
  some ((r1.1,x0.2.2.2.1.2.1,x0.2.2.2.1.2.2.1,x0.2.2.2.1.2.2.2.1,x0.2.2.2.1.2.2.2.2.1,r2),(x0.1,x0.2.1,r1.2.1,x0.2.2.2),())
noncomputable def f12_sig (k : Nat) : Sig := ⟨[.box 89 ck87],[0],[[.val ty79,.box 89 ck87]],fun x => f12 k x.1⟩
noncomputable def E_f12 (k : Nat) : Env := ⟨Tryz.prog,G0,scons 39 [f39_sig k] (scons 38 [f38_sig k] (snil)),tnil,tnil,unil,k,qnil,false⟩
theorem f12_run (k : Nat) (x : (lTy (lay 0 (f12_sig k).ins)).den) : runF (E_f12 k) Tryz.f12 (f12_sig k) x = (f12_sig k).F x := by kernel_rfl
theorem f12_ok [Dr] (k : Nat) : FnOK Tryz.prog G0 12 (f12_sig k) :=
  fn_ok2 (E := E_f12 k) (env_cons (one_sig (f39_ok k)) (env_cons (one_sig (f38_ok k)) (env_nil))) (qenv_nil) mixed Tryz.func12 Tryz.call12 (by kernel_rfl) (by kernel_rfl) (m := 0) (by kernel_rfl) trivial (sk := []) (by kernel_rfl) trivial (f12_run k)
noncomputable def f27 (k : Nat) (x0 : (List (Int×Int×Unit))×Int×Int×Unit) (x1 : (Int×Int×Unit)×(Int×Int×Unit)×(Int×Int×Unit)×Int×Int×Bool×Int×Unit) (x2 : Int) (x3 : Int) : Option ((Int×Int×Unit)) :=
  bif decide (x2 < 0) then
  some (0,1,())
  else
  bif decide (x2 > 1) then
  some (0,1,())
  else
  (f60 k x0 x1 x3).bind fun r1 =>
  bif r1.2.1 != 0 then
  some (0,r1.2)
  else
  bif decide (r1.1.2.2.2.2.2.2.1 ≥ 0) then
  bif x2 == 0 then
  some (r1.1.1.1,0,())
  else
  bif x2 == 1 then
  some (r1.1.1.2.1,0,())
  else
  none
  else
  bif x2 != r1.1.2.2.2.1 then
  bif x2 == 0 then
  some (r1.1.1.1,0,())
  else
  bif x2 == 1 then
  some (r1.1.1.2.1,0,())
  else
  none
  else
  bif x2 == 0 then
  (f63 k x0 r1.1 x3).bind fun r2 =>
  some (w64 (r1.1.1.1 - r2.1),0,())
  else
  bif x2 == 1 then
  (f63 k x0 r1.1 x3).bind fun r3 =>
  some (w64 (r1.1.1.2.1 - r3.1),0,())
  else
  none
noncomputable def f27_sig (k : Nat) : Sig := ⟨[.val ty37,.val ty71,.val (.int .i64),.val (.int .i64)],[],[[.val (.int .i64),.val (.int .i64)]],fun x => f27 k x.1 x.2.1 x.2.2.1 x.2.2.2.1⟩
noncomputable def E_f27 (k : Nat) : Env := ⟨Tryz.prog,G0,scons 63 [f63_sig k] (scons 60 [f60_sig k] (snil)),tnil,tnil,unil,k,qnil,false⟩
theorem f27_run (k : Nat) (x : (lTy (lay 0 (f27_sig k).ins)).den) : runF (E_f27 k) Tryz.f27 (f27_sig k) x = (f27_sig k).F x := by kernel_rfl
theorem f27_ok [Dr] (k : Nat) : FnOK Tryz.prog G0 27 (f27_sig k) :=
  fn_ok2 (E := E_f27 k) (env_cons (one_sig (f63_ok k)) (env_cons (one_sig (f60_ok k)) (env_nil))) (qenv_nil) mixed Tryz.func27 Tryz.call27 (by kernel_rfl) (by kernel_rfl) (m := 0) (by kernel_rfl) trivial (sk := []) (by kernel_rfl) trivial (f27_run k)
noncomputable def f87 (k : Nat) (x0 : List ByteArray) (x1 : ByteArray) : Option (ByteArray×Unit) :=
  bif decide ((joinB x0 x1).size ≤ 281474976710656) && decide (x0.length ≤ 140737488355328) then some (joinB x0 x1,()) else none
noncomputable def f87_sig (k : Nat) : Sig := ⟨[.val (.sl .str),.val .str],[],[[.val .str]],fun x => f87 k x.1 x.2.1⟩
theorem f87_ok (k : Nat) : FnOK Tryz.prog G0 87 (f87_sig k) := join_ok (ρ := joinL_ren) joinL joinX Tryz.call87
noncomputable def l49_3 (k : Nat) : Nat → (List ByteArray) → (List Int) → Int → Int → Option (((List ByteArray)×Unit))
 | 0,_,_,_,_ => none
 | j + 1,s3,s23,s24,s25 =>
  bif decide (s25 < s24) then
  bif decide (0 ≤ s25) && decide (s25 < (s23.length : Int)) then
  (f36 k (rd (0 : Int) s23 s25)).bind fun r1 =>
  bif decide ((s3.length + [r1.1].length) * 16 ≤ roomN) then
  l49_3 k j (s3 ++ [r1.1]) s23 s24 (w64 (s25 + 1))
  else
  none
  else
  none
  else
  some (s3,())
noncomputable def l49_3_sig (k : Nat) : LoopSig := ⟨[(3,.obj (.row (.str))),(23,.obj ck2),(24,.obj ck1),(25,.obj ck1)],[(.exit 0,[(3,.obj (.row (.str)))])],fun j x => l49_3 k j x.1 x.2.1 x.2.2.1 x.2.2.2.1⟩
noncomputable def f49 (k : Nat) (x0 : Int×Int×Int×Int×(Int×Int×Int×Unit)×Unit) : Option ((ByteArray×Unit)) :=
  (l49_3 k k [] [x0.1,x0.2.1,x0.2.2.1,x0.2.2.2.1,x0.2.2.2.2.1.1,x0.2.2.2.2.1.2.1,x0.2.2.2.2.1.2.2.1] 7 0).bind fun o1 =>
  (f87 k o1.1 (⟨#[32]⟩ : ByteArray)).bind fun r2 =>
  some r2
noncomputable def f49_sig (k : Nat) : Sig := ⟨[.val ty56],[],[[.val (.str)]],fun x => f49 k x.1⟩
noncomputable def E_f49 (k : Nat) : Env := ⟨Tryz.prog,G0,scons 87 [f87_sig k] (scons 36 [f36_sig k] (snil)),tcons 3 (l49_3_sig k) (tnil),tnil,unil,k,qnil,false⟩
theorem l49_3_ok (k : Nat) : LoopOK (E_f49 k) ⟨Tryz.f49.ntmps,[],G0⟩ (nthC 0 (loopsIn (Tryz.f49.body.getD .skip))) :=
  loop_ok (ls := l49_3_sig k) (by kernel_rfl) (fun _ => by kernel_rfl) (fun j x => by kernel_rfl)
theorem f49_run (k : Nat) (x : (lTy (lay 0 (f49_sig k).ins)).den) : runF (E_f49 k) Tryz.f49 (f49_sig k) x = (f49_sig k).F x := by kernel_rfl
theorem f49_ok (k : Nat) : FnOK Tryz.prog G0 49 (f49_sig k) :=
  fn_ok2 (E := E_f49 k) (env_cons (one_sig (f87_ok k)) (env_cons (one_sig (f36_ok k)) (env_nil))) (qenv_nil) mixed Tryz.func49 Tryz.call49 (by kernel_rfl) (by kernel_rfl) (m := 1) (by kernel_rfl) ⟨trivial,l49_3_ok k⟩ (sk := []) (by kernel_rfl) trivial (f49_run k)
noncomputable def f14 (k : Nat) (x0 : (ByteArray×Int×Int×(List (Int×Int×Int×(List (Int×Int×Int×Int×Unit))×Unit))×(List Int)×Bool×Bool×(List (Int×Int×Int×Bool×Unit))×Int×Int×Int×Unit)×((List (Int×Int×Unit))×Int×Int×Unit)×((ByteArray×Int×Int×(List (Int×Int×Int×(List (Int×Int×Int×Int×Unit))×Unit))×(List Int)×Bool×Bool×(List (Int×Int×Int×Bool×Unit))×Int×Int×Int×Unit)×(List ((List Int)×((List Int)×(List Int)×Unit)×Int×Int×Unit))×(List (Int×Int×Int×Unit))×Unit)×((List (Int×Int×Int×Unit))×Int×Int×((Int×Int×Unit)×(Int×Int×Unit)×(Int×Int×Unit)×Int×Int×Bool×Int×Unit)×((Int×Int×Unit)×((Int×Int×Unit)×(Int×Int×Unit)×Unit)×Unit)×(List (Int×(Int×Int×Int×Unit)×Unit))×Unit)×Int×(List (ByteArray×Int×Unit))×Unit) (x1 : Int×Int×Int×Int×(Int×Int×Int×Unit)×Unit) : Option ((Int×((ByteArray×Int×Int×(List (Int×Int×Int×(List (Int×Int×Int×Int×Unit))×Unit))×(List Int)×Bool×Bool×(List (Int×Int×Int×Bool×Unit))×Int×Int×Int×Unit)×((List (Int×Int×Unit))×Int×Int×Unit)×((ByteArray×Int×Int×(List (Int×Int×Int×(List (Int×Int×Int×Int×Unit))×Unit))×(List Int)×Bool×Bool×(List (Int×Int×Int×Bool×Unit))×Int×Int×Int×Unit)×(List ((List Int)×((List Int)×(List Int)×Unit)×Int×Int×Unit))×(List (Int×Int×Int×Unit))×Unit)×((List (Int×Int×Int×Unit))×Int×Int×((Int×Int×Unit)×(Int×Int×Unit)×(Int×Int×Unit)×Int×Int×Bool×Int×Unit)×((Int×Int×Unit)×((Int×Int×Unit)×(Int×Int×Unit)×Unit)×Unit)×(List (Int×(Int×Int×Int×Unit)×Unit))×Unit)×Int×(List (ByteArray×Int×Unit))×Unit)×Unit)) :=
  (f41 k x0 x1).bind fun r1 =>
  bif r1.1 != 0 then
  some r1
  else
  bif x1.1 == 0 then
  (f42 k r1.2.1 r1.2.1.2.2.2.1 x1).bind fun r2 =>
  bif r2.1 != 0 then
  some (r2.1,r2.2.1,())
  else
  (f49 k x1).bind fun r3 =>
  (f35 k r2.2.1.2.2.2.2.2.1 r3.1).bind fun r4 =>
  (f37 k (r2.2.1.1,r2.2.1.2.1,r2.2.1.2.2.1,r2.2.2.1,x1.2.2.2.1,r4.1,())).bind fun r5 =>
  some (0,r5)
  else
  bif x1.1 == 1 then
  (f38 k r1.2.1.2.2.1).bind fun r6 =>
  (f43 k r1.2.1.2.2.2.1.2.2.2.2.1 x1.2.2.1 x1.2.1 (r6.1.length : Int)).bind fun r7 =>
  bif r7.2.1 != 0 then
  some (r7.2.1,(r1.2.1.1,r1.2.1.2.1,r6.2.1,r1.2.1.2.2.2),())
  else
  (f49 k x1).bind fun r8 =>
  (f35 k r1.2.1.2.2.2.2.2.1 r8.1).bind fun r9 =>
  (f37 k (r1.2.1.1,r1.2.1.2.1,r6.2.1,(r1.2.1.2.2.2.1.1,r1.2.1.2.2.2.1.2.1,r1.2.1.2.2.2.1.2.2.1,r1.2.1.2.2.2.1.2.2.2.1,r7.1,r1.2.1.2.2.2.1.2.2.2.2.2),x1.2.2.2.1,r9.1,())).bind fun r10 =>
  some (0,r10)
  else
  bif x1.1 == 2 then
  (f44 k r1.2.1 r1.2.1.2.2.2.1 x1).bind fun r11 =>
  bif r11.1 != 0 then
  some (r11.1,r11.2.1,())
  else
  (f49 k x1).bind fun r12 =>
  (f35 k r11.2.1.2.2.2.2.2.1 r12.1).bind fun r13 =>
  (f37 k (r11.2.1.1,r11.2.1.2.1,r11.2.1.2.2.1,r11.2.2.1,x1.2.2.2.1,r13.1,())).bind fun r14 =>
  some (0,r14)
  else
  bif x1.1 == 3 then
  (f38 k r1.2.1.2.2.1).bind fun r15 =>
  (f45 k r1.2.1.2.2.2.1.2.2.2.2.1 x1.2.2.1 x1.2.1 (r15.1.length : Int)).bind fun r16 =>
  bif r16.2.1 != 0 then
  some (r16.2.1,(r1.2.1.1,r1.2.1.2.1,r15.2.1,r1.2.1.2.2.2),())
  else
  (f49 k x1).bind fun r17 =>
  (f35 k r1.2.1.2.2.2.2.2.1 r17.1).bind fun r18 =>
  (f37 k (r1.2.1.1,r1.2.1.2.1,r15.2.1,(r1.2.1.2.2.2.1.1,r1.2.1.2.2.2.1.2.1,r1.2.1.2.2.2.1.2.2.1,r1.2.1.2.2.2.1.2.2.2.1,r16.1,r1.2.1.2.2.2.1.2.2.2.2.2),x1.2.2.2.1,r18.1,())).bind fun r19 =>
  some (0,r19)
  else
  bif x1.1 == 4 then
  (f49 k x1).bind fun r20 =>
  (f35 k r1.2.1.2.2.2.2.2.1 r20.1).bind fun r21 =>
  (f37 k (r1.2.1.1,r1.2.1.2.1,r1.2.1.2.2.1,(r1.2.1.2.2.2.1.1,w64 (2 - x1.2.1),3,r1.2.1.2.2.2.1.2.2.2),x1.2.2.2.1,r21.1,())).bind fun r22 =>
  some (0,r22)
  else
  bif x1.1 == 5 then
  (f46 k r1.2.1 r1.2.1.2.2.2.1 x1).bind fun r23 =>
  bif r23.1 != 0 then
  some (r23.1,r23.2.1,())
  else
  (f49 k x1).bind fun r24 =>
  (f35 k r23.2.1.2.2.2.2.2.1 r24.1).bind fun r25 =>
  (f37 k (r23.2.1.1,r23.2.1.2.1,r23.2.1.2.2.1,r23.2.2.1,x1.2.2.2.1,r25.1,())).bind fun r26 =>
  some (0,r26)
  else
  (f47 k r1.2.1).bind fun r27 =>
  bif x1.2.1 == r27.1 then
  some (12,r27.2)
  else
  (f48 k r1.2.1.2.2.2.1.2.2.2.2.2.1 x1.2.1 x1.2.2.2.2.1).bind fun r28 =>
  bif r28.2.1 != 0 then
  some (r28.2.1,r27.2)
  else
  (f49 k x1).bind fun r29 =>
  (f35 k r27.2.1.2.2.2.2.2.1 r29.1).bind fun r30 =>
  (f37 k (r27.2.1.1,r27.2.1.2.1,r27.2.1.2.2.1,(r1.2.1.2.2.2.1.1,r1.2.1.2.2.2.1.2.1,r1.2.1.2.2.2.1.2.2.1,r1.2.1.2.2.2.1.2.2.2.1,r1.2.1.2.2.2.1.2.2.2.2.1,r28.1,()),x1.2.2.2.1,r30.1,())).bind fun r31 =>
  some (0,r31)
noncomputable def f14_sig (k : Nat) : Sig := ⟨[.box 89 ck87,.val ty56],[0],[[.val (.int .i64),.box 89 ck87]],fun x => f14 k x.1 x.2.1⟩
noncomputable def E_f14 (k : Nat) : Env := ⟨Tryz.prog,G0,scons 49 [f49_sig k] (scons 48 [f48_sig k] (scons 47 [f47_sig k] (scons 46 [f46_sig k] (scons 45 [f45_sig k] (scons 44 [f44_sig k] (scons 43 [f43_sig k] (scons 42 [f42_sig k] (scons 41 [f41_sig k] (scons 38 [f38_sig k] (scons 37 [f37_sig k] (scons 35 [f35_sig k] (snil)))))))))))),tnil,tnil,unil,k,qnil,false⟩
theorem f14_run (k : Nat) (x : (lTy (lay 0 (f14_sig k).ins)).den) : runF (E_f14 k) Tryz.f14 (f14_sig k) x = (f14_sig k).F x := by kernel_rfl
theorem f14_ok (k : Nat) : FnOK Tryz.prog G0 14 (f14_sig k) :=
  fn_ok2 (E := E_f14 k) (env_cons (one_sig (f49_ok k)) (env_cons (one_sig (f48_ok k)) (env_cons (one_sig (f47_ok k)) (env_cons (one_sig (f46_ok k)) (env_cons (one_sig (f45_ok k)) (env_cons (one_sig (f44_ok k)) (env_cons (one_sig (f43_ok k)) (env_cons (one_sig (f42_ok k)) (env_cons (one_sig (f41_ok k)) (env_cons (one_sig (f38_ok k)) (env_cons (one_sig (f37_ok k)) (env_cons (one_sig (f35_ok k)) (env_nil))))))))))))) (qenv_nil) mixed Tryz.func14 Tryz.call14 (by kernel_rfl) (by kernel_rfl) (m := 0) (by kernel_rfl) trivial (sk := []) (by kernel_rfl) trivial (f14_run k)
noncomputable def l62_6 (k : Nat) : Nat → (ByteArray×Int×Int×(List (Int×Int×Int×(List (Int×Int×Int×Int×Unit))×Unit))×(List Int)×Bool×Bool×(List (Int×Int×Int×Bool×Unit))×Int×Int×Int×Unit) → ((List (ByteArray×ByteArray×Unit))×ByteArray×(List (Int×(Int×Int×Int×Unit)×ByteArray×Unit))×Int×Unit) → (Unit×(List (Int×Unit×Unit×Unit×Unit×Unit×Unit×Unit))×Unit) → (List (ByteArray×ByteArray×Unit)) → Int → Int → Option (((ByteArray×Int×Int×(List (Int×Int×Int×(List (Int×Int×Int×Int×Unit))×Unit))×(List Int)×Bool×Bool×(List (Int×Int×Int×Bool×Unit))×Int×Int×Int×Unit)×((List (ByteArray×ByteArray×Unit))×ByteArray×(List (Int×(Int×Int×Int×Unit)×ByteArray×Unit))×Int×Unit)×(Unit×(List (Int×Unit×Unit×Unit×Unit×Unit×Unit×Unit))×Unit)×Unit))
 | 0,_,_,_,_,_,_ => none
 | j + 1,s2,s3,s7,s21,s22,s23 =>
  bif decide (s23 < s22) then
  bif decide (0 ≤ s23) && decide (s23 < (s21.length : Int)) then
  bif fitsS (⟨#[91]⟩ : ByteArray) (rd (((⟨#[]⟩ : ByteArray),(⟨#[]⟩ : ByteArray),()) : ByteArray×ByteArray×Unit) s21 s23).1 then
  bif fitsS ((⟨#[91]⟩ : ByteArray) ++ (rd (((⟨#[]⟩ : ByteArray),(⟨#[]⟩ : ByteArray),()) : ByteArray×ByteArray×Unit) s21 s23).1) (⟨#[32,34]⟩ : ByteArray) then
  bif fitsS (((⟨#[91]⟩ : ByteArray) ++ (rd (((⟨#[]⟩ : ByteArray),(⟨#[]⟩ : ByteArray),()) : ByteArray×ByteArray×Unit) s21 s23).1) ++ (⟨#[32,34]⟩ : ByteArray)) (rd (((⟨#[]⟩ : ByteArray),(⟨#[]⟩ : ByteArray),()) : ByteArray×ByteArray×Unit) s21 s23).2.1 then
  bif fitsS ((((⟨#[91]⟩ : ByteArray) ++ (rd (((⟨#[]⟩ : ByteArray),(⟨#[]⟩ : ByteArray),()) : ByteArray×ByteArray×Unit) s21 s23).1) ++ (⟨#[32,34]⟩ : ByteArray)) ++ (rd (((⟨#[]⟩ : ByteArray),(⟨#[]⟩ : ByteArray),()) : ByteArray×ByteArray×Unit) s21 s23).2.1) (⟨#[34,93,10]⟩ : ByteArray) then
  (f98v1 k ((),s7.2) (((((⟨#[91]⟩ : ByteArray) ++ (rd (((⟨#[]⟩ : ByteArray),(⟨#[]⟩ : ByteArray),()) : ByteArray×ByteArray×Unit) s21 s23).1) ++ (⟨#[32,34]⟩ : ByteArray)) ++ (rd (((⟨#[]⟩ : ByteArray),(⟨#[]⟩ : ByteArray),()) : ByteArray×ByteArray×Unit) s21 s23).2.1) ++ (⟨#[34,93,10]⟩ : ByteArray))).bind fun r1 =>
  l62_6 k j s2 s3 ((),r1.2.2.1.2) s21 s22 (w64 (s23 + 1))
  else
  none
  else
  none
  else
  none
  else
  none
  else
  none
  else
  some (s2,s3,((),s7.2),())
noncomputable def l62_6_sig (k : Nat) : LoopSig := ⟨[(2,.obj ck75),(3,.obj ck70),(7,.obj (.box 178 ck54)),(21,.obj ck15),(22,.obj ck1),(23,.obj ck1)],[(.exit 0,[(2,.obj ck75),(3,.obj ck70),(7,.obj (.box 178 ck54))])],fun j x => l62_6 k j x.1 x.2.1 x.2.2.1 x.2.2.2.1 x.2.2.2.2.1 x.2.2.2.2.2.1⟩
noncomputable def f62 (k : Nat) (x0 : ByteArray×Int×Int×(List (Int×Int×Int×(List (Int×Int×Int×Int×Unit))×Unit))×(List Int)×Bool×Bool×(List (Int×Int×Int×Bool×Unit))×Int×Int×Int×Unit) (x1 : (List (ByteArray×ByteArray×Unit))×ByteArray×(List (Int×(Int×Int×Int×Unit)×ByteArray×Unit))×Int×Unit) : Option ((ByteArray×Int×Unit)) :=
  (f97 k x0 x1).bind fun r1 =>
  bif r1.1 != 0 then
  some ((⟨#[]⟩ : ByteArray),r1)
  else
  (l62_6 k k x0 x1 ((),[],()) x1.1 (x1.1.length : Int) 0).bind fun o2 =>
  bif !(o2.2.1.2.1.toList == (⟨#[]⟩ : ByteArray).toList) then
  bif fitsS (⟨#[123]⟩ : ByteArray) o2.2.1.2.1 then
  bif fitsS ((⟨#[123]⟩ : ByteArray) ++ o2.2.1.2.1) (⟨#[125]⟩ : ByteArray) then
  (f99 k (o2.1,o2.2.1,[],()) (((⟨#[123]⟩ : ByteArray) ++ o2.2.1.2.1) ++ (⟨#[125]⟩ : ByteArray))).bind fun r3 =>
  (f30 k o2.1).bind fun q41 =>
  Sum.elim
  (fun y4 =>
  (f100 k o2.2.1.2.2.1 (-1)).bind fun r5 =>
  bif decide ((r5.1.length : Int) > 0) then
  bif decide (0 < (r5.1.length : Int)) then
  bif decide (1 ≤ (r5.1.length : Int)) && decide ((r5.1.length : Int) ≤ (r5.1.length : Int)) then
  (f101 k r3.1 y4.1 (rd (0 : Int) r5.1 0) ((r5.1.drop 1).take ((r5.1.length : Int) - 1).toNat)).bind fun r6 =>
  bif o2.2.1.2.2.2.1 == 0 then
  (f99 k r6.1 (⟨#[42]⟩ : ByteArray)).bind fun r7 =>
  (f87 k r7.1.2.2.1 (⟨#[32]⟩ : ByteArray)).bind fun r8 =>
  bif fitsS r8.1 (⟨#[10]⟩ : ByteArray) then
  (f98v1 k ((),o2.2.2.1.2) (r8.1 ++ (⟨#[10]⟩ : ByteArray))).bind fun r9 =>
  bif decide ((r9.2.2.1.2.1.length : Int) > 8192) then
  some ((⟨#[]⟩ : ByteArray),2,())
  else
  (f103 k ((),r9.2.2.1.2)).bind fun r10 =>
  some (r10.1,0,())
  else
  none
  else
  bif o2.2.1.2.2.2.1 == 1 then
  (f99 k r6.1 (⟨#[49,45,48]⟩ : ByteArray)).bind fun r11 =>
  (f87 k r11.1.2.2.1 (⟨#[32]⟩ : ByteArray)).bind fun r12 =>
  bif fitsS r12.1 (⟨#[10]⟩ : ByteArray) then
  (f98v1 k ((),o2.2.2.1.2) (r12.1 ++ (⟨#[10]⟩ : ByteArray))).bind fun r13 =>
  bif decide ((r13.2.2.1.2.1.length : Int) > 8192) then
  some ((⟨#[]⟩ : ByteArray),2,())
  else
  (f103 k ((),r13.2.2.1.2)).bind fun r14 =>
  some (r14.1,0,())
  else
  none
  else
  bif o2.2.1.2.2.2.1 == 2 then
  (f99 k r6.1 (⟨#[48,45,49]⟩ : ByteArray)).bind fun r15 =>
  (f87 k r15.1.2.2.1 (⟨#[32]⟩ : ByteArray)).bind fun r16 =>
  bif fitsS r16.1 (⟨#[10]⟩ : ByteArray) then
  (f98v1 k ((),o2.2.2.1.2) (r16.1 ++ (⟨#[10]⟩ : ByteArray))).bind fun r17 =>
  bif decide ((r17.2.2.1.2.1.length : Int) > 8192) then
  some ((⟨#[]⟩ : ByteArray),2,())
  else
  (f103 k ((),r17.2.2.1.2)).bind fun r18 =>
  some (r18.1,0,())
  else
  none
  else
  bif o2.2.1.2.2.2.1 == 3 then
  (f99 k r6.1 (⟨#[49,47,50]⟩ : ByteArray)).bind fun r19 =>
  (f87 k r19.1.2.2.1 (⟨#[32]⟩ : ByteArray)).bind fun r20 =>
  bif fitsS r20.1 (⟨#[10]⟩ : ByteArray) then
  (f98v1 k ((),o2.2.2.1.2) (r20.1 ++ (⟨#[10]⟩ : ByteArray))).bind fun r21 =>
  bif decide ((r21.2.2.1.2.1.length : Int) > 8192) then
  some ((⟨#[]⟩ : ByteArray),2,())
  else
  (f103 k ((),r21.2.2.1.2)).bind fun r22 =>
  some (r22.1,0,())
  else
  none
  else
  none
  else
  none
  else
  none
  else
  bif o2.2.1.2.2.2.1 == 0 then
  (f99 k r3.1 (⟨#[42]⟩ : ByteArray)).bind fun r23 =>
  (f87 k r23.1.2.2.1 (⟨#[32]⟩ : ByteArray)).bind fun r24 =>
  bif fitsS r24.1 (⟨#[10]⟩ : ByteArray) then
  (f98v1 k ((),o2.2.2.1.2) (r24.1 ++ (⟨#[10]⟩ : ByteArray))).bind fun r25 =>
  bif decide ((r25.2.2.1.2.1.length : Int) > 8192) then
  some ((⟨#[]⟩ : ByteArray),2,())
  else
  (f103 k ((),r25.2.2.1.2)).bind fun r26 =>
  some (r26.1,0,())
  else
  none
  else
  bif o2.2.1.2.2.2.1 == 1 then
  (f99 k r3.1 (⟨#[49,45,48]⟩ : ByteArray)).bind fun r27 =>
  (f87 k r27.1.2.2.1 (⟨#[32]⟩ : ByteArray)).bind fun r28 =>
  bif fitsS r28.1 (⟨#[10]⟩ : ByteArray) then
  (f98v1 k ((),o2.2.2.1.2) (r28.1 ++ (⟨#[10]⟩ : ByteArray))).bind fun r29 =>
  bif decide ((r29.2.2.1.2.1.length : Int) > 8192) then
  some ((⟨#[]⟩ : ByteArray),2,())
  else
  (f103 k ((),r29.2.2.1.2)).bind fun r30 =>
  some (r30.1,0,())
  else
  none
  else
  bif o2.2.1.2.2.2.1 == 2 then
  (f99 k r3.1 (⟨#[48,45,49]⟩ : ByteArray)).bind fun r31 =>
  (f87 k r31.1.2.2.1 (⟨#[32]⟩ : ByteArray)).bind fun r32 =>
  bif fitsS r32.1 (⟨#[10]⟩ : ByteArray) then
  (f98v1 k ((),o2.2.2.1.2) (r32.1 ++ (⟨#[10]⟩ : ByteArray))).bind fun r33 =>
  bif decide ((r33.2.2.1.2.1.length : Int) > 8192) then
  some ((⟨#[]⟩ : ByteArray),2,())
  else
  (f103 k ((),r33.2.2.1.2)).bind fun r34 =>
  some (r34.1,0,())
  else
  none
  else
  bif o2.2.1.2.2.2.1 == 3 then
  (f99 k r3.1 (⟨#[49,47,50]⟩ : ByteArray)).bind fun r35 =>
  (f87 k r35.1.2.2.1 (⟨#[32]⟩ : ByteArray)).bind fun r36 =>
  bif fitsS r36.1 (⟨#[10]⟩ : ByteArray) then
  (f98v1 k ((),o2.2.2.1.2) (r36.1 ++ (⟨#[10]⟩ : ByteArray))).bind fun r37 =>
  bif decide ((r37.2.2.1.2.1.length : Int) > 8192) then
  some ((⟨#[]⟩ : ByteArray),2,())
  else
  (f103 k ((),r37.2.2.1.2)).bind fun r38 =>
  some (r38.1,0,())
  else
  none
  else
  none)
  (fun y39 =>
  (f100 k o2.2.1.2.2.1 (-1)).bind fun r40 =>
  bif decide ((r40.1.length : Int) > 0) then
  bif decide (0 < (r40.1.length : Int)) then
  bif decide (1 ≤ (r40.1.length : Int)) && decide ((r40.1.length : Int) ≤ (r40.1.length : Int)) then
  none
  else
  none
  else
  none
  else
  bif o2.2.1.2.2.2.1 == 0 then
  (f99 k r3.1 (⟨#[42]⟩ : ByteArray)).bind fun r41 =>
  (f87 k r41.1.2.2.1 (⟨#[32]⟩ : ByteArray)).bind fun r42 =>
  bif fitsS r42.1 (⟨#[10]⟩ : ByteArray) then
  (f98v1 k ((),o2.2.2.1.2) (r42.1 ++ (⟨#[10]⟩ : ByteArray))).bind fun r43 =>
  bif decide ((r43.2.2.1.2.1.length : Int) > 8192) then
  some ((⟨#[]⟩ : ByteArray),2,())
  else
  (f103 k ((),r43.2.2.1.2)).bind fun r44 =>
  some (r44.1,0,())
  else
  none
  else
  bif o2.2.1.2.2.2.1 == 1 then
  (f99 k r3.1 (⟨#[49,45,48]⟩ : ByteArray)).bind fun r45 =>
  (f87 k r45.1.2.2.1 (⟨#[32]⟩ : ByteArray)).bind fun r46 =>
  bif fitsS r46.1 (⟨#[10]⟩ : ByteArray) then
  (f98v1 k ((),o2.2.2.1.2) (r46.1 ++ (⟨#[10]⟩ : ByteArray))).bind fun r47 =>
  bif decide ((r47.2.2.1.2.1.length : Int) > 8192) then
  some ((⟨#[]⟩ : ByteArray),2,())
  else
  (f103 k ((),r47.2.2.1.2)).bind fun r48 =>
  some (r48.1,0,())
  else
  none
  else
  bif o2.2.1.2.2.2.1 == 2 then
  (f99 k r3.1 (⟨#[48,45,49]⟩ : ByteArray)).bind fun r49 =>
  (f87 k r49.1.2.2.1 (⟨#[32]⟩ : ByteArray)).bind fun r50 =>
  bif fitsS r50.1 (⟨#[10]⟩ : ByteArray) then
  (f98v1 k ((),o2.2.2.1.2) (r50.1 ++ (⟨#[10]⟩ : ByteArray))).bind fun r51 =>
  bif decide ((r51.2.2.1.2.1.length : Int) > 8192) then
  some ((⟨#[]⟩ : ByteArray),2,())
  else
  (f103 k ((),r51.2.2.1.2)).bind fun r52 =>
  some (r52.1,0,())
  else
  none
  else
  bif o2.2.1.2.2.2.1 == 3 then
  (f99 k r3.1 (⟨#[49,47,50]⟩ : ByteArray)).bind fun r53 =>
  (f87 k r53.1.2.2.1 (⟨#[32]⟩ : ByteArray)).bind fun r54 =>
  bif fitsS r54.1 (⟨#[10]⟩ : ByteArray) then
  (f98v1 k ((),o2.2.2.1.2) (r54.1 ++ (⟨#[10]⟩ : ByteArray))).bind fun r55 =>
  bif decide ((r55.2.2.1.2.1.length : Int) > 8192) then
  some ((⟨#[]⟩ : ByteArray),2,())
  else
  (f103 k ((),r55.2.2.1.2)).bind fun r56 =>
  some (r56.1,0,())
  else
  none
  else
  none)
  q41
  else
  none
  else
  none
  else
  (f30 k o2.1).bind fun q42 =>
  Sum.elim
  (fun y57 =>
  (f100 k o2.2.1.2.2.1 (-1)).bind fun r58 =>
  bif decide ((r58.1.length : Int) > 0) then
  bif decide (0 < (r58.1.length : Int)) then
  bif decide (1 ≤ (r58.1.length : Int)) && decide ((r58.1.length : Int) ≤ (r58.1.length : Int)) then
  (f101 k (o2.1,o2.2.1,[],()) y57.1 (rd (0 : Int) r58.1 0) ((r58.1.drop 1).take ((r58.1.length : Int) - 1).toNat)).bind fun r59 =>
  bif o2.2.1.2.2.2.1 == 0 then
  (f99 k r59.1 (⟨#[42]⟩ : ByteArray)).bind fun r60 =>
  (f87 k r60.1.2.2.1 (⟨#[32]⟩ : ByteArray)).bind fun r61 =>
  bif fitsS r61.1 (⟨#[10]⟩ : ByteArray) then
  (f98v1 k ((),o2.2.2.1.2) (r61.1 ++ (⟨#[10]⟩ : ByteArray))).bind fun r62 =>
  bif decide ((r62.2.2.1.2.1.length : Int) > 8192) then
  some ((⟨#[]⟩ : ByteArray),2,())
  else
  (f103 k ((),r62.2.2.1.2)).bind fun r63 =>
  some (r63.1,0,())
  else
  none
  else
  bif o2.2.1.2.2.2.1 == 1 then
  (f99 k r59.1 (⟨#[49,45,48]⟩ : ByteArray)).bind fun r64 =>
  (f87 k r64.1.2.2.1 (⟨#[32]⟩ : ByteArray)).bind fun r65 =>
  bif fitsS r65.1 (⟨#[10]⟩ : ByteArray) then
  (f98v1 k ((),o2.2.2.1.2) (r65.1 ++ (⟨#[10]⟩ : ByteArray))).bind fun r66 =>
  bif decide ((r66.2.2.1.2.1.length : Int) > 8192) then
  some ((⟨#[]⟩ : ByteArray),2,())
  else
  (f103 k ((),r66.2.2.1.2)).bind fun r67 =>
  some (r67.1,0,())
  else
  none
  else
  bif o2.2.1.2.2.2.1 == 2 then
  (f99 k r59.1 (⟨#[48,45,49]⟩ : ByteArray)).bind fun r68 =>
  (f87 k r68.1.2.2.1 (⟨#[32]⟩ : ByteArray)).bind fun r69 =>
  bif fitsS r69.1 (⟨#[10]⟩ : ByteArray) then
  (f98v1 k ((),o2.2.2.1.2) (r69.1 ++ (⟨#[10]⟩ : ByteArray))).bind fun r70 =>
  bif decide ((r70.2.2.1.2.1.length : Int) > 8192) then
  some ((⟨#[]⟩ : ByteArray),2,())
  else
  (f103 k ((),r70.2.2.1.2)).bind fun r71 =>
  some (r71.1,0,())
  else
  none
  else
  bif o2.2.1.2.2.2.1 == 3 then
  (f99 k r59.1 (⟨#[49,47,50]⟩ : ByteArray)).bind fun r72 =>
  (f87 k r72.1.2.2.1 (⟨#[32]⟩ : ByteArray)).bind fun r73 =>
  bif fitsS r73.1 (⟨#[10]⟩ : ByteArray) then
  (f98v1 k ((),o2.2.2.1.2) (r73.1 ++ (⟨#[10]⟩ : ByteArray))).bind fun r74 =>
  bif decide ((r74.2.2.1.2.1.length : Int) > 8192) then
  some ((⟨#[]⟩ : ByteArray),2,())
  else
  (f103 k ((),r74.2.2.1.2)).bind fun r75 =>
  some (r75.1,0,())
  else
  none
  else
  none
  else
  none
  else
  none
  else
  bif o2.2.1.2.2.2.1 == 0 then
  (f99 k (o2.1,o2.2.1,[],()) (⟨#[42]⟩ : ByteArray)).bind fun r76 =>
  (f87 k r76.1.2.2.1 (⟨#[32]⟩ : ByteArray)).bind fun r77 =>
  bif fitsS r77.1 (⟨#[10]⟩ : ByteArray) then
  (f98v1 k ((),o2.2.2.1.2) (r77.1 ++ (⟨#[10]⟩ : ByteArray))).bind fun r78 =>
  bif decide ((r78.2.2.1.2.1.length : Int) > 8192) then
  some ((⟨#[]⟩ : ByteArray),2,())
  else
  (f103 k ((),r78.2.2.1.2)).bind fun r79 =>
  some (r79.1,0,())
  else
  none
  else
  bif o2.2.1.2.2.2.1 == 1 then
  (f99 k (o2.1,o2.2.1,[],()) (⟨#[49,45,48]⟩ : ByteArray)).bind fun r80 =>
  (f87 k r80.1.2.2.1 (⟨#[32]⟩ : ByteArray)).bind fun r81 =>
  bif fitsS r81.1 (⟨#[10]⟩ : ByteArray) then
  (f98v1 k ((),o2.2.2.1.2) (r81.1 ++ (⟨#[10]⟩ : ByteArray))).bind fun r82 =>
  bif decide ((r82.2.2.1.2.1.length : Int) > 8192) then
  some ((⟨#[]⟩ : ByteArray),2,())
  else
  (f103 k ((),r82.2.2.1.2)).bind fun r83 =>
  some (r83.1,0,())
  else
  none
  else
  bif o2.2.1.2.2.2.1 == 2 then
  (f99 k (o2.1,o2.2.1,[],()) (⟨#[48,45,49]⟩ : ByteArray)).bind fun r84 =>
  (f87 k r84.1.2.2.1 (⟨#[32]⟩ : ByteArray)).bind fun r85 =>
  bif fitsS r85.1 (⟨#[10]⟩ : ByteArray) then
  (f98v1 k ((),o2.2.2.1.2) (r85.1 ++ (⟨#[10]⟩ : ByteArray))).bind fun r86 =>
  bif decide ((r86.2.2.1.2.1.length : Int) > 8192) then
  some ((⟨#[]⟩ : ByteArray),2,())
  else
  (f103 k ((),r86.2.2.1.2)).bind fun r87 =>
  some (r87.1,0,())
  else
  none
  else
  bif o2.2.1.2.2.2.1 == 3 then
  (f99 k (o2.1,o2.2.1,[],()) (⟨#[49,47,50]⟩ : ByteArray)).bind fun r88 =>
  (f87 k r88.1.2.2.1 (⟨#[32]⟩ : ByteArray)).bind fun r89 =>
  bif fitsS r89.1 (⟨#[10]⟩ : ByteArray) then
  (f98v1 k ((),o2.2.2.1.2) (r89.1 ++ (⟨#[10]⟩ : ByteArray))).bind fun r90 =>
  bif decide ((r90.2.2.1.2.1.length : Int) > 8192) then
  some ((⟨#[]⟩ : ByteArray),2,())
  else
  (f103 k ((),r90.2.2.1.2)).bind fun r91 =>
  some (r91.1,0,())
  else
  none
  else
  none)
  (fun y92 =>
  (f100 k o2.2.1.2.2.1 (-1)).bind fun r93 =>
  bif decide ((r93.1.length : Int) > 0) then
  bif decide (0 < (r93.1.length : Int)) then
  bif decide (1 ≤ (r93.1.length : Int)) && decide ((r93.1.length : Int) ≤ (r93.1.length : Int)) then
  none
  else
  none
  else
  none
  else
  bif o2.2.1.2.2.2.1 == 0 then
  (f99 k (o2.1,o2.2.1,[],()) (⟨#[42]⟩ : ByteArray)).bind fun r94 =>
  (f87 k r94.1.2.2.1 (⟨#[32]⟩ : ByteArray)).bind fun r95 =>
  bif fitsS r95.1 (⟨#[10]⟩ : ByteArray) then
  (f98v1 k ((),o2.2.2.1.2) (r95.1 ++ (⟨#[10]⟩ : ByteArray))).bind fun r96 =>
  bif decide ((r96.2.2.1.2.1.length : Int) > 8192) then
  some ((⟨#[]⟩ : ByteArray),2,())
  else
  (f103 k ((),r96.2.2.1.2)).bind fun r97 =>
  some (r97.1,0,())
  else
  none
  else
  bif o2.2.1.2.2.2.1 == 1 then
  (f99 k (o2.1,o2.2.1,[],()) (⟨#[49,45,48]⟩ : ByteArray)).bind fun r98 =>
  (f87 k r98.1.2.2.1 (⟨#[32]⟩ : ByteArray)).bind fun r99 =>
  bif fitsS r99.1 (⟨#[10]⟩ : ByteArray) then
  (f98v1 k ((),o2.2.2.1.2) (r99.1 ++ (⟨#[10]⟩ : ByteArray))).bind fun r100 =>
  bif decide ((r100.2.2.1.2.1.length : Int) > 8192) then
  some ((⟨#[]⟩ : ByteArray),2,())
  else
  (f103 k ((),r100.2.2.1.2)).bind fun r101 =>
  some (r101.1,0,())
  else
  none
  else
  bif o2.2.1.2.2.2.1 == 2 then
  (f99 k (o2.1,o2.2.1,[],()) (⟨#[48,45,49]⟩ : ByteArray)).bind fun r102 =>
  (f87 k r102.1.2.2.1 (⟨#[32]⟩ : ByteArray)).bind fun r103 =>
  bif fitsS r103.1 (⟨#[10]⟩ : ByteArray) then
  (f98v1 k ((),o2.2.2.1.2) (r103.1 ++ (⟨#[10]⟩ : ByteArray))).bind fun r104 =>
  bif decide ((r104.2.2.1.2.1.length : Int) > 8192) then
  some ((⟨#[]⟩ : ByteArray),2,())
  else
  (f103 k ((),r104.2.2.1.2)).bind fun r105 =>
  some (r105.1,0,())
  else
  none
  else
  bif o2.2.1.2.2.2.1 == 3 then
  (f99 k (o2.1,o2.2.1,[],()) (⟨#[49,47,50]⟩ : ByteArray)).bind fun r106 =>
  (f87 k r106.1.2.2.1 (⟨#[32]⟩ : ByteArray)).bind fun r107 =>
  bif fitsS r107.1 (⟨#[10]⟩ : ByteArray) then
  (f98v1 k ((),o2.2.2.1.2) (r107.1 ++ (⟨#[10]⟩ : ByteArray))).bind fun r108 =>
  bif decide ((r108.2.2.1.2.1.length : Int) > 8192) then
  some ((⟨#[]⟩ : ByteArray),2,())
  else
  (f103 k ((),r108.2.2.1.2)).bind fun r109 =>
  some (r109.1,0,())
  else
  none
  else
  none)
  q42
noncomputable def f62_sig (k : Nat) : Sig := ⟨[.val ty73,.val ty67],[],[[.val (.str),.val (.int .i64)]],fun x => f62 k x.1 x.2.1⟩
noncomputable def E_f62 (k : Nat) : Env := ⟨Tryz.prog,G0,scons 103 [f103_sig k] (scons 101 [f101_sig k] (scons 100 [f100_sig k] (scons 99 [f99_sig k] (scons 98 [f98_sig k,f98v1_sig k] (scons 97 [f97_sig k] (scons 87 [f87_sig k] (scons 30 [f30_sig k] (snil)))))))),tcons 6 (l62_6_sig k) (tnil),tnil,unil,k,qcons 102 (mkQ Tryz.prog G0 Tryz.f102) (qnil),false⟩
theorem l62_6_ok (k : Nat) : LoopOK (E_f62 k) ⟨Tryz.f62.ntmps,[],G0⟩ (nthC 0 (loopsIn (Tryz.f62.body.getD .skip))) :=
  loop_ok (ls := l62_6_sig k) (by kernel_rfl) (fun _ => by kernel_rfl) (fun j x => by kernel_rfl)
theorem f62_run (k : Nat) (x : (lTy (lay 0 (f62_sig k).ins)).den) : runF (E_f62 k) Tryz.f62 (f62_sig k) x = (f62_sig k).F x := by kernel_rfl
theorem f62_ok (k : Nat) : FnOK Tryz.prog G0 62 (f62_sig k) :=
  fn_ok2 (E := E_f62 k) (env_cons (one_sig (f103_ok k)) (env_cons (one_sig (f101_ok k)) (env_cons (one_sig (f100_ok k)) (env_cons (one_sig (f99_ok k)) (env_cons (two_sig (f98_ok k) (one_sig (f98v1_ok k))) (env_cons (one_sig (f97_ok k)) (env_cons (one_sig (f87_ok k)) (env_cons (one_sig (f30_ok k)) (env_nil))))))))) (qenv_cons (q_ok mixed Tryz.func102 Tryz.call102) (qenv_nil)) mixed Tryz.func62 Tryz.call62 (by kernel_rfl) (by kernel_rfl) (m := 1) (by kernel_rfl) ⟨trivial,l62_6_ok k⟩ (sk := []) (by kernel_rfl) trivial (f62_run k)
noncomputable def f25 (k : Nat) : Option ((Bool×Unit)) :=
  (f26 k).bind fun r1 =>
  (f61 k).bind fun r2 =>
  (f11 k r1.1 r2.1 0).bind fun q43 =>
  Sum.elim
  (fun y3 =>
  bif y3.2.1 != 0 then
  some (false,())
  else
  (f14 k y3.1 (0,0,0,10,((-1),4,0,()),())).bind fun r4 =>
  (f26 k).bind fun r5 =>
  (f62 k r5.1 ([],(⟨#[]⟩ : ByteArray),[((-1),((-1),4,0,()),(⟨#[]⟩ : ByteArray),())],0,())).bind fun r6 =>
  bif r4.1 == 0 then
  (f12 k r4.2.1).bind fun r7 =>
  bif (r7.1.1.length : Int) == 1 then
  bif r6.2.1 == 0 then
  some (r6.1.toList == (⟨#[83,64,98,50,32,42,10]⟩ : ByteArray).toList,())
  else
  some (false,())
  else
  some (false,())
  else
  some (false,()))
  (fun y8 =>
  bif y8.2.1 != 0 then
  some (false,())
  else
  none)
  q43
noncomputable def f25_sig (k : Nat) : Sig := ⟨[],[],[[.val (.bool)]],fun x => f25 k⟩
noncomputable def E_f25 (k : Nat) : Env := ⟨Tryz.prog,G0,scons 62 [f62_sig k] (scons 61 [f61_sig k] (scons 26 [f26_sig k] (scons 14 [f14_sig k] (scons 12 [f12_sig k] (scons 11 [f11_sig k] (snil)))))),tnil,tnil,unil,k,qnil,false⟩
theorem f25_run (k : Nat) (x : (lTy (lay 0 (f25_sig k).ins)).den) : runF (E_f25 k) Tryz.f25 (f25_sig k) x = (f25_sig k).F x := by kernel_rfl
theorem f25_ok (k : Nat) : FnOK Tryz.prog G0 25 (f25_sig k) :=
  fn_ok2 (E := E_f25 k) (env_cons (one_sig (f62_ok k)) (env_cons (one_sig (f61_ok k)) (env_cons (one_sig (f26_ok k)) (env_cons (one_sig (f14_ok k)) (env_cons (one_sig (f12_ok k)) (env_cons (one_sig (f11_ok k)) (env_nil))))))) (qenv_nil) mixed Tryz.func25 Tryz.call25 (by kernel_rfl) (by kernel_rfl) (m := 0) (by kernel_rfl) trivial (sk := []) (by kernel_rfl) trivial (f25_run k)
noncomputable def c8_24 (k : Nat) (s0 : Int) (s1 : Int) (s2 : List Int) (s7 : (List (Int×Int×Unit))×Int×Int×Unit) (s8 : (ByteArray×Int×Int×(List (Int×Int×Int×(List (Int×Int×Int×Int×Unit))×Unit))×(List Int)×Bool×Bool×(List (Int×Int×Int×Bool×Unit))×Int×Int×Int×Unit)×((List (Int×Int×Unit))×Int×Int×Unit)×((ByteArray×Int×Int×(List (Int×Int×Int×(List (Int×Int×Int×Int×Unit))×Unit))×(List Int)×Bool×Bool×(List (Int×Int×Int×Bool×Unit))×Int×Int×Int×Unit)×(List ((List Int)×((List Int)×(List Int)×Unit)×Int×Int×Unit))×(List (Int×Int×Int×Unit))×Unit)×((List (Int×Int×Int×Unit))×Int×Int×((Int×Int×Unit)×(Int×Int×Unit)×(Int×Int×Unit)×Int×Int×Bool×Int×Unit)×((Int×Int×Unit)×((Int×Int×Unit)×(Int×Int×Unit)×Unit)×Unit)×(List (Int×(Int×Int×Int×Unit)×Unit))×Unit)×Int×(List (ByteArray×Int×Unit))×Unit) (s10 : Int) (s11 : Int×Int×Unit) (s12 : Int×Int×Unit) (s16 : (Int×Int×Unit)×(Int×Int×Unit)×(Int×Int×Unit)×Int×Int×Bool×Int×Unit) (s17 : Int) (s48 : List Int) (s49 : Int) (s50 : Int) (s94 : Int) : Option ((Int×Int×(List Int)×((List (Int×Int×Unit))×Int×Int×Unit)×((ByteArray×Int×Int×(List (Int×Int×Int×(List (Int×Int×Int×Int×Unit))×Unit))×(List Int)×Bool×Bool×(List (Int×Int×Int×Bool×Unit))×Int×Int×Int×Unit)×((List (Int×Int×Unit))×Int×Int×Unit)×((ByteArray×Int×Int×(List (Int×Int×Int×(List (Int×Int×Int×Int×Unit))×Unit))×(List Int)×Bool×Bool×(List (Int×Int×Int×Bool×Unit))×Int×Int×Int×Unit)×(List ((List Int)×((List Int)×(List Int)×Unit)×Int×Int×Unit))×(List (Int×Int×Int×Unit))×Unit)×((List (Int×Int×Int×Unit))×Int×Int×((Int×Int×Unit)×(Int×Int×Unit)×(Int×Int×Unit)×Int×Int×Bool×Int×Unit)×((Int×Int×Unit)×((Int×Int×Unit)×(Int×Int×Unit)×Unit)×Unit)×(List (Int×(Int×Int×Int×Unit)×Unit))×Unit)×Int×(List (ByteArray×Int×Unit))×Unit)×Int×(Int×Int×Unit)×(Int×Int×Unit)×((Int×Int×Unit)×(Int×Int×Unit)×(Int×Int×Unit)×Int×Int×Bool×Int×Unit)×(List Int)×Int×Int×Int×Unit) ⊕ (Bool×Unit)) :=
  bif s17 == 0 then
    bif s17 == 0 then
      bif decide (s12.1 ≥ 2) then
        (f27 k s7 s16 s17 s10).bind fun r1 =>
        bif r1.2.1 != 0 then
          some (.inr (false,()))
        else
        bif s17 == 0 then
          bif (w64 (r1.1 + s11.1)) != (w64 ((w64 (50000 + (w64 (s0 * s12.1)))) + 90000)) then
            some (.inr (false,()))
          else
            some (.inl (s0,s1,s2,s7,s8,s10,s11,s12,s16,s48,s49,s50,s94,()))
        else
        bif s17 == 1 then
          bif (w64 (r1.1 + s11.2.1)) != (w64 ((w64 (50000 + (w64 (s0 * s12.1)))) + 90000)) then
            some (.inr (false,()))
          else
            some (.inl (s0,s1,s2,s7,s8,s10,s11,s12,s16,s48,s49,s50,s94,()))
        else
          none
      else
        (f27 k s7 s16 s17 s10).bind fun r2 =>
        bif r2.2.1 != 0 then
          some (.inr (false,()))
        else
        bif s17 == 0 then
          bif (w64 (r2.1 + s11.1)) != (w64 (50000 + (w64 (s0 * s12.1)))) then
            some (.inr (false,()))
          else
            some (.inl (s0,s1,s2,s7,s8,s10,s11,s12,s16,s48,s49,s50,s94,()))
        else
        bif s17 == 1 then
          bif (w64 (r2.1 + s11.2.1)) != (w64 (50000 + (w64 (s0 * s12.1)))) then
            some (.inr (false,()))
          else
            some (.inl (s0,s1,s2,s7,s8,s10,s11,s12,s16,s48,s49,s50,s94,()))
        else
          none
    else
    bif s17 == 1 then
      bif decide (s12.2.1 ≥ 2) then
        (f27 k s7 s16 s17 s10).bind fun r3 =>
        bif r3.2.1 != 0 then
          some (.inr (false,()))
        else
        bif s17 == 0 then
          bif (w64 (r3.1 + s11.1)) != (w64 ((w64 (50000 + (w64 (s0 * s12.1)))) + 90000)) then
            some (.inr (false,()))
          else
            some (.inl (s0,s1,s2,s7,s8,s10,s11,s12,s16,s48,s49,s50,s94,()))
        else
        bif s17 == 1 then
          bif (w64 (r3.1 + s11.2.1)) != (w64 ((w64 (50000 + (w64 (s0 * s12.1)))) + 90000)) then
            some (.inr (false,()))
          else
            some (.inl (s0,s1,s2,s7,s8,s10,s11,s12,s16,s48,s49,s50,s94,()))
        else
          none
      else
        (f27 k s7 s16 s17 s10).bind fun r4 =>
        bif r4.2.1 != 0 then
          some (.inr (false,()))
        else
        bif s17 == 0 then
          bif (w64 (r4.1 + s11.1)) != (w64 (50000 + (w64 (s0 * s12.1)))) then
            some (.inr (false,()))
          else
            some (.inl (s0,s1,s2,s7,s8,s10,s11,s12,s16,s48,s49,s50,s94,()))
        else
        bif s17 == 1 then
          bif (w64 (r4.1 + s11.2.1)) != (w64 (50000 + (w64 (s0 * s12.1)))) then
            some (.inr (false,()))
          else
            some (.inl (s0,s1,s2,s7,s8,s10,s11,s12,s16,s48,s49,s50,s94,()))
        else
          none
    else
      none
  else
  bif s17 == 1 then
    bif s17 == 0 then
      bif decide (s12.1 ≥ 2) then
        (f27 k s7 s16 s17 s10).bind fun r5 =>
        bif r5.2.1 != 0 then
          some (.inr (false,()))
        else
        bif s17 == 0 then
          bif (w64 (r5.1 + s11.1)) != (w64 ((w64 (50000 + (w64 (s0 * s12.2.1)))) + 90000)) then
            some (.inr (false,()))
          else
            some (.inl (s0,s1,s2,s7,s8,s10,s11,s12,s16,s48,s49,s50,s94,()))
        else
        bif s17 == 1 then
          bif (w64 (r5.1 + s11.2.1)) != (w64 ((w64 (50000 + (w64 (s0 * s12.2.1)))) + 90000)) then
            some (.inr (false,()))
          else
            some (.inl (s0,s1,s2,s7,s8,s10,s11,s12,s16,s48,s49,s50,s94,()))
        else
          none
      else
        (f27 k s7 s16 s17 s10).bind fun r6 =>
        bif r6.2.1 != 0 then
          some (.inr (false,()))
        else
        bif s17 == 0 then
          bif (w64 (r6.1 + s11.1)) != (w64 (50000 + (w64 (s0 * s12.2.1)))) then
            some (.inr (false,()))
          else
            some (.inl (s0,s1,s2,s7,s8,s10,s11,s12,s16,s48,s49,s50,s94,()))
        else
        bif s17 == 1 then
          bif (w64 (r6.1 + s11.2.1)) != (w64 (50000 + (w64 (s0 * s12.2.1)))) then
            some (.inr (false,()))
          else
            some (.inl (s0,s1,s2,s7,s8,s10,s11,s12,s16,s48,s49,s50,s94,()))
        else
          none
    else
    bif s17 == 1 then
      bif decide (s12.2.1 ≥ 2) then
        (f27 k s7 s16 s17 s10).bind fun r7 =>
        bif r7.2.1 != 0 then
          some (.inr (false,()))
        else
        bif s17 == 0 then
          bif (w64 (r7.1 + s11.1)) != (w64 ((w64 (50000 + (w64 (s0 * s12.2.1)))) + 90000)) then
            some (.inr (false,()))
          else
            some (.inl (s0,s1,s2,s7,s8,s10,s11,s12,s16,s48,s49,s50,s94,()))
        else
        bif s17 == 1 then
          bif (w64 (r7.1 + s11.2.1)) != (w64 ((w64 (50000 + (w64 (s0 * s12.2.1)))) + 90000)) then
            some (.inr (false,()))
          else
            some (.inl (s0,s1,s2,s7,s8,s10,s11,s12,s16,s48,s49,s50,s94,()))
        else
          none
      else
        (f27 k s7 s16 s17 s10).bind fun r8 =>
        bif r8.2.1 != 0 then
          some (.inr (false,()))
        else
        bif s17 == 0 then
          bif (w64 (r8.1 + s11.1)) != (w64 (50000 + (w64 (s0 * s12.2.1)))) then
            some (.inr (false,()))
          else
            some (.inl (s0,s1,s2,s7,s8,s10,s11,s12,s16,s48,s49,s50,s94,()))
        else
        bif s17 == 1 then
          bif (w64 (r8.1 + s11.2.1)) != (w64 (50000 + (w64 (s0 * s12.2.1)))) then
            some (.inr (false,()))
          else
            some (.inl (s0,s1,s2,s7,s8,s10,s11,s12,s16,s48,s49,s50,s94,()))
        else
          none
    else
      none
  else
    none
noncomputable def c8_24_sig (k : Nat) : LoopSig := ⟨[(0,.obj ck1),(1,.obj ck1),(2,.obj ck6),(7,.obj ck45),(8,.obj ck88),(10,.obj ck1),(11,.obj ck21),(12,.obj ck21),(16,.obj ck72),(17,.obj ck1),(48,.obj ck2),(49,.obj ck1),(50,.obj ck1),(94,.obj ck1)],[(.normal,[(0,.obj ck1),(1,.obj ck1),(2,.obj ck6),(7,.obj ck45),(8,.obj ck88),(10,.obj ck1),(11,.obj ck21),(12,.obj ck21),(16,.obj ck72),(48,.obj ck2),(49,.obj ck1),(50,.obj ck1),(94,.obj ck1)]),(.ret,[(6,.obj (.val (.bool)))])],fun _ x => c8_24 k x.1 x.2.1 x.2.2.1 x.2.2.2.1 x.2.2.2.2.1 x.2.2.2.2.2.1 x.2.2.2.2.2.2.1 x.2.2.2.2.2.2.2.1 x.2.2.2.2.2.2.2.2.1 x.2.2.2.2.2.2.2.2.2.1 x.2.2.2.2.2.2.2.2.2.2.1 x.2.2.2.2.2.2.2.2.2.2.2.1 x.2.2.2.2.2.2.2.2.2.2.2.2.1 x.2.2.2.2.2.2.2.2.2.2.2.2.2.1⟩
noncomputable def l8_22 (k : Nat) : Nat → Int → Int → (List Int) → ((List (Int×Int×Unit))×Int×Int×Unit) → ((ByteArray×Int×Int×(List (Int×Int×Int×(List (Int×Int×Int×Int×Unit))×Unit))×(List Int)×Bool×Bool×(List (Int×Int×Int×Bool×Unit))×Int×Int×Int×Unit)×((List (Int×Int×Unit))×Int×Int×Unit)×((ByteArray×Int×Int×(List (Int×Int×Int×(List (Int×Int×Int×Int×Unit))×Unit))×(List Int)×Bool×Bool×(List (Int×Int×Int×Bool×Unit))×Int×Int×Int×Unit)×(List ((List Int)×((List Int)×(List Int)×Unit)×Int×Int×Unit))×(List (Int×Int×Int×Unit))×Unit)×((List (Int×Int×Int×Unit))×Int×Int×((Int×Int×Unit)×(Int×Int×Unit)×(Int×Int×Unit)×Int×Int×Bool×Int×Unit)×((Int×Int×Unit)×((Int×Int×Unit)×(Int×Int×Unit)×Unit)×Unit)×(List (Int×(Int×Int×Int×Unit)×Unit))×Unit)×Int×(List (ByteArray×Int×Unit))×Unit) → Int → (Int×Int×Unit) → (Int×Int×Unit) → ((Int×Int×Unit)×(Int×Int×Unit)×(Int×Int×Unit)×Int×Int×Bool×Int×Unit) → (List Int) → Int → Int → Int → Option ((Int×Int×(List Int)×((List (Int×Int×Unit))×Int×Int×Unit)×((ByteArray×Int×Int×(List (Int×Int×Int×(List (Int×Int×Int×Int×Unit))×Unit))×(List Int)×Bool×Bool×(List (Int×Int×Int×Bool×Unit))×Int×Int×Int×Unit)×((List (Int×Int×Unit))×Int×Int×Unit)×((ByteArray×Int×Int×(List (Int×Int×Int×(List (Int×Int×Int×Int×Unit))×Unit))×(List Int)×Bool×Bool×(List (Int×Int×Int×Bool×Unit))×Int×Int×Int×Unit)×(List ((List Int)×((List Int)×(List Int)×Unit)×Int×Int×Unit))×(List (Int×Int×Int×Unit))×Unit)×((List (Int×Int×Int×Unit))×Int×Int×((Int×Int×Unit)×(Int×Int×Unit)×(Int×Int×Unit)×Int×Int×Bool×Int×Unit)×((Int×Int×Unit)×((Int×Int×Unit)×(Int×Int×Unit)×Unit)×Unit)×(List (Int×(Int×Int×Int×Unit)×Unit))×Unit)×Int×(List (ByteArray×Int×Unit))×Unit)×Int×(Int×Int×Unit)×(Int×Int×Unit)×(List Int)×Int×Int×Unit) ⊕ (Bool×Unit))
 | 0,_,_,_,_,_,_,_,_,_,_,_,_,_ => none
 | j + 1,s0,s1,s2,s7,s8,s10,s11,s12,s16,s48,s49,s50,s94 =>
  bif decide (s94 < 2) then
  (c8_24 k s0 s1 s2 s7 s8 s10 s11 s12 s16 s94 s48 s49 s50 s94).bind fun q44 =>
  Sum.elim
  (fun y1 =>
  l8_22 k j y1.1 y1.2.1 y1.2.2.1 y1.2.2.2.1 y1.2.2.2.2.1 y1.2.2.2.2.2.1 y1.2.2.2.2.2.2.1 y1.2.2.2.2.2.2.2.1 y1.2.2.2.2.2.2.2.2.1 y1.2.2.2.2.2.2.2.2.2.1 y1.2.2.2.2.2.2.2.2.2.2.1 y1.2.2.2.2.2.2.2.2.2.2.2.1 (w64 (y1.2.2.2.2.2.2.2.2.2.2.2.2.1 + 1)))
  (fun y2 =>
  some (.inr y2))
  q44
  else
  some (.inl (s0,s1,s2,s7,s8,s10,s11,s12,s48,s49,s50,()))
noncomputable def l8_22_sig (k : Nat) : LoopSig := ⟨[(0,.obj ck1),(1,.obj ck1),(2,.obj ck6),(7,.obj ck45),(8,.obj ck88),(10,.obj ck1),(11,.obj ck21),(12,.obj ck21),(16,.obj ck72),(48,.obj ck2),(49,.obj ck1),(50,.obj ck1),(94,.obj ck1)],[(.exit 2,[(0,.obj ck1),(1,.obj ck1),(2,.obj ck6),(7,.obj ck45),(8,.obj ck88),(10,.obj ck1),(11,.obj ck21),(12,.obj ck21),(48,.obj ck2),(49,.obj ck1),(50,.obj ck1)]),(.ret,[(6,.obj (.val (.bool)))])],fun j x => l8_22 k j x.1 x.2.1 x.2.2.1 x.2.2.2.1 x.2.2.2.2.1 x.2.2.2.2.2.1 x.2.2.2.2.2.2.1 x.2.2.2.2.2.2.2.1 x.2.2.2.2.2.2.2.2.1 x.2.2.2.2.2.2.2.2.2.1 x.2.2.2.2.2.2.2.2.2.2.1 x.2.2.2.2.2.2.2.2.2.2.2.1 x.2.2.2.2.2.2.2.2.2.2.2.2.1⟩
noncomputable def l8_10 (k : Nat) : Nat → Int → Int → (List Int) → ((List (Int×Int×Unit))×Int×Int×Unit) → ((ByteArray×Int×Int×(List (Int×Int×Int×(List (Int×Int×Int×Int×Unit))×Unit))×(List Int)×Bool×Bool×(List (Int×Int×Int×Bool×Unit))×Int×Int×Int×Unit)×((List (Int×Int×Unit))×Int×Int×Unit)×((ByteArray×Int×Int×(List (Int×Int×Int×(List (Int×Int×Int×Int×Unit))×Unit))×(List Int)×Bool×Bool×(List (Int×Int×Int×Bool×Unit))×Int×Int×Int×Unit)×(List ((List Int)×((List Int)×(List Int)×Unit)×Int×Int×Unit))×(List (Int×Int×Int×Unit))×Unit)×((List (Int×Int×Int×Unit))×Int×Int×((Int×Int×Unit)×(Int×Int×Unit)×(Int×Int×Unit)×Int×Int×Bool×Int×Unit)×((Int×Int×Unit)×((Int×Int×Unit)×(Int×Int×Unit)×Unit)×Unit)×(List (Int×(Int×Int×Int×Unit)×Unit))×Unit)×Int×(List (ByteArray×Int×Unit))×Unit) → Int → (Int×Int×Unit) → (Int×Int×Unit) → (List Int) → Int → Int → Option ((Int×Int×(Int×Int×Unit)×Unit) ⊕ (Bool×Unit))
 | 0,_,_,_,_,_,_,_,_,_,_,_ => none
 | j + 1,s0,s1,s2,s7,s8,s10,s11,s12,s48,s49,s50 =>
  bif decide (s50 < s49) then
  bif decide (0 ≤ s50) && decide (s50 < (s48.length : Int)) then
  bif decide (s50 < (s2.length : Int)) then
  bif decide (0 ≤ s50) && decide (s50 < (s2.length : Int)) then
  (f14 k s8 (0,s50.tmod 2,0,w64 (s10 + ((w64 (((rd (0 : Int) s2 s50).tmod 9000) + 9000)).tmod 9000)),((-1),rd (0 : Int) s48 s50,0,()),())).bind fun r1 =>
  bif r1.1 != 0 then
  some (.inr (false,()))
  else
  bif (s50.tmod 2) == 0 then
  bif (s50.tmod 2) == 0 then
  bif (s50.tmod 2) == 0 then
  bif (s50.tmod 2) == 0 then
  (f12 k r1.2.1).bind fun r2 =>
  (l8_22 k k s0 s1 s2 s7 r2.2.1 (w64 (s10 + ((w64 (((rd (0 : Int) s2 s50).tmod 9000) + 9000)).tmod 9000))) (w64 (s11.1 + ((w64 (((rd (0 : Int) s2 s50).tmod 9000) + 9000)).tmod 9000)),s11.2) (w64 (s12.1 + 1),s12.2) r2.1.2.2.2.1 s48 s49 s50 0).bind fun q45 =>
  Sum.elim
  (fun y3 =>
  l8_10 k j y3.1 y3.2.1 y3.2.2.1 y3.2.2.2.1 y3.2.2.2.2.1 y3.2.2.2.2.2.1 y3.2.2.2.2.2.2.1 y3.2.2.2.2.2.2.2.1 y3.2.2.2.2.2.2.2.2.1 y3.2.2.2.2.2.2.2.2.2.1 (w64 (y3.2.2.2.2.2.2.2.2.2.2.1 + 1)))
  (fun y4 =>
  some (.inr y4))
  q45
  else
  bif (s50.tmod 2) == 1 then
  (f12 k r1.2.1).bind fun r5 =>
  (l8_22 k k s0 s1 s2 s7 r5.2.1 (w64 (s10 + ((w64 (((rd (0 : Int) s2 s50).tmod 9000) + 9000)).tmod 9000))) (w64 (s11.1 + ((w64 (((rd (0 : Int) s2 s50).tmod 9000) + 9000)).tmod 9000)),s11.2) (s12.1,w64 (s12.1 + 1),()) r5.1.2.2.2.1 s48 s49 s50 0).bind fun q46 =>
  Sum.elim
  (fun y6 =>
  l8_10 k j y6.1 y6.2.1 y6.2.2.1 y6.2.2.2.1 y6.2.2.2.2.1 y6.2.2.2.2.2.1 y6.2.2.2.2.2.2.1 y6.2.2.2.2.2.2.2.1 y6.2.2.2.2.2.2.2.2.1 y6.2.2.2.2.2.2.2.2.2.1 (w64 (y6.2.2.2.2.2.2.2.2.2.2.1 + 1)))
  (fun y7 =>
  some (.inr y7))
  q46
  else
  none
  else
  bif (s50.tmod 2) == 1 then
  bif (s50.tmod 2) == 0 then
  (f12 k r1.2.1).bind fun r8 =>
  (l8_22 k k s0 s1 s2 s7 r8.2.1 (w64 (s10 + ((w64 (((rd (0 : Int) s2 s50).tmod 9000) + 9000)).tmod 9000))) (w64 (s11.1 + ((w64 (((rd (0 : Int) s2 s50).tmod 9000) + 9000)).tmod 9000)),s11.2) (w64 (s12.2.1 + 1),s12.2) r8.1.2.2.2.1 s48 s49 s50 0).bind fun q47 =>
  Sum.elim
  (fun y9 =>
  l8_10 k j y9.1 y9.2.1 y9.2.2.1 y9.2.2.2.1 y9.2.2.2.2.1 y9.2.2.2.2.2.1 y9.2.2.2.2.2.2.1 y9.2.2.2.2.2.2.2.1 y9.2.2.2.2.2.2.2.2.1 y9.2.2.2.2.2.2.2.2.2.1 (w64 (y9.2.2.2.2.2.2.2.2.2.2.1 + 1)))
  (fun y10 =>
  some (.inr y10))
  q47
  else
  bif (s50.tmod 2) == 1 then
  (f12 k r1.2.1).bind fun r11 =>
  (l8_22 k k s0 s1 s2 s7 r11.2.1 (w64 (s10 + ((w64 (((rd (0 : Int) s2 s50).tmod 9000) + 9000)).tmod 9000))) (w64 (s11.1 + ((w64 (((rd (0 : Int) s2 s50).tmod 9000) + 9000)).tmod 9000)),s11.2) (s12.1,w64 (s12.2.1 + 1),()) r11.1.2.2.2.1 s48 s49 s50 0).bind fun q48 =>
  Sum.elim
  (fun y12 =>
  l8_10 k j y12.1 y12.2.1 y12.2.2.1 y12.2.2.2.1 y12.2.2.2.2.1 y12.2.2.2.2.2.1 y12.2.2.2.2.2.2.1 y12.2.2.2.2.2.2.2.1 y12.2.2.2.2.2.2.2.2.1 y12.2.2.2.2.2.2.2.2.2.1 (w64 (y12.2.2.2.2.2.2.2.2.2.2.1 + 1)))
  (fun y13 =>
  some (.inr y13))
  q48
  else
  none
  else
  none
  else
  bif (s50.tmod 2) == 1 then
  bif (s50.tmod 2) == 0 then
  bif (s50.tmod 2) == 0 then
  (f12 k r1.2.1).bind fun r14 =>
  (l8_22 k k s0 s1 s2 s7 r14.2.1 (w64 (s10 + ((w64 (((rd (0 : Int) s2 s50).tmod 9000) + 9000)).tmod 9000))) (s11.1,w64 (s11.1 + ((w64 (((rd (0 : Int) s2 s50).tmod 9000) + 9000)).tmod 9000)),()) (w64 (s12.1 + 1),s12.2) r14.1.2.2.2.1 s48 s49 s50 0).bind fun q49 =>
  Sum.elim
  (fun y15 =>
  l8_10 k j y15.1 y15.2.1 y15.2.2.1 y15.2.2.2.1 y15.2.2.2.2.1 y15.2.2.2.2.2.1 y15.2.2.2.2.2.2.1 y15.2.2.2.2.2.2.2.1 y15.2.2.2.2.2.2.2.2.1 y15.2.2.2.2.2.2.2.2.2.1 (w64 (y15.2.2.2.2.2.2.2.2.2.2.1 + 1)))
  (fun y16 =>
  some (.inr y16))
  q49
  else
  bif (s50.tmod 2) == 1 then
  (f12 k r1.2.1).bind fun r17 =>
  (l8_22 k k s0 s1 s2 s7 r17.2.1 (w64 (s10 + ((w64 (((rd (0 : Int) s2 s50).tmod 9000) + 9000)).tmod 9000))) (s11.1,w64 (s11.1 + ((w64 (((rd (0 : Int) s2 s50).tmod 9000) + 9000)).tmod 9000)),()) (s12.1,w64 (s12.1 + 1),()) r17.1.2.2.2.1 s48 s49 s50 0).bind fun q50 =>
  Sum.elim
  (fun y18 =>
  l8_10 k j y18.1 y18.2.1 y18.2.2.1 y18.2.2.2.1 y18.2.2.2.2.1 y18.2.2.2.2.2.1 y18.2.2.2.2.2.2.1 y18.2.2.2.2.2.2.2.1 y18.2.2.2.2.2.2.2.2.1 y18.2.2.2.2.2.2.2.2.2.1 (w64 (y18.2.2.2.2.2.2.2.2.2.2.1 + 1)))
  (fun y19 =>
  some (.inr y19))
  q50
  else
  none
  else
  bif (s50.tmod 2) == 1 then
  bif (s50.tmod 2) == 0 then
  (f12 k r1.2.1).bind fun r20 =>
  (l8_22 k k s0 s1 s2 s7 r20.2.1 (w64 (s10 + ((w64 (((rd (0 : Int) s2 s50).tmod 9000) + 9000)).tmod 9000))) (s11.1,w64 (s11.1 + ((w64 (((rd (0 : Int) s2 s50).tmod 9000) + 9000)).tmod 9000)),()) (w64 (s12.2.1 + 1),s12.2) r20.1.2.2.2.1 s48 s49 s50 0).bind fun q51 =>
  Sum.elim
  (fun y21 =>
  l8_10 k j y21.1 y21.2.1 y21.2.2.1 y21.2.2.2.1 y21.2.2.2.2.1 y21.2.2.2.2.2.1 y21.2.2.2.2.2.2.1 y21.2.2.2.2.2.2.2.1 y21.2.2.2.2.2.2.2.2.1 y21.2.2.2.2.2.2.2.2.2.1 (w64 (y21.2.2.2.2.2.2.2.2.2.2.1 + 1)))
  (fun y22 =>
  some (.inr y22))
  q51
  else
  bif (s50.tmod 2) == 1 then
  (f12 k r1.2.1).bind fun r23 =>
  (l8_22 k k s0 s1 s2 s7 r23.2.1 (w64 (s10 + ((w64 (((rd (0 : Int) s2 s50).tmod 9000) + 9000)).tmod 9000))) (s11.1,w64 (s11.1 + ((w64 (((rd (0 : Int) s2 s50).tmod 9000) + 9000)).tmod 9000)),()) (s12.1,w64 (s12.2.1 + 1),()) r23.1.2.2.2.1 s48 s49 s50 0).bind fun q52 =>
  Sum.elim
  (fun y24 =>
  l8_10 k j y24.1 y24.2.1 y24.2.2.1 y24.2.2.2.1 y24.2.2.2.2.1 y24.2.2.2.2.2.1 y24.2.2.2.2.2.2.1 y24.2.2.2.2.2.2.2.1 y24.2.2.2.2.2.2.2.2.1 y24.2.2.2.2.2.2.2.2.2.1 (w64 (y24.2.2.2.2.2.2.2.2.2.2.1 + 1)))
  (fun y25 =>
  some (.inr y25))
  q52
  else
  none
  else
  none
  else
  none
  else
  bif (s50.tmod 2) == 1 then
  bif (s50.tmod 2) == 0 then
  bif (s50.tmod 2) == 0 then
  bif (s50.tmod 2) == 0 then
  (f12 k r1.2.1).bind fun r26 =>
  (l8_22 k k s0 s1 s2 s7 r26.2.1 (w64 (s10 + ((w64 (((rd (0 : Int) s2 s50).tmod 9000) + 9000)).tmod 9000))) (w64 (s11.2.1 + ((w64 (((rd (0 : Int) s2 s50).tmod 9000) + 9000)).tmod 9000)),s11.2) (w64 (s12.1 + 1),s12.2) r26.1.2.2.2.1 s48 s49 s50 0).bind fun q53 =>
  Sum.elim
  (fun y27 =>
  l8_10 k j y27.1 y27.2.1 y27.2.2.1 y27.2.2.2.1 y27.2.2.2.2.1 y27.2.2.2.2.2.1 y27.2.2.2.2.2.2.1 y27.2.2.2.2.2.2.2.1 y27.2.2.2.2.2.2.2.2.1 y27.2.2.2.2.2.2.2.2.2.1 (w64 (y27.2.2.2.2.2.2.2.2.2.2.1 + 1)))
  (fun y28 =>
  some (.inr y28))
  q53
  else
  bif (s50.tmod 2) == 1 then
  (f12 k r1.2.1).bind fun r29 =>
  (l8_22 k k s0 s1 s2 s7 r29.2.1 (w64 (s10 + ((w64 (((rd (0 : Int) s2 s50).tmod 9000) + 9000)).tmod 9000))) (w64 (s11.2.1 + ((w64 (((rd (0 : Int) s2 s50).tmod 9000) + 9000)).tmod 9000)),s11.2) (s12.1,w64 (s12.1 + 1),()) r29.1.2.2.2.1 s48 s49 s50 0).bind fun q54 =>
  Sum.elim
  (fun y30 =>
  l8_10 k j y30.1 y30.2.1 y30.2.2.1 y30.2.2.2.1 y30.2.2.2.2.1 y30.2.2.2.2.2.1 y30.2.2.2.2.2.2.1 y30.2.2.2.2.2.2.2.1 y30.2.2.2.2.2.2.2.2.1 y30.2.2.2.2.2.2.2.2.2.1 (w64 (y30.2.2.2.2.2.2.2.2.2.2.1 + 1)))
  (fun y31 =>
  some (.inr y31))
  q54
  else
  none
  else
  bif (s50.tmod 2) == 1 then
  bif (s50.tmod 2) == 0 then
  (f12 k r1.2.1).bind fun r32 =>
  (l8_22 k k s0 s1 s2 s7 r32.2.1 (w64 (s10 + ((w64 (((rd (0 : Int) s2 s50).tmod 9000) + 9000)).tmod 9000))) (w64 (s11.2.1 + ((w64 (((rd (0 : Int) s2 s50).tmod 9000) + 9000)).tmod 9000)),s11.2) (w64 (s12.2.1 + 1),s12.2) r32.1.2.2.2.1 s48 s49 s50 0).bind fun q55 =>
  Sum.elim
  (fun y33 =>
  l8_10 k j y33.1 y33.2.1 y33.2.2.1 y33.2.2.2.1 y33.2.2.2.2.1 y33.2.2.2.2.2.1 y33.2.2.2.2.2.2.1 y33.2.2.2.2.2.2.2.1 y33.2.2.2.2.2.2.2.2.1 y33.2.2.2.2.2.2.2.2.2.1 (w64 (y33.2.2.2.2.2.2.2.2.2.2.1 + 1)))
  (fun y34 =>
  some (.inr y34))
  q55
  else
  bif (s50.tmod 2) == 1 then
  (f12 k r1.2.1).bind fun r35 =>
  (l8_22 k k s0 s1 s2 s7 r35.2.1 (w64 (s10 + ((w64 (((rd (0 : Int) s2 s50).tmod 9000) + 9000)).tmod 9000))) (w64 (s11.2.1 + ((w64 (((rd (0 : Int) s2 s50).tmod 9000) + 9000)).tmod 9000)),s11.2) (s12.1,w64 (s12.2.1 + 1),()) r35.1.2.2.2.1 s48 s49 s50 0).bind fun q56 =>
  Sum.elim
  (fun y36 =>
  l8_10 k j y36.1 y36.2.1 y36.2.2.1 y36.2.2.2.1 y36.2.2.2.2.1 y36.2.2.2.2.2.1 y36.2.2.2.2.2.2.1 y36.2.2.2.2.2.2.2.1 y36.2.2.2.2.2.2.2.2.1 y36.2.2.2.2.2.2.2.2.2.1 (w64 (y36.2.2.2.2.2.2.2.2.2.2.1 + 1)))
  (fun y37 =>
  some (.inr y37))
  q56
  else
  none
  else
  none
  else
  bif (s50.tmod 2) == 1 then
  bif (s50.tmod 2) == 0 then
  bif (s50.tmod 2) == 0 then
  (f12 k r1.2.1).bind fun r38 =>
  (l8_22 k k s0 s1 s2 s7 r38.2.1 (w64 (s10 + ((w64 (((rd (0 : Int) s2 s50).tmod 9000) + 9000)).tmod 9000))) (s11.1,w64 (s11.2.1 + ((w64 (((rd (0 : Int) s2 s50).tmod 9000) + 9000)).tmod 9000)),()) (w64 (s12.1 + 1),s12.2) r38.1.2.2.2.1 s48 s49 s50 0).bind fun q57 =>
  Sum.elim
  (fun y39 =>
  l8_10 k j y39.1 y39.2.1 y39.2.2.1 y39.2.2.2.1 y39.2.2.2.2.1 y39.2.2.2.2.2.1 y39.2.2.2.2.2.2.1 y39.2.2.2.2.2.2.2.1 y39.2.2.2.2.2.2.2.2.1 y39.2.2.2.2.2.2.2.2.2.1 (w64 (y39.2.2.2.2.2.2.2.2.2.2.1 + 1)))
  (fun y40 =>
  some (.inr y40))
  q57
  else
  bif (s50.tmod 2) == 1 then
  (f12 k r1.2.1).bind fun r41 =>
  (l8_22 k k s0 s1 s2 s7 r41.2.1 (w64 (s10 + ((w64 (((rd (0 : Int) s2 s50).tmod 9000) + 9000)).tmod 9000))) (s11.1,w64 (s11.2.1 + ((w64 (((rd (0 : Int) s2 s50).tmod 9000) + 9000)).tmod 9000)),()) (s12.1,w64 (s12.1 + 1),()) r41.1.2.2.2.1 s48 s49 s50 0).bind fun q58 =>
  Sum.elim
  (fun y42 =>
  l8_10 k j y42.1 y42.2.1 y42.2.2.1 y42.2.2.2.1 y42.2.2.2.2.1 y42.2.2.2.2.2.1 y42.2.2.2.2.2.2.1 y42.2.2.2.2.2.2.2.1 y42.2.2.2.2.2.2.2.2.1 y42.2.2.2.2.2.2.2.2.2.1 (w64 (y42.2.2.2.2.2.2.2.2.2.2.1 + 1)))
  (fun y43 =>
  some (.inr y43))
  q58
  else
  none
  else
  bif (s50.tmod 2) == 1 then
  bif (s50.tmod 2) == 0 then
  (f12 k r1.2.1).bind fun r44 =>
  (l8_22 k k s0 s1 s2 s7 r44.2.1 (w64 (s10 + ((w64 (((rd (0 : Int) s2 s50).tmod 9000) + 9000)).tmod 9000))) (s11.1,w64 (s11.2.1 + ((w64 (((rd (0 : Int) s2 s50).tmod 9000) + 9000)).tmod 9000)),()) (w64 (s12.2.1 + 1),s12.2) r44.1.2.2.2.1 s48 s49 s50 0).bind fun q59 =>
  Sum.elim
  (fun y45 =>
  l8_10 k j y45.1 y45.2.1 y45.2.2.1 y45.2.2.2.1 y45.2.2.2.2.1 y45.2.2.2.2.2.1 y45.2.2.2.2.2.2.1 y45.2.2.2.2.2.2.2.1 y45.2.2.2.2.2.2.2.2.1 y45.2.2.2.2.2.2.2.2.2.1 (w64 (y45.2.2.2.2.2.2.2.2.2.2.1 + 1)))
  (fun y46 =>
  some (.inr y46))
  q59
  else
  bif (s50.tmod 2) == 1 then
  (f12 k r1.2.1).bind fun r47 =>
  (l8_22 k k s0 s1 s2 s7 r47.2.1 (w64 (s10 + ((w64 (((rd (0 : Int) s2 s50).tmod 9000) + 9000)).tmod 9000))) (s11.1,w64 (s11.2.1 + ((w64 (((rd (0 : Int) s2 s50).tmod 9000) + 9000)).tmod 9000)),()) (s12.1,w64 (s12.2.1 + 1),()) r47.1.2.2.2.1 s48 s49 s50 0).bind fun q60 =>
  Sum.elim
  (fun y48 =>
  l8_10 k j y48.1 y48.2.1 y48.2.2.1 y48.2.2.2.1 y48.2.2.2.2.1 y48.2.2.2.2.2.1 y48.2.2.2.2.2.2.1 y48.2.2.2.2.2.2.2.1 y48.2.2.2.2.2.2.2.2.1 y48.2.2.2.2.2.2.2.2.2.1 (w64 (y48.2.2.2.2.2.2.2.2.2.2.1 + 1)))
  (fun y49 =>
  some (.inr y49))
  q60
  else
  none
  else
  none
  else
  none
  else
  none
  else
  none
  else
  (f14 k s8 (0,s50.tmod 2,0,w64 (s10 + 7),((-1),rd (0 : Int) s48 s50,0,()),())).bind fun r50 =>
  bif r50.1 != 0 then
  some (.inr (false,()))
  else
  bif (s50.tmod 2) == 0 then
  bif (s50.tmod 2) == 0 then
  bif (s50.tmod 2) == 0 then
  bif (s50.tmod 2) == 0 then
  (f12 k r50.2.1).bind fun r51 =>
  (l8_22 k k s0 s1 s2 s7 r51.2.1 (w64 (s10 + 7)) (w64 (s11.1 + 7),s11.2) (w64 (s12.1 + 1),s12.2) r51.1.2.2.2.1 s48 s49 s50 0).bind fun q61 =>
  Sum.elim
  (fun y52 =>
  l8_10 k j y52.1 y52.2.1 y52.2.2.1 y52.2.2.2.1 y52.2.2.2.2.1 y52.2.2.2.2.2.1 y52.2.2.2.2.2.2.1 y52.2.2.2.2.2.2.2.1 y52.2.2.2.2.2.2.2.2.1 y52.2.2.2.2.2.2.2.2.2.1 (w64 (y52.2.2.2.2.2.2.2.2.2.2.1 + 1)))
  (fun y53 =>
  some (.inr y53))
  q61
  else
  bif (s50.tmod 2) == 1 then
  (f12 k r50.2.1).bind fun r54 =>
  (l8_22 k k s0 s1 s2 s7 r54.2.1 (w64 (s10 + 7)) (w64 (s11.1 + 7),s11.2) (s12.1,w64 (s12.1 + 1),()) r54.1.2.2.2.1 s48 s49 s50 0).bind fun q62 =>
  Sum.elim
  (fun y55 =>
  l8_10 k j y55.1 y55.2.1 y55.2.2.1 y55.2.2.2.1 y55.2.2.2.2.1 y55.2.2.2.2.2.1 y55.2.2.2.2.2.2.1 y55.2.2.2.2.2.2.2.1 y55.2.2.2.2.2.2.2.2.1 y55.2.2.2.2.2.2.2.2.2.1 (w64 (y55.2.2.2.2.2.2.2.2.2.2.1 + 1)))
  (fun y56 =>
  some (.inr y56))
  q62
  else
  none
  else
  bif (s50.tmod 2) == 1 then
  bif (s50.tmod 2) == 0 then
  (f12 k r50.2.1).bind fun r57 =>
  (l8_22 k k s0 s1 s2 s7 r57.2.1 (w64 (s10 + 7)) (w64 (s11.1 + 7),s11.2) (w64 (s12.2.1 + 1),s12.2) r57.1.2.2.2.1 s48 s49 s50 0).bind fun q63 =>
  Sum.elim
  (fun y58 =>
  l8_10 k j y58.1 y58.2.1 y58.2.2.1 y58.2.2.2.1 y58.2.2.2.2.1 y58.2.2.2.2.2.1 y58.2.2.2.2.2.2.1 y58.2.2.2.2.2.2.2.1 y58.2.2.2.2.2.2.2.2.1 y58.2.2.2.2.2.2.2.2.2.1 (w64 (y58.2.2.2.2.2.2.2.2.2.2.1 + 1)))
  (fun y59 =>
  some (.inr y59))
  q63
  else
  bif (s50.tmod 2) == 1 then
  (f12 k r50.2.1).bind fun r60 =>
  (l8_22 k k s0 s1 s2 s7 r60.2.1 (w64 (s10 + 7)) (w64 (s11.1 + 7),s11.2) (s12.1,w64 (s12.2.1 + 1),()) r60.1.2.2.2.1 s48 s49 s50 0).bind fun q64 =>
  Sum.elim
  (fun y61 =>
  l8_10 k j y61.1 y61.2.1 y61.2.2.1 y61.2.2.2.1 y61.2.2.2.2.1 y61.2.2.2.2.2.1 y61.2.2.2.2.2.2.1 y61.2.2.2.2.2.2.2.1 y61.2.2.2.2.2.2.2.2.1 y61.2.2.2.2.2.2.2.2.2.1 (w64 (y61.2.2.2.2.2.2.2.2.2.2.1 + 1)))
  (fun y62 =>
  some (.inr y62))
  q64
  else
  none
  else
  none
  else
  bif (s50.tmod 2) == 1 then
  bif (s50.tmod 2) == 0 then
  bif (s50.tmod 2) == 0 then
  (f12 k r50.2.1).bind fun r63 =>
  (l8_22 k k s0 s1 s2 s7 r63.2.1 (w64 (s10 + 7)) (s11.1,w64 (s11.1 + 7),()) (w64 (s12.1 + 1),s12.2) r63.1.2.2.2.1 s48 s49 s50 0).bind fun q65 =>
  Sum.elim
  (fun y64 =>
  l8_10 k j y64.1 y64.2.1 y64.2.2.1 y64.2.2.2.1 y64.2.2.2.2.1 y64.2.2.2.2.2.1 y64.2.2.2.2.2.2.1 y64.2.2.2.2.2.2.2.1 y64.2.2.2.2.2.2.2.2.1 y64.2.2.2.2.2.2.2.2.2.1 (w64 (y64.2.2.2.2.2.2.2.2.2.2.1 + 1)))
  (fun y65 =>
  some (.inr y65))
  q65
  else
  bif (s50.tmod 2) == 1 then
  (f12 k r50.2.1).bind fun r66 =>
  (l8_22 k k s0 s1 s2 s7 r66.2.1 (w64 (s10 + 7)) (s11.1,w64 (s11.1 + 7),()) (s12.1,w64 (s12.1 + 1),()) r66.1.2.2.2.1 s48 s49 s50 0).bind fun q66 =>
  Sum.elim
  (fun y67 =>
  l8_10 k j y67.1 y67.2.1 y67.2.2.1 y67.2.2.2.1 y67.2.2.2.2.1 y67.2.2.2.2.2.1 y67.2.2.2.2.2.2.1 y67.2.2.2.2.2.2.2.1 y67.2.2.2.2.2.2.2.2.1 y67.2.2.2.2.2.2.2.2.2.1 (w64 (y67.2.2.2.2.2.2.2.2.2.2.1 + 1)))
  (fun y68 =>
  some (.inr y68))
  q66
  else
  none
  else
  bif (s50.tmod 2) == 1 then
  bif (s50.tmod 2) == 0 then
  (f12 k r50.2.1).bind fun r69 =>
  (l8_22 k k s0 s1 s2 s7 r69.2.1 (w64 (s10 + 7)) (s11.1,w64 (s11.1 + 7),()) (w64 (s12.2.1 + 1),s12.2) r69.1.2.2.2.1 s48 s49 s50 0).bind fun q67 =>
  Sum.elim
  (fun y70 =>
  l8_10 k j y70.1 y70.2.1 y70.2.2.1 y70.2.2.2.1 y70.2.2.2.2.1 y70.2.2.2.2.2.1 y70.2.2.2.2.2.2.1 y70.2.2.2.2.2.2.2.1 y70.2.2.2.2.2.2.2.2.1 y70.2.2.2.2.2.2.2.2.2.1 (w64 (y70.2.2.2.2.2.2.2.2.2.2.1 + 1)))
  (fun y71 =>
  some (.inr y71))
  q67
  else
  bif (s50.tmod 2) == 1 then
  (f12 k r50.2.1).bind fun r72 =>
  (l8_22 k k s0 s1 s2 s7 r72.2.1 (w64 (s10 + 7)) (s11.1,w64 (s11.1 + 7),()) (s12.1,w64 (s12.2.1 + 1),()) r72.1.2.2.2.1 s48 s49 s50 0).bind fun q68 =>
  Sum.elim
  (fun y73 =>
  l8_10 k j y73.1 y73.2.1 y73.2.2.1 y73.2.2.2.1 y73.2.2.2.2.1 y73.2.2.2.2.2.1 y73.2.2.2.2.2.2.1 y73.2.2.2.2.2.2.2.1 y73.2.2.2.2.2.2.2.2.1 y73.2.2.2.2.2.2.2.2.2.1 (w64 (y73.2.2.2.2.2.2.2.2.2.2.1 + 1)))
  (fun y74 =>
  some (.inr y74))
  q68
  else
  none
  else
  none
  else
  none
  else
  bif (s50.tmod 2) == 1 then
  bif (s50.tmod 2) == 0 then
  bif (s50.tmod 2) == 0 then
  bif (s50.tmod 2) == 0 then
  (f12 k r50.2.1).bind fun r75 =>
  (l8_22 k k s0 s1 s2 s7 r75.2.1 (w64 (s10 + 7)) (w64 (s11.2.1 + 7),s11.2) (w64 (s12.1 + 1),s12.2) r75.1.2.2.2.1 s48 s49 s50 0).bind fun q69 =>
  Sum.elim
  (fun y76 =>
  l8_10 k j y76.1 y76.2.1 y76.2.2.1 y76.2.2.2.1 y76.2.2.2.2.1 y76.2.2.2.2.2.1 y76.2.2.2.2.2.2.1 y76.2.2.2.2.2.2.2.1 y76.2.2.2.2.2.2.2.2.1 y76.2.2.2.2.2.2.2.2.2.1 (w64 (y76.2.2.2.2.2.2.2.2.2.2.1 + 1)))
  (fun y77 =>
  some (.inr y77))
  q69
  else
  bif (s50.tmod 2) == 1 then
  (f12 k r50.2.1).bind fun r78 =>
  (l8_22 k k s0 s1 s2 s7 r78.2.1 (w64 (s10 + 7)) (w64 (s11.2.1 + 7),s11.2) (s12.1,w64 (s12.1 + 1),()) r78.1.2.2.2.1 s48 s49 s50 0).bind fun q70 =>
  Sum.elim
  (fun y79 =>
  l8_10 k j y79.1 y79.2.1 y79.2.2.1 y79.2.2.2.1 y79.2.2.2.2.1 y79.2.2.2.2.2.1 y79.2.2.2.2.2.2.1 y79.2.2.2.2.2.2.2.1 y79.2.2.2.2.2.2.2.2.1 y79.2.2.2.2.2.2.2.2.2.1 (w64 (y79.2.2.2.2.2.2.2.2.2.2.1 + 1)))
  (fun y80 =>
  some (.inr y80))
  q70
  else
  none
  else
  bif (s50.tmod 2) == 1 then
  bif (s50.tmod 2) == 0 then
  (f12 k r50.2.1).bind fun r81 =>
  (l8_22 k k s0 s1 s2 s7 r81.2.1 (w64 (s10 + 7)) (w64 (s11.2.1 + 7),s11.2) (w64 (s12.2.1 + 1),s12.2) r81.1.2.2.2.1 s48 s49 s50 0).bind fun q71 =>
  Sum.elim
  (fun y82 =>
  l8_10 k j y82.1 y82.2.1 y82.2.2.1 y82.2.2.2.1 y82.2.2.2.2.1 y82.2.2.2.2.2.1 y82.2.2.2.2.2.2.1 y82.2.2.2.2.2.2.2.1 y82.2.2.2.2.2.2.2.2.1 y82.2.2.2.2.2.2.2.2.2.1 (w64 (y82.2.2.2.2.2.2.2.2.2.2.1 + 1)))
  (fun y83 =>
  some (.inr y83))
  q71
  else
  bif (s50.tmod 2) == 1 then
  (f12 k r50.2.1).bind fun r84 =>
  (l8_22 k k s0 s1 s2 s7 r84.2.1 (w64 (s10 + 7)) (w64 (s11.2.1 + 7),s11.2) (s12.1,w64 (s12.2.1 + 1),()) r84.1.2.2.2.1 s48 s49 s50 0).bind fun q72 =>
  Sum.elim
  (fun y85 =>
  l8_10 k j y85.1 y85.2.1 y85.2.2.1 y85.2.2.2.1 y85.2.2.2.2.1 y85.2.2.2.2.2.1 y85.2.2.2.2.2.2.1 y85.2.2.2.2.2.2.2.1 y85.2.2.2.2.2.2.2.2.1 y85.2.2.2.2.2.2.2.2.2.1 (w64 (y85.2.2.2.2.2.2.2.2.2.2.1 + 1)))
  (fun y86 =>
  some (.inr y86))
  q72
  else
  none
  else
  none
  else
  bif (s50.tmod 2) == 1 then
  bif (s50.tmod 2) == 0 then
  bif (s50.tmod 2) == 0 then
  (f12 k r50.2.1).bind fun r87 =>
  (l8_22 k k s0 s1 s2 s7 r87.2.1 (w64 (s10 + 7)) (s11.1,w64 (s11.2.1 + 7),()) (w64 (s12.1 + 1),s12.2) r87.1.2.2.2.1 s48 s49 s50 0).bind fun q73 =>
  Sum.elim
  (fun y88 =>
  l8_10 k j y88.1 y88.2.1 y88.2.2.1 y88.2.2.2.1 y88.2.2.2.2.1 y88.2.2.2.2.2.1 y88.2.2.2.2.2.2.1 y88.2.2.2.2.2.2.2.1 y88.2.2.2.2.2.2.2.2.1 y88.2.2.2.2.2.2.2.2.2.1 (w64 (y88.2.2.2.2.2.2.2.2.2.2.1 + 1)))
  (fun y89 =>
  some (.inr y89))
  q73
  else
  bif (s50.tmod 2) == 1 then
  (f12 k r50.2.1).bind fun r90 =>
  (l8_22 k k s0 s1 s2 s7 r90.2.1 (w64 (s10 + 7)) (s11.1,w64 (s11.2.1 + 7),()) (s12.1,w64 (s12.1 + 1),()) r90.1.2.2.2.1 s48 s49 s50 0).bind fun q74 =>
  Sum.elim
  (fun y91 =>
  l8_10 k j y91.1 y91.2.1 y91.2.2.1 y91.2.2.2.1 y91.2.2.2.2.1 y91.2.2.2.2.2.1 y91.2.2.2.2.2.2.1 y91.2.2.2.2.2.2.2.1 y91.2.2.2.2.2.2.2.2.1 y91.2.2.2.2.2.2.2.2.2.1 (w64 (y91.2.2.2.2.2.2.2.2.2.2.1 + 1)))
  (fun y92 =>
  some (.inr y92))
  q74
  else
  none
  else
  bif (s50.tmod 2) == 1 then
  bif (s50.tmod 2) == 0 then
  (f12 k r50.2.1).bind fun r93 =>
  (l8_22 k k s0 s1 s2 s7 r93.2.1 (w64 (s10 + 7)) (s11.1,w64 (s11.2.1 + 7),()) (w64 (s12.2.1 + 1),s12.2) r93.1.2.2.2.1 s48 s49 s50 0).bind fun q75 =>
  Sum.elim
  (fun y94 =>
  l8_10 k j y94.1 y94.2.1 y94.2.2.1 y94.2.2.2.1 y94.2.2.2.2.1 y94.2.2.2.2.2.1 y94.2.2.2.2.2.2.1 y94.2.2.2.2.2.2.2.1 y94.2.2.2.2.2.2.2.2.1 y94.2.2.2.2.2.2.2.2.2.1 (w64 (y94.2.2.2.2.2.2.2.2.2.2.1 + 1)))
  (fun y95 =>
  some (.inr y95))
  q75
  else
  bif (s50.tmod 2) == 1 then
  (f12 k r50.2.1).bind fun r96 =>
  (l8_22 k k s0 s1 s2 s7 r96.2.1 (w64 (s10 + 7)) (s11.1,w64 (s11.2.1 + 7),()) (s12.1,w64 (s12.2.1 + 1),()) r96.1.2.2.2.1 s48 s49 s50 0).bind fun q76 =>
  Sum.elim
  (fun y97 =>
  l8_10 k j y97.1 y97.2.1 y97.2.2.1 y97.2.2.2.1 y97.2.2.2.2.1 y97.2.2.2.2.2.1 y97.2.2.2.2.2.2.1 y97.2.2.2.2.2.2.2.1 y97.2.2.2.2.2.2.2.2.1 y97.2.2.2.2.2.2.2.2.2.1 (w64 (y97.2.2.2.2.2.2.2.2.2.2.1 + 1)))
  (fun y98 =>
  some (.inr y98))
  q76
  else
  none
  else
  none
  else
  none
  else
  none
  else
  none
  else
  some (.inl (s1,s10,s11,()))
noncomputable def l8_10_sig (k : Nat) : LoopSig := ⟨[(0,.obj ck1),(1,.obj ck1),(2,.obj ck6),(7,.obj ck45),(8,.obj ck88),(10,.obj ck1),(11,.obj ck21),(12,.obj ck21),(48,.obj ck2),(49,.obj ck1),(50,.obj ck1)],[(.exit 0,[(1,.obj ck1),(10,.obj ck1),(11,.obj ck21)]),(.ret,[(6,.obj (.val (.bool)))])],fun j x => l8_10 k j x.1 x.2.1 x.2.2.1 x.2.2.2.1 x.2.2.2.2.1 x.2.2.2.2.2.1 x.2.2.2.2.2.2.1 x.2.2.2.2.2.2.2.1 x.2.2.2.2.2.2.2.2.1 x.2.2.2.2.2.2.2.2.2.1 x.2.2.2.2.2.2.2.2.2.2.1⟩
noncomputable def f8 (k : Nat) (x0 : Int) (x1 : Int) (x2 : List Int) : Option ((Bool×Unit)) :=
  (f25 k).bind fun r1 =>
  bif !r1.1 then
  some (false,())
  else
  (f26 k).bind fun r2 =>
  (f11 k r2.1 ([(2,50000,()),(0,90000,())],(w64 ((x0.tmod 1000) + 1000)).tmod 1000,0,()) ((w64 ((x1.tmod 1000) + 1000)).tmod 1000)).bind fun q77 =>
  Sum.elim
  (fun y3 =>
  bif y3.2.1 != 0 then
  some (false,())
  else
  (l8_10 k k ((w64 ((x0.tmod 1000) + 1000)).tmod 1000) ((w64 ((x1.tmod 1000) + 1000)).tmod 1000) x2 ([(2,50000,()),(0,90000,())],(w64 ((x0.tmod 1000) + 1000)).tmod 1000,0,()) y3.1 ((w64 ((x1.tmod 1000) + 1000)).tmod 1000) (0,0,()) (0,0,()) [0,1,4,2,3,5] 6 0).bind fun q78 =>
  Sum.elim
  (fun y4 =>
  some (y4.2.1 == (w64 ((w64 (y4.1 + y4.2.2.1.1)) + y4.2.2.1.2.1)),()))
  (fun y5 =>
  some y5)
  q78)
  (fun y6 =>
  bif y6.2.1 != 0 then
  some (false,())
  else
  none)
  q77
noncomputable def f8_sig (k : Nat) : Sig := ⟨[.val (.int .i64),.val (.int .i64),.val ty0],[],[[.val (.bool)]],fun x => f8 k x.1 x.2.1 x.2.2.1⟩
noncomputable def E_f8 (k : Nat) : Env := ⟨Tryz.prog,G0,scons 27 [f27_sig k] (scons 26 [f26_sig k] (scons 25 [f25_sig k] (scons 14 [f14_sig k] (scons 12 [f12_sig k] (scons 11 [f11_sig k] (snil)))))),tcons 10 (l8_10_sig k) (tcons 22 (l8_22_sig k) (tnil)),tcons 24 (c8_24_sig k) (tnil),unil,k,qnil,false⟩
theorem l8_10_ok (k : Nat) : LoopOK (E_f8 k) ⟨Tryz.f8.ntmps,[],G0⟩ (nthC 0 (loopsIn (Tryz.f8.body.getD .skip))) :=
  loop_ok (ls := l8_10_sig k) (by kernel_rfl) (fun _ => by kernel_rfl) (fun j x => by kernel_rfl)
theorem l8_22_ok (k : Nat) : LoopOK (E_f8 k) ⟨Tryz.f8.ntmps,[],G0⟩ (nthC 1 (loopsIn (Tryz.f8.body.getD .skip))) :=
  loop_ok (ls := l8_22_sig k) (by kernel_rfl) (fun _ => by kernel_rfl) (fun j x => by kernel_rfl)
theorem c8_24_ok (k : Nat) : CutOK (E_f8 k) ⟨Tryz.f8.ntmps,[],G0⟩ (nthC 28 (seqsIn (Tryz.f8.body.getD .skip))) :=
  cut_ok (ls := c8_24_sig k) (by kernel_rfl) (fun x => by kernel_rfl)
theorem f8_run (k : Nat) (x : (lTy (lay 0 (f8_sig k).ins)).den) : runF (E_f8 k) Tryz.f8 (f8_sig k) x = (f8_sig k).F x := by kernel_rfl
theorem f8_ok (k : Nat) : FnOK Tryz.prog G0 8 (f8_sig k) :=
  fn_ok2 (E := E_f8 k) (env_cons (one_sig (f27_ok k)) (env_cons (one_sig (f26_ok k)) (env_cons (one_sig (f25_ok k)) (env_cons (one_sig (f14_ok k)) (env_cons (one_sig (f12_ok k)) (env_cons (one_sig (f11_ok k)) (env_nil))))))) (qenv_nil) mixed Tryz.func8 Tryz.call8 (by kernel_rfl) (by kernel_rfl) (m := 2) (by kernel_rfl) ⟨⟨trivial,l8_10_ok k⟩,l8_22_ok k⟩ (sk := [28]) (by kernel_rfl) ⟨c8_24_ok k,trivial⟩ (f8_run k)
end Go.Proofs.YtpnbiakaknbofaaGreatDoor.G
