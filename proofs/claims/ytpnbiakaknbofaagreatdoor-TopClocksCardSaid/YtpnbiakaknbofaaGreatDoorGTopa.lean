import Derived.Test.YtpnbiakaknbofaaGreatDoorVM25
import Derived.Test.YtpnbiakaknbofaaGreatDoorVM26
import Derived.Test.YtpnbiakaknbofaaGreatDoorVM28
import Derived.Test.YtpnbiakaknbofaaGreatDoorVM24
import Derived.Test.YtpnbiakaknbofaaGreatDoorChecked
namespace Go.Proofs.YtpnbiakaknbofaaGreatDoor.G
open Go.VM Go.Proofs
abbrev w64 (n : Int) : Int := IntKind.i64.wrap n
theorem mixed : Tryz.prog.follows .mixedOrders = true := by kernel_rfl
def gl0 : List ByteArray := [(⟨#[42]⟩ : ByteArray),(⟨#[49,45,48]⟩ : ByteArray),(⟨#[48,45,49]⟩ : ByteArray),(⟨#[49,47,50]⟩ : ByteArray)]
def gl3 : List Int := [1,10,100,1000,10000,100000,1000000,10000000,100000000,1000000000,10000000000,100000000000,1000000000000,10000000000000,100000000000000,1000000000000000,10000000000000000,100000000000000000,1000000000000000000,10000000000000000000]
def gl7 : List Int := [0,1,28,2,29,14,24,3,30,22,20,15,25,17,4,8,31,27,13,23,21,19,16,7,26,12,18,6,11,5,10,9]
def gl8 : List Int := [0,1,56,2,57,49,28,3,61,58,42,50,38,29,17,4,62,47,59,36,45,43,51,22,53,39,33,30,24,18,12,5,63,55,48,27,60,41,37,16,46,35,44,21,52,32,23,11,54,26,40,15,34,20,31,10,25,14,19,9,13,8,7,6]
noncomputable def G0 : GTab := [⟨0,repT gl0.length .str,tupS gl0⟩,⟨3,repT gl3.length (.int .u64),tupI gl3 .u64⟩,⟨7,repT gl7.length (.int .u8),tupI gl7 .u8⟩,⟨8,repT gl8.length (.int .u8),tupI gl8 .u8⟩]
open Go.Shelf in
def joinL_ren : Go.Shelf.Ren := ⟨fun | 156 => 87 | 165 => 125 | 166 => 98 | 169 => 103 | 240 => 137 | 241 => 151 | 276 => 165 | 277 => 185 | n => n,fun | 31 => 162 | 9 => 9 | 3 => 3 | 4 => 4 | 0 => 0 | 20 => 20 | 72 => 178 | 76 => 171 | 70 => 175 | 37 => 176 | 75 => 170 | 127 => 215 | 164 => 239 | 5 => 5 | 80 => 188 | n => n,fun | n => n⟩
open Go.Shelf in
theorem joinL : Go.Proofs.Lays.n156 Tryz.prog joinL_ren := {
  mixed := by kernel_rfl
  f156 := Tryz.func87.trans (congrArg some (by kernel_rfl))
  f165 := Tryz.func125.trans (congrArg some (by kernel_rfl))
  f166 := Tryz.func98.trans (congrArg some (by kernel_rfl))
  f169 := Tryz.func103.trans (congrArg some (by kernel_rfl))
  f240 := Tryz.func137.trans (congrArg some (by kernel_rfl))
  f241 := Tryz.func151.trans (congrArg some (by kernel_rfl))
  f276 := Tryz.func165.trans (congrArg some (by kernel_rfl))
  f277 := Tryz.func185.trans (congrArg some (by kernel_rfl))
  t0 := Tryz.underlying0
  a0 := Tryz.isAgg0
  z0 := Tryz.sizeOf0
  v0 := Tryz.zeroValue0
  t3 := Tryz.underlying3
  a3 := Tryz.isAgg3
  z3 := Tryz.sizeOf3
  v3 := Tryz.zeroValue3
  t4 := Tryz.underlying4
  a4 := Tryz.isAgg4
  z4 := Tryz.sizeOf4
  v4 := Tryz.zeroValue4
  t9 := Tryz.underlying9
  a9 := Tryz.isAgg9
  z9 := Tryz.sizeOf9
  v9 := Tryz.zeroValue9
  t20 := Tryz.underlying20
  a20 := Tryz.isAgg20
  z20 := Tryz.sizeOf20
  v20 := Tryz.zeroValue20
  t31 := Tryz.underlying162
  a31 := Tryz.isAgg162
  z31 := Tryz.sizeOf162
  v31 := Tryz.zeroValue162
  t37 := Tryz.underlying176
  a37 := Tryz.isAgg176
  z37 := Tryz.sizeOf176
  v37 := Tryz.zeroValue176
  t70 := Tryz.underlying175
  a70 := Tryz.isAgg175
  z70 := Tryz.sizeOf175
  v70 := Tryz.zeroValue175
  t72 := Tryz.underlying178
  a72 := Tryz.isAgg178
  z72 := Tryz.sizeOf178
  v72 := Tryz.zeroValue178
  t75 := Tryz.underlying170
  a75 := Tryz.isAgg170
  z75 := Tryz.sizeOf170
  v75 := Tryz.zeroValue170
  t76 := Tryz.underlying171
  a76 := Tryz.isAgg171
  z76 := Tryz.sizeOf171
  v76 := Tryz.zeroValue171
  t127 := Tryz.underlying215
  a127 := Tryz.isAgg215
  z127 := Tryz.sizeOf215
  v127 := Tryz.zeroValue215
  t164 := Tryz.underlying239
  a164 := Tryz.isAgg239
  z164 := Tryz.sizeOf239
  v164 := Tryz.zeroValue239 }
open Go.Shelf in
theorem joinX : Go.Proofs.Builder.Extra Tryz.prog joinL_ren := {
  sizeBuilder := by kernel_rfl
  liesBuilder := by kernel_rfl
  t5 := Tryz.underlying5
  a5 := Tryz.isAgg5
  z5 := Tryz.sizeOf5
  v5 := Tryz.zeroValue5
  infoByte := by kernel_rfl
  cellsByte := by kernel_rfl
  sizeByte := by kernel_rfl
  neB5 := by decide }
abbrev ty0 : Ty := .sl (.int .i64)
abbrev ck1 : CK := .val (.int .i64)
abbrev ck2 : CK := .row (.int .i64)
abbrev ck5 : CK := .box 4 (.val (.bool))
abbrev ck6 : CK := .val ty0
abbrev ty7 : Ty := .pair (.int .i64) (.unit)
abbrev ck8 : CK := .box 3 ck1
abbrev ty9 : Ty := .pair (.str) (.pair (.str) (.unit))
abbrev ty10 : Ty := .pair (.str) (.pair (.int .u64) (.unit))
abbrev ck11 : CK := .cons ck8 (.nil)
abbrev ty13 : Ty := .pair (.int .i64) ty7
abbrev ck15 : CK := .val (.sl ty9)
abbrev ck18 : CK := .val (.sl ty10)
abbrev ck20 : CK := .cons ck1 (.cons ck1 (.nil))
abbrev ck21 : CK := .box 42 (.val ty13)
abbrev ck22 : CK := .val (.pair ty0 (.pair ty0 (.unit)))
abbrev ty23 : Ty := .pair (.int .i64) ty13
abbrev ck25 : CK := .row ty23
abbrev ty27 : Ty := .pair (.int .i64) (.pair (.int .i64) (.pair (.int .i64) (.pair (.bool) (.unit))))
abbrev ck28 : CK := .box 38 (.val ty23)
abbrev ty29 : Ty := .pair (.int .i64) ty23
abbrev ck33 : CK := .val (.sl ty27)
abbrev ck35 : CK := .box 125 (.val ty27)
abbrev ty36 : Ty := .pair (.int .i64) (.pair ty23 (.unit))
abbrev ty37 : Ty := .pair (.sl ty13) ty13
abbrev ty38 : Ty := .sl ty36
abbrev ty42 : Ty := .pair (.int .i64) (.pair ty23 (.pair (.str) (.unit)))
abbrev ck45 : CK := .box 29 (.val ty37)
abbrev ck46 : CK := .cons (.cons ck2 (.cons ck2 (.nil))) ck20
abbrev ck47 : CK := .val (.sl ty42)
abbrev ck48 : CK := .box 130 (.val ty42)
abbrev ty49 : Ty := .pair ty0 (.pair (.pair ty0 (.pair ty0 (.unit))) ty13)
abbrev ck50 : CK := .cons (.row (.pair (.int .u8) (.pair (.unit) (.pair (.unit) (.pair (.unit) (.pair (.unit) (.pair (.unit) (.pair (.unit) (.unit))))))))) (.nil)
abbrev ck53 : CK := .box 59 (.val ty49)
abbrev ck54 : CK := .cons (.slf) ck50
abbrev ty56 : Ty := .pair (.int .i64) (.pair (.int .i64) (.pair (.int .i64) ty36))
abbrev ck57 : CK := .box 59 (.cons ck2 ck46)
abbrev ty58 : Ty := .pair (.int .u8) (.pair (.int .i64) (.pair (.int .i64) (.pair (.sl ty29) (.unit))))
abbrev ck60 : CK := .cons ck53 (.nil)
abbrev ck63 : CK := .box 40 (.val ty56)
abbrev ck64 : CK := .val (.sl ty58)
abbrev ty66 : Ty := .pair ty13 (.pair (.pair ty13 (.pair ty13 (.unit))) (.unit))
abbrev ty67 : Ty := .pair (.sl ty9) (.pair (.str) (.pair (.sl ty42) ty7))
abbrev ck69 : CK := .val (.pair ty13 (.pair ty13 (.pair ty13 (.pair ty13 (.unit)))))
abbrev ck70 : CK := .box 134 (.val ty67)
abbrev ty71 : Ty := .pair ty13 (.pair ty13 (.pair ty13 (.pair (.int .i64) (.pair (.int .i64) (.pair (.bool) ty7)))))
abbrev ck72 : CK := .box 44 (.val ty71)
abbrev ty73 : Ty := .pair (.str) (.pair (.int .i64) (.pair (.int .i64) (.pair (.sl ty58) (.pair ty0 (.pair (.bool) (.pair (.bool) (.pair (.sl ty27) ty23)))))))
abbrev ck75 : CK := .box 26 (.val ty73)
abbrev ck76 : CK := .cons ck1 (.cons ck1 (.cons (.row ty58) (.cons ck2 (.cons (.val (.bool)) (.cons (.val (.bool)) (.cons (.row ty27) (.cons ck1 ck20)))))))
abbrev ck77 : CK := .box 26 (.cons (.val (.str)) ck76)
abbrev ck78 : CK := .box 26 (.cons (.val (.str)) (.cons ck1 (.cons ck1 (.cons (.row ty58) (.cons ck6 (.cons (.val (.bool)) (.cons (.val (.bool)) (.cons ck33 (.cons ck1 ck20)))))))))
abbrev ty79 : Ty := .pair (.sl ty23) (.pair (.int .i64) (.pair (.int .i64) (.pair ty71 (.pair ty66 (.pair ty38 (.unit))))))
abbrev ck80 : CK := .val ty79
abbrev ty81 : Ty := .pair ty73 (.pair (.sl ty49) (.pair (.sl ty23) (.unit)))
abbrev ck82 : CK := .cons (.val ty73) (.cons (.row ty49) (.cons ck25 (.nil)))
abbrev ck84 : CK := .box 140 ck82
abbrev ck85 : CK := .cons (.val ty73) (.cons (.val ty67) (.cons (.row (.str)) (.nil)))
abbrev ck87 : CK := .cons (.val ty73) (.cons (.val ty37) (.cons ck84 (.cons ck80 (.cons ck1 (.cons ck18 (.nil))))))
abbrev ck88 : CK := .box 89 ck87
noncomputable def f26 (k : Nat) : Option (((ByteArray×Int×Int×(List (Int×Int×Int×(List (Int×Int×Int×Int×Unit))×Unit))×(List Int)×Bool×Bool×(List (Int×Int×Int×Bool×Unit))×Int×Int×Int×Unit)×Unit)) :=
  some (((⟨#[84,73,67]⟩ : ByteArray),3,3,[(83,5,0,[],())],List.replicate (9 : Int).toNat (0 : Int),false,false,[(0,0,3,false,())],2,0,0,()),())
noncomputable def f26_sig (k : Nat) : Sig := ⟨[],[],[[.cons (.val (.str)) ck76]],fun x => f26 k⟩
noncomputable def E_f26 (k : Nat) : Env := ⟨Tryz.prog,G0,snil,tnil,tnil,unil,k,qnil,false⟩
theorem f26_run (k : Nat) (x : (lTy (lay 0 (f26_sig k).ins)).den) : runF (E_f26 k) Tryz.f26 (f26_sig k) x = (f26_sig k).F x := by kernel_rfl
theorem f26_ok [Dr] (k : Nat) : FnOK Tryz.prog G0 26 (f26_sig k) :=
  fn_ok2 (E := E_f26 k) (env_nil) (qenv_nil) mixed Tryz.func26 Tryz.call26 (by kernel_rfl) (by kernel_rfl) (m := 0) (by kernel_rfl) trivial (sk := []) (by kernel_rfl) trivial (f26_run k)
noncomputable def f61 (k : Nat) : Option ((((List (Int×Int×Unit))×Int×Int×Unit)×Unit)) :=
  some (([(0,60000,())],1000,0,()),())
noncomputable def f61_sig (k : Nat) : Sig := ⟨[],[],[[.cons (.row ty13) ck20]],fun x => f61 k⟩
noncomputable def E_f61 (k : Nat) : Env := ⟨Tryz.prog,G0,snil,tnil,tnil,unil,k,qnil,false⟩
theorem f61_run (k : Nat) (x : (lTy (lay 0 (f61_sig k).ins)).den) : runF (E_f61 k) Tryz.f61 (f61_sig k) x = (f61_sig k).F x := by kernel_rfl
theorem f61_ok [Dr] (k : Nat) : FnOK Tryz.prog G0 61 (f61_sig k) :=
  fn_ok2 (E := E_f61 k) (env_nil) (qenv_nil) mixed Tryz.func61 Tryz.call61 (by kernel_rfl) (by kernel_rfl) (m := 0) (by kernel_rfl) trivial (sk := []) (by kernel_rfl) trivial (f61_run k)
noncomputable def l139_4 (k : Nat) : Nat → ByteArray → Int → Int → Option (Unit ⊕ (Bool×Unit))
 | 0,_,_,_ => none
 | j + 1,s0,s22,s23 =>
  bif decide (s23 < s22) then
  bif decide (0 ≤ s23) && decide (s23 < (s0.size : Int)) then
  bif decide ((bt s0 s23) < 65) then
  bif decide (0 ≤ s23) && decide (s23 < (s0.size : Int)) then
  bif decide ((bt s0 s23) < 48) then
  some (.inr (false,()))
  else
  bif decide (0 ≤ s23) && decide (s23 < (s0.size : Int)) then
  bif decide ((bt s0 s23) > 57) then
  some (.inr (false,()))
  else
  l139_4 k j s0 s22 (w64 (s23 + 1))
  else
  none
  else
  none
  else
  bif decide (0 ≤ s23) && decide (s23 < (s0.size : Int)) then
  bif decide ((bt s0 s23) > 90) then
  bif decide (0 ≤ s23) && decide (s23 < (s0.size : Int)) then
  bif decide ((bt s0 s23) < 48) then
  some (.inr (false,()))
  else
  bif decide (0 ≤ s23) && decide (s23 < (s0.size : Int)) then
  bif decide ((bt s0 s23) > 57) then
  some (.inr (false,()))
  else
  l139_4 k j s0 s22 (w64 (s23 + 1))
  else
  none
  else
  none
  else
  l139_4 k j s0 s22 (w64 (s23 + 1))
  else
  none
  else
  none
  else
  some (.inl ())
noncomputable def l139_4_sig (k : Nat) : LoopSig := ⟨[(0,.obj (.val (.str))),(22,.obj ck1),(23,.obj ck1)],[(.exit 0,[]),(.ret,[(2,.obj (.val (.bool)))])],fun j x => l139_4 k j x.1 x.2.1 x.2.2.1⟩
noncomputable def f139 (k : Nat) (x0 : ByteArray) : Option ((Bool×Unit)) :=
  bif x0.toList == (⟨#[]⟩ : ByteArray).toList then
  some (false,())
  else
  bif decide ((x0.size : Int) > 8) then
  some (false,())
  else
  bif decide (0 < (x0.size : Int)) then
  bif decide ((bt x0 0) ≥ 48) then
  bif decide (0 < (x0.size : Int)) then
  bif decide ((bt x0 0) ≤ 57) then
  some (false,())
  else
  (l139_4 k k x0 (x0.size : Int) 0).bind fun q1 =>
  Sum.elim
  (fun y1 =>
  some (true,()))
  (fun y2 =>
  some y2)
  q1
  else
  none
  else
  (l139_4 k k x0 (x0.size : Int) 0).bind fun q2 =>
  Sum.elim
  (fun y3 =>
  some (true,()))
  (fun y4 =>
  some y4)
  q2
  else
  none
noncomputable def f139_sig (k : Nat) : Sig := ⟨[.val (.str)],[],[[.val (.bool)]],fun x => f139 k x.1⟩
noncomputable def E_f139 (k : Nat) : Env := ⟨Tryz.prog,G0,snil,tcons 4 (l139_4_sig k) (tnil),tnil,unil,k,qnil,false⟩
theorem l139_4_ok (k : Nat) : LoopOK (E_f139 k) ⟨Tryz.f139.ntmps,[],G0⟩ (nthC 0 (loopsIn (Tryz.f139.body.getD .skip))) :=
  loop_ok (ls := l139_4_sig k) (by kernel_rfl) (fun _ => by kernel_rfl) (fun j x => by kernel_rfl)
theorem f139_run (k : Nat) (x : (lTy (lay 0 (f139_sig k).ins)).den) : runF (E_f139 k) Tryz.f139 (f139_sig k) x = (f139_sig k).F x := by kernel_rfl
theorem f139_ok [Dr] (k : Nat) : FnOK Tryz.prog G0 139 (f139_sig k) :=
  fn_ok2 (E := E_f139 k) (env_nil) (qenv_nil) mixed Tryz.func139 Tryz.call139 (by kernel_rfl) (by kernel_rfl) (m := 1) (by kernel_rfl) ⟨trivial,l139_4_ok k⟩ (sk := []) (by kernel_rfl) trivial (f139_run k)
noncomputable def f167 (k : Nat) (x0 : Int×Int×Int×Int×Unit) : Option ((Int×Unit)) :=
  bif decide (x0.1 < (-7)) then
  some (4,())
  else
  bif decide (x0.1 > 7) then
  some (4,())
  else
  bif decide (x0.2.1 < (-7)) then
  some (4,())
  else
  bif decide (x0.2.1 > 7) then
  some (4,())
  else
  bif x0.1 == 0 then
  bif x0.2.1 == 0 then
  some (4,())
  else
  bif decide (x0.2.2.1 < 1) then
  some (4,())
  else
  bif decide (x0.2.2.1 > 7) then
  some (4,())
  else
  bif decide (x0.2.2.2.1 < 0) then
  some (4,())
  else
  bif decide (x0.2.2.2.1 > 2) then
  some (4,())
  else
  some (0,())
  else
  bif decide (x0.2.2.1 < 1) then
  some (4,())
  else
  bif decide (x0.2.2.1 > 7) then
  some (4,())
  else
  bif decide (x0.2.2.2.1 < 0) then
  some (4,())
  else
  bif decide (x0.2.2.2.1 > 2) then
  some (4,())
  else
  some (0,())
noncomputable def f167_sig (k : Nat) : Sig := ⟨[.val ty29],[],[[.val (.int .i64)]],fun x => f167 k x.1⟩
noncomputable def E_f167 (k : Nat) : Env := ⟨Tryz.prog,G0,snil,tnil,tnil,unil,k,qnil,false⟩
theorem f167_run (k : Nat) (x : (lTy (lay 0 (f167_sig k).ins)).den) : runF (E_f167 k) Tryz.f167 (f167_sig k) x = (f167_sig k).F x := by kernel_rfl
theorem f167_ok [Dr] (k : Nat) : FnOK Tryz.prog G0 167 (f167_sig k) :=
  fn_ok2 (E := E_f167 k) (env_nil) (qenv_nil) mixed Tryz.func167 Tryz.call167 (by kernel_rfl) (by kernel_rfl) (m := 0) (by kernel_rfl) trivial (sk := []) (by kernel_rfl) trivial (f167_run k)
noncomputable def l140_11 (k : Nat) : Nat → (List (Int×Int×Int×(List (Int×Int×Int×Int×Unit))×Unit)) → (Int×Int×Int×(List (Int×Int×Int×Int×Unit))×Unit) → (List (Int×Int×Int×(List (Int×Int×Int×Int×Unit))×Unit)) → Int → Int → (List (Int×Int×Int×(List (Int×Int×Int×Int×Unit))×Unit)) → Int → Int → Option (((List (Int×Int×Int×(List (Int×Int×Int×Int×Unit))×Unit))×(Int×Int×Int×(List (Int×Int×Int×Int×Unit))×Unit)×(List (Int×Int×Int×(List (Int×Int×Int×Int×Unit))×Unit))×Int×Int×Unit) ⊕ (Int×Unit))
 | 0,_,_,_,_,_,_,_,_ => none
 | j + 1,s0,s4,s18,s19,s20,s35,s36,s37 =>
  bif decide (s37 < s36) then
  bif decide (0 ≤ s37) && decide (s37 < (s35.length : Int)) then
  bif (rd ((0,0,0,[],()) : Int×Int×Int×(List (Int×Int×Int×Int×Unit))×Unit) s35 s37).1 == s4.1 then
  some (.inr (7,()))
  else
  l140_11 k j s0 s4 s18 s19 s20 s35 s36 (w64 (s37 + 1))
  else
  none
  else
  some (.inl (s0,s4,s18,s19,s20,()))
noncomputable def l140_11_sig (k : Nat) : LoopSig := ⟨[(0,.obj ck64),(4,.obj (.box 123 (.val ty58))),(18,.obj ck64),(19,.obj ck1),(20,.obj ck1),(35,.obj ck64),(36,.obj ck1),(37,.obj ck1)],[(.exit 3,[(0,.obj ck64),(4,.obj (.box 123 (.val ty58))),(18,.obj ck64),(19,.obj ck1),(20,.obj ck1)]),(.ret,[(2,.obj ck1)])],fun j x => l140_11 k j x.1 x.2.1 x.2.2.1 x.2.2.2.1 x.2.2.2.2.1 x.2.2.2.2.2.1 x.2.2.2.2.2.2.1 x.2.2.2.2.2.2.2.1⟩
noncomputable def l140_21 (k : Nat) : Nat → (List (Int×Int×Int×(List (Int×Int×Int×Int×Unit))×Unit)) → (List (Int×Int×Int×(List (Int×Int×Int×Int×Unit))×Unit)) → Int → Int → (List (Int×Int×Int×Int×Unit)) → Int → Int → Option (((List (Int×Int×Int×(List (Int×Int×Int×Int×Unit))×Unit))×(List (Int×Int×Int×(List (Int×Int×Int×Int×Unit))×Unit))×Int×Int×Unit) ⊕ (Int×Unit))
 | 0,_,_,_,_,_,_,_ => none
 | j + 1,s0,s18,s19,s20,s72,s73,s74 =>
  bif decide (s74 < s73) then
  bif decide (0 ≤ s74) && decide (s74 < (s72.length : Int)) then
  (f167 k (rd ((0,0,0,0,()) : Int×Int×Int×Int×Unit) s72 s74)).bind fun r1 =>
  bif r1.1 != 0 then
  some (.inr r1)
  else
  l140_21 k j s0 s18 s19 s20 s72 s73 (w64 (s74 + 1))
  else
  none
  else
  some (.inl (s0,s18,s19,s20,()))
noncomputable def l140_21_sig (k : Nat) : LoopSig := ⟨[(0,.obj ck64),(18,.obj ck64),(19,.obj ck1),(20,.obj ck1),(72,.obj (.val (.sl ty29))),(73,.obj ck1),(74,.obj ck1)],[(.exit 5,[(0,.obj ck64),(18,.obj ck64),(19,.obj ck1),(20,.obj ck1)]),(.ret,[(2,.obj ck1)])],fun j x => l140_21 k j x.1 x.2.1 x.2.2.1 x.2.2.2.1 x.2.2.2.2.1 x.2.2.2.2.2.1 x.2.2.2.2.2.2.1⟩
noncomputable def l140_6 (k : Nat) : Nat → (List (Int×Int×Int×(List (Int×Int×Int×Int×Unit))×Unit)) → (List (Int×Int×Int×(List (Int×Int×Int×Int×Unit))×Unit)) → Int → Int → Option (Unit ⊕ (Int×Unit))
 | 0,_,_,_,_ => none
 | j + 1,s0,s18,s19,s20 =>
  bif decide (s20 < s19) then
  bif decide (0 ≤ s20) && decide (s20 < (s18.length : Int)) then
  bif decide ((rd ((0,0,0,[],()) : Int×Int×Int×(List (Int×Int×Int×Int×Unit))×Unit) s18 s20).1 < 65) then
  some (.inr (6,()))
  else
  bif decide ((rd ((0,0,0,[],()) : Int×Int×Int×(List (Int×Int×Int×Int×Unit))×Unit) s18 s20).1 > 90) then
  some (.inr (6,()))
  else
  bif decide (0 ≤ s20) && decide (s20 ≤ (s0.length : Int)) then
  (l140_11 k k s0 (rd ((0,0,0,[],()) : Int×Int×Int×(List (Int×Int×Int×Int×Unit))×Unit) s18 s20) s18 s19 s20 (sliceOf s0 0 s20) ((sliceOf s0 0 s20).length : Int) 0).bind fun q3 =>
  Sum.elim
  (fun y1 =>
  bif decide (y1.2.1.2.1 < 0) then
  some (.inr (4,()))
  else
  bif decide (y1.2.1.2.1 > 64) then
  some (.inr (4,()))
  else
  bif decide (y1.2.1.2.2.1 < 0) then
  some (.inr (4,()))
  else
  bif decide (y1.2.1.2.2.1 > (y1.1.length : Int)) then
  some (.inr (4,()))
  else
  bif decide ((y1.2.1.2.2.2.1.length : Int) > 16) then
  some (.inr (2,()))
  else
  (l140_21 k k y1.1 y1.2.2.1 y1.2.2.2.1 y1.2.2.2.2.1 y1.2.1.2.2.2.1 (y1.2.1.2.2.2.1.length : Int) 0).bind fun q4 =>
  Sum.elim
  (fun y2 =>
  l140_6 k j y2.1 y2.2.1 y2.2.2.1 (w64 (y2.2.2.2.1 + 1)))
  (fun y3 =>
  some (.inr y3))
  q4)
  (fun y4 =>
  some (.inr y4))
  q3
  else
  none
  else
  none
  else
  some (.inl ())
noncomputable def l140_6_sig (k : Nat) : LoopSig := ⟨[(0,.obj ck64),(18,.obj ck64),(19,.obj ck1),(20,.obj ck1)],[(.exit 1,[]),(.ret,[(2,.obj ck1)])],fun j x => l140_6 k j x.1 x.2.1 x.2.2.1 x.2.2.2.1⟩
noncomputable def f140 (k : Nat) (x0 : List (Int×Int×Int×(List (Int×Int×Int×Int×Unit))×Unit)) : Option ((Int×Unit)) :=
  bif (x0.length : Int) == 0 then
  some (8,())
  else
  bif decide ((x0.length : Int) > 6) then
  some (2,())
  else
  (l140_6 k k x0 x0 (x0.length : Int) 0).bind fun q5 =>
  Sum.elim
  (fun y1 =>
  some (0,()))
  (fun y2 =>
  some y2)
  q5
noncomputable def f140_sig (k : Nat) : Sig := ⟨[.val (.sl ty58)],[],[[.val (.int .i64)]],fun x => f140 k x.1⟩
noncomputable def E_f140 (k : Nat) : Env := ⟨Tryz.prog,G0,scons 167 [f167_sig k] (snil),tcons 6 (l140_6_sig k) (tcons 21 (l140_21_sig k) (tcons 11 (l140_11_sig k) (tnil))),tnil,unil,k,qnil,false⟩
theorem l140_6_ok (k : Nat) : LoopOK (E_f140 k) ⟨Tryz.f140.ntmps,[],G0⟩ (nthC 0 (loopsIn (Tryz.f140.body.getD .skip))) :=
  loop_ok (ls := l140_6_sig k) (by kernel_rfl) (fun _ => by kernel_rfl) (fun j x => by kernel_rfl)
theorem l140_11_ok (k : Nat) : LoopOK (E_f140 k) ⟨Tryz.f140.ntmps,[],G0⟩ (nthC 1 (loopsIn (Tryz.f140.body.getD .skip))) :=
  loop_ok (ls := l140_11_sig k) (by kernel_rfl) (fun _ => by kernel_rfl) (fun j x => by kernel_rfl)
theorem l140_21_ok (k : Nat) : LoopOK (E_f140 k) ⟨Tryz.f140.ntmps,[],G0⟩ (nthC 2 (loopsIn (Tryz.f140.body.getD .skip))) :=
  loop_ok (ls := l140_21_sig k) (by kernel_rfl) (fun _ => by kernel_rfl) (fun j x => by kernel_rfl)
theorem f140_run (k : Nat) (x : (lTy (lay 0 (f140_sig k).ins)).den) : runF (E_f140 k) Tryz.f140 (f140_sig k) x = (f140_sig k).F x := by kernel_rfl
theorem f140_ok [Dr] (k : Nat) : FnOK Tryz.prog G0 140 (f140_sig k) :=
  fn_ok2 (E := E_f140 k) (env_cons (one_sig (f167_ok k)) (env_nil)) (qenv_nil) mixed Tryz.func140 Tryz.call140 (by kernel_rfl) (by kernel_rfl) (m := 3) (by kernel_rfl) ⟨⟨⟨trivial,l140_6_ok k⟩,l140_11_ok k⟩,l140_21_ok k⟩ (sk := []) (by kernel_rfl) trivial (f140_run k)
noncomputable def f141 (k : Nat) (x0 : Int×Int×Int×Bool×Unit) (x1 : Int) : Option ((Int×Unit)) :=
  bif x0.1 == 0 then
  bif x0.2.1 != 0 then
  some (4,())
  else
  bif decide (x0.2.2.1 < 1) then
  some (4,())
  else
  bif decide (x0.2.2.1 > 64) then
  some (4,())
  else
  some (0,())
  else
  bif x0.1 == 1 then
  bif decide (x0.2.1 < 0) then
  some (4,())
  else
  bif decide (x0.2.1 ≥ x1) then
  some (4,())
  else
  bif x0.2.2.1 != 0 then
  some (4,())
  else
  some (0,())
  else
  bif x0.1 == 2 then
  bif decide (x0.2.1 < 0) then
  some (4,())
  else
  bif decide (x0.2.1 ≥ x1) then
  some (4,())
  else
  bif decide (x0.2.2.1 < 1) then
  some (4,())
  else
  bif decide (x0.2.2.1 > 64) then
  some (4,())
  else
  some (0,())
  else
  some (1,())
noncomputable def f141_sig (k : Nat) : Sig := ⟨[.val ty27,.val (.int .i64)],[],[[.val (.int .i64)]],fun x => f141 k x.1 x.2.1⟩
noncomputable def E_f141 (k : Nat) : Env := ⟨Tryz.prog,G0,snil,tnil,tnil,unil,k,qnil,false⟩
theorem f141_run (k : Nat) (x : (lTy (lay 0 (f141_sig k).ins)).den) : runF (E_f141 k) Tryz.f141 (f141_sig k) x = (f141_sig k).F x := by kernel_rfl
theorem f141_ok [Dr] (k : Nat) : FnOK Tryz.prog G0 141 (f141_sig k) :=
  fn_ok2 (E := E_f141 k) (env_nil) (qenv_nil) mixed Tryz.func141 Tryz.call141 (by kernel_rfl) (by kernel_rfl) (m := 0) (by kernel_rfl) trivial (sk := []) (by kernel_rfl) trivial (f141_run k)
noncomputable def l104_11 (k : Nat) : Nat → (ByteArray×Int×Int×(List (Int×Int×Int×(List (Int×Int×Int×Int×Unit))×Unit))×(List Int)×Bool×Bool×(List (Int×Int×Int×Bool×Unit))×Int×Int×Int×Unit) → (List Int) → Int → Int → Option (((ByteArray×Int×Int×(List (Int×Int×Int×(List (Int×Int×Int×Int×Unit))×Unit))×(List Int)×Bool×Bool×(List (Int×Int×Int×Bool×Unit))×Int×Int×Int×Unit)×Unit) ⊕ (Int×Unit))
 | 0,_,_,_,_ => none
 | j + 1,s1,s49,s50,s51 =>
  bif decide (s51 < s50) then
  bif decide (0 ≤ s51) && decide (s51 < (s49.length : Int)) then
  bif decide ((rd (0 : Int) s49 s51) < 0) then
  some (.inr (4,()))
  else
  bif decide ((rd (0 : Int) s49 s51) > (w64 (2 * (s1.2.2.2.1.length : Int)))) then
  some (.inr (4,()))
  else
  l104_11 k j s1 s49 s50 (w64 (s51 + 1))
  else
  none
  else
  some (.inl (s1,()))
noncomputable def l104_11_sig (k : Nat) : LoopSig := ⟨[(1,.obj ck75),(49,.obj ck6),(50,.obj ck1),(51,.obj ck1)],[(.exit 1,[(1,.obj ck75)]),(.ret,[(2,.obj ck1)])],fun j x => l104_11 k j x.1 x.2.1 x.2.2.1 x.2.2.2.1⟩
noncomputable def l104_19 (k : Nat) : Nat → (ByteArray×Int×Int×(List (Int×Int×Int×(List (Int×Int×Int×Int×Unit))×Unit))×(List Int)×Bool×Bool×(List (Int×Int×Int×Bool×Unit))×Int×Int×Int×Unit) → (List (Int×Int×Int×Bool×Unit)) → Int → Int → Option (((ByteArray×Int×Int×(List (Int×Int×Int×(List (Int×Int×Int×Int×Unit))×Unit))×(List Int)×Bool×Bool×(List (Int×Int×Int×Bool×Unit))×Int×Int×Int×Unit)×Unit) ⊕ (Int×Unit))
 | 0,_,_,_,_ => none
 | j + 1,s1,s71,s72,s73 =>
  bif decide (s73 < s72) then
  bif decide (0 ≤ s73) && decide (s73 < (s71.length : Int)) then
  (f141 k (rd ((0,0,0,false,()) : Int×Int×Int×Bool×Unit) s71 s73) (s1.2.2.2.1.length : Int)).bind fun r1 =>
  bif r1.1 != 0 then
  some (.inr r1)
  else
  l104_19 k j s1 s71 s72 (w64 (s73 + 1))
  else
  none
  else
  some (.inl (s1,()))
noncomputable def l104_19_sig (k : Nat) : LoopSig := ⟨[(1,.obj ck75),(71,.obj ck33),(72,.obj ck1),(73,.obj ck1)],[(.exit 3,[(1,.obj ck75)]),(.ret,[(2,.obj ck1)])],fun j x => l104_19 k j x.1 x.2.1 x.2.2.1 x.2.2.2.1⟩
noncomputable def f104 (k : Nat) (x0 : ByteArray×Int×Int×(List (Int×Int×Int×(List (Int×Int×Int×Int×Unit))×Unit))×(List Int)×Bool×Bool×(List (Int×Int×Int×Bool×Unit))×Int×Int×Int×Unit) : Option ((Int×Unit)) :=
  (f139 k x0.1).bind fun r1 =>
  bif !r1.1 then
  some (6,())
  else
  bif decide (x0.2.1 < 1) then
  some (4,())
  else
  bif decide (x0.2.1 > 8) then
  some (4,())
  else
  bif decide (x0.2.2.1 < 1) then
  some (4,())
  else
  bif decide (x0.2.2.1 > 8) then
  some (4,())
  else
  (f140 k x0.2.2.2.1).bind fun r2 =>
  bif r2.1 != 0 then
  some r2
  else
  bif (x0.2.2.2.2.1.length : Int) != (w64 (x0.2.1 * x0.2.2.1)) then
  some (3,())
  else
  (l104_11 k k x0 x0.2.2.2.2.1 (x0.2.2.2.2.1.length : Int) 0).bind fun q6 =>
  Sum.elim
  (fun y3 =>
  bif decide ((y3.1.2.2.2.2.2.2.2.1.length : Int) > 6) then
  some (2,())
  else
  (l104_19 k k y3.1 y3.1.2.2.2.2.2.2.2.1 (y3.1.2.2.2.2.2.2.2.1.length : Int) 0).bind fun q7 =>
  Sum.elim
  (fun y4 =>
  bif decide (y4.1.2.2.2.2.2.2.2.2.1 < 0) then
  some (4,())
  else
  bif decide (y4.1.2.2.2.2.2.2.2.2.1 > 2) then
  some (4,())
  else
  bif decide (y4.1.2.2.2.2.2.2.2.2.2.1 < 0) then
  some (4,())
  else
  bif decide (y4.1.2.2.2.2.2.2.2.2.2.1 > 200) then
  some (4,())
  else
  bif decide (y4.1.2.2.2.2.2.2.2.2.2.2.1 < 0) then
  some (4,())
  else
  bif y4.1.2.2.2.2.2.2.2.2.2.2.1 == 1 then
  some (4,())
  else
  bif decide (y4.1.2.2.2.2.2.2.2.2.2.2.1 > 5) then
  some (4,())
  else
  some (0,()))
  (fun y5 =>
  some y5)
  q7)
  (fun y6 =>
  some y6)
  q6
noncomputable def f104_sig (k : Nat) : Sig := ⟨[.val ty73],[],[[.val (.int .i64)]],fun x => f104 k x.1⟩
noncomputable def E_f104 (k : Nat) : Env := ⟨Tryz.prog,G0,scons 141 [f141_sig k] (scons 140 [f140_sig k] (scons 139 [f139_sig k] (snil))),tcons 19 (l104_19_sig k) (tcons 11 (l104_11_sig k) (tnil)),tnil,unil,k,qnil,false⟩
theorem l104_11_ok (k : Nat) : LoopOK (E_f104 k) ⟨Tryz.f104.ntmps,[],G0⟩ (nthC 0 (loopsIn (Tryz.f104.body.getD .skip))) :=
  loop_ok (ls := l104_11_sig k) (by kernel_rfl) (fun _ => by kernel_rfl) (fun j x => by kernel_rfl)
theorem l104_19_ok (k : Nat) : LoopOK (E_f104 k) ⟨Tryz.f104.ntmps,[],G0⟩ (nthC 1 (loopsIn (Tryz.f104.body.getD .skip))) :=
  loop_ok (ls := l104_19_sig k) (by kernel_rfl) (fun _ => by kernel_rfl) (fun j x => by kernel_rfl)
theorem f104_run (k : Nat) (x : (lTy (lay 0 (f104_sig k).ins)).den) : runF (E_f104 k) Tryz.f104 (f104_sig k) x = (f104_sig k).F x := by kernel_rfl
theorem f104_ok [Dr] (k : Nat) : FnOK Tryz.prog G0 104 (f104_sig k) :=
  fn_ok2 (E := E_f104 k) (env_cons (one_sig (f141_ok k)) (env_cons (one_sig (f140_ok k)) (env_cons (one_sig (f139_ok k)) (env_nil)))) (qenv_nil) mixed Tryz.func104 Tryz.call104 (by kernel_rfl) (by kernel_rfl) (m := 2) (by kernel_rfl) ⟨⟨trivial,l104_11_ok k⟩,l104_19_ok k⟩ (sk := []) (by kernel_rfl) trivial (f104_run k)
noncomputable def f68 (k : Nat) (x0 : List Int) : Option (((List Int)×Unit)) :=
  bif nilB x0 then
  both (
  some ([],()))
  (
  bif decide ((([] : List Int).length + x0.length) * 8 ≤ roomN) then
  some ([] ++ x0,())
  else
  none)
  else
  bif decide ((([] : List Int).length + x0.length) * 8 ≤ roomN) then
  some ([] ++ x0,())
  else
  none
noncomputable def f68_sig (k : Nat) : Sig := ⟨[.val ty0],[],[[.row (.int .i64)]],fun x => f68 k x.1⟩
noncomputable def E_f68 (k : Nat) : Env := ⟨Tryz.prog,G0,snil,tnil,tnil,unil,k,qnil,false⟩
theorem f68_run (k : Nat) (x : (lTy (lay 0 (f68_sig k).ins)).den) : runF (E_f68 k) Tryz.f68 (f68_sig k) x = (f68_sig k).F x := by kernel_rfl
theorem f68_ok [Dr] (k : Nat) : FnOK Tryz.prog G0 68 (f68_sig k) :=
  fn_ok2 (E := E_f68 k) (env_nil) (qenv_nil) mixed Tryz.func68 Tryz.call68 (by kernel_rfl) (by kernel_rfl) (m := 0) (by kernel_rfl) trivial (sk := []) (by kernel_rfl) trivial (f68_run k)
noncomputable def l105_6 (k : Nat) : Nat → (ByteArray×Int×Int×(List (Int×Int×Int×(List (Int×Int×Int×Int×Unit))×Unit))×(List Int)×Bool×Bool×(List (Int×Int×Int×Bool×Unit))×Int×Int×Int×Unit) → ((List Int)×((List Int)×(List Int)×Unit)×Int×Int×Unit) → ((List Int)×((List Int)×(List Int)×Unit)×Int×Int×Unit) → Int → Int → (List (Int×Int×Int×(List (Int×Int×Int×Int×Unit))×Unit)) → Int → Int → Option (((ByteArray×Int×Int×(List (Int×Int×Int×(List (Int×Int×Int×Int×Unit))×Unit))×(List Int)×Bool×Bool×(List (Int×Int×Int×Bool×Unit))×Int×Int×Int×Unit)×((List Int)×((List Int)×(List Int)×Unit)×Int×Int×Unit)×((List Int)×((List Int)×(List Int)×Unit)×Int×Int×Unit)×Int×Unit))
 | 0,_,_,_,_,_,_,_,_ => none
 | j + 1,s1,s2,s3,s4,s11,s15,s16,s17 =>
  bif decide (s17 < s16) then
  bif decide (0 ≤ s17) && decide (s17 < (s15.length : Int)) then
  bif s4 == 0 then
  bif decide ((s3.2.1.1.length + [(rd ((0,0,0,[],()) : Int×Int×Int×(List (Int×Int×Int×Int×Unit))×Unit) s15 s17).2.1].length) * 8 ≤ roomN) then
  bif s4 == 0 then
  l105_6 k j s1 s2 (s3.1,(s3.2.1.1 ++ [(rd ((0,0,0,[],()) : Int×Int×Int×(List (Int×Int×Int×Int×Unit))×Unit) s15 s17).2.1],s3.2.1.2),s3.2.2) s4 s11 s15 s16 (w64 (s17 + 1))
  else
  bif s4 == 1 then
  none
  else
  none
  else
  none
  else
  bif s4 == 1 then
  bif decide ((s3.2.1.2.1.length + [(rd ((0,0,0,[],()) : Int×Int×Int×(List (Int×Int×Int×Int×Unit))×Unit) s15 s17).2.1].length) * 8 ≤ roomN) then
  bif s4 == 0 then
  none
  else
  bif s4 == 1 then
  l105_6 k j s1 s2 (s3.1,(s3.2.1.1,s3.2.1.2.1 ++ [(rd ((0,0,0,[],()) : Int×Int×Int×(List (Int×Int×Int×Int×Unit))×Unit) s15 s17).2.1],()),s3.2.2) s4 s11 s15 s16 (w64 (s17 + 1))
  else
  none
  else
  none
  else
  none
  else
  none
  else
  some (s1,s2,s3,s11,())
noncomputable def l105_6_sig (k : Nat) : LoopSig := ⟨[(1,.obj ck75),(2,.obj ck57),(3,.obj ck57),(4,.obj ck1),(11,.obj ck1),(15,.obj ck64),(16,.obj ck1),(17,.obj ck1)],[(.exit 2,[(1,.obj ck75),(2,.obj ck57),(3,.obj ck57),(11,.obj ck1)])],fun j x => l105_6 k j x.1 x.2.1 x.2.2.1 x.2.2.2.1 x.2.2.2.2.1 x.2.2.2.2.2.1 x.2.2.2.2.2.2.1 x.2.2.2.2.2.2.2.1⟩
noncomputable def l105_3 (k : Nat) : Nat → (ByteArray×Int×Int×(List (Int×Int×Int×(List (Int×Int×Int×Int×Unit))×Unit))×(List Int)×Bool×Bool×(List (Int×Int×Int×Bool×Unit))×Int×Int×Int×Unit) → ((List Int)×((List Int)×(List Int)×Unit)×Int×Int×Unit) → ((List Int)×((List Int)×(List Int)×Unit)×Int×Int×Unit) → Int → Option ((((List Int)×((List Int)×(List Int)×Unit)×Int×Int×Unit)×((List Int)×((List Int)×(List Int)×Unit)×Int×Int×Unit)×Unit))
 | 0,_,_,_,_ => none
 | j + 1,s1,s2,s3,s11 =>
  bif decide (s11 < 2) then
  (l105_6 k k s1 s2 s3 s11 s11 s1.2.2.2.1 (s1.2.2.2.1.length : Int) 0).bind fun o1 =>
  l105_3 k j o1.1 o1.2.1 o1.2.2.1 (w64 (o1.2.2.2.1 + 1))
  else
  some (s2,s3,())
noncomputable def l105_3_sig (k : Nat) : LoopSig := ⟨[(1,.obj ck75),(2,.obj ck57),(3,.obj ck57),(11,.obj ck1)],[(.exit 0,[(2,.obj ck57),(3,.obj ck57)])],fun j x => l105_3 k j x.1 x.2.1 x.2.2.1 x.2.2.2.1⟩
noncomputable def f105 (k : Nat) (x0 : ByteArray×Int×Int×(List (Int×Int×Int×(List (Int×Int×Int×Int×Unit))×Unit))×(List Int)×Bool×Bool×(List (Int×Int×Int×Bool×Unit))×Int×Int×Int×Unit) : Option ((((List Int)×((List Int)×(List Int)×Unit)×Int×Int×Unit)×Unit)) :=
  (f68 k x0.2.2.2.2.1).bind fun r1 =>
  (l105_3 k k x0 ([],([],[],()),0,0,()) (r1.1,([],[],()),0,0,()) 0).bind fun o2 =>
  some o2.2
noncomputable def f105_sig (k : Nat) : Sig := ⟨[.val ty73],[],[[.val ty49]],fun x => f105 k x.1⟩
noncomputable def E_f105 (k : Nat) : Env := ⟨Tryz.prog,G0,scons 68 [f68_sig k] (snil),tcons 3 (l105_3_sig k) (tcons 6 (l105_6_sig k) (tnil)),tnil,unil,k,qnil,false⟩
theorem l105_3_ok (k : Nat) : LoopOK (E_f105 k) ⟨Tryz.f105.ntmps,[],G0⟩ (nthC 0 (loopsIn (Tryz.f105.body.getD .skip))) :=
  loop_ok (ls := l105_3_sig k) (by kernel_rfl) (fun _ => by kernel_rfl) (fun j x => by kernel_rfl)
theorem l105_6_ok (k : Nat) : LoopOK (E_f105 k) ⟨Tryz.f105.ntmps,[],G0⟩ (nthC 1 (loopsIn (Tryz.f105.body.getD .skip))) :=
  loop_ok (ls := l105_6_sig k) (by kernel_rfl) (fun _ => by kernel_rfl) (fun j x => by kernel_rfl)
theorem f105_run (k : Nat) (x : (lTy (lay 0 (f105_sig k).ins)).den) : runF (E_f105 k) Tryz.f105 (f105_sig k) x = (f105_sig k).F x := by kernel_rfl
theorem f105_ok [Dr] (k : Nat) : FnOK Tryz.prog G0 105 (f105_sig k) :=
  fn_ok2 (E := E_f105 k) (env_cons (one_sig (f68_ok k)) (env_nil)) (qenv_nil) mixed Tryz.func105 Tryz.call105 (by kernel_rfl) (by kernel_rfl) (m := 2) (by kernel_rfl) ⟨⟨trivial,l105_3_ok k⟩,l105_6_ok k⟩ (sk := []) (by kernel_rfl) trivial (f105_run k)
noncomputable def f64 (k : Nat) (x0 : ByteArray×Int×Int×(List (Int×Int×Int×(List (Int×Int×Int×Int×Unit))×Unit))×(List Int)×Bool×Bool×(List (Int×Int×Int×Bool×Unit))×Int×Int×Int×Unit) : Option ((((List Int)×((List Int)×(List Int)×Unit)×Int×Int×Unit)×Int×Unit)) :=
  (f104 k x0).bind fun r1 =>
  bif r1.1 != 0 then
  some (([],([],[],()),0,0,()),r1)
  else
  (f105 k x0).bind fun r2 =>
  some (r2.1,0,())
noncomputable def f64_sig (k : Nat) : Sig := ⟨[.val ty73],[],[[.val ty49,.val (.int .i64)]],fun x => f64 k x.1⟩
noncomputable def E_f64 (k : Nat) : Env := ⟨Tryz.prog,G0,scons 105 [f105_sig k] (scons 104 [f104_sig k] (snil)),tnil,tnil,unil,k,qnil,false⟩
theorem f64_run (k : Nat) (x : (lTy (lay 0 (f64_sig k).ins)).den) : runF (E_f64 k) Tryz.f64 (f64_sig k) x = (f64_sig k).F x := by kernel_rfl
theorem f64_ok [Dr] (k : Nat) : FnOK Tryz.prog G0 64 (f64_sig k) :=
  fn_ok2 (E := E_f64 k) (env_cons (one_sig (f105_ok k)) (env_cons (one_sig (f104_ok k)) (env_nil))) (qenv_nil) mixed Tryz.func64 Tryz.call64 (by kernel_rfl) (by kernel_rfl) (m := 0) (by kernel_rfl) trivial (sk := []) (by kernel_rfl) trivial (f64_run k)
noncomputable def l65_4 (k : Nat) : Nat → (ByteArray×Int×Int×(List (Int×Int×Int×(List (Int×Int×Int×Int×Unit))×Unit))×(List Int)×Bool×Bool×(List (Int×Int×Int×Bool×Unit))×Int×Int×Int×Unit) → (ByteArray×Int×Int×(List (Int×Int×Int×(List (Int×Int×Int×Int×Unit))×Unit))×(List Int)×Bool×Bool×(List (Int×Int×Int×Bool×Unit))×Int×Int×Int×Unit) → (ByteArray×Int×Int×(List (Int×Int×Int×(List (Int×Int×Int×Int×Unit))×Unit))×(List Int)×Bool×Bool×(List (Int×Int×Int×Bool×Unit))×Int×Int×Int×Unit) → (List (Int×Int×Int×(List (Int×Int×Int×Int×Unit))×Unit)) → Int → Int → Option (((ByteArray×Int×Int×(List (Int×Int×Int×(List (Int×Int×Int×Int×Unit))×Unit))×(List Int)×Bool×Bool×(List (Int×Int×Int×Bool×Unit))×Int×Int×Int×Unit)×(ByteArray×Int×Int×(List (Int×Int×Int×(List (Int×Int×Int×Int×Unit))×Unit))×(List Int)×Bool×Bool×(List (Int×Int×Int×Bool×Unit))×Int×Int×Int×Unit)×(ByteArray×Int×Int×(List (Int×Int×Int×(List (Int×Int×Int×Int×Unit))×Unit))×(List Int)×Bool×Bool×(List (Int×Int×Int×Bool×Unit))×Int×Int×Int×Unit)×Unit))
 | 0,_,_,_,_,_,_ => none
 | j + 1,s1,s2,s3,s13,s14,s15 =>
  bif decide (s15 < s14) then
  bif decide (0 ≤ s15) && decide (s15 < (s13.length : Int)) then
  bif decide ((rd ((0,0,0,[],()) : Int×Int×Int×(List (Int×Int×Int×Int×Unit))×Unit) s13 s15).2.2.2.1.length * 32 ≤ roomN) then
  bif decide (0 ≤ s15) && decide (s15 < (s3.2.2.2.1.length : Int)) then
  l65_4 k j s1 s2 (s3.1,s3.2.1,s3.2.2.1,s3.2.2.2.1.set s15.toNat (rd ((0,0,0,[],()) : Int×Int×Int×(List (Int×Int×Int×Int×Unit))×Unit) s13 s15),s3.2.2.2.2) s13 s14 (w64 (s15 + 1))
  else
  none
  else
  none
  else
  none
  else
  some (s1,s2,s3,())
noncomputable def l65_4_sig (k : Nat) : LoopSig := ⟨[(1,.obj ck75),(2,.obj ck77),(3,.obj ck78),(13,.obj ck64),(14,.obj ck1),(15,.obj ck1)],[(.exit 0,[(1,.obj ck75),(2,.obj ck77),(3,.obj ck78)])],fun j x => l65_4 k j x.1 x.2.1 x.2.2.1 x.2.2.2.1 x.2.2.2.2.1 x.2.2.2.2.2.1⟩
noncomputable def f65 (k : Nat) (x0 : ByteArray×Int×Int×(List (Int×Int×Int×(List (Int×Int×Int×Int×Unit))×Unit))×(List Int)×Bool×Bool×(List (Int×Int×Int×Bool×Unit))×Int×Int×Int×Unit) : Option (((ByteArray×Int×Int×(List (Int×Int×Int×(List (Int×Int×Int×Int×Unit))×Unit))×(List Int)×Bool×Bool×(List (Int×Int×Int×Bool×Unit))×Int×Int×Int×Unit)×Unit)) :=
  bif decide (0 ≤ (x0.2.2.2.1.length : Int)) && (decide ((x0.2.2.2.1.length : Int) ≤ (x0.2.2.2.1.length : Int)) && decide (((48 : Nat) : Int) * (x0.2.2.2.1.length : Int) ≤ 281474976710656)) && decide ((x0.2.2.2.1.length : Int) ≤ 9223372036854775807) then
  (l65_4 k k x0 ((⟨#[]⟩ : ByteArray),0,0,[],[],false,false,[],0,0,0,()) (x0.1,x0.2.1,x0.2.2.1,List.replicate (x0.2.2.2.1.length : Int).toNat ((0,0,0,[],()) : Int×Int×Int×(List (Int×Int×Int×Int×Unit))×Unit),x0.2.2.2.2) x0.2.2.2.1 (x0.2.2.2.1.length : Int) 0).bind fun o1 =>
  bif decide (o1.1.2.2.2.2.1.length * 8 ≤ roomN) then
  bif decide (o1.1.2.2.2.2.2.2.2.1.length * 32 ≤ roomN) then
  some ((o1.2.2.1.1,o1.2.2.1.2.1,o1.2.2.1.2.2.1,o1.2.2.1.2.2.2.1,o1.1.2.2.2.2.1,o1.2.2.1.2.2.2.2.2.1,o1.2.2.1.2.2.2.2.2.2.1,o1.1.2.2.2.2.2.2.2.1,o1.2.2.1.2.2.2.2.2.2.2.2),())
  else
  none
  else
  none
  else
  none
noncomputable def f65_sig (k : Nat) : Sig := ⟨[.val ty73],[],[[.val ty73]],fun x => f65 k x.1⟩
noncomputable def E_f65 (k : Nat) : Env := ⟨Tryz.prog,G0,snil,tcons 4 (l65_4_sig k) (tnil),tnil,unil,k,qnil,false⟩
theorem l65_4_ok (k : Nat) : LoopOK (E_f65 k) ⟨Tryz.f65.ntmps,[],G0⟩ (nthC 0 (loopsIn (Tryz.f65.body.getD .skip))) :=
  loop_ok (ls := l65_4_sig k) (by kernel_rfl) (fun _ => by kernel_rfl) (fun j x => by kernel_rfl)
theorem f65_run (k : Nat) (x : (lTy (lay 0 (f65_sig k).ins)).den) : runF (E_f65 k) Tryz.f65 (f65_sig k) x = (f65_sig k).F x := by kernel_rfl
theorem f65_ok [Dr] (k : Nat) : FnOK Tryz.prog G0 65 (f65_sig k) :=
  fn_ok2 (E := E_f65 k) (env_nil) (qenv_nil) mixed Tryz.func65 Tryz.call65 (by kernel_rfl) (by kernel_rfl) (m := 1) (by kernel_rfl) ⟨trivial,l65_4_ok k⟩ (sk := []) (by kernel_rfl) trivial (f65_run k)
noncomputable def f30 (k : Nat) (x0 : ByteArray×Int×Int×(List (Int×Int×Int×(List (Int×Int×Int×Int×Unit))×Unit))×(List Int)×Bool×Bool×(List (Int×Int×Int×Bool×Unit))×Int×Int×Int×Unit) : Option ((((ByteArray×Int×Int×(List (Int×Int×Int×(List (Int×Int×Int×Int×Unit))×Unit))×(List Int)×Bool×Bool×(List (Int×Int×Int×Bool×Unit))×Int×Int×Int×Unit)×(List ((List Int)×((List Int)×(List Int)×Unit)×Int×Int×Unit))×(List (Int×Int×Int×Unit))×Unit)×Int×Unit) ⊕ (Unit×Int×Unit)) :=
  (f64 k x0).bind fun r1 =>
  bif r1.2.1 != 0 then
  some (.inr ((),r1.2))
  else
  (f65 k x0).bind fun r2 =>
  some (.inl ((r2.1,[r1.1],[],()),0,()))
noncomputable def f30_sig (k : Nat) : Sig := ⟨[.val ty73],[],[[.box 140 ck82,.val (.int .i64)],[.nilp,.val (.int .i64)]],fun x => f30 k x.1⟩
noncomputable def E_f30 (k : Nat) : Env := ⟨Tryz.prog,G0,scons 65 [f65_sig k] (scons 64 [f64_sig k] (snil)),tnil,tnil,unil,k,qnil,false⟩
theorem f30_run (k : Nat) (x : (lTy (lay 0 (f30_sig k).ins)).den) : runF (E_f30 k) Tryz.f30 (f30_sig k) x = (f30_sig k).F x := by kernel_rfl
theorem f30_ok [Dr] (k : Nat) : FnOK Tryz.prog G0 30 (f30_sig k) :=
  fn_ok2 (E := E_f30 k) (env_cons (one_sig (f65_ok k)) (env_cons (one_sig (f64_ok k)) (env_nil))) (qenv_nil) mixed Tryz.func30 Tryz.call30 (by kernel_rfl) (by kernel_rfl) (m := 0) (by kernel_rfl) trivial (sk := []) (by kernel_rfl) trivial (f30_run k)
noncomputable def l66_6 (k : Nat) : Nat → ((List (Int×Int×Unit))×Int×Int×Unit) → (List (Int×Int×Unit)) → Int → Int → Option (Unit ⊕ (Int×Unit))
 | 0,_,_,_,_ => none
 | j + 1,s1,s30,s31,s32 =>
  bif decide (s32 < s31) then
  bif decide (0 ≤ s32) && decide (s32 < (s30.length : Int)) then
  bif decide ((rd ((0,0,()) : Int×Int×Unit) s30 s32).1 < 0) then
  some (.inr (4,()))
  else
  bif decide ((rd ((0,0,()) : Int×Int×Unit) s30 s32).1 > 400) then
  some (.inr (4,()))
  else
  bif decide ((rd ((0,0,()) : Int×Int×Unit) s30 s32).2.1 < 1) then
  some (.inr (4,()))
  else
  bif decide ((rd ((0,0,()) : Int×Int×Unit) s30 s32).2.1 > 100000000) then
  some (.inr (4,()))
  else
  bif !(((rd ((0,0,()) : Int×Int×Unit) s30 s32).1 == 0) == (s32 == (w64 ((s1.1.length : Int) - 1)))) then
  some (.inr (3,()))
  else
  l66_6 k j s1 s30 s31 (w64 (s32 + 1))
  else
  none
  else
  some (.inl ())
noncomputable def l66_6_sig (k : Nat) : LoopSig := ⟨[(1,.obj ck45),(30,.obj (.val (.sl ty13))),(31,.obj ck1),(32,.obj ck1)],[(.exit 0,[]),(.ret,[(2,.obj ck1)])],fun j x => l66_6 k j x.1 x.2.1 x.2.2.1 x.2.2.2.1⟩
noncomputable def f66 (k : Nat) (x0 : (List (Int×Int×Unit))×Int×Int×Unit) : Option ((Int×Unit)) :=
  bif (x0.1.length : Int) == 0 then
  some (2,())
  else
  bif decide ((x0.1.length : Int) > 5) then
  some (2,())
  else
  bif decide ((if x0.2.2.1 < x0.2.1 then x0.2.2.1 else x0.2.1) < 0) then
  some (4,())
  else
  bif decide ((if x0.2.2.1 > x0.2.1 then x0.2.2.1 else x0.2.1) > 100000000) then
  some (4,())
  else
  (l66_6 k k x0 x0.1 (x0.1.length : Int) 0).bind fun q8 =>
  Sum.elim
  (fun y1 =>
  some (0,()))
  (fun y2 =>
  some y2)
  q8
noncomputable def f66_sig (k : Nat) : Sig := ⟨[.val ty37],[],[[.val (.int .i64)]],fun x => f66 k x.1⟩
noncomputable def E_f66 (k : Nat) : Env := ⟨Tryz.prog,G0,snil,tcons 6 (l66_6_sig k) (tnil),tnil,unil,k,qnil,false⟩
theorem l66_6_ok (k : Nat) : LoopOK (E_f66 k) ⟨Tryz.f66.ntmps,[],G0⟩ (nthC 0 (loopsIn (Tryz.f66.body.getD .skip))) :=
  loop_ok (ls := l66_6_sig k) (by kernel_rfl) (fun _ => by kernel_rfl) (fun j x => by kernel_rfl)
theorem f66_run (k : Nat) (x : (lTy (lay 0 (f66_sig k).ins)).den) : runF (E_f66 k) Tryz.f66 (f66_sig k) x = (f66_sig k).F x := by kernel_rfl
theorem f66_ok [Dr] (k : Nat) : FnOK Tryz.prog G0 66 (f66_sig k) :=
  fn_ok2 (E := E_f66 k) (env_nil) (qenv_nil) mixed Tryz.func66 Tryz.call66 (by kernel_rfl) (by kernel_rfl) (m := 1) (by kernel_rfl) ⟨trivial,l66_6_ok k⟩ (sk := []) (by kernel_rfl) trivial (f66_run k)
noncomputable def f31 (k : Nat) (x0 : (List (Int×Int×Unit))×Int×Int×Unit) (x1 : Int) : Option ((((Int×Int×Unit)×(Int×Int×Unit)×(Int×Int×Unit)×Int×Int×Bool×Int×Unit)×Int×Unit)) :=
  (f66 k x0).bind fun r1 =>
  bif r1.1 != 0 then
  some (((0,0,()),(0,0,()),(0,0,()),0,0,false,0,()),r1)
  else
  bif decide (x1 < 0) then
  some (((0,0,()),(0,0,()),(0,0,()),0,0,false,0,()),11,())
  else
  bif decide (x1 > 100000000) then
  some (((0,0,()),(0,0,()),(0,0,()),0,0,false,0,()),11,())
  else
  bif decide (0 < (x0.1.length : Int)) then
  some ((((rd ((0,0,()) : Int×Int×Unit) x0.1 0).2.1,(rd ((0,0,()) : Int×Int×Unit) x0.1 0).2),(0,0,()),(0,0,()),0,x1,false,(-1),()),0,())
  else
  none
noncomputable def f31_sig (k : Nat) : Sig := ⟨[.val ty37,.val (.int .i64)],[],[[.val ty71,.val (.int .i64)]],fun x => f31 k x.1 x.2.1⟩
noncomputable def E_f31 (k : Nat) : Env := ⟨Tryz.prog,G0,scons 66 [f66_sig k] (snil),tnil,tnil,unil,k,qnil,false⟩
theorem f31_run (k : Nat) (x : (lTy (lay 0 (f31_sig k).ins)).den) : runF (E_f31 k) Tryz.f31 (f31_sig k) x = (f31_sig k).F x := by kernel_rfl
theorem f31_ok [Dr] (k : Nat) : FnOK Tryz.prog G0 31 (f31_sig k) :=
  fn_ok2 (E := E_f31 k) (env_cons (one_sig (f66_ok k)) (env_nil)) (qenv_nil) mixed Tryz.func31 Tryz.call31 (by kernel_rfl) (by kernel_rfl) (m := 0) (by kernel_rfl) trivial (sk := []) (by kernel_rfl) trivial (f31_run k)
noncomputable def f32 (k : Nat) (x0 : List (Int×Int×Unit)) : Option (((List (Int×Int×Unit))×Unit)) :=
  bif nilB x0 then
  both (
  some ([],()))
  (
  bif decide ((([] : List (Int×Int×Unit)).length + x0.length) * 16 ≤ roomN) then
  some ([] ++ x0,())
  else
  none)
  else
  bif decide ((([] : List (Int×Int×Unit)).length + x0.length) * 16 ≤ roomN) then
  some ([] ++ x0,())
  else
  none
noncomputable def f32_sig (k : Nat) : Sig := ⟨[.val (.sl ty13)],[],[[.row ty13]],fun x => f32 k x.1⟩
noncomputable def E_f32 (k : Nat) : Env := ⟨Tryz.prog,G0,snil,tnil,tnil,unil,k,qnil,false⟩
theorem f32_run (k : Nat) (x : (lTy (lay 0 (f32_sig k).ins)).den) : runF (E_f32 k) Tryz.f32 (f32_sig k) x = (f32_sig k).F x := by kernel_rfl
theorem f32_ok [Dr] (k : Nat) : FnOK Tryz.prog G0 32 (f32_sig k) :=
  fn_ok2 (E := E_f32 k) (env_nil) (qenv_nil) mixed Tryz.func32 Tryz.call32 (by kernel_rfl) (by kernel_rfl) (m := 0) (by kernel_rfl) trivial (sk := []) (by kernel_rfl) trivial (f32_run k)
noncomputable def f67 (k : Nat) (x0 : List (Int×Int×Int×(List (Int×Int×Int×Int×Unit))×Unit)) : Option (((List (Int×Int×Int×(List (Int×Int×Int×Int×Unit))×Unit))×Unit)) :=
  bif nilB x0 then
  both (
  some ([],()))
  (
  bif decide ((([] : List (Int×Int×Int×(List (Int×Int×Int×Int×Unit))×Unit)).length + x0.length) * 48 ≤ roomN) then
  some ([] ++ x0,())
  else
  none)
  else
  bif decide ((([] : List (Int×Int×Int×(List (Int×Int×Int×Int×Unit))×Unit)).length + x0.length) * 48 ≤ roomN) then
  some ([] ++ x0,())
  else
  none
noncomputable def f67_sig (k : Nat) : Sig := ⟨[.val (.sl ty58)],[],[[.row ty58]],fun x => f67 k x.1⟩
noncomputable def E_f67 (k : Nat) : Env := ⟨Tryz.prog,G0,snil,tnil,tnil,unil,k,qnil,false⟩
theorem f67_run (k : Nat) (x : (lTy (lay 0 (f67_sig k).ins)).den) : runF (E_f67 k) Tryz.f67 (f67_sig k) x = (f67_sig k).F x := by kernel_rfl
theorem f67_ok [Dr] (k : Nat) : FnOK Tryz.prog G0 67 (f67_sig k) :=
  fn_ok2 (E := E_f67 k) (env_nil) (qenv_nil) mixed Tryz.func67 Tryz.call67 (by kernel_rfl) (by kernel_rfl) (m := 0) (by kernel_rfl) trivial (sk := []) (by kernel_rfl) trivial (f67_run k)
noncomputable def f69 (k : Nat) (x0 : List (Int×Int×Int×Bool×Unit)) : Option (((List (Int×Int×Int×Bool×Unit))×Unit)) :=
  bif nilB x0 then
  both (
  some ([],()))
  (
  bif decide ((([] : List (Int×Int×Int×Bool×Unit)).length + x0.length) * 32 ≤ roomN) then
  some ([] ++ x0,())
  else
  none)
  else
  bif decide ((([] : List (Int×Int×Int×Bool×Unit)).length + x0.length) * 32 ≤ roomN) then
  some ([] ++ x0,())
  else
  none
noncomputable def f69_sig (k : Nat) : Sig := ⟨[.val (.sl ty27)],[],[[.row ty27]],fun x => f69 k x.1⟩
noncomputable def E_f69 (k : Nat) : Env := ⟨Tryz.prog,G0,snil,tnil,tnil,unil,k,qnil,false⟩
theorem f69_run (k : Nat) (x : (lTy (lay 0 (f69_sig k).ins)).den) : runF (E_f69 k) Tryz.f69 (f69_sig k) x = (f69_sig k).F x := by kernel_rfl
theorem f69_ok [Dr] (k : Nat) : FnOK Tryz.prog G0 69 (f69_sig k) :=
  fn_ok2 (E := E_f69 k) (env_nil) (qenv_nil) mixed Tryz.func69 Tryz.call69 (by kernel_rfl) (by kernel_rfl) (m := 0) (by kernel_rfl) trivial (sk := []) (by kernel_rfl) trivial (f69_run k)
noncomputable def f70 (k : Nat) (x0 : List (Int×Int×Int×Int×Unit)) : Option (((List (Int×Int×Int×Int×Unit))×Unit)) :=
  bif nilB x0 then
  both (
  some ([],()))
  (
  bif decide ((([] : List (Int×Int×Int×Int×Unit)).length + x0.length) * 32 ≤ roomN) then
  some ([] ++ x0,())
  else
  none)
  else
  bif decide ((([] : List (Int×Int×Int×Int×Unit)).length + x0.length) * 32 ≤ roomN) then
  some ([] ++ x0,())
  else
  none
noncomputable def f70_sig (k : Nat) : Sig := ⟨[.val (.sl ty29)],[],[[.row ty29]],fun x => f70 k x.1⟩
noncomputable def E_f70 (k : Nat) : Env := ⟨Tryz.prog,G0,snil,tnil,tnil,unil,k,qnil,false⟩
theorem f70_run (k : Nat) (x : (lTy (lay 0 (f70_sig k).ins)).den) : runF (E_f70 k) Tryz.f70 (f70_sig k) x = (f70_sig k).F x := by kernel_rfl
theorem f70_ok [Dr] (k : Nat) : FnOK Tryz.prog G0 70 (f70_sig k) :=
  fn_ok2 (E := E_f70 k) (env_nil) (qenv_nil) mixed Tryz.func70 Tryz.call70 (by kernel_rfl) (by kernel_rfl) (m := 0) (by kernel_rfl) trivial (sk := []) (by kernel_rfl) trivial (f70_run k)
noncomputable def l33_3 (k : Nat) : Nat → (ByteArray×Int×Int×(List (Int×Int×Int×(List (Int×Int×Int×Int×Unit))×Unit))×(List Int)×Bool×Bool×(List (Int×Int×Int×Bool×Unit))×Int×Int×Int×Unit) → (ByteArray×Int×Int×(List (Int×Int×Int×(List (Int×Int×Int×Int×Unit))×Unit))×(List Int)×Bool×Bool×(List (Int×Int×Int×Bool×Unit))×Int×Int×Int×Unit) → Int → Int → Option (((ByteArray×Int×Int×(List (Int×Int×Int×(List (Int×Int×Int×Int×Unit))×Unit))×(List Int)×Bool×Bool×(List (Int×Int×Int×Bool×Unit))×Int×Int×Int×Unit)×(ByteArray×Int×Int×(List (Int×Int×Int×(List (Int×Int×Int×Int×Unit))×Unit))×(List Int)×Bool×Bool×(List (Int×Int×Int×Bool×Unit))×Int×Int×Int×Unit)×Unit))
 | 0,_,_,_,_ => none
 | j + 1,s1,s2,s18,s19 =>
  bif decide (s19 < s18) then
  bif decide (0 ≤ s19) && decide (s19 < (s1.2.2.2.1.length : Int)) then
  (f70 k (rd ((0,0,0,[],()) : Int×Int×Int×(List (Int×Int×Int×Int×Unit))×Unit) s1.2.2.2.1 s19).2.2.2.1).bind fun r1 =>
  bif decide (0 ≤ s19) && decide (s19 < (s1.2.2.2.1.length : Int)) then
  l33_3 k j (s1.1,s1.2.1,s1.2.2.1,s1.2.2.2.1.set s19.toNat ((rd ((0,0,0,[],()) : Int×Int×Int×(List (Int×Int×Int×Int×Unit))×Unit) s1.2.2.2.1 s19).1,(rd ((0,0,0,[],()) : Int×Int×Int×(List (Int×Int×Int×Int×Unit))×Unit) s1.2.2.2.1 s19).2.1,(rd ((0,0,0,[],()) : Int×Int×Int×(List (Int×Int×Int×Int×Unit))×Unit) s1.2.2.2.1 s19).2.2.1,r1),s1.2.2.2.2) s2 s18 (w64 (s19 + 1))
  else
  none
  else
  none
  else
  some (s1,s2,())
noncomputable def l33_3_sig (k : Nat) : LoopSig := ⟨[(1,.obj ck77),(2,.obj ck77),(18,.obj ck1),(19,.obj ck1)],[(.exit 0,[(1,.obj ck77),(2,.obj ck77)])],fun j x => l33_3 k j x.1 x.2.1 x.2.2.1 x.2.2.2.1⟩
noncomputable def f33 (k : Nat) (x0 : ByteArray×Int×Int×(List (Int×Int×Int×(List (Int×Int×Int×Int×Unit))×Unit))×(List Int)×Bool×Bool×(List (Int×Int×Int×Bool×Unit))×Int×Int×Int×Unit) : Option (((ByteArray×Int×Int×(List (Int×Int×Int×(List (Int×Int×Int×Int×Unit))×Unit))×(List Int)×Bool×Bool×(List (Int×Int×Int×Bool×Unit))×Int×Int×Int×Unit)×Unit)) :=
  (f67 k x0.2.2.2.1).bind fun r1 =>
  (f68 k x0.2.2.2.2.1).bind fun r2 =>
  (f69 k x0.2.2.2.2.2.2.2.1).bind fun r3 =>
  (l33_3 k k (x0.1,x0.2.1,x0.2.2.1,r1.1,r2.1,x0.2.2.2.2.2.1,x0.2.2.2.2.2.2.1,r3.1,x0.2.2.2.2.2.2.2.2) ((⟨#[]⟩ : ByteArray),0,0,[],[],false,false,[],0,0,0,()) (r1.1.length : Int) 0).bind fun o4 =>
  some (o4.1,())
noncomputable def f33_sig (k : Nat) : Sig := ⟨[.val ty73],[],[[.cons (.val (.str)) ck76]],fun x => f33 k x.1⟩
noncomputable def E_f33 (k : Nat) : Env := ⟨Tryz.prog,G0,scons 70 [f70_sig k] (scons 69 [f69_sig k] (scons 68 [f68_sig k] (scons 67 [f67_sig k] (snil)))),tcons 3 (l33_3_sig k) (tnil),tnil,unil,k,qnil,false⟩
theorem l33_3_ok (k : Nat) : LoopOK (E_f33 k) ⟨Tryz.f33.ntmps,[],G0⟩ (nthC 0 (loopsIn (Tryz.f33.body.getD .skip))) :=
  loop_ok (ls := l33_3_sig k) (by kernel_rfl) (fun _ => by kernel_rfl) (fun j x => by kernel_rfl)
theorem f33_run (k : Nat) (x : (lTy (lay 0 (f33_sig k).ins)).den) : runF (E_f33 k) Tryz.f33 (f33_sig k) x = (f33_sig k).F x := by kernel_rfl
theorem f33_ok [Dr] (k : Nat) : FnOK Tryz.prog G0 33 (f33_sig k) :=
  fn_ok2 (E := E_f33 k) (env_cons (one_sig (f70_ok k)) (env_cons (one_sig (f69_ok k)) (env_cons (one_sig (f68_ok k)) (env_cons (one_sig (f67_ok k)) (env_nil))))) (qenv_nil) mixed Tryz.func33 Tryz.call33 (by kernel_rfl) (by kernel_rfl) (m := 1) (by kernel_rfl) ⟨trivial,l33_3_ok k⟩ (sk := []) (by kernel_rfl) trivial (f33_run k)
noncomputable def f34 (k : Nat) : Option ((((Int×Int×Unit)×((Int×Int×Unit)×(Int×Int×Unit)×Unit)×Unit)×Unit)) :=
  some ((((-1),(-1),()),(((-1),(-1),()),((-1),(-1),()),()),()),())
noncomputable def f34_sig (k : Nat) : Sig := ⟨[],[],[[.val ty66]],fun x => f34 k⟩
noncomputable def E_f34 (k : Nat) : Env := ⟨Tryz.prog,G0,snil,tnil,tnil,unil,k,qnil,false⟩
theorem f34_run (k : Nat) (x : (lTy (lay 0 (f34_sig k).ins)).den) : runF (E_f34 k) Tryz.f34 (f34_sig k) x = (f34_sig k).F x := by kernel_rfl
theorem f34_ok [Dr] (k : Nat) : FnOK Tryz.prog G0 34 (f34_sig k) :=
  fn_ok2 (E := E_f34 k) (env_nil) (qenv_nil) mixed Tryz.func34 Tryz.call34 (by kernel_rfl) (by kernel_rfl) (m := 0) (by kernel_rfl) trivial (sk := []) (by kernel_rfl) trivial (f34_run k)
open Go.Shelf in
def itoaL_ren : Go.Shelf.Ren := ⟨fun | 171 => 73 | 243 => 106 | 246 => 142 | 283 => 168 | 284 => 169 | 285 => 170 | 286 => 171 | 129 => 181 | 317 => 196 | 318 => 197 | 319 => 198 | 320 => 199 | 337 => 212 | 338 => 213 | n => n,fun | 3 => 3 | 9 => 9 | 2 => 2 | 4 => 4 | 171 => 243 | 0 => 0 | 53 => 100 | 37 => 176 | 5 => 5 | 173 => 246 | 212 => 274 | 51 => 257 | 20 => 20 | 213 => 275 | 46 => 223 | 232 => 295 | 233 => 296 | n => n,fun | 17 => 3 | 18 => 7 | 19 => 8 | n => n⟩
open Go.Shelf in
theorem itoaL : Go.Proofs.LaysM.n171 Tryz.prog itoaL_ren := {
  mixed := by kernel_rfl
  f129 := Tryz.func181.trans (congrArg some (by kernel_rfl))
  f171 := Tryz.func73.trans (congrArg some (by kernel_rfl))
  f243 := Tryz.func106.trans (congrArg some (by kernel_rfl))
  f246 := Tryz.func142.trans (congrArg some (by kernel_rfl))
  f283 := Tryz.func168.trans (congrArg some (by kernel_rfl))
  f284 := Tryz.func169.trans (congrArg some (by kernel_rfl))
  f285 := Tryz.func170.trans (congrArg some (by kernel_rfl))
  f286 := Tryz.func171.trans (congrArg some (by kernel_rfl))
  f317 := Tryz.func196.trans (congrArg some (by kernel_rfl))
  f318 := Tryz.func197.trans (congrArg some (by kernel_rfl))
  f319 := Tryz.func198.trans (congrArg some (by kernel_rfl))
  f320 := Tryz.func199.trans (congrArg some (by kernel_rfl))
  f337 := Tryz.func212.trans (congrArg some (by kernel_rfl))
  f338 := Tryz.func213.trans (congrArg some (by kernel_rfl))
  t0 := Tryz.underlying0
  a0 := Tryz.isAgg0
  z0 := Tryz.sizeOf0
  v0 := Tryz.zeroValue0
  t2 := Tryz.underlying2
  a2 := Tryz.isAgg2
  z2 := Tryz.sizeOf2
  v2 := Tryz.zeroValue2
  t3 := Tryz.underlying3
  a3 := Tryz.isAgg3
  z3 := Tryz.sizeOf3
  v3 := Tryz.zeroValue3
  t4 := Tryz.underlying4
  a4 := Tryz.isAgg4
  z4 := Tryz.sizeOf4
  v4 := Tryz.zeroValue4
  t5 := Tryz.underlying5
  a5 := Tryz.isAgg5
  z5 := Tryz.sizeOf5
  v5 := Tryz.zeroValue5
  t9 := Tryz.underlying9
  a9 := Tryz.isAgg9
  z9 := Tryz.sizeOf9
  v9 := Tryz.zeroValue9
  t20 := Tryz.underlying20
  a20 := Tryz.isAgg20
  z20 := Tryz.sizeOf20
  v20 := Tryz.zeroValue20
  t37 := Tryz.underlying176
  a37 := Tryz.isAgg176
  z37 := Tryz.sizeOf176
  v37 := Tryz.zeroValue176
  t46 := Tryz.underlying223
  a46 := Tryz.isAgg223
  z46 := Tryz.sizeOf223
  v46 := Tryz.zeroValue223
  t51 := Tryz.underlying257
  a51 := Tryz.isAgg257
  z51 := Tryz.sizeOf257
  v51 := Tryz.zeroValue257
  t53 := Tryz.underlying100
  a53 := Tryz.isAgg100
  z53 := Tryz.sizeOf100
  v53 := Tryz.zeroValue100
  t171 := Tryz.underlying243
  a171 := Tryz.isAgg243
  z171 := Tryz.sizeOf243
  v171 := Tryz.zeroValue243
  t173 := Tryz.underlying246
  a173 := Tryz.isAgg246
  z173 := Tryz.sizeOf246
  v173 := Tryz.zeroValue246
  t212 := Tryz.underlying274
  a212 := Tryz.isAgg274
  z212 := Tryz.sizeOf274
  v212 := Tryz.zeroValue274
  t213 := Tryz.underlying275
  a213 := Tryz.isAgg275
  z213 := Tryz.sizeOf275
  t232 := Tryz.underlying295
  a232 := Tryz.isAgg295
  z232 := Tryz.sizeOf295
  v232 := Tryz.zeroValue295
  t233 := Tryz.underlying296
  a233 := Tryz.isAgg296
  z233 := Tryz.sizeOf296
  v233 := Tryz.zeroValue296
  g17 := by kernel_rfl
  g18 := by kernel_rfl
  g19 := by kernel_rfl
  i0 := by kernel_rfl
  i2 := by kernel_rfl
  i3 := by kernel_rfl
  i4 := by kernel_rfl
  i5 := by kernel_rfl
  i9 := by kernel_rfl
  i20 := by kernel_rfl
  i37 := by kernel_rfl
  i46 := by kernel_rfl
  i51 := by kernel_rfl
  i53 := by kernel_rfl
  i171 := by kernel_rfl
  i173 := by kernel_rfl
  i212 := by kernel_rfl
  i232 := by kernel_rfl
  i233 := by kernel_rfl
  m17 := by kernel_rfl
  m18 := by kernel_rfl
  m19 := by kernel_rfl }
noncomputable def f73 (k : Nat) (x0 : Int) : Option (ByteArray×Unit) := bif inI64 x0 then some (itoaB x0,()) else none
noncomputable def f73_sig (k : Nat) : Sig := ⟨[.val (.int .i64)],[],[[.val (.str)]],fun x => f73 k x.1⟩
theorem f73_ok [Dr] (k : Nat) : FnOK Tryz.prog G0 73 (f73_sig k) := itoa_ok (ρ := itoaL_ren) itoaL (g := 3) (l := gl3) (by kernel_rfl) (by kernel_rfl) (.tail _ (.head _)) Tryz.call73
noncomputable def f36 (k : Nat) (x0 : Int) : Option ((ByteArray×Unit)) :=
  (f73 k x0).bind fun r1 =>
  some r1
noncomputable def f36_sig (k : Nat) : Sig := ⟨[.val (.int .i64)],[],[[.val (.str)]],fun x => f36 k x.1⟩
noncomputable def E_f36 (k : Nat) : Env := ⟨Tryz.prog,G0,scons 73 [f73_sig k] (snil),tnil,tnil,unil,k,qnil,false⟩
theorem f36_run (k : Nat) (x : (lTy (lay 0 (f36_sig k).ins)).den) : runF (E_f36 k) Tryz.f36 (f36_sig k) x = (f36_sig k).F x := by kernel_rfl
theorem f36_ok [Dr] (k : Nat) : FnOK Tryz.prog G0 36 (f36_sig k) :=
  fn_ok2 (E := E_f36 k) (env_cons (one_sig (f73_ok k)) (env_nil)) (qenv_nil) mixed Tryz.func36 Tryz.call36 (by kernel_rfl) (by kernel_rfl) (m := 0) (by kernel_rfl) trivial (sk := []) (by kernel_rfl) trivial (f36_run k)
noncomputable def l72_3 (k : Nat) : Nat → ByteArray → Int → Int → Int → Option ((ByteArray×Int×Unit))
 | 0,_,_,_,_ => none
 | j + 1,s1,s5,s10,s11 =>
  bif decide (s11 < s10) then
  bif decide (0 ≤ s11) && decide (s11 < (s1.size : Int)) then
  l72_3 k j s1 (IntKind.u64.wrap ((bitsOp .xor .u64 s5 (IntKind.u64.wrap (bt s1 s11))) * 1099511628211)) s10 (w64 (s11 + 1))
  else
  none
  else
  some (s1,s5,())
noncomputable def l72_3_sig (k : Nat) : LoopSig := ⟨[(1,.obj (.val (.str))),(5,.obj (.val (.int .u64))),(10,.obj ck1),(11,.obj ck1)],[(.exit 0,[(1,.obj (.val (.str))),(5,.obj (.val (.int .u64)))])],fun j x => l72_3 k j x.1 x.2.1 x.2.2.1 x.2.2.2.1⟩
noncomputable def f72 (k : Nat) (x0 : Int) (x1 : ByteArray) : Option ((Int×Unit)) :=
  (l72_3 k k x1 (bitsOp .xor .u64 x0 14695981039346656037) (x1.size : Int) 0).bind fun o1 =>
  some (IntKind.u64.wrap ((bitsOp .xor .u64 o1.2.1 (IntKind.u64.wrap (o1.1.size : Int))) * 1099511628211),())
noncomputable def f72_sig (k : Nat) : Sig := ⟨[.val (.int .u64),.val (.str)],[],[[.val (.int .u64)]],fun x => f72 k x.1 x.2.1⟩
noncomputable def E_f72 (k : Nat) : Env := ⟨Tryz.prog,G0,snil,tcons 3 (l72_3_sig k) (tnil),tnil,unil,k,qnil,false⟩
theorem l72_3_ok (k : Nat) : LoopOK (E_f72 k) ⟨Tryz.f72.ntmps,[],G0⟩ (nthC 0 (loopsIn (Tryz.f72.body.getD .skip))) :=
  loop_ok (ls := l72_3_sig k) (by kernel_rfl) (fun _ => by kernel_rfl) (fun j x => by kernel_rfl)
theorem f72_run (k : Nat) (x : (lTy (lay 0 (f72_sig k).ins)).den) : runF (E_f72 k) Tryz.f72 (f72_sig k) x = (f72_sig k).F x := by kernel_rfl
theorem f72_ok [Dr] (k : Nat) : FnOK Tryz.prog G0 72 (f72_sig k) :=
  fn_ok2 (E := E_f72 k) (env_nil) (qenv_nil) mixed Tryz.func72 Tryz.call72 (by kernel_rfl) (by kernel_rfl) (m := 1) (by kernel_rfl) ⟨trivial,l72_3_ok k⟩ (sk := []) (by kernel_rfl) trivial (f72_run k)
noncomputable def l71_4 (k : Nat) : Nat → ByteArray → Int → Int → Option (Unit ⊕ (Int×Unit))
 | 0,_,_,_ => none
 | j + 1,s0,s8,s9 =>
  bif decide (s9 < s8) then
  bif decide (0 ≤ s9) && decide (s9 < (s0.size : Int)) then
  bif decide ((bt s0 s9) < 32) then
  some (.inr (3,()))
  else
  bif decide (0 ≤ s9) && decide (s9 < (s0.size : Int)) then
  bif decide ((bt s0 s9) > 126) then
  some (.inr (3,()))
  else
  l71_4 k j s0 s8 (w64 (s9 + 1))
  else
  none
  else
  none
  else
  some (.inl ())
noncomputable def l71_4_sig (k : Nat) : LoopSig := ⟨[(0,.obj (.val (.str))),(8,.obj ck1),(9,.obj ck1)],[(.exit 0,[]),(.ret,[(2,.obj ck1)])],fun j x => l71_4 k j x.1 x.2.1 x.2.2.1⟩
noncomputable def f71 (k : Nat) (x0 : ByteArray) : Option ((Int×Unit)) :=
  bif decide ((x0.size : Int) > 200) then
  some (2,())
  else
  (l71_4 k k x0 (x0.size : Int) 0).bind fun q9 =>
  Sum.elim
  (fun y1 =>
  some (0,()))
  (fun y2 =>
  some y2)
  q9
noncomputable def f71_sig (k : Nat) : Sig := ⟨[.val (.str)],[],[[.val (.int .i64)]],fun x => f71 k x.1⟩
noncomputable def E_f71 (k : Nat) : Env := ⟨Tryz.prog,G0,snil,tcons 4 (l71_4_sig k) (tnil),tnil,unil,k,qnil,false⟩
theorem l71_4_ok (k : Nat) : LoopOK (E_f71 k) ⟨Tryz.f71.ntmps,[],G0⟩ (nthC 0 (loopsIn (Tryz.f71.body.getD .skip))) :=
  loop_ok (ls := l71_4_sig k) (by kernel_rfl) (fun _ => by kernel_rfl) (fun j x => by kernel_rfl)
theorem f71_run (k : Nat) (x : (lTy (lay 0 (f71_sig k).ins)).den) : runF (E_f71 k) Tryz.f71 (f71_sig k) x = (f71_sig k).F x := by kernel_rfl
theorem f71_ok [Dr] (k : Nat) : FnOK Tryz.prog G0 71 (f71_sig k) :=
  fn_ok2 (E := E_f71 k) (env_nil) (qenv_nil) mixed Tryz.func71 Tryz.call71 (by kernel_rfl) (by kernel_rfl) (m := 1) (by kernel_rfl) ⟨trivial,l71_4_ok k⟩ (sk := []) (by kernel_rfl) trivial (f71_run k)
noncomputable def l92_3 (k : Nat) : Nat → (List (ByteArray×Int×Unit)) → Int → (List (ByteArray×Int×Unit)) → Int → Int → Option (((List (ByteArray×Int×Unit))×Unit) ⊕ (Int×Unit))
 | 0,_,_,_,_,_ => none
 | j + 1,s0,s3,s6,s7,s8 =>
  bif decide (s8 < s7) then
  bif decide (0 ≤ s8) && decide (s8 < (s6.length : Int)) then
  (f72 k s3 (rd (((⟨#[]⟩ : ByteArray),0,()) : ByteArray×Int×Unit) s6 s8).1).bind fun r1 =>
  bif s8 == 1000 then
  some (.inr (s8,()))
  else
  (f71 k (rd (((⟨#[]⟩ : ByteArray),0,()) : ByteArray×Int×Unit) s6 s8).1).bind fun r2 =>
  bif r2.1 != 0 then
  some (.inr (s8,()))
  else
  bif (rd (((⟨#[]⟩ : ByteArray),0,()) : ByteArray×Int×Unit) s6 s8).2.1 != r1.1 then
  some (.inr (s8,()))
  else
  l92_3 k j s0 r1.1 s6 s7 (w64 (s8 + 1))
  else
  none
  else
  some (.inl (s0,()))
noncomputable def l92_3_sig (k : Nat) : LoopSig := ⟨[(0,.obj ck18),(3,.obj (.val (.int .u64))),(6,.obj ck18),(7,.obj ck1),(8,.obj ck1)],[(.exit 0,[(0,.obj ck18)]),(.ret,[(2,.obj ck1)])],fun j x => l92_3 k j x.1 x.2.1 x.2.2.1 x.2.2.2.1 x.2.2.2.2.1⟩
noncomputable def f92 (k : Nat) (x0 : List (ByteArray×Int×Unit)) : Option ((Int×Unit)) :=
  (l92_3 k k x0 0 x0 (x0.length : Int) 0).bind fun q10 =>
  Sum.elim
  (fun y1 =>
  some ((y1.1.length : Int),()))
  (fun y2 =>
  some y2)
  q10
noncomputable def f92_sig (k : Nat) : Sig := ⟨[.val (.sl ty10)],[],[[.val (.int .i64)]],fun x => f92 k x.1⟩
noncomputable def E_f92 (k : Nat) : Env := ⟨Tryz.prog,G0,scons 72 [f72_sig k] (scons 71 [f71_sig k] (snil)),tcons 3 (l92_3_sig k) (tnil),tnil,unil,k,qnil,false⟩
theorem l92_3_ok (k : Nat) : LoopOK (E_f92 k) ⟨Tryz.f92.ntmps,[],G0⟩ (nthC 0 (loopsIn (Tryz.f92.body.getD .skip))) :=
  loop_ok (ls := l92_3_sig k) (by kernel_rfl) (fun _ => by kernel_rfl) (fun j x => by kernel_rfl)
theorem f92_run (k : Nat) (x : (lTy (lay 0 (f92_sig k).ins)).den) : runF (E_f92 k) Tryz.f92 (f92_sig k) x = (f92_sig k).F x := by kernel_rfl
theorem f92_ok [Dr] (k : Nat) : FnOK Tryz.prog G0 92 (f92_sig k) :=
  fn_ok2 (E := E_f92 k) (env_cons (one_sig (f72_ok k)) (env_cons (one_sig (f71_ok k)) (env_nil))) (qenv_nil) mixed Tryz.func92 Tryz.call92 (by kernel_rfl) (by kernel_rfl) (m := 1) (by kernel_rfl) ⟨trivial,l92_3_ok k⟩ (sk := []) (by kernel_rfl) trivial (f92_run k)
noncomputable def f55 (k : Nat) (x0 : List (ByteArray×Int×Unit)) : Option ((Int×Unit)) :=
  bif decide ((x0.length : Int) > 1000) then
  some (2,())
  else
  (f92 k x0).bind fun r1 =>
  bif r1.1 == (x0.length : Int) then
  some (0,())
  else
  bif decide (0 ≤ r1.1) && decide (r1.1 < (x0.length : Int)) then
  (f71 k (rd (((⟨#[]⟩ : ByteArray),0,()) : ByteArray×Int×Unit) x0 r1.1).1).bind fun r2 =>
  bif r2.1 != 0 then
  some r2
  else
  some (15,())
  else
  none
noncomputable def f55_sig (k : Nat) : Sig := ⟨[.val (.sl ty10)],[],[[.val (.int .i64)]],fun x => f55 k x.1⟩
noncomputable def E_f55 (k : Nat) : Env := ⟨Tryz.prog,G0,scons 92 [f92_sig k] (scons 71 [f71_sig k] (snil)),tnil,tnil,unil,k,qnil,false⟩
theorem f55_run (k : Nat) (x : (lTy (lay 0 (f55_sig k).ins)).den) : runF (E_f55 k) Tryz.f55 (f55_sig k) x = (f55_sig k).F x := by kernel_rfl
theorem f55_ok [Dr] (k : Nat) : FnOK Tryz.prog G0 55 (f55_sig k) :=
  fn_ok2 (E := E_f55 k) (env_cons (one_sig (f92_ok k)) (env_cons (one_sig (f71_ok k)) (env_nil))) (qenv_nil) mixed Tryz.func55 Tryz.call55 (by kernel_rfl) (by kernel_rfl) (m := 0) (by kernel_rfl) trivial (sk := []) (by kernel_rfl) trivial (f55_run k)
noncomputable def f35 (k : Nat) (x0 : List (ByteArray×Int×Unit)) (x1 : ByteArray) : Option (((List (ByteArray×Int×Unit))×Int×Unit)) :=
  (f55 k x0).bind fun r1 =>
  bif r1.1 != 0 then
  some ([],r1)
  else
  (f71 k x1).bind fun r2 =>
  bif r2.1 != 0 then
  some ([],r2)
  else
  bif (x0.length : Int) == 1000 then
  some ([],9,())
  else
  bif decide ((x0.length : Int) > 0) then
  bif decide (0 ≤ (w64 ((x0.length : Int) - 1))) && decide ((w64 ((x0.length : Int) - 1)) < (x0.length : Int)) then
  bif decide ((([] : List (ByteArray×Int×Unit)).length + x0.length) * 24 ≤ roomN) then
  (f72 k (rd (((⟨#[]⟩ : ByteArray),0,()) : ByteArray×Int×Unit) x0 (w64 ((x0.length : Int) - 1))).2.1 x1).bind fun r3 =>
  bif decide ((([] ++ x0).length + ([(x1,r3)] : List (ByteArray×Int×Unit)).length) * 24 ≤ roomN) then
  some (([] ++ x0) ++ [(x1,r3)],0,())
  else
  none
  else
  none
  else
  none
  else
  bif decide ((([] : List (ByteArray×Int×Unit)).length + x0.length) * 24 ≤ roomN) then
  (f72 k 0 x1).bind fun r4 =>
  bif decide ((([] ++ x0).length + ([(x1,r4)] : List (ByteArray×Int×Unit)).length) * 24 ≤ roomN) then
  some (([] ++ x0) ++ [(x1,r4)],0,())
  else
  none
  else
  none
noncomputable def f35_sig (k : Nat) : Sig := ⟨[.val (.sl ty10),.val (.str)],[],[[.row ty10,.val (.int .i64)]],fun x => f35 k x.1 x.2.1⟩
noncomputable def E_f35 (k : Nat) : Env := ⟨Tryz.prog,G0,scons 72 [f72_sig k] (scons 71 [f71_sig k] (scons 55 [f55_sig k] (snil))),tnil,tnil,unil,k,qnil,false⟩
theorem f35_run (k : Nat) (x : (lTy (lay 0 (f35_sig k).ins)).den) : runF (E_f35 k) Tryz.f35 (f35_sig k) x = (f35_sig k).F x := by kernel_rfl
theorem f35_ok [Dr] (k : Nat) : FnOK Tryz.prog G0 35 (f35_sig k) :=
  fn_ok2 (E := E_f35 k) (env_cons (one_sig (f72_ok k)) (env_cons (one_sig (f71_ok k)) (env_cons (one_sig (f55_ok k)) (env_nil)))) (qenv_nil) mixed Tryz.func35 Tryz.call35 (by kernel_rfl) (by kernel_rfl) (m := 0) (by kernel_rfl) trivial (sk := []) (by kernel_rfl) trivial (f35_run k)
noncomputable def f89 (k : Nat) (x0 : (ByteArray×Int×Int×(List (Int×Int×Int×(List (Int×Int×Int×Int×Unit))×Unit))×(List Int)×Bool×Bool×(List (Int×Int×Int×Bool×Unit))×Int×Int×Int×Unit)×(List ((List Int)×((List Int)×(List Int)×Unit)×Int×Int×Unit))×(List (Int×Int×Int×Unit))×Unit) : Option ((((List Int)×((List Int)×(List Int)×Unit)×Int×Int×Unit)×Unit)) :=
  bif decide (0 ≤ (w64 ((x0.2.1.length : Int) - 1))) && decide ((w64 ((x0.2.1.length : Int) - 1)) < (x0.2.1.length : Int)) then
  some (rd (([],([],[],()),0,0,()) : (List Int)×((List Int)×(List Int)×Unit)×Int×Int×Unit) x0.2.1 (w64 ((x0.2.1.length : Int) - 1)),())
  else
  none
noncomputable def f89_sig (k : Nat) : Sig := ⟨[.view ty81],[],[[.val ty49]],fun x => f89 k x.1⟩
noncomputable def E_f89 (k : Nat) : Env := ⟨Tryz.prog,G0,snil,tnil,tnil,unil,k,qnil,false⟩
theorem f89_run (k : Nat) (x : (lTy (lay 0 (f89_sig k).ins)).den) : runF (E_f89 k) Tryz.f89 (f89_sig k) x = (f89_sig k).F x := by kernel_rfl
theorem f89_ok [Dr] (k : Nat) : FnOK Tryz.prog G0 89 (f89_sig k) :=
  fn_ok2 (E := E_f89 k) (env_nil) (qenv_nil) mixed Tryz.func89 Tryz.call89 (by kernel_rfl) (by kernel_rfl) (m := 0) (by kernel_rfl) trivial (sk := []) (by kernel_rfl) trivial (f89_run k)
noncomputable def f109 (k : Nat) (x0 : Int) : Option ((Int×Unit)) :=
  bif x0 == 0 then
  some ((-1),())
  else
  some ((w64 (x0 - 1)).tmod 2,())
noncomputable def f109_sig (k : Nat) : Sig := ⟨[.val (.int .i64)],[],[[.val (.int .i64)]],fun x => f109 k x.1⟩
noncomputable def E_f109 (k : Nat) : Env := ⟨Tryz.prog,G0,snil,tnil,tnil,unil,k,qnil,false⟩
theorem f109_run (k : Nat) (x : (lTy (lay 0 (f109_sig k).ins)).den) : runF (E_f109 k) Tryz.f109 (f109_sig k) x = (f109_sig k).F x := by kernel_rfl
theorem f109_ok [Dr] (k : Nat) : FnOK Tryz.prog G0 109 (f109_sig k) :=
  fn_ok2 (E := E_f109 k) (env_nil) (qenv_nil) mixed Tryz.func109 Tryz.call109 (by kernel_rfl) (by kernel_rfl) (m := 0) (by kernel_rfl) trivial (sk := []) (by kernel_rfl) trivial (f109_run k)
noncomputable def l153_8 (k : Nat) : Nat → Int → Int → (ByteArray×Int×Int×(List (Int×Int×Int×(List (Int×Int×Int×Int×Unit))×Unit))×(List Int)×Bool×Bool×(List (Int×Int×Int×Bool×Unit))×Int×Int×Int×Unit) → ((List Int)×((List Int)×(List Int)×Unit)×Int×Int×Unit) → Int → (Int×Int×Unit) → Int → Int → Int → Int → Int → ((Int×Int×Unit)×(Int×Int×Unit)×(Int×Int×Unit)×(Int×Int×Unit)×Unit) → Int → Option ((Int×Int×(ByteArray×Int×Int×(List (Int×Int×Int×(List (Int×Int×Int×Int×Unit))×Unit))×(List Int)×Bool×Bool×(List (Int×Int×Int×Bool×Unit))×Int×Int×Int×Unit)×((List Int)×((List Int)×(List Int)×Unit)×Int×Int×Unit)×Int×Int×Int×Int×((Int×Int×Unit)×(Int×Int×Unit)×(Int×Int×Unit)×(Int×Int×Unit)×Unit)×Int×Unit))
 | 0,_,_,_,_,_,_,_,_,_,_,_,_,_ => none
 | j + 1,s2,s3,s4,s5,s9,s11,s12,s13,s14,s17,s18,s25,s26 =>
  bif decide (s12 ≥ 0) then
  bif decide (s12 < s4.2.1) then
  bif decide (s13 ≥ 0) then
  bif decide (s13 < s4.2.2.1) then
  bif decide (s14 < s3) then
  bif decide (0 ≤ (w64 ((w64 (s13 * s4.2.1)) + s12))) && decide ((w64 ((w64 (s13 * s4.2.1)) + s12)) < (s5.1.length : Int)) then
  (f109 k (rd (0 : Int) s5.1 (w64 ((w64 (s13 * s4.2.1)) + s12)))).bind fun r1 =>
  bif r1.1 == s2 then
  l153_8 k j s2 s3 s4 s5 s9 s11 (w64 (s12 + s11.1)) (w64 (s13 + s11.2.1)) (w64 (s14 + 1)) s17 s18 s25 s26
  else
  some (s2,s3,s4,s5,s9,s14,s17,s18,s25,s26,())
  else
  none
  else
  some (s2,s3,s4,s5,s9,s14,s17,s18,s25,s26,())
  else
  some (s2,s3,s4,s5,s9,s14,s17,s18,s25,s26,())
  else
  some (s2,s3,s4,s5,s9,s14,s17,s18,s25,s26,())
  else
  some (s2,s3,s4,s5,s9,s14,s17,s18,s25,s26,())
  else
  some (s2,s3,s4,s5,s9,s14,s17,s18,s25,s26,())
noncomputable def l153_8_sig (k : Nat) : LoopSig := ⟨[(2,.obj ck1),(3,.obj ck1),(4,.obj ck75),(5,.obj ck53),(9,.obj ck1),(11,.obj ck21),(12,.obj ck1),(13,.obj ck1),(14,.obj ck1),(17,.obj ck1),(18,.obj ck1),(25,.obj ck69),(26,.obj ck1)],[(.exit 4,[(2,.obj ck1),(3,.obj ck1),(4,.obj ck75),(5,.obj ck53),(9,.obj ck1),(14,.obj ck1),(17,.obj ck1),(18,.obj ck1),(25,.obj ck69),(26,.obj ck1)])],fun j x => l153_8 k j x.1 x.2.1 x.2.2.1 x.2.2.2.1 x.2.2.2.2.1 x.2.2.2.2.2.1 x.2.2.2.2.2.2.1 x.2.2.2.2.2.2.2.1 x.2.2.2.2.2.2.2.2.1 x.2.2.2.2.2.2.2.2.2.1 x.2.2.2.2.2.2.2.2.2.2.1 x.2.2.2.2.2.2.2.2.2.2.2.1 x.2.2.2.2.2.2.2.2.2.2.2.2.1⟩
noncomputable def l153_5 (k : Nat) : Nat → Int → Int → (ByteArray×Int×Int×(List (Int×Int×Int×(List (Int×Int×Int×Int×Unit))×Unit))×(List Int)×Bool×Bool×(List (Int×Int×Int×Bool×Unit))×Int×Int×Int×Unit) → ((List Int)×((List Int)×(List Int)×Unit)×Int×Int×Unit) → Int → Int → Int → ((Int×Int×Unit)×(Int×Int×Unit)×(Int×Int×Unit)×(Int×Int×Unit)×Unit) → Int → Option ((Int×Int×(ByteArray×Int×Int×(List (Int×Int×Int×(List (Int×Int×Int×Int×Unit))×Unit))×(List Int)×Bool×Bool×(List (Int×Int×Int×Bool×Unit))×Int×Int×Int×Unit)×((List Int)×((List Int)×(List Int)×Unit)×Int×Int×Unit)×Int×Int×Unit) ⊕ (Bool×Unit))
 | 0,_,_,_,_,_,_,_,_,_ => none
 | j + 1,s2,s3,s4,s5,s9,s17,s18,s25,s26 =>
  bif decide (s26 < 4) then
  bif s26 == 0 then
  bif decide (s4.2.1 = 0) then
  none
  else
  bif decide (s4.2.1 = 0) then
  none
  else
  (l153_8 k k s2 s3 s4 s5 s9 s25.1 (s9.tmod s4.2.1) (w64 (s9.tdiv s4.2.1)) 0 s17 s18 s25 s26).bind fun o1 =>
  bif o1.2.2.2.2.2.1 == o1.2.1 then
  some (.inr (true,()))
  else
  l153_5 k j o1.1 o1.2.1 o1.2.2.1 o1.2.2.2.1 o1.2.2.2.2.1 o1.2.2.2.2.2.2.1 o1.2.2.2.2.2.2.2.1 o1.2.2.2.2.2.2.2.2.1 (w64 (o1.2.2.2.2.2.2.2.2.2.1 + 1))
  else
  bif s26 == 1 then
  bif decide (s4.2.1 = 0) then
  none
  else
  bif decide (s4.2.1 = 0) then
  none
  else
  (l153_8 k k s2 s3 s4 s5 s9 s25.2.1 (s9.tmod s4.2.1) (w64 (s9.tdiv s4.2.1)) 0 s17 s18 s25 s26).bind fun o2 =>
  bif o2.2.2.2.2.2.1 == o2.2.1 then
  some (.inr (true,()))
  else
  l153_5 k j o2.1 o2.2.1 o2.2.2.1 o2.2.2.2.1 o2.2.2.2.2.1 o2.2.2.2.2.2.2.1 o2.2.2.2.2.2.2.2.1 o2.2.2.2.2.2.2.2.2.1 (w64 (o2.2.2.2.2.2.2.2.2.2.1 + 1))
  else
  bif s26 == 2 then
  bif decide (s4.2.1 = 0) then
  none
  else
  bif decide (s4.2.1 = 0) then
  none
  else
  (l153_8 k k s2 s3 s4 s5 s9 s25.2.2.1 (s9.tmod s4.2.1) (w64 (s9.tdiv s4.2.1)) 0 s17 s18 s25 s26).bind fun o3 =>
  bif o3.2.2.2.2.2.1 == o3.2.1 then
  some (.inr (true,()))
  else
  l153_5 k j o3.1 o3.2.1 o3.2.2.1 o3.2.2.2.1 o3.2.2.2.2.1 o3.2.2.2.2.2.2.1 o3.2.2.2.2.2.2.2.1 o3.2.2.2.2.2.2.2.2.1 (w64 (o3.2.2.2.2.2.2.2.2.2.1 + 1))
  else
  bif s26 == 3 then
  bif decide (s4.2.1 = 0) then
  none
  else
  bif decide (s4.2.1 = 0) then
  none
  else
  (l153_8 k k s2 s3 s4 s5 s9 s25.2.2.2.1 (s9.tmod s4.2.1) (w64 (s9.tdiv s4.2.1)) 0 s17 s18 s25 s26).bind fun o4 =>
  bif o4.2.2.2.2.2.1 == o4.2.1 then
  some (.inr (true,()))
  else
  l153_5 k j o4.1 o4.2.1 o4.2.2.1 o4.2.2.2.1 o4.2.2.2.2.1 o4.2.2.2.2.2.2.1 o4.2.2.2.2.2.2.2.1 o4.2.2.2.2.2.2.2.2.1 (w64 (o4.2.2.2.2.2.2.2.2.2.1 + 1))
  else
  none
  else
  some (.inl (s2,s3,s4,s5,s17,s18,()))
noncomputable def l153_5_sig (k : Nat) : LoopSig := ⟨[(2,.obj ck1),(3,.obj ck1),(4,.obj ck75),(5,.obj ck53),(9,.obj ck1),(17,.obj ck1),(18,.obj ck1),(25,.obj ck69),(26,.obj ck1)],[(.exit 2,[(2,.obj ck1),(3,.obj ck1),(4,.obj ck75),(5,.obj ck53),(17,.obj ck1),(18,.obj ck1)]),(.ret,[(8,.obj (.val (.bool)))])],fun j x => l153_5 k j x.1 x.2.1 x.2.2.1 x.2.2.2.1 x.2.2.2.2.1 x.2.2.2.2.2.1 x.2.2.2.2.2.2.1 x.2.2.2.2.2.2.2.1 x.2.2.2.2.2.2.2.2.1⟩
noncomputable def l153_2 (k : Nat) : Nat → Int → Int → (ByteArray×Int×Int×(List (Int×Int×Int×(List (Int×Int×Int×Int×Unit))×Unit))×(List Int)×Bool×Bool×(List (Int×Int×Int×Bool×Unit))×Int×Int×Int×Unit) → ((List Int)×((List Int)×(List Int)×Unit)×Int×Int×Unit) → Int → Int → Option (Unit ⊕ (Bool×Unit))
 | 0,_,_,_,_,_,_ => none
 | j + 1,s2,s3,s4,s5,s17,s18 =>
  bif decide (s18 < s17) then
  (l153_5 k k s2 s3 s4 s5 s18 s17 s18 ((1,0,()),(0,1,()),(1,1,()),(1,(-1),()),()) 0).bind fun q11 =>
  Sum.elim
  (fun y1 =>
  l153_2 k j y1.1 y1.2.1 y1.2.2.1 y1.2.2.2.1 y1.2.2.2.2.1 (w64 (y1.2.2.2.2.2.1 + 1)))
  (fun y2 =>
  some (.inr y2))
  q11
  else
  some (.inl ())
noncomputable def l153_2_sig (k : Nat) : LoopSig := ⟨[(2,.obj ck1),(3,.obj ck1),(4,.obj ck75),(5,.obj ck53),(17,.obj ck1),(18,.obj ck1)],[(.exit 0,[]),(.ret,[(8,.obj (.val (.bool)))])],fun j x => l153_2 k j x.1 x.2.1 x.2.2.1 x.2.2.2.1 x.2.2.2.2.1 x.2.2.2.2.2.1⟩
noncomputable def f153 (k : Nat) (x0 : ByteArray×Int×Int×(List (Int×Int×Int×(List (Int×Int×Int×Int×Unit))×Unit))×(List Int)×Bool×Bool×(List (Int×Int×Int×Bool×Unit))×Int×Int×Int×Unit) (x1 : (List Int)×((List Int)×(List Int)×Unit)×Int×Int×Unit) (x2 : Int) (x3 : Int) : Option ((Bool×Unit)) :=
  (l153_2 k k x2 x3 x0 x1 (x1.1.length : Int) 0).bind fun q12 =>
  Sum.elim
  (fun y1 =>
  some (false,()))
  (fun y2 =>
  some y2)
  q12
noncomputable def f153_sig (k : Nat) : Sig := ⟨[.val ty73,.val ty49,.val (.int .i64),.val (.int .i64)],[],[[.val (.bool)]],fun x => f153 k x.1 x.2.1 x.2.2.1 x.2.2.2.1⟩
noncomputable def E_f153 (k : Nat) : Env := ⟨Tryz.prog,G0,scons 109 [f109_sig k] (snil),tcons 2 (l153_2_sig k) (tcons 5 (l153_5_sig k) (tcons 8 (l153_8_sig k) (tnil))),tnil,unil,k,qnil,false⟩
theorem l153_2_ok (k : Nat) : LoopOK (E_f153 k) ⟨Tryz.f153.ntmps,[],G0⟩ (nthC 0 (loopsIn (Tryz.f153.body.getD .skip))) :=
  loop_ok (ls := l153_2_sig k) (by kernel_rfl) (fun _ => by kernel_rfl) (fun j x => by kernel_rfl)
theorem l153_5_ok (k : Nat) : LoopOK (E_f153 k) ⟨Tryz.f153.ntmps,[],G0⟩ (nthC 1 (loopsIn (Tryz.f153.body.getD .skip))) :=
  loop_ok (ls := l153_5_sig k) (by kernel_rfl) (fun _ => by kernel_rfl) (fun j x => by kernel_rfl)
theorem l153_8_ok (k : Nat) : LoopOK (E_f153 k) ⟨Tryz.f153.ntmps,[],G0⟩ (nthC 2 (loopsIn (Tryz.f153.body.getD .skip))) :=
  loop_ok (ls := l153_8_sig k) (by kernel_rfl) (fun _ => by kernel_rfl) (fun j x => by kernel_rfl)
theorem f153_run (k : Nat) (x : (lTy (lay 0 (f153_sig k).ins)).den) : runF (E_f153 k) Tryz.f153 (f153_sig k) x = (f153_sig k).F x := by kernel_rfl
theorem f153_ok [Dr] (k : Nat) : FnOK Tryz.prog G0 153 (f153_sig k) :=
  fn_ok2 (E := E_f153 k) (env_cons (one_sig (f109_ok k)) (env_nil)) (qenv_nil) mixed Tryz.func153 Tryz.call153 (by kernel_rfl) (by kernel_rfl) (m := 3) (by kernel_rfl) ⟨⟨⟨trivial,l153_2_ok k⟩,l153_5_ok k⟩,l153_8_ok k⟩ (sk := []) (by kernel_rfl) trivial (f153_run k)
noncomputable def f152 (k : Nat) (x0 : Int) (x1 : Int) : Option ((Int×Unit)) :=
  some (w64 ((w64 ((w64 (2 * x0)) + x1)) + 1),())
noncomputable def f152_sig (k : Nat) : Sig := ⟨[.val (.int .i64),.val (.int .i64)],[],[[.val (.int .i64)]],fun x => f152 k x.1 x.2.1⟩
noncomputable def E_f152 (k : Nat) : Env := ⟨Tryz.prog,G0,snil,tnil,tnil,unil,k,qnil,false⟩
theorem f152_run (k : Nat) (x : (lTy (lay 0 (f152_sig k).ins)).den) : runF (E_f152 k) Tryz.f152 (f152_sig k) x = (f152_sig k).F x := by kernel_rfl
theorem f152_ok [Dr] (k : Nat) : FnOK Tryz.prog G0 152 (f152_sig k) :=
  fn_ok2 (E := E_f152 k) (env_nil) (qenv_nil) mixed Tryz.func152 Tryz.call152 (by kernel_rfl) (by kernel_rfl) (m := 0) (by kernel_rfl) trivial (sk := []) (by kernel_rfl) trivial (f152_run k)
noncomputable def f154 (k : Nat) (x0 : ByteArray×Int×Int×(List (Int×Int×Int×(List (Int×Int×Int×Int×Unit))×Unit))×(List Int)×Bool×Bool×(List (Int×Int×Int×Bool×Unit))×Int×Int×Int×Unit) (x1 : Int) (x2 : Int) : Option ((Bool×Unit)) :=
  bif x1 == 0 then
  bif decide (x0.2.1 = 0) then
  none
  else
  some ((w64 (x2.tdiv x0.2.1)) == (w64 (x0.2.2.1 - 1)),())
  else
  bif decide (x0.2.1 = 0) then
  none
  else
  some ((w64 (x2.tdiv x0.2.1)) == 0,())
noncomputable def f154_sig (k : Nat) : Sig := ⟨[.val ty73,.val (.int .i64),.val (.int .i64)],[],[[.val (.bool)]],fun x => f154 k x.1 x.2.1 x.2.2.1⟩
noncomputable def E_f154 (k : Nat) : Env := ⟨Tryz.prog,G0,snil,tnil,tnil,unil,k,qnil,false⟩
theorem f154_run (k : Nat) (x : (lTy (lay 0 (f154_sig k).ins)).den) : runF (E_f154 k) Tryz.f154 (f154_sig k) x = (f154_sig k).F x := by kernel_rfl
theorem f154_ok [Dr] (k : Nat) : FnOK Tryz.prog G0 154 (f154_sig k) :=
  fn_ok2 (E := E_f154 k) (env_nil) (qenv_nil) mixed Tryz.func154 Tryz.call154 (by kernel_rfl) (by kernel_rfl) (m := 0) (by kernel_rfl) trivial (sk := []) (by kernel_rfl) trivial (f154_run k)
noncomputable def l128_7 (k : Nat) : Nat → (ByteArray×Int×Int×(List (Int×Int×Int×(List (Int×Int×Int×Int×Unit))×Unit))×(List Int)×Bool×Bool×(List (Int×Int×Int×Bool×Unit))×Int×Int×Int×Unit) → (Int×Int×Int×Bool×Unit) → Int → (List Int) → Int → Int → Option (Unit ⊕ (Bool×Unit))
 | 0,_,_,_,_,_,_ => none
 | j + 1,s3,s5,s7,s29,s30,s31 =>
  bif decide (s31 < s30) then
  bif decide (0 ≤ s31) && decide (s31 < (s29.length : Int)) then
  (f152 k s5.2.1 s7).bind fun r1 =>
  bif (rd (0 : Int) s29 s31) == r1.1 then
  (f154 k s3 s7 s31).bind fun r2 =>
  bif r2.1 then
  some (.inr (true,()))
  else
  l128_7 k j s3 s5 s7 s29 s30 (w64 (s31 + 1))
  else
  l128_7 k j s3 s5 s7 s29 s30 (w64 (s31 + 1))
  else
  none
  else
  some (.inl ())
noncomputable def l128_7_sig (k : Nat) : LoopSig := ⟨[(3,.obj ck75),(5,.obj ck35),(7,.obj ck1),(29,.obj ck6),(30,.obj ck1),(31,.obj ck1)],[(.exit 1,[]),(.ret,[(6,.obj (.val (.bool)))])],fun j x => l128_7 k j x.1 x.2.1 x.2.2.1 x.2.2.2.1 x.2.2.2.2.1 x.2.2.2.2.2.1⟩
noncomputable def l128_15 (k : Nat) : Nat → ((List Int)×((List Int)×(List Int)×Unit)×Int×Int×Unit) → (Int×Int×Int×Bool×Unit) → Int → (List Int) → Int → Int → Option (((Int×Int×Int×Bool×Unit)×Int×Unit))
 | 0,_,_,_,_,_,_ => none
 | j + 1,s4,s5,s10,s50,s51,s52 =>
  bif decide (s52 < s51) then
  bif decide (0 ≤ s52) && decide (s52 < (s50.length : Int)) then
  (f152 k s5.2.1 s4.2.2.1).bind fun r1 =>
  bif (rd (0 : Int) s50 s52) == r1.1 then
  l128_15 k j s4 s5 (w64 (s10 + 1)) s50 s51 (w64 (s52 + 1))
  else
  l128_15 k j s4 s5 s10 s50 s51 (w64 (s52 + 1))
  else
  none
  else
  some (s5,s10,())
noncomputable def l128_15_sig (k : Nat) : LoopSig := ⟨[(4,.obj ck53),(5,.obj ck35),(10,.obj ck1),(50,.obj ck6),(51,.obj ck1),(52,.obj ck1)],[(.exit 3,[(5,.obj ck35),(10,.obj ck1)])],fun j x => l128_15 k j x.1 x.2.1 x.2.2.1 x.2.2.2.1 x.2.2.2.2.1 x.2.2.2.2.2.1⟩
noncomputable def f128 (k : Nat) (x0 : ByteArray×Int×Int×(List (Int×Int×Int×(List (Int×Int×Int×Int×Unit))×Unit))×(List Int)×Bool×Bool×(List (Int×Int×Int×Bool×Unit))×Int×Int×Int×Unit) (x1 : (List Int)×((List Int)×(List Int)×Unit)×Int×Int×Unit) (x2 : Int×Int×Int×Bool×Unit) : Option ((Bool×Unit)) :=
  bif x2.1 == 0 then
  (f153 k x0 x1 (w64 (1 - x1.2.2.1)) x2.2.2.1).bind fun r1 =>
  some r1
  else
  bif x2.1 == 1 then
  (l128_7 k k x0 x2 (w64 (1 - x1.2.2.1)) x1.1 (x1.1.length : Int) 0).bind fun q13 =>
  Sum.elim
  (fun y2 =>
  some (false,()))
  (fun y3 =>
  some y3)
  q13
  else
  (l128_15 k k x1 x2 0 x1.1 (x1.1.length : Int) 0).bind fun o4 =>
  some (decide (o4.2.1 < o4.1.2.2.1),())
noncomputable def f128_sig (k : Nat) : Sig := ⟨[.val ty73,.val ty49,.val ty27],[],[[.val (.bool)]],fun x => f128 k x.1 x.2.1 x.2.2.1⟩
noncomputable def E_f128 (k : Nat) : Env := ⟨Tryz.prog,G0,scons 154 [f154_sig k] (scons 153 [f153_sig k] (scons 152 [f152_sig k] (snil))),tcons 15 (l128_15_sig k) (tcons 7 (l128_7_sig k) (tnil)),tnil,unil,k,qnil,false⟩
theorem l128_7_ok (k : Nat) : LoopOK (E_f128 k) ⟨Tryz.f128.ntmps,[],G0⟩ (nthC 0 (loopsIn (Tryz.f128.body.getD .skip))) :=
  loop_ok (ls := l128_7_sig k) (by kernel_rfl) (fun _ => by kernel_rfl) (fun j x => by kernel_rfl)
theorem l128_15_ok (k : Nat) : LoopOK (E_f128 k) ⟨Tryz.f128.ntmps,[],G0⟩ (nthC 1 (loopsIn (Tryz.f128.body.getD .skip))) :=
  loop_ok (ls := l128_15_sig k) (by kernel_rfl) (fun _ => by kernel_rfl) (fun j x => by kernel_rfl)
theorem f128_run (k : Nat) (x : (lTy (lay 0 (f128_sig k).ins)).den) : runF (E_f128 k) Tryz.f128 (f128_sig k) x = (f128_sig k).F x := by kernel_rfl
theorem f128_ok [Dr] (k : Nat) : FnOK Tryz.prog G0 128 (f128_sig k) :=
  fn_ok2 (E := E_f128 k) (env_cons (one_sig (f154_ok k)) (env_cons (one_sig (f153_ok k)) (env_cons (one_sig (f152_ok k)) (env_nil)))) (qenv_nil) mixed Tryz.func128 Tryz.call128 (by kernel_rfl) (by kernel_rfl) (m := 2) (by kernel_rfl) ⟨⟨trivial,l128_7_ok k⟩,l128_15_ok k⟩ (sk := []) (by kernel_rfl) trivial (f128_run k)
noncomputable def f129 (k : Nat) (x0 : Int) : Option ((Int×Unit)) :=
  some (w64 (1 + x0),())
noncomputable def f129_sig (k : Nat) : Sig := ⟨[.val (.int .i64)],[],[[.val (.int .i64)]],fun x => f129 k x.1⟩
noncomputable def E_f129 (k : Nat) : Env := ⟨Tryz.prog,G0,snil,tnil,tnil,unil,k,qnil,false⟩
theorem f129_run (k : Nat) (x : (lTy (lay 0 (f129_sig k).ins)).den) : runF (E_f129 k) Tryz.f129 (f129_sig k) x = (f129_sig k).F x := by kernel_rfl
theorem f129_ok [Dr] (k : Nat) : FnOK Tryz.prog G0 129 (f129_sig k) :=
  fn_ok2 (E := E_f129 k) (env_nil) (qenv_nil) mixed Tryz.func129 Tryz.call129 (by kernel_rfl) (by kernel_rfl) (m := 0) (by kernel_rfl) trivial (sk := []) (by kernel_rfl) trivial (f129_run k)
noncomputable def l108_5 (k : Nat) : Nat → (ByteArray×Int×Int×(List (Int×Int×Int×(List (Int×Int×Int×Int×Unit))×Unit))×(List Int)×Bool×Bool×(List (Int×Int×Int×Bool×Unit))×Int×Int×Int×Unit) → ((List Int)×((List Int)×(List Int)×Unit)×Int×Int×Unit) → Int → Option (Unit ⊕ (Bool×Unit))
 | 0,_,_,_ => none
 | j + 1,s3,s4,s7 =>
  bif decide (s7 ≥ 0) then
  bif decide (0 ≤ s7) && decide (s7 < (s4.1.length : Int)) then
  bif (rd (0 : Int) s4.1 s7) == 0 then
  some (.inr (false,()))
  else
  l108_5 k j s3 s4 (w64 (s7 - s3.2.1))
  else
  none
  else
  some (.inl ())
noncomputable def l108_5_sig (k : Nat) : LoopSig := ⟨[(3,.obj ck75),(4,.obj ck53),(7,.obj ck1)],[(.exit 0,[]),(.ret,[(6,.obj (.val (.bool)))])],fun j x => l108_5 k j x.1 x.2.1 x.2.2.1⟩
noncomputable def f108 (k : Nat) (x0 : ByteArray×Int×Int×(List (Int×Int×Int×(List (Int×Int×Int×Int×Unit))×Unit))×(List Int)×Bool×Bool×(List (Int×Int×Int×Bool×Unit))×Int×Int×Int×Unit) (x1 : (List Int)×((List Int)×(List Int)×Unit)×Int×Int×Unit) (x2 : Int) : Option ((Bool×Unit)) :=
  bif decide (0 ≤ x2) && decide (x2 < (x1.1.length : Int)) then
  bif (rd (0 : Int) x1.1 x2) != 0 then
  some (false,())
  else
  bif x0.2.2.2.2.2.1 then
  (l108_5 k k x0 x1 (w64 (x2 - x0.2.1))).bind fun q14 =>
  Sum.elim
  (fun y1 =>
  some (true,()))
  (fun y2 =>
  some y2)
  q14
  else
  some (true,())
  else
  none
noncomputable def f108_sig (k : Nat) : Sig := ⟨[.val ty73,.val ty49,.val (.int .i64)],[],[[.val (.bool)]],fun x => f108 k x.1 x.2.1 x.2.2.1⟩
noncomputable def E_f108 (k : Nat) : Env := ⟨Tryz.prog,G0,snil,tcons 5 (l108_5_sig k) (tnil),tnil,unil,k,qnil,false⟩
theorem l108_5_ok (k : Nat) : LoopOK (E_f108 k) ⟨Tryz.f108.ntmps,[],G0⟩ (nthC 0 (loopsIn (Tryz.f108.body.getD .skip))) :=
  loop_ok (ls := l108_5_sig k) (by kernel_rfl) (fun _ => by kernel_rfl) (fun j x => by kernel_rfl)
theorem f108_run (k : Nat) (x : (lTy (lay 0 (f108_sig k).ins)).den) : runF (E_f108 k) Tryz.f108 (f108_sig k) x = (f108_sig k).F x := by kernel_rfl
theorem f108_ok [Dr] (k : Nat) : FnOK Tryz.prog G0 108 (f108_sig k) :=
  fn_ok2 (E := E_f108 k) (env_nil) (qenv_nil) mixed Tryz.func108 Tryz.call108 (by kernel_rfl) (by kernel_rfl) (m := 1) (by kernel_rfl) ⟨trivial,l108_5_ok k⟩ (sk := []) (by kernel_rfl) trivial (f108_run k)
noncomputable def f110 (k : Nat) (x0 : Int) : Option ((Int×Unit)) :=
  some (w64 ((w64 (x0 - 1)).tdiv 2),())
noncomputable def f110_sig (k : Nat) : Sig := ⟨[.val (.int .i64)],[],[[.val (.int .i64)]],fun x => f110 k x.1⟩
noncomputable def E_f110 (k : Nat) : Env := ⟨Tryz.prog,G0,snil,tnil,tnil,unil,k,qnil,false⟩
theorem f110_run (k : Nat) (x : (lTy (lay 0 (f110_sig k).ins)).den) : runF (E_f110 k) Tryz.f110 (f110_sig k) x = (f110_sig k).F x := by kernel_rfl
theorem f110_ok [Dr] (k : Nat) : FnOK Tryz.prog G0 110 (f110_sig k) :=
  fn_ok2 (E := E_f110 k) (env_nil) (qenv_nil) mixed Tryz.func110 Tryz.call110 (by kernel_rfl) (by kernel_rfl) (m := 0) (by kernel_rfl) trivial (sk := []) (by kernel_rfl) trivial (f110_run k)
noncomputable def f143 (k : Nat) (x0 : ByteArray×Int×Int×(List (Int×Int×Int×(List (Int×Int×Int×Int×Unit))×Unit))×(List Int)×Bool×Bool×(List (Int×Int×Int×Bool×Unit))×Int×Int×Int×Unit) (x1 : Int) (x2 : Int) (x3 : Int) : Option ((Int×Unit)) :=
  bif decide (0 ≤ x2) && decide (x2 < (x0.2.2.2.1.length : Int)) then
  bif decide ((rd ((0,0,0,[],()) : Int×Int×Int×(List (Int×Int×Int×Int×Unit))×Unit) x0.2.2.2.1 x2).2.2.1 > 0) then
  (f154 k x0 x1 x3).bind fun r1 =>
  bif r1.1 then
  some (w64 ((rd ((0,0,0,[],()) : Int×Int×Int×(List (Int×Int×Int×Int×Unit))×Unit) x0.2.2.2.1 x2).2.2.1 - 1),())
  else
  some (x2,())
  else
  some (x2,())
  else
  none
noncomputable def f143_sig (k : Nat) : Sig := ⟨[.val ty73,.val (.int .i64),.val (.int .i64),.val (.int .i64)],[],[[.val (.int .i64)]],fun x => f143 k x.1 x.2.1 x.2.2.1 x.2.2.2.1⟩
noncomputable def E_f143 (k : Nat) : Env := ⟨Tryz.prog,G0,scons 154 [f154_sig k] (snil),tnil,tnil,unil,k,qnil,false⟩
theorem f143_run (k : Nat) (x : (lTy (lay 0 (f143_sig k).ins)).den) : runF (E_f143 k) Tryz.f143 (f143_sig k) x = (f143_sig k).F x := by kernel_rfl
theorem f143_ok [Dr] (k : Nat) : FnOK Tryz.prog G0 143 (f143_sig k) :=
  fn_ok2 (E := E_f143 k) (env_cons (one_sig (f154_ok k)) (env_nil)) (qenv_nil) mixed Tryz.func143 Tryz.call143 (by kernel_rfl) (by kernel_rfl) (m := 0) (by kernel_rfl) trivial (sk := []) (by kernel_rfl) trivial (f143_run k)
noncomputable def l111_7 (k : Nat) : Nat → (List (Int×Int×Int×Unit)) → Int → (ByteArray×Int×Int×(List (Int×Int×Int×(List (Int×Int×Int×Int×Unit))×Unit))×(List Int)×Bool×Bool×(List (Int×Int×Int×Bool×Unit))×Int×Int×Int×Unit) → ((List Int)×((List Int)×(List Int)×Unit)×Int×Int×Unit) → (Int×Int×Int×Int×Unit) → Int → Int → Int → Int → Int → Int → Option (((List (Int×Int×Int×Unit))×Unit) ⊕ ((List (Int×Int×Int×Unit))×Unit×Unit))
 | 0,_,_,_,_,_,_,_,_,_,_,_ => none
 | j + 1,s0,s3,s6,s7,s9,s11,s12,s13,s14,s39,s40 =>
  bif decide (s40 < s39) then
  bif decide ((w64 (s13 + s9.1)) < 0) then
  some (.inr (s0,(),()))
  else
  bif decide ((w64 (s13 + s9.1)) ≥ s6.2.1) then
  some (.inr (s0,(),()))
  else
  bif decide ((w64 (s14 + s12)) < 0) then
  some (.inr (s0,(),()))
  else
  bif decide ((w64 (s14 + s12)) ≥ s6.2.2.1) then
  some (.inr (s0,(),()))
  else
  bif decide (0 ≤ (w64 ((w64 ((w64 (s14 + s12)) * s6.2.1)) + (w64 (s13 + s9.1))))) && decide ((w64 ((w64 ((w64 (s14 + s12)) * s6.2.1)) + (w64 (s13 + s9.1)))) < (s7.1.length : Int)) then
  (f109 k (rd (0 : Int) s7.1 (w64 ((w64 ((w64 (s14 + s12)) * s6.2.1)) + (w64 (s13 + s9.1)))))).bind fun r1 =>
  bif decide (r1.1 < 0) then
  bif s9.2.2.2.1 != 2 then
  (f143 k s6 s7.2.2.1 s11 (w64 ((w64 ((w64 (s14 + s12)) * s6.2.1)) + (w64 (s13 + s9.1))))).bind fun r2 =>
  bif decide ((s0.length + ([(s3,w64 ((w64 ((w64 (s14 + s12)) * s6.2.1)) + (w64 (s13 + s9.1))),r2)] : List (Int×Int×Int×Unit)).length) * 24 ≤ roomN) then
  bif decide (r1.1 ≥ 0) then
  some (.inr (s0 ++ [(s3,w64 ((w64 ((w64 (s14 + s12)) * s6.2.1)) + (w64 (s13 + s9.1))),r2)],(),()))
  else
  l111_7 k j (s0 ++ [(s3,w64 ((w64 ((w64 (s14 + s12)) * s6.2.1)) + (w64 (s13 + s9.1))),r2)]) s3 s6 s7 s9 s11 s12 (w64 (s13 + s9.1)) (w64 (s14 + s12)) s39 (w64 (s40 + 1))
  else
  none
  else
  bif r1.1 == (w64 (1 - s7.2.2.1)) then
  bif s9.2.2.2.1 != 0 then
  (f143 k s6 s7.2.2.1 s11 (w64 ((w64 ((w64 (s14 + s12)) * s6.2.1)) + (w64 (s13 + s9.1))))).bind fun r3 =>
  bif decide ((s0.length + ([(s3,w64 ((w64 ((w64 (s14 + s12)) * s6.2.1)) + (w64 (s13 + s9.1))),r3)] : List (Int×Int×Int×Unit)).length) * 24 ≤ roomN) then
  bif decide (r1.1 ≥ 0) then
  some (.inr (s0 ++ [(s3,w64 ((w64 ((w64 (s14 + s12)) * s6.2.1)) + (w64 (s13 + s9.1))),r3)],(),()))
  else
  l111_7 k j (s0 ++ [(s3,w64 ((w64 ((w64 (s14 + s12)) * s6.2.1)) + (w64 (s13 + s9.1))),r3)]) s3 s6 s7 s9 s11 s12 (w64 (s13 + s9.1)) (w64 (s14 + s12)) s39 (w64 (s40 + 1))
  else
  none
  else
  bif decide (r1.1 ≥ 0) then
  some (.inr (s0,(),()))
  else
  l111_7 k j s0 s3 s6 s7 s9 s11 s12 (w64 (s13 + s9.1)) (w64 (s14 + s12)) s39 (w64 (s40 + 1))
  else
  bif decide (r1.1 ≥ 0) then
  some (.inr (s0,(),()))
  else
  l111_7 k j s0 s3 s6 s7 s9 s11 s12 (w64 (s13 + s9.1)) (w64 (s14 + s12)) s39 (w64 (s40 + 1))
  else
  bif r1.1 == (w64 (1 - s7.2.2.1)) then
  bif s9.2.2.2.1 != 0 then
  (f143 k s6 s7.2.2.1 s11 (w64 ((w64 ((w64 (s14 + s12)) * s6.2.1)) + (w64 (s13 + s9.1))))).bind fun r4 =>
  bif decide ((s0.length + ([(s3,w64 ((w64 ((w64 (s14 + s12)) * s6.2.1)) + (w64 (s13 + s9.1))),r4)] : List (Int×Int×Int×Unit)).length) * 24 ≤ roomN) then
  bif decide (r1.1 ≥ 0) then
  some (.inr (s0 ++ [(s3,w64 ((w64 ((w64 (s14 + s12)) * s6.2.1)) + (w64 (s13 + s9.1))),r4)],(),()))
  else
  l111_7 k j (s0 ++ [(s3,w64 ((w64 ((w64 (s14 + s12)) * s6.2.1)) + (w64 (s13 + s9.1))),r4)]) s3 s6 s7 s9 s11 s12 (w64 (s13 + s9.1)) (w64 (s14 + s12)) s39 (w64 (s40 + 1))
  else
  none
  else
  bif decide (r1.1 ≥ 0) then
  some (.inr (s0,(),()))
  else
  l111_7 k j s0 s3 s6 s7 s9 s11 s12 (w64 (s13 + s9.1)) (w64 (s14 + s12)) s39 (w64 (s40 + 1))
  else
  bif decide (r1.1 ≥ 0) then
  some (.inr (s0,(),()))
  else
  l111_7 k j s0 s3 s6 s7 s9 s11 s12 (w64 (s13 + s9.1)) (w64 (s14 + s12)) s39 (w64 (s40 + 1))
  else
  none
  else
  some (.inl (s0,()))
noncomputable def l111_7_sig (k : Nat) : LoopSig := ⟨[(0,.obj ck25),(3,.obj ck1),(6,.obj ck75),(7,.obj ck53),(9,.obj (.box 147 (.val ty29))),(11,.obj ck1),(12,.obj ck1),(13,.obj ck1),(14,.obj ck1),(39,.obj ck1),(40,.obj ck1)],[(.exit 0,[(0,.obj ck25)]),(.ret,[(0,.obj ck25),(10,.same 0)])],fun j x => l111_7 k j x.1 x.2.1 x.2.2.1 x.2.2.2.1 x.2.2.2.2.1 x.2.2.2.2.2.1 x.2.2.2.2.2.2.1 x.2.2.2.2.2.2.2.1 x.2.2.2.2.2.2.2.2.1 x.2.2.2.2.2.2.2.2.2.1 x.2.2.2.2.2.2.2.2.2.2.1⟩
noncomputable def f111 (k : Nat) (x0 : List (Int×Int×Int×Unit)) (x1 : ByteArray×Int×Int×(List (Int×Int×Int×(List (Int×Int×Int×Int×Unit))×Unit))×(List Int)×Bool×Bool×(List (Int×Int×Int×Bool×Unit))×Int×Int×Int×Unit) (x2 : (List Int)×((List Int)×(List Int)×Unit)×Int×Int×Unit) (x3 : Int) (x4 : Int×Int×Int×Int×Unit) : Option (((List (Int×Int×Int×Unit))×Unit)) :=
  bif decide (0 ≤ x3) && decide (x3 < (x2.1.length : Int)) then
  (f110 k (rd (0 : Int) x2.1 x3)).bind fun r1 =>
  bif x2.2.2.1 == 1 then
  bif decide (x1.2.1 = 0) then
  none
  else
  bif decide (x1.2.1 = 0) then
  none
  else
  (l111_7 k k x0 x3 x1 x2 x4 r1.1 (w64 (0 - x4.2.1)) (x3.tmod x1.2.1) (w64 (x3.tdiv x1.2.1)) x4.2.2.1 0).bind fun q15 =>
  Sum.elim
  (fun y2 =>
  some y2)
  (fun y3 =>
  some (y3.1,()))
  q15
  else
  bif decide (x1.2.1 = 0) then
  none
  else
  bif decide (x1.2.1 = 0) then
  none
  else
  (l111_7 k k x0 x3 x1 x2 x4 r1.1 x4.2.1 (x3.tmod x1.2.1) (w64 (x3.tdiv x1.2.1)) x4.2.2.1 0).bind fun q16 =>
  Sum.elim
  (fun y4 =>
  some y4)
  (fun y5 =>
  some (y5.1,()))
  q16
  else
  none
noncomputable def f111_sig (k : Nat) : Sig := ⟨[.row ty23,.val ty73,.val ty49,.val (.int .i64),.val ty29],[],[[.row ty23]],fun x => f111 k x.1 x.2.1 x.2.2.1 x.2.2.2.1 x.2.2.2.2.1⟩
noncomputable def E_f111 (k : Nat) : Env := ⟨Tryz.prog,G0,scons 143 [f143_sig k] (scons 110 [f110_sig k] (scons 109 [f109_sig k] (snil))),tcons 7 (l111_7_sig k) (tnil),tnil,unil,k,qnil,false⟩
theorem l111_7_ok (k : Nat) : LoopOK (E_f111 k) ⟨Tryz.f111.ntmps,[],G0⟩ (nthC 0 (loopsIn (Tryz.f111.body.getD .skip))) :=
  loop_ok (ls := l111_7_sig k) (by kernel_rfl) (fun _ => by kernel_rfl) (fun j x => by kernel_rfl)
theorem f111_run (k : Nat) (x : (lTy (lay 0 (f111_sig k).ins)).den) : runF (E_f111 k) Tryz.f111 (f111_sig k) x = (f111_sig k).F x := by kernel_rfl
theorem f111_ok [Dr] (k : Nat) : FnOK Tryz.prog G0 111 (f111_sig k) :=
  fn_ok2 (E := E_f111 k) (env_cons (one_sig (f143_ok k)) (env_cons (one_sig (f110_ok k)) (env_cons (one_sig (f109_ok k)) (env_nil)))) (qenv_nil) mixed Tryz.func111 Tryz.call111 (by kernel_rfl) (by kernel_rfl) (m := 1) (by kernel_rfl) ⟨trivial,l111_7_ok k⟩ (sk := []) (by kernel_rfl) trivial (f111_run k)
noncomputable def f182 (k : Nat) (x0 : Int) : Option ((Bool×Unit)) :=
  some (x0 != x0,())
noncomputable def f182_sig (k : Nat) : Sig := ⟨[.val (.int .i64)],[],[[.val (.bool)]],fun x => f182 k x.1⟩
noncomputable def E_f182 (k : Nat) : Env := ⟨Tryz.prog,G0,snil,tnil,tnil,unil,k,qnil,false⟩
theorem f182_run (k : Nat) (x : (lTy (lay 0 (f182_sig k).ins)).den) : runF (E_f182 k) Tryz.f182 (f182_sig k) x = (f182_sig k).F x := by kernel_rfl
theorem f182_ok [Dr] (k : Nat) : FnOK Tryz.prog G0 182 (f182_sig k) :=
  fn_ok2 (E := E_f182 k) (env_nil) (qenv_nil) mixed Tryz.func182 Tryz.call182 (by kernel_rfl) (by kernel_rfl) (m := 0) (by kernel_rfl) trivial (sk := []) (by kernel_rfl) trivial (f182_run k)
noncomputable def f147 (k : Nat) (x0 : Int) (x1 : Int) : Option ((Int×Unit)) :=
  (f182 k x0).bind fun r1 =>
  (f182 k x1).bind fun r2 =>
  bif r1.1 then
  bif r2.1 then
  some (0,())
  else
  some ((-1),())
  else
  bif r2.1 then
  some (1,())
  else
  bif decide (x0 < x1) then
  some ((-1),())
  else
  bif decide (x0 > x1) then
  some (1,())
  else
  some (0,())
noncomputable def f147_sig (k : Nat) : Sig := ⟨[.val (.int .i64),.val (.int .i64)],[],[[.val (.int .i64)]],fun x => f147 k x.1 x.2.1⟩
noncomputable def E_f147 (k : Nat) : Env := ⟨Tryz.prog,G0,scons 182 [f182_sig k] (snil),tnil,tnil,unil,k,qnil,false⟩
theorem f147_run (k : Nat) (x : (lTy (lay 0 (f147_sig k).ins)).den) : runF (E_f147 k) Tryz.f147 (f147_sig k) x = (f147_sig k).F x := by kernel_rfl
theorem f147_ok [Dr] (k : Nat) : FnOK Tryz.prog G0 147 (f147_sig k) :=
  fn_ok2 (E := E_f147 k) (env_cons (one_sig (f182_ok k)) (env_nil)) (qenv_nil) mixed Tryz.func147 Tryz.call147 (by kernel_rfl) (by kernel_rfl) (m := 0) (by kernel_rfl) trivial (sk := []) (by kernel_rfl) trivial (f147_run k)
noncomputable def l146_3 (k : Nat) : Nat → Int → (List Int) → Int → Int → Option ((Int×Unit) ⊕ (Int×Unit))
 | 0,_,_,_,_ => none
 | j + 1,s3,s6,s7,s8 =>
  bif decide (s8 < s7) then
  bif decide (0 ≤ s8) && decide (s8 < (s6.length : Int)) then
  bif (rd (0 : Int) s6 s8) != s3 then
  some (.inr (rd (0 : Int) s6 s8,()))
  else
  l146_3 k j s3 s6 s7 (w64 (s8 + 1))
  else
  none
  else
  some (.inl (s3,()))
noncomputable def l146_3_sig (k : Nat) : LoopSig := ⟨[(3,.obj ck1),(6,.obj ck6),(7,.obj ck1),(8,.obj ck1)],[(.exit 0,[(3,.obj ck1)]),(.ret,[(2,.obj ck1)])],fun j x => l146_3 k j x.1 x.2.1 x.2.2.1 x.2.2.2.1⟩
noncomputable def f146 (k : Nat) (x0 : List Int) : Option ((Int×Unit)) :=
  (l146_3 k k 0 x0 (x0.length : Int) 0).bind fun q17 =>
  Sum.elim
  (fun y1 =>
  some y1)
  (fun y2 =>
  some y2)
  q17
noncomputable def f146_sig (k : Nat) : Sig := ⟨[.val ty0],[],[[.val (.int .i64)]],fun x => f146 k x.1⟩
noncomputable def E_f146 (k : Nat) : Env := ⟨Tryz.prog,G0,snil,tcons 3 (l146_3_sig k) (tnil),tnil,unil,k,qnil,false⟩
theorem l146_3_ok (k : Nat) : LoopOK (E_f146 k) ⟨Tryz.f146.ntmps,[],G0⟩ (nthC 0 (loopsIn (Tryz.f146.body.getD .skip))) :=
  loop_ok (ls := l146_3_sig k) (by kernel_rfl) (fun _ => by kernel_rfl) (fun j x => by kernel_rfl)
theorem f146_run (k : Nat) (x : (lTy (lay 0 (f146_sig k).ins)).den) : runF (E_f146 k) Tryz.f146 (f146_sig k) x = (f146_sig k).F x := by kernel_rfl
theorem f146_ok [Dr] (k : Nat) : FnOK Tryz.prog G0 146 (f146_sig k) :=
  fn_ok2 (E := E_f146 k) (env_nil) (qenv_nil) mixed Tryz.func146 Tryz.call146 (by kernel_rfl) (by kernel_rfl) (m := 1) (by kernel_rfl) ⟨trivial,l146_3_ok k⟩ (sk := []) (by kernel_rfl) trivial (f146_run k)
noncomputable def f113 (k : Nat) (x0 : Int×Int×Int×Unit) (x1 : Int×Int×Int×Unit) : Option ((Int×Unit)) :=
  (f147 k x0.1 x1.1).bind fun r1 =>
  (f147 k x0.2.1 x1.2.1).bind fun r2 =>
  (f147 k x0.2.2.1 x1.2.2.1).bind fun r3 =>
  (f146 k [r1.1,r2.1,r3.1]).bind fun r4 =>
  some r4
noncomputable def f113_sig (k : Nat) : Sig := ⟨[.val ty23,.val ty23],[],[[.val (.int .i64)]],fun x => f113 k x.1 x.2.1⟩
noncomputable def E_f113 (k : Nat) : Env := ⟨Tryz.prog,G0,scons 147 [f147_sig k] (scons 146 [f146_sig k] (snil)),tnil,tnil,unil,k,qnil,false⟩
theorem f113_run (k : Nat) (x : (lTy (lay 0 (f113_sig k).ins)).den) : runF (E_f113 k) Tryz.f113 (f113_sig k) x = (f113_sig k).F x := by kernel_rfl
theorem f113_ok [Dr] (k : Nat) : FnOK Tryz.prog G0 113 (f113_sig k) :=
  fn_ok2 (E := E_f113 k) (env_cons (one_sig (f147_ok k)) (env_cons (one_sig (f146_ok k)) (env_nil))) (qenv_nil) mixed Tryz.func113 Tryz.call113 (by kernel_rfl) (by kernel_rfl) (m := 0) (by kernel_rfl) trivial (sk := []) (by kernel_rfl) trivial (f113_run k)
open Go.Shelf in
def sortMv_ren : Go.Shelf.Ren := ⟨fun | 6 => 112 | 15 => 145 | 14 => 144 | 28 => 180 | 29 => 181 | 20 => 172 | 21 => 173 | 22 => 174 | 23 => 175 | 24 => 176 | 25 => 177 | 26 => 178 | 27 => 179 | 46 => 200 | 47 => 201 | 48 => 202 | 49 => 203 | 50 => 204 | 57 => 214 | n => n,fun | 22 => 41 | 24 => 38 | 25 => 196 | 3 => 3 | 39 => 223 | 0 => 0 | 53 => 257 | 55 => 100 | 4 => 4 | 46 => 250 | 45 => 249 | 50 => 254 | 5 => 5 | 9 => 9 | 66 => 276 | 70 => 280 | 76 => 286 | 77 => 287 | n => n,fun | n => n⟩
open Go.Shelf in
theorem sortMv : Go.Proofs.SlLaysF0.n6 Tryz.prog sortMv_ren := {
  mixed := by kernel_rfl
  f6 := ⟨Tryz.f112.name,by decide,Tryz.func112.trans (congrArg some (by kernel_rfl))⟩
  f14 := ⟨Tryz.f144.name,by decide,Tryz.func144.trans (congrArg some (by kernel_rfl))⟩
  f15 := Tryz.func145.trans (congrArg some (by kernel_rfl))
  f20 := ⟨Tryz.f172.name,by decide,Tryz.func172.trans (congrArg some (by kernel_rfl))⟩
  f21 := ⟨Tryz.f173.name,by decide,Tryz.func173.trans (congrArg some (by kernel_rfl))⟩
  f22 := ⟨Tryz.f174.name,by decide,Tryz.func174.trans (congrArg some (by kernel_rfl))⟩
  f23 := ⟨Tryz.f175.name,by decide,Tryz.func175.trans (congrArg some (by kernel_rfl))⟩
  f24 := ⟨Tryz.f176.name,by decide,Tryz.func176.trans (congrArg some (by kernel_rfl))⟩
  f25 := ⟨Tryz.f177.name,by decide,Tryz.func177.trans (congrArg some (by kernel_rfl))⟩
  f26 := ⟨Tryz.f178.name,by decide,Tryz.func178.trans (congrArg some (by kernel_rfl))⟩
  f27 := ⟨Tryz.f179.name,by decide,Tryz.func179.trans (congrArg some (by kernel_rfl))⟩
  f28 := Tryz.func180.trans (congrArg some (by kernel_rfl))
  f29 := Tryz.func181.trans (congrArg some (by kernel_rfl))
  f46 := ⟨Tryz.f200.name,by decide,Tryz.func200.trans (congrArg some (by kernel_rfl))⟩
  f47 := Tryz.func201.trans (congrArg some (by kernel_rfl))
  f48 := Tryz.func202.trans (congrArg some (by kernel_rfl))
  f49 := ⟨Tryz.f203.name,by decide,Tryz.func203.trans (congrArg some (by kernel_rfl))⟩
  f50 := ⟨Tryz.f204.name,by decide,Tryz.func204.trans (congrArg some (by kernel_rfl))⟩
  f57 := ⟨Tryz.f214.name,by decide,Tryz.func214.trans (congrArg some (by kernel_rfl))⟩
  t0 := Tryz.underlying0
  a0 := Tryz.isAgg0
  z0 := Tryz.sizeOf0
  v0 := Tryz.zeroValue0
  t3 := Tryz.underlying3
  a3 := Tryz.isAgg3
  z3 := Tryz.sizeOf3
  v3 := Tryz.zeroValue3
  t4 := Tryz.underlying4
  a4 := Tryz.isAgg4
  z4 := Tryz.sizeOf4
  v4 := Tryz.zeroValue4
  t5 := Tryz.underlying5
  a5 := Tryz.isAgg5
  z5 := Tryz.sizeOf5
  v5 := Tryz.zeroValue5
  t9 := Tryz.underlying9
  a9 := Tryz.isAgg9
  z9 := Tryz.sizeOf9
  v9 := Tryz.zeroValue9
  t22 := Tryz.underlying41
  a22 := Tryz.isAgg41
  z22 := Tryz.sizeOf41
  v22 := Tryz.zeroValue41
  t25 := Tryz.underlying196
  a25 := Tryz.isAgg196
  z25 := Tryz.sizeOf196
  v25 := Tryz.zeroValue196
  t39 := Tryz.underlying223
  a39 := Tryz.isAgg223
  z39 := Tryz.sizeOf223
  v39 := Tryz.zeroValue223
  t45 := Tryz.underlying249
  a45 := Tryz.isAgg249
  z45 := Tryz.sizeOf249
  v45 := Tryz.zeroValue249
  t46 := Tryz.underlying250
  a46 := Tryz.isAgg250
  z46 := Tryz.sizeOf250
  v46 := Tryz.zeroValue250
  t50 := Tryz.underlying254
  a50 := Tryz.isAgg254
  z50 := Tryz.sizeOf254
  v50 := Tryz.zeroValue254
  t53 := Tryz.underlying257
  a53 := Tryz.isAgg257
  z53 := Tryz.sizeOf257
  v53 := Tryz.zeroValue257
  t55 := Tryz.underlying100
  a55 := Tryz.isAgg100
  z55 := Tryz.sizeOf100
  v55 := Tryz.zeroValue100
  t66 := Tryz.underlying276
  a66 := Tryz.isAgg276
  z66 := Tryz.sizeOf276
  v66 := Tryz.zeroValue276
  t70 := Tryz.underlying280
  a70 := Tryz.isAgg280
  z70 := Tryz.sizeOf280
  v70 := Tryz.zeroValue280
  t76 := Tryz.underlying286
  a76 := Tryz.isAgg286
  z76 := Tryz.sizeOf286
  v76 := Tryz.zeroValue286
  t77 := Tryz.underlying287
  a77 := Tryz.isAgg287
  z77 := Tryz.sizeOf287
  v77 := Tryz.zeroValue287 }
def cmpI (a b : Int) : Int := bif decide (a < b) then -1 else bif decide (b < a) then 1 else 0
theorem cmpI_eq (k : Nat) (a b : Int) : f147 k a b = some (cmpI a b,()) := by
  have h0 : f182 k a = some (false,()) := by simp [f182]
  have h1 : f182 k b = some (false,()) := by simp [f182]
  unfold f147 cmpI
  rw [h0,h1]
  by_cases h : a < b <;> by_cases h' : b < a <;> simp [h,h']
def cmpM (x y : Int×Int×Int×Unit) : Int := bif cmpI x.1 y.1 != 0 then cmpI x.1 y.1 else bif cmpI x.2.1 y.2.1 != 0 then cmpI x.2.1 y.2.1 else cmpI x.2.2.1 y.2.2.1
theorem cmpOr_eq (k : Nat) (a b c : Int) : f146 (k + 5) [a,b,c] = some (bif a != 0 then a else bif b != 0 then b else c,()) := by
  unfold f146
  have e0 : ∀ a b c : Int,rd (0 : Int) [a,b,c] 0 = a := fun _ _ _ => rfl
  have e1 : ∀ a b c : Int,rd (0 : Int) [a,b,c] 1 = b := fun _ _ _ => rfl
  have e2 : ∀ a b c : Int,rd (0 : Int) [a,b,c] 2 = c := fun _ _ _ => rfl
  have w1 : w64 1 = 1 := by decide
  have w2 : w64 2 = 2 := by decide
  have w3 : w64 3 = 3 := by decide
  cases ha : (a != 0) <;> cases hb : (b != 0) <;> cases hc : (c != 0) <;> simp [l146_3,ha,hb,hc,e0,e1,e2,w1,w2,w3]
  have := bne_eq_false_iff_eq.1 hc
  exact this.symm
theorem cmpM_eq (k : Nat) (x y : Int×Int×Int×Unit) : f113 (k + 5) x y = some (cmpM x y,()) := by
  unfold f113 cmpM
  simp only [cmpI_eq,Option.bind_some,cmpOr_eq]
theorem cmpM_lt (x y : Int×Int×Int×Unit) : cmpM x y < 0 ↔ x.1 < y.1 ∨ x.1 = y.1 ∧ (x.2.1 < y.2.1 ∨ x.2.1 = y.2.1 ∧ x.2.2.1 < y.2.2.1) := by
  have e : ∀ a b : Int,cmpI a b = if a < b then -1 else if b < a then 1 else 0 := fun a b => by
    unfold cmpI; by_cases h : a < b <;> by_cases h' : b < a <;> simp [h,h']
  unfold cmpM
  simp only [e]
  obtain ⟨a,b,c,_⟩ := x; obtain ⟨a',b',c',_⟩ := y
  simp only
  rcases Int.lt_trichotomy a a' with h | h | h
  · simp [h]
  · subst h
    rcases Int.lt_trichotomy b b' with h | h | h
    · simp [h]
    · subst h
      rcases Int.lt_trichotomy c c' with h | h | h
      · simp [h]
      · subst h; simp
      · have h2 : ¬ c < c' := by omega
        simp [h,h2]
    · have h2 : ¬ b < b' := by omega
      have h3 : ¬ b = b' := by omega
      simp [h,h2,h3]
  · have h2 : ¬ a < a' := by omega
    have h3 : ¬ a = a' := by omega
    simp [h,h2,h3]
def mvLt (x y : Int×Int×Int×Unit) : Bool := decide (cmpM x y < 0)
noncomputable def f112 (k : Nat) (x0 : List (Int×Int×Int×Unit)) : Option (List (Int×Int×Int×Unit)×Unit) :=
  bif Nat.ble 5 k && decide (x0.length < 4611686018427387904) then some (List.mergeSort x0 (fun x y => !mvLt y x),()) else none
noncomputable def f112_sig (k : Nat) : Sig := ⟨[.row ty23,.fn 113],[0],[[.row ty23]],fun x => f112 k x.1⟩
theorem mv_swo : Go.Sort.SWO (Go.Proofs.ltOf cmpM) := by
  have e : ∀ x y,Go.Proofs.ltOf cmpM x y = true ↔ cmpM x y < 0 := fun x y => by simp [Go.Proofs.ltOf]
  have e' : ∀ x y,Go.Proofs.ltOf cmpM x y = false ↔ ¬ cmpM x y < 0 := fun x y => by simp [Go.Proofs.ltOf]
  refine ⟨fun x => ?_,fun x y z h1 h2 => ?_,fun x y z h1 h2 => ?_⟩
  · rw [e',cmpM_lt]; omega
  · rw [e,cmpM_lt] at *; omega
  · rw [e',cmpM_lt] at *; omega
theorem mv_tot (x y : Int×Int×Int×Unit) (h1 : Go.Proofs.ltOf cmpM x y = false) (h2 : Go.Proofs.ltOf cmpM y x = false) : x = y := by
  have e' : ∀ x y,Go.Proofs.ltOf cmpM x y = false ↔ ¬ cmpM x y < 0 := fun x y => by simp [Go.Proofs.ltOf]
  rw [e',cmpM_lt] at h1 h2
  obtain ⟨a,b,c,_⟩ := x; obtain ⟨a',b',c',_⟩ := y
  simp only at h1 h2
  have : a = a' ∧ b = b' ∧ c = c' := by omega
  obtain ⟨rfl,rfl,rfl⟩ := this
  rfl
theorem f112_ok [Dr] (k : Nat) : FnOK Tryz.prog G0 112 (f112_sig k) := by
  by_cases hk : 5 ≤ k
  · obtain ⟨j,rfl⟩ : ∃ j,k = j + 5 := ⟨k - 5,by omega⟩
    refine FnOK.weak (sortfunc_ok (ρ := sortMv_ren) sortMv (.pair (.int .i64) (.pair (.int .i64) (.pair (.int .i64) (.unit)))) rfl rfl Tryz.isAgg38 Tryz.sizeOf38 Tryz.call112 (@f113_ok ⟨True⟩ (j + 5)) cmpM (fun x y => cmpM_eq j x y) mv_swo mv_tot) (fun x y h => ?_)
    have h2 := cond_some (show (bif Nat.ble 5 (j + 5) && decide (List.length (α := Int×Int×Int×Unit) x.1 < 4611686018427387904) then some (List.mergeSort (α := Int×Int×Int×Unit) x.1 (fun x y => !mvLt y x),()) else none) = some y from h)
    have h3 := ((Bool.and_eq_true _ _).mp h2.1).2
    show (bif decide (List.length (α := Int×Int×Int×Unit) x.1 < 4611686018427387904) then _ else none) = some y
    rw [h3]
    exact h2.2
  · refine fn_none Tryz.call112 (fun x => ?_)
    show (bif Nat.ble 5 k && _ then _ else none) = none
    rw [show Nat.ble 5 k = false from by cases h : Nat.ble 5 k; rfl; exact absurd (Nat.le_of_ble_eq_true h) hk]
    rfl
noncomputable def l114_9 (k : Nat) : Nat → (List (Int×Int×Int×Unit)) → Int → (Int×Int) → Int → Option (((List (Int×Int×Int×Unit))×Int×Unit))
 | 0,_,_,_,_ => none
 | j + 1,s0,s3,s4,s5 =>
  bif decide (s5 < ((s4.2.toNat : Nat) : Int)) then
  bif decide (0 ≤ s5) && decide (s5 < ((s4.2.toNat : Nat) : Int)) then
  bif decide (0 ≤ (w64 (s5 - 1))) && decide ((w64 (s5 - 1)) < ((s4.2.toNat : Nat) : Int)) then
  bif !(((rd ((0,0,0,()) : Int×Int×Int×Unit) s0 (((s4.1.toNat : Nat) : Int) + s5)).1 == (rd ((0,0,0,()) : Int×Int×Int×Unit) s0 (((s4.1.toNat : Nat) : Int) + (w64 (s5 - 1)))).1) && (((rd ((0,0,0,()) : Int×Int×Int×Unit) s0 (((s4.1.toNat : Nat) : Int) + s5)).2.1 == (rd ((0,0,0,()) : Int×Int×Int×Unit) s0 (((s4.1.toNat : Nat) : Int) + (w64 (s5 - 1)))).2.1) && (((rd ((0,0,0,()) : Int×Int×Int×Unit) s0 (((s4.1.toNat : Nat) : Int) + s5)).2.2.1 == (rd ((0,0,0,()) : Int×Int×Int×Unit) s0 (((s4.1.toNat : Nat) : Int) + (w64 (s5 - 1)))).2.2.1) && true))) then
  bif decide (0 ≤ s5) && decide (s5 < ((s4.2.toNat : Nat) : Int)) then
  bif decide (0 ≤ s3) && decide (s3 < (s0.length : Int)) then
  l114_9 k j (s0.set s3.toNat (rd ((0,0,0,()) : Int×Int×Int×Unit) s0 (((s4.1.toNat : Nat) : Int) + s5))) (w64 (s3 + 1)) (((s4.1.toNat : Nat) : Int),((s4.2.toNat : Nat) : Int)) (w64 (s5 + 1))
  else
  none
  else
  none
  else
  l114_9 k j s0 s3 (((s4.1.toNat : Nat) : Int),((s4.2.toNat : Nat) : Int)) (w64 (s5 + 1))
  else
  none
  else
  none
  else
  some (s0,s3,())
noncomputable def l114_9_sig (k : Nat) : LoopSig := ⟨[(0,.obj ck25),(3,.obj ck1),(4,.win 0 3),(5,.obj ck1)],[(.exit 2,[(0,.obj ck25),(3,.obj ck1)])],fun j x => l114_9 k j x.1 x.2.1 x.2.2.1 x.2.2.2.1⟩
noncomputable def l114_4 (k : Nat) : Nat → (List (Int×Int×Int×Unit)) → Int → Option (((List (Int×Int×Int×Unit))×Unit) ⊕ ((List (Int×Int×Int×Unit))×Unit))
 | 0,_,_ => none
 | j + 1,s0,s3 =>
  bif decide (s3 < (s0.length : Int)) then
  bif decide (0 ≤ s3) && decide (s3 < (s0.length : Int)) then
  bif decide (0 ≤ (w64 (s3 - 1))) && decide ((w64 (s3 - 1)) < (s0.length : Int)) then
  bif ((rd ((0,0,0,()) : Int×Int×Int×Unit) s0 s3).1 == (rd ((0,0,0,()) : Int×Int×Int×Unit) s0 (w64 (s3 - 1))).1) && (((rd ((0,0,0,()) : Int×Int×Int×Unit) s0 s3).2.1 == (rd ((0,0,0,()) : Int×Int×Int×Unit) s0 (w64 (s3 - 1))).2.1) && (((rd ((0,0,0,()) : Int×Int×Int×Unit) s0 s3).2.2.1 == (rd ((0,0,0,()) : Int×Int×Int×Unit) s0 (w64 (s3 - 1))).2.2.1) && true)) then
  bif decide (0 ≤ s3) && (decide (s3 ≤ (s0.length : Int)) && decide ((s0.length : Int) ≤ (s0.length : Int))) then
  (l114_9 k k s0 s3 (((s3.toNat : Nat) : Int),((((s0.length : Int) - s3).toNat : Nat) : Int)) 1).bind fun o1 =>
  bif decide (0 ≤ o1.2.1) && (decide (o1.2.1 ≤ (o1.1.length : Int)) && decide ((o1.1.length : Int) ≤ (o1.1.length : Int))) then
  bif Nat.ble (o1.2.1.toNat + ((o1.1.length : Int) - o1.2.1).toNat) o1.1.length then
  bif decide (0 ≤ o1.2.1) && decide (o1.2.1 ≤ ((o1.1.take o1.2.1.toNat ++ (List.replicate ((o1.1.length : Int) - o1.2.1).toNat ((0,0,0,()) : Int×Int×Int×Unit) ++ o1.1.drop (o1.2.1.toNat + ((o1.1.length : Int) - o1.2.1).toNat))).length : Int)) then
  some (.inr (first o1.2.1.toNat (o1.1.take o1.2.1.toNat ++ (List.replicate ((o1.1.length : Int) - o1.2.1).toNat ((0,0,0,()) : Int×Int×Int×Unit) ++ o1.1.drop (o1.2.1.toNat + ((o1.1.length : Int) - o1.2.1).toNat))),()))
  else
  none
  else
  none
  else
  none
  else
  none
  else
  l114_4 k j s0 (w64 (s3 + 1))
  else
  none
  else
  none
  else
  some (.inl (s0,()))
noncomputable def l114_4_sig (k : Nat) : LoopSig := ⟨[(0,.obj ck25),(3,.obj ck1)],[(.exit 0,[(0,.obj ck25)]),(.ret,[(2,.obj ck25)])],fun j x => l114_4 k j x.1 x.2.1⟩
noncomputable def f114 (k : Nat) (x0 : List (Int×Int×Int×Unit)) : Option (((List (Int×Int×Int×Unit))×Unit)) :=
  bif decide ((x0.length : Int) < 2) then
  some (x0,())
  else
  (l114_4 k k x0 1).bind fun q18 =>
  Sum.elim
  (fun y1 =>
  some y1)
  (fun y2 =>
  some y2)
  q18
noncomputable def f114_sig (k : Nat) : Sig := ⟨[.row ty23],[],[[.row ty23]],fun x => f114 k x.1⟩
noncomputable def E_f114 (k : Nat) : Env := ⟨Tryz.prog,G0,snil,tcons 4 (l114_4_sig k) (tcons 9 (l114_9_sig k) (tnil)),tnil,unil,k,qnil,false⟩
theorem l114_4_ok (k : Nat) : LoopOK (E_f114 k) ⟨Tryz.f114.ntmps,[],G0⟩ (nthC 0 (loopsIn (Tryz.f114.body.getD .skip))) :=
  loop_ok (ls := l114_4_sig k) (by kernel_rfl) (fun _ => by kernel_rfl) (fun j x => by kernel_rfl)
theorem l114_9_ok (k : Nat) : LoopOK (E_f114 k) ⟨Tryz.f114.ntmps,[],G0⟩ (nthC 1 (loopsIn (Tryz.f114.body.getD .skip))) :=
  loop_ok (ls := l114_9_sig k) (by kernel_rfl) (fun _ => by kernel_rfl) (fun j x => by kernel_rfl)
theorem f114_run (k : Nat) (x : (lTy (lay 0 (f114_sig k).ins)).den) : runF (E_f114 k) Tryz.f114 (f114_sig k) x = (f114_sig k).F x := by kernel_rfl
theorem f114_ok [Dr] (k : Nat) : FnOK Tryz.prog G0 114 (f114_sig k) :=
  fn_ok2 (E := E_f114 k) (env_nil) (qenv_nil) mixed Tryz.func114 Tryz.call114 (by kernel_rfl) (by kernel_rfl) (m := 2) (by kernel_rfl) ⟨⟨trivial,l114_4_ok k⟩,l114_9_ok k⟩ (sk := []) (by kernel_rfl) trivial (f114_run k)
noncomputable def l75_6 (k : Nat) : Nat → (ByteArray×Int×Int×(List (Int×Int×Int×(List (Int×Int×Int×Int×Unit))×Unit))×(List Int)×Bool×Bool×(List (Int×Int×Int×Bool×Unit))×Int×Int×Int×Unit) → ((List Int)×((List Int)×(List Int)×Unit)×Int×Int×Unit) → (List (Int×Int×Int×Unit)) → Int → Int → (List Int) → Int → Int → Int → Int → Option (((ByteArray×Int×Int×(List (Int×Int×Int×(List (Int×Int×Int×Int×Unit))×Unit))×(List Int)×Bool×Bool×(List (Int×Int×Int×Bool×Unit))×Int×Int×Int×Unit)×((List Int)×((List Int)×(List Int)×Unit)×Int×Int×Unit)×(List (Int×Int×Int×Unit))×(List Int)×Int×Int×Unit))
 | 0,_,_,_,_,_,_,_,_,_,_ => none
 | j + 1,s2,s3,s5,s6,s7,s17,s18,s19,s26,s27 =>
  bif decide (s27 < s26) then
  bif decide (s7 > 0) then
  (f108 k s2 s3 s27).bind fun r1 =>
  bif r1.1 then
  bif decide ((s5.length + ([((-1),s27,s6,())] : List (Int×Int×Int×Unit)).length) * 24 ≤ roomN) then
  l75_6 k j s2 s3 (s5 ++ [((-1),s27,s6,())]) s6 s7 s17 s18 s19 s26 (w64 (s27 + 1))
  else
  none
  else
  l75_6 k j s2 s3 s5 s6 s7 s17 s18 s19 s26 (w64 (s27 + 1))
  else
  l75_6 k j s2 s3 s5 s6 s7 s17 s18 s19 s26 (w64 (s27 + 1))
  else
  some (s2,s3,s5,s17,s18,s19,())
noncomputable def l75_6_sig (k : Nat) : LoopSig := ⟨[(2,.obj ck75),(3,.obj ck53),(5,.obj ck25),(6,.obj ck1),(7,.obj ck1),(17,.obj ck6),(18,.obj ck1),(19,.obj ck1),(26,.obj ck1),(27,.obj ck1)],[(.exit 2,[(2,.obj ck75),(3,.obj ck53),(5,.obj ck25),(17,.obj ck6),(18,.obj ck1),(19,.obj ck1)])],fun j x => l75_6 k j x.1 x.2.1 x.2.2.1 x.2.2.2.1 x.2.2.2.2.1 x.2.2.2.2.2.1 x.2.2.2.2.2.2.1 x.2.2.2.2.2.2.2.1 x.2.2.2.2.2.2.2.2.1 x.2.2.2.2.2.2.2.2.2.1⟩
noncomputable def l75_3 (k : Nat) : Nat → (ByteArray×Int×Int×(List (Int×Int×Int×(List (Int×Int×Int×Int×Unit))×Unit))×(List Int)×Bool×Bool×(List (Int×Int×Int×Bool×Unit))×Int×Int×Int×Unit) → ((List Int)×((List Int)×(List Int)×Unit)×Int×Int×Unit) → (List (Int×Int×Int×Unit)) → (List Int) → Int → Int → Option (((ByteArray×Int×Int×(List (Int×Int×Int×(List (Int×Int×Int×Int×Unit))×Unit))×(List Int)×Bool×Bool×(List (Int×Int×Int×Bool×Unit))×Int×Int×Int×Unit)×((List Int)×((List Int)×(List Int)×Unit)×Int×Int×Unit)×(List (Int×Int×Int×Unit))×Unit))
 | 0,_,_,_,_,_,_ => none
 | j + 1,s2,s3,s5,s17,s18,s19 =>
  bif decide (s19 < s18) then
  bif decide (0 ≤ s19) && decide (s19 < (s17.length : Int)) then
  (l75_6 k k s2 s3 s5 s19 (rd (0 : Int) s17 s19) s17 s18 s19 (s3.1.length : Int) 0).bind fun o1 =>
  l75_3 k j o1.1 o1.2.1 o1.2.2.1 o1.2.2.2.1 o1.2.2.2.2.1 (w64 (o1.2.2.2.2.2.1 + 1))
  else
  none
  else
  some (s2,s3,s5,())
noncomputable def l75_3_sig (k : Nat) : LoopSig := ⟨[(2,.obj ck75),(3,.obj ck53),(5,.obj ck25),(17,.obj ck6),(18,.obj ck1),(19,.obj ck1)],[(.exit 0,[(2,.obj ck75),(3,.obj ck53),(5,.obj ck25)])],fun j x => l75_3 k j x.1 x.2.1 x.2.2.1 x.2.2.2.1 x.2.2.2.2.1 x.2.2.2.2.2.1⟩
noncomputable def l75_17 (k : Nat) : Nat → (ByteArray×Int×Int×(List (Int×Int×Int×(List (Int×Int×Int×Int×Unit))×Unit))×(List Int)×Bool×Bool×(List (Int×Int×Int×Bool×Unit))×Int×Int×Int×Unit) → ((List Int)×((List Int)×(List Int)×Unit)×Int×Int×Unit) → (List (Int×Int×Int×Unit)) → Int → (List Int) → Int → Int → (List (Int×Int×Int×Int×Unit)) → Int → Int → Option (((ByteArray×Int×Int×(List (Int×Int×Int×(List (Int×Int×Int×Int×Unit))×Unit))×(List Int)×Bool×Bool×(List (Int×Int×Int×Bool×Unit))×Int×Int×Int×Unit)×((List Int)×((List Int)×(List Int)×Unit)×Int×Int×Unit)×(List (Int×Int×Int×Unit))×(List Int)×Int×Int×Unit))
 | 0,_,_,_,_,_,_,_,_,_,_ => none
 | j + 1,s2,s3,s5,s9,s47,s48,s49,s65,s66,s67 =>
  bif decide (s67 < s66) then
  bif decide (0 ≤ s67) && decide (s67 < (s65.length : Int)) then
  (f111 k s5 s2 s3 s9 (rd ((0,0,0,0,()) : Int×Int×Int×Int×Unit) s65 s67)).bind fun r1 =>
  l75_17 k j s2 s3 r1.1 s9 s47 s48 s49 s65 s66 (w64 (s67 + 1))
  else
  none
  else
  some (s2,s3,s5,s47,s48,s49,())
noncomputable def l75_17_sig (k : Nat) : LoopSig := ⟨[(2,.obj ck75),(3,.obj ck53),(5,.obj ck25),(9,.obj ck1),(47,.obj ck6),(48,.obj ck1),(49,.obj ck1),(65,.obj (.val (.sl ty29))),(66,.obj ck1),(67,.obj ck1)],[(.exit 6,[(2,.obj ck75),(3,.obj ck53),(5,.obj ck25),(47,.obj ck6),(48,.obj ck1),(49,.obj ck1)])],fun j x => l75_17 k j x.1 x.2.1 x.2.2.1 x.2.2.2.1 x.2.2.2.2.1 x.2.2.2.2.2.1 x.2.2.2.2.2.2.1 x.2.2.2.2.2.2.2.1 x.2.2.2.2.2.2.2.2.1 x.2.2.2.2.2.2.2.2.2.1⟩
noncomputable def l75_13 (k : Nat) : Nat → (ByteArray×Int×Int×(List (Int×Int×Int×(List (Int×Int×Int×Int×Unit))×Unit))×(List Int)×Bool×Bool×(List (Int×Int×Int×Bool×Unit))×Int×Int×Int×Unit) → ((List Int)×((List Int)×(List Int)×Unit)×Int×Int×Unit) → (List (Int×Int×Int×Unit)) → (List Int) → Int → Int → Option (((List (Int×Int×Int×Unit))×Unit))
 | 0,_,_,_,_,_,_ => none
 | j + 1,s2,s3,s5,s47,s48,s49 =>
  bif decide (s49 < s48) then
  bif decide (0 ≤ s49) && decide (s49 < (s47.length : Int)) then
  (f109 k (rd (0 : Int) s47 s49)).bind fun r1 =>
  bif r1.1 == s3.2.2.1 then
  (f110 k (rd (0 : Int) s47 s49)).bind fun r2 =>
  bif decide (0 ≤ r2.1) && decide (r2.1 < (s2.2.2.2.1.length : Int)) then
  (l75_17 k k s2 s3 s5 s49 s47 s48 s49 (rd ((0,0,0,[],()) : Int×Int×Int×(List (Int×Int×Int×Int×Unit))×Unit) s2.2.2.2.1 r2.1).2.2.2.1 ((rd ((0,0,0,[],()) : Int×Int×Int×(List (Int×Int×Int×Int×Unit))×Unit) s2.2.2.2.1 r2.1).2.2.2.1.length : Int) 0).bind fun o3 =>
  l75_13 k j o3.1 o3.2.1 o3.2.2.1 o3.2.2.2.1 o3.2.2.2.2.1 (w64 (o3.2.2.2.2.2.1 + 1))
  else
  none
  else
  l75_13 k j s2 s3 s5 s47 s48 (w64 (s49 + 1))
  else
  none
  else
  some (s5,())
noncomputable def l75_13_sig (k : Nat) : LoopSig := ⟨[(2,.obj ck75),(3,.obj ck53),(5,.obj ck25),(47,.obj ck6),(48,.obj ck1),(49,.obj ck1)],[(.exit 4,[(5,.obj ck25)])],fun j x => l75_13 k j x.1 x.2.1 x.2.2.1 x.2.2.2.1 x.2.2.2.2.1 x.2.2.2.2.2.1⟩
noncomputable def f75 (k : Nat) (x0 : ByteArray×Int×Int×(List (Int×Int×Int×(List (Int×Int×Int×Int×Unit))×Unit))×(List Int)×Bool×Bool×(List (Int×Int×Int×Bool×Unit))×Int×Int×Int×Unit) (x1 : (List Int)×((List Int)×(List Int)×Unit)×Int×Int×Unit) : Option (((List (Int×Int×Int×Unit))×Unit)) :=
  bif x1.2.2.1 == 0 then
  (l75_3 k k x0 x1 [] x1.2.1.1 (x1.2.1.1.length : Int) 0).bind fun o1 =>
  (l75_13 k k o1.1 o1.2.1 o1.2.2.1 o1.2.1.1 (o1.2.1.1.length : Int) 0).bind fun o2 =>
  (f112 k o2.1).bind fun r3 =>
  (f114 k r3.1).bind fun r4 =>
  some r4
  else
  bif x1.2.2.1 == 1 then
  (l75_3 k k x0 x1 [] x1.2.1.2.1 (x1.2.1.2.1.length : Int) 0).bind fun o5 =>
  (l75_13 k k o5.1 o5.2.1 o5.2.2.1 o5.2.1.1 (o5.2.1.1.length : Int) 0).bind fun o6 =>
  (f112 k o6.1).bind fun r7 =>
  (f114 k r7.1).bind fun r8 =>
  some r8
  else
  none
noncomputable def f75_sig (k : Nat) : Sig := ⟨[.val ty73,.val ty49],[],[[.row ty23]],fun x => f75 k x.1 x.2.1⟩
noncomputable def E_f75 (k : Nat) : Env := ⟨Tryz.prog,G0,scons 114 [f114_sig k] (scons 112 [f112_sig k] (scons 111 [f111_sig k] (scons 110 [f110_sig k] (scons 109 [f109_sig k] (scons 108 [f108_sig k] (snil)))))),tcons 13 (l75_13_sig k) (tcons 17 (l75_17_sig k) (tcons 3 (l75_3_sig k) (tcons 6 (l75_6_sig k) (tnil)))),tnil,unil,k,qnil,false⟩
theorem l75_3_ok (k : Nat) : LoopOK (E_f75 k) ⟨Tryz.f75.ntmps,[],G0⟩ (nthC 0 (loopsIn (Tryz.f75.body.getD .skip))) :=
  loop_ok (ls := l75_3_sig k) (by kernel_rfl) (fun _ => by kernel_rfl) (fun j x => by kernel_rfl)
theorem l75_6_ok (k : Nat) : LoopOK (E_f75 k) ⟨Tryz.f75.ntmps,[],G0⟩ (nthC 1 (loopsIn (Tryz.f75.body.getD .skip))) :=
  loop_ok (ls := l75_6_sig k) (by kernel_rfl) (fun _ => by kernel_rfl) (fun j x => by kernel_rfl)
theorem l75_13_ok (k : Nat) : LoopOK (E_f75 k) ⟨Tryz.f75.ntmps,[],G0⟩ (nthC 2 (loopsIn (Tryz.f75.body.getD .skip))) :=
  loop_ok (ls := l75_13_sig k) (by kernel_rfl) (fun _ => by kernel_rfl) (fun j x => by kernel_rfl)
theorem l75_17_ok (k : Nat) : LoopOK (E_f75 k) ⟨Tryz.f75.ntmps,[],G0⟩ (nthC 3 (loopsIn (Tryz.f75.body.getD .skip))) :=
  loop_ok (ls := l75_17_sig k) (by kernel_rfl) (fun _ => by kernel_rfl) (fun j x => by kernel_rfl)
theorem f75_run (k : Nat) (x : (lTy (lay 0 (f75_sig k).ins)).den) : runF (E_f75 k) Tryz.f75 (f75_sig k) x = (f75_sig k).F x := by kernel_rfl
theorem f75_ok [Dr] (k : Nat) : FnOK Tryz.prog G0 75 (f75_sig k) :=
  fn_ok2 (E := E_f75 k) (env_cons (one_sig (f114_ok k)) (env_cons (one_sig (f112_ok k)) (env_cons (one_sig (f111_ok k)) (env_cons (one_sig (f110_ok k)) (env_cons (one_sig (f109_ok k)) (env_cons (one_sig (f108_ok k)) (env_nil))))))) (qenv_nil) mixed Tryz.func75 Tryz.call75 (by kernel_rfl) (by kernel_rfl) (m := 4) (by kernel_rfl) ⟨⟨⟨⟨trivial,l75_3_ok k⟩,l75_6_ok k⟩,l75_13_ok k⟩,l75_17_ok k⟩ (sk := []) (by kernel_rfl) trivial (f75_run k)
noncomputable def l91_3 (k : Nat) : Nat → (ByteArray×Int×Int×(List (Int×Int×Int×(List (Int×Int×Int×Int×Unit))×Unit))×(List Int)×Bool×Bool×(List (Int×Int×Int×Bool×Unit))×Int×Int×Int×Unit) → ((List Int)×((List Int)×(List Int)×Unit)×Int×Int×Unit) → Int → (List (Int×Int×Int×Bool×Unit)) → Int → Int → Option (((ByteArray×Int×Int×(List (Int×Int×Int×(List (Int×Int×Int×Int×Unit))×Unit))×(List Int)×Bool×Bool×(List (Int×Int×Int×Bool×Unit))×Int×Int×Int×Unit)×((List Int)×((List Int)×(List Int)×Unit)×Int×Int×Unit)×Int×Unit) ⊕ (Int×Unit))
 | 0,_,_,_,_,_,_ => none
 | j + 1,s2,s3,s5,s12,s13,s14 =>
  bif decide (s14 < s13) then
  bif decide (0 ≤ s14) && decide (s14 < (s12.length : Int)) then
  (f128 k s2 s3 (rd ((0,0,0,false,()) : Int×Int×Int×Bool×Unit) s12 s14)).bind fun r1 =>
  bif r1.1 then
  bif (rd ((0,0,0,false,()) : Int×Int×Int×Bool×Unit) s12 s14).2.2.2.1 then
  (f129 k s3.2.2.1).bind fun r2 =>
  some (.inr r2)
  else
  (f129 k s5).bind fun r3 =>
  some (.inr r3)
  else
  l91_3 k j s2 s3 s5 s12 s13 (w64 (s14 + 1))
  else
  none
  else
  some (.inl (s2,s3,s5,()))
noncomputable def l91_3_sig (k : Nat) : LoopSig := ⟨[(2,.obj ck75),(3,.obj ck53),(5,.obj ck1),(12,.obj ck33),(13,.obj ck1),(14,.obj ck1)],[(.exit 0,[(2,.obj ck75),(3,.obj ck53),(5,.obj ck1)]),(.ret,[(4,.obj ck1)])],fun j x => l91_3 k j x.1 x.2.1 x.2.2.1 x.2.2.2.1 x.2.2.2.2.1 x.2.2.2.2.2.1⟩
noncomputable def f91 (k : Nat) (x0 : ByteArray×Int×Int×(List (Int×Int×Int×(List (Int×Int×Int×Int×Unit))×Unit))×(List Int)×Bool×Bool×(List (Int×Int×Int×Bool×Unit))×Int×Int×Int×Unit) (x1 : (List Int)×((List Int)×(List Int)×Unit)×Int×Int×Unit) : Option ((Int×Unit)) :=
  (l91_3 k k x0 x1 (w64 (1 - x1.2.2.1)) x0.2.2.2.2.2.2.2.1 (x0.2.2.2.2.2.2.2.1.length : Int) 0).bind fun q19 =>
  Sum.elim
  (fun y1 =>
  bif decide (y1.1.2.2.2.2.2.2.2.2.2.1 > 0) then
  bif decide (y1.2.1.2.2.2.1 ≥ y1.1.2.2.2.2.2.2.2.2.2.1) then
  some (3,())
  else
  (f75 k y1.1 y1.2.1).bind fun r2 =>
  bif decide ((r2.1.length : Int) > 0) then
  some (0,())
  else
  bif y1.1.2.2.2.2.2.2.2.2.1 == 0 then
  (f129 k y1.2.2.1).bind fun r3 =>
  some r3
  else
  bif y1.1.2.2.2.2.2.2.2.2.1 == 1 then
  (f129 k y1.2.1.2.2.1).bind fun r4 =>
  some r4
  else
  some (3,())
  else
  (f75 k y1.1 y1.2.1).bind fun r5 =>
  bif decide ((r5.1.length : Int) > 0) then
  some (0,())
  else
  bif y1.1.2.2.2.2.2.2.2.2.1 == 0 then
  (f129 k y1.2.2.1).bind fun r6 =>
  some r6
  else
  bif y1.1.2.2.2.2.2.2.2.2.1 == 1 then
  (f129 k y1.2.1.2.2.1).bind fun r7 =>
  some r7
  else
  some (3,()))
  (fun y8 =>
  some y8)
  q19
noncomputable def f91_sig (k : Nat) : Sig := ⟨[.val ty73,.val ty49],[],[[.val (.int .i64)]],fun x => f91 k x.1 x.2.1⟩
noncomputable def E_f91 (k : Nat) : Env := ⟨Tryz.prog,G0,scons 129 [f129_sig k] (scons 128 [f128_sig k] (scons 75 [f75_sig k] (snil))),tcons 3 (l91_3_sig k) (tnil),tnil,unil,k,qnil,false⟩
theorem l91_3_ok (k : Nat) : LoopOK (E_f91 k) ⟨Tryz.f91.ntmps,[],G0⟩ (nthC 0 (loopsIn (Tryz.f91.body.getD .skip))) :=
  loop_ok (ls := l91_3_sig k) (by kernel_rfl) (fun _ => by kernel_rfl) (fun j x => by kernel_rfl)
theorem f91_run (k : Nat) (x : (lTy (lay 0 (f91_sig k).ins)).den) : runF (E_f91 k) Tryz.f91 (f91_sig k) x = (f91_sig k).F x := by kernel_rfl
theorem f91_ok [Dr] (k : Nat) : FnOK Tryz.prog G0 91 (f91_sig k) :=
  fn_ok2 (E := E_f91 k) (env_cons (one_sig (f129_ok k)) (env_cons (one_sig (f128_ok k)) (env_cons (one_sig (f75_ok k)) (env_nil)))) (qenv_nil) mixed Tryz.func91 Tryz.call91 (by kernel_rfl) (by kernel_rfl) (m := 1) (by kernel_rfl) ⟨trivial,l91_3_ok k⟩ (sk := []) (by kernel_rfl) trivial (f91_run k)
noncomputable def l54_4 (k : Nat) : Nat → (List Int) → (List Int) → Int → Int → Option (Unit ⊕ (Bool×Unit))
 | 0,_,_,_,_ => none
 | j + 1,s0,s1,s12,s13 =>
  bif decide (s13 < s12) then
  bif decide (0 ≤ s13) && decide (s13 < (s0.length : Int)) then
  bif decide (0 ≤ s13) && decide (s13 < (s1.length : Int)) then
  bif (rd (0 : Int) s0 s13) != (rd (0 : Int) s1 s13) then
  some (.inr (false,()))
  else
  l54_4 k j s0 s1 s12 (w64 (s13 + 1))
  else
  none
  else
  none
  else
  some (.inl ())
noncomputable def l54_4_sig (k : Nat) : LoopSig := ⟨[(0,.obj ck6),(1,.obj ck6),(12,.obj ck1),(13,.obj ck1)],[(.exit 0,[]),(.ret,[(4,.obj (.val (.bool)))])],fun j x => l54_4 k j x.1 x.2.1 x.2.2.1 x.2.2.2.1⟩
noncomputable def f54 (k : Nat) (x0 : List Int) (x1 : List Int) : Option ((Bool×Unit)) :=
  bif (x0.length : Int) != (x1.length : Int) then
  some (false,())
  else
  (l54_4 k k x0 x1 (x0.length : Int) 0).bind fun q20 =>
  Sum.elim
  (fun y1 =>
  some (true,()))
  (fun y2 =>
  some y2)
  q20
noncomputable def f54_sig (k : Nat) : Sig := ⟨[.val ty0,.val ty0],[],[[.val (.bool)]],fun x => f54 k x.1 x.2.1⟩
noncomputable def E_f54 (k : Nat) : Env := ⟨Tryz.prog,G0,snil,tcons 4 (l54_4_sig k) (tnil),tnil,unil,k,qnil,false⟩
theorem l54_4_ok (k : Nat) : LoopOK (E_f54 k) ⟨Tryz.f54.ntmps,[],G0⟩ (nthC 0 (loopsIn (Tryz.f54.body.getD .skip))) :=
  loop_ok (ls := l54_4_sig k) (by kernel_rfl) (fun _ => by kernel_rfl) (fun j x => by kernel_rfl)
theorem f54_run (k : Nat) (x : (lTy (lay 0 (f54_sig k).ins)).den) : runF (E_f54 k) Tryz.f54 (f54_sig k) x = (f54_sig k).F x := by kernel_rfl
theorem f54_ok [Dr] (k : Nat) : FnOK Tryz.prog G0 54 (f54_sig k) :=
  fn_ok2 (E := E_f54 k) (env_nil) (qenv_nil) mixed Tryz.func54 Tryz.call54 (by kernel_rfl) (by kernel_rfl) (m := 1) (by kernel_rfl) ⟨trivial,l54_4_ok k⟩ (sk := []) (by kernel_rfl) trivial (f54_run k)
noncomputable def f17 (k : Nat) (x0 : (List Int)×((List Int)×(List Int)×Unit)×Int×Int×Unit) (x1 : (List Int)×((List Int)×(List Int)×Unit)×Int×Int×Unit) : Option ((Bool×Unit)) :=
  bif x0.2.2.1 == x1.2.2.1 then
  (f54 k x0.1 x1.1).bind fun r1 =>
  bif r1.1 then
  (f54 k x0.2.1.1 x1.2.1.1).bind fun r2 =>
  bif r2.1 then
  (f54 k x0.2.1.2.1 x1.2.1.2.1).bind fun r3 =>
  some r3
  else
  some (false,())
  else
  some (false,())
  else
  some (false,())
noncomputable def f17_sig (k : Nat) : Sig := ⟨[.val ty49,.val ty49],[],[[.val (.bool)]],fun x => f17 k x.1 x.2.1⟩
noncomputable def E_f17 (k : Nat) : Env := ⟨Tryz.prog,G0,scons 54 [f54_sig k] (snil),tnil,tnil,unil,k,qnil,false⟩
theorem f17_run (k : Nat) (x : (lTy (lay 0 (f17_sig k).ins)).den) : runF (E_f17 k) Tryz.f17 (f17_sig k) x = (f17_sig k).F x := by kernel_rfl
theorem f17_ok [Dr] (k : Nat) : FnOK Tryz.prog G0 17 (f17_sig k) :=
  fn_ok2 (E := E_f17 k) (env_cons (one_sig (f54_ok k)) (env_nil)) (qenv_nil) mixed Tryz.func17 Tryz.call17 (by kernel_rfl) (by kernel_rfl) (m := 0) (by kernel_rfl) trivial (sk := []) (by kernel_rfl) trivial (f17_run k)
noncomputable def l84_3 (k : Nat) : Nat → ((ByteArray×Int×Int×(List (Int×Int×Int×(List (Int×Int×Int×Int×Unit))×Unit))×(List Int)×Bool×Bool×(List (Int×Int×Int×Bool×Unit))×Int×Int×Int×Unit)×(List ((List Int)×((List Int)×(List Int)×Unit)×Int×Int×Unit))×(List (Int×Int×Int×Unit))×Unit) → Int → (List ((List Int)×((List Int)×(List Int)×Unit)×Int×Int×Unit)) → Int → Int → Option ((Int×Unit))
 | 0,_,_,_,_,_ => none
 | j + 1,s0,s3,s9,s10,s11 =>
  bif decide (s11 < s10) then
  bif decide (0 ≤ s11) && decide (s11 < (s9.length : Int)) then
  (f89 k s0).bind fun r1 =>
  (f17 k (rd (([],([],[],()),0,0,()) : (List Int)×((List Int)×(List Int)×Unit)×Int×Int×Unit) s9 s11) r1.1).bind fun r2 =>
  bif r2.1 then
  l84_3 k j s0 (w64 (s3 + 1)) s9 s10 (w64 (s11 + 1))
  else
  l84_3 k j s0 s3 s9 s10 (w64 (s11 + 1))
  else
  none
  else
  some (s3,())
noncomputable def l84_3_sig (k : Nat) : LoopSig := ⟨[(0,.obj (.view ty81)),(3,.obj ck1),(9,.obj (.val (.sl ty49))),(10,.obj ck1),(11,.obj ck1)],[(.exit 0,[(3,.obj ck1)])],fun j x => l84_3 k j x.1 x.2.1 x.2.2.1 x.2.2.2.1 x.2.2.2.2.1⟩
noncomputable def f84 (k : Nat) (x0 : (ByteArray×Int×Int×(List (Int×Int×Int×(List (Int×Int×Int×Int×Unit))×Unit))×(List Int)×Bool×Bool×(List (Int×Int×Int×Bool×Unit))×Int×Int×Int×Unit)×(List ((List Int)×((List Int)×(List Int)×Unit)×Int×Int×Unit))×(List (Int×Int×Int×Unit))×Unit) : Option ((Int×Unit)) :=
  (l84_3 k k x0 0 x0.2.1 (x0.2.1.length : Int) 0).bind fun o1 =>
  some o1
noncomputable def f84_sig (k : Nat) : Sig := ⟨[.view ty81],[],[[.val (.int .i64)]],fun x => f84 k x.1⟩
noncomputable def E_f84 (k : Nat) : Env := ⟨Tryz.prog,G0,scons 89 [f89_sig k] (scons 17 [f17_sig k] (snil)),tcons 3 (l84_3_sig k) (tnil),tnil,unil,k,qnil,false⟩
theorem l84_3_ok (k : Nat) : LoopOK (E_f84 k) ⟨Tryz.f84.ntmps,[],G0⟩ (nthC 0 (loopsIn (Tryz.f84.body.getD .skip))) :=
  loop_ok (ls := l84_3_sig k) (by kernel_rfl) (fun _ => by kernel_rfl) (fun j x => by kernel_rfl)
theorem f84_run (k : Nat) (x : (lTy (lay 0 (f84_sig k).ins)).den) : runF (E_f84 k) Tryz.f84 (f84_sig k) x = (f84_sig k).F x := by kernel_rfl
theorem f84_ok [Dr] (k : Nat) : FnOK Tryz.prog G0 84 (f84_sig k) :=
  fn_ok2 (E := E_f84 k) (env_cons (one_sig (f89_ok k)) (env_cons (one_sig (f17_ok k)) (env_nil))) (qenv_nil) mixed Tryz.func84 Tryz.call84 (by kernel_rfl) (by kernel_rfl) (m := 1) (by kernel_rfl) ⟨trivial,l84_3_ok k⟩ (sk := []) (by kernel_rfl) trivial (f84_run k)
noncomputable def f84_q (k : Nat) : QFun := mkV [.view (.pair (.pair (.str) (.pair (.int .i64) (.pair (.int .i64) (.pair (.sl (.pair (.int .u8) (.pair (.int .i64) (.pair (.int .i64) (.pair (.sl (.pair (.int .i64) (.pair (.int .i64) (.pair (.int .i64) (.pair (.int .i64) (.unit)))))) (.unit)))))) (.pair (.sl (.int .i64)) (.pair (.bool) (.pair (.bool) (.pair (.sl (.pair (.int .i64) (.pair (.int .i64) (.pair (.int .i64) (.pair (.bool) (.unit)))))) (.pair (.int .i64) (.pair (.int .i64) (.pair (.int .i64) (.unit)))))))))))) (.pair (.sl (.pair (.sl (.int .i64)) (.pair (.pair (.sl (.int .i64)) (.pair (.sl (.int .i64)) (.unit))) (.pair (.int .i64) (.pair (.int .i64) (.unit)))))) (.pair (.sl (.pair (.int .i64) (.pair (.int .i64) (.pair (.int .i64) (.unit))))) (.unit))))] [.val (.int .i64)] (fun x => f84 k x.1)
theorem f84_qok [Dr] (k : Nat) : QOK Tryz.prog G0 84 (f84_q k) := v_ok (f84_ok k)
noncomputable def f53 (k : Nat) (x0 : (ByteArray×Int×Int×(List (Int×Int×Int×(List (Int×Int×Int×Int×Unit))×Unit))×(List Int)×Bool×Bool×(List (Int×Int×Int×Bool×Unit))×Int×Int×Int×Unit)×(List ((List Int)×((List Int)×(List Int)×Unit)×Int×Int×Unit))×(List (Int×Int×Int×Unit))×Unit) : Option ((Int×Unit)) :=
  (f89 k x0).bind fun r1 =>
  (f91 k x0.1 r1.1).bind fun r2 =>
  bif r2.1 == 0 then
  bif decide (x0.1.2.2.2.2.2.2.2.2.2.2.1 > 0) then
  (f84 k x0).bind fun r3 =>
  bif decide (r3.1 ≥ x0.1.2.2.2.2.2.2.2.2.2.2.1) then
  some (3,())
  else
  some r2
  else
  some r2
  else
  some r2
noncomputable def f53_sig (k : Nat) : Sig := ⟨[.view ty81],[],[[.val (.int .i64)]],fun x => f53 k x.1⟩
noncomputable def E_f53 (k : Nat) : Env := ⟨Tryz.prog,G0,scons 91 [f91_sig k] (scons 89 [f89_sig k] (snil)),tnil,tnil,unil,k,qcons 84 (f84_q k) (qnil),false⟩
theorem f53_run (k : Nat) (x : (lTy (lay 0 (f53_sig k).ins)).den) : runF (E_f53 k) Tryz.f53 (f53_sig k) x = (f53_sig k).F x := by kernel_rfl
theorem f53_ok [Dr] (k : Nat) : FnOK Tryz.prog G0 53 (f53_sig k) :=
  fn_ok2 (E := E_f53 k) (env_cons (one_sig (f91_ok k)) (env_cons (one_sig (f89_ok k)) (env_nil))) (qenv_cons (f84_qok k) (qenv_nil)) mixed Tryz.func53 Tryz.call53 (by kernel_rfl) (by kernel_rfl) (m := 0) (by kernel_rfl) trivial (sk := []) (by kernel_rfl) trivial (f53_run k)
noncomputable def f53_q (k : Nat) : QFun := mkV [.view (.pair (.pair (.str) (.pair (.int .i64) (.pair (.int .i64) (.pair (.sl (.pair (.int .u8) (.pair (.int .i64) (.pair (.int .i64) (.pair (.sl (.pair (.int .i64) (.pair (.int .i64) (.pair (.int .i64) (.pair (.int .i64) (.unit)))))) (.unit)))))) (.pair (.sl (.int .i64)) (.pair (.bool) (.pair (.bool) (.pair (.sl (.pair (.int .i64) (.pair (.int .i64) (.pair (.int .i64) (.pair (.bool) (.unit)))))) (.pair (.int .i64) (.pair (.int .i64) (.pair (.int .i64) (.unit)))))))))))) (.pair (.sl (.pair (.sl (.int .i64)) (.pair (.pair (.sl (.int .i64)) (.pair (.sl (.int .i64)) (.unit))) (.pair (.int .i64) (.pair (.int .i64) (.unit)))))) (.pair (.sl (.pair (.int .i64) (.pair (.int .i64) (.pair (.int .i64) (.unit))))) (.unit))))] [.val (.int .i64)] (fun x => f53 k x.1)
theorem f53_qok [Dr] (k : Nat) : QOK Tryz.prog G0 53 (f53_q k) := v_ok (f53_ok k)
noncomputable def f37 (k : Nat) (x0 : (ByteArray×Int×Int×(List (Int×Int×Int×(List (Int×Int×Int×Int×Unit))×Unit))×(List Int)×Bool×Bool×(List (Int×Int×Int×Bool×Unit))×Int×Int×Int×Unit)×((List (Int×Int×Unit))×Int×Int×Unit)×((ByteArray×Int×Int×(List (Int×Int×Int×(List (Int×Int×Int×Int×Unit))×Unit))×(List Int)×Bool×Bool×(List (Int×Int×Int×Bool×Unit))×Int×Int×Int×Unit)×(List ((List Int)×((List Int)×(List Int)×Unit)×Int×Int×Unit))×(List (Int×Int×Int×Unit))×Unit)×((List (Int×Int×Int×Unit))×Int×Int×((Int×Int×Unit)×(Int×Int×Unit)×(Int×Int×Unit)×Int×Int×Bool×Int×Unit)×((Int×Int×Unit)×((Int×Int×Unit)×(Int×Int×Unit)×Unit)×Unit)×(List (Int×(Int×Int×Int×Unit)×Unit))×Unit)×Int×(List (ByteArray×Int×Unit))×Unit) : Option ((((ByteArray×Int×Int×(List (Int×Int×Int×(List (Int×Int×Int×Int×Unit))×Unit))×(List Int)×Bool×Bool×(List (Int×Int×Int×Bool×Unit))×Int×Int×Int×Unit)×((List (Int×Int×Unit))×Int×Int×Unit)×((ByteArray×Int×Int×(List (Int×Int×Int×(List (Int×Int×Int×Int×Unit))×Unit))×(List Int)×Bool×Bool×(List (Int×Int×Int×Bool×Unit))×Int×Int×Int×Unit)×(List ((List Int)×((List Int)×(List Int)×Unit)×Int×Int×Unit))×(List (Int×Int×Int×Unit))×Unit)×((List (Int×Int×Int×Unit))×Int×Int×((Int×Int×Unit)×(Int×Int×Unit)×(Int×Int×Unit)×Int×Int×Bool×Int×Unit)×((Int×Int×Unit)×((Int×Int×Unit)×(Int×Int×Unit)×Unit)×Unit)×(List (Int×(Int×Int×Int×Unit)×Unit))×Unit)×Int×(List (ByteArray×Int×Unit))×Unit)×Unit)) :=
  (f53 k x0.2.2.1).bind fun r1 =>
  bif x0.2.2.2.1.2.1 == 0 then
  bif r1.1 != 0 then
  some ((x0.1,x0.2.1,x0.2.2.1,(x0.2.2.2.1.1,r1.1,1,x0.2.2.2.1.2.2.2),x0.2.2.2.2),())
  else
  some (x0,())
  else
  some (x0,())
noncomputable def f37_sig (k : Nat) : Sig := ⟨[.box 89 ck87],[0],[[.box 89 ck87]],fun x => f37 k x.1⟩
noncomputable def E_f37 (k : Nat) : Env := ⟨Tryz.prog,G0,snil,tnil,tnil,unil,k,qcons 53 (f53_q k) (qnil),false⟩
theorem f37_run (k : Nat) (x : (lTy (lay 0 (f37_sig k).ins)).den) : runF (E_f37 k) Tryz.f37 (f37_sig k) x = (f37_sig k).F x := by kernel_rfl
theorem f37_ok [Dr] (k : Nat) : FnOK Tryz.prog G0 37 (f37_sig k) :=
  fn_ok2 (E := E_f37 k) (env_nil) (qenv_cons (f53_qok k) (qenv_nil)) mixed Tryz.func37 Tryz.call37 (by kernel_rfl) (by kernel_rfl) (m := 0) (by kernel_rfl) trivial (sk := []) (by kernel_rfl) trivial (f37_run k)
noncomputable def f11 (k : Nat) (x0 : ByteArray×Int×Int×(List (Int×Int×Int×(List (Int×Int×Int×Int×Unit))×Unit))×(List Int)×Bool×Bool×(List (Int×Int×Int×Bool×Unit))×Int×Int×Int×Unit) (x1 : (List (Int×Int×Unit))×Int×Int×Unit) (x2 : Int) : Option ((((ByteArray×Int×Int×(List (Int×Int×Int×(List (Int×Int×Int×Int×Unit))×Unit))×(List Int)×Bool×Bool×(List (Int×Int×Int×Bool×Unit))×Int×Int×Int×Unit)×((List (Int×Int×Unit))×Int×Int×Unit)×((ByteArray×Int×Int×(List (Int×Int×Int×(List (Int×Int×Int×Int×Unit))×Unit))×(List Int)×Bool×Bool×(List (Int×Int×Int×Bool×Unit))×Int×Int×Int×Unit)×(List ((List Int)×((List Int)×(List Int)×Unit)×Int×Int×Unit))×(List (Int×Int×Int×Unit))×Unit)×((List (Int×Int×Int×Unit))×Int×Int×((Int×Int×Unit)×(Int×Int×Unit)×(Int×Int×Unit)×Int×Int×Bool×Int×Unit)×((Int×Int×Unit)×((Int×Int×Unit)×(Int×Int×Unit)×Unit)×Unit)×(List (Int×(Int×Int×Int×Unit)×Unit))×Unit)×Int×(List (ByteArray×Int×Unit))×Unit)×Int×Unit) ⊕ (Unit×Int×Unit)) :=
  (f30 k x0).bind fun q21 =>
  Sum.elim
  (fun y1 =>
  bif y1.2.1 != 0 then
  some (.inr ((),y1.2))
  else
  (f31 k x1 x2).bind fun r2 =>
  bif r2.2.1 != 0 then
  some (.inr ((),r2.2))
  else
  (f32 k x1.1).bind fun r3 =>
  (f33 k x0).bind fun r4 =>
  (f34 k).bind fun r5 =>
  (f36 k x2).bind fun r6 =>
  bif fitsS (⟨#[115,116,97,114,116,32]⟩ : ByteArray) r6.1 then
  (f35 k [] ((⟨#[115,116,97,114,116,32]⟩ : ByteArray) ++ r6.1)).bind fun r7 =>
  (f37 k (r4.1,(r3.1,x1.2),y1.1,([],0,0,r2.1,r5.1,[],()),x2,r7.1,())).bind fun r8 =>
  some (.inl (r8.1,0,()))
  else
  none)
  (fun y9 =>
  bif y9.2.1 != 0 then
  some (.inr ((),y9.2))
  else
  (f31 k x1 x2).bind fun r10 =>
  bif r10.2.1 != 0 then
  some (.inr ((),r10.2))
  else
  (f32 k x1.1).bind fun r11 =>
  (f33 k x0).bind fun r12 =>
  (f34 k).bind fun r13 =>
  (f36 k x2).bind fun r14 =>
  bif fitsS (⟨#[115,116,97,114,116,32]⟩ : ByteArray) r14.1 then
  (f35 k [] ((⟨#[115,116,97,114,116,32]⟩ : ByteArray) ++ r14.1)).bind fun r15 =>
  none
  else
  none)
  q21
noncomputable def f11_sig (k : Nat) : Sig := ⟨[.val ty73,.val ty37,.val (.int .i64)],[],[[.box 89 ck87,.val (.int .i64)],[.nilp,.val (.int .i64)]],fun x => f11 k x.1 x.2.1 x.2.2.1⟩
noncomputable def E_f11 (k : Nat) : Env := ⟨Tryz.prog,G0,scons 37 [f37_sig k] (scons 36 [f36_sig k] (scons 35 [f35_sig k] (scons 34 [f34_sig k] (scons 33 [f33_sig k] (scons 32 [f32_sig k] (scons 31 [f31_sig k] (scons 30 [f30_sig k] (snil)))))))),tnil,tnil,unil,k,qnil,false⟩
theorem f11_run (k : Nat) (x : (lTy (lay 0 (f11_sig k).ins)).den) : runF (E_f11 k) Tryz.f11 (f11_sig k) x = (f11_sig k).F x := by kernel_rfl
theorem f11_ok [Dr] (k : Nat) : FnOK Tryz.prog G0 11 (f11_sig k) :=
  fn_ok2 (E := E_f11 k) (env_cons (one_sig (f37_ok k)) (env_cons (one_sig (f36_ok k)) (env_cons (one_sig (f35_ok k)) (env_cons (one_sig (f34_ok k)) (env_cons (one_sig (f33_ok k)) (env_cons (one_sig (f32_ok k)) (env_cons (one_sig (f31_ok k)) (env_cons (one_sig (f30_ok k)) (env_nil))))))))) (qenv_nil) mixed Tryz.func11 Tryz.call11 (by kernel_rfl) (by kernel_rfl) (m := 0) (by kernel_rfl) trivial (sk := []) (by kernel_rfl) trivial (f11_run k)
noncomputable def f96 (k : Nat) (x0 : (List (Int×Int×Unit))×Int×Int×Unit) (x1 : (Int×Int×Unit)×(Int×Int×Unit)×(Int×Int×Unit)×Int×Int×Bool×Int×Unit) : Option ((Int×Unit)) :=
  (f66 k x0).bind fun r1 =>
  bif r1.1 != 0 then
  some r1
  else
  bif decide (x1.2.2.2.1 < 0) then
  some (4,())
  else
  bif decide (x1.2.2.2.1 > 1) then
  some (4,())
  else
  bif decide (x1.2.2.2.2.2.2.1 < (-1)) then
  some (4,())
  else
  bif decide (x1.2.2.2.2.2.2.1 > 1) then
  some (4,())
  else
  bif decide (x1.2.2.2.2.1 < 0) then
  some (4,())
  else
  bif decide (x1.2.2.2.2.1 > 100000000) then
  some (4,())
  else
  bif decide (x1.2.2.1.1 < 0) then
  some (4,())
  else
  bif decide (x1.2.2.1.1 ≥ (x0.1.length : Int)) then
  some (4,())
  else
  bif decide (x1.2.1.1 < 0) then
  some (4,())
  else
  bif decide (x1.2.1.1 > 400) then
  some (4,())
  else
  bif decide (x1.1.1 < 0) then
  some (4,())
  else
  bif decide (x1.1.1 > 100000000000) then
  some (4,())
  else
  bif decide (x1.2.2.1.2.1 < 0) then
  some (4,())
  else
  bif decide (x1.2.2.1.2.1 ≥ (x0.1.length : Int)) then
  some (4,())
  else
  bif decide (x1.2.1.2.1 < 0) then
  some (4,())
  else
  bif decide (x1.2.1.2.1 > 400) then
  some (4,())
  else
  bif decide (x1.1.2.1 < 0) then
  some (4,())
  else
  bif decide (x1.1.2.1 > 100000000000) then
  some (4,())
  else
  some (0,())
noncomputable def f96_sig (k : Nat) : Sig := ⟨[.val ty37,.val ty71],[],[[.val (.int .i64)]],fun x => f96 k x.1 x.2.1⟩
noncomputable def E_f96 (k : Nat) : Env := ⟨Tryz.prog,G0,scons 66 [f66_sig k] (snil),tnil,tnil,ucons 7 3 (unil),k,qnil,false⟩
theorem f96_run (k : Nat) (x : (lTy (lay 0 (f96_sig k).ins)).den) : runF (E_f96 k) Tryz.f96 (f96_sig k) x = (f96_sig k).F x := by kernel_rfl
theorem f96_ok [Dr] (k : Nat) : FnOK Tryz.prog G0 96 (f96_sig k) :=
  fn_ok2 (E := E_f96 k) (env_cons (one_sig (f66_ok k)) (env_nil)) (qenv_nil) mixed Tryz.func96 Tryz.call96 (by kernel_rfl) (by kernel_rfl) (m := 1) (by kernel_rfl) ⟨trivial,loop_none (by kernel_rfl)⟩ (sk := []) (by kernel_rfl) trivial (f96_run k)
noncomputable def f63 (k : Nat) (x0 : (List (Int×Int×Unit))×Int×Int×Unit) (x1 : (Int×Int×Unit)×(Int×Int×Unit)×(Int×Int×Unit)×Int×Int×Bool×Int×Unit) (x2 : Int) : Option ((Int×Unit)) :=
  bif x1.2.2.2.2.2.1 then
  some (0,())
  else
  some (if (w64 ((w64 (x2 - x1.2.2.2.2.1)) - x0.2.2.1)) > 0 then w64 ((w64 (x2 - x1.2.2.2.2.1)) - x0.2.2.1) else 0,())
noncomputable def f63_sig (k : Nat) : Sig := ⟨[.val ty37,.val ty71,.val (.int .i64)],[],[[.val (.int .i64)]],fun x => f63 k x.1 x.2.1 x.2.2.1⟩
noncomputable def E_f63 (k : Nat) : Env := ⟨Tryz.prog,G0,snil,tnil,tnil,unil,k,qnil,false⟩
theorem f63_run (k : Nat) (x : (lTy (lay 0 (f63_sig k).ins)).den) : runF (E_f63 k) Tryz.f63 (f63_sig k) x = (f63_sig k).F x := by kernel_rfl
theorem f63_ok [Dr] (k : Nat) : FnOK Tryz.prog G0 63 (f63_sig k) :=
  fn_ok2 (E := E_f63 k) (env_nil) (qenv_nil) mixed Tryz.func63 Tryz.call63 (by kernel_rfl) (by kernel_rfl) (m := 0) (by kernel_rfl) trivial (sk := []) (by kernel_rfl) trivial (f63_run k)
noncomputable def f60 (k : Nat) (x0 : (List (Int×Int×Unit))×Int×Int×Unit) (x1 : (Int×Int×Unit)×(Int×Int×Unit)×(Int×Int×Unit)×Int×Int×Bool×Int×Unit) (x2 : Int) : Option ((((Int×Int×Unit)×(Int×Int×Unit)×(Int×Int×Unit)×Int×Int×Bool×Int×Unit)×Int×Unit)) :=
  (f96 k x0 x1).bind fun r1 =>
  bif r1.1 != 0 then
  some (((0,0,()),(0,0,()),(0,0,()),0,0,false,0,()),r1)
  else
  bif decide (x2 < x1.2.2.2.2.1) then
  some (((0,0,()),(0,0,()),(0,0,()),0,0,false,0,()),11,())
  else
  bif decide (x2 > 100000000) then
  some (((0,0,()),(0,0,()),(0,0,()),0,0,false,0,()),11,())
  else
  bif decide (x1.2.2.2.2.2.2.1 < 0) then
  (f63 k x0 x1 x2).bind fun r2 =>
  bif x1.2.2.2.1 == 0 then
  bif decide (r2.1 > x1.1.1) then
  bif x1.2.2.2.1 == 0 then
  some (((0,x1.1.2),x1.2.1,x1.2.2.1,x1.2.2.2.1,x1.2.2.2.2.1,x1.2.2.2.2.2.1,x1.2.2.2.1,()),0,())
  else
  bif x1.2.2.2.1 == 1 then
  some (((x1.1.1,0,()),x1.2.1,x1.2.2.1,x1.2.2.2.1,x1.2.2.2.2.1,x1.2.2.2.2.2.1,x1.2.2.2.1,()),0,())
  else
  none
  else
  some (x1,0,())
  else
  bif x1.2.2.2.1 == 1 then
  bif decide (r2.1 > x1.1.2.1) then
  bif x1.2.2.2.1 == 0 then
  some (((0,x1.1.2),x1.2.1,x1.2.2.1,x1.2.2.2.1,x1.2.2.2.2.1,x1.2.2.2.2.2.1,x1.2.2.2.1,()),0,())
  else
  bif x1.2.2.2.1 == 1 then
  some (((x1.1.1,0,()),x1.2.1,x1.2.2.1,x1.2.2.2.1,x1.2.2.2.2.1,x1.2.2.2.2.2.1,x1.2.2.2.1,()),0,())
  else
  none
  else
  some (x1,0,())
  else
  none
  else
  some (x1,0,())
noncomputable def f60_sig (k : Nat) : Sig := ⟨[.val ty37,.val ty71,.val (.int .i64)],[],[[.val ty71,.val (.int .i64)]],fun x => f60 k x.1 x.2.1 x.2.2.1⟩
noncomputable def E_f60 (k : Nat) : Env := ⟨Tryz.prog,G0,scons 96 [f96_sig k] (scons 63 [f63_sig k] (snil)),tnil,tnil,unil,k,qnil,false⟩
theorem f60_run (k : Nat) (x : (lTy (lay 0 (f60_sig k).ins)).den) : runF (E_f60 k) Tryz.f60 (f60_sig k) x = (f60_sig k).F x := by kernel_rfl
theorem f60_ok [Dr] (k : Nat) : FnOK Tryz.prog G0 60 (f60_sig k) :=
  fn_ok2 (E := E_f60 k) (env_cons (one_sig (f96_ok k)) (env_cons (one_sig (f63_ok k)) (env_nil))) (qenv_nil) mixed Tryz.func60 Tryz.call60 (by kernel_rfl) (by kernel_rfl) (m := 0) (by kernel_rfl) trivial (sk := []) (by kernel_rfl) trivial (f60_run k)
noncomputable def f41 (k : Nat) (x0 : (ByteArray×Int×Int×(List (Int×Int×Int×(List (Int×Int×Int×Int×Unit))×Unit))×(List Int)×Bool×Bool×(List (Int×Int×Int×Bool×Unit))×Int×Int×Int×Unit)×((List (Int×Int×Unit))×Int×Int×Unit)×((ByteArray×Int×Int×(List (Int×Int×Int×(List (Int×Int×Int×Int×Unit))×Unit))×(List Int)×Bool×Bool×(List (Int×Int×Int×Bool×Unit))×Int×Int×Int×Unit)×(List ((List Int)×((List Int)×(List Int)×Unit)×Int×Int×Unit))×(List (Int×Int×Int×Unit))×Unit)×((List (Int×Int×Int×Unit))×Int×Int×((Int×Int×Unit)×(Int×Int×Unit)×(Int×Int×Unit)×Int×Int×Bool×Int×Unit)×((Int×Int×Unit)×((Int×Int×Unit)×(Int×Int×Unit)×Unit)×Unit)×(List (Int×(Int×Int×Int×Unit)×Unit))×Unit)×Int×(List (ByteArray×Int×Unit))×Unit) (x1 : Int×Int×Int×Int×(Int×Int×Int×Unit)×Unit) : Option ((Int×((ByteArray×Int×Int×(List (Int×Int×Int×(List (Int×Int×Int×Int×Unit))×Unit))×(List Int)×Bool×Bool×(List (Int×Int×Int×Bool×Unit))×Int×Int×Int×Unit)×((List (Int×Int×Unit))×Int×Int×Unit)×((ByteArray×Int×Int×(List (Int×Int×Int×(List (Int×Int×Int×Int×Unit))×Unit))×(List Int)×Bool×Bool×(List (Int×Int×Int×Bool×Unit))×Int×Int×Int×Unit)×(List ((List Int)×((List Int)×(List Int)×Unit)×Int×Int×Unit))×(List (Int×Int×Int×Unit))×Unit)×((List (Int×Int×Int×Unit))×Int×Int×((Int×Int×Unit)×(Int×Int×Unit)×(Int×Int×Unit)×Int×Int×Bool×Int×Unit)×((Int×Int×Unit)×((Int×Int×Unit)×(Int×Int×Unit)×Unit)×Unit)×(List (Int×(Int×Int×Int×Unit)×Unit))×Unit)×Int×(List (ByteArray×Int×Unit))×Unit)×Unit)) :=
  bif decide (x1.1 < 0) then
  some (1,x0,())
  else
  bif decide (x1.1 > 6) then
  some (1,x0,())
  else
  bif decide (x1.2.1 < 0) then
  some (1,x0,())
  else
  bif decide (x1.2.1 > 1) then
  some (1,x0,())
  else
  bif decide (x1.2.2.2.1 < x0.2.2.2.2.1) then
  some (11,x0,())
  else
  bif decide (x1.2.2.2.1 > 100000000) then
  some (11,x0,())
  else
  bif x0.2.2.2.1.2.1 != 0 then
  some (14,x0,())
  else
  bif (x0.2.2.2.2.2.1.length : Int) == 1000 then
  some (9,x0,())
  else
  (f60 k x0.2.1 x0.2.2.2.1.2.2.2.1 x1.2.2.2.1).bind fun r1 =>
  bif r1.2.1 != 0 then
  some (r1.2.1,x0,())
  else
  bif x1.1 == 4 then
  bif decide (r1.1.2.2.2.2.2.2.1 ≥ 0) then
  some (0,x0,())
  else
  some (0,x0,())
  else
  bif x1.1 == 5 then
  bif decide (r1.1.2.2.2.2.2.2.1 ≥ 0) then
  bif !(x1.2.2.1 == 2) then
  some (11,x0,())
  else
  some (0,x0,())
  else
  some (0,x0,())
  else
  bif decide (r1.1.2.2.2.2.2.2.1 ≥ 0) then
  some (11,x0,())
  else
  some (0,x0,())
noncomputable def f41_sig (k : Nat) : Sig := ⟨[.box 89 ck87,.val ty56],[0],[[.val (.int .i64),.box 89 ck87]],fun x => f41 k x.1 x.2.1⟩
noncomputable def E_f41 (k : Nat) : Env := ⟨Tryz.prog,G0,scons 60 [f60_sig k] (snil),tnil,tnil,unil,k,qnil,false⟩
theorem f41_run (k : Nat) (x : (lTy (lay 0 (f41_sig k).ins)).den) : runF (E_f41 k) Tryz.f41 (f41_sig k) x = (f41_sig k).F x := by kernel_rfl
theorem f41_ok [Dr] (k : Nat) : FnOK Tryz.prog G0 41 (f41_sig k) :=
  fn_ok2 (E := E_f41 k) (env_cons (one_sig (f60_ok k)) (env_nil)) (qenv_nil) mixed Tryz.func41 Tryz.call41 (by kernel_rfl) (by kernel_rfl) (m := 0) (by kernel_rfl) trivial (sk := []) (by kernel_rfl) trivial (f41_run k)
noncomputable def f38 (k : Nat) (x0 : (ByteArray×Int×Int×(List (Int×Int×Int×(List (Int×Int×Int×Int×Unit))×Unit))×(List Int)×Bool×Bool×(List (Int×Int×Int×Bool×Unit))×Int×Int×Int×Unit)×(List ((List Int)×((List Int)×(List Int)×Unit)×Int×Int×Unit))×(List (Int×Int×Int×Unit))×Unit) : Option (((List (Int×Int×Int×Unit))×((ByteArray×Int×Int×(List (Int×Int×Int×(List (Int×Int×Int×Int×Unit))×Unit))×(List Int)×Bool×Bool×(List (Int×Int×Int×Bool×Unit))×Int×Int×Int×Unit)×(List ((List Int)×((List Int)×(List Int)×Unit)×Int×Int×Unit))×(List (Int×Int×Int×Unit))×Unit)×Unit)) :=
  bif decide (x0.2.2.1.length * 24 ≤ roomN) then
  some (x0.2.2.1,x0,())
  else
  none
noncomputable def f38_sig (k : Nat) : Sig := ⟨[.box 140 ck82],[0],[[.row ty23,.box 140 ck82]],fun x => f38 k x.1⟩
noncomputable def E_f38 (k : Nat) : Env := ⟨Tryz.prog,G0,snil,tnil,tnil,unil,k,qnil,false⟩
theorem f38_run (k : Nat) (x : (lTy (lay 0 (f38_sig k).ins)).den) : runF (E_f38 k) Tryz.f38 (f38_sig k) x = (f38_sig k).F x := by kernel_rfl
theorem f38_ok [Dr] (k : Nat) : FnOK Tryz.prog G0 38 (f38_sig k) :=
  fn_ok2 (E := E_f38 k) (env_nil) (qenv_nil) mixed Tryz.func38 Tryz.call38 (by kernel_rfl) (by kernel_rfl) (m := 0) (by kernel_rfl) trivial (sk := []) (by kernel_rfl) trivial (f38_run k)
noncomputable def f47 (k : Nat) (x0 : (ByteArray×Int×Int×(List (Int×Int×Int×(List (Int×Int×Int×Int×Unit))×Unit))×(List Int)×Bool×Bool×(List (Int×Int×Int×Bool×Unit))×Int×Int×Int×Unit)×((List (Int×Int×Unit))×Int×Int×Unit)×((ByteArray×Int×Int×(List (Int×Int×Int×(List (Int×Int×Int×Int×Unit))×Unit))×(List Int)×Bool×Bool×(List (Int×Int×Int×Bool×Unit))×Int×Int×Int×Unit)×(List ((List Int)×((List Int)×(List Int)×Unit)×Int×Int×Unit))×(List (Int×Int×Int×Unit))×Unit)×((List (Int×Int×Int×Unit))×Int×Int×((Int×Int×Unit)×(Int×Int×Unit)×(Int×Int×Unit)×Int×Int×Bool×Int×Unit)×((Int×Int×Unit)×((Int×Int×Unit)×(Int×Int×Unit)×Unit)×Unit)×(List (Int×(Int×Int×Int×Unit)×Unit))×Unit)×Int×(List (ByteArray×Int×Unit))×Unit) : Option ((Int×((ByteArray×Int×Int×(List (Int×Int×Int×(List (Int×Int×Int×Int×Unit))×Unit))×(List Int)×Bool×Bool×(List (Int×Int×Int×Bool×Unit))×Int×Int×Int×Unit)×((List (Int×Int×Unit))×Int×Int×Unit)×((ByteArray×Int×Int×(List (Int×Int×Int×(List (Int×Int×Int×Int×Unit))×Unit))×(List Int)×Bool×Bool×(List (Int×Int×Int×Bool×Unit))×Int×Int×Int×Unit)×(List ((List Int)×((List Int)×(List Int)×Unit)×Int×Int×Unit))×(List (Int×Int×Int×Unit))×Unit)×((List (Int×Int×Int×Unit))×Int×Int×((Int×Int×Unit)×(Int×Int×Unit)×(Int×Int×Unit)×Int×Int×Bool×Int×Unit)×((Int×Int×Unit)×((Int×Int×Unit)×(Int×Int×Unit)×Unit)×Unit)×(List (Int×(Int×Int×Int×Unit)×Unit))×Unit)×Int×(List (ByteArray×Int×Unit))×Unit)×Unit)) :=
  (f38 k x0.2.2.1).bind fun r1 =>
  some ((r1.1.length : Int).tmod 2,(x0.1,x0.2.1,r1.2.1,x0.2.2.2),())
noncomputable def f47_sig (k : Nat) : Sig := ⟨[.box 89 ck87],[0],[[.val (.int .i64),.box 89 ck87]],fun x => f47 k x.1⟩
noncomputable def E_f47 (k : Nat) : Env := ⟨Tryz.prog,G0,scons 38 [f38_sig k] (snil),tnil,tnil,unil,k,qnil,false⟩
theorem f47_run (k : Nat) (x : (lTy (lay 0 (f47_sig k).ins)).den) : runF (E_f47 k) Tryz.f47 (f47_sig k) x = (f47_sig k).F x := by kernel_rfl
theorem f47_ok [Dr] (k : Nat) : FnOK Tryz.prog G0 47 (f47_sig k) :=
  fn_ok2 (E := E_f47 k) (env_cons (one_sig (f38_ok k)) (env_nil)) (qenv_nil) mixed Tryz.func47 Tryz.call47 (by kernel_rfl) (by kernel_rfl) (m := 0) (by kernel_rfl) trivial (sk := []) (by kernel_rfl) trivial (f47_run k)
noncomputable def f90 (k : Nat) (x0 : (List Int)×((List Int)×(List Int)×Unit)×Int×Int×Unit) : Option ((((List Int)×((List Int)×(List Int)×Unit)×Int×Int×Unit)×Unit)) :=
  (f68 k x0.1).bind fun r1 =>
  (f68 k x0.2.1.1).bind fun r2 =>
  (f68 k x0.2.1.2.1).bind fun r3 =>
  some ((r1.1,(r2.1,r3),x0.2.2),())
noncomputable def f90_sig (k : Nat) : Sig := ⟨[.val ty49],[],[[.cons ck2 ck46]],fun x => f90 k x.1⟩
noncomputable def E_f90 (k : Nat) : Env := ⟨Tryz.prog,G0,scons 68 [f68_sig k] (snil),tnil,tnil,ucons 3 3 (unil),k,qnil,false⟩
theorem f90_run (k : Nat) (x : (lTy (lay 0 (f90_sig k).ins)).den) : runF (E_f90 k) Tryz.f90 (f90_sig k) x = (f90_sig k).F x := by kernel_rfl
theorem f90_ok [Dr] (k : Nat) : FnOK Tryz.prog G0 90 (f90_sig k) :=
  fn_ok2 (E := E_f90 k) (env_cons (one_sig (f68_ok k)) (env_nil)) (qenv_nil) mixed Tryz.func90 Tryz.call90 (by kernel_rfl) (by kernel_rfl) (m := 1) (by kernel_rfl) ⟨trivial,loop_none (by kernel_rfl)⟩ (sk := []) (by kernel_rfl) trivial (f90_run k)
noncomputable def f52 (k : Nat) (x0 : (ByteArray×Int×Int×(List (Int×Int×Int×(List (Int×Int×Int×Int×Unit))×Unit))×(List Int)×Bool×Bool×(List (Int×Int×Int×Bool×Unit))×Int×Int×Int×Unit)×(List ((List Int)×((List Int)×(List Int)×Unit)×Int×Int×Unit))×(List (Int×Int×Int×Unit))×Unit) : Option ((((List Int)×((List Int)×(List Int)×Unit)×Int×Int×Unit)×Unit)) :=
  (f89 k x0).bind fun r1 =>
  (f90 k r1.1).bind fun r2 =>
  some r2
noncomputable def f52_sig (k : Nat) : Sig := ⟨[.view ty81],[],[[.cons ck2 ck46]],fun x => f52 k x.1⟩
noncomputable def E_f52 (k : Nat) : Env := ⟨Tryz.prog,G0,scons 90 [f90_sig k] (scons 89 [f89_sig k] (snil)),tnil,tnil,unil,k,qnil,false⟩
theorem f52_run (k : Nat) (x : (lTy (lay 0 (f52_sig k).ins)).den) : runF (E_f52 k) Tryz.f52 (f52_sig k) x = (f52_sig k).F x := by kernel_rfl
theorem f52_ok [Dr] (k : Nat) : FnOK Tryz.prog G0 52 (f52_sig k) :=
  fn_ok2 (E := E_f52 k) (env_cons (one_sig (f90_ok k)) (env_cons (one_sig (f89_ok k)) (env_nil))) (qenv_nil) mixed Tryz.func52 Tryz.call52 (by kernel_rfl) (by kernel_rfl) (m := 0) (by kernel_rfl) trivial (sk := []) (by kernel_rfl) trivial (f52_run k)
noncomputable def f52_q (k : Nat) : QFun := mkW [.view (.pair (.pair (.str) (.pair (.int .i64) (.pair (.int .i64) (.pair (.sl (.pair (.int .u8) (.pair (.int .i64) (.pair (.int .i64) (.pair (.sl (.pair (.int .i64) (.pair (.int .i64) (.pair (.int .i64) (.pair (.int .i64) (.unit)))))) (.unit)))))) (.pair (.sl (.int .i64)) (.pair (.bool) (.pair (.bool) (.pair (.sl (.pair (.int .i64) (.pair (.int .i64) (.pair (.int .i64) (.pair (.bool) (.unit)))))) (.pair (.int .i64) (.pair (.int .i64) (.pair (.int .i64) (.unit)))))))))))) (.pair (.sl (.pair (.sl (.int .i64)) (.pair (.pair (.sl (.int .i64)) (.pair (.sl (.int .i64)) (.unit))) (.pair (.int .i64) (.pair (.int .i64) (.unit)))))) (.pair (.sl (.pair (.int .i64) (.pair (.int .i64) (.pair (.int .i64) (.unit))))) (.unit))))] (.cons (.row (.int .i64)) (.cons (.cons (.row (.int .i64)) (.cons (.row (.int .i64)) (.nil))) (.cons (.val (.int .i64)) (.cons (.val (.int .i64)) (.nil))))) (fun x => f52 k x.1)
theorem f52_qok [Dr] (k : Nat) : QOK Tryz.prog G0 52 (f52_q k) := w_ok (f52_ok k)
noncomputable def l107_2 (k : Nat) : Nat → (List (Int×Int×Int×Unit)) → (Int×Int×Int×Unit) → Int → Int → Option (Unit ⊕ (Int×Unit))
 | 0,_,_,_,_ => none
 | j + 1,s0,s3,s7,s8 =>
  bif decide (s8 < s7) then
  bif decide (0 ≤ s8) && decide (s8 < (s0.length : Int)) then
  bif (s3.1 == (rd ((0,0,0,()) : Int×Int×Int×Unit) s0 s8).1) && ((s3.2.1 == (rd ((0,0,0,()) : Int×Int×Int×Unit) s0 s8).2.1) && ((s3.2.2.1 == (rd ((0,0,0,()) : Int×Int×Int×Unit) s0 s8).2.2.1) && true)) then
  some (.inr (s8,()))
  else
  l107_2 k j s0 s3 s7 (w64 (s8 + 1))
  else
  none
  else
  some (.inl ())
noncomputable def l107_2_sig (k : Nat) : LoopSig := ⟨[(0,.obj (.val (.sl ty23))),(3,.obj ck28),(7,.obj ck1),(8,.obj ck1)],[(.exit 0,[]),(.ret,[(4,.obj ck1)])],fun j x => l107_2 k j x.1 x.2.1 x.2.2.1 x.2.2.2.1⟩
noncomputable def f107 (k : Nat) (x0 : List (Int×Int×Int×Unit)) (x1 : Int×Int×Int×Unit) : Option ((Int×Unit)) :=
  (l107_2 k k x0 x1 (x0.length : Int) 0).bind fun q22 =>
  Sum.elim
  (fun y1 =>
  some ((-1),()))
  (fun y2 =>
  some y2)
  q22
noncomputable def f107_sig (k : Nat) : Sig := ⟨[.val (.sl ty23),.val ty23],[],[[.val (.int .i64)]],fun x => f107 k x.1 x.2.1⟩
noncomputable def E_f107 (k : Nat) : Env := ⟨Tryz.prog,G0,snil,tcons 2 (l107_2_sig k) (tnil),tnil,unil,k,qnil,false⟩
theorem l107_2_ok (k : Nat) : LoopOK (E_f107 k) ⟨Tryz.f107.ntmps,[],G0⟩ (nthC 0 (loopsIn (Tryz.f107.body.getD .skip))) :=
  loop_ok (ls := l107_2_sig k) (by kernel_rfl) (fun _ => by kernel_rfl) (fun j x => by kernel_rfl)
theorem f107_run (k : Nat) (x : (lTy (lay 0 (f107_sig k).ins)).den) : runF (E_f107 k) Tryz.f107 (f107_sig k) x = (f107_sig k).F x := by kernel_rfl
theorem f107_ok [Dr] (k : Nat) : FnOK Tryz.prog G0 107 (f107_sig k) :=
  fn_ok2 (E := E_f107 k) (env_nil) (qenv_nil) mixed Tryz.func107 Tryz.call107 (by kernel_rfl) (by kernel_rfl) (m := 1) (by kernel_rfl) ⟨trivial,l107_2_ok k⟩ (sk := []) (by kernel_rfl) trivial (f107_run k)
noncomputable def f74 (k : Nat) (x0 : List (Int×Int×Int×Unit)) (x1 : Int×Int×Int×Unit) : Option ((Bool×Unit)) :=
  (f107 k x0 x1).bind fun r1 =>
  some (decide (r1.1 ≥ 0),())
noncomputable def f74_sig (k : Nat) : Sig := ⟨[.val (.sl ty23),.val ty23],[],[[.val (.bool)]],fun x => f74 k x.1 x.2.1⟩
noncomputable def E_f74 (k : Nat) : Env := ⟨Tryz.prog,G0,scons 107 [f107_sig k] (snil),tnil,tnil,unil,k,qnil,false⟩
theorem f74_run (k : Nat) (x : (lTy (lay 0 (f74_sig k).ins)).den) : runF (E_f74 k) Tryz.f74 (f74_sig k) x = (f74_sig k).F x := by kernel_rfl
theorem f74_ok [Dr] (k : Nat) : FnOK Tryz.prog G0 74 (f74_sig k) :=
  fn_ok2 (E := E_f74 k) (env_cons (one_sig (f107_ok k)) (env_nil)) (qenv_nil) mixed Tryz.func74 Tryz.call74 (by kernel_rfl) (by kernel_rfl) (m := 0) (by kernel_rfl) trivial (sk := []) (by kernel_rfl) trivial (f74_run k)
noncomputable def c115_15 (k : Nat) (s2 : Int) (s3 : (List (Int×Int×Unit))×Int×Int×Unit) (s6 : (Int×Int×Unit)×(Int×Int×Unit)×(Int×Int×Unit)×Int×Int×Bool×Int×Unit) (s8 : (Int×Int×Unit)×(Int×Int×Unit)×(Int×Int×Unit)×Int×Int×Bool×Int×Unit) (s10 : Int) : Option ((Int×((Int×Int×Unit)×(Int×Int×Unit)×(Int×Int×Unit)×Int×Int×Bool×Int×Unit)×((Int×Int×Unit)×(Int×Int×Unit)×(Int×Int×Unit)×Int×Int×Bool×Int×Unit)×Int×Unit)) :=
  bif s10 == 0 then
    bif s10 == 0 then
      bif decide (0 ≤ s8.2.2.1.1) && decide (s8.2.2.1.1 < (s3.1.length : Int)) then
        bif s10 == 0 then
          some (s2,s6,((w64 (s8.1.1 + (rd ((0,0,()) : Int×Int×Unit) s3.1 s8.2.2.1.1).2.1),s8.1.2),s8.2),s10,())
        else
        bif s10 == 1 then
          some (s2,s6,((s8.1.1,w64 (s8.1.1 + (rd ((0,0,()) : Int×Int×Unit) s3.1 s8.2.2.1.1).2.1),()),s8.2),s10,())
        else
          none
      else
        none
    else
    bif s10 == 1 then
      bif decide (0 ≤ s8.2.2.1.2.1) && decide (s8.2.2.1.2.1 < (s3.1.length : Int)) then
        bif s10 == 0 then
          some (s2,s6,((w64 (s8.1.1 + (rd ((0,0,()) : Int×Int×Unit) s3.1 s8.2.2.1.2.1).2.1),s8.1.2),s8.2),s10,())
        else
        bif s10 == 1 then
          some (s2,s6,((s8.1.1,w64 (s8.1.1 + (rd ((0,0,()) : Int×Int×Unit) s3.1 s8.2.2.1.2.1).2.1),()),s8.2),s10,())
        else
          none
      else
        none
    else
      none
  else
  bif s10 == 1 then
    bif s10 == 0 then
      bif decide (0 ≤ s8.2.2.1.1) && decide (s8.2.2.1.1 < (s3.1.length : Int)) then
        bif s10 == 0 then
          some (s2,s6,((w64 (s8.1.2.1 + (rd ((0,0,()) : Int×Int×Unit) s3.1 s8.2.2.1.1).2.1),s8.1.2),s8.2),s10,())
        else
        bif s10 == 1 then
          some (s2,s6,((s8.1.1,w64 (s8.1.2.1 + (rd ((0,0,()) : Int×Int×Unit) s3.1 s8.2.2.1.1).2.1),()),s8.2),s10,())
        else
          none
      else
        none
    else
    bif s10 == 1 then
      bif decide (0 ≤ s8.2.2.1.2.1) && decide (s8.2.2.1.2.1 < (s3.1.length : Int)) then
        bif s10 == 0 then
          some (s2,s6,((w64 (s8.1.2.1 + (rd ((0,0,()) : Int×Int×Unit) s3.1 s8.2.2.1.2.1).2.1),s8.1.2),s8.2),s10,())
        else
        bif s10 == 1 then
          some (s2,s6,((s8.1.1,w64 (s8.1.2.1 + (rd ((0,0,()) : Int×Int×Unit) s3.1 s8.2.2.1.2.1).2.1),()),s8.2),s10,())
        else
          none
      else
        none
    else
      none
  else
    none
noncomputable def c115_15_sig (k : Nat) : LoopSig := ⟨[(2,.obj ck1),(3,.obj ck45),(6,.obj ck72),(8,.obj ck72),(10,.obj ck1)],[(.normal,[(2,.obj ck1),(6,.obj ck72),(8,.obj ck72),(10,.obj ck1)])],fun _ x => c115_15 k x.1 x.2.1 x.2.2.1 x.2.2.2.1 x.2.2.2.2.1⟩
noncomputable def c115_12 (k : Nat) (s2 : Int) (s3 : (List (Int×Int×Unit))×Int×Int×Unit) (s6 : (Int×Int×Unit)×(Int×Int×Unit)×(Int×Int×Unit)×Int×Int×Bool×Int×Unit) (s8 : (Int×Int×Unit)×(Int×Int×Unit)×(Int×Int×Unit)×Int×Int×Bool×Int×Unit) (s10 : Int) (s11 : Int×Int×Unit) : Option ((Int×((Int×Int×Unit)×(Int×Int×Unit)×(Int×Int×Unit)×Int×Int×Bool×Int×Unit)×((Int×Int×Unit)×(Int×Int×Unit)×(Int×Int×Unit)×Int×Int×Bool×Int×Unit)×Int×Unit)) :=
  bif decide (s11.1 > 0) then
    bif s10 == 0 then
      bif decide (s8.2.1.1 ≥ s11.1) then
        bif s10 == 0 then
          bif s10 == 0 then
            bif s10 == 0 then
              (c115_15 k s2 s3 s6 (s8.1,(0,s8.2.1.2),(w64 (s8.2.2.1.1 + 1),s8.2.2.1.2),s8.2.2.2) s10).bind fun o1 =>
              some o1
            else
            bif s10 == 1 then
              (c115_15 k s2 s3 s6 (s8.1,(s8.2.1.1,0,()),(w64 (s8.2.2.1.1 + 1),s8.2.2.1.2),s8.2.2.2) s10).bind fun o2 =>
              some o2
            else
              none
          else
          bif s10 == 1 then
            bif s10 == 0 then
              (c115_15 k s2 s3 s6 (s8.1,(0,s8.2.1.2),(s8.2.2.1.1,w64 (s8.2.2.1.1 + 1),()),s8.2.2.2) s10).bind fun o3 =>
              some o3
            else
            bif s10 == 1 then
              (c115_15 k s2 s3 s6 (s8.1,(s8.2.1.1,0,()),(s8.2.2.1.1,w64 (s8.2.2.1.1 + 1),()),s8.2.2.2) s10).bind fun o4 =>
              some o4
            else
              none
          else
            none
        else
        bif s10 == 1 then
          bif s10 == 0 then
            bif s10 == 0 then
              (c115_15 k s2 s3 s6 (s8.1,(0,s8.2.1.2),(w64 (s8.2.2.1.2.1 + 1),s8.2.2.1.2),s8.2.2.2) s10).bind fun o5 =>
              some o5
            else
            bif s10 == 1 then
              (c115_15 k s2 s3 s6 (s8.1,(s8.2.1.1,0,()),(w64 (s8.2.2.1.2.1 + 1),s8.2.2.1.2),s8.2.2.2) s10).bind fun o6 =>
              some o6
            else
              none
          else
          bif s10 == 1 then
            bif s10 == 0 then
              (c115_15 k s2 s3 s6 (s8.1,(0,s8.2.1.2),(s8.2.2.1.1,w64 (s8.2.2.1.2.1 + 1),()),s8.2.2.2) s10).bind fun o7 =>
              some o7
            else
            bif s10 == 1 then
              (c115_15 k s2 s3 s6 (s8.1,(s8.2.1.1,0,()),(s8.2.2.1.1,w64 (s8.2.2.1.2.1 + 1),()),s8.2.2.2) s10).bind fun o8 =>
              some o8
            else
              none
          else
            none
        else
          none
      else
        some (s2,s6,s8,s10,())
    else
    bif s10 == 1 then
      bif decide (s8.2.1.2.1 ≥ s11.1) then
        bif s10 == 0 then
          bif s10 == 0 then
            bif s10 == 0 then
              (c115_15 k s2 s3 s6 (s8.1,(0,s8.2.1.2),(w64 (s8.2.2.1.1 + 1),s8.2.2.1.2),s8.2.2.2) s10).bind fun o9 =>
              some o9
            else
            bif s10 == 1 then
              (c115_15 k s2 s3 s6 (s8.1,(s8.2.1.1,0,()),(w64 (s8.2.2.1.1 + 1),s8.2.2.1.2),s8.2.2.2) s10).bind fun o10 =>
              some o10
            else
              none
          else
          bif s10 == 1 then
            bif s10 == 0 then
              (c115_15 k s2 s3 s6 (s8.1,(0,s8.2.1.2),(s8.2.2.1.1,w64 (s8.2.2.1.1 + 1),()),s8.2.2.2) s10).bind fun o11 =>
              some o11
            else
            bif s10 == 1 then
              (c115_15 k s2 s3 s6 (s8.1,(s8.2.1.1,0,()),(s8.2.2.1.1,w64 (s8.2.2.1.1 + 1),()),s8.2.2.2) s10).bind fun o12 =>
              some o12
            else
              none
          else
            none
        else
        bif s10 == 1 then
          bif s10 == 0 then
            bif s10 == 0 then
              (c115_15 k s2 s3 s6 (s8.1,(0,s8.2.1.2),(w64 (s8.2.2.1.2.1 + 1),s8.2.2.1.2),s8.2.2.2) s10).bind fun o13 =>
              some o13
            else
            bif s10 == 1 then
              (c115_15 k s2 s3 s6 (s8.1,(s8.2.1.1,0,()),(w64 (s8.2.2.1.2.1 + 1),s8.2.2.1.2),s8.2.2.2) s10).bind fun o14 =>
              some o14
            else
              none
          else
          bif s10 == 1 then
            bif s10 == 0 then
              (c115_15 k s2 s3 s6 (s8.1,(0,s8.2.1.2),(s8.2.2.1.1,w64 (s8.2.2.1.2.1 + 1),()),s8.2.2.2) s10).bind fun o15 =>
              some o15
            else
            bif s10 == 1 then
              (c115_15 k s2 s3 s6 (s8.1,(s8.2.1.1,0,()),(s8.2.2.1.1,w64 (s8.2.2.1.2.1 + 1),()),s8.2.2.2) s10).bind fun o16 =>
              some o16
            else
              none
          else
            none
        else
          none
      else
        some (s2,s6,s8,s10,())
    else
      none
  else
    some (s2,s6,s8,s10,())
noncomputable def c115_12_sig (k : Nat) : LoopSig := ⟨[(2,.obj ck1),(3,.obj ck45),(6,.obj ck72),(8,.obj ck72),(10,.obj ck1),(11,.obj (.box 77 (.val ty13)))],[(.normal,[(2,.obj ck1),(6,.obj ck72),(8,.obj ck72),(10,.obj ck1)])],fun _ x => c115_12 k x.1 x.2.1 x.2.2.1 x.2.2.2.1 x.2.2.2.2.1 x.2.2.2.2.2.1⟩
noncomputable def c115_11 (k : Nat) (s2 : Int) (s3 : (List (Int×Int×Unit))×Int×Int×Unit) (s6 : (Int×Int×Unit)×(Int×Int×Unit)×(Int×Int×Unit)×Int×Int×Bool×Int×Unit) (s8 : (Int×Int×Unit)×(Int×Int×Unit)×(Int×Int×Unit)×Int×Int×Bool×Int×Unit) (s10 : Int) : Option ((((Int×Int×Unit)×(Int×Int×Unit)×(Int×Int×Unit)×Int×Int×Bool×Int×Unit)×Int×Unit)) :=
  bif s10 == 0 then
    bif decide (0 ≤ s8.2.2.1.1) && decide (s8.2.2.1.1 < (s3.1.length : Int)) then
      (c115_12 k s2 s3 s6 s8 s10 (rd ((0,0,()) : Int×Int×Unit) s3.1 s8.2.2.1.1)).bind fun o1 =>
      bif o1.2.2.2.1 == 0 then
        bif o1.2.2.2.1 == 0 then
          some (((if 100000000000 < o1.2.2.1.1.1 then 100000000000 else o1.2.2.1.1.1,o1.2.2.1.1.2),o1.2.2.1.2.1,o1.2.2.1.2.2.1,w64 (1 - o1.2.2.2.1),o1.1,o1.2.2.1.2.2.2.2.2),0,())
        else
        bif o1.2.2.2.1 == 1 then
          some (((o1.2.2.1.1.1,if 100000000000 < o1.2.2.1.1.1 then 100000000000 else o1.2.2.1.1.1,()),o1.2.2.1.2.1,o1.2.2.1.2.2.1,w64 (1 - o1.2.2.2.1),o1.1,o1.2.2.1.2.2.2.2.2),0,())
        else
          none
      else
      bif o1.2.2.2.1 == 1 then
        bif o1.2.2.2.1 == 0 then
          some (((if 100000000000 < o1.2.2.1.1.2.1 then 100000000000 else o1.2.2.1.1.2.1,o1.2.2.1.1.2),o1.2.2.1.2.1,o1.2.2.1.2.2.1,w64 (1 - o1.2.2.2.1),o1.1,o1.2.2.1.2.2.2.2.2),0,())
        else
        bif o1.2.2.2.1 == 1 then
          some (((o1.2.2.1.1.1,if 100000000000 < o1.2.2.1.1.2.1 then 100000000000 else o1.2.2.1.1.2.1,()),o1.2.2.1.2.1,o1.2.2.1.2.2.1,w64 (1 - o1.2.2.2.1),o1.1,o1.2.2.1.2.2.2.2.2),0,())
        else
          none
      else
        none
    else
      none
  else
  bif s10 == 1 then
    bif decide (0 ≤ s8.2.2.1.2.1) && decide (s8.2.2.1.2.1 < (s3.1.length : Int)) then
      (c115_12 k s2 s3 s6 s8 s10 (rd ((0,0,()) : Int×Int×Unit) s3.1 s8.2.2.1.2.1)).bind fun o2 =>
      bif o2.2.2.2.1 == 0 then
        bif o2.2.2.2.1 == 0 then
          some (((if 100000000000 < o2.2.2.1.1.1 then 100000000000 else o2.2.2.1.1.1,o2.2.2.1.1.2),o2.2.2.1.2.1,o2.2.2.1.2.2.1,w64 (1 - o2.2.2.2.1),o2.1,o2.2.2.1.2.2.2.2.2),0,())
        else
        bif o2.2.2.2.1 == 1 then
          some (((o2.2.2.1.1.1,if 100000000000 < o2.2.2.1.1.1 then 100000000000 else o2.2.2.1.1.1,()),o2.2.2.1.2.1,o2.2.2.1.2.2.1,w64 (1 - o2.2.2.2.1),o2.1,o2.2.2.1.2.2.2.2.2),0,())
        else
          none
      else
      bif o2.2.2.2.1 == 1 then
        bif o2.2.2.2.1 == 0 then
          some (((if 100000000000 < o2.2.2.1.1.2.1 then 100000000000 else o2.2.2.1.1.2.1,o2.2.2.1.1.2),o2.2.2.1.2.1,o2.2.2.1.2.2.1,w64 (1 - o2.2.2.2.1),o2.1,o2.2.2.1.2.2.2.2.2),0,())
        else
        bif o2.2.2.2.1 == 1 then
          some (((o2.2.2.1.1.1,if 100000000000 < o2.2.2.1.1.2.1 then 100000000000 else o2.2.2.1.1.2.1,()),o2.2.2.1.2.1,o2.2.2.1.2.2.1,w64 (1 - o2.2.2.2.1),o2.1,o2.2.2.1.2.2.2.2.2),0,())
        else
          none
      else
        none
    else
      none
  else
    none
noncomputable def c115_11_sig (k : Nat) : LoopSig := ⟨[(2,.obj ck1),(3,.obj ck45),(6,.obj ck72),(8,.obj ck72),(10,.obj ck1)],[(.ret,[(6,.obj ck72),(7,.obj ck1)])],fun _ x => c115_11 k x.1 x.2.1 x.2.2.1 x.2.2.2.1 x.2.2.2.2.1⟩
noncomputable def f115 (k : Nat) (x0 : (List (Int×Int×Unit))×Int×Int×Unit) (x1 : (Int×Int×Unit)×(Int×Int×Unit)×(Int×Int×Unit)×Int×Int×Bool×Int×Unit) (x2 : Int) : Option ((((Int×Int×Unit)×(Int×Int×Unit)×(Int×Int×Unit)×Int×Int×Bool×Int×Unit)×Int×Unit)) :=
  (f60 k x0 x1 x2).bind fun r1 =>
  bif r1.2.1 != 0 then
  some (((0,0,()),(0,0,()),(0,0,()),0,0,false,0,()),r1.2)
  else
  bif decide (r1.1.2.2.2.2.2.2.1 ≥ 0) then
  some (((0,0,()),(0,0,()),(0,0,()),0,0,false,0,()),14,())
  else
  bif r1.1.2.2.2.2.2.1 then
  some (((0,0,()),(0,0,()),(0,0,()),0,0,false,0,()),10,())
  else
  bif r1.1.2.2.2.1 == 0 then
  (f63 k x0 r1.1 x2).bind fun r2 =>
  bif r1.1.2.2.2.1 == 0 then
  bif r1.1.2.2.2.1 == 0 then
  bif r1.1.2.2.2.1 == 0 then
  (c115_11 k x2 x0 ((0,0,()),(0,0,()),(0,0,()),0,0,false,0,()) ((w64 (r1.1.1.1 + (w64 (x0.2.1 - r2.1))),r1.1.1.2),(if 400 < (w64 (r1.1.2.1.1 + 1)) then 400 else w64 (r1.1.2.1.1 + 1),r1.1.2.1.2),r1.1.2.2) r1.1.2.2.2.1).bind fun o3 =>
  some o3
  else
  bif r1.1.2.2.2.1 == 1 then
  (c115_11 k x2 x0 ((0,0,()),(0,0,()),(0,0,()),0,0,false,0,()) ((w64 (r1.1.1.1 + (w64 (x0.2.1 - r2.1))),r1.1.1.2),(r1.1.2.1.1,if 400 < (w64 (r1.1.2.1.1 + 1)) then 400 else w64 (r1.1.2.1.1 + 1),()),r1.1.2.2) r1.1.2.2.2.1).bind fun o4 =>
  some o4
  else
  none
  else
  bif r1.1.2.2.2.1 == 1 then
  bif r1.1.2.2.2.1 == 0 then
  (c115_11 k x2 x0 ((0,0,()),(0,0,()),(0,0,()),0,0,false,0,()) ((w64 (r1.1.1.1 + (w64 (x0.2.1 - r2.1))),r1.1.1.2),(if 400 < (w64 (r1.1.2.1.2.1 + 1)) then 400 else w64 (r1.1.2.1.2.1 + 1),r1.1.2.1.2),r1.1.2.2) r1.1.2.2.2.1).bind fun o5 =>
  some o5
  else
  bif r1.1.2.2.2.1 == 1 then
  (c115_11 k x2 x0 ((0,0,()),(0,0,()),(0,0,()),0,0,false,0,()) ((w64 (r1.1.1.1 + (w64 (x0.2.1 - r2.1))),r1.1.1.2),(r1.1.2.1.1,if 400 < (w64 (r1.1.2.1.2.1 + 1)) then 400 else w64 (r1.1.2.1.2.1 + 1),()),r1.1.2.2) r1.1.2.2.2.1).bind fun o6 =>
  some o6
  else
  none
  else
  none
  else
  bif r1.1.2.2.2.1 == 1 then
  bif r1.1.2.2.2.1 == 0 then
  bif r1.1.2.2.2.1 == 0 then
  (c115_11 k x2 x0 ((0,0,()),(0,0,()),(0,0,()),0,0,false,0,()) ((r1.1.1.1,w64 (r1.1.1.1 + (w64 (x0.2.1 - r2.1))),()),(if 400 < (w64 (r1.1.2.1.1 + 1)) then 400 else w64 (r1.1.2.1.1 + 1),r1.1.2.1.2),r1.1.2.2) r1.1.2.2.2.1).bind fun o7 =>
  some o7
  else
  bif r1.1.2.2.2.1 == 1 then
  (c115_11 k x2 x0 ((0,0,()),(0,0,()),(0,0,()),0,0,false,0,()) ((r1.1.1.1,w64 (r1.1.1.1 + (w64 (x0.2.1 - r2.1))),()),(r1.1.2.1.1,if 400 < (w64 (r1.1.2.1.1 + 1)) then 400 else w64 (r1.1.2.1.1 + 1),()),r1.1.2.2) r1.1.2.2.2.1).bind fun o8 =>
  some o8
  else
  none
  else
  bif r1.1.2.2.2.1 == 1 then
  bif r1.1.2.2.2.1 == 0 then
  (c115_11 k x2 x0 ((0,0,()),(0,0,()),(0,0,()),0,0,false,0,()) ((r1.1.1.1,w64 (r1.1.1.1 + (w64 (x0.2.1 - r2.1))),()),(if 400 < (w64 (r1.1.2.1.2.1 + 1)) then 400 else w64 (r1.1.2.1.2.1 + 1),r1.1.2.1.2),r1.1.2.2) r1.1.2.2.2.1).bind fun o9 =>
  some o9
  else
  bif r1.1.2.2.2.1 == 1 then
  (c115_11 k x2 x0 ((0,0,()),(0,0,()),(0,0,()),0,0,false,0,()) ((r1.1.1.1,w64 (r1.1.1.1 + (w64 (x0.2.1 - r2.1))),()),(r1.1.2.1.1,if 400 < (w64 (r1.1.2.1.2.1 + 1)) then 400 else w64 (r1.1.2.1.2.1 + 1),()),r1.1.2.2) r1.1.2.2.2.1).bind fun o10 =>
  some o10
  else
  none
  else
  none
  else
  none
  else
  bif r1.1.2.2.2.1 == 1 then
  (f63 k x0 r1.1 x2).bind fun r11 =>
  bif r1.1.2.2.2.1 == 0 then
  bif r1.1.2.2.2.1 == 0 then
  bif r1.1.2.2.2.1 == 0 then
  (c115_11 k x2 x0 ((0,0,()),(0,0,()),(0,0,()),0,0,false,0,()) ((w64 (r1.1.1.2.1 + (w64 (x0.2.1 - r11.1))),r1.1.1.2),(if 400 < (w64 (r1.1.2.1.1 + 1)) then 400 else w64 (r1.1.2.1.1 + 1),r1.1.2.1.2),r1.1.2.2) r1.1.2.2.2.1).bind fun o12 =>
  some o12
  else
  bif r1.1.2.2.2.1 == 1 then
  (c115_11 k x2 x0 ((0,0,()),(0,0,()),(0,0,()),0,0,false,0,()) ((w64 (r1.1.1.2.1 + (w64 (x0.2.1 - r11.1))),r1.1.1.2),(r1.1.2.1.1,if 400 < (w64 (r1.1.2.1.1 + 1)) then 400 else w64 (r1.1.2.1.1 + 1),()),r1.1.2.2) r1.1.2.2.2.1).bind fun o13 =>
  some o13
  else
  none
  else
  bif r1.1.2.2.2.1 == 1 then
  bif r1.1.2.2.2.1 == 0 then
  (c115_11 k x2 x0 ((0,0,()),(0,0,()),(0,0,()),0,0,false,0,()) ((w64 (r1.1.1.2.1 + (w64 (x0.2.1 - r11.1))),r1.1.1.2),(if 400 < (w64 (r1.1.2.1.2.1 + 1)) then 400 else w64 (r1.1.2.1.2.1 + 1),r1.1.2.1.2),r1.1.2.2) r1.1.2.2.2.1).bind fun o14 =>
  some o14
  else
  bif r1.1.2.2.2.1 == 1 then
  (c115_11 k x2 x0 ((0,0,()),(0,0,()),(0,0,()),0,0,false,0,()) ((w64 (r1.1.1.2.1 + (w64 (x0.2.1 - r11.1))),r1.1.1.2),(r1.1.2.1.1,if 400 < (w64 (r1.1.2.1.2.1 + 1)) then 400 else w64 (r1.1.2.1.2.1 + 1),()),r1.1.2.2) r1.1.2.2.2.1).bind fun o15 =>
  some o15
  else
  none
  else
  none
  else
  bif r1.1.2.2.2.1 == 1 then
  bif r1.1.2.2.2.1 == 0 then
  bif r1.1.2.2.2.1 == 0 then
  (c115_11 k x2 x0 ((0,0,()),(0,0,()),(0,0,()),0,0,false,0,()) ((r1.1.1.1,w64 (r1.1.1.2.1 + (w64 (x0.2.1 - r11.1))),()),(if 400 < (w64 (r1.1.2.1.1 + 1)) then 400 else w64 (r1.1.2.1.1 + 1),r1.1.2.1.2),r1.1.2.2) r1.1.2.2.2.1).bind fun o16 =>
  some o16
  else
  bif r1.1.2.2.2.1 == 1 then
  (c115_11 k x2 x0 ((0,0,()),(0,0,()),(0,0,()),0,0,false,0,()) ((r1.1.1.1,w64 (r1.1.1.2.1 + (w64 (x0.2.1 - r11.1))),()),(r1.1.2.1.1,if 400 < (w64 (r1.1.2.1.1 + 1)) then 400 else w64 (r1.1.2.1.1 + 1),()),r1.1.2.2) r1.1.2.2.2.1).bind fun o17 =>
  some o17
  else
  none
  else
  bif r1.1.2.2.2.1 == 1 then
  bif r1.1.2.2.2.1 == 0 then
  (c115_11 k x2 x0 ((0,0,()),(0,0,()),(0,0,()),0,0,false,0,()) ((r1.1.1.1,w64 (r1.1.1.2.1 + (w64 (x0.2.1 - r11.1))),()),(if 400 < (w64 (r1.1.2.1.2.1 + 1)) then 400 else w64 (r1.1.2.1.2.1 + 1),r1.1.2.1.2),r1.1.2.2) r1.1.2.2.2.1).bind fun o18 =>
  some o18
  else
  bif r1.1.2.2.2.1 == 1 then
  (c115_11 k x2 x0 ((0,0,()),(0,0,()),(0,0,()),0,0,false,0,()) ((r1.1.1.1,w64 (r1.1.1.2.1 + (w64 (x0.2.1 - r11.1))),()),(r1.1.2.1.1,if 400 < (w64 (r1.1.2.1.2.1 + 1)) then 400 else w64 (r1.1.2.1.2.1 + 1),()),r1.1.2.2) r1.1.2.2.2.1).bind fun o19 =>
  some o19
  else
  none
  else
  none
  else
  none
  else
  none
noncomputable def f115_sig (k : Nat) : Sig := ⟨[.val ty37,.val ty71,.val (.int .i64)],[],[[.val ty71,.val (.int .i64)]],fun x => f115 k x.1 x.2.1 x.2.2.1⟩
noncomputable def E_f115 (k : Nat) : Env := ⟨Tryz.prog,G0,scons 63 [f63_sig k] (scons 60 [f60_sig k] (snil)),tnil,tcons 11 (c115_11_sig k) (tcons 12 (c115_12_sig k) (tcons 15 (c115_15_sig k) (tnil))),unil,k,qnil,false⟩
theorem c115_15_ok (k : Nat) : CutOK (E_f115 k) ⟨Tryz.f115.ntmps,[],G0⟩ (nthC 15 (seqsIn (Tryz.f115.body.getD .skip))) :=
  cut_ok (ls := c115_15_sig k) (by kernel_rfl) (fun x => by kernel_rfl)
theorem c115_12_ok (k : Nat) : CutOK (E_f115 k) ⟨Tryz.f115.ntmps,[],G0⟩ (nthC 12 (seqsIn (Tryz.f115.body.getD .skip))) :=
  cut_ok (ls := c115_12_sig k) (by kernel_rfl) (fun x => by kernel_rfl)
theorem c115_11_ok (k : Nat) : CutOK (E_f115 k) ⟨Tryz.f115.ntmps,[],G0⟩ (nthC 11 (seqsIn (Tryz.f115.body.getD .skip))) :=
  cut_ok (ls := c115_11_sig k) (by kernel_rfl) (fun x => by kernel_rfl)
theorem f115_run (k : Nat) (x : (lTy (lay 0 (f115_sig k).ins)).den) : runF (E_f115 k) Tryz.f115 (f115_sig k) x = (f115_sig k).F x := by kernel_rfl
theorem f115_ok [Dr] (k : Nat) : FnOK Tryz.prog G0 115 (f115_sig k) :=
  fn_ok2 (E := E_f115 k) (env_cons (one_sig (f63_ok k)) (env_cons (one_sig (f60_ok k)) (env_nil))) (qenv_nil) mixed Tryz.func115 Tryz.call115 (by kernel_rfl) (by kernel_rfl) (m := 0) (by kernel_rfl) trivial (sk := [11,12,15]) (by kernel_rfl) ⟨c115_11_ok k,⟨c115_12_ok k,⟨c115_15_ok k,trivial⟩⟩⟩ (f115_run k)
noncomputable def f122 (k : Nat) (x0 : (Int×Int×Unit)×((Int×Int×Unit)×(Int×Int×Unit)×Unit)×Unit) : Option ((Int×Unit)) :=
  bif decide (x0.1.1 < (-1)) then
  some (4,())
  else
  bif decide (x0.1.1 > 1) then
  some (4,())
  else
  bif decide (x0.2.1.1.1 < (-1)) then
  some (4,())
  else
  bif decide (x0.2.1.1.1 > 400) then
  some (4,())
  else
  bif decide (x0.2.1.1.2.1 < (-1)) then
  some (4,())
  else
  bif decide (x0.2.1.1.2.1 > 400) then
  some (4,())
  else
  bif decide (x0.1.1 ≥ 0) then
  bif x0.1.1 == 0 then
  bif decide (x0.2.1.1.1 < 0) then
  some (3,())
  else
  bif decide (x0.1.2.1 < (-1)) then
  some (4,())
  else
  bif decide (x0.1.2.1 > 1) then
  some (4,())
  else
  bif decide (x0.2.1.2.1.1 < (-1)) then
  some (4,())
  else
  bif decide (x0.2.1.2.1.1 > 400) then
  some (4,())
  else
  bif decide (x0.2.1.2.1.2.1 < (-1)) then
  some (4,())
  else
  bif decide (x0.2.1.2.1.2.1 > 400) then
  some (4,())
  else
  bif decide (x0.1.2.1 ≥ 0) then
  bif x0.1.2.1 == 0 then
  bif decide (x0.2.1.2.1.1 < 0) then
  some (3,())
  else
  some (0,())
  else
  bif x0.1.2.1 == 1 then
  bif decide (x0.2.1.2.1.2.1 < 0) then
  some (3,())
  else
  some (0,())
  else
  none
  else
  some (0,())
  else
  bif x0.1.1 == 1 then
  bif decide (x0.2.1.1.2.1 < 0) then
  some (3,())
  else
  bif decide (x0.1.2.1 < (-1)) then
  some (4,())
  else
  bif decide (x0.1.2.1 > 1) then
  some (4,())
  else
  bif decide (x0.2.1.2.1.1 < (-1)) then
  some (4,())
  else
  bif decide (x0.2.1.2.1.1 > 400) then
  some (4,())
  else
  bif decide (x0.2.1.2.1.2.1 < (-1)) then
  some (4,())
  else
  bif decide (x0.2.1.2.1.2.1 > 400) then
  some (4,())
  else
  bif decide (x0.1.2.1 ≥ 0) then
  bif x0.1.2.1 == 0 then
  bif decide (x0.2.1.2.1.1 < 0) then
  some (3,())
  else
  some (0,())
  else
  bif x0.1.2.1 == 1 then
  bif decide (x0.2.1.2.1.2.1 < 0) then
  some (3,())
  else
  some (0,())
  else
  none
  else
  some (0,())
  else
  none
  else
  bif decide (x0.1.2.1 < (-1)) then
  some (4,())
  else
  bif decide (x0.1.2.1 > 1) then
  some (4,())
  else
  bif decide (x0.2.1.2.1.1 < (-1)) then
  some (4,())
  else
  bif decide (x0.2.1.2.1.1 > 400) then
  some (4,())
  else
  bif decide (x0.2.1.2.1.2.1 < (-1)) then
  some (4,())
  else
  bif decide (x0.2.1.2.1.2.1 > 400) then
  some (4,())
  else
  bif decide (x0.1.2.1 ≥ 0) then
  bif x0.1.2.1 == 0 then
  bif decide (x0.2.1.2.1.1 < 0) then
  some (3,())
  else
  some (0,())
  else
  bif x0.1.2.1 == 1 then
  bif decide (x0.2.1.2.1.2.1 < 0) then
  some (3,())
  else
  some (0,())
  else
  none
  else
  some (0,())
noncomputable def f122_sig (k : Nat) : Sig := ⟨[.val ty66],[],[[.val (.int .i64)]],fun x => f122 k x.1⟩
noncomputable def E_f122 (k : Nat) : Env := ⟨Tryz.prog,G0,snil,tnil,tnil,ucons 7 3 (ucons 2 3 (unil)),k,qnil,false⟩
theorem f122_run (k : Nat) (x : (lTy (lay 0 (f122_sig k).ins)).den) : runF (E_f122 k) Tryz.f122 (f122_sig k) x = (f122_sig k).F x := by kernel_rfl
theorem f122_ok [Dr] (k : Nat) : FnOK Tryz.prog G0 122 (f122_sig k) :=
  fn_ok2 (E := E_f122 k) (env_nil) (qenv_nil) mixed Tryz.func122 Tryz.call122 (by kernel_rfl) (by kernel_rfl) (m := 2) (by kernel_rfl) ⟨⟨trivial,loop_none (by kernel_rfl)⟩,loop_none (by kernel_rfl)⟩ (sk := []) (by kernel_rfl) trivial (f122_run k)
noncomputable def f78 (k : Nat) (x0 : (Int×Int×Unit)×((Int×Int×Unit)×(Int×Int×Unit)×Unit)×Unit) (x1 : Int) (x2 : Int) (x3 : Int) : Option ((Int×Unit)) :=
  (f122 k x0).bind fun r1 =>
  bif r1.1 != 0 then
  some r1
  else
  bif decide (x1 < 0) then
  some (1,())
  else
  bif decide (x1 > 1) then
  some (1,())
  else
  bif decide (x2 < 0) then
  some (1,())
  else
  bif decide (x2 > 1) then
  some (1,())
  else
  bif decide (x3 < 0) then
  some (1,())
  else
  bif decide (x3 > 400) then
  some (1,())
  else
  some (0,())
noncomputable def f78_sig (k : Nat) : Sig := ⟨[.val ty66,.val (.int .i64),.val (.int .i64),.val (.int .i64)],[],[[.val (.int .i64)]],fun x => f78 k x.1 x.2.1 x.2.2.1 x.2.2.2.1⟩
noncomputable def E_f78 (k : Nat) : Env := ⟨Tryz.prog,G0,scons 122 [f122_sig k] (snil),tnil,tnil,unil,k,qnil,false⟩
theorem f78_run (k : Nat) (x : (lTy (lay 0 (f78_sig k).ins)).den) : runF (E_f78 k) Tryz.f78 (f78_sig k) x = (f78_sig k).F x := by kernel_rfl
theorem f78_ok [Dr] (k : Nat) : FnOK Tryz.prog G0 78 (f78_sig k) :=
  fn_ok2 (E := E_f78 k) (env_cons (one_sig (f122_ok k)) (env_nil)) (qenv_nil) mixed Tryz.func78 Tryz.call78 (by kernel_rfl) (by kernel_rfl) (m := 0) (by kernel_rfl) trivial (sk := []) (by kernel_rfl) trivial (f78_run k)
noncomputable def f116 (k : Nat) (x0 : (Int×Int×Unit)×((Int×Int×Unit)×(Int×Int×Unit)×Unit)×Unit) (x1 : Int) : Option ((((Int×Int×Unit)×((Int×Int×Unit)×(Int×Int×Unit)×Unit)×Unit)×Int×Unit)) :=
  (f78 k x0 0 x1 0).bind fun r1 =>
  bif r1.1 != 0 then
  some (((0,0,()),((0,0,()),(0,0,()),()),()),r1)
  else
  bif x0.1.1 == (w64 (1 - x1)) then
  some ((((-1),(-1),()),x0.2),0,())
  else
  some (((x0.1.1,(-1),()),x0.2),0,())
noncomputable def f116_sig (k : Nat) : Sig := ⟨[.val ty66,.val (.int .i64)],[],[[.val ty66,.val (.int .i64)]],fun x => f116 k x.1 x.2.1⟩
noncomputable def E_f116 (k : Nat) : Env := ⟨Tryz.prog,G0,scons 78 [f78_sig k] (snil),tnil,tnil,unil,k,qnil,false⟩
theorem f116_run (k : Nat) (x : (lTy (lay 0 (f116_sig k).ins)).den) : runF (E_f116 k) Tryz.f116 (f116_sig k) x = (f116_sig k).F x := by kernel_rfl
theorem f116_ok [Dr] (k : Nat) : FnOK Tryz.prog G0 116 (f116_sig k) :=
  fn_ok2 (E := E_f116 k) (env_cons (one_sig (f78_ok k)) (env_nil)) (qenv_nil) mixed Tryz.func116 Tryz.call116 (by kernel_rfl) (by kernel_rfl) (m := 0) (by kernel_rfl) trivial (sk := []) (by kernel_rfl) trivial (f116_run k)
noncomputable def l117_7 (k : Nat) : Nat → (ByteArray×Int×Int×(List (Int×Int×Int×(List (Int×Int×Int×Int×Unit))×Unit))×(List Int)×Bool×Bool×(List (Int×Int×Int×Bool×Unit))×Int×Int×Int×Unit) → ((List Int)×((List Int)×(List Int)×Unit)×Int×Int×Unit) → (List Int) → Int → Int → Option ((((List Int)×((List Int)×(List Int)×Unit)×Int×Int×Unit)×Unit) ⊕ (Int×Unit))
 | 0,_,_,_,_,_ => none
 | j + 1,s2,s3,s47,s48,s49 =>
  bif decide (s49 < s48) then
  bif decide (0 ≤ s49) && decide (s49 < (s47.length : Int)) then
  bif decide ((rd (0 : Int) s47 s49) < 0) then
  some (.inr (4,()))
  else
  bif decide ((rd (0 : Int) s47 s49) > (w64 (2 * (s2.2.2.2.1.length : Int)))) then
  some (.inr (4,()))
  else
  l117_7 k j s2 s3 s47 s48 (w64 (s49 + 1))
  else
  none
  else
  some (.inl (s3,()))
noncomputable def l117_7_sig (k : Nat) : LoopSig := ⟨[(2,.obj ck75),(3,.obj ck53),(47,.obj ck6),(48,.obj ck1),(49,.obj ck1)],[(.exit 0,[(3,.obj ck53)]),(.ret,[(4,.obj ck1)])],fun j x => l117_7 k j x.1 x.2.1 x.2.2.1 x.2.2.2.1 x.2.2.2.2.1⟩
noncomputable def l117_16 (k : Nat) : Nat → ((List Int)×((List Int)×(List Int)×Unit)×Int×Int×Unit) → ((List Int)×(List Int)×Unit) → Int → (List Int) → Int → Int → Option ((((List Int)×((List Int)×(List Int)×Unit)×Int×Int×Unit)×((List Int)×(List Int)×Unit)×Int×Unit) ⊕ (Int×Unit))
 | 0,_,_,_,_,_,_ => none
 | j + 1,s3,s65,s66,s69,s70,s71 =>
  bif decide (s71 < s70) then
  bif decide (0 ≤ s71) && decide (s71 < (s69.length : Int)) then
  bif decide ((rd (0 : Int) s69 s71) < 0) then
  some (.inr (4,()))
  else
  bif decide ((rd (0 : Int) s69 s71) > 1000) then
  some (.inr (4,()))
  else
  l117_16 k j s3 s65 s66 s69 s70 (w64 (s71 + 1))
  else
  none
  else
  some (.inl (s3,s65,s66,()))
noncomputable def l117_16_sig (k : Nat) : LoopSig := ⟨[(3,.obj ck53),(65,.obj ck22),(66,.obj ck1),(69,.obj ck6),(70,.obj ck1),(71,.obj ck1)],[(.exit 4,[(3,.obj ck53),(65,.obj ck22),(66,.obj ck1)]),(.ret,[(4,.obj ck1)])],fun j x => l117_16 k j x.1 x.2.1 x.2.2.1 x.2.2.2.1 x.2.2.2.2.1 x.2.2.2.2.2.1⟩
noncomputable def l117_13 (k : Nat) : Nat → ((List Int)×((List Int)×(List Int)×Unit)×Int×Int×Unit) → ((List Int)×(List Int)×Unit) → Int → Option ((((List Int)×((List Int)×(List Int)×Unit)×Int×Int×Unit)×Unit) ⊕ (Int×Unit))
 | 0,_,_,_ => none
 | j + 1,s3,s65,s66 =>
  bif decide (s66 < 2) then
  bif s66 == 0 then
  (l117_16 k k s3 s65 s66 s65.1 (s65.1.length : Int) 0).bind fun q23 =>
  Sum.elim
  (fun y1 =>
  l117_13 k j y1.1 y1.2.1 (w64 (y1.2.2.1 + 1)))
  (fun y2 =>
  some (.inr y2))
  q23
  else
  bif s66 == 1 then
  (l117_16 k k s3 s65 s66 s65.2.1 (s65.2.1.length : Int) 0).bind fun q24 =>
  Sum.elim
  (fun y3 =>
  l117_13 k j y3.1 y3.2.1 (w64 (y3.2.2.1 + 1)))
  (fun y4 =>
  some (.inr y4))
  q24
  else
  none
  else
  some (.inl (s3,()))
noncomputable def l117_13_sig (k : Nat) : LoopSig := ⟨[(3,.obj ck53),(65,.obj ck22),(66,.obj ck1)],[(.exit 2,[(3,.obj ck53)]),(.ret,[(4,.obj ck1)])],fun j x => l117_13 k j x.1 x.2.1 x.2.2.1⟩
noncomputable def f117 (k : Nat) (x0 : ByteArray×Int×Int×(List (Int×Int×Int×(List (Int×Int×Int×Int×Unit))×Unit))×(List Int)×Bool×Bool×(List (Int×Int×Int×Bool×Unit))×Int×Int×Int×Unit) (x1 : (List Int)×((List Int)×(List Int)×Unit)×Int×Int×Unit) : Option ((Int×Unit)) :=
  (f104 k x0).bind fun r1 =>
  bif r1.1 != 0 then
  some r1
  else
  bif (x1.1.length : Int) != (w64 (x0.2.1 * x0.2.2.1)) then
  some (3,())
  else
  bif (x1.2.1.1.length : Int) != (x0.2.2.2.1.length : Int) then
  some (3,())
  else
  bif (x1.2.1.2.1.length : Int) != (x0.2.2.2.1.length : Int) then
  some (3,())
  else
  (l117_7 k k x0 x1 x1.1 (x1.1.length : Int) 0).bind fun q25 =>
  Sum.elim
  (fun y2 =>
  (l117_13 k k y2.1 y2.1.2.1 0).bind fun q26 =>
  Sum.elim
  (fun y3 =>
  bif y3.1.2.2.1 != 0 then
  bif y3.1.2.2.1 != 1 then
  some (4,())
  else
  bif decide (y3.1.2.2.2.1 < 0) then
  some (4,())
  else
  bif decide (y3.1.2.2.2.1 > 200) then
  some (4,())
  else
  some (0,())
  else
  bif decide (y3.1.2.2.2.1 < 0) then
  some (4,())
  else
  bif decide (y3.1.2.2.2.1 > 200) then
  some (4,())
  else
  some (0,()))
  (fun y4 =>
  some y4)
  q26)
  (fun y5 =>
  some y5)
  q25
noncomputable def f117_sig (k : Nat) : Sig := ⟨[.val ty73,.val ty49],[],[[.val (.int .i64)]],fun x => f117 k x.1 x.2.1⟩
noncomputable def E_f117 (k : Nat) : Env := ⟨Tryz.prog,G0,scons 104 [f104_sig k] (snil),tcons 13 (l117_13_sig k) (tcons 16 (l117_16_sig k) (tcons 7 (l117_7_sig k) (tnil))),tnil,unil,k,qnil,false⟩
theorem l117_7_ok (k : Nat) : LoopOK (E_f117 k) ⟨Tryz.f117.ntmps,[],G0⟩ (nthC 0 (loopsIn (Tryz.f117.body.getD .skip))) :=
  loop_ok (ls := l117_7_sig k) (by kernel_rfl) (fun _ => by kernel_rfl) (fun j x => by kernel_rfl)
theorem l117_13_ok (k : Nat) : LoopOK (E_f117 k) ⟨Tryz.f117.ntmps,[],G0⟩ (nthC 1 (loopsIn (Tryz.f117.body.getD .skip))) :=
  loop_ok (ls := l117_13_sig k) (by kernel_rfl) (fun _ => by kernel_rfl) (fun j x => by kernel_rfl)
theorem l117_16_ok (k : Nat) : LoopOK (E_f117 k) ⟨Tryz.f117.ntmps,[],G0⟩ (nthC 2 (loopsIn (Tryz.f117.body.getD .skip))) :=
  loop_ok (ls := l117_16_sig k) (by kernel_rfl) (fun _ => by kernel_rfl) (fun j x => by kernel_rfl)
theorem f117_run (k : Nat) (x : (lTy (lay 0 (f117_sig k).ins)).den) : runF (E_f117 k) Tryz.f117 (f117_sig k) x = (f117_sig k).F x := by kernel_rfl
theorem f117_ok [Dr] (k : Nat) : FnOK Tryz.prog G0 117 (f117_sig k) :=
  fn_ok2 (E := E_f117 k) (env_cons (one_sig (f104_ok k)) (env_nil)) (qenv_nil) mixed Tryz.func117 Tryz.call117 (by kernel_rfl) (by kernel_rfl) (m := 3) (by kernel_rfl) ⟨⟨⟨trivial,l117_7_ok k⟩,l117_13_ok k⟩,l117_16_ok k⟩ (sk := []) (by kernel_rfl) trivial (f117_run k)
noncomputable def f126 (k : Nat) (x0 : ByteArray×Int×Int×(List (Int×Int×Int×(List (Int×Int×Int×Int×Unit))×Unit))×(List Int)×Bool×Bool×(List (Int×Int×Int×Bool×Unit))×Int×Int×Int×Unit) (x1 : (List Int)×((List Int)×(List Int)×Unit)×Int×Int×Unit) (x2 : Int×Int×Int×Unit) : Option ((Bool×Int×Unit)) :=
  (f117 k x0 x1).bind fun r1 =>
  bif r1.1 != 0 then
  some (false,r1)
  else
  (f75 k x0 x1).bind fun r2 =>
  (f74 k r2.1 x2).bind fun r3 =>
  some (r3.1,0,())
noncomputable def f126_sig (k : Nat) : Sig := ⟨[.val ty73,.val ty49,.val ty23],[],[[.val (.bool),.val (.int .i64)]],fun x => f126 k x.1 x.2.1 x.2.2.1⟩
noncomputable def E_f126 (k : Nat) : Env := ⟨Tryz.prog,G0,scons 117 [f117_sig k] (scons 75 [f75_sig k] (scons 74 [f74_sig k] (snil))),tnil,tnil,unil,k,qnil,false⟩
theorem f126_run (k : Nat) (x : (lTy (lay 0 (f126_sig k).ins)).den) : runF (E_f126 k) Tryz.f126 (f126_sig k) x = (f126_sig k).F x := by kernel_rfl
theorem f126_ok [Dr] (k : Nat) : FnOK Tryz.prog G0 126 (f126_sig k) :=
  fn_ok2 (E := E_f126 k) (env_cons (one_sig (f117_ok k)) (env_cons (one_sig (f75_ok k)) (env_cons (one_sig (f74_ok k)) (env_nil)))) (qenv_nil) mixed Tryz.func126 Tryz.call126 (by kernel_rfl) (by kernel_rfl) (m := 0) (by kernel_rfl) trivial (sk := []) (by kernel_rfl) trivial (f126_run k)
noncomputable def f127 (k : Nat) (x0 : ByteArray×Int×Int×(List (Int×Int×Int×(List (Int×Int×Int×Int×Unit))×Unit))×(List Int)×Bool×Bool×(List (Int×Int×Int×Bool×Unit))×Int×Int×Int×Unit) (x1 : (List Int)×((List Int)×(List Int)×Unit)×Int×Int×Unit) (x2 : Int×Int×Int×Unit) : Option ((((List Int)×((List Int)×(List Int)×Unit)×Int×Int×Unit)×Unit)) :=
  (f90 k x1).bind fun r1 =>
  bif decide (x2.1 < 0) then
  bif x1.2.2.1 == 0 then
  bif decide (0 ≤ x2.2.2.1) && decide (x2.2.2.1 < (r1.1.2.1.1.length : Int)) then
  bif decide (0 ≤ x2.2.2.1) && decide (x2.2.2.1 < (r1.1.2.1.1.length : Int)) then
  bif decide (0 ≤ x2.2.1) && decide (x2.2.1 < (x1.1.length : Int)) then
  bif (rd (0 : Int) x1.1 x2.2.1) != 0 then
  bif x1.2.2.1 == 0 then
  bif x0.2.2.2.2.2.2.1 then
  (f110 k (rd (0 : Int) x1.1 x2.2.1)).bind fun r2 =>
  (f110 k (rd (0 : Int) x1.1 x2.2.1)).bind fun r3 =>
  bif decide (0 ≤ r3.1) && decide (r3.1 < ((r1.1.2.1.1.set x2.2.2.1.toNat (w64 ((rd (0 : Int) r1.1.2.1.1 x2.2.2.1) - 1))).length : Int)) then
  bif decide (0 ≤ r2.1) && decide (r2.1 < ((r1.1.2.1.1.set x2.2.2.1.toNat (w64 ((rd (0 : Int) r1.1.2.1.1 x2.2.2.1) - 1))).length : Int)) then
  (f152 k x2.2.2.1 x1.2.2.1).bind fun r4 =>
  bif decide (0 ≤ x2.2.1) && decide (x2.2.1 < (r1.1.1.length : Int)) then
  some ((r1.1.1.set x2.2.1.toNat r4.1,((r1.1.2.1.1.set x2.2.2.1.toNat (w64 ((rd (0 : Int) r1.1.2.1.1 x2.2.2.1) - 1))).set r2.1.toNat (if 1000 < (w64 ((rd (0 : Int) (r1.1.2.1.1.set x2.2.2.1.toNat (w64 ((rd (0 : Int) r1.1.2.1.1 x2.2.2.1) - 1))) r3.1) + 1)) then 1000 else w64 ((rd (0 : Int) (r1.1.2.1.1.set x2.2.2.1.toNat (w64 ((rd (0 : Int) r1.1.2.1.1 x2.2.2.1) - 1))) r3.1) + 1)),r1.1.2.1.2),w64 (1 - x1.2.2.1),0,()),())
  else
  none
  else
  none
  else
  none
  else
  (f152 k x2.2.2.1 x1.2.2.1).bind fun r5 =>
  bif decide (0 ≤ x2.2.1) && decide (x2.2.1 < (r1.1.1.length : Int)) then
  some ((r1.1.1.set x2.2.1.toNat r5.1,(r1.1.2.1.1.set x2.2.2.1.toNat (w64 ((rd (0 : Int) r1.1.2.1.1 x2.2.2.1) - 1)),r1.1.2.1.2),w64 (1 - x1.2.2.1),0,()),())
  else
  none
  else
  bif x1.2.2.1 == 1 then
  bif x0.2.2.2.2.2.2.1 then
  (f110 k (rd (0 : Int) x1.1 x2.2.1)).bind fun r6 =>
  (f110 k (rd (0 : Int) x1.1 x2.2.1)).bind fun r7 =>
  bif decide (0 ≤ r7.1) && decide (r7.1 < (r1.1.2.1.2.1.length : Int)) then
  bif decide (0 ≤ r6.1) && decide (r6.1 < (r1.1.2.1.2.1.length : Int)) then
  (f152 k x2.2.2.1 x1.2.2.1).bind fun r8 =>
  bif decide (0 ≤ x2.2.1) && decide (x2.2.1 < (r1.1.1.length : Int)) then
  some ((r1.1.1.set x2.2.1.toNat r8.1,(r1.1.2.1.1.set x2.2.2.1.toNat (w64 ((rd (0 : Int) r1.1.2.1.1 x2.2.2.1) - 1)),r1.1.2.1.2.1.set r6.1.toNat (if 1000 < (w64 ((rd (0 : Int) r1.1.2.1.2.1 r7.1) + 1)) then 1000 else w64 ((rd (0 : Int) r1.1.2.1.2.1 r7.1) + 1)),()),w64 (1 - x1.2.2.1),0,()),())
  else
  none
  else
  none
  else
  none
  else
  (f152 k x2.2.2.1 x1.2.2.1).bind fun r9 =>
  bif decide (0 ≤ x2.2.1) && decide (x2.2.1 < (r1.1.1.length : Int)) then
  some ((r1.1.1.set x2.2.1.toNat r9.1,(r1.1.2.1.1.set x2.2.2.1.toNat (w64 ((rd (0 : Int) r1.1.2.1.1 x2.2.2.1) - 1)),r1.1.2.1.2),w64 (1 - x1.2.2.1),0,()),())
  else
  none
  else
  none
  else
  (f152 k x2.2.2.1 x1.2.2.1).bind fun r10 =>
  bif decide (0 ≤ x2.2.1) && decide (x2.2.1 < (r1.1.1.length : Int)) then
  some ((r1.1.1.set x2.2.1.toNat r10.1,(r1.1.2.1.1.set x2.2.2.1.toNat (w64 ((rd (0 : Int) r1.1.2.1.1 x2.2.2.1) - 1)),r1.1.2.1.2),w64 (1 - x1.2.2.1),0,()),())
  else
  none
  else
  none
  else
  none
  else
  none
  else
  bif x1.2.2.1 == 1 then
  bif decide (0 ≤ x2.2.2.1) && decide (x2.2.2.1 < (r1.1.2.1.2.1.length : Int)) then
  bif decide (0 ≤ x2.2.2.1) && decide (x2.2.2.1 < (r1.1.2.1.2.1.length : Int)) then
  bif decide (0 ≤ x2.2.1) && decide (x2.2.1 < (x1.1.length : Int)) then
  bif (rd (0 : Int) x1.1 x2.2.1) != 0 then
  bif x1.2.2.1 == 0 then
  bif x0.2.2.2.2.2.2.1 then
  (f110 k (rd (0 : Int) x1.1 x2.2.1)).bind fun r11 =>
  (f110 k (rd (0 : Int) x1.1 x2.2.1)).bind fun r12 =>
  bif decide (0 ≤ r12.1) && decide (r12.1 < (r1.1.2.1.1.length : Int)) then
  bif decide (0 ≤ r11.1) && decide (r11.1 < (r1.1.2.1.1.length : Int)) then
  (f152 k x2.2.2.1 x1.2.2.1).bind fun r13 =>
  bif decide (0 ≤ x2.2.1) && decide (x2.2.1 < (r1.1.1.length : Int)) then
  some ((r1.1.1.set x2.2.1.toNat r13.1,(r1.1.2.1.1.set r11.1.toNat (if 1000 < (w64 ((rd (0 : Int) r1.1.2.1.1 r12.1) + 1)) then 1000 else w64 ((rd (0 : Int) r1.1.2.1.1 r12.1) + 1)),r1.1.2.1.2.1.set x2.2.2.1.toNat (w64 ((rd (0 : Int) r1.1.2.1.2.1 x2.2.2.1) - 1)),()),w64 (1 - x1.2.2.1),0,()),())
  else
  none
  else
  none
  else
  none
  else
  (f152 k x2.2.2.1 x1.2.2.1).bind fun r14 =>
  bif decide (0 ≤ x2.2.1) && decide (x2.2.1 < (r1.1.1.length : Int)) then
  some ((r1.1.1.set x2.2.1.toNat r14.1,(r1.1.2.1.1,r1.1.2.1.2.1.set x2.2.2.1.toNat (w64 ((rd (0 : Int) r1.1.2.1.2.1 x2.2.2.1) - 1)),()),w64 (1 - x1.2.2.1),0,()),())
  else
  none
  else
  bif x1.2.2.1 == 1 then
  bif x0.2.2.2.2.2.2.1 then
  (f110 k (rd (0 : Int) x1.1 x2.2.1)).bind fun r15 =>
  (f110 k (rd (0 : Int) x1.1 x2.2.1)).bind fun r16 =>
  bif decide (0 ≤ r16.1) && decide (r16.1 < ((r1.1.2.1.2.1.set x2.2.2.1.toNat (w64 ((rd (0 : Int) r1.1.2.1.2.1 x2.2.2.1) - 1))).length : Int)) then
  bif decide (0 ≤ r15.1) && decide (r15.1 < ((r1.1.2.1.2.1.set x2.2.2.1.toNat (w64 ((rd (0 : Int) r1.1.2.1.2.1 x2.2.2.1) - 1))).length : Int)) then
  (f152 k x2.2.2.1 x1.2.2.1).bind fun r17 =>
  bif decide (0 ≤ x2.2.1) && decide (x2.2.1 < (r1.1.1.length : Int)) then
  some ((r1.1.1.set x2.2.1.toNat r17.1,(r1.1.2.1.1,(r1.1.2.1.2.1.set x2.2.2.1.toNat (w64 ((rd (0 : Int) r1.1.2.1.2.1 x2.2.2.1) - 1))).set r15.1.toNat (if 1000 < (w64 ((rd (0 : Int) (r1.1.2.1.2.1.set x2.2.2.1.toNat (w64 ((rd (0 : Int) r1.1.2.1.2.1 x2.2.2.1) - 1))) r16.1) + 1)) then 1000 else w64 ((rd (0 : Int) (r1.1.2.1.2.1.set x2.2.2.1.toNat (w64 ((rd (0 : Int) r1.1.2.1.2.1 x2.2.2.1) - 1))) r16.1) + 1)),()),w64 (1 - x1.2.2.1),0,()),())
  else
  none
  else
  none
  else
  none
  else
  (f152 k x2.2.2.1 x1.2.2.1).bind fun r18 =>
  bif decide (0 ≤ x2.2.1) && decide (x2.2.1 < (r1.1.1.length : Int)) then
  some ((r1.1.1.set x2.2.1.toNat r18.1,(r1.1.2.1.1,r1.1.2.1.2.1.set x2.2.2.1.toNat (w64 ((rd (0 : Int) r1.1.2.1.2.1 x2.2.2.1) - 1)),()),w64 (1 - x1.2.2.1),0,()),())
  else
  none
  else
  none
  else
  (f152 k x2.2.2.1 x1.2.2.1).bind fun r19 =>
  bif decide (0 ≤ x2.2.1) && decide (x2.2.1 < (r1.1.1.length : Int)) then
  some ((r1.1.1.set x2.2.1.toNat r19.1,(r1.1.2.1.1,r1.1.2.1.2.1.set x2.2.2.1.toNat (w64 ((rd (0 : Int) r1.1.2.1.2.1 x2.2.2.1) - 1)),()),w64 (1 - x1.2.2.1),0,()),())
  else
  none
  else
  none
  else
  none
  else
  none
  else
  none
  else
  bif decide (0 ≤ x2.1) && decide (x2.1 < (r1.1.1.length : Int)) then
  bif decide (0 ≤ x2.2.1) && decide (x2.2.1 < (x1.1.length : Int)) then
  bif (rd (0 : Int) x1.1 x2.2.1) != 0 then
  bif x1.2.2.1 == 0 then
  bif x0.2.2.2.2.2.2.1 then
  (f110 k (rd (0 : Int) x1.1 x2.2.1)).bind fun r20 =>
  (f110 k (rd (0 : Int) x1.1 x2.2.1)).bind fun r21 =>
  bif decide (0 ≤ r21.1) && decide (r21.1 < (r1.1.2.1.1.length : Int)) then
  bif decide (0 ≤ r20.1) && decide (r20.1 < (r1.1.2.1.1.length : Int)) then
  (f152 k x2.2.2.1 x1.2.2.1).bind fun r22 =>
  bif decide (0 ≤ x2.2.1) && decide (x2.2.1 < ((r1.1.1.set x2.1.toNat 0).length : Int)) then
  some (((r1.1.1.set x2.1.toNat 0).set x2.2.1.toNat r22.1,(r1.1.2.1.1.set r20.1.toNat (if 1000 < (w64 ((rd (0 : Int) r1.1.2.1.1 r21.1) + 1)) then 1000 else w64 ((rd (0 : Int) r1.1.2.1.1 r21.1) + 1)),r1.1.2.1.2),w64 (1 - x1.2.2.1),0,()),())
  else
  none
  else
  none
  else
  none
  else
  (f152 k x2.2.2.1 x1.2.2.1).bind fun r23 =>
  bif decide (0 ≤ x2.2.1) && decide (x2.2.1 < ((r1.1.1.set x2.1.toNat 0).length : Int)) then
  some (((r1.1.1.set x2.1.toNat 0).set x2.2.1.toNat r23.1,r1.1.2.1,w64 (1 - x1.2.2.1),0,()),())
  else
  none
  else
  bif x1.2.2.1 == 1 then
  bif x0.2.2.2.2.2.2.1 then
  (f110 k (rd (0 : Int) x1.1 x2.2.1)).bind fun r24 =>
  (f110 k (rd (0 : Int) x1.1 x2.2.1)).bind fun r25 =>
  bif decide (0 ≤ r25.1) && decide (r25.1 < (r1.1.2.1.2.1.length : Int)) then
  bif decide (0 ≤ r24.1) && decide (r24.1 < (r1.1.2.1.2.1.length : Int)) then
  (f152 k x2.2.2.1 x1.2.2.1).bind fun r26 =>
  bif decide (0 ≤ x2.2.1) && decide (x2.2.1 < ((r1.1.1.set x2.1.toNat 0).length : Int)) then
  some (((r1.1.1.set x2.1.toNat 0).set x2.2.1.toNat r26.1,(r1.1.2.1.1,r1.1.2.1.2.1.set r24.1.toNat (if 1000 < (w64 ((rd (0 : Int) r1.1.2.1.2.1 r25.1) + 1)) then 1000 else w64 ((rd (0 : Int) r1.1.2.1.2.1 r25.1) + 1)),()),w64 (1 - x1.2.2.1),0,()),())
  else
  none
  else
  none
  else
  none
  else
  (f152 k x2.2.2.1 x1.2.2.1).bind fun r27 =>
  bif decide (0 ≤ x2.2.1) && decide (x2.2.1 < ((r1.1.1.set x2.1.toNat 0).length : Int)) then
  some (((r1.1.1.set x2.1.toNat 0).set x2.2.1.toNat r27.1,r1.1.2.1,w64 (1 - x1.2.2.1),0,()),())
  else
  none
  else
  none
  else
  (f152 k x2.2.2.1 x1.2.2.1).bind fun r28 =>
  bif decide (0 ≤ x2.2.1) && decide (x2.2.1 < ((r1.1.1.set x2.1.toNat 0).length : Int)) then
  some (((r1.1.1.set x2.1.toNat 0).set x2.2.1.toNat r28.1,r1.1.2.1,w64 (1 - x1.2.2.1),if 200 < (w64 (x1.2.2.2.1 + 1)) then 200 else w64 (x1.2.2.2.1 + 1),()),())
  else
  none
  else
  none
  else
  none
noncomputable def f127_sig (k : Nat) : Sig := ⟨[.val ty73,.val ty49,.val ty23],[],[[.cons ck2 ck46]],fun x => f127 k x.1 x.2.1 x.2.2.1⟩
noncomputable def E_f127 (k : Nat) : Env := ⟨Tryz.prog,G0,scons 152 [f152_sig k] (scons 110 [f110_sig k] (scons 90 [f90_sig k] (snil))),tnil,tnil,unil,k,qnil,false⟩
theorem f127_run (k : Nat) (x : (lTy (lay 0 (f127_sig k).ins)).den) : runF (E_f127 k) Tryz.f127 (f127_sig k) x = (f127_sig k).F x := by kernel_rfl
theorem f127_ok [Dr] (k : Nat) : FnOK Tryz.prog G0 127 (f127_sig k) :=
  fn_ok2 (E := E_f127 k) (env_cons (one_sig (f152_ok k)) (env_cons (one_sig (f110_ok k)) (env_cons (one_sig (f90_ok k)) (env_nil)))) (qenv_nil) mixed Tryz.func127 Tryz.call127 (by kernel_rfl) (by kernel_rfl) (m := 0) (by kernel_rfl) trivial (sk := []) (by kernel_rfl) trivial (f127_run k)
noncomputable def f88 (k : Nat) (x0 : ByteArray×Int×Int×(List (Int×Int×Int×(List (Int×Int×Int×Int×Unit))×Unit))×(List Int)×Bool×Bool×(List (Int×Int×Int×Bool×Unit))×Int×Int×Int×Unit) (x1 : (List Int)×((List Int)×(List Int)×Unit)×Int×Int×Unit) (x2 : Int×Int×Int×Unit) : Option ((((List Int)×((List Int)×(List Int)×Unit)×Int×Int×Unit)×Int×Unit)) :=
  (f126 k x0 x1 x2).bind fun r1 =>
  bif r1.2.1 != 0 then
  some (([],([],[],()),0,0,()),r1.2)
  else
  bif !r1.1 then
  some (([],([],[],()),0,0,()),13,())
  else
  (f127 k x0 x1 x2).bind fun r2 =>
  some (r2.1,0,())
noncomputable def f88_sig (k : Nat) : Sig := ⟨[.val ty73,.val ty49,.val ty23],[],[[.val ty49,.val (.int .i64)]],fun x => f88 k x.1 x.2.1 x.2.2.1⟩
noncomputable def E_f88 (k : Nat) : Env := ⟨Tryz.prog,G0,scons 127 [f127_sig k] (scons 126 [f126_sig k] (snil)),tnil,tnil,unil,k,qnil,false⟩
theorem f88_run (k : Nat) (x : (lTy (lay 0 (f88_sig k).ins)).den) : runF (E_f88 k) Tryz.f88 (f88_sig k) x = (f88_sig k).F x := by kernel_rfl
theorem f88_ok [Dr] (k : Nat) : FnOK Tryz.prog G0 88 (f88_sig k) :=
  fn_ok2 (E := E_f88 k) (env_cons (one_sig (f127_ok k)) (env_cons (one_sig (f126_ok k)) (env_nil))) (qenv_nil) mixed Tryz.func88 Tryz.call88 (by kernel_rfl) (by kernel_rfl) (m := 0) (by kernel_rfl) trivial (sk := []) (by kernel_rfl) trivial (f88_run k)
noncomputable def f51 (k : Nat) (x0 : (ByteArray×Int×Int×(List (Int×Int×Int×(List (Int×Int×Int×Int×Unit))×Unit))×(List Int)×Bool×Bool×(List (Int×Int×Int×Bool×Unit))×Int×Int×Int×Unit)×(List ((List Int)×((List Int)×(List Int)×Unit)×Int×Int×Unit))×(List (Int×Int×Int×Unit))×Unit) (x1 : Int×Int×Int×Unit) : Option ((Int×((ByteArray×Int×Int×(List (Int×Int×Int×(List (Int×Int×Int×Int×Unit))×Unit))×(List Int)×Bool×Bool×(List (Int×Int×Int×Bool×Unit))×Int×Int×Int×Unit)×(List ((List Int)×((List Int)×(List Int)×Unit)×Int×Int×Unit))×(List (Int×Int×Int×Unit))×Unit)×Unit)) :=
  (f53 k x0).bind fun r1 =>
  bif r1.1 != 0 then
  some (14,x0,())
  else
  bif decide (0 ≤ (w64 ((x0.2.1.length : Int) - 1))) && decide ((w64 ((x0.2.1.length : Int) - 1)) < (x0.2.1.length : Int)) then
  (f88 k x0.1 (rd (([],([],[],()),0,0,()) : (List Int)×((List Int)×(List Int)×Unit)×Int×Int×Unit) x0.2.1 (w64 ((x0.2.1.length : Int) - 1))) x1).bind fun r2 =>
  bif r2.2.1 != 0 then
  some (13,x0,())
  else
  bif (x0.2.2.1.length : Int) == 400 then
  some (9,x0,())
  else
  bif decide ((x0.2.1.length + ([r2.1] : List ((List Int)×((List Int)×(List Int)×Unit)×Int×Int×Unit)).length) * 88 ≤ roomN) then
  bif decide ((x0.2.2.1.length + ([x1] : List (Int×Int×Int×Unit)).length) * 24 ≤ roomN) then
  some (0,(x0.1,x0.2.1 ++ [r2.1],x0.2.2.1 ++ [x1],()),())
  else
  none
  else
  none
  else
  none
noncomputable def f51_sig (k : Nat) : Sig := ⟨[.box 140 ck82,.val ty23],[0],[[.val (.int .i64),.box 140 ck82]],fun x => f51 k x.1 x.2.1⟩
noncomputable def E_f51 (k : Nat) : Env := ⟨Tryz.prog,G0,scons 88 [f88_sig k] (snil),tnil,tnil,unil,k,qcons 53 (f53_q k) (qcons 89 (mkQ Tryz.prog G0 Tryz.f89) (qnil)),false⟩
theorem f51_run (k : Nat) (x : (lTy (lay 0 (f51_sig k).ins)).den) : runF (E_f51 k) Tryz.f51 (f51_sig k) x = (f51_sig k).F x := by kernel_rfl
theorem f51_ok [Dr] (k : Nat) : FnOK Tryz.prog G0 51 (f51_sig k) :=
  fn_ok2 (E := E_f51 k) (env_cons (one_sig (f88_ok k)) (env_nil)) (qenv_cons (f53_qok k) (qenv_cons (q_ok mixed Tryz.func89 Tryz.call89) (qenv_nil))) mixed Tryz.func51 Tryz.call51 (by kernel_rfl) (by kernel_rfl) (m := 0) (by kernel_rfl) trivial (sk := []) (by kernel_rfl) trivial (f51_run k)
noncomputable def f76 (k : Nat) (x0 : (ByteArray×Int×Int×(List (Int×Int×Int×(List (Int×Int×Int×Int×Unit))×Unit))×(List Int)×Bool×Bool×(List (Int×Int×Int×Bool×Unit))×Int×Int×Int×Unit)×((List (Int×Int×Unit))×Int×Int×Unit)×((ByteArray×Int×Int×(List (Int×Int×Int×(List (Int×Int×Int×Int×Unit))×Unit))×(List Int)×Bool×Bool×(List (Int×Int×Int×Bool×Unit))×Int×Int×Int×Unit)×(List ((List Int)×((List Int)×(List Int)×Unit)×Int×Int×Unit))×(List (Int×Int×Int×Unit))×Unit)×((List (Int×Int×Int×Unit))×Int×Int×((Int×Int×Unit)×(Int×Int×Unit)×(Int×Int×Unit)×Int×Int×Bool×Int×Unit)×((Int×Int×Unit)×((Int×Int×Unit)×(Int×Int×Unit)×Unit)×Unit)×(List (Int×(Int×Int×Int×Unit)×Unit))×Unit)×Int×(List (ByteArray×Int×Unit))×Unit) (x1 : (List (Int×Int×Int×Unit))×Int×Int×((Int×Int×Unit)×(Int×Int×Unit)×(Int×Int×Unit)×Int×Int×Bool×Int×Unit)×((Int×Int×Unit)×((Int×Int×Unit)×(Int×Int×Unit)×Unit)×Unit)×(List (Int×(Int×Int×Int×Unit)×Unit))×Unit) (x2 : Int×Int×Int×Unit) (x3 : Int) : Option ((Int×((ByteArray×Int×Int×(List (Int×Int×Int×(List (Int×Int×Int×Int×Unit))×Unit))×(List Int)×Bool×Bool×(List (Int×Int×Int×Bool×Unit))×Int×Int×Int×Unit)×((List (Int×Int×Unit))×Int×Int×Unit)×((ByteArray×Int×Int×(List (Int×Int×Int×(List (Int×Int×Int×Int×Unit))×Unit))×(List Int)×Bool×Bool×(List (Int×Int×Int×Bool×Unit))×Int×Int×Int×Unit)×(List ((List Int)×((List Int)×(List Int)×Unit)×Int×Int×Unit))×(List (Int×Int×Int×Unit))×Unit)×((List (Int×Int×Int×Unit))×Int×Int×((Int×Int×Unit)×(Int×Int×Unit)×(Int×Int×Unit)×Int×Int×Bool×Int×Unit)×((Int×Int×Unit)×((Int×Int×Unit)×(Int×Int×Unit)×Unit)×Unit)×(List (Int×(Int×Int×Int×Unit)×Unit))×Unit)×Int×(List (ByteArray×Int×Unit))×Unit)×((List (Int×Int×Int×Unit))×Int×Int×((Int×Int×Unit)×(Int×Int×Unit)×(Int×Int×Unit)×Int×Int×Bool×Int×Unit)×((Int×Int×Unit)×((Int×Int×Unit)×(Int×Int×Unit)×Unit)×Unit)×(List (Int×(Int×Int×Int×Unit)×Unit))×Unit)×Unit)) :=
  (f47 k x0).bind fun r1 =>
  (f115 k r1.2.1.2.1 x1.2.2.2.1 x3).bind fun r2 =>
  bif r2.2.1 != 0 then
  some (r2.2.1,r1.2.1,x1,())
  else
  (f116 k x1.2.2.2.2.1 r1.1).bind fun r3 =>
  bif r3.2.1 != 0 then
  some (r3.2.1,r1.2.1,x1,())
  else
  (f51 k r1.2.1.2.2.1 x2).bind fun r4 =>
  bif r4.1 != 0 then
  some (r4.1,(r1.2.1.1,r1.2.1.2.1,r4.2.1,r1.2.1.2.2.2),x1,())
  else
  some (0,(r1.2.1.1,r1.2.1.2.1,r4.2.1,r1.2.1.2.2.2),(x1.1,x1.2.1,x1.2.2.1,r2.1,r3.1,x1.2.2.2.2.2),())
noncomputable def f76_sig (k : Nat) : Sig := ⟨[.box 89 ck87,.box 50 ck80,.val ty23,.val (.int .i64)],[0,1],[[.val (.int .i64),.box 89 ck87,.box 50 ck80]],fun x => f76 k x.1 x.2.1 x.2.2.1 x.2.2.2.1⟩
noncomputable def E_f76 (k : Nat) : Env := ⟨Tryz.prog,G0,scons 116 [f116_sig k] (scons 115 [f115_sig k] (scons 51 [f51_sig k] (scons 47 [f47_sig k] (snil)))),tnil,tnil,unil,k,qnil,false⟩
theorem f76_run (k : Nat) (x : (lTy (lay 0 (f76_sig k).ins)).den) : runF (E_f76 k) Tryz.f76 (f76_sig k) x = (f76_sig k).F x := by kernel_rfl
theorem f76_ok [Dr] (k : Nat) : FnOK Tryz.prog G0 76 (f76_sig k) :=
  fn_ok2 (E := E_f76 k) (env_cons (one_sig (f116_ok k)) (env_cons (one_sig (f115_ok k)) (env_cons (one_sig (f51_ok k)) (env_cons (one_sig (f47_ok k)) (env_nil))))) (qenv_nil) mixed Tryz.func76 Tryz.call76 (by kernel_rfl) (by kernel_rfl) (m := 0) (by kernel_rfl) trivial (sk := []) (by kernel_rfl) trivial (f76_run k)
noncomputable def l86_3 (k : Nat) : Nat → Int → (List (Int×Int×Int×Unit)) → (List (Int×(Int×Int×Int×Unit)×Unit)) → Int → Int → Option (((List (Int×Int×Int×Unit))×Unit))
 | 0,_,_,_,_,_ => none
 | j + 1,s1,s5,s8,s9,s10 =>
  bif decide (s10 < s9) then
  bif decide (0 ≤ s10) && decide (s10 < (s8.length : Int)) then
  bif (rd ((0,(0,0,0,()),()) : Int×(Int×Int×Int×Unit)×Unit) s8 s10).1 == s1 then
  bif decide ((s5.length + ([(rd ((0,(0,0,0,()),()) : Int×(Int×Int×Int×Unit)×Unit) s8 s10).2.1] : List (Int×Int×Int×Unit)).length) * 24 ≤ roomN) then
  l86_3 k j s1 (s5 ++ [(rd ((0,(0,0,0,()),()) : Int×(Int×Int×Int×Unit)×Unit) s8 s10).2.1]) s8 s9 (w64 (s10 + 1))
  else
  none
  else
  l86_3 k j s1 s5 s8 s9 (w64 (s10 + 1))
  else
  none
  else
  some (s5,())
noncomputable def l86_3_sig (k : Nat) : LoopSig := ⟨[(1,.obj ck1),(5,.obj ck25),(8,.obj (.val ty38)),(9,.obj ck1),(10,.obj ck1)],[(.exit 0,[(5,.obj ck25)])],fun j x => l86_3 k j x.1 x.2.1 x.2.2.1 x.2.2.2.1 x.2.2.2.2.1⟩
noncomputable def f86 (k : Nat) (x0 : List (Int×(Int×Int×Int×Unit)×Unit)) (x1 : Int) : Option (((List (Int×Int×Int×Unit))×Unit)) :=
  (l86_3 k k x1 [] x0 (x0.length : Int) 0).bind fun o1 =>
  some o1
noncomputable def f86_sig (k : Nat) : Sig := ⟨[.val ty38,.val (.int .i64)],[],[[.row ty23]],fun x => f86 k x.1 x.2.1⟩
noncomputable def E_f86 (k : Nat) : Env := ⟨Tryz.prog,G0,snil,tcons 3 (l86_3_sig k) (tnil),tnil,unil,k,qnil,false⟩
theorem l86_3_ok (k : Nat) : LoopOK (E_f86 k) ⟨Tryz.f86.ntmps,[],G0⟩ (nthC 0 (loopsIn (Tryz.f86.body.getD .skip))) :=
  loop_ok (ls := l86_3_sig k) (by kernel_rfl) (fun _ => by kernel_rfl) (fun j x => by kernel_rfl)
theorem f86_run (k : Nat) (x : (lTy (lay 0 (f86_sig k).ins)).den) : runF (E_f86 k) Tryz.f86 (f86_sig k) x = (f86_sig k).F x := by kernel_rfl
theorem f86_ok [Dr] (k : Nat) : FnOK Tryz.prog G0 86 (f86_sig k) :=
  fn_ok2 (E := E_f86 k) (env_nil) (qenv_nil) mixed Tryz.func86 Tryz.call86 (by kernel_rfl) (by kernel_rfl) (m := 1) (by kernel_rfl) ⟨trivial,l86_3_ok k⟩ (sk := []) (by kernel_rfl) trivial (f86_run k)
noncomputable def l85_8 (k : Nat) : Nat → (List (Int×(Int×Int×Int×Unit)×Unit)) → Int → Int → Option (Unit ⊕ (Int×Unit))
 | 0,_,_,_ => none
 | j + 1,s15,s16,s17 =>
  bif decide (s17 < s16) then
  bif decide (0 ≤ s17) && decide (s17 < (s15.length : Int)) then
  bif decide ((rd ((0,(0,0,0,()),()) : Int×(Int×Int×Int×Unit)×Unit) s15 s17).1 < 0) then
  some (.inr (4,()))
  else
  bif decide ((rd ((0,(0,0,0,()),()) : Int×(Int×Int×Int×Unit)×Unit) s15 s17).1 > 1) then
  some (.inr (4,()))
  else
  l85_8 k j s15 s16 (w64 (s17 + 1))
  else
  none
  else
  some (.inl ())
noncomputable def l85_8_sig (k : Nat) : LoopSig := ⟨[(15,.obj (.val ty38)),(16,.obj ck1),(17,.obj ck1)],[(.exit 2,[]),(.ret,[(2,.obj ck1)])],fun j x => l85_8 k j x.1 x.2.1 x.2.2.1⟩
noncomputable def f85 (k : Nat) (x0 : List (Int×(Int×Int×Int×Unit)×Unit)) : Option ((Int×Unit)) :=
  (f86 k x0 0).bind fun r1 =>
  bif decide ((r1.1.length : Int) > 4) then
  some (2,())
  else
  (f86 k x0 1).bind fun r2 =>
  bif decide ((r2.1.length : Int) > 4) then
  some (2,())
  else
  (l85_8 k k x0 (x0.length : Int) 0).bind fun q27 =>
  Sum.elim
  (fun y3 =>
  some (0,()))
  (fun y4 =>
  some y4)
  q27
noncomputable def f85_sig (k : Nat) : Sig := ⟨[.val ty38],[],[[.val (.int .i64)]],fun x => f85 k x.1⟩
noncomputable def E_f85 (k : Nat) : Env := ⟨Tryz.prog,G0,scons 86 [f86_sig k] (snil),tcons 8 (l85_8_sig k) (tnil),tnil,ucons 2 3 (unil),k,qnil,false⟩
theorem l85_8_ok (k : Nat) : LoopOK (E_f85 k) ⟨Tryz.f85.ntmps,[],G0⟩ (nthC 1 (loopsIn (Tryz.f85.body.getD .skip))) :=
  loop_ok (ls := l85_8_sig k) (by kernel_rfl) (fun _ => by kernel_rfl) (fun j x => by kernel_rfl)
theorem f85_run (k : Nat) (x : (lTy (lay 0 (f85_sig k).ins)).den) : runF (E_f85 k) Tryz.f85 (f85_sig k) x = (f85_sig k).F x := by kernel_rfl
theorem f85_ok [Dr] (k : Nat) : FnOK Tryz.prog G0 85 (f85_sig k) :=
  fn_ok2 (E := E_f85 k) (env_cons (one_sig (f86_ok k)) (env_nil)) (qenv_nil) mixed Tryz.func85 Tryz.call85 (by kernel_rfl) (by kernel_rfl) (m := 2) (by kernel_rfl) ⟨⟨trivial,loop_none (by kernel_rfl)⟩,l85_8_ok k⟩ (sk := []) (by kernel_rfl) trivial (f85_run k)
noncomputable def f119 (k : Nat) (x0 : Int×(Int×Int×Int×Unit)×Unit) (x1 : (List Int)×((List Int)×(List Int)×Unit)×Int×Int×Unit) : Option ((Bool×((List Int)×((List Int)×(List Int)×Unit)×Int×Int×Unit)×Unit)) :=
  some (x0.1 == x1.2.2.1,x1,())
noncomputable def f119_sig (k : Nat) : Sig := ⟨[.val ty36,.box 59 (.val ty49)],[1],[[.val (.bool),.box 59 (.val ty49)]],fun x => f119 k x.1 x.2.1⟩
noncomputable def E_f119 (k : Nat) : Env := ⟨Tryz.prog,G0,snil,tnil,tnil,unil,k,qnil,false⟩
theorem f119_run (k : Nat) (x : (lTy (lay 0 (f119_sig k).ins)).den) : runF (E_f119 k) Tryz.f119 (f119_sig k) x = (f119_sig k).F x := by kernel_rfl
theorem f119_ok [Dr] (k : Nat) : FnOK Tryz.prog G0 119 (f119_sig k) :=
  fn_ok2 (E := E_f119 k) (env_nil) (qenv_nil) mixed Tryz.func119 Tryz.call119 (by kernel_rfl) (by kernel_rfl) (m := 0) (by kernel_rfl) trivial (sk := []) (by kernel_rfl) trivial (f119_run k)
noncomputable def l118_2 (k : Nat) : Nat → (List (Int×(Int×Int×Int×Unit)×Unit)) → (((List Int)×((List Int)×(List Int)×Unit)×Int×Int×Unit)×Unit) → Int → Int → Option (((((List Int)×((List Int)×(List Int)×Unit)×Int×Int×Unit)×Unit)×Unit) ⊕ ((((List Int)×((List Int)×(List Int)×Unit)×Int×Int×Unit)×Unit)×Int×Unit))
 | 0,_,_,_,_ => none
 | j + 1,s0,s1,s7,s8 =>
  bif decide (s8 < s7) then
  bif decide (0 ≤ s8) && decide (s8 < (s0.length : Int)) then
  (f119 k (rd ((0,(0,0,0,()),()) : Int×(Int×Int×Int×Unit)×Unit) s0 s8) s1.1).bind fun r1 =>
  bif r1.1 then
  some (.inr (r1.2,s8,()))
  else
  l118_2 k j s0 r1.2 s7 (w64 (s8 + 1))
  else
  none
  else
  some (.inl (s1,()))
noncomputable def l118_2_sig (k : Nat) : LoopSig := ⟨[(0,.obj (.val ty38)),(1,.obj (.clo 119 ck60)),(7,.obj ck1),(8,.obj ck1)],[(.exit 0,[(1,.obj (.clo 119 ck60))]),(.ret,[(1,.obj (.clo 119 ck60)),(4,.obj ck1)])],fun j x => l118_2 k j x.1 x.2.1 x.2.2.1 x.2.2.2.1⟩
noncomputable def f118 (k : Nat) (x0 : List (Int×(Int×Int×Int×Unit)×Unit)) (x1 : ((List Int)×((List Int)×(List Int)×Unit)×Int×Int×Unit)×Unit) : Option ((Int×(((List Int)×((List Int)×(List Int)×Unit)×Int×Int×Unit)×Unit)×Unit)) :=
  (l118_2 k k x0 x1 (x0.length : Int) 0).bind fun q28 =>
  Sum.elim
  (fun y1 =>
  some ((-1),y1))
  (fun y2 =>
  some (y2.2.1,y2.1,()))
  q28
noncomputable def f118_sig (k : Nat) : Sig := ⟨[.val ty38,.clo 119 ck60],[1],[[.val (.int .i64),.clo 119 ck60]],fun x => f118 k x.1 x.2.1⟩
noncomputable def E_f118 (k : Nat) : Env := ⟨Tryz.prog,G0,scons 119 [f119_sig k] (snil),tcons 2 (l118_2_sig k) (tnil),tnil,unil,k,qnil,false⟩
theorem l118_2_ok (k : Nat) : LoopOK (E_f118 k) ⟨Tryz.f118.ntmps,[1],G0⟩ (nthC 0 (loopsIn (Tryz.f118.body.getD .skip))) :=
  loop_ok (ls := l118_2_sig k) (by kernel_rfl) (fun _ => by kernel_rfl) (fun j x => by kernel_rfl)
theorem f118_run (k : Nat) (x : (lTy (lay 0 (f118_sig k).ins)).den) : runF (E_f118 k) Tryz.f118 (f118_sig k) x = (f118_sig k).F x := by kernel_rfl
theorem f118_ok [Dr] (k : Nat) : FnOK Tryz.prog G0 118 (f118_sig k) :=
  fn_ok2 (E := E_f118 k) (env_cons (one_sig (f119_ok k)) (env_nil)) (qenv_nil) mixed Tryz.func118 Tryz.call118 (by kernel_rfl) (by kernel_rfl) (m := 1) (by kernel_rfl) ⟨trivial,l118_2_ok k⟩ (sk := []) (by kernel_rfl) trivial (f118_run k)
noncomputable def f39 (k : Nat) (x0 : List (Int×(Int×Int×Int×Unit)×Unit)) : Option (((List (Int×(Int×Int×Int×Unit)×Unit))×Unit)) :=
  bif nilB x0 then
  both (
  some ([],()))
  (
  bif decide ((([] : List (Int×(Int×Int×Int×Unit)×Unit)).length + x0.length) * 32 ≤ roomN) then
  some ([] ++ x0,())
  else
  none)
  else
  bif decide ((([] : List (Int×(Int×Int×Int×Unit)×Unit)).length + x0.length) * 32 ≤ roomN) then
  some ([] ++ x0,())
  else
  none
noncomputable def f39_sig (k : Nat) : Sig := ⟨[.val ty38],[],[[.row ty36]],fun x => f39 k x.1⟩
noncomputable def E_f39 (k : Nat) : Env := ⟨Tryz.prog,G0,snil,tnil,tnil,unil,k,qnil,false⟩
theorem f39_run (k : Nat) (x : (lTy (lay 0 (f39_sig k).ins)).den) : runF (E_f39 k) Tryz.f39 (f39_sig k) x = (f39_sig k).F x := by kernel_rfl
theorem f39_ok [Dr] (k : Nat) : FnOK Tryz.prog G0 39 (f39_sig k) :=
  fn_ok2 (E := E_f39 k) (env_nil) (qenv_nil) mixed Tryz.func39 Tryz.call39 (by kernel_rfl) (by kernel_rfl) (m := 0) (by kernel_rfl) trivial (sk := []) (by kernel_rfl) trivial (f39_run k)
noncomputable def f149 (k : Nat) (x0 : Int×(Int×Int×Int×Unit)×Unit) (x1 : Int) : Option ((Bool×Int×Unit)) :=
  some (x0.1 == x1,x1,())
noncomputable def f149_sig (k : Nat) : Sig := ⟨[.val ty36,.box 3 ck1],[1],[[.val (.bool),.box 3 ck1]],fun x => f149 k x.1 x.2.1⟩
noncomputable def E_f149 (k : Nat) : Env := ⟨Tryz.prog,G0,snil,tnil,tnil,unil,k,qnil,false⟩
theorem f149_run (k : Nat) (x : (lTy (lay 0 (f149_sig k).ins)).den) : runF (E_f149 k) Tryz.f149 (f149_sig k) x = (f149_sig k).F x := by kernel_rfl
theorem f149_ok [Dr] (k : Nat) : FnOK Tryz.prog G0 149 (f149_sig k) :=
  fn_ok2 (E := E_f149 k) (env_nil) (qenv_nil) mixed Tryz.func149 Tryz.call149 (by kernel_rfl) (by kernel_rfl) (m := 0) (by kernel_rfl) trivial (sk := []) (by kernel_rfl) trivial (f149_run k)
noncomputable def l118v1_2 (k : Nat) : Nat → (List (Int×(Int×Int×Int×Unit)×Unit)) → (Int×Unit) → Int → Int → Option (((Int×Unit)×Unit) ⊕ ((Int×Unit)×Int×Unit))
 | 0,_,_,_,_ => none
 | j + 1,s0,s1,s7,s8 =>
  bif decide (s8 < s7) then
  bif decide (0 ≤ s8) && decide (s8 < (s0.length : Int)) then
  (f149 k (rd ((0,(0,0,0,()),()) : Int×(Int×Int×Int×Unit)×Unit) s0 s8) s1.1).bind fun r1 =>
  bif r1.1 then
  some (.inr (r1.2,s8,()))
  else
  l118v1_2 k j s0 r1.2 s7 (w64 (s8 + 1))
  else
  none
  else
  some (.inl (s1,()))
noncomputable def l118v1_2_sig (k : Nat) : LoopSig := ⟨[(0,.obj (.val ty38)),(1,.obj (.clo 149 ck11)),(7,.obj ck1),(8,.obj ck1)],[(.exit 0,[(1,.obj (.clo 149 ck11))]),(.ret,[(1,.obj (.clo 149 ck11)),(4,.obj ck1)])],fun j x => l118v1_2 k j x.1 x.2.1 x.2.2.1 x.2.2.2.1⟩
noncomputable def f118v1 (k : Nat) (x0 : List (Int×(Int×Int×Int×Unit)×Unit)) (x1 : Int×Unit) : Option ((Int×(Int×Unit)×Unit)) :=
  (l118v1_2 k k x0 x1 (x0.length : Int) 0).bind fun q29 =>
  Sum.elim
  (fun y1 =>
  some ((-1),y1))
  (fun y2 =>
  some (y2.2.1,y2.1,()))
  q29
noncomputable def f118v1_sig (k : Nat) : Sig := ⟨[.val ty38,.clo 149 ck11],[1],[[.val (.int .i64),.clo 149 ck11]],fun x => f118v1 k x.1 x.2.1⟩
noncomputable def E_f118v1 (k : Nat) : Env := ⟨Tryz.prog,G0,scons 149 [f149_sig k] (snil),tcons 2 (l118v1_2_sig k) (tnil),tnil,unil,k,qnil,false⟩
theorem l118v1_2_ok (k : Nat) : LoopOK (E_f118v1 k) ⟨Tryz.f118.ntmps,[1],G0⟩ (nthC 0 (loopsIn (Tryz.f118.body.getD .skip))) :=
  loop_ok (ls := l118v1_2_sig k) (by kernel_rfl) (fun _ => by kernel_rfl) (fun j x => by kernel_rfl)
theorem f118v1_run (k : Nat) (x : (lTy (lay 0 (f118v1_sig k).ins)).den) : runF (E_f118v1 k) Tryz.f118 (f118v1_sig k) x = (f118v1_sig k).F x := by kernel_rfl
theorem f118v1_ok [Dr] (k : Nat) : FnOK Tryz.prog G0 118 (f118v1_sig k) :=
  fn_ok2 (E := E_f118v1 k) (env_cons (one_sig (f149_ok k)) (env_nil)) (qenv_nil) mixed Tryz.func118 Tryz.call118 (by kernel_rfl) (by kernel_rfl) (m := 1) (by kernel_rfl) ⟨trivial,l118v1_2_ok k⟩ (sk := []) (by kernel_rfl) trivial (f118v1_run k)
noncomputable def l148_5 (k : Nat) : Nat → (List (Int×(Int×Int×Int×Unit)×Unit)) → (Int×Unit) → Int → Int → Option (((List (Int×(Int×Int×Int×Unit)×Unit))×(Int×Unit)×Int×Unit))
 | 0,_,_,_,_ => none
 | j + 1,s0,s1,s5,s6 =>
  bif decide (s6 < (s0.length : Int)) then
  bif decide (0 ≤ s6) && decide (s6 < (s0.length : Int)) then
  (f149 k (rd ((0,(0,0,0,()),()) : Int×(Int×Int×Int×Unit)×Unit) s0 s6) s1.1).bind fun r1 =>
  bif !r1.1 then
  bif decide (0 ≤ s5) && decide (s5 < (s0.length : Int)) then
  l148_5 k j (s0.set s5.toNat (rd ((0,(0,0,0,()),()) : Int×(Int×Int×Int×Unit)×Unit) s0 s6)) r1.2 (w64 (s5 + 1)) (w64 (s6 + 1))
  else
  none
  else
  l148_5 k j s0 r1.2 s5 (w64 (s6 + 1))
  else
  none
  else
  some (s0,s1,s5,())
noncomputable def l148_5_sig (k : Nat) : LoopSig := ⟨[(0,.obj (.row ty36)),(1,.obj (.clo 149 ck11)),(5,.obj ck1),(6,.obj ck1)],[(.exit 0,[(0,.obj (.row ty36)),(1,.obj (.clo 149 ck11)),(5,.obj ck1)])],fun j x => l148_5 k j x.1 x.2.1 x.2.2.1 x.2.2.2.1⟩
noncomputable def f148 (k : Nat) (x0 : List (Int×(Int×Int×Int×Unit)×Unit)) (x1 : Int×Unit) : Option (((List (Int×(Int×Int×Int×Unit)×Unit))×(List (Int×(Int×Int×Int×Unit)×Unit))×(Int×Unit)×Unit)) :=
  (f118v1 k x0 x1).bind fun r1 =>
  bif r1.1 == (-1) then
  some (x0,x0,r1.2)
  else
  (l148_5 k k x0 r1.2.1 r1.1 (w64 (r1.1 + 1))).bind fun o2 =>
  bif decide (0 ≤ o2.2.2.1) && (decide (o2.2.2.1 ≤ (o2.1.length : Int)) && decide ((o2.1.length : Int) ≤ (o2.1.length : Int))) then
  bif Nat.ble (o2.2.2.1.toNat + ((o2.1.length : Int) - o2.2.2.1).toNat) o2.1.length then
  bif decide (0 ≤ o2.2.2.1) && decide (o2.2.2.1 ≤ ((o2.1.take o2.2.2.1.toNat ++ (List.replicate ((o2.1.length : Int) - o2.2.2.1).toNat ((0,(0,0,0,()),()) : Int×(Int×Int×Int×Unit)×Unit) ++ o2.1.drop (o2.2.2.1.toNat + ((o2.1.length : Int) - o2.2.2.1).toNat))).length : Int)) then
  some (first o2.2.2.1.toNat (o2.1.take o2.2.2.1.toNat ++ (List.replicate ((o2.1.length : Int) - o2.2.2.1).toNat ((0,(0,0,0,()),()) : Int×(Int×Int×Int×Unit)×Unit) ++ o2.1.drop (o2.2.2.1.toNat + ((o2.1.length : Int) - o2.2.2.1).toNat))),o2.1.take o2.2.2.1.toNat ++ (List.replicate ((o2.1.length : Int) - o2.2.2.1).toNat ((0,(0,0,0,()),()) : Int×(Int×Int×Int×Unit)×Unit) ++ o2.1.drop (o2.2.2.1.toNat + ((o2.1.length : Int) - o2.2.2.1).toNat)),o2.2.1,())
  else
  none
  else
  none
  else
  none
noncomputable def f148_sig (k : Nat) : Sig := ⟨[.row ty36,.clo 149 ck11],[0,1],[[.val ty38,.val ty38,.clo 149 ck11]],fun x => f148 k x.1 x.2.1⟩
noncomputable def E_f148 (k : Nat) : Env := ⟨Tryz.prog,G0,scons 149 [f149_sig k] (scons 118 [f118v1_sig k] (snil)),tcons 5 (l148_5_sig k) (tnil),tnil,unil,k,qnil,false⟩
theorem l148_5_ok (k : Nat) : LoopOK (E_f148 k) ⟨Tryz.f148.ntmps,[0,1],G0⟩ (nthC 0 (loopsIn (Tryz.f148.body.getD .skip))) :=
  loop_ok (ls := l148_5_sig k) (by kernel_rfl) (fun _ => by kernel_rfl) (fun j x => by kernel_rfl)
theorem f148_run (k : Nat) (x : (lTy (lay 0 (f148_sig k).ins)).den) : runF (E_f148 k) Tryz.f148 (f148_sig k) x = (f148_sig k).F x := by kernel_rfl
theorem f148_ok [Dr] (k : Nat) : FnOK Tryz.prog G0 148 (f148_sig k) :=
  fn_ok2 (E := E_f148 k) (env_cons (one_sig (f149_ok k)) (env_cons (one_sig (f118v1_ok k)) (env_nil))) (qenv_nil) mixed Tryz.func148 Tryz.call148 (by kernel_rfl) (by kernel_rfl) (m := 1) (by kernel_rfl) ⟨trivial,l148_5_ok k⟩ (sk := []) (by kernel_rfl) trivial (f148_run k)
noncomputable def f120 (k : Nat) (x0 : List (Int×(Int×Int×Int×Unit)×Unit)) (x1 : Int) : Option (((List (Int×(Int×Int×Int×Unit)×Unit))×Int×Unit)) :=
  (f85 k x0).bind fun r1 =>
  bif r1.1 != 0 then
  some ([],r1)
  else
  (f39 k x0).bind fun r2 =>
  (f148 k r2.1 (x1,())).bind fun r3 =>
  some (r3.1,0,())
noncomputable def f120_sig (k : Nat) : Sig := ⟨[.val ty38,.val (.int .i64)],[],[[.val ty38,.val (.int .i64)]],fun x => f120 k x.1 x.2.1⟩
noncomputable def E_f120 (k : Nat) : Env := ⟨Tryz.prog,G0,scons 148 [f148_sig k] (scons 85 [f85_sig k] (scons 39 [f39_sig k] (snil))),tnil,tnil,unil,k,qnil,false⟩
theorem f120_run (k : Nat) (x : (lTy (lay 0 (f120_sig k).ins)).den) : runF (E_f120 k) Tryz.f120 (f120_sig k) x = (f120_sig k).F x := by kernel_rfl
theorem f120_ok [Dr] (k : Nat) : FnOK Tryz.prog G0 120 (f120_sig k) :=
  fn_ok2 (E := E_f120 k) (env_cons (one_sig (f148_ok k)) (env_cons (one_sig (f85_ok k)) (env_cons (one_sig (f39_ok k)) (env_nil)))) (qenv_nil) mixed Tryz.func120 Tryz.call120 (by kernel_rfl) (by kernel_rfl) (m := 0) (by kernel_rfl) trivial (sk := []) (by kernel_rfl) trivial (f120_run k)
noncomputable def f121 (k : Nat) (x0 : List (Int×(Int×Int×Int×Unit)×Unit)) (x1 : Int) (x2 : Int) : Option (((List (Int×(Int×Int×Int×Unit)×Unit))×Unit)) :=
  bif decide (0 ≤ x1) && (decide (x1 ≤ x2) && (decide (x2 ≤ (x0.length : Int)) && decide ((x0.length : Int) ≤ (x0.length : Int)))) then
  bif x1 == x2 then
  some (x0,())
  else
  bif decide (0 ≤ x1) && decide (x1 ≤ (x0.length : Int)) then
  bif decide (0 ≤ x2) && (decide (x2 ≤ (x0.length : Int)) && decide ((x0.length : Int) ≤ (x0.length : Int))) then
  bif decide (x1.toNat + ((x0.drop x2.toNat).take ((x0.length : Int) - x2).toNat).length ≤ x0.length) && decide (0 < x0.length) then
  bif decide (0 ≤ ((x1.toNat + ((x0.drop x2.toNat).take ((x0.length : Int) - x2).toNat).length : Nat) : Int)) && (decide (((x1.toNat + ((x0.drop x2.toNat).take ((x0.length : Int) - x2).toNat).length : Nat) : Int) ≤ (x0.length : Int)) && decide ((x0.length : Int) ≤ ((x0.take x1.toNat ++ ((x0.drop x2.toNat).take ((x0.length : Int) - x2).toNat ++ x0.drop (x1.toNat + ((x0.drop x2.toNat).take ((x0.length : Int) - x2).toNat).length))).length : Int))) then
  bif Nat.ble (((x1.toNat + ((x0.drop x2.toNat).take ((x0.length : Int) - x2).toNat).length : Nat) : Int).toNat + ((x0.length : Int) - ((x1.toNat + ((x0.drop x2.toNat).take ((x0.length : Int) - x2).toNat).length : Nat) : Int)).toNat) (x0.take x1.toNat ++ ((x0.drop x2.toNat).take ((x0.length : Int) - x2).toNat ++ x0.drop (x1.toNat + ((x0.drop x2.toNat).take ((x0.length : Int) - x2).toNat).length))).length then
  some (first (x1.toNat + ((x0.drop x2.toNat).take ((x0.length : Int) - x2).toNat).length) ((x0.take x1.toNat ++ ((x0.drop x2.toNat).take ((x0.length : Int) - x2).toNat ++ x0.drop (x1.toNat + ((x0.drop x2.toNat).take ((x0.length : Int) - x2).toNat).length))).take ((x1.toNat + ((x0.drop x2.toNat).take ((x0.length : Int) - x2).toNat).length : Nat) : Int).toNat ++ (List.replicate ((x0.length : Int) - ((x1.toNat + ((x0.drop x2.toNat).take ((x0.length : Int) - x2).toNat).length : Nat) : Int)).toNat ((0,(0,0,0,()),()) : Int×(Int×Int×Int×Unit)×Unit) ++ (x0.take x1.toNat ++ ((x0.drop x2.toNat).take ((x0.length : Int) - x2).toNat ++ x0.drop (x1.toNat + ((x0.drop x2.toNat).take ((x0.length : Int) - x2).toNat).length))).drop (((x1.toNat + ((x0.drop x2.toNat).take ((x0.length : Int) - x2).toNat).length : Nat) : Int).toNat + ((x0.length : Int) - ((x1.toNat + ((x0.drop x2.toNat).take ((x0.length : Int) - x2).toNat).length : Nat) : Int)).toNat))),())
  else
  none
  else
  none
  else
  none
  else
  none
  else
  none
  else
  none
noncomputable def f121_sig (k : Nat) : Sig := ⟨[.row ty36,.val (.int .i64),.val (.int .i64)],[],[[.row ty36]],fun x => f121 k x.1 x.2.1 x.2.2.1⟩
noncomputable def E_f121 (k : Nat) : Env := ⟨Tryz.prog,G0,snil,tnil,tnil,unil,k,qnil,false⟩
theorem f121_run (k : Nat) (x : (lTy (lay 0 (f121_sig k).ins)).den) : runF (E_f121 k) Tryz.f121 (f121_sig k) x = (f121_sig k).F x := by kernel_rfl
theorem f121_ok [Dr] (k : Nat) : FnOK Tryz.prog G0 121 (f121_sig k) :=
  fn_ok2 (E := E_f121 k) (env_nil) (qenv_nil) mixed Tryz.func121 Tryz.call121 (by kernel_rfl) (by kernel_rfl) (m := 0) (by kernel_rfl) trivial (sk := []) (by kernel_rfl) trivial (f121_run k)
noncomputable def f77 (k : Nat) (x0 : ByteArray×Int×Int×(List (Int×Int×Int×(List (Int×Int×Int×Int×Unit))×Unit))×(List Int)×Bool×Bool×(List (Int×Int×Int×Bool×Unit))×Int×Int×Int×Unit) (x1 : (List Int)×((List Int)×(List Int)×Unit)×Int×Int×Unit) (x2 : List (Int×(Int×Int×Int×Unit)×Unit)) : Option (((Int×Int×Int×Unit)×Bool×(List (Int×(Int×Int×Int×Unit)×Unit))×Int×Unit)) :=
  (f117 k x0 x1).bind fun r1 =>
  bif r1.1 != 0 then
  some ((0,0,0,()),false,[],r1)
  else
  (f85 k x2).bind fun r2 =>
  bif r2.1 != 0 then
  some ((0,0,0,()),false,[],r2)
  else
  (f118 k x2 (x1,())).bind fun r3 =>
  bif decide (r3.1 < 0) then
  (f120 k x2 r3.2.1.1.2.2.1).bind fun r4 =>
  some ((0,0,0,()),false,r4.1,0,())
  else
  (f91 k x0 r3.2.1.1).bind fun r5 =>
  bif r5.1 != 0 then
  (f120 k x2 r3.2.1.1.2.2.1).bind fun r6 =>
  some ((0,0,0,()),false,r6.1,0,())
  else
  (f75 k x0 r3.2.1.1).bind fun r7 =>
  bif decide (0 ≤ r3.1) && decide (r3.1 < (x2.length : Int)) then
  (f74 k r7.1 (rd ((0,(0,0,0,()),()) : Int×(Int×Int×Int×Unit)×Unit) x2 r3.1).2.1).bind fun r8 =>
  bif !r8.1 then
  (f120 k x2 r3.2.1.1.2.2.1).bind fun r9 =>
  some ((0,0,0,()),false,r9.1,0,())
  else
  bif decide (0 ≤ r3.1) && decide (r3.1 < (x2.length : Int)) then
  (f39 k x2).bind fun r10 =>
  (f121 k r10.1 r3.1 (w64 (r3.1 + 1))).bind fun r11 =>
  some ((rd ((0,(0,0,0,()),()) : Int×(Int×Int×Int×Unit)×Unit) x2 r3.1).2.1,true,r11.1,0,())
  else
  none
  else
  none
noncomputable def f77_sig (k : Nat) : Sig := ⟨[.val ty73,.val ty49,.val ty38],[],[[.val ty23,.val (.bool),.val ty38,.val (.int .i64)]],fun x => f77 k x.1 x.2.1 x.2.2.1⟩
noncomputable def E_f77 (k : Nat) : Env := ⟨Tryz.prog,G0,scons 121 [f121_sig k] (scons 120 [f120_sig k] (scons 118 [f118_sig k] (scons 117 [f117_sig k] (scons 91 [f91_sig k] (scons 85 [f85_sig k] (scons 75 [f75_sig k] (scons 74 [f74_sig k] (scons 39 [f39_sig k] (snil))))))))),tnil,tnil,unil,k,qnil,false⟩
theorem f77_run (k : Nat) (x : (lTy (lay 0 (f77_sig k).ins)).den) : runF (E_f77 k) Tryz.f77 (f77_sig k) x = (f77_sig k).F x := by kernel_rfl
theorem f77_ok [Dr] (k : Nat) : FnOK Tryz.prog G0 77 (f77_sig k) :=
  fn_ok2 (E := E_f77 k) (env_cons (one_sig (f121_ok k)) (env_cons (one_sig (f120_ok k)) (env_cons (one_sig (f118_ok k)) (env_cons (one_sig (f117_ok k)) (env_cons (one_sig (f91_ok k)) (env_cons (one_sig (f85_ok k)) (env_cons (one_sig (f75_ok k)) (env_cons (one_sig (f74_ok k)) (env_cons (one_sig (f39_ok k)) (env_nil)))))))))) (qenv_nil) mixed Tryz.func77 Tryz.call77 (by kernel_rfl) (by kernel_rfl) (m := 0) (by kernel_rfl) trivial (sk := []) (by kernel_rfl) trivial (f77_run k)
noncomputable def l42_10 (k : Nat) : Nat → ((ByteArray×Int×Int×(List (Int×Int×Int×(List (Int×Int×Int×Int×Unit))×Unit))×(List Int)×Bool×Bool×(List (Int×Int×Int×Bool×Unit))×Int×Int×Int×Unit)×((List (Int×Int×Unit))×Int×Int×Unit)×((ByteArray×Int×Int×(List (Int×Int×Int×(List (Int×Int×Int×Int×Unit))×Unit))×(List Int)×Bool×Bool×(List (Int×Int×Int×Bool×Unit))×Int×Int×Int×Unit)×(List ((List Int)×((List Int)×(List Int)×Unit)×Int×Int×Unit))×(List (Int×Int×Int×Unit))×Unit)×((List (Int×Int×Int×Unit))×Int×Int×((Int×Int×Unit)×(Int×Int×Unit)×(Int×Int×Unit)×Int×Int×Bool×Int×Unit)×((Int×Int×Unit)×((Int×Int×Unit)×(Int×Int×Unit)×Unit)×Unit)×(List (Int×(Int×Int×Int×Unit)×Unit))×Unit)×Int×(List (ByteArray×Int×Unit))×Unit) → ((List (Int×Int×Int×Unit))×Int×Int×((Int×Int×Unit)×(Int×Int×Unit)×(Int×Int×Unit)×Int×Int×Bool×Int×Unit)×((Int×Int×Unit)×((Int×Int×Unit)×(Int×Int×Unit)×Unit)×Unit)×(List (Int×(Int×Int×Int×Unit)×Unit))×Unit) → (Int×Int×Int×Int×(Int×Int×Int×Unit)×Unit) → Option ((((ByteArray×Int×Int×(List (Int×Int×Int×(List (Int×Int×Int×Int×Unit))×Unit))×(List Int)×Bool×Bool×(List (Int×Int×Int×Bool×Unit))×Int×Int×Int×Unit)×((List (Int×Int×Unit))×Int×Int×Unit)×((ByteArray×Int×Int×(List (Int×Int×Int×(List (Int×Int×Int×Int×Unit))×Unit))×(List Int)×Bool×Bool×(List (Int×Int×Int×Bool×Unit))×Int×Int×Int×Unit)×(List ((List Int)×((List Int)×(List Int)×Unit)×Int×Int×Unit))×(List (Int×Int×Int×Unit))×Unit)×((List (Int×Int×Int×Unit))×Int×Int×((Int×Int×Unit)×(Int×Int×Unit)×(Int×Int×Unit)×Int×Int×Bool×Int×Unit)×((Int×Int×Unit)×((Int×Int×Unit)×(Int×Int×Unit)×Unit)×Unit)×(List (Int×(Int×Int×Int×Unit)×Unit))×Unit)×Int×(List (ByteArray×Int×Unit))×Unit)×((List (Int×Int×Int×Unit))×Int×Int×((Int×Int×Unit)×(Int×Int×Unit)×(Int×Int×Unit)×Int×Int×Bool×Int×Unit)×((Int×Int×Unit)×((Int×Int×Unit)×(Int×Int×Unit)×Unit)×Unit)×(List (Int×(Int×Int×Int×Unit)×Unit))×Unit)×Unit))
 | 0,_,_,_ => none
 | j + 1,s0,s1,s5 =>
  (f53 k s0.2.2.1).bind fun r1 =>
  bif r1.1 == 0 then
  (f38 k s0.2.2.1).bind fun r2 =>
  bif decide ((r2.1.length : Int) < 400) then
  (f52 k r2.2.1).bind fun r3 =>
  (f77 k s0.1 r3.1 s1.2.2.2.2.2.1).bind fun r4 =>
  bif !r4.2.1 then
  some ((s0.1,s0.2.1,r2.2.1,s0.2.2.2),(s1.1,s1.2.1,s1.2.2.1,s1.2.2.2.1,s1.2.2.2.2.1,r4.2.2.1,()),())
  else
  (f76 k (s0.1,s0.2.1,r2.2.1,s0.2.2.2) (s1.1,s1.2.1,s1.2.2.1,s1.2.2.2.1,s1.2.2.2.2.1,r4.2.2.1,()) r4.1 s5.2.2.2.1).bind fun r5 =>
  bif r5.1 != 0 then
  some r5.2
  else
  l42_10 k j r5.2.1 r5.2.2.1 s5
  else
  some ((s0.1,s0.2.1,r2.2.1,s0.2.2.2),s1,())
  else
  some (s0,s1,())
noncomputable def l42_10_sig (k : Nat) : LoopSig := ⟨[(0,.obj ck88),(1,.obj (.box 50 ck80)),(5,.obj ck63)],[(.exit 0,[(0,.obj ck88),(1,.obj (.box 50 ck80))])],fun j x => l42_10 k j x.1 x.2.1 x.2.2.1⟩
noncomputable def f42 (k : Nat) (x0 : (ByteArray×Int×Int×(List (Int×Int×Int×(List (Int×Int×Int×Int×Unit))×Unit))×(List Int)×Bool×Bool×(List (Int×Int×Int×Bool×Unit))×Int×Int×Int×Unit)×((List (Int×Int×Unit))×Int×Int×Unit)×((ByteArray×Int×Int×(List (Int×Int×Int×(List (Int×Int×Int×Int×Unit))×Unit))×(List Int)×Bool×Bool×(List (Int×Int×Int×Bool×Unit))×Int×Int×Int×Unit)×(List ((List Int)×((List Int)×(List Int)×Unit)×Int×Int×Unit))×(List (Int×Int×Int×Unit))×Unit)×((List (Int×Int×Int×Unit))×Int×Int×((Int×Int×Unit)×(Int×Int×Unit)×(Int×Int×Unit)×Int×Int×Bool×Int×Unit)×((Int×Int×Unit)×((Int×Int×Unit)×(Int×Int×Unit)×Unit)×Unit)×(List (Int×(Int×Int×Int×Unit)×Unit))×Unit)×Int×(List (ByteArray×Int×Unit))×Unit) (x1 : (List (Int×Int×Int×Unit))×Int×Int×((Int×Int×Unit)×(Int×Int×Unit)×(Int×Int×Unit)×Int×Int×Bool×Int×Unit)×((Int×Int×Unit)×((Int×Int×Unit)×(Int×Int×Unit)×Unit)×Unit)×(List (Int×(Int×Int×Int×Unit)×Unit))×Unit) (x2 : Int×Int×Int×Int×(Int×Int×Int×Unit)×Unit) : Option ((Int×((ByteArray×Int×Int×(List (Int×Int×Int×(List (Int×Int×Int×Int×Unit))×Unit))×(List Int)×Bool×Bool×(List (Int×Int×Int×Bool×Unit))×Int×Int×Int×Unit)×((List (Int×Int×Unit))×Int×Int×Unit)×((ByteArray×Int×Int×(List (Int×Int×Int×(List (Int×Int×Int×Int×Unit))×Unit))×(List Int)×Bool×Bool×(List (Int×Int×Int×Bool×Unit))×Int×Int×Int×Unit)×(List ((List Int)×((List Int)×(List Int)×Unit)×Int×Int×Unit))×(List (Int×Int×Int×Unit))×Unit)×((List (Int×Int×Int×Unit))×Int×Int×((Int×Int×Unit)×(Int×Int×Unit)×(Int×Int×Unit)×Int×Int×Bool×Int×Unit)×((Int×Int×Unit)×((Int×Int×Unit)×(Int×Int×Unit)×Unit)×Unit)×(List (Int×(Int×Int×Int×Unit)×Unit))×Unit)×Int×(List (ByteArray×Int×Unit))×Unit)×((List (Int×Int×Int×Unit))×Int×Int×((Int×Int×Unit)×(Int×Int×Unit)×(Int×Int×Unit)×Int×Int×Bool×Int×Unit)×((Int×Int×Unit)×((Int×Int×Unit)×(Int×Int×Unit)×Unit)×Unit)×(List (Int×(Int×Int×Int×Unit)×Unit))×Unit)×Unit)) :=
  (f47 k x0).bind fun r1 =>
  bif x2.2.1 != r1.1 then
  some (12,r1.2.1,x1,())
  else
  (f52 k r1.2.1.2.2.1).bind fun r2 =>
  (f75 k r1.2.1.1 r2.1).bind fun r3 =>
  (f74 k r3.1 x2.2.2.2.2.1).bind fun r4 =>
  bif !r4.1 then
  some (13,r1.2.1,x1,())
  else
  (f38 k r1.2.1.2.2.1).bind fun r5 =>
  bif (r5.1.length : Int) == 400 then
  some (2,(r1.2.1.1,r1.2.1.2.1,r5.2.1,r1.2.1.2.2.2),x1,())
  else
  (f76 k (r1.2.1.1,r1.2.1.2.1,r5.2.1,r1.2.1.2.2.2) x1 x2.2.2.2.2.1 x2.2.2.2.1).bind fun r6 =>
  bif r6.1 != 0 then
  some r6
  else
  (l42_10 k k r6.2.1 r6.2.2.1 x2).bind fun o7 =>
  some (0,o7)
noncomputable def f42_sig (k : Nat) : Sig := ⟨[.box 89 ck87,.box 50 ck80,.val ty56],[0,1],[[.val (.int .i64),.box 89 ck87,.box 50 ck80]],fun x => f42 k x.1 x.2.1 x.2.2.1⟩
noncomputable def E_f42 (k : Nat) : Env := ⟨Tryz.prog,G0,scons 77 [f77_sig k] (scons 76 [f76_sig k] (scons 75 [f75_sig k] (scons 74 [f74_sig k] (scons 47 [f47_sig k] (scons 38 [f38_sig k] (snil)))))),tcons 10 (l42_10_sig k) (tnil),tnil,unil,k,qcons 53 (f53_q k) (qcons 52 (f52_q k) (qnil)),false⟩
theorem l42_10_ok (k : Nat) : LoopOK (E_f42 k) ⟨Tryz.f42.ntmps,[0,1],G0⟩ (nthC 0 (loopsIn (Tryz.f42.body.getD .skip))) :=
  loop_ok (ls := l42_10_sig k) (by kernel_rfl) (fun _ => by kernel_rfl) (fun j x => by kernel_rfl)
theorem f42_run (k : Nat) (x : (lTy (lay 0 (f42_sig k).ins)).den) : runF (E_f42 k) Tryz.f42 (f42_sig k) x = (f42_sig k).F x := by kernel_rfl
theorem f42_ok [Dr] (k : Nat) : FnOK Tryz.prog G0 42 (f42_sig k) :=
  fn_ok2 (E := E_f42 k) (env_cons (one_sig (f77_ok k)) (env_cons (one_sig (f76_ok k)) (env_cons (one_sig (f75_ok k)) (env_cons (one_sig (f74_ok k)) (env_cons (one_sig (f47_ok k)) (env_cons (one_sig (f38_ok k)) (env_nil))))))) (qenv_cons (f53_qok k) (qenv_cons (f52_qok k) (qenv_nil))) mixed Tryz.func42 Tryz.call42 (by kernel_rfl) (by kernel_rfl) (m := 1) (by kernel_rfl) ⟨trivial,l42_10_ok k⟩ (sk := []) (by kernel_rfl) trivial (f42_run k)
noncomputable def f123 (k : Nat) (x0 : Int) : Option ((Int×Unit)) :=
  bif decide (x0 < 0) then
  some (0,())
  else
  some (x0.tmod 2,())
noncomputable def f123_sig (k : Nat) : Sig := ⟨[.val (.int .i64)],[],[[.val (.int .i64)]],fun x => f123 k x.1⟩
noncomputable def E_f123 (k : Nat) : Env := ⟨Tryz.prog,G0,snil,tnil,tnil,unil,k,qnil,false⟩
theorem f123_run (k : Nat) (x : (lTy (lay 0 (f123_sig k).ins)).den) : runF (E_f123 k) Tryz.f123 (f123_sig k) x = (f123_sig k).F x := by kernel_rfl
theorem f123_ok [Dr] (k : Nat) : FnOK Tryz.prog G0 123 (f123_sig k) :=
  fn_ok2 (E := E_f123 k) (env_nil) (qenv_nil) mixed Tryz.func123 Tryz.call123 (by kernel_rfl) (by kernel_rfl) (m := 0) (by kernel_rfl) trivial (sk := []) (by kernel_rfl) trivial (f123_run k)
noncomputable def f79 (k : Nat) (x0 : Int) (x1 : Int) : Option ((Int×Unit)) :=
  bif decide (x0 < 0) then
  some (0,())
  else
  bif decide (x0 > 1) then
  some (0,())
  else
  bif decide (x1 < 1) then
  some (0,())
  else
  (f123 k x1).bind fun r1 =>
  bif r1.1 == x0 then
  bif decide (2 > x1) then
  some (0,())
  else
  some (2,())
  else
  bif decide (1 > x1) then
  some (0,())
  else
  some (1,())
noncomputable def f79_sig (k : Nat) : Sig := ⟨[.val (.int .i64),.val (.int .i64)],[],[[.val (.int .i64)]],fun x => f79 k x.1 x.2.1⟩
noncomputable def E_f79 (k : Nat) : Env := ⟨Tryz.prog,G0,scons 123 [f123_sig k] (snil),tnil,tnil,unil,k,qnil,false⟩
theorem f79_run (k : Nat) (x : (lTy (lay 0 (f79_sig k).ins)).den) : runF (E_f79 k) Tryz.f79 (f79_sig k) x = (f79_sig k).F x := by kernel_rfl
theorem f79_ok [Dr] (k : Nat) : FnOK Tryz.prog G0 79 (f79_sig k) :=
  fn_ok2 (E := E_f79 k) (env_cons (one_sig (f123_ok k)) (env_nil)) (qenv_nil) mixed Tryz.func79 Tryz.call79 (by kernel_rfl) (by kernel_rfl) (m := 0) (by kernel_rfl) trivial (sk := []) (by kernel_rfl) trivial (f79_run k)
noncomputable def f43 (k : Nat) (x0 : (Int×Int×Unit)×((Int×Int×Unit)×(Int×Int×Unit)×Unit)×Unit) (x1 : Int) (x2 : Int) (x3 : Int) : Option ((((Int×Int×Unit)×((Int×Int×Unit)×(Int×Int×Unit)×Unit)×Unit)×Int×Unit)) :=
  (f78 k x0 x1 x2 x3).bind fun r1 =>
  bif r1.1 != 0 then
  some (((0,0,()),((0,0,()),(0,0,()),()),()),r1)
  else
  bif x1 == 0 then
  bif decide (x0.1.1 ≥ 0) then
  some (((0,0,()),((0,0,()),(0,0,()),()),()),7,())
  else
  bif x1 == 0 then
  bif x2 == 0 then
  bif x0.2.1.1.1 == x3 then
  some (((0,0,()),((0,0,()),(0,0,()),()),()),11,())
  else
  bif x1 == 1 then
  (f79 k x2 x3).bind fun r2 =>
  bif r2.1 == 0 then
  some (((0,0,()),((0,0,()),(0,0,()),()),()),8,())
  else
  bif x1 == 0 then
  bif x1 == 0 then
  bif x2 == 0 then
  some (((x2,x0.1.2),((x3,x0.2.1.1.2),x0.2.1.2),()),0,())
  else
  bif x2 == 1 then
  some (((x2,x0.1.2),((x0.2.1.1.1,x3,()),x0.2.1.2),()),0,())
  else
  none
  else
  bif x1 == 1 then
  bif x2 == 0 then
  some (((x2,x0.1.2),(x0.2.1.1,(x3,x0.2.1.2.1.2),()),()),0,())
  else
  bif x2 == 1 then
  some (((x2,x0.1.2),(x0.2.1.1,(x0.2.1.2.1.1,x3,()),()),()),0,())
  else
  none
  else
  none
  else
  bif x1 == 1 then
  bif x1 == 0 then
  bif x2 == 0 then
  some (((x0.1.1,x2,()),((x3,x0.2.1.1.2),x0.2.1.2),()),0,())
  else
  bif x2 == 1 then
  some (((x0.1.1,x2,()),((x0.2.1.1.1,x3,()),x0.2.1.2),()),0,())
  else
  none
  else
  bif x1 == 1 then
  bif x2 == 0 then
  some (((x0.1.1,x2,()),(x0.2.1.1,(x3,x0.2.1.2.1.2),()),()),0,())
  else
  bif x2 == 1 then
  some (((x0.1.1,x2,()),(x0.2.1.1,(x0.2.1.2.1.1,x3,()),()),()),0,())
  else
  none
  else
  none
  else
  none
  else
  bif x1 == 0 then
  bif x1 == 0 then
  bif x2 == 0 then
  some (((x2,x0.1.2),((x3,x0.2.1.1.2),x0.2.1.2),()),0,())
  else
  bif x2 == 1 then
  some (((x2,x0.1.2),((x0.2.1.1.1,x3,()),x0.2.1.2),()),0,())
  else
  none
  else
  bif x1 == 1 then
  bif x2 == 0 then
  some (((x2,x0.1.2),(x0.2.1.1,(x3,x0.2.1.2.1.2),()),()),0,())
  else
  bif x2 == 1 then
  some (((x2,x0.1.2),(x0.2.1.1,(x0.2.1.2.1.1,x3,()),()),()),0,())
  else
  none
  else
  none
  else
  bif x1 == 1 then
  bif x1 == 0 then
  bif x2 == 0 then
  some (((x0.1.1,x2,()),((x3,x0.2.1.1.2),x0.2.1.2),()),0,())
  else
  bif x2 == 1 then
  some (((x0.1.1,x2,()),((x0.2.1.1.1,x3,()),x0.2.1.2),()),0,())
  else
  none
  else
  bif x1 == 1 then
  bif x2 == 0 then
  some (((x0.1.1,x2,()),(x0.2.1.1,(x3,x0.2.1.2.1.2),()),()),0,())
  else
  bif x2 == 1 then
  some (((x0.1.1,x2,()),(x0.2.1.1,(x0.2.1.2.1.1,x3,()),()),()),0,())
  else
  none
  else
  none
  else
  none
  else
  bif x2 == 1 then
  bif x0.2.1.1.2.1 == x3 then
  some (((0,0,()),((0,0,()),(0,0,()),()),()),11,())
  else
  bif x1 == 1 then
  (f79 k x2 x3).bind fun r3 =>
  bif r3.1 == 0 then
  some (((0,0,()),((0,0,()),(0,0,()),()),()),8,())
  else
  bif x1 == 0 then
  bif x1 == 0 then
  bif x2 == 0 then
  some (((x2,x0.1.2),((x3,x0.2.1.1.2),x0.2.1.2),()),0,())
  else
  bif x2 == 1 then
  some (((x2,x0.1.2),((x0.2.1.1.1,x3,()),x0.2.1.2),()),0,())
  else
  none
  else
  bif x1 == 1 then
  bif x2 == 0 then
  some (((x2,x0.1.2),(x0.2.1.1,(x3,x0.2.1.2.1.2),()),()),0,())
  else
  bif x2 == 1 then
  some (((x2,x0.1.2),(x0.2.1.1,(x0.2.1.2.1.1,x3,()),()),()),0,())
  else
  none
  else
  none
  else
  bif x1 == 1 then
  bif x1 == 0 then
  bif x2 == 0 then
  some (((x0.1.1,x2,()),((x3,x0.2.1.1.2),x0.2.1.2),()),0,())
  else
  bif x2 == 1 then
  some (((x0.1.1,x2,()),((x0.2.1.1.1,x3,()),x0.2.1.2),()),0,())
  else
  none
  else
  bif x1 == 1 then
  bif x2 == 0 then
  some (((x0.1.1,x2,()),(x0.2.1.1,(x3,x0.2.1.2.1.2),()),()),0,())
  else
  bif x2 == 1 then
  some (((x0.1.1,x2,()),(x0.2.1.1,(x0.2.1.2.1.1,x3,()),()),()),0,())
  else
  none
  else
  none
  else
  none
  else
  bif x1 == 0 then
  bif x1 == 0 then
  bif x2 == 0 then
  some (((x2,x0.1.2),((x3,x0.2.1.1.2),x0.2.1.2),()),0,())
  else
  bif x2 == 1 then
  some (((x2,x0.1.2),((x0.2.1.1.1,x3,()),x0.2.1.2),()),0,())
  else
  none
  else
  bif x1 == 1 then
  bif x2 == 0 then
  some (((x2,x0.1.2),(x0.2.1.1,(x3,x0.2.1.2.1.2),()),()),0,())
  else
  bif x2 == 1 then
  some (((x2,x0.1.2),(x0.2.1.1,(x0.2.1.2.1.1,x3,()),()),()),0,())
  else
  none
  else
  none
  else
  bif x1 == 1 then
  bif x1 == 0 then
  bif x2 == 0 then
  some (((x0.1.1,x2,()),((x3,x0.2.1.1.2),x0.2.1.2),()),0,())
  else
  bif x2 == 1 then
  some (((x0.1.1,x2,()),((x0.2.1.1.1,x3,()),x0.2.1.2),()),0,())
  else
  none
  else
  bif x1 == 1 then
  bif x2 == 0 then
  some (((x0.1.1,x2,()),(x0.2.1.1,(x3,x0.2.1.2.1.2),()),()),0,())
  else
  bif x2 == 1 then
  some (((x0.1.1,x2,()),(x0.2.1.1,(x0.2.1.2.1.1,x3,()),()),()),0,())
  else
  none
  else
  none
  else
  none
  else
  none
  else
  bif x1 == 1 then
  bif x2 == 0 then
  bif x0.2.1.2.1.1 == x3 then
  some (((0,0,()),((0,0,()),(0,0,()),()),()),11,())
  else
  bif x1 == 1 then
  (f79 k x2 x3).bind fun r4 =>
  bif r4.1 == 0 then
  some (((0,0,()),((0,0,()),(0,0,()),()),()),8,())
  else
  bif x1 == 0 then
  bif x1 == 0 then
  bif x2 == 0 then
  some (((x2,x0.1.2),((x3,x0.2.1.1.2),x0.2.1.2),()),0,())
  else
  bif x2 == 1 then
  some (((x2,x0.1.2),((x0.2.1.1.1,x3,()),x0.2.1.2),()),0,())
  else
  none
  else
  bif x1 == 1 then
  bif x2 == 0 then
  some (((x2,x0.1.2),(x0.2.1.1,(x3,x0.2.1.2.1.2),()),()),0,())
  else
  bif x2 == 1 then
  some (((x2,x0.1.2),(x0.2.1.1,(x0.2.1.2.1.1,x3,()),()),()),0,())
  else
  none
  else
  none
  else
  bif x1 == 1 then
  bif x1 == 0 then
  bif x2 == 0 then
  some (((x0.1.1,x2,()),((x3,x0.2.1.1.2),x0.2.1.2),()),0,())
  else
  bif x2 == 1 then
  some (((x0.1.1,x2,()),((x0.2.1.1.1,x3,()),x0.2.1.2),()),0,())
  else
  none
  else
  bif x1 == 1 then
  bif x2 == 0 then
  some (((x0.1.1,x2,()),(x0.2.1.1,(x3,x0.2.1.2.1.2),()),()),0,())
  else
  bif x2 == 1 then
  some (((x0.1.1,x2,()),(x0.2.1.1,(x0.2.1.2.1.1,x3,()),()),()),0,())
  else
  none
  else
  none
  else
  none
  else
  bif x1 == 0 then
  bif x1 == 0 then
  bif x2 == 0 then
  some (((x2,x0.1.2),((x3,x0.2.1.1.2),x0.2.1.2),()),0,())
  else
  bif x2 == 1 then
  some (((x2,x0.1.2),((x0.2.1.1.1,x3,()),x0.2.1.2),()),0,())
  else
  none
  else
  bif x1 == 1 then
  bif x2 == 0 then
  some (((x2,x0.1.2),(x0.2.1.1,(x3,x0.2.1.2.1.2),()),()),0,())
  else
  bif x2 == 1 then
  some (((x2,x0.1.2),(x0.2.1.1,(x0.2.1.2.1.1,x3,()),()),()),0,())
  else
  none
  else
  none
  else
  bif x1 == 1 then
  bif x1 == 0 then
  bif x2 == 0 then
  some (((x0.1.1,x2,()),((x3,x0.2.1.1.2),x0.2.1.2),()),0,())
  else
  bif x2 == 1 then
  some (((x0.1.1,x2,()),((x0.2.1.1.1,x3,()),x0.2.1.2),()),0,())
  else
  none
  else
  bif x1 == 1 then
  bif x2 == 0 then
  some (((x0.1.1,x2,()),(x0.2.1.1,(x3,x0.2.1.2.1.2),()),()),0,())
  else
  bif x2 == 1 then
  some (((x0.1.1,x2,()),(x0.2.1.1,(x0.2.1.2.1.1,x3,()),()),()),0,())
  else
  none
  else
  none
  else
  none
  else
  bif x2 == 1 then
  bif x0.2.1.2.1.2.1 == x3 then
  some (((0,0,()),((0,0,()),(0,0,()),()),()),11,())
  else
  bif x1 == 1 then
  (f79 k x2 x3).bind fun r5 =>
  bif r5.1 == 0 then
  some (((0,0,()),((0,0,()),(0,0,()),()),()),8,())
  else
  bif x1 == 0 then
  bif x1 == 0 then
  bif x2 == 0 then
  some (((x2,x0.1.2),((x3,x0.2.1.1.2),x0.2.1.2),()),0,())
  else
  bif x2 == 1 then
  some (((x2,x0.1.2),((x0.2.1.1.1,x3,()),x0.2.1.2),()),0,())
  else
  none
  else
  bif x1 == 1 then
  bif x2 == 0 then
  some (((x2,x0.1.2),(x0.2.1.1,(x3,x0.2.1.2.1.2),()),()),0,())
  else
  bif x2 == 1 then
  some (((x2,x0.1.2),(x0.2.1.1,(x0.2.1.2.1.1,x3,()),()),()),0,())
  else
  none
  else
  none
  else
  bif x1 == 1 then
  bif x1 == 0 then
  bif x2 == 0 then
  some (((x0.1.1,x2,()),((x3,x0.2.1.1.2),x0.2.1.2),()),0,())
  else
  bif x2 == 1 then
  some (((x0.1.1,x2,()),((x0.2.1.1.1,x3,()),x0.2.1.2),()),0,())
  else
  none
  else
  bif x1 == 1 then
  bif x2 == 0 then
  some (((x0.1.1,x2,()),(x0.2.1.1,(x3,x0.2.1.2.1.2),()),()),0,())
  else
  bif x2 == 1 then
  some (((x0.1.1,x2,()),(x0.2.1.1,(x0.2.1.2.1.1,x3,()),()),()),0,())
  else
  none
  else
  none
  else
  none
  else
  bif x1 == 0 then
  bif x1 == 0 then
  bif x2 == 0 then
  some (((x2,x0.1.2),((x3,x0.2.1.1.2),x0.2.1.2),()),0,())
  else
  bif x2 == 1 then
  some (((x2,x0.1.2),((x0.2.1.1.1,x3,()),x0.2.1.2),()),0,())
  else
  none
  else
  bif x1 == 1 then
  bif x2 == 0 then
  some (((x2,x0.1.2),(x0.2.1.1,(x3,x0.2.1.2.1.2),()),()),0,())
  else
  bif x2 == 1 then
  some (((x2,x0.1.2),(x0.2.1.1,(x0.2.1.2.1.1,x3,()),()),()),0,())
  else
  none
  else
  none
  else
  bif x1 == 1 then
  bif x1 == 0 then
  bif x2 == 0 then
  some (((x0.1.1,x2,()),((x3,x0.2.1.1.2),x0.2.1.2),()),0,())
  else
  bif x2 == 1 then
  some (((x0.1.1,x2,()),((x0.2.1.1.1,x3,()),x0.2.1.2),()),0,())
  else
  none
  else
  bif x1 == 1 then
  bif x2 == 0 then
  some (((x0.1.1,x2,()),(x0.2.1.1,(x3,x0.2.1.2.1.2),()),()),0,())
  else
  bif x2 == 1 then
  some (((x0.1.1,x2,()),(x0.2.1.1,(x0.2.1.2.1.1,x3,()),()),()),0,())
  else
  none
  else
  none
  else
  none
  else
  none
  else
  none
  else
  bif x1 == 1 then
  bif decide (x0.1.2.1 ≥ 0) then
  some (((0,0,()),((0,0,()),(0,0,()),()),()),7,())
  else
  bif x1 == 0 then
  bif x2 == 0 then
  bif x0.2.1.1.1 == x3 then
  some (((0,0,()),((0,0,()),(0,0,()),()),()),11,())
  else
  bif x1 == 1 then
  (f79 k x2 x3).bind fun r6 =>
  bif r6.1 == 0 then
  some (((0,0,()),((0,0,()),(0,0,()),()),()),8,())
  else
  bif x1 == 0 then
  bif x1 == 0 then
  bif x2 == 0 then
  some (((x2,x0.1.2),((x3,x0.2.1.1.2),x0.2.1.2),()),0,())
  else
  bif x2 == 1 then
  some (((x2,x0.1.2),((x0.2.1.1.1,x3,()),x0.2.1.2),()),0,())
  else
  none
  else
  bif x1 == 1 then
  bif x2 == 0 then
  some (((x2,x0.1.2),(x0.2.1.1,(x3,x0.2.1.2.1.2),()),()),0,())
  else
  bif x2 == 1 then
  some (((x2,x0.1.2),(x0.2.1.1,(x0.2.1.2.1.1,x3,()),()),()),0,())
  else
  none
  else
  none
  else
  bif x1 == 1 then
  bif x1 == 0 then
  bif x2 == 0 then
  some (((x0.1.1,x2,()),((x3,x0.2.1.1.2),x0.2.1.2),()),0,())
  else
  bif x2 == 1 then
  some (((x0.1.1,x2,()),((x0.2.1.1.1,x3,()),x0.2.1.2),()),0,())
  else
  none
  else
  bif x1 == 1 then
  bif x2 == 0 then
  some (((x0.1.1,x2,()),(x0.2.1.1,(x3,x0.2.1.2.1.2),()),()),0,())
  else
  bif x2 == 1 then
  some (((x0.1.1,x2,()),(x0.2.1.1,(x0.2.1.2.1.1,x3,()),()),()),0,())
  else
  none
  else
  none
  else
  none
  else
  bif x1 == 0 then
  bif x1 == 0 then
  bif x2 == 0 then
  some (((x2,x0.1.2),((x3,x0.2.1.1.2),x0.2.1.2),()),0,())
  else
  bif x2 == 1 then
  some (((x2,x0.1.2),((x0.2.1.1.1,x3,()),x0.2.1.2),()),0,())
  else
  none
  else
  bif x1 == 1 then
  bif x2 == 0 then
  some (((x2,x0.1.2),(x0.2.1.1,(x3,x0.2.1.2.1.2),()),()),0,())
  else
  bif x2 == 1 then
  some (((x2,x0.1.2),(x0.2.1.1,(x0.2.1.2.1.1,x3,()),()),()),0,())
  else
  none
  else
  none
  else
  bif x1 == 1 then
  bif x1 == 0 then
  bif x2 == 0 then
  some (((x0.1.1,x2,()),((x3,x0.2.1.1.2),x0.2.1.2),()),0,())
  else
  bif x2 == 1 then
  some (((x0.1.1,x2,()),((x0.2.1.1.1,x3,()),x0.2.1.2),()),0,())
  else
  none
  else
  bif x1 == 1 then
  bif x2 == 0 then
  some (((x0.1.1,x2,()),(x0.2.1.1,(x3,x0.2.1.2.1.2),()),()),0,())
  else
  bif x2 == 1 then
  some (((x0.1.1,x2,()),(x0.2.1.1,(x0.2.1.2.1.1,x3,()),()),()),0,())
  else
  none
  else
  none
  else
  none
  else
  bif x2 == 1 then
  bif x0.2.1.1.2.1 == x3 then
  some (((0,0,()),((0,0,()),(0,0,()),()),()),11,())
  else
  bif x1 == 1 then
  (f79 k x2 x3).bind fun r7 =>
  bif r7.1 == 0 then
  some (((0,0,()),((0,0,()),(0,0,()),()),()),8,())
  else
  bif x1 == 0 then
  bif x1 == 0 then
  bif x2 == 0 then
  some (((x2,x0.1.2),((x3,x0.2.1.1.2),x0.2.1.2),()),0,())
  else
  bif x2 == 1 then
  some (((x2,x0.1.2),((x0.2.1.1.1,x3,()),x0.2.1.2),()),0,())
  else
  none
  else
  bif x1 == 1 then
  bif x2 == 0 then
  some (((x2,x0.1.2),(x0.2.1.1,(x3,x0.2.1.2.1.2),()),()),0,())
  else
  bif x2 == 1 then
  some (((x2,x0.1.2),(x0.2.1.1,(x0.2.1.2.1.1,x3,()),()),()),0,())
  else
  none
  else
  none
  else
  bif x1 == 1 then
  bif x1 == 0 then
  bif x2 == 0 then
  some (((x0.1.1,x2,()),((x3,x0.2.1.1.2),x0.2.1.2),()),0,())
  else
  bif x2 == 1 then
  some (((x0.1.1,x2,()),((x0.2.1.1.1,x3,()),x0.2.1.2),()),0,())
  else
  none
  else
  bif x1 == 1 then
  bif x2 == 0 then
  some (((x0.1.1,x2,()),(x0.2.1.1,(x3,x0.2.1.2.1.2),()),()),0,())
  else
  bif x2 == 1 then
  some (((x0.1.1,x2,()),(x0.2.1.1,(x0.2.1.2.1.1,x3,()),()),()),0,())
  else
  none
  else
  none
  else
  none
  else
  bif x1 == 0 then
  bif x1 == 0 then
  bif x2 == 0 then
  some (((x2,x0.1.2),((x3,x0.2.1.1.2),x0.2.1.2),()),0,())
  else
  bif x2 == 1 then
  some (((x2,x0.1.2),((x0.2.1.1.1,x3,()),x0.2.1.2),()),0,())
  else
  none
  else
  bif x1 == 1 then
  bif x2 == 0 then
  some (((x2,x0.1.2),(x0.2.1.1,(x3,x0.2.1.2.1.2),()),()),0,())
  else
  bif x2 == 1 then
  some (((x2,x0.1.2),(x0.2.1.1,(x0.2.1.2.1.1,x3,()),()),()),0,())
  else
  none
  else
  none
  else
  bif x1 == 1 then
  bif x1 == 0 then
  bif x2 == 0 then
  some (((x0.1.1,x2,()),((x3,x0.2.1.1.2),x0.2.1.2),()),0,())
  else
  bif x2 == 1 then
  some (((x0.1.1,x2,()),((x0.2.1.1.1,x3,()),x0.2.1.2),()),0,())
  else
  none
  else
  bif x1 == 1 then
  bif x2 == 0 then
  some (((x0.1.1,x2,()),(x0.2.1.1,(x3,x0.2.1.2.1.2),()),()),0,())
  else
  bif x2 == 1 then
  some (((x0.1.1,x2,()),(x0.2.1.1,(x0.2.1.2.1.1,x3,()),()),()),0,())
  else
  none
  else
  none
  else
  none
  else
  none
  else
  bif x1 == 1 then
  bif x2 == 0 then
  bif x0.2.1.2.1.1 == x3 then
  some (((0,0,()),((0,0,()),(0,0,()),()),()),11,())
  else
  bif x1 == 1 then
  (f79 k x2 x3).bind fun r8 =>
  bif r8.1 == 0 then
  some (((0,0,()),((0,0,()),(0,0,()),()),()),8,())
  else
  bif x1 == 0 then
  bif x1 == 0 then
  bif x2 == 0 then
  some (((x2,x0.1.2),((x3,x0.2.1.1.2),x0.2.1.2),()),0,())
  else
  bif x2 == 1 then
  some (((x2,x0.1.2),((x0.2.1.1.1,x3,()),x0.2.1.2),()),0,())
  else
  none
  else
  bif x1 == 1 then
  bif x2 == 0 then
  some (((x2,x0.1.2),(x0.2.1.1,(x3,x0.2.1.2.1.2),()),()),0,())
  else
  bif x2 == 1 then
  some (((x2,x0.1.2),(x0.2.1.1,(x0.2.1.2.1.1,x3,()),()),()),0,())
  else
  none
  else
  none
  else
  bif x1 == 1 then
  bif x1 == 0 then
  bif x2 == 0 then
  some (((x0.1.1,x2,()),((x3,x0.2.1.1.2),x0.2.1.2),()),0,())
  else
  bif x2 == 1 then
  some (((x0.1.1,x2,()),((x0.2.1.1.1,x3,()),x0.2.1.2),()),0,())
  else
  none
  else
  bif x1 == 1 then
  bif x2 == 0 then
  some (((x0.1.1,x2,()),(x0.2.1.1,(x3,x0.2.1.2.1.2),()),()),0,())
  else
  bif x2 == 1 then
  some (((x0.1.1,x2,()),(x0.2.1.1,(x0.2.1.2.1.1,x3,()),()),()),0,())
  else
  none
  else
  none
  else
  none
  else
  bif x1 == 0 then
  bif x1 == 0 then
  bif x2 == 0 then
  some (((x2,x0.1.2),((x3,x0.2.1.1.2),x0.2.1.2),()),0,())
  else
  bif x2 == 1 then
  some (((x2,x0.1.2),((x0.2.1.1.1,x3,()),x0.2.1.2),()),0,())
  else
  none
  else
  bif x1 == 1 then
  bif x2 == 0 then
  some (((x2,x0.1.2),(x0.2.1.1,(x3,x0.2.1.2.1.2),()),()),0,())
  else
  bif x2 == 1 then
  some (((x2,x0.1.2),(x0.2.1.1,(x0.2.1.2.1.1,x3,()),()),()),0,())
  else
  none
  else
  none
  else
  bif x1 == 1 then
  bif x1 == 0 then
  bif x2 == 0 then
  some (((x0.1.1,x2,()),((x3,x0.2.1.1.2),x0.2.1.2),()),0,())
  else
  bif x2 == 1 then
  some (((x0.1.1,x2,()),((x0.2.1.1.1,x3,()),x0.2.1.2),()),0,())
  else
  none
  else
  bif x1 == 1 then
  bif x2 == 0 then
  some (((x0.1.1,x2,()),(x0.2.1.1,(x3,x0.2.1.2.1.2),()),()),0,())
  else
  bif x2 == 1 then
  some (((x0.1.1,x2,()),(x0.2.1.1,(x0.2.1.2.1.1,x3,()),()),()),0,())
  else
  none
  else
  none
  else
  none
  else
  bif x2 == 1 then
  bif x0.2.1.2.1.2.1 == x3 then
  some (((0,0,()),((0,0,()),(0,0,()),()),()),11,())
  else
  bif x1 == 1 then
  (f79 k x2 x3).bind fun r9 =>
  bif r9.1 == 0 then
  some (((0,0,()),((0,0,()),(0,0,()),()),()),8,())
  else
  bif x1 == 0 then
  bif x1 == 0 then
  bif x2 == 0 then
  some (((x2,x0.1.2),((x3,x0.2.1.1.2),x0.2.1.2),()),0,())
  else
  bif x2 == 1 then
  some (((x2,x0.1.2),((x0.2.1.1.1,x3,()),x0.2.1.2),()),0,())
  else
  none
  else
  bif x1 == 1 then
  bif x2 == 0 then
  some (((x2,x0.1.2),(x0.2.1.1,(x3,x0.2.1.2.1.2),()),()),0,())
  else
  bif x2 == 1 then
  some (((x2,x0.1.2),(x0.2.1.1,(x0.2.1.2.1.1,x3,()),()),()),0,())
  else
  none
  else
  none
  else
  bif x1 == 1 then
  bif x1 == 0 then
  bif x2 == 0 then
  some (((x0.1.1,x2,()),((x3,x0.2.1.1.2),x0.2.1.2),()),0,())
  else
  bif x2 == 1 then
  some (((x0.1.1,x2,()),((x0.2.1.1.1,x3,()),x0.2.1.2),()),0,())
  else
  none
  else
  bif x1 == 1 then
  bif x2 == 0 then
  some (((x0.1.1,x2,()),(x0.2.1.1,(x3,x0.2.1.2.1.2),()),()),0,())
  else
  bif x2 == 1 then
  some (((x0.1.1,x2,()),(x0.2.1.1,(x0.2.1.2.1.1,x3,()),()),()),0,())
  else
  none
  else
  none
  else
  none
  else
  bif x1 == 0 then
  bif x1 == 0 then
  bif x2 == 0 then
  some (((x2,x0.1.2),((x3,x0.2.1.1.2),x0.2.1.2),()),0,())
  else
  bif x2 == 1 then
  some (((x2,x0.1.2),((x0.2.1.1.1,x3,()),x0.2.1.2),()),0,())
  else
  none
  else
  bif x1 == 1 then
  bif x2 == 0 then
  some (((x2,x0.1.2),(x0.2.1.1,(x3,x0.2.1.2.1.2),()),()),0,())
  else
  bif x2 == 1 then
  some (((x2,x0.1.2),(x0.2.1.1,(x0.2.1.2.1.1,x3,()),()),()),0,())
  else
  none
  else
  none
  else
  bif x1 == 1 then
  bif x1 == 0 then
  bif x2 == 0 then
  some (((x0.1.1,x2,()),((x3,x0.2.1.1.2),x0.2.1.2),()),0,())
  else
  bif x2 == 1 then
  some (((x0.1.1,x2,()),((x0.2.1.1.1,x3,()),x0.2.1.2),()),0,())
  else
  none
  else
  bif x1 == 1 then
  bif x2 == 0 then
  some (((x0.1.1,x2,()),(x0.2.1.1,(x3,x0.2.1.2.1.2),()),()),0,())
  else
  bif x2 == 1 then
  some (((x0.1.1,x2,()),(x0.2.1.1,(x0.2.1.2.1.1,x3,()),()),()),0,())
  else
  none
  else
  none
  else
  none
  else
  none
  else
  none
  else
  none
noncomputable def f43_sig (k : Nat) : Sig := ⟨[.val ty66,.val (.int .i64),.val (.int .i64),.val (.int .i64)],[],[[.val ty66,.val (.int .i64)]],fun x => f43 k x.1 x.2.1 x.2.2.1 x.2.2.2.1⟩
noncomputable def E_f43 (k : Nat) : Env := ⟨Tryz.prog,G0,scons 79 [f79_sig k] (scons 78 [f78_sig k] (snil)),tnil,tnil,unil,k,qnil,false⟩
theorem f43_run (k : Nat) (x : (lTy (lay 0 (f43_sig k).ins)).den) : runF (E_f43 k) Tryz.f43 (f43_sig k) x = (f43_sig k).F x := by kernel_rfl
theorem f43_ok [Dr] (k : Nat) : FnOK Tryz.prog G0 43 (f43_sig k) :=
  fn_ok2 (E := E_f43 k) (env_cons (one_sig (f79_ok k)) (env_cons (one_sig (f78_ok k)) (env_nil))) (qenv_nil) mixed Tryz.func43 Tryz.call43 (by kernel_rfl) (by kernel_rfl) (m := 0) (by kernel_rfl) trivial (sk := []) (by kernel_rfl) trivial (f43_run k)
noncomputable def f80 (k : Nat) (x0 : (Int×Int×Unit)×((Int×Int×Unit)×(Int×Int×Unit)×Unit)×Unit) (x1 : Int) (x2 : Int) (x3 : Int) : Option ((((Int×Int×Unit)×((Int×Int×Unit)×(Int×Int×Unit)×Unit)×Unit)×Int×Unit)) :=
  (f78 k x0 x1 x2 x3).bind fun r1 =>
  bif r1.1 != 0 then
  some (((0,0,()),((0,0,()),(0,0,()),()),()),r1)
  else
  bif x1 == 0 then
  bif x0.1.1 != (w64 (1 - x2)) then
  some (((0,0,()),((0,0,()),(0,0,()),()),()),10,())
  else
  some ((((-1),(-1),()),x0.2),0,())
  else
  bif x1 == 1 then
  bif x0.1.2.1 != (w64 (1 - x2)) then
  some (((0,0,()),((0,0,()),(0,0,()),()),()),10,())
  else
  some ((((-1),(-1),()),x0.2),0,())
  else
  none
noncomputable def f80_sig (k : Nat) : Sig := ⟨[.val ty66,.val (.int .i64),.val (.int .i64),.val (.int .i64)],[],[[.val ty66,.val (.int .i64)]],fun x => f80 k x.1 x.2.1 x.2.2.1 x.2.2.2.1⟩
noncomputable def E_f80 (k : Nat) : Env := ⟨Tryz.prog,G0,scons 78 [f78_sig k] (snil),tnil,tnil,unil,k,qnil,false⟩
theorem f80_run (k : Nat) (x : (lTy (lay 0 (f80_sig k).ins)).den) : runF (E_f80 k) Tryz.f80 (f80_sig k) x = (f80_sig k).F x := by kernel_rfl
theorem f80_ok [Dr] (k : Nat) : FnOK Tryz.prog G0 80 (f80_sig k) :=
  fn_ok2 (E := E_f80 k) (env_cons (one_sig (f78_ok k)) (env_nil)) (qenv_nil) mixed Tryz.func80 Tryz.call80 (by kernel_rfl) (by kernel_rfl) (m := 0) (by kernel_rfl) trivial (sk := []) (by kernel_rfl) trivial (f80_run k)
noncomputable def f81 (k : Nat) (x0 : (Int×Int×Unit)×((Int×Int×Unit)×(Int×Int×Unit)×Unit)×Unit) (x1 : Int) : Option ((((Int×Int×Unit)×((Int×Int×Unit)×(Int×Int×Unit)×Unit)×Unit)×Int×Unit)) :=
  (f78 k x0 0 0 x1).bind fun r1 =>
  bif r1.1 != 0 then
  some (((0,0,()),((0,0,()),(0,0,()),()),()),r1)
  else
  some ((((-1),(-1),()),((if x1 < x0.2.1.1.1 then x1 else x0.2.1.1.1,if x1 < x0.2.1.1.2.1 then x1 else x0.2.1.1.2.1,()),(if x1 < x0.2.1.2.1.1 then x1 else x0.2.1.2.1.1,if x1 < x0.2.1.2.1.2.1 then x1 else x0.2.1.2.1.2.1,()),()),()),0,())
noncomputable def f81_sig (k : Nat) : Sig := ⟨[.val ty66,.val (.int .i64)],[],[[.val ty66,.val (.int .i64)]],fun x => f81 k x.1 x.2.1⟩
noncomputable def E_f81 (k : Nat) : Env := ⟨Tryz.prog,G0,scons 78 [f78_sig k] (snil),tnil,tnil,ucons 9 3 (ucons 6 3 (unil)),k,qnil,false⟩
theorem f81_run (k : Nat) (x : (lTy (lay 0 (f81_sig k).ins)).den) : runF (E_f81 k) Tryz.f81 (f81_sig k) x = (f81_sig k).F x := by kernel_rfl
theorem f81_ok [Dr] (k : Nat) : FnOK Tryz.prog G0 81 (f81_sig k) :=
  fn_ok2 (E := E_f81 k) (env_cons (one_sig (f78_ok k)) (env_nil)) (qenv_nil) mixed Tryz.func81 Tryz.call81 (by kernel_rfl) (by kernel_rfl) (m := 2) (by kernel_rfl) ⟨⟨trivial,loop_none (by kernel_rfl)⟩,loop_none (by kernel_rfl)⟩ (sk := []) (by kernel_rfl) trivial (f81_run k)
noncomputable def f82 (k : Nat) (x0 : (ByteArray×Int×Int×(List (Int×Int×Int×(List (Int×Int×Int×Int×Unit))×Unit))×(List Int)×Bool×Bool×(List (Int×Int×Int×Bool×Unit))×Int×Int×Int×Unit)×(List ((List Int)×((List Int)×(List Int)×Unit)×Int×Int×Unit))×(List (Int×Int×Int×Unit))×Unit) : Option ((Int×((ByteArray×Int×Int×(List (Int×Int×Int×(List (Int×Int×Int×Int×Unit))×Unit))×(List Int)×Bool×Bool×(List (Int×Int×Int×Bool×Unit))×Int×Int×Int×Unit)×(List ((List Int)×((List Int)×(List Int)×Unit)×Int×Int×Unit))×(List (Int×Int×Int×Unit))×Unit)×Unit)) :=
  bif (x0.2.2.1.length : Int) == 0 then
  some (8,x0,())
  else
  bif decide (0 ≤ (w64 ((x0.2.1.length : Int) - 1))) && decide ((w64 ((x0.2.1.length : Int) - 1)) ≤ (x0.2.1.length : Int)) then
  bif decide (0 ≤ (w64 ((x0.2.2.1.length : Int) - 1))) && decide ((w64 ((x0.2.2.1.length : Int) - 1)) ≤ (x0.2.2.1.length : Int)) then
  some (0,(x0.1,first (w64 ((x0.2.1.length : Int) - 1)).toNat x0.2.1,first (w64 ((x0.2.2.1.length : Int) - 1)).toNat x0.2.2.1,()),())
  else
  none
  else
  none
noncomputable def f82_sig (k : Nat) : Sig := ⟨[.box 140 ck82],[0],[[.val (.int .i64),.box 140 ck82]],fun x => f82 k x.1⟩
noncomputable def E_f82 (k : Nat) : Env := ⟨Tryz.prog,G0,snil,tnil,tnil,unil,k,qnil,false⟩
theorem f82_run (k : Nat) (x : (lTy (lay 0 (f82_sig k).ins)).den) : runF (E_f82 k) Tryz.f82 (f82_sig k) x = (f82_sig k).F x := by kernel_rfl
theorem f82_ok [Dr] (k : Nat) : FnOK Tryz.prog G0 82 (f82_sig k) :=
  fn_ok2 (E := E_f82 k) (env_nil) (qenv_nil) mixed Tryz.func82 Tryz.call82 (by kernel_rfl) (by kernel_rfl) (m := 0) (by kernel_rfl) trivial (sk := []) (by kernel_rfl) trivial (f82_run k)
noncomputable def l44_14 (k : Nat) : Nat → ((ByteArray×Int×Int×(List (Int×Int×Int×(List (Int×Int×Int×Int×Unit))×Unit))×(List Int)×Bool×Bool×(List (Int×Int×Int×Bool×Unit))×Int×Int×Int×Unit)×((List (Int×Int×Unit))×Int×Int×Unit)×((ByteArray×Int×Int×(List (Int×Int×Int×(List (Int×Int×Int×Int×Unit))×Unit))×(List Int)×Bool×Bool×(List (Int×Int×Int×Bool×Unit))×Int×Int×Int×Unit)×(List ((List Int)×((List Int)×(List Int)×Unit)×Int×Int×Unit))×(List (Int×Int×Int×Unit))×Unit)×((List (Int×Int×Int×Unit))×Int×Int×((Int×Int×Unit)×(Int×Int×Unit)×(Int×Int×Unit)×Int×Int×Bool×Int×Unit)×((Int×Int×Unit)×((Int×Int×Unit)×(Int×Int×Unit)×Unit)×Unit)×(List (Int×(Int×Int×Int×Unit)×Unit))×Unit)×Int×(List (ByteArray×Int×Unit))×Unit) → ((List (Int×Int×Int×Unit))×Int×Int×((Int×Int×Unit)×(Int×Int×Unit)×(Int×Int×Unit)×Int×Int×Bool×Int×Unit)×((Int×Int×Unit)×((Int×Int×Unit)×(Int×Int×Unit)×Unit)×Unit)×(List (Int×(Int×Int×Int×Unit)×Unit))×Unit) → (Int×Int×Int×Int×(Int×Int×Int×Unit)×Unit) → Int → Int → Int → Int → Option ((((ByteArray×Int×Int×(List (Int×Int×Int×(List (Int×Int×Int×Int×Unit))×Unit))×(List Int)×Bool×Bool×(List (Int×Int×Int×Bool×Unit))×Int×Int×Int×Unit)×((List (Int×Int×Unit))×Int×Int×Unit)×((ByteArray×Int×Int×(List (Int×Int×Int×(List (Int×Int×Int×Int×Unit))×Unit))×(List Int)×Bool×Bool×(List (Int×Int×Int×Bool×Unit))×Int×Int×Int×Unit)×(List ((List Int)×((List Int)×(List Int)×Unit)×Int×Int×Unit))×(List (Int×Int×Int×Unit))×Unit)×((List (Int×Int×Int×Unit))×Int×Int×((Int×Int×Unit)×(Int×Int×Unit)×(Int×Int×Unit)×Int×Int×Bool×Int×Unit)×((Int×Int×Unit)×((Int×Int×Unit)×(Int×Int×Unit)×Unit)×Unit)×(List (Int×(Int×Int×Int×Unit)×Unit))×Unit)×Int×(List (ByteArray×Int×Unit))×Unit)×((List (Int×Int×Int×Unit))×Int×Int×((Int×Int×Unit)×(Int×Int×Unit)×(Int×Int×Unit)×Int×Int×Bool×Int×Unit)×((Int×Int×Unit)×((Int×Int×Unit)×(Int×Int×Unit)×Unit)×Unit)×(List (Int×(Int×Int×Int×Unit)×Unit))×Unit)×(Int×Int×Int×Int×(Int×Int×Int×Unit)×Unit)×Int×Int×Unit))
 | 0,_,_,_,_,_,_,_ => none
 | j + 1,s0,s1,s5,s7,s10,s65,s66 =>
  bif decide (s66 < s65) then
  (f82 k s0.2.2.1).bind fun r1 =>
  l44_14 k j (s0.1,s0.2.1,r1.2.1,s0.2.2.2) s1 s5 s7 s10 s65 (w64 (s66 + 1))
  else
  some (s0,s1,s5,s7,s10,())
noncomputable def l44_14_sig (k : Nat) : LoopSig := ⟨[(0,.obj ck88),(1,.obj (.box 50 ck80)),(5,.obj ck63),(7,.obj ck1),(10,.obj ck1),(65,.obj ck1),(66,.obj ck1)],[(.exit 0,[(0,.obj ck88),(1,.obj (.box 50 ck80)),(5,.obj ck63),(7,.obj ck1),(10,.obj ck1)])],fun j x => l44_14 k j x.1 x.2.1 x.2.2.1 x.2.2.2.1 x.2.2.2.2.1 x.2.2.2.2.2.1 x.2.2.2.2.2.2.1⟩
noncomputable def f44 (k : Nat) (x0 : (ByteArray×Int×Int×(List (Int×Int×Int×(List (Int×Int×Int×Int×Unit))×Unit))×(List Int)×Bool×Bool×(List (Int×Int×Int×Bool×Unit))×Int×Int×Int×Unit)×((List (Int×Int×Unit))×Int×Int×Unit)×((ByteArray×Int×Int×(List (Int×Int×Int×(List (Int×Int×Int×Int×Unit))×Unit))×(List Int)×Bool×Bool×(List (Int×Int×Int×Bool×Unit))×Int×Int×Int×Unit)×(List ((List Int)×((List Int)×(List Int)×Unit)×Int×Int×Unit))×(List (Int×Int×Int×Unit))×Unit)×((List (Int×Int×Int×Unit))×Int×Int×((Int×Int×Unit)×(Int×Int×Unit)×(Int×Int×Unit)×Int×Int×Bool×Int×Unit)×((Int×Int×Unit)×((Int×Int×Unit)×(Int×Int×Unit)×Unit)×Unit)×(List (Int×(Int×Int×Int×Unit)×Unit))×Unit)×Int×(List (ByteArray×Int×Unit))×Unit) (x1 : (List (Int×Int×Int×Unit))×Int×Int×((Int×Int×Unit)×(Int×Int×Unit)×(Int×Int×Unit)×Int×Int×Bool×Int×Unit)×((Int×Int×Unit)×((Int×Int×Unit)×(Int×Int×Unit)×Unit)×Unit)×(List (Int×(Int×Int×Int×Unit)×Unit))×Unit) (x2 : Int×Int×Int×Int×(Int×Int×Int×Unit)×Unit) : Option ((Int×((ByteArray×Int×Int×(List (Int×Int×Int×(List (Int×Int×Int×Int×Unit))×Unit))×(List Int)×Bool×Bool×(List (Int×Int×Int×Bool×Unit))×Int×Int×Int×Unit)×((List (Int×Int×Unit))×Int×Int×Unit)×((ByteArray×Int×Int×(List (Int×Int×Int×(List (Int×Int×Int×Int×Unit))×Unit))×(List Int)×Bool×Bool×(List (Int×Int×Int×Bool×Unit))×Int×Int×Int×Unit)×(List ((List Int)×((List Int)×(List Int)×Unit)×Int×Int×Unit))×(List (Int×Int×Int×Unit))×Unit)×((List (Int×Int×Int×Unit))×Int×Int×((Int×Int×Unit)×(Int×Int×Unit)×(Int×Int×Unit)×Int×Int×Bool×Int×Unit)×((Int×Int×Unit)×((Int×Int×Unit)×(Int×Int×Unit)×Unit)×Unit)×(List (Int×(Int×Int×Int×Unit)×Unit))×Unit)×Int×(List (ByteArray×Int×Unit))×Unit)×((List (Int×Int×Int×Unit))×Int×Int×((Int×Int×Unit)×(Int×Int×Unit)×(Int×Int×Unit)×Int×Int×Bool×Int×Unit)×((Int×Int×Unit)×((Int×Int×Unit)×(Int×Int×Unit)×Unit)×Unit)×(List (Int×(Int×Int×Int×Unit)×Unit))×Unit)×Unit)) :=
  (f38 k x0.2.2.1).bind fun r1 =>
  (f80 k x1.2.2.2.2.1 x2.2.2.1 x2.2.1 (r1.1.length : Int)).bind fun r2 =>
  bif r2.2.1 != 0 then
  some (r2.2.1,(x0.1,x0.2.1,r1.2.1,x0.2.2.2),x1,())
  else
  bif x2.2.2.1 == 0 then
  some (0,(x0.1,x0.2.1,r1.2.1,x0.2.2.2),(x1.1,3,4,x1.2.2.2.1,r2.1,x1.2.2.2.2.2),())
  else
  (f79 k (w64 (1 - x2.2.1)) (r1.1.length : Int)).bind fun r3 =>
  (f81 k r2.1 (w64 ((r1.1.length : Int) - r3.1))).bind fun r4 =>
  bif r4.2.1 != 0 then
  some (r4.2.1,(x0.1,x0.2.1,r1.2.1,x0.2.2.2),(x1.1,x1.2.1,x1.2.2.1,x1.2.2.2.1,r4.1,x1.2.2.2.2.2),())
  else
  (l44_14 k k (x0.1,x0.2.1,r1.2.1,x0.2.2.2) (x1.1,x1.2.1,x1.2.2.1,x1.2.2.2.1,r4.1,x1.2.2.2.2.2) x2 (r1.1.length : Int) r3.1 r3.1 0).bind fun o5 =>
  some (0,o5.1,(o5.2.1.1,o5.2.1.2.1,o5.2.1.2.2.1,(o5.2.1.2.2.2.1.1,o5.2.1.2.2.2.1.2.1,o5.2.1.2.2.2.1.2.2.1,(w64 (o5.2.2.2.1 - o5.2.2.2.2.1)).tmod 2,o5.2.2.1.2.2.2.1,o5.2.1.2.2.2.1.2.2.2.2.2),o5.2.1.2.2.2.2.1,[],()),())
noncomputable def f44_sig (k : Nat) : Sig := ⟨[.box 89 ck87,.box 50 ck80,.val ty56],[0,1],[[.val (.int .i64),.box 89 ck87,.box 50 ck80]],fun x => f44 k x.1 x.2.1 x.2.2.1⟩
noncomputable def E_f44 (k : Nat) : Env := ⟨Tryz.prog,G0,scons 82 [f82_sig k] (scons 81 [f81_sig k] (scons 80 [f80_sig k] (scons 79 [f79_sig k] (scons 38 [f38_sig k] (snil))))),tcons 14 (l44_14_sig k) (tnil),tnil,unil,k,qnil,false⟩
theorem l44_14_ok (k : Nat) : LoopOK (E_f44 k) ⟨Tryz.f44.ntmps,[0,1],G0⟩ (nthC 0 (loopsIn (Tryz.f44.body.getD .skip))) :=
  loop_ok (ls := l44_14_sig k) (by kernel_rfl) (fun _ => by kernel_rfl) (fun j x => by kernel_rfl)
theorem f44_run (k : Nat) (x : (lTy (lay 0 (f44_sig k).ins)).den) : runF (E_f44 k) Tryz.f44 (f44_sig k) x = (f44_sig k).F x := by kernel_rfl
theorem f44_ok [Dr] (k : Nat) : FnOK Tryz.prog G0 44 (f44_sig k) :=
  fn_ok2 (E := E_f44 k) (env_cons (one_sig (f82_ok k)) (env_cons (one_sig (f81_ok k)) (env_cons (one_sig (f80_ok k)) (env_cons (one_sig (f79_ok k)) (env_cons (one_sig (f38_ok k)) (env_nil)))))) (qenv_nil) mixed Tryz.func44 Tryz.call44 (by kernel_rfl) (by kernel_rfl) (m := 1) (by kernel_rfl) ⟨trivial,l44_14_ok k⟩ (sk := []) (by kernel_rfl) trivial (f44_run k)
end Go.Proofs.YtpnbiakaknbofaaGreatDoor.G
