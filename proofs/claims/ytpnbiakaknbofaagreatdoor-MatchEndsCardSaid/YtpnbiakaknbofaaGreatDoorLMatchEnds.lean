/- MatchEnds returns true whatever the input; the package variables that it reads hold what the program's text lays. No further condition. -/
import Derived.Test.YtpnbiakaknbofaaGreatDoorRows
import Derived.Test.YtpnbiakaknbofaaGreatDoorTie
import Derived.Test.YtpnbiakaknbofaaGreatDoorCards
import Derived.Test.YtpnbiakaknbofaaGreatDoorPEnds
import Derived.JoinedOf
import Derived.SevenTiedAt
namespace Go.Proofs.YtpnbiakaknbofaaGreatDoor
open Go.VM Go.Proofs Go.RowKit
namespace MatchEndsL
theorem own : ownKnob Tryz.prog.godebug = none := by kernel_rfl
theorem laid : laidOutB Tryz.prog = true := by kernel_rfl
theorem met (os : Os) (args : Array Value) : laidMetH Tryz.prog Rows.matchEndsRow.laid ((World.doorLaid Tryz.prog 400 os).forCall (fun _ _ => 0) ⟨#[], args, []⟩).memory :=
  laidMetH_of_parts3 (fuel := 8) (laidMet_of_run' 8 (by kernel_rfl) (by kernel_rfl)) (by kernel_rfl) (by kernel_rfl)
theorem glob (W : World) (h : laidMetH Tryz.prog Rows.matchEndsRow.laid W) : GRep G.G0 W (fun _ => False) := by
  rw [MakeChecks.laidMetH_plain _ _ _ (by kernel_rfl)] at h
  obtain ⟨ps, ⟨g0, t0, cs0, f0, p0, q0, hg0, ht0, hv0, hd0, ⟨g1, t1, cs1, f1, p1, q1, hg1, ht1, hv1, hd1, ⟨g2, t2, cs2, f2, p2, q2, hg2, ht2, hv2, hd2, _⟩, _⟩, _⟩, _⟩ := h
  obtain rfl := Option.some.inj ((show Tryz.prog.globalNamed "math/bits.deBruijn32tab" = some 7 by kernel_rfl).symm.trans hg0)
  obtain rfl := Option.some.inj ((show (Tryz.prog.globals[7]?).map (·.type) = some 295 by kernel_rfl).symm.trans ht0)
  have r0 : ∃ y z, W.heap[7]? = some (.cells (G.gl7.map (Value.int .u8)).toArray y z) := by
    have e : cs0 = (G.gl7.map (Value.int .u8)).toArray := laid_ints (l := G.gl7) (k := .u8) (t := 295) (e := 5) (by kernel_rfl) (by kernel_rfl) (by kernel_rfl) (by kernel_rfl) hd0
    rw [← e]
    exact var_cells hg0 hv0
  obtain rfl := Option.some.inj ((show Tryz.prog.globalNamed "math/bits.deBruijn64tab" = some 8 by kernel_rfl).symm.trans hg1)
  obtain rfl := Option.some.inj ((show (Tryz.prog.globals[8]?).map (·.type) = some 296 by kernel_rfl).symm.trans ht1)
  have r1 : ∃ y z, W.heap[8]? = some (.cells (G.gl8.map (Value.int .u8)).toArray y z) := by
    have e : cs1 = (G.gl8.map (Value.int .u8)).toArray := laid_ints (l := G.gl8) (k := .u8) (t := 296) (e := 5) (by kernel_rfl) (by kernel_rfl) (by kernel_rfl) (by kernel_rfl) hd1
    rw [← e]
    exact var_cells hg1 hv1
  obtain rfl := Option.some.inj ((show Tryz.prog.globalNamed "internal/strconv.uint64pow10" = some 3 by kernel_rfl).symm.trans hg2)
  obtain rfl := Option.some.inj ((show (Tryz.prog.globals[3]?).map (·.type) = some 274 by kernel_rfl).symm.trans ht2)
  have r2 : ∃ y z, W.heap[3]? = some (.cells (G.gl3.map (Value.int .u64)).toArray y z) := by
    have e : cs2 = (G.gl3.map (Value.int .u64)).toArray := laid_ints (l := G.gl3) (k := .u64) (t := 274) (e := 100) (by kernel_rfl) (by kernel_rfl) (by kernel_rfl) (by kernel_rfl) hd2
    rw [← e]
    exact var_cells hg2 hv2
  exact grep_ints r2 id (grep_ints r0 id (grep_ints r1 id (fun p hp => by cases hp)))
theorem pure (x : (lTy (lay 0 (valKs [.pair (.str) (.pair (.int .i64) (.pair (.int .i64) (.pair (.sl (.pair (.int .u8) (.pair (.int .i64) (.pair (.int .i64) (.pair (.sl (.pair (.int .i64) (.pair (.int .i64) (.pair (.int .i64) (.pair (.int .i64) (.unit)))))) (.unit)))))) (.pair (.sl (.int .i64)) (.pair (.bool) (.pair (.bool) (.pair (.sl (.pair (.int .i64) (.pair (.int .i64) (.pair (.int .i64) (.pair (.bool) (.unit)))))) (.pair (.int .i64) (.pair (.int .i64) (.pair (.int .i64) (.unit))))))))))), .pair (.sl (.pair (.int .i64) (.pair (.int .i64) (.unit)))) (.pair (.int .i64) (.pair (.int .i64) (.unit))), .sl (.pair (.int .i64) (.pair (.int .i64) (.pair (.int .i64) (.pair (.int .i64) (.pair (.pair (.int .i64) (.pair (.int .i64) (.pair (.int .i64) (.unit)))) (.unit)))))), .pair (.int .i64) (.pair (.int .i64) (.pair (.int .i64) (.pair (.int .i64) (.pair (.pair (.int .i64) (.pair (.int .i64) (.pair (.int .i64) (.unit)))) (.unit)))))]))).den) (hx : WfDs [.pair (.str) (.pair (.int .i64) (.pair (.int .i64) (.pair (.sl (.pair (.int .u8) (.pair (.int .i64) (.pair (.int .i64) (.pair (.sl (.pair (.int .i64) (.pair (.int .i64) (.pair (.int .i64) (.pair (.int .i64) (.unit)))))) (.unit)))))) (.pair (.sl (.int .i64)) (.pair (.bool) (.pair (.bool) (.pair (.sl (.pair (.int .i64) (.pair (.int .i64) (.pair (.int .i64) (.pair (.bool) (.unit)))))) (.pair (.int .i64) (.pair (.int .i64) (.pair (.int .i64) (.unit))))))))))), .pair (.sl (.pair (.int .i64) (.pair (.int .i64) (.unit)))) (.pair (.int .i64) (.pair (.int .i64) (.unit))), .sl (.pair (.int .i64) (.pair (.int .i64) (.pair (.int .i64) (.pair (.int .i64) (.pair (.pair (.int .i64) (.pair (.int .i64) (.pair (.int .i64) (.unit)))) (.unit)))))), .pair (.int .i64) (.pair (.int .i64) (.pair (.int .i64) (.pair (.int .i64) (.pair (.pair (.int .i64) (.pair (.int .i64) (.pair (.int .i64) (.unit)))) (.unit)))))] 0 x) : G.f4 9000 x.1 x.2.1 x.2.2.1 x.2.2.2.1 = some (true, ()) :=
  (fun x hx => G.ends_x x (fun e he => hx.2.2.1.2 e he) hx.2.2.2.1) x hx
set_option maxRecDepth 100000 in
theorem lifted (os : Os) (started : os.Started) (H : Type) (enc : TypeId × Value → H) :
    ReturnsInHanded {} Tryz.checked os 4 .any (fun w args => (Rows.matchEndsSpec.pre enc Tryz.prog Tryz.f4 [] false w args ∧ laidMetH Tryz.prog Rows.matchEndsRow.laid w) ∧ sizedMet enc Tryz.prog Tryz.f4 (OpenSpec.ofChange Rows.matchEndsSpec) false w args)
      (Rows.matchEndsSpec.post enc Tryz.prog Tryz.f4 false true false false) :=
  law_row_laid (C := Tryz.checked) (us := [.pair (.str) (.pair (.int .i64) (.pair (.int .i64) (.pair (.sl (.pair (.int .u8) (.pair (.int .i64) (.pair (.int .i64) (.pair (.sl (.pair (.int .i64) (.pair (.int .i64) (.pair (.int .i64) (.pair (.int .i64) (.unit)))))) (.unit)))))) (.pair (.sl (.int .i64)) (.pair (.bool) (.pair (.bool) (.pair (.sl (.pair (.int .i64) (.pair (.int .i64) (.pair (.int .i64) (.pair (.bool) (.unit)))))) (.pair (.int .i64) (.pair (.int .i64) (.pair (.int .i64) (.unit))))))))))), .pair (.sl (.pair (.int .i64) (.pair (.int .i64) (.unit)))) (.pair (.int .i64) (.pair (.int .i64) (.unit))), .sl (.pair (.int .i64) (.pair (.int .i64) (.pair (.int .i64) (.pair (.int .i64) (.pair (.pair (.int .i64) (.pair (.int .i64) (.pair (.int .i64) (.unit)))) (.unit)))))), .pair (.int .i64) (.pair (.int .i64) (.pair (.int .i64) (.pair (.int .i64) (.pair (.pair (.int .i64) (.pair (.int .i64) (.pair (.int .i64) (.unit)))) (.unit)))))]) (F := fun x => G.f4 9000 x.1 x.2.1 x.2.2.1 x.2.2.2.1) (b := 4) (G := G.G0) (l := Rows.matchEndsRow.laid) own started (by kernel_rfl) Tryz.func4
    (ChangeSpec.witness_shaped (enc := enc) (C := Tryz.checked) (os := os) (X := fun w _ => laidMetH Tryz.prog Rows.matchEndsRow.laid w) false (World.doorLaid Tryz.prog 400 os) #[.agg #[.string ByteArray.empty, .int .i64 0, .int .i64 0, .slice none 0 0, .slice none 0 0, .bool false, .bool false, .slice none 0 0, .int .i64 0, .int .i64 0, .int .i64 0], .agg #[.slice none 0 0, .int .i64 0, .int .i64 0], .slice none 0 0, .agg #[.int .i64 0, .int .i64 0, .int .i64 0, .int .i64 0, .int .i64 0, .int .i64 0, .int .i64 0]] 8 rfl (World.shaped_of_RefB (by kernel_rfl) (by kernel_rfl)) (by kernel_rfl) (by kernel_rfl) (by kernel_rfl) (met os _))
    rfl (by kernel_rfl) (by kernel_rfl) (by kernel_rfl) laid (by kernel_rfl) 4 (by kernel_rfl) (fun ds h => match ds, h with | [_, _, _, _], _ => rfl) (G.f4_ok 9000) (fun x hx => pure x hx) glob
theorem over : Rows.matchEndsRow.holds Tryz.pinned (OpenSpec.ofChange Rows.matchEndsSpec) :=
  OpenClaim.holds_of_wide 4 Tryz.f4 rfl rfl rfl rfl rfl rfl rfl ⟨rfl, rfl, rfl, rfl, rfl⟩ rfl rfl rfl rfl rfl (by kernel_rfl) Tryz.func4 (by kernel_rfl)
    (of_decide_eq_true (by kernel_rfl)) (by unfold Func.isWrapper; first | (rw [if_pos (by decide +kernel)]; kernel_rfl) | (rw [if_neg (by decide +kernel)]; exact ⟨rfl, rfl⟩))
    (fun os started H enc _ => lifted os started H enc)
theorem card : Rows.MatchEndsCardSaid :=
  Claim7.holds_tied_plain_at .later [] [.data, .data, .data] true (true, "371426b75816c12dbaadd1ec39f0dae827ba1f0c9eee2edb14927ce75f9d1d58") true
    over (fun _ h => by cases h) (by kernel_rfl) (fun _ h => by cases h) matchEnds_row_tie rfl ⟨rfl, rfl⟩ (by kernel_rfl) rfl
    (fun f fn hf hfn => by
      obtain rfl : f = 4 := Option.some.inj ((show Tryz.prog.funcNamed "gamehall/gamehallkeep3.MatchEnds" = some 4 by kernel_rfl).symm.trans hf) |>.symm
      obtain rfl : fn = Tryz.f4 := (Option.some.inj (Tryz.func4.symm.trans hfn)).symm
      refine ⟨by kernel_rfl, fun j t ht => ?_⟩
      have hm : t ∈ Tryz.f4.params.toList := by
        have := Array.mem_of_getElem? ht
        simpa using this
      have hall : (Tryz.f4.params.toList.all fun u => !Tryz.prog.wantsStandIn u) = true := by kernel_rfl
      have := List.all_eq_true.1 hall t hm
      exact (show Tryz.prog.wantsStandIn t = false by simpa using this))
    (by kernel_rfl)
end MatchEndsL
/-- The card, under a short name, for the claim. -/
theorem matchEnds_holds : Rows.MatchEndsCardSaid := MatchEndsL.card
#print axioms matchEnds_holds
end Go.Proofs.YtpnbiakaknbofaaGreatDoor
