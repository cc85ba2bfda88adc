import Derived.Test.YtpnbiakaknbofaaGreatDoorRows
import Derived.Test.YtpnbiakaknbofaaGreatDoorTie
import Derived.Test.YtpnbiakaknbofaaGreatDoorCards
import Derived.Test.YtpnbiakaknbofaaGreatDoorPTop
import Derived.JoinedOf
import Derived.SevenTiedAt
namespace Go.Proofs.YtpnbiakaknbofaaGreatDoor
open Go.VM Go.Proofs Go.RowKit
namespace TopClocksL
theorem own : ownKnob Tryz.prog.godebug = none := by kernel_rfl
theorem laid : laidOutB Tryz.prog = true := by kernel_rfl
theorem met (os : Os) (args : Array Value) : laidMetH Tryz.prog Rows.topClocksRow.laid ((World.doorLaid Tryz.prog 400 os).forCall (fun _ _ => 0) ⟨#[], args, []⟩).memory :=
  laidMetH_of_parts3 (fuel := 8) (laidMet_of_run' 8 (by kernel_rfl) (by kernel_rfl)) (by kernel_rfl) (by kernel_rfl)
theorem glob (W : World) (h : laidMetH Tryz.prog Rows.topClocksRow.laid W) : GRep G.G0 W (fun _ => False) := by
  rw [MakeChecks.laidMetH_plain _ _ _ (by kernel_rfl)] at h
  obtain ⟨ps, ⟨g0, t0, cs0, f0, p0, q0, hg0, ht0, hv0, hd0, ⟨g1, t1, cs1, f1, p1, q1, hg1, ht1, hv1, hd1, ⟨g2, t2, cs2, f2, p2, q2, hg2, ht2, hv2, hd2, ⟨g3, t3, cs3, f3, p3, q3, hg3, ht3, hv3, hd3, _⟩, _⟩, _⟩, _⟩, _⟩ := h
  obtain rfl := Option.some.inj ((show Tryz.prog.globalNamed "math/bits.deBruijn32tab" = some 7 by kernel_rfl).symm.trans hg0)
  obtain rfl := Option.some.inj ((show (Tryz.prog.globals[7]?).map (·.type) = some 295 by kernel_rfl).symm.trans ht0)
  have r0 : ∃ y z, W.heap[7]? = some (.cells (G.gl7.map (Value.int .u8)).toArray y z) := by
    have e : cs0 = (G.gl7.map (Value.int .u8)).toArray := laid_ints (l := G.gl7) (k := .u8) (t := 295) (e := 5) (by kernel_rfl) (by kernel_rfl) (by kernel_rfl) (by kernel_rfl) hd0
    rw [← e]
    exact var_cells hg0 hv0
  obtain rfl := Option.some.inj ((show Tryz.prog.globalNamed "math/bits.deBruijn64tab" = some 8 by kernel_rfl).symm.trans hg1)
  obtain rfl := Option.some.inj ((show (Tryz.prog.globals[8]?).map (·.type) = some 296 by kernel_rfl).symm.trans ht1)
  have r1 : ∃ y z, W.heap[8]? = some (.cells (G.gl8.map (Value.int .u8)).toArray y z) := by
    have e : cs1 = (G.gl8.map (Value.int .u8)).toArray := laid_ints (l := G.gl8) (k := .u8) (t := 296) (e := 5) (by kernel_rfl) (by kernel_rfl) (by kernel_rfl) (by kernel_rfl) hd1
    rw [← e]
    exact var_cells hg1 hv1
  obtain rfl := Option.some.inj ((show Tryz.prog.globalNamed "internal/strconv.uint64pow10" = some 3 by kernel_rfl).symm.trans hg2)
  obtain rfl := Option.some.inj ((show (Tryz.prog.globals[3]?).map (·.type) = some 274 by kernel_rfl).symm.trans ht2)
  have r2 : ∃ y z, W.heap[3]? = some (.cells (G.gl3.map (Value.int .u64)).toArray y z) := by
    have e : cs2 = (G.gl3.map (Value.int .u64)).toArray := laid_ints (l := G.gl3) (k := .u64) (t := 274) (e := 100) (by kernel_rfl) (by kernel_rfl) (by kernel_rfl) (by kernel_rfl) hd2
    rw [← e]
    exact var_cells hg2 hv2
  obtain rfl := Option.some.inj ((show Tryz.prog.globalNamed "gamehall/record.results" = some 0 by kernel_rfl).symm.trans hg3)
  obtain rfl := Option.some.inj ((show (Tryz.prog.globals[0]?).map (·.type) = some 187 by kernel_rfl).symm.trans ht3)
  have r3 : ∃ y z, W.heap[0]? = some (.cells (G.gl0.map Value.string).toArray y z) := by
    have e : cs3 = (G.gl0.map Value.string).toArray := laid_strs (l := G.gl0) (t := 187) (e := 9) (by kernel_rfl) (by kernel_rfl) (by kernel_rfl) (by kernel_rfl) hd3
    rw [← e]
    exact var_cells hg3 hv3
  exact grep_strs r3 id (grep_ints r2 id (grep_ints r0 id (grep_ints r1 id (fun p hp => by cases hp))))
theorem pure (x : (lTy (lay 0 (valKs [.int .i64, .int .i64, .sl (.int .i64)]))).den) (hx : WfDs [.int .i64, .int .i64, .sl (.int .i64)] 0 x) : G.f8 9000 x.1 x.2.1 x.2.2.1 = some (true, ()) :=
  (fun x hx => G.top_x x) x hx
set_option maxRecDepth 100000 in
theorem lifted (os : Os) (started : os.Started) (H : Type) (enc : TypeId × Value → H) :
    ReturnsInHanded {} Tryz.checked os 8 .any (fun w args => (Rows.topClocksSpec.pre enc Tryz.prog Tryz.f8 [] false w args ∧ laidMetH Tryz.prog Rows.topClocksRow.laid w) ∧ sizedMet enc Tryz.prog Tryz.f8 (OpenSpec.ofChange Rows.topClocksSpec) false w args)
      (Rows.topClocksSpec.post enc Tryz.prog Tryz.f8 false true false false) :=
  law_row_laid (C := Tryz.checked) (us := [.int .i64, .int .i64, .sl (.int .i64)]) (F := fun x => G.f8 9000 x.1 x.2.1 x.2.2.1) (b := 4) (G := G.G0) (l := Rows.topClocksRow.laid) own started (by kernel_rfl) Tryz.func8
    (ChangeSpec.witness_shaped (enc := enc) (C := Tryz.checked) (os := os) (X := fun w _ => laidMetH Tryz.prog Rows.topClocksRow.laid w) false (World.doorLaid Tryz.prog 400 os) #[.int .i64 0, .int .i64 0, .slice none 0 0] 8 rfl (World.shaped_of_RefB (by kernel_rfl) (by kernel_rfl)) (by kernel_rfl) (by kernel_rfl) (by kernel_rfl) (met os _))
    rfl (by kernel_rfl) (by kernel_rfl) (by kernel_rfl) laid (by kernel_rfl) 3 (by kernel_rfl) (fun ds h => match ds, h with | [_, _, _], _ => rfl) (G.f8_ok 9000) (fun x hx => pure x hx) glob
theorem over : Rows.topClocksRow.holds Tryz.pinned (OpenSpec.ofChange Rows.topClocksSpec) :=
  OpenClaim.holds_of_wide 8 Tryz.f8 rfl rfl rfl rfl rfl rfl rfl ⟨rfl, rfl, rfl, rfl, rfl⟩ rfl rfl rfl rfl rfl (by kernel_rfl) Tryz.func8 (by kernel_rfl)
    (of_decide_eq_true (by kernel_rfl)) (by unfold Func.isWrapper; first | (rw [if_pos (by decide +kernel)]; kernel_rfl) | (rw [if_neg (by decide +kernel)]; exact ⟨rfl, rfl⟩))
    (fun os started H enc _ => lifted os started H enc)
theorem card : Rows.TopClocksCardSaid :=
  Claim7.holds_tied_plain_at .later [] [.data, .data, .data, .data] true (true, "371426b75816c12dbaadd1ec39f0dae827ba1f0c9eee2edb14927ce75f9d1d58") true
    over (fun _ h => by cases h) (by kernel_rfl) (fun _ h => by cases h) topClocks_row_tie rfl ⟨rfl, rfl⟩ (by kernel_rfl) rfl
    (fun f fn hf hfn => by
      obtain rfl : f = 8 := Option.some.inj ((show Tryz.prog.funcNamed "gamehall/gamehalltop.TopClocks" = some 8 by kernel_rfl).symm.trans hf) |>.symm
      obtain rfl : fn = Tryz.f8 := (Option.some.inj (Tryz.func8.symm.trans hfn)).symm
      refine ⟨by kernel_rfl, fun j t ht => ?_⟩
      have hm : t ∈ Tryz.f8.params.toList := by
        have := Array.mem_of_getElem? ht
        simpa using this
      have hall : (Tryz.f8.params.toList.all fun u => !Tryz.prog.wantsStandIn u) = true := by kernel_rfl
      have := List.all_eq_true.1 hall t hm
      exact (show Tryz.prog.wantsStandIn t = false by simpa using this))
    (by kernel_rfl)
end TopClocksL
theorem topClocks_holds : Rows.TopClocksCardSaid := TopClocksL.card
#print axioms topClocks_holds
end Go.Proofs.YtpnbiakaknbofaaGreatDoor
