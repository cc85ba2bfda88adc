/- RatingTurns returns true whatever the input; the package variables that it reads hold what the program's text lays. No further condition. -/
import Derived.Test.YtpighccmakogpaaDoorRows
import Derived.Test.YtpighccmakogpaaDoorTie
import Derived.Test.YtpighccmakogpaaDoorCards
import Derived.Test.YtpighccmakogpaaDoorPRating
import Derived.JoinedOf
import Derived.SevenTiedAt
namespace Go.Proofs.YtpighccmakogpaaDoor
open Go.VM Go.Proofs Go.RowKit
namespace RatingTurnsL
theorem own : ownKnob Tryd.prog.godebug = none := by kernel_rfl
theorem laid : laidOutB Tryd.prog = true := by kernel_rfl
theorem met (os : Os) (args : Array Value) : laidMetH Tryd.prog Rows.ratingTurnsRow.laid ((World.doorLaid Tryd.prog 400 os).forCall (fun _ _ => 0) ⟨#[], args, []⟩).memory :=
  laidMetH_of_parts3 (fuel := 8) (laidMet_of_run' 8 (by kernel_rfl) (by kernel_rfl)) (by kernel_rfl) (by kernel_rfl)
theorem glob (W : World) (h : laidMetH Tryd.prog Rows.ratingTurnsRow.laid W) : GRep G.G0 W (fun _ => False) := by
  rw [MakeChecks.laidMetH_plain _ _ _ (by kernel_rfl)] at h
  obtain ⟨ps, ⟨g0, t0, cs0, f0, p0, q0, hg0, ht0, hv0, hd0, _⟩, _⟩ := h
  obtain rfl := Option.some.inj ((show Tryd.prog.globalNamed "gamehall/rating.steps" = some 0 by kernel_rfl).symm.trans hg0)
  obtain rfl := Option.some.inj ((show (Tryd.prog.globals[0]?).map (·.type) = some 35 by kernel_rfl).symm.trans ht0)
  have r0 : ∀ (i : Nat) (x : Int), G.gl0[i]? = some x → W.cell? ⟨0, i, none⟩ = some (.int .i64 x) := fun i x hx => by
    rw [World.var?_cell hg0 hv0]
    exact laid_ints (l := G.gl0) (k := .i64) (t := 35) (e := 3) (by kernel_rfl) (by kernel_rfl) (by kernel_rfl) hd0 i x hx
  exact grep_ints r0 id (fun p hp => by cases hp)
set_option maxRecDepth 100000 in
theorem lifted (os : Os) (started : os.Started) (H : Type) (enc : TypeId × Value → H) :
    ReturnsInHanded {} Tryd.checked os 3 .any (fun w args => (Rows.ratingTurnsSpec.pre enc Tryd.prog Tryd.f3 [] false w args ∧ laidMetH Tryd.prog Rows.ratingTurnsRow.laid w) ∧ sizedMet enc Tryd.prog Tryd.f3 (OpenSpec.ofChange Rows.ratingTurnsSpec) false w args)
      (Rows.ratingTurnsSpec.post enc Tryd.prog Tryd.f3 false true false false) :=
  law_row_laid (C := Tryd.checked) (us := [.int .i64, .int .i64, .int .i64, .int .i64, .int .i64]) (F := fun x => G.f3 100 x.1 x.2.1 x.2.2.1 x.2.2.2.1 x.2.2.2.2.1) (b := 4) (G := G.G0) (l := Rows.ratingTurnsRow.laid) own started (by kernel_rfl) Tryd.func3
    (ChangeSpec.witness_shaped (enc := enc) (C := Tryd.checked) (os := os) (X := fun w _ => laidMetH Tryd.prog Rows.ratingTurnsRow.laid w) false (World.doorLaid Tryd.prog 400 os) #[.int .i64 0, .int .i64 0, .int .i64 0, .int .i64 0, .int .i64 0] 8 rfl (World.shaped_of_RefB (by kernel_rfl) (by kernel_rfl)) (by kernel_rfl) (by kernel_rfl) (by kernel_rfl) (met os _))
    rfl (by kernel_rfl) (by kernel_rfl) (by kernel_rfl) laid (by kernel_rfl) 5 (by kernel_rfl) (fun ds h => match ds, h with | [_, _, _, _, _], _ => rfl) (G.f3_ok 100) (fun x hx => G.turns_pure x.1 x.2.1 x.2.2.1 x.2.2.2.1 x.2.2.2.2.1) glob
theorem over : Rows.ratingTurnsRow.holds Tryd.pinned (OpenSpec.ofChange Rows.ratingTurnsSpec) :=
  OpenClaim.holds_of_wide 3 Tryd.f3 rfl rfl rfl rfl rfl rfl rfl ⟨rfl, rfl, rfl, rfl, rfl⟩ rfl rfl rfl rfl rfl (by kernel_rfl) Tryd.func3 (by kernel_rfl)
    (of_decide_eq_true (by kernel_rfl)) (by unfold Func.isWrapper; first | (rw [if_pos (by decide +kernel)]; kernel_rfl) | (rw [if_neg (by decide +kernel)]; exact ⟨rfl, rfl⟩))
    (fun os started H enc _ => lifted os started H enc)
theorem card : Rows.RatingTurnsCardSaid :=
  Claim7.holds_tied_plain_at .later [] [.data] true (true, "bb8e8397c7d243ebe644b66d8887d6dc980cedaae969ea0a98aa4472e0759625") false
    over (fun _ h => by cases h) (by kernel_rfl) (fun _ h => by cases h) ratingTurns_row_tie rfl ⟨rfl, rfl⟩ (by kernel_rfl) rfl
    (fun f fn hf hfn => by
      obtain rfl : f = 3 := Option.some.inj ((show Tryd.prog.funcNamed "gamehall/gamehallkeep3.RatingTurns" = some 3 by kernel_rfl).symm.trans hf) |>.symm
      obtain rfl : fn = Tryd.f3 := (Option.some.inj (Tryd.func3.symm.trans hfn)).symm
      refine ⟨by kernel_rfl, fun j t ht => ?_⟩
      have hm : t ∈ Tryd.f3.params.toList := by
        have := Array.mem_of_getElem? ht
        simpa using this
      have hall : (Tryd.f3.params.toList.all fun u => !Tryd.prog.wantsStandIn u) = true := by kernel_rfl
      have := List.all_eq_true.1 hall t hm
      exact (show Tryd.prog.wantsStandIn t = false by simpa using this))
    (by kernel_rfl)
end RatingTurnsL
/-- The card, under a short name, for the claim. -/
theorem ratingTurns_holds : Rows.RatingTurnsCardSaid := RatingTurnsL.card
#print axioms ratingTurns_holds
end Go.Proofs.YtpighccmakogpaaDoor
