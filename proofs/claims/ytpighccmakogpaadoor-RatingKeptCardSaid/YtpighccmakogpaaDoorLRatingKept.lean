/- RatingKept returns true whatever the input; the package variables that it reads hold what the program's text lays. No further condition. -/
import Derived.Test.YtpighccmakogpaaDoorRows
import Derived.Test.YtpighccmakogpaaDoorTie
import Derived.Test.YtpighccmakogpaaDoorCards
import Derived.Test.YtpighccmakogpaaDoorPRating3
import Derived.JoinedOf
import Derived.SevenTiedAt
namespace Go.Proofs.YtpighccmakogpaaDoor
open Go.VM Go.Proofs Go.RowKit
namespace RatingKeptL
theorem own : ownKnob Tryd.prog.godebug = none := by kernel_rfl
theorem laid : laidOutB Tryd.prog = true := by kernel_rfl
theorem met (os : Os) (args : Array Value) : laidMetH Tryd.prog Rows.ratingKeptRow.laid ((World.doorLaid Tryd.prog 400 os).forCall (fun _ _ => 0) ⟨#[], args, []⟩).memory :=
  laidMetH_of_parts3 (fuel := 8) (laidMet_of_run' 8 (by kernel_rfl) (by kernel_rfl)) (by kernel_rfl) (by kernel_rfl)
theorem glob (W : World) (h : laidMetH Tryd.prog Rows.ratingKeptRow.laid W) : GRep G.G0 W (fun _ => False) := by
  rw [MakeChecks.laidMetH_plain _ _ _ (by kernel_rfl)] at h
  obtain ⟨ps, ⟨g0, t0, cs0, f0, p0, q0, hg0, ht0, hv0, hd0, _⟩, _⟩ := h
  obtain rfl := Option.some.inj ((show Tryd.prog.globalNamed "gamehall/rating.steps" = some 0 by kernel_rfl).symm.trans hg0)
  obtain rfl := Option.some.inj ((show (Tryd.prog.globals[0]?).map (·.type) = some 35 by kernel_rfl).symm.trans ht0)
  have r0 : ∀ (i : Nat) (x : Int), G.gl0[i]? = some x → W.cell? ⟨0, i, none⟩ = some (.int .i64 x) := fun i x hx => by
    rw [World.var?_cell hg0 hv0]
    exact laid_ints (l := G.gl0) (k := .i64) (t := 35) (e := 3) (by kernel_rfl) (by kernel_rfl) (by kernel_rfl) hd0 i x hx
  exact grep_ints r0 id (fun p hp => by cases hp)
set_option maxRecDepth 100000 in
theorem lifted (os : Os) (started : os.Started) (H : Type) (enc : TypeId × Value → H) :
    ReturnsInHanded {} Tryd.checked os 5 .any (fun w args => (Rows.ratingKeptSpec.pre enc Tryd.prog Tryd.f5 [] false w args ∧ laidMetH Tryd.prog Rows.ratingKeptRow.laid w) ∧ sizedMet enc Tryd.prog Tryd.f5 (OpenSpec.ofChange Rows.ratingKeptSpec) false w args)
      (Rows.ratingKeptSpec.post enc Tryd.prog Tryd.f5 false true false false) :=
  law_row_laid (C := Tryd.checked) (us := [.sl (.int .i64), .sl (.pair (.int .i64) (.pair (.int .i64) (.pair (.int .i64) (.unit)))), .int .i64]) (F := fun x => G.f5 100 x.1 x.2.1 x.2.2.1) (b := 4) (G := G.G0) (l := Rows.ratingKeptRow.laid) own started (by kernel_rfl) Tryd.func5
    (ChangeSpec.witness_shaped (enc := enc) (C := Tryd.checked) (os := os) (X := fun w _ => laidMetH Tryd.prog Rows.ratingKeptRow.laid w) false (World.doorLaid Tryd.prog 400 os) #[.slice none 0 0, .slice none 0 0, .int .i64 0] 8 rfl (World.shaped_of_RefB (by kernel_rfl) (by kernel_rfl)) (by kernel_rfl) (by kernel_rfl) (by kernel_rfl) (met os _))
    rfl (by kernel_rfl) (by kernel_rfl) (by kernel_rfl) laid (by kernel_rfl) 3 (by kernel_rfl) (fun ds h => match ds, h with | [_, _, _], _ => rfl) (G.f5_ok 100) (fun x hx => G.kept_pure x.1 x.2.1 x.2.2.1) glob
theorem over : Rows.ratingKeptRow.holds Tryd.pinned (OpenSpec.ofChange Rows.ratingKeptSpec) :=
  OpenClaim.holds_of_wide 5 Tryd.f5 rfl rfl rfl rfl rfl rfl rfl ⟨rfl, rfl, rfl, rfl, rfl⟩ rfl rfl rfl rfl rfl (by kernel_rfl) Tryd.func5 (by kernel_rfl)
    (of_decide_eq_true (by kernel_rfl)) (by unfold Func.isWrapper; first | (rw [if_pos (by decide +kernel)]; kernel_rfl) | (rw [if_neg (by decide +kernel)]; exact ⟨rfl, rfl⟩))
    (fun os started H enc _ => lifted os started H enc)
theorem card : Rows.RatingKeptCardSaid :=
  Claim7.holds_tied_plain_at .later [] [.data] true (true, "bb8e8397c7d243ebe644b66d8887d6dc980cedaae969ea0a98aa4472e0759625") false
    over (fun _ h => by cases h) (by kernel_rfl) (fun _ h => by cases h) ratingKept_row_tie rfl ⟨rfl, rfl⟩ (by kernel_rfl) rfl
    (fun f fn hf hfn => by
      obtain rfl : f = 5 := Option.some.inj ((show Tryd.prog.funcNamed "gamehall/gamehallkeep3.RatingKept" = some 5 by kernel_rfl).symm.trans hf) |>.symm
      obtain rfl : fn = Tryd.f5 := (Option.some.inj (Tryd.func5.symm.trans hfn)).symm
      refine ⟨by kernel_rfl, fun j t ht => ?_⟩
      have hm : t ∈ Tryd.f5.params.toList := by
        have := Array.mem_of_getElem? ht
        simpa using this
      have hall : (Tryd.f5.params.toList.all fun u => !Tryd.prog.wantsStandIn u) = true := by kernel_rfl
      have := List.all_eq_true.1 hall t hm
      exact (show Tryd.prog.wantsStandIn t = false by simpa using this))
    (by kernel_rfl)
end RatingKeptL
/-- The card, under a short name, for the claim. -/
theorem ratingKept_holds : Rows.RatingKeptCardSaid := RatingKeptL.card
#print axioms ratingKept_holds
end Go.Proofs.YtpighccmakogpaaDoor
