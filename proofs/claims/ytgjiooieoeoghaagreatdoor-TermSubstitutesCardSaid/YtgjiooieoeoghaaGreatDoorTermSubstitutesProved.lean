/-
  Proved: the given law TermSubstitutes (the instance of a term under any substitution) returns true at every input, and its arguments read behind the call as before.
  Conditions: none beyond those of the given row (its package-level variables as the card ties them).
-/
import Derived.Test.YtgjiooieoeoghaaGreatDoorPe
import Derived.Test.YtgjiooieoeoghaaGreatDoorTie
import Derived.Test.YtgjiooieoeoghaaGreatDoorCards
import Derived.ProofKit
import Derived.OpenShut
import Derived.Stop.Joined
import Derived.SevenTiedAt
set_option linter.unusedSimpArgs false
set_option linter.unusedVariables false
set_option linter.unusedSectionVars false
namespace Go.Proofs.YtgjiooieoeoghaaGreatDoor
open Go Go.Vs Go.ChangeShapes Go.WideShapes Go.ChangeAt Go.WideMaps Go.WideElems Go.RowKit
set_option maxRecDepth 100000
set_option linter.unusedVariables false
namespace Seat

theorem own : ownKnob Tryz.prog.godebug = none := by kernel_rfl

/-- The door's own heap meets the condition. -/
theorem door_met (os : Os) (args : Array Value) : laidMetH Tryz.prog Rows.termSubstitutesRow.laid ((World.doorLaid Tryz.prog 400 os).forCall (fun _ _ => 0) ⟨#[], args, []⟩).memory := by
  rw [MakeChecks.laidMetH_plain _ _ _ (by kernel_rfl)]
  exact laidMet_of_run' 8 (by kernel_rfl) (by kernel_rfl)

theorem rawTy : ∃ f0 f1 f2 f3, RawTy Tryz.prog 24 22 f0 f1 f2 f3 :=
  ⟨_, _, _, _, Tryz.underlying24, by kernel_rfl, rfl, rfl, rfl, rfl, by kernel_rfl, by kernel_rfl, by kernel_rfl, by kernel_rfl, Tryz.underlying3, Tryz.underlying3, Tryz.underlying9, rfl, Tryz.underlying22⟩

theorem reads : ∀ t ∈ [24, 22], Tryz.prog.readableRec t = true ∧ t < Tryz.prog.types.size := by
  intro t ht
  have : t = 24 ∨ t = 22 := by simpa using ht
  rcases this with rfl | rfl
  · exact ⟨by kernel_rfl, of_decide_eq_true (by kernel_rfl)⟩
  · exact ⟨by kernel_rfl, of_decide_eq_true (by kernel_rfl)⟩

theorem lifted (os : Os) (started : os.Started) (H : Type) (enc : TypeId × Value → H) :
    ReturnsInHanded {} Tryz.checked os 3 .any (fun w args => (Rows.termSubstitutesSpec.pre enc Tryz.prog Tryz.f3 [] false w args ∧ laidMetH Tryz.prog Rows.termSubstitutesRow.laid w) ∧ sizedMet enc Tryz.prog Tryz.f3 (OpenSpec.ofChange Rows.termSubstitutesSpec) false w args)
      (Rows.termSubstitutesSpec.post enc Tryz.prog Tryz.f3 false true false false) := by
  refine returnsInHanded_of_change_and (C := Tryz.checked) (X := fun w _ => laidMetH Tryz.prog Rows.termSubstitutesRow.laid w) (fun _ _ _ hh h => h.of_heap hh) own started (by kernel_rfl) Tryz.func3
    (ChangeSpec.witness_shaped (enc := enc) (C := Tryz.checked) (os := os) (X := fun w _ => laidMetH Tryz.prog Rows.termSubstitutesRow.laid w) false (World.doorLaid Tryz.prog 400 os) #[.agg #[.int .i64 0, .int .i64 0, .string ⟨#[]⟩, .slice none 0 0], .slice none 0 0] 8 rfl (World.shaped_of_RefB (by kernel_rfl) (by kernel_rfl)) (by kernel_rfl) (by kernel_rfl) (by kernel_rfl) (door_met os _)) ?_
  intro W base args ds gs before hval0 hW _ _ hL _
  have hval : ∀ (j : Nat) t v, Tryz.f3.params[j]? = some t → args[j]? = some v → Value.okWide Tryz.prog W .any base t v := hval0
  have hW' := hW
  obtain ⟨p, q, hA0, hV, rfl, hfz, hnd⟩ := hW
  have hA : DataW.TrodAll enc Tryz.prog W 0 (fun _ => true) true Tryz.f3.params.toList args.toList ds p := hA0
  rw [Tryz.params3] at hA hval
  obtain ⟨v0, v1, d0, d1, p0, p1, hargs, rfl, rfl, h0, h1⟩ := trodAll_two hA
  obtain ⟨rfl, rfl⟩ := trodVars_none hV
  subst hargs
  obtain ⟨f0, f1, f2, f3, T⟩ := rawTy
  have a0 : ∃ cs, v0 = .agg cs := by
    have := hval 0 24 v0 rfl rfl
    unfold Value.okWide at this
    rw [Tryz.underlying24] at this
    obtain ⟨cs, h, _⟩ := this
    exact ⟨cs, h⟩
  have a1 : ∀ cs, v1 ≠ .agg cs := by
    intro cs h
    have := hval 1 22 v1 rfl rfl
    unfold Value.okWide at this
    rw [Tryz.underlying22] at this
    subst h
    simp [Cell.okWide, Cell.ok, Tryz.underlying22] at this
  obtain ⟨r, hr⟩ := read_raw T a0 h0
  obtain ⟨l, hl⟩ := read_raws T a1 h1
  refine (calls_true call_ok (substitutes r l) rfl (fun i a ha => ?_) (gl_ok (tab_of_laid hL))).mono fun e W' ⟨he, hb⟩ => ?_
  · match i, ha with
    | 0, ha => simp at ha; subst ha; exact hr
    | 1, ha => simp at ha; subst ha; exact hl
    | i + 2, ha => simp at ha
  · subst he
    exact ⟨_, rfl, post_true laidOut (by rw [Tryz.params3]; exact reads) hW' rfl rfl Tryz.underlying4 rfl hb⟩

theorem over : Rows.TermSubstitutesSaid :=
  OpenClaim.holds_of_wide 3 Tryz.f3 rfl rfl rfl rfl rfl rfl rfl ⟨rfl, rfl, rfl, rfl, rfl⟩ rfl rfl rfl rfl rfl (by kernel_rfl) Tryz.func3 (by kernel_rfl)
    (of_decide_eq_true (by kernel_rfl)) (by unfold Func.isWrapper; first | (rw [if_pos (by decide +kernel)]; kernel_rfl) | (rw [if_neg (by decide +kernel)]; exact ⟨rfl, rfl⟩))
    (fun os started H enc _ => lifted os started H enc)

theorem card : Rows.TermSubstitutesCardSaid :=
  Claim7.holds_tied_plain_at .later [] [.data, .data, .data, .sentinel, .sentinel] true (true, "472a7796bff167d6cdf1b9439b3a6d08811f2dbda0b925aeaff8bb59b369a85d") true
    over (fun _ h => by cases h) (by kernel_rfl) (fun _ h => by cases h) termSubstitutes_row_tie rfl ⟨rfl, rfl⟩ (by kernel_rfl) rfl
    (fun f fn hf hfn => by
      obtain rfl : f = 3 := Option.some.inj ((show Tryz.prog.funcNamed "lispprover/lispproverlaw8.TermSubstitutes" = some 3 by kernel_rfl).symm.trans hf) |>.symm
      obtain rfl : fn = Tryz.f3 := (Option.some.inj (Tryz.func3.symm.trans hfn)).symm
      exact ⟨by kernel_rfl, fun j t ht => by
        rw [Tryz.params3] at ht
        have hm : t ∈ [24, 22] := by simpa using Array.mem_of_getElem? ht
        have hall : ([24, 22].all fun u => !Tryz.prog.wantsStandIn u) = true := by kernel_rfl
        exact (show Tryz.prog.wantsStandIn t = false by simpa using List.all_eq_true.1 hall t hm)⟩)
    (by kernel_rfl)
end Seat

/-- THE STATEMENT: the instance of a term under any substitution. -/
theorem termSubstitutes_proved : Rows.TermSubstitutesCardSaid := Seat.card
#print axioms termSubstitutes_proved
end Go.Proofs.YtgjiooieoeoghaaGreatDoor
