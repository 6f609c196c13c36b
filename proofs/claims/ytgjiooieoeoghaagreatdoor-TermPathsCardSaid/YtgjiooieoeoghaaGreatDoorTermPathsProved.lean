/-
  Proved: the given law TermPaths (what At and Put return) returns true at every input, and its arguments read behind the call as before.
  Conditions: none beyond those of the given row (its package-level variables as the card ties them).
-/
import Derived.Test.YtgjiooieoeoghaaGreatDoorPe
import Derived.Test.YtgjiooieoeoghaaGreatDoorTie
import Derived.Test.YtgjiooieoeoghaaGreatDoorCards
import Derived.ProofKit
import Derived.OpenShut
import Derived.Stop.Joined
import Derived.SevenTiedAt
set_option linter.unusedSimpArgs false
set_option linter.unusedVariables false
set_option linter.unusedSectionVars false
namespace Go.Proofs.YtgjiooieoeoghaaGreatDoor
open Go Go.Vs Go.ChangeShapes Go.WideShapes Go.ChangeAt Go.WideMaps Go.WideElems Go.RowKit
set_option maxRecDepth 100000
set_option linter.unusedVariables false
namespace Seat

theorem termPaths_door (os : Os) (args : Array Value) : laidMetH Tryz.prog Rows.termPathsRow.laid ((World.doorLaid Tryz.prog 400 os).forCall (fun _ _ => 0) ⟨#[], args, []⟩).memory := by
  rw [MakeChecks.laidMetH_plain _ _ _ (by kernel_rfl)]
  exact laidMet_of_run' 8 (by kernel_rfl) (by kernel_rfl)

theorem termPaths_lifted (os : Os) (started : os.Started) (H : Type) (enc : TypeId × Value → H) :
    ReturnsInHanded {} Tryz.checked os 8 .any (fun w args => (Rows.termPathsSpec.pre enc Tryz.prog Tryz.f8 [] false w args ∧ laidMetH Tryz.prog Rows.termPathsRow.laid w) ∧ sizedMet enc Tryz.prog Tryz.f8 (OpenSpec.ofChange Rows.termPathsSpec) false w args)
      (Rows.termPathsSpec.post enc Tryz.prog Tryz.f8 false true false false) := by
  refine returnsInHanded_of_change_and (C := Tryz.checked) (X := fun w _ => laidMetH Tryz.prog Rows.termPathsRow.laid w) (fun _ _ _ hh h => h.of_heap hh) own started (by kernel_rfl) Tryz.func8
    (ChangeSpec.witness_shaped (enc := enc) (C := Tryz.checked) (os := os) (X := fun w _ => laidMetH Tryz.prog Rows.termPathsRow.laid w) false (World.doorLaid Tryz.prog 400 os) #[.agg #[.int .i64 0, .int .i64 0, .string ⟨#[]⟩, .slice none 0 0], .agg #[.int .i64 0, .int .i64 0, .string ⟨#[]⟩, .slice none 0 0], .slice none 0 0] 8 rfl (World.shaped_of_RefB (by kernel_rfl) (by kernel_rfl)) (by kernel_rfl) (by kernel_rfl) (by kernel_rfl) (termPaths_door os _)) ?_
  intro W base args ds gs before hval0 hW _ _ hL _
  have hval : ∀ (j : Nat) t v, Tryz.f8.params[j]? = some t → args[j]? = some v → Value.okWide Tryz.prog W .any base t v := hval0
  have hW' := hW
  obtain ⟨p, q, hA0, hV, rfl, hfz, hnd⟩ := hW
  have hA : DataW.TrodAll enc Tryz.prog W 0 (fun _ => true) true Tryz.f8.params.toList args.toList ds p := hA0
  rw [Tryz.params8] at hA hval
  obtain ⟨v0, vs0, d0, ds0, p0, q0, hargs, rfl, rfl, h0, r0⟩ := trodAll_cons hA
  obtain ⟨v1, vs1, d1, ds1, p1, q1, rfl, rfl, rfl, h1, r1⟩ := trodAll_cons r0
  obtain ⟨v2, vs2, d2, ds2, p2, q2, rfl, rfl, rfl, h2, r2⟩ := trodAll_cons r1
  obtain ⟨rfl, rfl, rfl⟩ := trodAll_nil r2
  obtain rfl : args = #[v0, v1, v2] := by cases args; simp_all
  obtain ⟨rfl, rfl⟩ := trodVars_none hV
  clear hA0 hval0
  have a0 : ∃ cs, v0 = .agg cs := okWide_agg Tryz.underlying24 (hval 0 24 v0 rfl rfl)
  obtain ⟨x0, y0⟩ := read_raw rawTy.choose_spec.choose_spec.choose_spec.choose_spec a0 h0
  have a1 : ∃ cs, v1 = .agg cs := okWide_agg Tryz.underlying24 (hval 1 24 v1 rfl rfl)
  obtain ⟨x1, y1⟩ := read_raw rawTy.choose_spec.choose_spec.choose_spec.choose_spec a1 h1
  have a2 : ∀ cs, v2 ≠ .agg cs := okWide_sl Tryz.underlying58 (hval 2 58 v2 rfl rfl)
  obtain ⟨x2, y2⟩ := read_ints Tryz.underlying58 Tryz.underlying3 (by kernel_rfl) a2 h2
  refine (calls_true call_ok (paths x0 x1 x2) rfl (fun i a ha => ?_) (gl_ok (tab_of_laid hL))).mono fun e W' ⟨he, hb⟩ => ?_
  · match i, ha with
    | 0, ha => simp at ha; subst ha; exact y0
    | 1, ha => simp at ha; subst ha; exact y1
    | 2, ha => simp at ha; subst ha; exact y2
    | i + 3, ha => simp at ha
  · subst he
    exact ⟨_, rfl, post_true laidOut (by rw [Tryz.params8]; exact reads_in _ (by decide)) hW' rfl rfl Tryz.underlying4 rfl hb⟩

theorem termPaths_over : Rows.TermPathsSaid :=
  OpenClaim.holds_of_wide 8 Tryz.f8 rfl rfl rfl rfl rfl rfl rfl ⟨rfl, rfl, rfl, rfl, rfl⟩ rfl rfl rfl rfl rfl (by kernel_rfl) Tryz.func8 (by kernel_rfl)
    (of_decide_eq_true (by kernel_rfl)) (by unfold Func.isWrapper; first | (rw [if_pos (by decide +kernel)]; kernel_rfl) | (rw [if_neg (by decide +kernel)]; exact ⟨rfl, rfl⟩))
    (fun os started H enc _ => termPaths_lifted os started H enc)
end Seat

/-- THE STATEMENT. -/
theorem termPaths_proved : Rows.TermPathsCardSaid :=
  Claim7.holds_tied_plain_at .later [] [.data, .data, .data, .sentinel, .sentinel] true (true, "472a7796bff167d6cdf1b9439b3a6d08811f2dbda0b925aeaff8bb59b369a85d") true
    Seat.termPaths_over (fun _ h => by cases h) (by kernel_rfl) (fun _ h => by cases h) termPaths_row_tie rfl ⟨rfl, rfl⟩ (by kernel_rfl) rfl
    (fun f fn hf hfn => by
      obtain rfl : f = 8 := Option.some.inj ((show Tryz.prog.funcNamed "lispprover/lispproverlaw8.TermPaths" = some 8 by kernel_rfl).symm.trans hf) |>.symm
      obtain rfl : fn = Tryz.f8 := (Option.some.inj (Tryz.func8.symm.trans hfn)).symm
      exact ⟨by kernel_rfl, fun j t ht => by
        rw [Tryz.params8] at ht
        have hm : t ∈ [24, 24, 58] := by simpa using Array.mem_of_getElem? ht
        have hall : ([24, 24, 58].all fun u => !Tryz.prog.wantsStandIn u) = true := by kernel_rfl
        exact (show Tryz.prog.wantsStandIn t = false by simpa using List.all_eq_true.1 hall t hm)⟩)
    (by kernel_rfl)
#print axioms termPaths_proved
end Go.Proofs.YtgjiooieoeoghaaGreatDoor
