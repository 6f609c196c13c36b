/-
  Part 5 of a proof by a value semantics: what the call computes, and that the model does what the value semantics says.
  Conditions: none.
-/
import Derived.Test.YtgjiooieoeoghaaGreatDoorPd
import Derived.Test.YtgjiooieoeoghaaGreatDoorRows
import Derived.LaidMore
import Derived.Lib.LaidTab
import Derived.Stop.LaidErr
import Derived.MakeChecks
set_option linter.unusedSimpArgs false
set_option linter.unusedVariables false
set_option linter.unusedSectionVars false
namespace Go.Proofs.YtgjiooieoeoghaaGreatDoor
open Go Go.Vs Go.ChangeShapes Go.WideShapes Go.RowKit
set_option maxRecDepth 100000
set_option linter.unusedVariables false
namespace Seat

def prims (n : Nat) : Option (List AV → Option AV) := if n = 93 then some itoaP else none
def gl (k : Nat) : List AV := if k = 0 then Lib.pow10Tab.map (AV.int .u64) else []

theorem g0 : Tryz.prog.globalNamed "internal/strconv.uint64pow10" = some 0 := by kernel_rfl
theorem mixed : Tryz.prog.follows .mixedOrders = true := by kernel_rfl
theorem laidOut : laidOutB Tryz.prog = true := by kernel_rfl

theorem prims_ok (f : Nat) (pf : List AV → Option AV) (h : prims f = some pf) : PrimOK Tryz.prog gl f pf := by
  unfold prims at h
  split at h
  · rename_i hf
    subst hf
    cases h
    exact prim_itoa (k := 0) ⟨_, Tryz.func93, of_decide_eq_true (by kernel_rfl), by kernel_rfl⟩ g0 rfl itoa_calls
  · cases h

theorem call_ok : CallOK Tryz.prog gl (callW gl prog prims) := callW_ok mixed (fun f af h => allOK_find table_ok f af h) prims_ok

/- What is listed is laid. -/
theorem laid_tab : Rows.laid_internal_strconv_uint64pow10 (H := Unit) = Lib.tabData .u64 Lib.pow10Tab := by kernel_rfl

theorem tab_of_laid {W : World} (h : laidMetH Tryz.prog Rows.termSubstitutesRow.laid W) : Lib.TabIs Tryz.prog W "internal/strconv.uint64pow10" .u64 Lib.pow10Tab := by
  rw [MakeChecks.laidMetH_plain _ _ _ (by kernel_rfl)] at h
  have h2 := h.tail.tail
  rw [laid_tab] at h2
  exact Lib.tabIs_of_head g0 (by kernel_rfl) Tryz.underlying131 Tryz.underlying123 (by kernel_rfl) (by kernel_rfl) h2

theorem gl_ok {W : World} (h : Lib.TabIs Tryz.prog W "internal/strconv.uint64pow10" .u64 Lib.pow10Tab) : ∀ k, GlobOK (immOf W) W (gl k) k := by
  intro k
  unfold gl
  split
  · rename_i hk
    subst hk
    unfold Lib.TabIs World.var? at h
    rw [g0] at h
    simp only [Option.bind_some] at h
    split at h
    · rename_i cs t f hb
      simp only [Option.some.injEq] at h
      subst h
      have hcell : ∀ j, W.cell? (at' 0 j) = (Lib.pow10Tab.map fun z => Value.int .u64 z)[j]? := fun j => by simp [World.cell?, at', hb]
      have himm : immOf W 0 = 21 := by
        unfold immOf
        rw [hb]
        simp [Lib.pow10Tab]
      refine ⟨fun j c hc => ?_, fun _ => ?_⟩
      · rw [List.getElem?_map] at hc
        cases hz : Lib.pow10Tab[j]? with
        | none => rw [hz] at hc; cases hc
        | some z =>
          rw [hz] at hc
          cases hc
          refine ⟨rfl, .int .u64 z, .int _ _, ?_, ?_⟩
          · rw [Nat.zero_add, hcell, List.getElem?_map, hz]; rfl
          · have := (List.getElem?_eq_some_iff.1 hz).1
            simp [Lib.pow10Tab] at this
            omega
      · refine ⟨by rw [himm]; simp [Lib.pow10Tab], ?_⟩
        rw [hcell]
        simp
    · cases h
  · exact ⟨fun j c hc => by simp at hc, fun h => absurd rfl h⟩

theorem tm : TabMake prog prims I J where
  h9 := ⟨by kernel_rfl, by kernel_rfl⟩
  h10 := ⟨by kernel_rfl, by kernel_rfl⟩
  h24 := ⟨by kernel_rfl, by kernel_rfl⟩
  h37 := ⟨by kernel_rfl, by kernel_rfl⟩
  h47 := ⟨by kernel_rfl, by kernel_rfl⟩
  h48 := ⟨by kernel_rfl, by kernel_rfl⟩
  h51 := ⟨by kernel_rfl, by kernel_rfl⟩
  h67 := ⟨by kernel_rfl, by kernel_rfl⟩
  h70 := ⟨by kernel_rfl, by kernel_rfl⟩
theorem t2 : TabRef2 prog prims I J := by constructor <;> exact ⟨by kernel_rfl, by kernel_rfl⟩
theorem t1 : TabRef1 prog prims I J := by constructor <;> exact ⟨by kernel_rfl, by kernel_rfl⟩
theorem t8 : TabRef8 prog prims I J := by constructor <;> exact ⟨by kernel_rfl, by kernel_rfl⟩
theorem tt : TabTerm prog prims I J := by constructor <;> exact ⟨by kernel_rfl, by kernel_rfl⟩
theorem tl : TabL8 prog prims I J := by constructor <;> exact ⟨by kernel_rfl, by kernel_rfl⟩
theorem ta : TabLaws8a prog prims I J := by constructor <;> exact ⟨by kernel_rfl, by kernel_rfl⟩
theorem tp : prims (I 88) = some itoaP := by kernel_rfl

def isTrue : Option (AV × List Boxes) → Bool
  | some (.bool true, []) => true
  | _ => false

theorem first_run : isTrue (callN gl prog prims 60 (I 8) [] []) = true := by decide +kernel
theorem first_true : callW gl prog prims (I 8) [] [] = some (.bool true, []) := by
  refine callW_iff.2 ⟨60, ?_⟩
  have := first_run
  unfold isTrue at this
  split at this
  · assumption
  · cases this

theorem substitutes (r : Raw) (l : List Raw) : callW gl prog prims 3 [.agg r.cells, .slice (l.map fun o => .agg o.cells)] [] = some (.bool true, []) :=
  law_substitutes tm t2 t1 tp t8 tl tt ta first_true r l []

end Seat
end Go.Proofs.YtgjiooieoeoghaaGreatDoor
