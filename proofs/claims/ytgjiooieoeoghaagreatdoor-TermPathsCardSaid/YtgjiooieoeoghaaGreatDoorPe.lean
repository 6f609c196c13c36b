/-
  Part 5 of a proof by a value semantics: what the call computes, and that the model does what the value semantics says.
  Conditions: none.
-/
import Derived.Test.YtgjiooieoeoghaaGreatDoorPd
import Derived.Carry
import Derived.OpenShut
import Derived.ChangeArms
import Derived.Shelf.Strconv.Itoa3
import Derived.Test.YtgjiooieoeoghaaGreatDoorChecked
import Derived.KernelRfl
import Derived.Test.YtgjiooieoeoghaaGreatDoorRows
import Derived.LaidMore
import Derived.Lib.LaidTab
import Derived.Stop.LaidErr
import Derived.MakeChecks
set_option linter.unusedSimpArgs false
set_option linter.unusedVariables false
set_option linter.unusedSectionVars false
namespace Go.Vs
open Go
set_option linter.unusedSimpArgs false
set_option linter.unusedVariables false

theorem upd_self {α : Type} (e : Nat → α) (n : Nat) (v : α) (h : e n = v) : upd e n v = e := by
  funext m
  rw [upd_app]
  split
  · rename_i hm; subst hm; exact h.symm
  · rfl

def Sym.index : List Sym → Sym → Nat → Int
  | [], _, _ => -1
  | x :: l, s, i => if Sym.same x s = true then i else Sym.index l s (i + 1)
theorem Sym.index_none : ∀ (l : List Sym) (s : Sym) (i : Nat), Sym.mem l s = false → Sym.index l s i = -1
  | [], _, _, _ => rfl
  | x :: l, s, i, h => by
    have hmem : Sym.mem (x :: l) s = (Sym.same x s || Sym.mem l s) := rfl
    rw [hmem, Bool.or_eq_false_iff] at h
    simp only [Sym.index, h.1, Bool.false_eq_true, if_false]
    exact Sym.index_none l s (i + 1) h.2
theorem Sym.index_mem : ∀ (l : List Sym) (s : Sym) (i : Nat), decide (0 ≤ Sym.index l s i) = Sym.mem l s
  | [], _, _ => by simp [Sym.index, Sym.mem]
  | x :: l, s, i => by
    have hmem : Sym.mem (x :: l) s = (Sym.same x s || Sym.mem l s) := rfl
    rw [hmem]
    cases h : Sym.same x s with
    | true => simp [Sym.index, h]
    | false => simp only [Sym.index, h, Bool.false_eq_true, if_false, Bool.false_or]; exact Sym.index_mem l s (i + 1)

section
variable {gl : Globs} {prog : Prog} {prims : Prims} {I J : Nat → Nat} (tm : TabMake prog prims I J) (t2 : TabRef2 prog prims I J) (t1 : TabRef1 prog prims I J) (tp : prims (I 88) = some itoaP) (t8 : TabRef8 prog prims I J) (tl : TabL8 prog prims I J) (tt : TabTerm prog prims I J) (tB : TabTermB prog prims I J) (tb : TabLaws8b prog prims I J) (hfirst : callW gl prog prims (I 8) [] [] = some (.bool true, []))

/-- A walk whose memory grows by at most one at each subterm. -/
theorem t_walk_lt {σ : Type} (tt : TabTerm prog prims I J) (base : σ → List Boxes) (m : σ → Nat) (N : Nat) (g : Nat) (caps : List AV) (hc : ∀ l, AV.keptBy l (.fn g caps) = true) (hcp : ∀ n, caps.map (AV.globS n) = caps) (f : Trm → σ → Bool × σ)
    (hm : ∀ x s, m (f x s).2 ≤ m s + 1)
    (hf : ∀ (x : Trm) (U : List Boxes) (s : σ), x.ok → m s < N → callW gl prog prims g (.agg x.cells :: caps) (U ++ base s) = some (.bool (f x s).1, U ++ base (f x s).2)) :
    ∀ (t : Trm), t.ok → ∀ (U : List Boxes) (s : σ), m s + t.nodes ≤ N → callW gl prog prims (I 59) [.agg t.cells, .fn g caps] (U ++ base s) = some (.bool (t.walk f s).1, U ++ base (t.walk f s).2) ∧ m (t.walk f s).2 ≤ m s + t.nodes
  | .mk k n v a, hok, U, s, hN => by
    have hnod : Trm.nodes (.mk k n v a) = 1 + Trm.nodesl a := rfl
    rw [hnod] at hN ⊢
    have h1 := fun b => hf (.mk k n v a) (b :: U) s hok (by omega)
    have hm1 := hm (.mk k n v a) s
    simp only [List.cons_append] at h1
    simp only [Trm.walk]
    rcases hfs : f (.mk k n v a) s with ⟨b0, s'⟩
    rw [hfs] at h1 hm1
    cases b0 with
    | false =>
      refine ⟨?_, by simp at hm1 ⊢; omega⟩
      refine callW_wp tt.h59.1 tt.h59.2 ?_
      simp [C.F59, hcp, h1]
    | true =>
      by_cases h3 : k = 3
      · subst h3
        have key : ∀ (q : List Trm), (∀ x ∈ q, x ∈ a) → ∀ s1, m s1 + Trm.nodesl q ≤ N → m (Trm.walks f q s1).2 ≤ m s1 + Trm.nodesl q := by
          intro q
          induction q with
          | nil => intro _ s1 _; simp [Trm.walks]
          | cons x q ih =>
            intro hq s1 hs1
            simp only [Trm.nodesl] at hs1 ⊢
            have hxm : x ∈ a := hq x (by simp)
            have h5 := (t_walk_lt tt base m N g caps hc hcp f hm hf x (Trm.oks_mem hok.2.2 _ hxm) U s1 (by omega)).2
            simp only [Trm.walks]
            rcases hws : Trm.walk f x s1 with ⟨b1, s2⟩
            rw [hws] at h5
            cases b1 with
            | false => simp at h5 ⊢; omega
            | true =>
              have := ih (fun y hy => hq y (by simp [hy])) s2 (by simp at h5; omega)
              simp at h5 this ⊢
              omega
        refine ⟨?_, ?_⟩
        · refine callW_wp tt.h59.1 tt.h59.2 ?_
          simp [C.F59, trm_cells] at h1 ⊢
          simp [hcp, h1]
          have loop : ∀ (q : List Trm) (i : Nat) (s1 : σ), a.drop i = q → m s1 + Trm.nodesl q ≤ N → ∀ s0, project [1, 15, 16, 17] [2] s0 = some (H59 (.mk 3 n v a) g caps a (U ++ base s1) i) →
              wpl gl (callW gl prog prims) [1, 15, 16, 17] [2] (C.F59_0 I J) s0 fun x fin => fin.stk = U ++ base (Trm.walks f q s1).2 ∧ if (Trm.walks f q s1).1 = true then x = .exit 0 else x = .ret ∧ fin.env 4 = .bool false := by
            intro q
            induction q with
            | nil =>
              intro i s1 hq hs1 s0 hp0
              have hl := drop_nil hq
              refine wpl_step hp0 ?_
              have : ¬ i < a.length := by omega
              simp [H59, C.F59_0, this, Trm.walks]
            | cons x q ih =>
              intro i s1 hq hs1 s0 hp0
              obtain ⟨hi, hx, hq2, hmm⟩ := drop_cons hq
              have hlen := hok.2.1
              have hw := wrap64 ((i : Int) + 1) (by omega) (by omega)
              simp only [Trm.nodesl] at hs1
              have hrec := fun b => t_walk_lt tt base m N g caps hc hcp f hm hf x (Trm.oks_mem hok.2.2 _ hmm) (b :: U) s1 (by omega)
              have hmr := (hrec (fun _ => none)).2
              have hrec := fun b => (hrec b).1
              simp only [List.cons_append] at hrec
              refine wpl_step hp0 ?_
              rcases hws : Trm.walk f x s1 with ⟨b1, s2⟩
              rw [hws] at hrec hmr
              cases b1 with
              | false =>
                simp [H59, C.F59_0, hi, hx, hcp, hrec, Trm.walks, hws]
              | true =>
                simp at hmr
                simp [H59, C.F59_0, hi, hx, hcp, hrec, Trm.walks, hws, hw]
                exact wpl_mono (ih (i + 1) s2 hq2 (by omega) _ (by simp [H59, hc])) (fun x fin h => by simpa [H59] using h)
          refine wpk_loop (wpl_mono (loop a 0 s' rfl (by simp at hm1; omega) _ (by simp [H59, hc, trm_cells])) ?_)
          rintro x fin ⟨h4, h5⟩
          cases hb : (Trm.walks f a s').1 with
          | false => rw [hb] at h5; simp at h5; simp [h4, h5]
          | true => rw [hb] at h5; simp at h5; simp [h4, h5]
        · have := key a (fun _ h => h) s' (by simp at hm1; omega)
          simp at hm1 this ⊢
          omega
      · refine ⟨?_, by simp [h3]; simp at hm1; omega⟩
        refine callW_wp tt.h59.1 tt.h59.2 ?_
        have b3 : (k == 3) = false := by simpa using h3
        simp [C.F59, trm_cells] at h1 ⊢
        simp [hcp, h1, b3, h3]
termination_by t => SizeOf.sizeOf t
decreasing_by
  · have := List.sizeOf_lt_of_mem hxm
    simp
    omega
  · have := List.sizeOf_lt_of_mem hmm
    simp
    omega

include tB
theorem t_ground1 (x : Trm) (stk : List Boxes) : callW gl prog prims (I 60) [.agg x.cells] stk = some (.bool (x.kind != 1), stk) := by
  refine callW_wp tB.h60.1 tB.h60.2 ?_
  obtain ⟨k, n, v, a⟩ := x
  simp [C.F60, trm_cells, Trm.kind]

include tt
theorem t_ground (t : Trm) (ht : t.ok) (stk : List Boxes) : callW gl prog prims (I 17) [.agg t.cells] stk = some (.bool (Trm.pre 1 t).isEmpty, stk) := by
  refine callW_wp tB.h17.1 tB.h17.2 ?_
  have hw := fun b : Boxes => t_walk (gl := gl) tt (fun _ : Unit => b :: stk) (I 60) [] (by intro l; rfl) (by simp) (yes fun x => x.kind != 1) (fun x U _ hx => by have := t_ground1 (gl := gl) tB x (U ++ b :: stk); simpa [yes] using this) t ht [] ()
  simp only [walk_ground, List.nil_append] at hw
  simp [C.F17, hw]

def H125 (l : List Sym) (s : Sym) (stk : List Boxes) (i : Nat) : St :=
  { env := ofList [(0, .slice (l.map fun o => .agg o.cells)), (3, .ptr (.loc 3) 0), (7, .int .i64 l.length), (8, .int .i64 i)], bx := ofListB [(3, some (.cells s.cells))], nb := fun _ => none, stk := stk }

theorem t_index (l : List Sym) (hl : l.length < 1000000000) (s : Sym) (stk : List Boxes) : callW gl prog prims (I 125) [.slice (l.map fun o => .agg o.cells), .agg s.cells] stk = some (.int .i64 (Sym.index l s 0), stk) := by
  have loop : ∀ (q : List Sym) (i : Nat), l.drop i = q → ∀ s0, project [0, 3, 7, 8] [3] s0 = some (H125 l s stk i) →
      wpl gl (callW gl prog prims) [0, 3, 7, 8] [3] (C.F125_0 I J) s0 fun x fin => fin.stk = stk ∧ if Sym.mem q s = true then x = .ret ∧ fin.env 4 = .int .i64 (Sym.index q s i) else x = .exit 0 := by
    intro q
    induction q with
    | nil =>
      intro i hq s0 hp0
      have hl := drop_nil hq
      refine wpl_step hp0 ?_
      have : ¬ i < l.length := by omega
      simp [H125, C.F125_0, this, Sym.mem]
    | cons x q ih =>
      intro i hq s0 hp0
      obtain ⟨hi, hx, hq2, hm⟩ := drop_cons hq
      have hw := wrap64 ((i : Int) + 1) (by omega) (by omega)
      refine wpl_step hp0 ?_
      have hmem : Sym.mem (x :: q) s = (Sym.same x s || Sym.mem q s) := rfl
      rw [hmem]
      by_cases h1 : s.pkg = x.pkg
      · by_cases h2 : s.name = x.name
        · have hs : Sym.same x s = true := by simp [Sym.same, h1, h2]
          simp [H125, C.F125_0, hi, hx, Sym.cells, h1, h2, hs, Sym.index]
        · have hs : Sym.same x s = false := by rw [← Bool.not_eq_true, Sym.same_iff]; rintro rfl; exact h2 rfl
          simp [H125, C.F125_0, hi, hx, Sym.cells, h1, h2, hs, Sym.index, hw]
          exact wpl_mono (ih (i + 1) hq2 _ (by simp [H125, Sym.cells, h1])) (fun x fin h => by simpa using h)
      · have hs : Sym.same x s = false := by rw [← Bool.not_eq_true, Sym.same_iff]; rintro rfl; exact h1 rfl
        simp [H125, C.F125_0, hi, hx, Sym.cells, h1, hs, Sym.index, hw]
        exact wpl_mono (ih (i + 1) hq2 _ (by simp [H125, Sym.cells])) (fun x fin h => by simpa using h)
  refine callW_wp tB.h125.1 tB.h125.2 ?_
  simp [C.F125]
  refine wpk_loop (wpl_mono (loop l 0 rfl _ (by simp [H125])) ?_)
  rintro x fin ⟨h4, h5⟩
  cases hb : Sym.mem l s with
  | false => rw [hb] at h5; simp at h5; simp [h4, h5, Sym.index_none l s 0 hb]
  | true => rw [hb] at h5; simp at h5; simp [h4, h5]

theorem t_contains (l : List Sym) (hl : l.length < 1000000000) (s : Sym) (stk : List Boxes) : callW gl prog prims (I 105) [.slice (l.map fun o => .agg o.cells), .agg s.cells] stk = some (.bool (Sym.mem l s), stk) := by
  refine callW_wp tB.h105.1 tB.h105.2 ?_
  have e := t_index (gl := gl) tt tB l hl s []
  have d := Sym.index_mem l s 0
  simp [C.F105, e, d]

/-- The frame of a collection, and below it. -/
def cbase (fr : Boxes) (rest : List Boxes) (s : List Sym) : List Boxes := upd fr 5 (some (.cells [accA 2 (s.map fun o => .agg o.cells)])) :: rest

theorem t_collect1 (k : Int) (fr : Boxes) (rest : List Boxes) (h3 : fr 3 = some (.cells [.int .i64 k])) (x : Trm) (U : List Boxes) (s : List Sym) (hs : s.length < 1000000) :
    callW gl prog prims (I 87) [.agg x.cells, .ptr (.glb rest.length 3) 0, .ptr (.glb rest.length 5) 0] (U ++ cbase fr rest s) = some (.bool (coll k x s).1, U ++ cbase fr rest (coll k x s).2) := by
  refine callW_wp tB.h87.1 tB.h87.2 ?_
  have g : stkGet (U ++ cbase fr rest s) rest.length = upd fr 5 (some (.cells [accA 2 (s.map fun o => .agg o.cells)])) := stkGet_app _ _ _
  have hcap : s.length + 1 ≤ maxCount := by unfold maxCount; omega
  have hcap1 : 1 ≤ maxCount := by unfold maxCount; omega
  obtain ⟨kd, n, v, a⟩ := x
  have e : callW gl prog prims (I 105) [.slice (s.map fun o => .agg o.cells), .agg [.str n.pkg, .str n.name]] [] = some (.bool (Sym.mem s n), []) := t_contains (gl := gl) tt tB s (by omega) n []
  by_cases hk : kd = k
  · subst hk
    cases hm : Sym.mem s n with
    | true =>
      rw [hm] at e
      simp [C.F87, trm_cells, g, h3, e, coll, Trm.kind, Trm.name, Sym.ins, hm]
    | false =>
      rw [hm] at e
      have gs : ∀ b, stkSet (U ++ cbase fr rest s) rest.length b = U ++ b :: rest := fun b => stkSet_app _ _ _ _
      rcases acc_cases 2 (s.map fun o => .agg o.cells) with ⟨e1, e2⟩ | ⟨e1, e2⟩ <;> simp at e2 <;> rw [e1] at g
      · subst e2
        simp at e
        simp [C.F87, trm_cells, g, h3, e, hcap1, coll, Trm.kind, Trm.name, Sym.ins, hm, gs, stkGet_app, stkSet_app, upd_upd, cbase, Sym.cells]
      · simp [C.F87, trm_cells, g, h3, e, hcap, coll, Trm.kind, Trm.name, Sym.ins, hm, gs, stkGet_app, stkSet_app, upd_upd]
        simp [cbase, Sym.cells]
  · have hb : (kd == k) = false := by simpa using hk
    simp [C.F87, trm_cells, g, h3, hb, hk, coll, Trm.kind]

def H61 (l : List Trm) (k : Int) (s : List Sym) (stk : List Boxes) (i : Nat) : St :=
  { env := ofList [(3, .ptr (.loc 3) 0), (5, .ptr (.loc 5) 0), (8, .slice (l.map fun o => .agg o.cells)), (9, .int .i64 l.length), (10, .int .i64 i)], bx := ofListB [(3, some (.cells [.int .i64 k])), (5, some (.cells [accA 2 (s.map fun o => .agg o.cells)]))], nb := fun _ => none, stk := stk }

theorem t_collect (k : Int) (l : List Trm) (hl : l.length < 1000000) (hok : Trm.oks l) (hn : Trm.nodesl l ≤ 1000000) (stk : List Boxes) : callW gl prog prims (I 61) [.slice (l.map fun o => .agg o.cells), .int .i64 k] stk = some (.slice ((Sym.dedupe (Trm.pres k l)).map fun o => .agg o.cells), stk) := by
  have hw : ∀ (x : Trm), x ∈ l → ∀ (s : List Sym), s.length + x.nodes ≤ 1000000 → ∀ fr : Boxes, fr 3 = some (.cells [.int .i64 k]) → fr 5 = some (.cells [accA 2 (s.map fun o => .agg o.cells)]) →
      callW gl prog prims (I 59) [.agg x.cells, .fn (I 87) [.ptr (.glb stk.length 3) 0, .ptr (.glb stk.length 5) 0]] (fr :: stk) = some (.bool true, upd fr 5 (some (.cells [accA 2 ((Sym.insAll s (Trm.pre k x)).map fun o => .agg o.cells)])) :: stk) := by
    intro x hx s hs fr h3 h5
    have := (t_walk_lt (gl := gl) tt (cbase fr stk) List.length 1000000 (I 87) [.ptr (.glb stk.length 3) 0, .ptr (.glb stk.length 5) 0] (kept_glb2 _ _ _ _) (by simp) (coll k)
      (fun x s => by
        unfold coll
        dsimp only
        split
        · exact Sym.ins_len _ _
        · omega)
      (fun x U s _ hs => t_collect1 (gl := gl) tt tB k fr stk h3 x U s hs) x (Trm.oks_mem hok _ hx) [] s hs).1
    rw [walk_coll] at this
    simpa [cbase, upd_self _ _ _ h5] using this
  refine callW_wp tB.h61.1 tB.h61.2 ?_
  simp [C.F61]
  have loop : ∀ (q : List Trm) (i : Nat) (s : List Sym), l.drop i = q → s.length + Trm.nodesl q ≤ 1000000 → ∀ s0, project [3, 5, 8, 9, 10] [3, 5] s0 = some (H61 l k s stk i) →
      wpl gl (callW gl prog prims) [3, 5, 8, 9, 10] [3, 5] (C.F61_0 I J) s0 fun x fin => x = .exit 0 ∧ fin.stk = stk ∧ fin.env 5 = .ptr (.loc 5) 0 ∧ fin.nb 5 = none ∧ fin.bx 5 = some (.cells [accA 2 ((Sym.insAll s (Trm.pres k q)).map fun o => .agg o.cells)]) := by
    intro q
    induction q with
    | nil =>
      intro i s hq hs s0 hp0
      have hl := drop_nil hq
      refine wpl_step hp0 ?_
      have : ¬ i < l.length := by omega
      simp [H61, C.F61_0, this, Trm.pres, Sym.insAll]
    | cons x q ih =>
      intro i s hq hs s0 hp0
      obtain ⟨hi, hx, hq2, hm⟩ := drop_cons hq
      simp only [Trm.nodesl] at hs
      have hw1 := hw x hm s (by omega)
      have hwi := wrap64 ((i : Int) + 1) (by omega) (by omega)
      have hlen := Sym.insAll_len (Trm.pre k x) s
      have hpl := Trm.pre_len k x
      refine wpl_step hp0 ?_
      simp [H61, C.F61_0, hi, hx, hw1, hwi]
      exact wpl_mono (ih (i + 1) (Sym.insAll s (Trm.pre k x)) hq2 (by omega) _ (by simp [H61])) (fun x fin h => by simpa [Trm.pres, Sym.insAll_app] using h)
  refine wpk_loop (wpl_mono (loop l 0 [] rfl (by simpa using hn) _ (by simp [H61])) ?_)
  rintro x fin ⟨rfl, h1, h2, h3, h4⟩
  simp [h1, h2, h3, h4, Sym.dedupe]

theorem t_variables (l : List Trm) (hl : l.length < 1000000) (hok : Trm.oks l) (hn : Trm.nodesl l ≤ 1000000) (stk : List Boxes) : callW gl prog prims (I 19) [.slice (l.map fun o => .agg o.cells)] stk = some (.slice ((Sym.dedupe (Trm.pres 1 l)).map fun o => .agg o.cells), stk) := by
  refine callW_wp tB.h19.1 tB.h19.2 ?_
  have e := t_collect (gl := gl) tt tB 1 l hl hok hn []
  simp [C.F19, e]

theorem t_functions (l : List Trm) (hl : l.length < 1000000) (hok : Trm.oks l) (hn : Trm.nodesl l ≤ 1000000) (stk : List Boxes) : callW gl prog prims (I 22) [.slice (l.map fun o => .agg o.cells)] stk = some (.slice ((Sym.dedupe (Trm.pres 3 l)).map fun o => .agg o.cells), stk) := by
  refine callW_wp tB.h22.1 tB.h22.2 ?_
  have e := t_collect (gl := gl) tt tB 3 l hl hok hn []
  simp [C.F22, e]
end
end Go.Vs

namespace Go.Vs
open Go
set_option linter.unusedSimpArgs false
set_option linter.unusedVariables false

section
variable {gl : Globs} {prog : Prog} {prims : Prims} {I J : Nat → Nat} (t8 : TabRef8 prog prims I J)

def H63 (l : List Sym) (s : Sym) (stk : List Boxes) (i : Nat) : St :=
  { env := ofList [(0, .slice (l.map fun o => .agg o.cells)), (3, .ptr (.loc 3) 0), (5, .int .i64 i)], bx := ofListB [(3, some (.cells s.cells))], nb := fun _ => none, stk := stk }

include t8
theorem r8_among (l : List Sym) (hl : l.length < 1000000000) (s : Sym) (stk : List Boxes) : callW gl prog prims (I 63) [.slice (l.map fun o => .agg o.cells), .agg s.cells] stk = some (.bool (Sym.mem l s), stk) := by
  have loop : ∀ (q : List Sym) (i : Nat), l.drop i = q → ∀ s0, project [0, 3, 5] [3] s0 = some (H63 l s stk i) →
      wpl gl (callW gl prog prims) [0, 3, 5] [3] (C.F63_0 I J) s0 fun x fin => fin.stk = stk ∧ if Sym.mem q s = true then x = .ret ∧ fin.env 4 = .bool true else x = .exit 0 := by
    intro q
    induction q with
    | nil =>
      intro i hq s0 hp0
      have hl := drop_nil hq
      refine wpl_step hp0 ?_
      have : ¬ i < l.length := by omega
      simp [H63, C.F63_0, this, Sym.mem]
    | cons x q ih =>
      intro i hq s0 hp0
      obtain ⟨hi, hx, hq2, hm⟩ := drop_cons hq
      have hw := wrap64 ((i : Int) + 1) (by omega) (by omega)
      refine wpl_step hp0 ?_
      have hmem : Sym.mem (x :: q) s = (Sym.same x s || Sym.mem q s) := rfl
      rw [hmem]
      by_cases h1 : x.pkg = s.pkg
      · by_cases h2 : x.name = s.name
        · have hs : Sym.same x s = true := by simp [Sym.same, h1, h2]
          simp [H63, C.F63_0, hi, hx, Sym.cells, h1, h2, hs]
        · have hs : Sym.same x s = false := by simp [Sym.same, h1, h2]
          simp [H63, C.F63_0, hi, hx, Sym.cells, h1, h2, hs, hw]
          exact wpl_mono (ih (i + 1) hq2 _ (by simp [H63, Sym.cells])) (fun x fin h => by simpa using h)
      · have hs : Sym.same x s = false := by simp [Sym.same, h1]
        simp [H63, C.F63_0, hi, hx, Sym.cells, h1, hs, hw]
        exact wpl_mono (ih (i + 1) hq2 _ (by simp [H63, Sym.cells])) (fun x fin h => by simpa using h)
  refine callW_wp t8.h63.1 t8.h63.2 ?_
  simp [C.F63]
  refine wpk_loop (wpl_mono (loop l 0 rfl _ (by simp [H63])) ?_)
  rintro x fin ⟨h4, h5⟩
  cases hb : Sym.mem l s with
  | false => rw [hb] at h5; simp at h5; simp [h4, h5]
  | true => rw [hb] at h5; simp at h5; simp [h4, h5]

def H20i (l : List Trm) (out found : List Sym) (i : Nat) (stk : List Boxes) (j : Nat) : St :=
  { env := ofList [(0, .slice (l.map fun o => .agg o.cells)), (3, accA 2 (out.map fun o => .agg o.cells)), (4, .int .i64 i), (5, .slice (found.map fun o => .agg o.cells)), (6, .int .i64 j)], bx := ofListB [], nb := fun _ => none, stk := stk }

theorem r8_inner20 (l : List Trm) (found : List Sym) (i : Nat) (stk : List Boxes) (hf : found.length < 1000000) : ∀ (q : List Sym) (j : Nat) (out : List Sym), found.drop j = q → out.length + q.length < 2000000 → ∀ s0, project [0, 3, 4, 5, 6] [] s0 = some (H20i l out found i stk j) →
    wpl gl (callW gl prog prims) [0, 3, 4, 5, 6] [] (C.F20_0 I J) s0 fun x fin => x = .exit 2 ∧ ∃ j, PJ [0, 3, 4, 5, 6] [] fin (H20i l (Sym.insAll out q) found i stk j) := by
  intro q
  induction q with
  | nil =>
    intro j out hq ho s0 hp0
    have hl := drop_nil hq
    refine wpl_step hp0 ?_
    have : ¬ j < found.length := by omega
    simp [H20i, C.F20_0, this, Sym.insAll, PJ]
    exact ⟨j, rfl⟩
  | cons x q ih =>
    intro j out hq ho s0 hp0
    obtain ⟨hi, hx, hq2, hm⟩ := drop_cons hq
    simp only [List.length_cons] at ho
    have hw := wrap64 ((j : Int) + 1) (by omega) (by omega)
    have ha := r8_among (gl := gl) t8 out (by omega) x []
    have hcap : out.length + 1 ≤ maxCount := by unfold maxCount; omega
    have hcap1 : 1 ≤ maxCount := by unfold maxCount; omega
    have hil := Sym.ins_len out x
    refine wpl_step hp0 ?_
    have hs : Sym.insAll out (x :: q) = Sym.insAll (Sym.ins out x) q := rfl
    rw [hs]
    cases hb : Sym.mem out x with
    | true =>
      rw [hb] at ha
      have hins : Sym.ins out x = out := by unfold Sym.ins; rw [if_pos hb]
      rw [hins] at hil ⊢
      simp [H20i, C.F20_0, hi, hx, ha, hw]
      exact wpl_mono (ih (j + 1) out hq2 (by omega) _ (by simp [H20i])) (fun x fin h => by simpa [H20i] using h)
    | false =>
      rw [hb] at ha
      have hins : Sym.ins out x = out ++ [x] := by unfold Sym.ins; rw [hb]; rfl
      rw [hins] at hil ⊢
      rcases acc_cases 2 (out.map fun o => .agg o.cells) with ⟨e, e2⟩ | ⟨e, e2⟩ <;> simp at e2
      · subst e2
        simp at ha
        simp [H20i, C.F20_0, hi, hx, ha, hw, hcap1]
        exact wpl_mono (ih (j + 1) ([] ++ [x]) hq2 (by simp; omega) _ (by simp [H20i])) (fun x fin h => by simpa [H20i] using h)
      · simp [H20i, C.F20_0, hi, hx, ha, hw, e, hcap]
        exact wpl_mono (ih (j + 1) (out ++ [x]) hq2 (by simp; omega) _ (by simp [H20i])) (fun x fin h => by simpa [H20i] using h)

def H20 (l : List Trm) (out : List Sym) (stk : List Boxes) (i : Nat) : St :=
  { env := ofList [(0, .slice (l.map fun o => .agg o.cells)), (3, accA 2 (out.map fun o => .agg o.cells)), (4, .int .i64 i)], bx := ofListB [], nb := fun _ => none, stk := stk }

theorem r8_variables : ∀ (l : List Trm), l.length < 1000000 → Trm.oks l → Trm.nodesl l ≤ 900000 → ∀ (stk : List Boxes), callW gl prog prims (I 20) [.slice (l.map fun o => .agg o.cells)] stk = some (.slice ((Sym.dedupe (Trm.pres 1 l)).map fun o => .agg o.cells), stk)
  | l, hl, hok, hn, stk => by
    have loop : ∀ (q : List Trm) (i : Nat) (out : List Sym), l.drop i = q → out.length + Trm.nodesl q ≤ 900000 → ∀ s0, project [0, 3, 4] [] s0 = some (H20 l out stk i) →
        wpl gl (callW gl prog prims) [0, 3, 4] [] (C.F20_1 I J) s0 fun x fin => x = .exit 0 ∧ fin.stk = stk ∧ fin.env 3 = accA 2 ((Sym.insAll out (Trm.pres 1 q)).map fun o => .agg o.cells) := by
      intro q
      induction q with
      | nil =>
        intro i out hq ho s0 hp0
        have hl := drop_nil hq
        refine wpl_step hp0 ?_
        have : ¬ i < l.length := by omega
        simp [H20, C.F20_1, this, Trm.pres, Sym.insAll]
      | cons x q ih =>
        intro i out hq ho s0 hp0
        obtain ⟨hi, hx, hq2, hm⟩ := drop_cons hq
        simp only [Trm.nodesl] at ho
        have hw := wrap64 ((i : Int) + 1) (by omega) (by omega)
        have hpl := Trm.pre_len 1 x
        have hins := Sym.insAll_len (Trm.pre 1 x) out
        have hnx := Trm.nodesl_mem hm
        have hokx := Trm.oks_mem hok x hm
        -- what is found in x
        have key : ∀ (found : List Sym), found.length ≤ x.nodes → Sym.insAll out found = Sym.insAll out (Trm.pre 1 x) → ∀ s1, project [0, 3, 4, 5, 6] [] s1 = some (H20i l out found i stk 0) → wpl gl (callW gl prog prims) [0, 3, 4, 5, 6] [] (C.F20_0 I J) s1 fun x1 fin => x1 = .exit 2 ∧ ∃ j, PJ [0, 3, 4, 5, 6] [] fin (H20i l (Sym.insAll out (Trm.pre 1 x)) found i stk j) := by
          intro found hfl hfe s1 hp1
          have := r8_inner20 (gl := gl) t8 l found i stk (by omega) found 0 out rfl (by omega) s1 hp1
          rw [hfe] at this
          exact this
        have nxt : ∀ (found : List Sym) (fin : St) (j : Nat), PJ [0, 3, 4, 5, 6] [] fin (H20i l (Sym.insAll out (Trm.pre 1 x)) found i stk j) → fin.env 0 = .slice (l.map fun o => .agg o.cells) ∧ fin.env 3 = accA 2 ((Sym.insAll out (Trm.pre 1 x)).map fun o => .agg o.cells) ∧ fin.env 4 = .int .i64 i ∧ fin.stk = stk := by
          intro found fin j h
          have e0 := project_env h 0 (by simp)
          have e3 := project_env h 3 (by simp)
          have e4 := project_env h 4 (by simp)
          have es := project_stk h
          simp [H20i] at e0 e3 e4 es
          exact ⟨e0, e3, e4, es⟩
        refine wpl_step hp0 ?_
        obtain ⟨k, n, v, a⟩ := x
        by_cases hk : k = 1
        · subst hk
          have hpre : Trm.pre 1 (.mk 1 n v a) = [n] := by simp [Trm.pre]
          simp [H20, C.F20_1, hi, hx, trm_cells]
          refine wpk_loop (wpl_mono (key [n] (by simp [Trm.nodes]) (by rw [hpre]) _ (by simp [H20i, trm_cells, Sym.cells])) ?_)
          rintro x1 fin ⟨rfl, j, h1⟩
          obtain ⟨e0, e3, e4, es⟩ := nxt _ _ _ h1
          simp [e0, e3, e4, es, hw]
          exact wpl_mono (ih (i + 1) (Sym.insAll out (Trm.pre 1 (.mk 1 n v a))) hq2 (by omega) _ (by simp [H20, e0, e3, es])) (fun x fin h => by simpa [Trm.pres, Sym.insAll_app] using h)
        · have hb : (k == 1) = false := by simpa using hk
          have hargs := r8_args (gl := gl) t8 (.mk k n v a) []
          have hal : ∀ y ∈ (Trm.mk k n v a).argl, y ∈ a := by
            intro y hy
            simp only [Trm.argl] at hy
            split at hy
            · exact hy
            · simp at hy
          have hsz : SizeOf.sizeOf (Trm.mk k n v a).argl < SizeOf.sizeOf l := by
            have := List.sizeOf_lt_of_mem hm
            simp only [Trm.argl]
            split
            · simp at this ⊢; omega
            · simp at this ⊢; omega
          have hpre : Trm.pre 1 (.mk k n v a) = Trm.pres 1 (Trm.mk k n v a).argl := by
            simp only [Trm.pre, Trm.argl, hk, if_false, List.nil_append]
            split <;> rfl
          have hnd : Trm.nodesl (Trm.mk k n v a).argl ≤ Trm.nodesl a := by
            simp only [Trm.argl]
            split
            · exact Nat.le_refl _
            · simp [Trm.nodesl]
          have hnx2 : Trm.nodes (.mk k n v a) = 1 + Trm.nodesl a := rfl
          have hall : (Trm.mk k n v a).argl.length < 1000000 := by
            simp only [Trm.argl]
            split
            · exact hokx.2.1
            · simp
          have hoks : Trm.oks (Trm.mk k n v a).argl := by
            simp only [Trm.argl]
            split
            · exact hokx.2.2
            · trivial
          have hrec := r8_variables (Trm.mk k n v a).argl hall hoks (by omega) []
          have hdl := Sym.insAll_len (Trm.pres 1 (Trm.mk k n v a).argl) []
          have hpl2 := Trm.pres_len 1 (Trm.mk k n v a).argl
          simp only [List.length_nil] at hdl
          have hfe : Sym.insAll out (Sym.dedupe (Trm.pres 1 (Trm.mk k n v a).argl)) = Sym.insAll out (Trm.pre 1 (.mk k n v a)) := by rw [hpre, Sym.insAll_dedupe]
          have hfl : (Sym.dedupe (Trm.pres 1 (Trm.mk k n v a).argl)).length ≤ Trm.nodes (.mk k n v a) := by unfold Sym.dedupe; omega
          generalize Sym.dedupe (Trm.pres 1 (Trm.mk k n v a).argl) = found at hrec hfe hfl
          generalize (Trm.mk k n v a).argl = al at hargs hrec
          simp [trm_cells] at hargs
          simp [H20, C.F20_1, hi, hx, trm_cells, hb, hargs, hrec]
          refine wpk_loop (wpl_mono (key found hfl hfe _ (by simp [H20i, trm_cells])) ?_)
          rintro x1 fin ⟨rfl, j, h1⟩
          obtain ⟨e0, e3, e4, es⟩ := nxt _ _ _ h1
          simp [e0, e3, e4, es, hw]
          exact wpl_mono (ih (i + 1) (Sym.insAll out (Trm.pre 1 (.mk k n v a))) hq2 (by omega) _ (by simp [H20, e0, e3, es])) (fun x fin h => by simpa [Trm.pres, Sym.insAll_app] using h)
    refine callW_wp t8.h20.1 t8.h20.2 ?_
    simp [C.F20]
    refine wpk_loop (wpl_mono (loop l 0 [] rfl (by simpa using hn) _ (by simp [H20])) ?_)
    rintro x fin ⟨rfl, h1, h2⟩
    simp [h1, h2, Sym.dedupe]
termination_by l => SizeOf.sizeOf l
def H23i (l : List Trm) (out found : List Sym) (i : Nat) (stk : List Boxes) (j : Nat) : St :=
  { env := ofList [(0, .slice (l.map fun o => .agg o.cells)), (3, accA 2 (out.map fun o => .agg o.cells)), (4, .int .i64 i), (5, .slice (found.map fun o => .agg o.cells)), (6, .int .i64 j)], bx := ofListB [], nb := fun _ => none, stk := stk }

theorem r8_inner23 (l : List Trm) (found : List Sym) (i : Nat) (stk : List Boxes) (hf : found.length < 1000000) : ∀ (q : List Sym) (j : Nat) (out : List Sym), found.drop j = q → out.length + q.length < 2000000 → ∀ s0, project [0, 3, 4, 5, 6] [] s0 = some (H23i l out found i stk j) →
    wpl gl (callW gl prog prims) [0, 3, 4, 5, 6] [] (C.F23_0 I J) s0 fun x fin => x = .exit 2 ∧ ∃ j, PJ [0, 3, 4, 5, 6] [] fin (H23i l (Sym.insAll out q) found i stk j) := by
  intro q
  induction q with
  | nil =>
    intro j out hq ho s0 hp0
    have hl := drop_nil hq
    refine wpl_step hp0 ?_
    have : ¬ j < found.length := by omega
    simp [H23i, C.F23_0, this, Sym.insAll, PJ]
    exact ⟨j, rfl⟩
  | cons x q ih =>
    intro j out hq ho s0 hp0
    obtain ⟨hi, hx, hq2, hm⟩ := drop_cons hq
    simp only [List.length_cons] at ho
    have hw := wrap64 ((j : Int) + 1) (by omega) (by omega)
    have ha := r8_among (gl := gl) t8 out (by omega) x []
    have hcap : out.length + 1 ≤ maxCount := by unfold maxCount; omega
    have hcap1 : 1 ≤ maxCount := by unfold maxCount; omega
    have hil := Sym.ins_len out x
    refine wpl_step hp0 ?_
    have hs : Sym.insAll out (x :: q) = Sym.insAll (Sym.ins out x) q := rfl
    rw [hs]
    cases hb : Sym.mem out x with
    | true =>
      rw [hb] at ha
      have hins : Sym.ins out x = out := by unfold Sym.ins; rw [if_pos hb]
      rw [hins] at hil ⊢
      simp [H23i, C.F23_0, hi, hx, ha, hw]
      exact wpl_mono (ih (j + 1) out hq2 (by omega) _ (by simp [H23i])) (fun x fin h => by simpa [H23i] using h)
    | false =>
      rw [hb] at ha
      have hins : Sym.ins out x = out ++ [x] := by unfold Sym.ins; rw [hb]; rfl
      rw [hins] at hil ⊢
      rcases acc_cases 2 (out.map fun o => .agg o.cells) with ⟨e, e2⟩ | ⟨e, e2⟩ <;> simp at e2
      · subst e2
        simp at ha
        simp [H23i, C.F23_0, hi, hx, ha, hw, hcap1]
        exact wpl_mono (ih (j + 1) ([] ++ [x]) hq2 (by simp; omega) _ (by simp [H23i])) (fun x fin h => by simpa [H23i] using h)
      · simp [H23i, C.F23_0, hi, hx, ha, hw, e, hcap]
        exact wpl_mono (ih (j + 1) (out ++ [x]) hq2 (by simp; omega) _ (by simp [H23i])) (fun x fin h => by simpa [H23i] using h)

def H23 (l : List Trm) (out : List Sym) (stk : List Boxes) (i : Nat) : St :=
  { env := ofList [(0, .slice (l.map fun o => .agg o.cells)), (3, accA 2 (out.map fun o => .agg o.cells)), (4, .int .i64 i)], bx := ofListB [], nb := fun _ => none, stk := stk }

theorem r8_functions : ∀ (l : List Trm), l.length < 1000000 → Trm.oks l → Trm.nodesl l ≤ 900000 → ∀ (stk : List Boxes), callW gl prog prims (I 23) [.slice (l.map fun o => .agg o.cells)] stk = some (.slice ((Sym.dedupe (Trm.pres 3 l)).map fun o => .agg o.cells), stk)
  | l, hl, hok, hn, stk => by
    have loop : ∀ (q : List Trm) (i : Nat) (out : List Sym), l.drop i = q → out.length + Trm.nodesl q ≤ 900000 → ∀ s0, project [0, 3, 4] [] s0 = some (H23 l out stk i) →
        wpl gl (callW gl prog prims) [0, 3, 4] [] (C.F23_1 I J) s0 fun x fin => x = .exit 0 ∧ fin.stk = stk ∧ fin.env 3 = accA 2 ((Sym.insAll out (Trm.pres 3 q)).map fun o => .agg o.cells) := by
      intro q
      induction q with
      | nil =>
        intro i out hq ho s0 hp0
        have hl := drop_nil hq
        refine wpl_step hp0 ?_
        have : ¬ i < l.length := by omega
        simp [H23, C.F23_1, this, Trm.pres, Sym.insAll]
      | cons x q ih =>
        intro i out hq ho s0 hp0
        obtain ⟨hi, hx, hq2, hm⟩ := drop_cons hq
        simp only [Trm.nodesl] at ho
        have hw := wrap64 ((i : Int) + 1) (by omega) (by omega)
        have hpl := Trm.pre_len 3 x
        have hins := Sym.insAll_len (Trm.pre 3 x) out
        have hnx := Trm.nodesl_mem hm
        have hokx := Trm.oks_mem hok x hm
        -- what is found in x
        have key : ∀ (found : List Sym), found.length ≤ x.nodes → Sym.insAll out found = Sym.insAll out (Trm.pre 3 x) → ∀ s1, project [0, 3, 4, 5, 6] [] s1 = some (H23i l out found i stk 0) → wpl gl (callW gl prog prims) [0, 3, 4, 5, 6] [] (C.F23_0 I J) s1 fun x1 fin => x1 = .exit 2 ∧ ∃ j, PJ [0, 3, 4, 5, 6] [] fin (H23i l (Sym.insAll out (Trm.pre 3 x)) found i stk j) := by
          intro found hfl hfe s1 hp1
          have := r8_inner23 (gl := gl) t8 l found i stk (by omega) found 0 out rfl (by omega) s1 hp1
          rw [hfe] at this
          exact this
        have nxt : ∀ (found : List Sym) (fin : St) (j : Nat), PJ [0, 3, 4, 5, 6] [] fin (H23i l (Sym.insAll out (Trm.pre 3 x)) found i stk j) → fin.env 0 = .slice (l.map fun o => .agg o.cells) ∧ fin.env 3 = accA 2 ((Sym.insAll out (Trm.pre 3 x)).map fun o => .agg o.cells) ∧ fin.env 4 = .int .i64 i ∧ fin.stk = stk := by
          intro found fin j h
          have e0 := project_env h 0 (by simp)
          have e3 := project_env h 3 (by simp)
          have e4 := project_env h 4 (by simp)
          have es := project_stk h
          simp [H23i] at e0 e3 e4 es
          exact ⟨e0, e3, e4, es⟩
        refine wpl_step hp0 ?_
        obtain ⟨k, n, v, a⟩ := x
        by_cases hk : k = 3
        · subst hk
          have hnx2 : Trm.nodes (.mk 3 n v a) = 1 + Trm.nodesl a := rfl
          have hpre : Trm.pre 3 (.mk 3 n v a) = n :: Trm.pres 3 a := by simp [Trm.pre]
          have hsz : SizeOf.sizeOf a < SizeOf.sizeOf l := by
            have := List.sizeOf_lt_of_mem hm
            simp at this; omega
          have hrec := r8_functions a hokx.2.1 hokx.2.2 (by omega) []
          have hdl := Sym.insAll_len (Trm.pres 3 a) []
          have hpl2 := Trm.pres_len 3 a
          simp only [List.length_nil] at hdl
          have hfe : Sym.insAll out (n :: Sym.dedupe (Trm.pres 3 a)) = Sym.insAll out (Trm.pre 3 (.mk 3 n v a)) := by
            rw [hpre]
            show Sym.insAll (Sym.ins out n) _ = Sym.insAll (Sym.ins out n) _
            exact Sym.insAll_dedupe _ _
          have hfl : (n :: Sym.dedupe (Trm.pres 3 a)).length ≤ Trm.nodes (.mk 3 n v a) := by simp [Sym.dedupe]; omega
          have hfl2 : (Sym.dedupe (Trm.pres 3 a)).length < 1000000 := by simp at hfl; omega
          generalize Sym.dedupe (Trm.pres 3 a) = found at hrec hfe hfl hfl2
          have hcap : 1 + found.length ≤ maxCount := by unfold maxCount; omega
          simp [H23, C.F23_1, hi, hx, trm_cells, hrec, hcap]
          refine wpk_loop (wpl_mono (key (n :: found) hfl hfe _ (by simp [H23i, trm_cells, Sym.cells])) ?_)
          rintro x1 fin ⟨rfl, j, h1⟩
          obtain ⟨e0, e3, e4, es⟩ := nxt _ _ _ h1
          simp [e0, e3, e4, es, hw]
          exact wpl_mono (ih (i + 1) (Sym.insAll out (Trm.pre 3 (.mk 3 n v a))) hq2 (by omega) _ (by simp [H23, e0, e3, es])) (fun x fin h => by simpa [Trm.pres, Sym.insAll_app] using h)
        · have hb : (k != 3) = true := by simpa using hk
          have hpre : Trm.pre 3 (.mk k n v a) = [] := by simp [Trm.pre, hk]
          simp [H23, C.F23_1, hi, hx, trm_cells, hb, hw]
          exact wpl_mono (ih (i + 1) out hq2 (by omega) _ (by simp [H23, trm_cells])) (fun x fin h => by simpa [Trm.pres, hpre] using h)
    refine callW_wp t8.h23.1 t8.h23.2 ?_
    simp [C.F23]
    refine wpk_loop (wpl_mono (loop l 0 [] rfl (by simpa using hn) _ (by simp [H23])) ?_)
    rintro x fin ⟨rfl, h1, h2⟩
    simp [h1, h2, Sym.dedupe]
termination_by l => SizeOf.sizeOf l
end
end Go.Vs

namespace Go.Vs
open Go
set_option linter.unusedSimpArgs false
set_option linter.unusedVariables false

mutual
def Raw.nodes : Raw → Nat
  | .mk _ _ _ l => 1 + Raw.nodesl l
def Raw.nodesl : List Raw → Nat
  | [] => 0
  | r :: l => Raw.nodes r + Raw.nodesl l
end

mutual
theorem Raw.nodes_left : ∀ (r : Raw) (m : Int), 0 ≤ r.left m → (r.nodes : Int) ≤ m - r.left m
  | .mk k n s l, m, h => by
    simp only [Raw.left] at h ⊢
    split
    · rename_i hc; rw [if_pos hc] at h; omega
    · rename_i hc
      rw [if_neg hc] at h
      have := Raw.nodesl_left l (m - 1) h
      simp only [Raw.nodes]; omega
theorem Raw.nodesl_left : ∀ (l : List Raw) (m : Int), 0 ≤ Raw.lefts l m → (Raw.nodesl l : Int) ≤ m - Raw.lefts l m
  | [], m, h => by simp [Raw.nodesl, Raw.lefts]
  | r :: l, m, h => by
    simp only [Raw.lefts] at h ⊢
    split
    · rename_i hm
      rw [if_pos hm] at h
      have h2 := Raw.nodesl_left l _ h
      have h3 : 0 ≤ r.left m := by
        rcases Int.lt_or_le (r.left m) 0 with hn | hn
        · exfalso
          have : Raw.lefts l (r.left m) = r.left m := by
            cases l with
            | nil => rfl
            | cons a l => simp only [Raw.lefts]; rw [if_neg (by omega)]
          omega
        · exact hn
      have h4 := Raw.nodes_left r m h3
      simp only [Raw.nodesl]; omega
    · rename_i hm
      rw [if_neg hm] at h
      omega
end

theorem Trm.nodesl_take : ∀ (n : Nat) (l : List Trm), Trm.nodesl (l.take n) ≤ Trm.nodesl l
  | 0, l => by simp [Trm.nodesl]
  | n + 1, [] => by simp
  | n + 1, a :: l => by
    have := Trm.nodesl_take n l
    simp only [List.take_succ_cons, Trm.nodesl]; omega

mutual
theorem Raw.term_nodes : ∀ r : Raw, r.term.nodes ≤ r.nodes
  | .mk k n s l => by
    have h := Raw.terms_nodes l
    have h2 := Trm.nodesl_take 3 (Raw.terms l)
    unfold Raw.term
    split
    · simp [Trm.var, Trm.nodes, Trm.nodesl, Raw.nodes]
    · split
      · simp [Trm.const, Trm.nodes, Trm.nodesl, Raw.nodes]
      · simp only [Trm.app, Trm.nodes, Raw.nodes]; omega
theorem Raw.terms_nodes : ∀ l : List Raw, Trm.nodesl (Raw.terms l) ≤ Raw.nodesl l
  | [] => by simp [Raw.terms, Trm.nodesl]
  | r :: l => by
    have h1 := Raw.term_nodes r
    have h2 := Raw.terms_nodes l
    simp only [Raw.terms, Trm.nodesl, Raw.nodesl]; omega
end

theorem Raw.few_nodes {r : Raw} {m : Int} (hm : 0 ≤ m) (h : r.few m = true) : (r.nodes : Int) ≤ m := by
  simp [Raw.few] at h
  have := Raw.nodes_left r m h
  omega

theorem Raw.fewAll_nodes {l : List Raw} {m : Int} (hm : 0 ≤ m) (h : Raw.fewAll l m = true) : (Raw.nodesl l : Int) ≤ l.length * m := by
  simp only [Raw.fewAll, Bool.and_eq_true, decide_eq_true_eq, List.all_eq_true] at h
  have : ∀ q : List Raw, (∀ r ∈ q, Raw.few r m = true) → (Raw.nodesl q : Int) ≤ q.length * m := by
    intro q
    induction q with
    | nil => intro _; simp [Raw.nodesl]
    | cons a q ih =>
      intro hq
      have h1 := ih fun r hr => hq r (by simp [hr])
      have h2 := Raw.few_nodes hm (hq a (by simp))
      simp only [Raw.nodesl, List.length_cons]
      push_cast
      rw [Int.add_mul]
      omega
  exact this l h.2

section
variable {gl : Globs} {prog : Prog} {prims : Prims} {I J : Nat → Nat} (tm : TabMake prog prims I J) (t2 : TabRef2 prog prims I J) (t1 : TabRef1 prog prims I J) (tp : prims (I 88) = some itoaP) (t8 : TabRef8 prog prims I J) (tl : TabL8 prog prims I J) (tt : TabTerm prog prims I J) (tB : TabTermB prog prims I J) (tb : TabLaws8b prog prims I J) (hfirst : callW gl prog prims (I 8) [] [] = some (.bool true, []))

include t8
theorem r8_ground (t : Trm) (hok : t.ok) (hn : t.nodes ≤ 900000) (stk : List Boxes) : callW gl prog prims (I 18) [.agg t.cells] stk = some (.bool (Trm.pre 1 t).isEmpty, stk) := by
  refine callW_wp t8.h18.1 t8.h18.2 ?_
  have e := r8_variables (gl := gl) t8 [t] (by simp) ⟨hok, trivial⟩ (by simp only [Trm.nodesl]; omega) []
  have he : (Sym.dedupe (Trm.pres 1 [t])).length = 0 ↔ Trm.pre 1 t = [] := by
    constructor
    · intro h
      have h0 : Sym.dedupe (Trm.pres 1 [t]) = [] := List.eq_nil_of_length_eq_zero h
      cases hp : Trm.pre 1 t with
      | nil => rfl
      | cons a r =>
        have : a ∈ Sym.insAll [] (Trm.pres 1 [t]) := (Sym.mem_insAll _ _ _).2 (.inr (by simp [Trm.pres, hp]))
        unfold Sym.dedupe at h0
        rw [h0] at this
        simp at this
    · intro h
      simp [Trm.pres, h, Sym.dedupe, Sym.insAll]
  simp at e
  cases hp : Trm.pre 1 t with
  | nil =>
    have h0 : Sym.dedupe (Trm.pres 1 [t]) = [] := List.eq_nil_of_length_eq_zero (he.2 hp)
    rw [h0] at e
    simp at e
    simp [C.F18, e]
  | cons a r =>
    have hne : ¬ (Sym.dedupe (Trm.pres 1 [t])).length = 0 := fun h => by rw [he.1 h] at hp; cases hp
    have hb : (((Sym.dedupe (Trm.pres 1 [t])).length : Int) == 0) = false := by rw [beq_eq_false_iff_ne]; omega
    simp [C.F18, e, hb]

def H21 (l : List Sym) (stk : List Boxes) (i : Nat) : St :=
  { env := ofList [(0, .slice (l.map fun o => .agg o.cells)), (1, .slice (l.map fun o => .agg o.cells)), (5, .int .i64 i)], bx := ofListB [], nb := fun _ => none, stk := stk }

include tb
omit t8 in
theorem same_self (l : List Sym) (hl : l.length < 1000000000) (stk : List Boxes) : callW gl prog prims (I 21) [.slice (l.map fun o => .agg o.cells), .slice (l.map fun o => .agg o.cells)] stk = some (.bool true, stk) := by
  have loop : ∀ (q : List Sym) (i : Nat), l.drop i = q → ∀ s0, project [0, 1, 5] [] s0 = some (H21 l stk i) →
      wpl gl (callW gl prog prims) [0, 1, 5] [] (C.F21_0 I J) s0 fun x fin => x = .exit 0 ∧ fin.stk = stk := by
    intro q
    induction q with
    | nil =>
      intro i hq s0 hp0
      have hl := drop_nil hq
      refine wpl_step hp0 ?_
      have : ¬ i < l.length := by omega
      simp [H21, C.F21_0, this]
    | cons x q ih =>
      intro i hq s0 hp0
      obtain ⟨hi, hx, hq2, hm⟩ := drop_cons hq
      have hw := wrap64 ((i : Int) + 1) (by omega) (by omega)
      refine wpl_step hp0 ?_
      simp [H21, C.F21_0, hi, hx, Sym.cells, hw]
      exact wpl_mono (ih (i + 1) hq2 _ (by simp [H21, Sym.cells])) (fun x fin h => by simpa using h)
  refine callW_wp tb.h21.1 tb.h21.2 ?_
  simp [C.F21]
  refine wpk_loop (wpl_mono (loop l 0 rfl _ (by simp [H21])) ?_)
  rintro x fin ⟨rfl, h4⟩
  simp [h4]

def H2 (l : List Raw) (acc : List Trm) (stk : List Boxes) (i : Nat) : St :=
  { env := ofList [(0, .slice (l.map fun o => .agg o.cells)), (3, accA 11 (acc.map fun o => .agg o.cells)), (4, .int .i64 i)], bx := ofListB [], nb := fun _ => none, stk := stk }
def H2b (t : List Trm) (stk : List Boxes) (i : Nat) : St :=
  { env := ofList [(3, accA 11 (t.map fun o => .agg o.cells)), (5, .int .i64 i)], bx := ofListB [], nb := fun _ => none, stk := stk }

theorem lenL_acc (d : Option Nat) (env : Env) (bx nb : Boxes) (stk : List Boxes) (C : Callee) (l : List AV) (n : Nat) (sz : Nat) (h : env n = accA sz l) : eff gl C d env bx nb stk (.lenL (.slot n)) = some { wr := wrD d (.int .i64 l.length) } := by
  simp only [eff, pk, h]
  cases l <;> rfl

include tm t2 t1 tp t8 tl tt tB hfirst
theorem law_lists (l : List Raw) (stk : List Boxes) : callW gl prog prims (I 2) [.slice (l.map fun o => .agg o.cells)] stk = some (.bool true, stk) := by
  refine callW_wp tb.h2.1 tb.h2.2 ?_
  have e1 := fewAll_spec (gl := gl) tm l 25 (by omega) (by omega) []
  cases h1 : Raw.fewAll l 25 with
  | false => rw [h1] at e1; simp [C.F2, hfirst, e1]
  | true =>
    rw [h1] at e1
    obtain ⟨hs, hl⟩ := Raw.fewAll_small h1
    have hnod := Raw.fewAll_nodes (by omega) h1
    have hnt := Raw.terms_nodes l
    have hok := (Raw.terms_ok l hs).1
    have htl : (Raw.terms l).length = l.length := by rw [Raw.terms_eq]; simp
    simp [C.F2, hfirst, e1]
    have loop : ∀ (q : List Raw) (i : Nat) (acc : List Trm), l.drop i = q → acc.length = i → ∀ s0, project [0, 3, 4] [] s0 = some (H2 l acc stk i) →
        wpl gl (callW gl prog prims) [0, 3, 4] [] (C.F2_0 I J) s0 fun x fin => x = .exit 0 ∧ fin.stk = stk ∧ fin.env 3 = accA 11 ((acc ++ Raw.terms q).map fun o => .agg o.cells) := by
      intro q
      induction q with
      | nil =>
        intro i acc hq hal s0 hp0
        have hl := drop_nil hq
        refine wpl_step hp0 ?_
        have : ¬ i < l.length := by omega
        simp [H2, C.F2_0, this, Raw.terms]
      | cons x q ih =>
        intro i acc hq hal s0 hp0
        obtain ⟨hi, hx, hq2, hm⟩ := drop_cons hq
        have hrec := made_spec (gl := gl) tm t2 t1 tp t8 tl x (Raw.smalls_mem hs _ hm) []
        have hw := wrap64 ((i : Int) + 1) (by omega) (by omega)
        have hcap : acc.length + 1 ≤ maxCount := by unfold maxCount; omega
        have hcap1 : 1 ≤ maxCount := by unfold maxCount; omega
        refine wpl_step hp0 ?_
        rcases acc_cases 11 (acc.map fun o => .agg o.cells) with ⟨e, e2⟩ | ⟨e, e2⟩ <;> simp at e2 <;> simp [H2, C.F2_0, hi, hx, hrec, e, hcap, hcap1, hw] <;>
          exact wpl_mono (ih (i + 1) (acc ++ [x.term]) hq2 (by simp [hal]) _ (by simp [H2, e2])) (fun x fin h => by simpa [Raw.terms] using h)
    refine wpk_loop (wpl_mono (loop l 0 [] rfl rfl _ (by simp [H2])) ?_)
    rintro x fin ⟨rfl, es, g3⟩
    simp only [List.nil_append] at g3
    generalize Raw.terms l = t at g3 hnt hok htl
    have loop2 : ∀ (q : List Trm) (i : Nat), t.drop i = q → ∀ s0, project [3, 5] [] s0 = some (H2b t stk i) →
        wpl gl (callW gl prog prims) [3, 5] [] (C.F2_1 I J) s0 fun x fin => x = .exit 2 ∧ fin.stk = stk ∧ fin.env 3 = accA 11 (t.map fun o => .agg o.cells) := by
      intro q
      induction q with
      | nil =>
        intro i hq s0 hp0
        have hl := drop_nil hq
        refine wpl_step hp0 ?_
        have : ¬ i < t.length := by omega
        simp [H2b, C.F2_1, this]
      | cons x q ih =>
        intro i hq s0 hp0
        obtain ⟨hi, hx, hq2, hm⟩ := drop_cons hq
        have hnx := Trm.nodesl_mem hm
        have a1 := t_ground (gl := gl) tt tB x (Trm.oks_mem hok _ hm) []
        have a2 := r8_ground (gl := gl) t8 x (Trm.oks_mem hok _ hm) (by omega) []
        have hw := wrap64 ((i : Int) + 1) (by omega) (by omega)
        refine wpl_step hp0 ?_
        simp [H2b, C.F2_1, hi, hx, a1, a2, hw]
        exact wpl_mono (ih (i + 1) hq2 _ (by simp [H2b])) (fun x fin h => by simpa using h)
    simp [es]
    refine wpk_loop (wpl_mono (loop2 t 0 rfl _ (by simp [H2b, g3, es])) ?_)
    rintro x fin2 ⟨rfl, es2, k3⟩
    have v1 := t_variables (gl := gl) tt tB t (by omega) hok (by omega) []
    have v2 := r8_variables (gl := gl) t8 t (by omega) hok (by omega) []
    have f1 := t_functions (gl := gl) tt tB t (by omega) hok (by omega) []
    have f2 := r8_functions (gl := gl) t8 t (by omega) hok (by omega) []
    have d1 := Sym.insAll_len (Trm.pres 1 t) []
    have d3 := Sym.insAll_len (Trm.pres 3 t) []
    have p1 := Trm.pres_len 1 t
    have p3 := Trm.pres_len 3 t
    simp only [List.length_nil] at d1 d3
    have s1 := same_self (gl := gl) tb (Sym.dedupe (Trm.pres 1 t)) (by unfold Sym.dedupe; omega) []
    have s3 := same_self (gl := gl) tb (Sym.dedupe (Trm.pres 3 t)) (by unfold Sym.dedupe; omega) []
    simp [k3, es2, v1, v2, f1, f2, s1, s3]
end
end Go.Vs

namespace Go.Vs
open Go
set_option linter.unusedSimpArgs false
set_option linter.unusedVariables false

structure TabPaths (prog : Prog) (prims : Prims) (I J : Nat → Nat) : Prop where
  h5 : prims (I 5) = none ∧ prog (I 5) = some (C.F5 I J)
  h38 : prims (I 38) = none ∧ prog (I 38) = some (C.F38 I J)
  h40 : prims (I 40) = none ∧ prog (I 40) = some (C.F40 I J)
  h76 : prims (I 76) = none ∧ prog (I 76) = some (C.F76 I J)

theorem obj_drop8 (o : Obj) (x : AV) : List.drop 8 (o.cells ++ [x]) = [] := by cases o; rfl
theorem obj_pursF (o : Obj) (m : Nat) (l : List AV) (k : Nat) (h : l.length = k) : pursF m l (o.cells ++ [.asl (.loc m) k]) = some (o.cells ++ [.slice l]) := by
  cases o
  simp [Obj.cells, pursF, purF, h]
attribute [simp] obj_drop8

/-- The subterm that a path leads to. -/
def Trm.at : Trm → List Int → Option Trm
  | t, [] => some t
  | .mk k n v a, i :: p => if k = 3 ∧ 0 ≤ i then (match a[i.toNat]? with
      | some x => Trm.at x p
      | none => none) else none

/-- A term with the subterm that a path leads to replaced. -/
def Trm.put (m : Trm) : Trm → List Int → Option Trm
  | t, [] => some m
  | .mk k n v a, i :: p => if k = 3 ∧ 0 ≤ i then (match a[i.toNat]? with
      | some x => (match Trm.put m x p with
        | some y => some (.mk 3 n v (a.set i.toNat y))
        | none => none)
      | none => none) else none

theorem at_put (m : Trm) : ∀ (p : List Int) (t y : Trm), Trm.put m t p = some y → Trm.at y p = some m
  | [], t, y, h => by
    cases t
    simp only [Trm.put, Option.some.injEq] at h
    subst h
    cases m; rfl
  | i :: p, .mk k n v a, y, h => by
    simp only [Trm.put] at h
    by_cases hc : k = 3 ∧ 0 ≤ i
    · rw [if_pos hc] at h
      cases hx : a[i.toNat]? with
      | none => rw [hx] at h; cases h
      | some x =>
        rw [hx] at h
        simp only at h
        cases hp : Trm.put m x p with
        | none => rw [hp] at h; cases h
        | some z =>
          rw [hp] at h
          simp only [Option.some.injEq] at h
          subst h
          have hlt := (List.getElem?_eq_some_iff.1 hx).1
          have hz : (a.set i.toNat z)[i.toNat]? = some z := by simp [hlt]
          simp only [Trm.at, hc.2, hz]
          simpa using at_put m p x z hp
    · rw [if_neg hc] at h; cases h

def res2 : Option Trm → AV
  | some t => .tup [.agg t.cells, .bool true]
  | none => .tup [.agg Trm.zero.cells, .bool false]

section
variable {gl : Globs} {prog : Prog} {prims : Prims} {I J : Nat → Nat} (t8 : TabRef8 prog prims I J) (tP : TabPaths prog prims I J)

def H39 (t : Trm) (p : List Int) (stk : List Boxes) (i : Nat) : St :=
  { env := ofList [(1, .slice (iv p)), (2, .ptr (.loc 2) 0), (4, .ptr (.loc 4) 0), (6, .int .i64 i)], bx := ofListB [(2, some (.cells t.cells)), (4, some (.cells Trm.zero.cells))], nb := fun _ => none, stk := stk }

/-- One step of a path: is there such an argument? -/
theorem argl_get (t : Trm) (i : Int) : (0 ≤ i ∧ i < t.argl.length ∧ ∃ x, t.argl[i.toNat]? = some x ∧ ∀ p, Trm.at t (i :: p) = Trm.at x p) ∨ ((i < 0 ∨ (t.argl.length : Int) ≤ i) ∧ ∀ p, Trm.at t (i :: p) = none) := by
  obtain ⟨k, n, v, a⟩ := t
  by_cases h0 : 0 ≤ i
  · by_cases h3 : k = 3
    · subst h3
      have hargl : (Trm.mk 3 n v a).argl = a := by simp [Trm.argl]
      rw [hargl]
      cases hx : a[i.toNat]? with
      | none =>
        have := List.getElem?_eq_none_iff.1 hx
        refine .inr ⟨.inr (by omega), fun p => by simp [Trm.at, h0, hx]⟩
      | some x =>
        have := (List.getElem?_eq_some_iff.1 hx).1
        exact .inl ⟨h0, by omega, x, rfl, fun p => by simp [Trm.at, h0, hx]⟩
    · have hargl : (Trm.mk k n v a).argl = [] := by simp [Trm.argl, h3]
      exact .inr ⟨.inr (by rw [hargl]; simpa using h0), fun p => by simp [Trm.at, h3]⟩
  · exact .inr ⟨.inl (by omega), fun p => by simp [Trm.at, h0]⟩

include t8
theorem r8_at (t : Trm) (p : List Int) (hp : p.length < 1000000) (stk : List Boxes) : callW gl prog prims (I 39) [.agg t.cells, .slice (iv p)] stk = some (res2 (Trm.at t p), stk) := by
  have loop : ∀ (q : List Int) (i : Nat) (t : Trm), p.drop i = q → ∀ s0, project [1, 2, 4, 6] [2, 4] s0 = some (H39 t p stk i) →
      wpl gl (callW gl prog prims) [1, 2, 4, 6] [2, 4] (C.F39_0 I J) s0 fun x fin => fin.stk = stk ∧ fin.env 4 = .ptr (.loc 4) 0 ∧ fin.nb 4 = none ∧ match Trm.at t q with
        | some y => x = .exit 0 ∧ fin.env 2 = .ptr (.loc 2) 0 ∧ fin.nb 2 = none ∧ fin.bx 2 = some (.cells y.cells) ∧ fin.bx 4 = some (.cells Trm.zero.cells)
        | none => x = .ret ∧ fin.bx 4 = some (.cells Trm.zero.cells) ∧ fin.env 5 = .bool false := by
    intro q
    induction q with
    | nil =>
      intro i t hq s0 hp0
      have hl := drop_nil hq
      refine wpl_step hp0 ?_
      have : ¬ i < p.length := by omega
      have hat : Trm.at t [] = some t := by cases t; rfl
      rw [hat]
      simp [H39, C.F39_0, this]
    | cons j q ih =>
      intro i t hq s0 hp0
      obtain ⟨hi, hx, hq2, hm⟩ := drop_cons hq
      have hw := wrap64 ((i : Int) + 1) (by omega) (by omega)
      have ea := r8_args (gl := gl) t8 t []
      refine wpl_step hp0 ?_
      rcases argl_get t j with ⟨h0, h1, x, h2, h3⟩ | ⟨h1, h3⟩
      · rw [h3]
        obtain ⟨jn, rfl⟩ : ∃ jn : Nat, j = jn := ⟨j.toNat, by omega⟩
        have hn0 : ¬ ((jn : Int) < 0) := by omega
        have hn1 : ¬ ((t.argl.length : Int) ≤ (jn : Int)) := by omega
        have hlt : jn < t.argl.length := by omega
        have hgx : t.argl[jn] = x := by
          have := (List.getElem?_eq_some_iff.1 h2).2
          simpa using this
        simp [H39, C.F39_0, hi, hx, ea, hn0, hn1, hlt, hgx, hw]
        exact wpl_mono (ih (i + 1) x hq2 _ (by simp [H39])) (fun x fin h => by simpa using h)
      · rw [h3]
        by_cases hneg : j < 0
        · simp [H39, C.F39_0, hi, hx, ea, hneg, trm_zero_cells]
        · have hge : (t.argl.length : Int) ≤ j := by omega
          simp [H39, C.F39_0, hi, hx, ea, hneg, hge, trm_zero_cells]
  refine callW_wp t8.h39.1 t8.h39.2 ?_
  simp [C.F39]
  refine wpk_loop (wpl_mono (loop p 0 t rfl _ (by simp [H39, trm_zero_cells])) ?_)
  rintro x fin ⟨h1, h2, h3, h4⟩
  cases hat : Trm.at t p with
  | none => rw [hat] at h4; obtain ⟨rfl, h5, h6⟩ := h4; simp [h1, h2, h3, h5, h6, res2, trm_zero_cells]
  | some y => rw [hat] at h4; obtain ⟨rfl, h5, h6, h7, h8⟩ := h4; simp [h1, h2, h3, h5, h6, h7, h8, res2]

def H38 (t : Trm) (p : List Int) (stk : List Boxes) (i : Nat) : St :=
  { env := ofList [(2, .ptr (.loc 2) 0), (4, .ptr (.loc 4) 0), (8, .slice (iv p)), (9, .int .i64 p.length), (10, .int .i64 i)], bx := ofListB [(2, some (.cells t.cells)), (4, some (.cells Trm.zero.cells))], nb := fun _ => none, stk := stk }

omit t8
theorem at_step (k : Int) (n : Sym) (v : Obj) (a : List Trm) (i : Int) (q : List Int) : Trm.at (.mk k n v a) (i :: q) = if k = 3 ∧ 0 ≤ i then (match a[i.toNat]? with
      | some x => Trm.at x q
      | none => none) else none := rfl

include tP
theorem t_at (t : Trm) (p : List Int) (hp : p.length < 1000000) (stk : List Boxes) : callW gl prog prims (I 38) [.agg t.cells, .slice (iv p)] stk = some (res2 (Trm.at t p), stk) := by
  have loop : ∀ (q : List Int) (i : Nat) (t : Trm), p.drop i = q → ∀ s0, project [2, 4, 8, 9, 10] [2, 4] s0 = some (H38 t p stk i) →
      wpl gl (callW gl prog prims) [2, 4, 8, 9, 10] [2, 4] (C.F38_0 I J) s0 fun x fin => fin.stk = stk ∧ fin.env 4 = .ptr (.loc 4) 0 ∧ fin.nb 4 = none ∧ match Trm.at t q with
        | some y => x = .exit 0 ∧ fin.env 2 = .ptr (.loc 2) 0 ∧ fin.nb 2 = none ∧ fin.bx 2 = some (.cells y.cells) ∧ fin.bx 4 = some (.cells Trm.zero.cells)
        | none => x = .ret ∧ fin.bx 4 = some (.cells Trm.zero.cells) ∧ fin.env 5 = .bool false := by
    intro q
    induction q with
    | nil =>
      intro i t hq s0 hp0
      have hl := drop_nil hq
      refine wpl_step hp0 ?_
      have : ¬ i < p.length := by omega
      have hat : Trm.at t [] = some t := by cases t; rfl
      rw [hat]
      simp [H38, C.F38_0, this]
    | cons j q ih =>
      intro i t hq s0 hp0
      obtain ⟨hi, hx, hq2, hm⟩ := drop_cons hq
      have hw := wrap64 ((i : Int) + 1) (by omega) (by omega)
      refine wpl_step hp0 ?_
      obtain ⟨k, n, v, a⟩ := t
      rw [at_step]
      by_cases h3 : k = 3
      · subst h3
        by_cases hneg : j < 0
        · have : ¬ (0 ≤ j) := by omega
          simp [H38, C.F38_0, trm_cells, hi, hx, hneg, this, trm_zero_cells]
        · have h0 : 0 ≤ j := by omega
          obtain ⟨jn, rfl⟩ : ∃ jn : Nat, j = jn := ⟨j.toNat, by omega⟩
          cases hg : a[jn]? with
          | none =>
            have hge := List.getElem?_eq_none_iff.1 hg
            simp [H38, C.F38_0, trm_cells, hi, hx, hneg, hge, hg, trm_zero_cells]
          | some y =>
            obtain ⟨hlt, hgx⟩ := List.getElem?_eq_some_iff.1 hg
            have hge : ¬ (a.length ≤ jn) := by omega
            simp [H38, C.F38_0, trm_cells, hi, hx, hneg, hge, hlt, hgx, hg, hw]
            exact wpl_mono (ih (i + 1) y hq2 _ (by simp [H38])) (fun x fin h => by simpa using h)
      · have b3 : (k != 3) = true := by simpa using h3
        simp [H38, C.F38_0, trm_cells, hi, hx, b3, h3, trm_zero_cells]
  refine callW_wp tP.h38.1 tP.h38.2 ?_
  simp [C.F38]
  refine wpk_loop (wpl_mono (loop p 0 t rfl _ (by simp [H38, trm_zero_cells])) ?_)
  rintro x fin ⟨h1, h2, h3, h4⟩
  cases hat : Trm.at t p with
  | none => rw [hat] at h4; obtain ⟨rfl, h5, h6⟩ := h4; simp [h1, h2, h3, h5, h6, res2, trm_zero_cells]
  | some y => rw [hat] at h4; obtain ⟨rfl, h5, h6, h7, h8⟩ := h4; simp [h1, h2, h3, h5, h6, h7, h8, res2]

theorem clone_spec (x : Trm) (l : List Trm) (hl : l.length < 1000000) (stk : List Boxes) : callW gl prog prims (I 76) [.slice ((x :: l).map fun o => .agg o.cells)] stk = some (.own true 11 ((x :: l).map fun o => .agg o.cells), stk) := by
  refine callW_wp tP.h76.1 tP.h76.2 ?_
  have hcap : l.length + 1 ≤ maxCount := by unfold maxCount; omega
  simp [C.F76, hcap]

omit tP in
theorem put_step (m : Trm) (k : Int) (n : Sym) (v : Obj) (a : List Trm) (i : Int) (q : List Int) : Trm.put m (.mk k n v a) (i :: q) = if k = 3 ∧ 0 ≤ i then (match a[i.toNat]? with
      | some x => (match Trm.put m x q with
        | some y => some (.mk 3 n v (a.set i.toNat y))
        | none => none)
      | none => none) else none := rfl

theorem t_put (m : Trm) : ∀ (p : List Int) (t : Trm), p.length < 1000000 → t.ok → ∀ stk, callW gl prog prims (I 40) [.agg t.cells, .slice (iv p), .agg m.cells] stk = some (res2 (Trm.put m t p), stk)
  | [], t, _, _, stk => by
    refine callW_wp tP.h40.1 tP.h40.2 ?_
    have : Trm.put m t [] = some m := by cases t; rfl
    rw [this]
    simp [C.F40, res2]
  | j :: q, .mk k n v a, hp, hok, stk => by
    refine callW_wp tP.h40.1 tP.h40.2 ?_
    rw [put_step]
    have hz : ((q.length : Int) + 1 == 0) = false := by rw [beq_eq_false_iff_ne]; omega
    by_cases h3 : k = 3
    · subst h3
      by_cases hneg : j < 0
      · have : ¬ (0 ≤ j) := by omega
        simp [C.F40, hz, trm_cells, hneg, this, res2, trm_zero_cells]
      · have h0 : 0 ≤ j := by omega
        obtain ⟨jn, rfl⟩ : ∃ jn : Nat, j = jn := ⟨j.toNat, by omega⟩
        cases hg : a[jn]? with
        | none =>
          have hge := List.getElem?_eq_none_iff.1 hg
          simp [C.F40, hz, trm_cells, hneg, hge, hg, res2, trm_zero_cells]
        | some y =>
          obtain ⟨hlt, hgx⟩ := List.getElem?_eq_some_iff.1 hg
          have hge : ¬ (a.length ≤ jn) := by omega
          have hrec := t_put m q y (by simp at hp; omega) (Trm.oks_mem hok.2.2 _ (List.mem_of_getElem? hg)) []
          cases hpq : Trm.put m y q with
          | none =>
            rw [hpq] at hrec
            simp only [res2] at hrec
            simp [C.F40, hz, trm_cells, hneg, hge, hlt, hgx, hg, hrec, res2, hpq, trm_zero_cells]
          | some z =>
            rw [hpq] at hrec
            simp only [res2] at hrec
            have hcl : callW gl prog prims (I 76) [.slice (a.map fun o => .agg o.cells)] [] = some (.own true 11 (a.map fun o => .agg o.cells), []) := by
              cases a with
              | nil => simp at hlt
              | cons a0 ar => exact clone_spec (gl := gl) tP a0 ar (by have := hok.2.1; simp at this; omega) []
            have hset : List.set (a.map fun o => AV.agg o.cells) jn (.agg z.cells) = (a.set jn z).map fun o => AV.agg o.cells := by rw [List.map_set]
            simp [C.F40, hz, trm_cells, hneg, hge, hlt, hgx, hg, hrec, res2, hpq, hcl, trm_zero_cells, pursF, purF, obj_pursF]
    · have b3 : (k != 3) = true := by simpa using h3
      simp [C.F40, hz, trm_cells, b3, h3, res2, trm_zero_cells]

omit tP in
include t8 in
theorem r8_put (m : Trm) : ∀ (p : List Int) (t : Trm), p.length < 1000000 → t.ok → t.fit → ∀ stk, callW gl prog prims (I 41) [.agg t.cells, .slice (iv p), .agg m.cells] stk = some (res2 (Trm.put m t p), stk)
  | [], t, _, _, _, stk => by
    refine callW_wp t8.h41.1 t8.h41.2 ?_
    have : Trm.put m t [] = some m := by cases t; rfl
    rw [this]
    simp [C.F41, res2]
  | j :: q, .mk k n v a, hp, hok, hfit, stk => by
    refine callW_wp t8.h41.1 t8.h41.2 ?_
    rw [put_step]
    have hz : ((q.length : Int) + 1 == 0) = false := by rw [beq_eq_false_iff_ne]; omega
    have ea := r8_args (gl := gl) t8 (.mk k n v a) []
    by_cases h3 : k = 3
    · subst h3
      obtain rfl := hfit.1 rfl
      simp [Trm.argl, trm_cells] at ea
      by_cases hneg : j < 0
      · have : ¬ (0 ≤ j) := by omega
        simp [C.F41, hz, trm_cells, ea, hneg, this, res2, trm_zero_cells]
      · have h0 : 0 ≤ j := by omega
        obtain ⟨jn, rfl⟩ : ∃ jn : Nat, j = jn := ⟨j.toNat, by omega⟩
        cases hg : a[jn]? with
        | none =>
          have hge := List.getElem?_eq_none_iff.1 hg
          simp [C.F41, hz, trm_cells, ea, hneg, hge, hg, res2, trm_zero_cells]
        | some y =>
          obtain ⟨hlt, hgx⟩ := List.getElem?_eq_some_iff.1 hg
          have hge : ¬ (a.length ≤ jn) := by omega
          have hrec := r8_put m q y (by simp at hp; omega) (Trm.oks_mem hok.2.2 _ (List.mem_of_getElem? hg)) (Trm.fits_mem hfit.2 _ (List.mem_of_getElem? hg)) []
          cases hpq : Trm.put m y q with
          | none =>
            rw [hpq] at hrec
            simp only [res2] at hrec
            simp [C.F41, hz, trm_cells, ea, hneg, hge, hlt, hgx, hg, hrec, res2, hpq, trm_zero_cells]
          | some z =>
            rw [hpq] at hrec
            simp only [res2] at hrec
            have hal := hok.2.1
            have hcap : a.length ≤ maxCount := by unfold maxCount; omega
            have ap := r8_app (gl := gl) t8 n (a.set jn z) []
            simp [Sym.cells, List.map_set] at ap
            simp [C.F41, hz, trm_cells, ea, hneg, hge, hlt, hgx, hg, hrec, res2, hpq, hcap, ap, Trm.app, trm_zero_cells]
    · have b3 : (k != 3) = true := by simpa using h3
      simp [Trm.argl, trm_cells, h3] at ea
      by_cases hneg : j < 0
      · simp [C.F41, hz, trm_cells, ea, hneg, b3, h3, res2, trm_zero_cells]
      · have h0 : 0 ≤ j := by omega
        simp [C.F41, hz, trm_cells, ea, hneg, h0, b3, h3, res2, trm_zero_cells]
end
end Go.Vs

namespace Go.Vs
open Go
set_option linter.unusedSimpArgs false
set_option linter.unusedVariables false

theorem trm_zero_ok : Trm.zero.ok ∧ Trm.zero.fit := ⟨⟨obj_zero_ok, by simp, trivial⟩, by simp [Trm.zero, Trm.fit], trivial⟩

theorem at_ok : ∀ (p : List Int) (t y : Trm), t.ok ∧ t.fit → Trm.at t p = some y → y.ok ∧ y.fit
  | [], t, y, h, e => by
    have : Trm.at t [] = some t := by cases t; rfl
    rw [this] at e
    cases e; exact h
  | i :: p, .mk k n v a, y, h, e => by
    rw [at_step] at e
    split at e
    · split at e
      · rename_i x hx
        have hm := List.mem_of_getElem? hx
        exact at_ok p x y ⟨Trm.oks_mem h.1.2.2 _ hm, Trm.fits_mem h.2.2 _ hm⟩ e
      · cases e
    · cases e

theorem oks_set : ∀ {l : List Trm} {i : Nat} {z : Trm}, Trm.oks l → z.ok → Trm.oks (l.set i z)
  | [], _, _, _, _ => by simp [Trm.oks]
  | a :: l, 0, z, h, hz => ⟨hz, h.2⟩
  | a :: l, i + 1, z, h, hz => ⟨h.1, oks_set h.2 hz⟩
theorem fits_set : ∀ {l : List Trm} {i : Nat} {z : Trm}, Trm.fits l → z.fit → Trm.fits (l.set i z)
  | [], _, _, _, _ => by simp [Trm.fits]
  | a :: l, 0, z, h, hz => ⟨hz, h.2⟩
  | a :: l, i + 1, z, h, hz => ⟨h.1, fits_set h.2 hz⟩

theorem put_ok (m : Trm) (hm : m.ok ∧ m.fit) : ∀ (p : List Int) (t y : Trm), t.ok ∧ t.fit → Trm.put m t p = some y → y.ok ∧ y.fit
  | [], t, y, h, e => by
    have : Trm.put m t [] = some m := by cases t; rfl
    rw [this] at e
    cases e; exact hm
  | i :: p, .mk k n v a, y, h, e => by
    rw [put_step] at e
    split at e
    · rename_i hc
      split at e
      · rename_i x hx
        have hmx := List.mem_of_getElem? hx
        cases hp : Trm.put m x p with
        | none => rw [hp] at e; cases e
        | some z =>
          rw [hp] at e
          simp only [Option.some.injEq] at e
          subst e
          have hz := put_ok m hm p x z ⟨Trm.oks_mem h.1.2.2 _ hmx, Trm.fits_mem h.2.2 _ hmx⟩ hp
          exact ⟨⟨h.1.1, by simpa using h.1.2.1, oks_set h.1.2.2 hz.1⟩, fun _ => h.2.1 hc.1, fits_set h.2.2 hz.2⟩
      · cases e
    · cases e

def pathMod (x : Int) : Int := if x % 4 - 1 < 0 then 0 else x % 4 - 1

/-- What is found, or the empty term. -/
def found (o : Option Trm) : Trm := o.getD Trm.zero
theorem res2_eq (o : Option Trm) : res2 o = .tup [.agg (found o).cells, .bool o.isSome] := by cases o <;> rfl

section
variable {gl : Globs} {prog : Prog} {prims : Prims} {I J : Nat → Nat} (tm : TabMake prog prims I J) (t2 : TabRef2 prog prims I J) (t1 : TabRef1 prog prims I J) (tp : prims (I 88) = some itoaP) (t8 : TabRef8 prog prims I J) (tl : TabL8 prog prims I J) (tt : TabTerm prog prims I J) (tP : TabPaths prog prims I J) (hfirst : callW gl prog prims (I 8) [] [] = some (.bool true, []))

def H5 (r n : Raw) (t m : Trm) (path : List Int) (Q : List Int) (stk : List Boxes) (i : Nat) : St :=
  { env := ofList [(2, .slice (iv path)), (7, .ptr (.loc 7) 0), (8, .ptr (.loc 8) 0), (9, .asl (.loc 46) Q.length), (10, .int .i64 i)], bx := ofListB [(3, some (.cells r.cells)), (4, some (.cells n.cells)), (7, some (.cells t.cells)), (8, some (.cells m.cells)), (9, none), (11, none), (13, none), (15, none), (17, none), (19, none), (21, none), (23, none), (46, some (.arr false 1 (iv Q)))], nb := fun _ => none, stk := stk }

include tm
theorem paths_loop (r n : Raw) (t m : Trm) (path : List Int) (hpl : path.length ≤ 6) (stk : List Boxes) : ∀ (q : List Int) (i : Nat) (dn : List Int), path.drop i = q → dn.length = i → ∀ s0, project [2, 7, 8, 9, 10] [3, 4, 7, 8, 9, 11, 13, 15, 17, 19, 21, 23, 46] s0 = some (H5 r n t m path (dn ++ List.replicate q.length 0) stk i) →
    wpl gl (callW gl prog prims) [2, 7, 8, 9, 10] [3, 4, 7, 8, 9, 11, 13, 15, 17, 19, 21, 23, 46] (C.F5_0 I J) s0 fun x fin => x = .exit 0 ∧ ∃ j, PJ [2, 7, 8, 9, 10] [3, 4, 7, 8, 9, 11, 13, 15, 17, 19, 21, 23, 46] fin (H5 r n t m path (dn ++ q.map pathMod) stk j) := by
  intro q
  induction q with
  | nil =>
    intro i dn hq hdn s0 hp0
    have hl := drop_nil hq
    refine wpl_step hp0 ?_
    have : ¬ i < path.length := by omega
    simp [H5, C.F5_0, this, PJ]
    exact ⟨i, rfl⟩
  | cons x q ih =>
    intro i dn hq hdn s0 hp0
    obtain ⟨hi, hx, hq2, hm⟩ := drop_cons hq
    have hw := wrap64 ((i : Int) + 1) (by omega) (by omega)
    have hm4 := mod_spec (gl := gl) tm x 4 (by omega) (by omega) []
    have hwx := wrap64 (x % 4 - 1) (by omega) (by omega)
    have hlt : i < i + (q.length + 1) := by omega
    have hset : ∀ z : Int, (List.replicate (q.length + 1) (0 : Int)).set 0 z = z :: List.replicate q.length 0 := fun z => by rw [List.replicate_succ]; rfl
    have hset2 : ∀ z : Int, List.set (dn ++ List.replicate (q.length + 1) 0) i z = dn ++ z :: List.replicate q.length 0 := fun z => by rw [← hdn]; simp [List.replicate_succ]
    have hget : ∀ z : Int, (dn ++ z :: List.replicate q.length 0)[i]? = some z := fun z => by rw [← hdn]; simp
    have hlen : i + 1 + q.length = i + (q.length + 1) := by omega
    have hlenI : (i : Int) + 1 + q.length = (i : Int) + ((q.length : Int) + 1) := by omega
    refine wpl_step hp0 ?_
    by_cases hneg : x % 4 - 1 < 0
    · have hpm : pathMod x = 0 := by simp [pathMod, hneg]
      simp [H5, C.F5_0, hi, hx, hm4, hwx, hdn, hlt, hneg, hw]
      refine wpl_mono (ih (i + 1) (dn ++ [pathMod x]) hq2 (by simp [hdn]) _ ?_) ?_
      · simp [H5, hdn, hpm, hset, hlen, hlenI, List.replicate_succ]
      · intro x1 fin h
        simpa [H5, hdn, hlen] using h
    · have hpm : pathMod x = x % 4 - 1 := by simp [pathMod, hneg]
      simp [H5, C.F5_0, hi, hx, hm4, hwx, hdn, hlt, hneg, hw]
      refine wpl_mono (ih (i + 1) (dn ++ [pathMod x]) hq2 (by simp [hdn]) _ ?_) ?_
      · simp [H5, hdn, hpm, hset, hlen, hlenI]
      · intro x1 fin h
        simpa [H5, hdn, hlen] using h

include t2 t1 tp t8 tl tt tP hfirst
set_option maxRecDepth 100000 in
set_option maxHeartbeats 2000000 in
theorem law_paths (r n : Raw) (path : List Int) (stk : List Boxes) : callW gl prog prims (I 5) [.agg r.cells, .agg n.cells, .slice (iv path)] stk = some (.bool true, stk) := by
  refine callW_wp tP.h5.1 tP.h5.2 ?_
  have e1 := few_spec (gl := gl) tm r 30 (by omega) (by omega) []
  have e2 := few_spec (gl := gl) tm n 10 (by omega) (by omega) []
  cases h1 : r.few 30 with
  | false => rw [h1] at e1; simp [C.F5, hfirst, e1]
  | true =>
    rw [h1] at e1
    cases h2 : n.few 10 with
    | false => rw [h2] at e2; simp [C.F5, hfirst, e1, e2]
    | true =>
      rw [h2] at e2
      by_cases hlen : (6 : Int) < path.length
      · simp [C.F5, hfirst, e1, e2, hlen]
      · have hs1 : r.small := by simp [Raw.few] at h1; exact Raw.few_small r 30 h1
        have hs2 : n.small := by simp [Raw.few] at h2; exact Raw.few_small n 10 h2
        have f1 := made_spec (gl := gl) tm t2 t1 tp t8 tl r hs1 []
        have f2 := made_spec (gl := gl) tm t2 t1 tp t8 tl n hs2 []
        have o1 := Raw.term_ok r hs1
        have o2 := Raw.term_ok n hs2
        generalize r.term = t at f1 o1
        generalize n.term = m at f2 o2
        have hpl : path.length ≤ 6 := by omega
        have hcap : path.length ≤ maxCount := by unfold maxCount; omega
        simp [C.F5, hfirst, e1, e2, hlen, f1, f2, hcap]
        refine wpk_loop (wpl_mono (paths_loop (gl := gl) tm r n t m path hpl stk path 0 [] rfl rfl _ (by simp [H5])) ?_)
        rintro x fin ⟨rfl, j, h3⟩
        simp only [List.nil_append] at h3
        have hPl : (path.map pathMod).length ≤ 6 := by simpa using hpl
        generalize path.map pathMod = Q at h3 hPl
        have g2 := project_env h3 2 (by simp)
        have g7 := project_env h3 7 (by simp)
        have g8 := project_env h3 8 (by simp)
        have g9 := project_env h3 9 (by simp)
        have b7 := project_bx h3 7 (by simp)
        have b8 := project_bx h3 8 (by simp)
        have b9 := project_bx h3 9 (by simp)
        have b11 := project_bx h3 11 (by simp)
        have b13 := project_bx h3 13 (by simp)
        have b15 := project_bx h3 15 (by simp)
        have b17 := project_bx h3 17 (by simp)
        have b19 := project_bx h3 19 (by simp)
        have b21 := project_bx h3 21 (by simp)
        have b23 := project_bx h3 23 (by simp)
        have b46 := project_bx h3 46 (by simp)
        have es := project_stk h3
        simp [H5] at g2 g7 g8 g9 b7 b8 b9 b11 b13 b15 b17 b19 b21 b23 b46 es
        have a1 := t_at (gl := gl) tP t Q (by omega) []
        have a2 := r8_at (gl := gl) t8 t Q (by omega) []
        have a3 := t_put (gl := gl) tP m Q t (by omega) o1.1 []
        have a4 := r8_put (gl := gl) t8 m Q t (by omega) o1.1 o1.2 []
        have a5 := t_at (gl := gl) tP t path (by omega) []
        have a6 := r8_at (gl := gl) t8 t path (by omega) []
        have a7 := t_at (gl := gl) tP (found (Trm.put m t Q)) Q (by omega) []
        rw [res2_eq] at a1 a2 a3 a4 a5 a6 a7
        have k1 : (found (Trm.at t Q)).ok := by
          cases h : Trm.at t Q with
          | none => exact trm_zero_ok.1
          | some y => exact (at_ok Q t y o1 h).1
        have k2 : (found (Trm.put m t Q)).ok := by
          cases h : Trm.put m t Q with
          | none => exact trm_zero_ok.1
          | some y => exact (put_ok m o2 Q t y o1 h).1
        have q1 := r8_equal (gl := gl) t8 t2 (found (Trm.at t Q)) (found (Trm.at t Q)) k1 []
        have q2 := r8_equal (gl := gl) t8 t2 (found (Trm.put m t Q)) (found (Trm.put m t Q)) k2 []
        have q3 := r8_equal (gl := gl) t8 t2 m m o2.1 []
        rw [Trm.eq_refl] at q1 q2 q3
        have hback : (Trm.put m t Q).isSome = true → Trm.at (found (Trm.put m t Q)) Q = some m := by
          intro h
          cases hp : Trm.put m t Q with
          | none => rw [hp] at h; cases h
          | some y => exact at_put m Q t y hp
        generalize found (Trm.at t Q) = A at a1 a2 q1
        generalize (Trm.at t Q).isSome = A' at a1 a2
        generalize hC : found (Trm.put m t Q) = C1 at a3 a4 a7 q2 hback
        generalize (Trm.put m t Q).isSome = C' at a3 a4 hback
        generalize found (Trm.at t path) = D at a5 a6
        generalize (Trm.at t path).isSome = D' at a5 a6
        cases C' with
        | false =>
          simp [g2, g7, g8, g9, b7, b8, b9, b11, b13, b15, b17, b19, b21, b23, b46, es, a1, a2, a3, a4, a5, a6, a7, q1, q2, q3]
        | true =>
          rw [hback rfl] at a7
          simp only [found, Option.getD_some, Option.isSome_some] at a7
          simp [g2, g7, g8, g9, b7, b8, b9, b11, b13, b15, b17, b19, b21, b23, b46, es, a1, a2, a3, a4, a5, a6, a7, q1, q2, q3]
end
end Go.Vs

namespace Go.Vs
open Go Go.ChangeShapes Go.WideShapes Go.RowKit
set_option linter.unusedSimpArgs false
set_option linter.unusedVariables false

def immOf (w : World) (b : Nat) : Nat := match w.heap[b]? with
  | some (.cells c _ _) => c.size + 1
  | _ => 0

def gh0 (w : World) : Gh := { imm := immOf w, loc := fun _ _ => none, ob := fun _ => none }

theorem imm_of_cell {w : World} {b o : Nat} {v : Value} (h : w.cell? (at' b o) = some v) : o < immOf w b := by
  unfold World.cell? at' at h
  unfold immOf
  simp only at h
  cases hb : w.heap[b]? with
  | none => rw [hb] at h; cases h
  | some x =>
    rw [hb] at h
    cases x with
    | cells c t f =>
      simp at h
      have := (Array.getElem?_eq_some_iff.1 h).1
      simp
      omega
    | _ => cases h

theorem rel0 {gl : Globs} {w : World} {args : List AV} {vs : Array Value} (h : ∀ n, RV (gh0 w) w 0 n (args.getD n .undef) (vs.getD n undef)) (hgl : ∀ k, GlobOK (immOf w) w (gl k) k) : Rel gl (gh0 w) 0 (initSt args []) vs w where
  slots := h
  boxes n b hb := by simp [initSt, mergeB] at hb
  dead n _ := rfl
  excl n b hb := by simp [initSt] at hb
  outer l n b hb := by simp [initSt, stkGet] at hb
  deadO l n hl := by omega
  lvl := rfl
  fresh b hb := ⟨rfl, by
    have : w.heap[b]? = none := Array.getElem?_eq_none hb
    simp [gh0, immOf, this]⟩
  locs l n b hb := by simp [gh0] at hb
  globs := hgl

theorem below_of_out {gl : Globs} {w w' : World} {v : AV} {stk' : List Boxes} {g' : Gh} {cv : Value} (h : Out gl (gh0 w) w 0 v stk' g' w' cv) : Below w.heap.size w w' :=
  ⟨h.os, h.tape, h.output, h.size, fun k hk => (h.rest k hk rfl).2.2⟩

section
variable {H : Type} {enc : TypeId × Value → H} {P : Program} {w : World} {sp : Nat → Bool}

theorem mapM_get {α β : Type} {f : α → Option β} : ∀ {l : List α} {r : List β}, l.mapM f = some r → r.length = l.length ∧ ∀ (i : Nat) (a : α), l[i]? = some a → f a = r[i]?
  | [], r, h => by
    simp at h
    subst h
    simp
  | a :: l, r, h => by
    rw [List.mapM_cons] at h
    cases ha : f a with
    | none => simp [ha] at h
    | some b =>
      cases hl : l.mapM f with
      | none => simp [ha, hl] at h
      | some bs =>
        simp [ha, hl] at h
        subst h
        obtain ⟨h1, h2⟩ := mapM_get hl
        refine ⟨by simp [h1], ?_⟩
        intro i x hx
        cases i with
        | zero => simp at hx; subst hx; simpa using ha
        | succ i => simpa using h2 i x (by simpa using hx)

/-- Cells that are there, one by one. -/
theorem cells_get {a : Addr} {n : Nat} {cs : List Value} (h : w.cells? 0 a n = some cs) : cs.length = n ∧ ∀ j, j < n → w.cell? (a.add j) = cs[j]? := by
  unfold World.cells? at h
  rw [if_pos (Nat.zero_le _)] at h
  obtain ⟨h1, h2⟩ := mapM_get h
  refine ⟨by simpa using h1, fun j hj => ?_⟩
  have := h2 j j (by simp [hj])
  simpa using this

/-- A slice whose elements all stand for something. -/
theorem rp_read {t e : TypeId} (ht : P.underlying t = some (.slice e)) {α : Type} (enA : α → List AV) (sz : Nat) (hsz : P.cellsOf e = sz) (hpos : 0 < sz)
    {fuel : Nat} (hel : ∀ n, n < fuel → ∀ cs x, DataW.trod enc P w 0 sp true n e cs = some x → ∃ r : α, cs.length = sz ∧ (enA r).length = sz ∧ ∀ j c, (enA r)[j]? = some c → c.one = true ∧ RP (immOf w) w c (cs.getD j undef))
    {mk : List AV → AV} (hmk : ∀ r : α, (mk (enA r)).cellsA = enA r)
    {cs : List Value} {x : DataW H × List MemPlace} (h : DataW.trod enc P w 0 sp true fuel t cs = some x) : ∃ (l : List α) (v : Value), cs = [v] ∧ RP (immOf w) w (.slice (l.map fun r => mk (enA r))) v := by
  rcases DataW.trod_slice ht h with ⟨rfl, _⟩ | ⟨a, len, cap, elems, rest, n, hf, rfl, _, _, hlc, _, hlen, hE, _⟩
  · exact ⟨[], _, rfl, .nil _ _⟩
  · subst hf
    cases len with
    | zero => exact ⟨[], _, rfl, .nil _ _⟩
    | succ len =>
      have key : ∀ i, i < len + 1 → ∃ cs, w.cells? 0 (a.add (i * sz)) sz = some cs ∧ ∃ x, DataW.trod enc P w 0 sp true n e cs = some x := by
        intro i hi
        have := hE i hi
        rw [hsz] at this
        have hi2 : i < elems.length := by omega
        rw [List.getElem?_eq_getElem hi2] at this
        obtain ⟨cs, h1, h2⟩ := Option.bind_eq_some_iff.1 this
        exact ⟨cs, h1, _, h2⟩
      have hspot : a.spot = none := by
        obtain ⟨cs, h1, _⟩ := key 0 (by omega)
        obtain ⟨h2, h3⟩ := cells_get h1
        have := h3 0 hpos
        have hcs : cs[0]? = some (cs[0]'(by omega)) := List.getElem?_eq_getElem _
        rw [hcs] at this
        have e : (a.add (0 * sz)).add 0 = a := by simp [Addr.add]
        rw [e] at this
        unfold World.cell? at this
        split at this
        · split at this
          · cases this
          · rename_i hs
            simpa using hs
        · cases this
      obtain ⟨ab, ao, asp⟩ := a
      simp only at hspot
      subst hspot
      have hadd : ∀ i, (⟨ab, ao, none⟩ : Addr).add i = at' ab (ao + i) := fun i => at'_add ab ao i
      have hch : ∀ i, ∃ r : α, ∀ (hi : i < len + 1), ∃ cs, w.cells? 0 (at' ab (ao + i * sz)) sz = some cs ∧ cs.length = sz ∧ (enA r).length = sz ∧ ∀ j c, (enA r)[j]? = some c → c.one = true ∧ RP (immOf w) w c (cs.getD j undef) := by
        intro i
        by_cases hi : i < len + 1
        · obtain ⟨cs, h1, x, h2⟩ := key i hi
          obtain ⟨r, h3, h4, h5⟩ := hel n (by omega) cs x h2
          rw [hadd] at h1
          exact ⟨r, fun _ => ⟨cs, h1, h3, h4, h5⟩⟩
        · obtain ⟨cs, h1, x, h2⟩ := key 0 (by omega)
          obtain ⟨r, _⟩ := hel n (by omega) cs x h2
          exact ⟨r, fun h => absurd h hi⟩
      refine ⟨(List.range (len + 1)).map fun i => Classical.choose (hch i), _, rfl, ?_⟩
      have hll : ((List.range (len + 1)).map fun i => Classical.choose (hch i)).length = len + 1 := by simp
      have hget : ∀ (i : Nat) (e : AV), (((List.range (len + 1)).map fun i => Classical.choose (hch i)).map fun r => mk (enA r))[i]? = some e → i < len + 1 ∧ e = mk (enA (Classical.choose (hch i))) := by
        intro i e he
        have hi : i < len + 1 := by
          have := (List.getElem?_eq_some_iff.1 he).1
          simpa using this
        refine ⟨hi, ?_⟩
        rw [List.getElem?_map, List.getElem?_map, List.getElem?_range hi] at he
        simpa using he.symm
      have := RP.slice (imm := immOf w) (w := w) (((List.range (len + 1)).map fun i => Classical.choose (hch i)).map fun r => mk (enA r)) ab ao sz cap (fun i j => (w.cell? (at' ab (ao + i * sz + j))).getD undef) (by simp; omega)
        (fun i e he => by
          obtain ⟨hi, rfl⟩ := hget i e he
          obtain ⟨cs, _, _, h3, _⟩ := Classical.choose_spec (hch i) hi
          rw [hmk]; exact h3)
        (fun i e j c he hc => by
          obtain ⟨hi, rfl⟩ := hget i e he
          obtain ⟨cs, _, _, _, h4⟩ := Classical.choose_spec (hch i) hi
          rw [hmk] at hc
          exact (h4 j c hc).1)
        (fun i e j c he hc => by
          obtain ⟨hi, rfl⟩ := hget i e he
          obtain ⟨cs, h1, h2, h3, h4⟩ := Classical.choose_spec (hch i) hi
          rw [hmk] at hc
          have hj : j < sz := by rw [← h3]; exact (List.getElem?_eq_some_iff.1 hc).1
          have h5 := (h4 j c hc).2
          have h6 := (cells_get h1).2 j hj
          rw [at'_add] at h6
          rw [h6]
          simpa [List.getD_eq_getElem?_getD] using h5)
        (fun i j hi hj => by
          have hi' : i < len + 1 := by simpa using hi
          obtain ⟨cs, h1, h2, h3, h4⟩ := Classical.choose_spec (hch i) hi'
          have h6 := (cells_get h1).2 j hj
          rw [at'_add] at h6
          rw [List.getElem?_eq_getElem (by omega)] at h6
          rw [h6]
          exact ⟨imm_of_cell h6, rfl⟩)
      simpa [at'] using this

/-- The struct 'Raw', as the program's types have it. -/
structure RawTy (P : Program) (t tL : TypeId) (f0 f1 f2 f3 : Field) : Prop where
  und : P.underlying t = some (.struct #[f0, f1, f2, f3])
  cells : P.cellsOf t = 4
  o0 : f0.offset = 0
  o1 : f1.offset = 1
  o2 : f2.offset = 2
  o3 : f3.offset = 3
  c0 : P.cellsOf f0.type = 1
  c1 : P.cellsOf f1.type = 1
  c2 : P.cellsOf f2.type = 1
  c3 : P.cellsOf f3.type = 1
  u0 : P.underlying f0.type = some (.int .i64)
  u1 : P.underlying f1.type = some (.int .i64)
  u2 : P.underlying f2.type = some .string
  t3 : f3.type = tL
  uL : P.underlying tL = some (.slice t)

theorem raw_ones (r : Raw) (j : Nat) (c : AV) (h : r.cells[j]? = some c) : c.one = true := by
  obtain ⟨k, n, s, l⟩ := r
  simp only [Raw.cells] at h
  match j, h with
  | 0, h => simp at h; subst h; rfl
  | 1, h => simp at h; subst h; rfl
  | 2, h => simp at h; subst h; rfl
  | 3, h => simp at h; subst h; rfl
  | j + 4, h => simp at h

theorem trod_raw {t tL : TypeId} {f0 f1 f2 f3 : Field} (T : RawTy P t tL f0 f1 f2 f3) : ∀ (fuel : Nat) (cs : List Value) (x : DataW H × List MemPlace), DataW.trod enc P w 0 sp true fuel t cs = some x →
    ∃ r : Raw, cs.length = 4 ∧ r.cells.length = 4 ∧ ∀ j c, r.cells[j]? = some c → c.one = true ∧ RP (immOf w) w c (cs.getD j undef) := by
  intro fuel
  induction fuel using Nat.strongRecOn with
  | ind fuel ih =>
    intro cs x h
    obtain ⟨xs, n, hf, rfl, hl, hlen, hfl⟩ := DataW.trod_struct T.und h
    rw [T.cells] at hl
    match cs, hl with
    | [v0, v1, v2, v3], _ =>
      match xs, hlen with
      | [y0, y1, y2, y3], _ =>
        have h0 := hfl 0 f0 rfl
        have h1 := hfl 1 f1 rfl
        have h2 := hfl 2 f2 rfl
        have h3 := hfl 3 f3 rfl
        rw [T.o0, T.c0] at h0
        rw [T.o1, T.c1] at h1
        rw [T.o2, T.c2] at h2
        rw [T.o3, T.c3, T.t3] at h3
        simp at h0 h1 h2 h3
        obtain ⟨k, e0, _⟩ := DataW.trod_int T.u0 h0
        obtain ⟨m, e1, _⟩ := DataW.trod_int T.u1 h1
        obtain ⟨s, e2, _⟩ := DataW.trod_string T.u2 h2
        obtain ⟨l, v, e3, hr⟩ := rp_read (α := Raw) T.uL Raw.cells 4 T.cells (by omega) (fuel := n) (fun q hq cs x hx => ih q (by omega) cs x hx) (mk := AV.agg) (fun _ => rfl) h3
        simp at e0 e1 e2 e3
        subst e0; subst e1; subst e2; subst e3
        refine ⟨.mk k m (bytesN s) l, rfl, rfl, ?_⟩
        intro j c hc
        refine ⟨raw_ones _ j c hc, ?_⟩
        simp only [Raw.cells, Raw.avs_eq] at hc
        match j, hc with
        | 0, hc => simp at hc; subst hc; exact .int _ _
        | 1, hc => simp at hc; subst hc; exact .int _ _
        | 2, hc => simp at hc; subst hc; exact .str _
        | 3, hc => simp at hc; subst hc; exact hr
        | j + 4, hc => simp at hc

theorem read_raw {t tL : TypeId} {f0 f1 f2 f3 : Field} (T : RawTy P t tL f0 f1 f2 f3) {v : Value} {d : DataW H} {ps : List MemPlace} (hv : ∃ cs, v = .agg cs) (h : DataW.Trod enc P w 0 sp true t v d ps) : ∃ r : Raw, RP (immOf w) w (.agg r.cells) v := by
  obtain ⟨fuel, h⟩ := h
  obtain ⟨cs, rfl⟩ := hv
  obtain ⟨r, h1, h2, h3⟩ := trod_raw T fuel _ _ h
  simp only [Value.cells] at h1 h3
  exact ⟨r, .agg _ _ (by simpa [h2] using h1) (fun i c hc => (h3 i c hc).1) (fun i c hc => by simpa [Array.getD_eq_getD_getElem?, List.getD_eq_getElem?_getD] using (h3 i c hc).2)⟩

theorem read_raws {t tL : TypeId} {f0 f1 f2 f3 : Field} (T : RawTy P t tL f0 f1 f2 f3) {v : Value} {d : DataW H} {ps : List MemPlace} (hv : ∀ cs, v ≠ .agg cs) (h : DataW.Trod enc P w 0 sp true tL v d ps) : ∃ l : List Raw, RP (immOf w) w (.slice (l.map fun r => .agg r.cells)) v := by
  obtain ⟨fuel, h⟩ := h
  obtain ⟨l, v', e, hr⟩ := rp_read (α := Raw) T.uL Raw.cells 4 T.cells (by omega) (fun q hq cs x hx => trod_raw T q cs x hx) (mk := AV.agg) (fun _ => rfl) h
  have : v = v' := by
    cases v <;> simp [Value.cells] at e <;> first | exact e | exact absurd rfl (hv _)
  subst this
  exact ⟨l, hr⟩
end
end Go.Vs

namespace Go.Vs
open Go
set_option linter.unusedSimpArgs false
set_option linter.unusedVariables false

section
variable {P : Program} {gl : Globs} {g : Gh} {d : Nat} {s : St} {tmps : Array Value} {w w' : World}

theorem Rel.grown (R : Rel gl g d s tmps w) (hs : w.heap.size ≤ w'.heap.size) (hh : ∀ b, b < w.heap.size → w'.heap[b]? = w.heap[b]?) (ho : w'.os = w.os) (ht : w'.tape = w.tape) (hu : w'.output = w.output) :
    Rel gl g d s tmps w' ∧ Step g w g w' := by
  have hlt : ∀ b o, o < g.imm b → b < w.heap.size := fun b o h => by
    rcases Nat.lt_or_ge b w.heap.size with hb | hb
    · exact hb
    · rw [(R.fresh b hb).2] at h; omega
  have e : Ext g w g w' := ⟨fun _ => Nat.le_refl _, fun b o h => World.cell?_of_block (w := w) (hh b (hlt b o h))⟩
  have k : ∀ κ, Keep g w g w' κ := fun κ b hb => ⟨hb, rfl, hh b (by
    rcases Nat.lt_or_ge b w.heap.size with hb' | hb'
    · exact hb'
    · rw [(R.fresh b hb').1] at hb; cases hb)⟩
  refine ⟨R.on e (fun _ _ _ h => h) (fun n => .inl ⟨rfl, rfl, fun c => k _⟩) (fun n b h => .inl ⟨h, k _, fun i => k _⟩) R.dead R.excl (fun l n b h => .inl ⟨h, k _, fun i => k _⟩) R.deadO R.lvl (fun b hb => R.fresh b (by omega)) R.locs, ?_⟩
  exact ⟨e, hs, fun b hb hn => ⟨hn, rfl, hh b hb⟩, ho, ht, hu, fun _ _ _ h => h⟩

theorem tab_of {k : Nat} {name : String} {zs : List Int} {kd : IntKind} (R : Rel gl g d s tmps w) (hn : P.globalNamed name = some k) (hg : gl k = zs.map (AV.int kd)) (hne : zs ≠ []) : Lib.TabIs P w name kd zs := by
  obtain ⟨h1, h2⟩ := R.globs k
  rw [hg] at h1 h2
  obtain ⟨_, h4⟩ := h2 (by simpa using hne)
  unfold Lib.TabIs World.var?
  rw [hn]
  have hc0 : ∀ (j : Nat) (z : Int), zs[j]? = some z → w.cell? (at' k j) = some (.int kd z) := by
    intro j z hz
    obtain ⟨_, x, hx, hx2, _⟩ := h1 j (.int kd z) (by simp [hz])
    cases hx
    simpa using hx2
  cases hb : w.heap[k]? with
  | none =>
    have hz : zs[0]? = some (zs[0]'(List.length_pos_iff.2 hne)) := List.getElem?_eq_getElem _
    have := hc0 0 _ hz
    simp [World.cell?, at', hb] at this
  | some o =>
    cases o with
    | cells c t f =>
      simp only [Option.bind_some, Option.some.injEq]
      have hcell : ∀ j, w.cell? (at' k j) = c[j]? := fun j => by simp [World.cell?, at', hb]
      have hl : c.toList = zs.map fun z => Value.int kd z := by
        apply List.ext_getElem?
        intro j
        rw [List.getElem?_map]
        cases hz : zs[j]? with
        | some z =>
          have := hc0 j z hz
          rw [hcell] at this
          simpa using this
        | none =>
          have hlen : zs.length ≤ j := by simpa using hz
          have hcz : c[zs.length]? = none := by rw [← hcell]; simpa using h4
          have : c.size ≤ zs.length := by simpa using hcz
          simp; omega
      rw [← hl]
      simp [hb]
    | _ =>
      have hz : zs[0]? = some (zs[0]'(List.length_pos_iff.2 hne)) := List.getElem?_eq_getElem _
      have := hc0 0 _ hz
      simp [World.cell?, at', hb] at this

theorem decF_dec : ∀ (n u : Nat), u < 10 ^ n → 0 < n → decF n u = (Lib.decDigits u).map UInt8.toNat
  | 0, u, _, h => by omega
  | n + 1, u, hu, _ => by
    rw [Lib.decDigits]
    simp only [decF]
    by_cases h : u < 10
    · have : (48 + u) % 256 = 48 + u := by omega
      simp [h, UInt8.toNat_ofNat, this]
    · have hn : 0 < n := by
        rcases Nat.eq_zero_or_pos n with rfl | hn
        · simp at hu; omega
        · exact hn
      have h1 : u / 10 < 10 ^ n := by
        rw [Nat.pow_succ] at hu
        omega
      have : (48 + u % 10) % 256 = 48 + u % 10 := by omega
      rw [if_neg h, dif_neg h, decF_dec n (u / 10) h1 hn]
      simp [UInt8.toNat_ofNat, this]

theorem itoa_lib (n : Int) (h1 : -9223372036854775808 ≤ n) (h2 : n ≤ 9223372036854775807) : itoa n = (Lib.itoa n).map UInt8.toNat := by
  unfold itoa Lib.itoa
  split
  · rw [decF_dec 20 _ (by omega) (by omega)]; rfl
  · rw [decF_dec 20 _ (by omega) (by omega)]

theorem prim_itoa {f k : Nat} (hfn : ∃ fn, P.funcs[f]? = some fn ∧ fn.name ≠ "runtime.NumGoroutine" ∧ fn.body.isSome = true) (hn : P.globalNamed "internal/strconv.uint64pow10" = some k) (hg : gl k = Lib.pow10Tab.map (AV.int .u64))
    (hc : ∀ (n : Int), -9223372036854775808 ≤ n → n ≤ 9223372036854775807 → ∀ w, Lib.TabIs P w "internal/strconv.uint64pow10" .u64 Lib.pow10Tab →
      Calls P f #[.int .i64 n] w fun e w' => e = .returned (.string ⟨(Lib.itoa n).toArray⟩) ∧ ∃ k os, w' = Sort.grow (w.drewN k) os) : PrimOK P gl f itoaP := by
  intro f' args stk v stk' h
  simp only at h
  by_cases hf : Nat.beq f' f = true
  · rw [hf] at h
    have hf' : f' = f := Nat.eq_of_beq_eq_true hf
    subst hf'
    simp only [cond_true] at h
    refine ⟨hfn, ?_⟩
    intro g w vs hsz R
    unfold itoaP at h
    split at h
    · rename_i v' hv
      simp only [Option.some.injEq, Prod.mk.injEq] at h
      obtain ⟨rfl, rfl⟩ := h
      split at hv
      · rename_i n
        split at hv
        · rename_i hrng
          simp only [Option.some.injEq] at hv
          subst hv
          have hvs : vs = #[.int .i64 n] := by
            have h0 := R.slots 0
            simp [initSt, RV, RV1] at h0
            have : ∃ x, vs = #[x] := by
              obtain ⟨l⟩ := vs
              match l, hsz with
              | [x], _ => exact ⟨x, rfl⟩
            obtain ⟨x, rfl⟩ := this
            simp at h0
            cases h0
            rfl
          subst hvs
          have htab : Lib.TabIs P w "internal/strconv.uint64pow10" .u64 Lib.pow10Tab := tab_of R hn hg (by decide)
          refine (hc n hrng.1 hrng.2 w htab).mono ?_
          rintro e w' ⟨rfl, k, os, rfl⟩
          obtain ⟨R2, S2⟩ := R.grown (w' := Sort.grow (w.drewN k) os) (by simp [Sort.grow, World.drewN]) (fun b hb => by
            simp only [Sort.grow, World.drewN]
            rw [Array.getElem?_append_left hb]) rfl rfl rfl
          have hres : RVres (g.out stk.length) (Sort.grow (w.drewN k) os) stk.length (.str (itoa n)) (.string ⟨(Lib.itoa n).toArray⟩) := by
            refine ⟨?_, rfl⟩
            simp only [RV1]
            have := RP.str (imm := (g.out stk.length).imm) (w := Sort.grow (w.drewN k) os) ⟨(Lib.itoa n).toArray⟩
            rw [itoa_lib n hrng.1 hrng.2]
            simpa [bytesN] using this
          have := out_of R2 S2.toL hres
          exact ⟨_, g.out stk.length, rfl, by simpa [initSt] using this⟩
        · cases hv
      · cases hv
    · cases h
  · have : Nat.beq f' f = false := by cases hb : Nat.beq f' f <;> simp_all
    rw [this] at h
    cases h
end
end Go.Vs

namespace Go.Vs
open Go Go.ChangeShapes Go.WideShapes Go.RowKit
set_option linter.unusedSimpArgs false
set_option linter.unusedVariables false

/-- Each row of a table is the code of that function of the program. -/
def AllOK (P : Program) : List (Nat × AFunc) → Prop
  | [] => True
  | p :: l => (∃ fn, P.funcs[p.1]? = some fn ∧ okFunc P fn p.2 = true) ∧ AllOK P l

theorem allOK_find {P : Program} : ∀ {l : List (Nat × AFunc)}, AllOK P l → ∀ f af, (l.find? fun p => p.1 == f).map (·.2) = some af → ∃ fn, P.funcs[f]? = some fn ∧ okFunc P fn af = true
  | [], _, f, af, h => by simp at h
  | p :: l, hl, f, af, h => by
    by_cases hp : p.1 = f
    · subst hp
      simp at h
      subst h
      exact hl.1
    · simp [hp] at h
      exact allOK_find hl.2 f af (by simpa using h)

section
variable {P : Program} {H : Type} {enc : TypeId × Value → H} {gl : Globs} {prog : Prog} {prims : Prims}

/-- A law that returns true in the value semantics returns true in the model, and leaves what was there. -/
theorem calls_true {f : Nat} {args : List AV} {vs : Array Value} {w : World} (hc : CallOK P gl (callW gl prog prims)) (h : callW gl prog prims f args [] = some (.bool true, []))
    (hsz : vs.size = args.length) (ha : ∀ (i : Nat) (a : AV), args[i]? = some a → RV (gh0 w) w 0 i a (vs.getD i undef)) (hgl : ∀ k, GlobOK (immOf w) w (gl k) k) :
    Calls P f vs w fun e w' => e = .returned (.bool true) ∧ Below w.heap.size w w' := by
  have hr : ∀ n, RV (gh0 w) w 0 n (args.getD n .undef) (vs.getD n undef) := by
    intro n
    rw [List.getD_eq_getElem?_getD]
    cases hn : args[n]? with
    | none => simp [RV, RV1]
    | some a => exact ha n a hn
  refine ((hc f args [] _ _ h).2 (gh0 w) w vs hsz (rel0 hr hgl)).mono ?_
  rintro e w' ⟨cv, g', rfl, ho⟩
  have := ho.res
  simp only [RVres, RV1] at this
  obtain ⟨h1, _⟩ := this
  cases h1
  exact ⟨rfl, below_of_out ho⟩

/-- The readings of the arguments behind the call. -/
theorem trodAll_below (hl : laidOutB P = true) {W W' : World} (hb : Below W.heap.size W W') : ∀ (ts : List TypeId), (∀ t ∈ ts, P.readableRec t = true ∧ t < P.types.size) → ∀ (vs : List Value) (ds : List (DataW H)) (ps : List MemPlace),
    DataW.TrodAll enc P W 0 (fun _ => true) true ts vs ds ps → (∀ x ∈ ps, x.block < W.heap.size) → DataW.TrodAll enc P W' 0 (fun b => decide (b < W.heap.size)) true ts vs ds ps
  | [], _, [], [], ps, h, _ => h
  | [], _, [], _ :: _, _, h, _ => h.elim
  | [], _, _ :: _, _, _, h, _ => h.elim
  | _ :: _, _, [], _, _, h, _ => h.elim
  | _ :: _, _, _ :: _, [], _, h, _ => h.elim
  | t :: ts, ht, v :: vs, d :: ds, ps, h, hp => by
    obtain ⟨p, q, h1, h2, rfl⟩ := h
    obtain ⟨r1, r2⟩ := ht t (by simp)
    exact ⟨p, q, Below.trod hl r1 r2 h1 hb (fun x hx => hp x (by simp [hx])), trodAll_below hl hb ts (fun t h => ht t (by simp [h])) vs ds q h2 (fun x hx => hp x (by simp [hx])), rfl⟩

/-- A row's promise, of a law whose call returns true and turns nothing that was there. -/
theorem post_true {f : Func} {s : ChangeSpec} {apart fresh handsOn : Bool} {W W' : World} {args : Array Value} {ds : List (DataW H)} {before : List MemPlace} {t : TypeId}
    (hl : laidOutB P = true) (hread : ∀ t ∈ f.params.toList, P.readableRec t = true ∧ t < P.types.size)
    (hW : DataW.Whole enc P f.params.toList s.vars apart W args.toList ds [] before) (hv : s.vars = []) (hr : f.resultTypes = #[t]) (hb : P.underlying t = some .bool)
    (hs : s.fn H ds = { results := [.lit (.bool true)], args := ds, vars := [] }) (hbel : Below W.heap.size W W') : s.post enc P f apart fresh handsOn false W args (.bool true) W' := by
  have hlt : ∀ p ∈ before, p.block < W.heap.size := fun p hp => by simpa using hW.lt p hp
  have hW' := hW
  obtain ⟨p, q, hA, hV, rfl, hfz, hnd⟩ := hW
  rw [hv] at hV
  have hq : q = [] := hV
  subst hq
  simp only [List.append_nil] at hW' hlt
  refine ⟨ds, [], p, [], p, [], hW', ?_, ?_, ?_, hbel.frame _, fun h => by cases h⟩
  · simp only [List.append_nil, hs]
    rw [hr]
    exact trodAll_mk1 (shut_bool hb _)
  · simp only [List.append_nil, hs]
    exact trodAll_below hl hbel _ hread _ _ _ hA hlt
  · simp only [List.append_nil, hs, hv]
    rfl
end
end Go.Vs

namespace Go.Vs
open Go Go.ChangeShapes Go.WideShapes Go.RowKit
set_option linter.unusedSimpArgs false
set_option linter.unusedVariables false
section
variable {H : Type} {enc : TypeId × Value → H} {P : Program} {w : World} {sp : Nat → Bool}

theorem one_cell {v v' : Value} (hv : ∀ cs, v ≠ .agg cs) (h : v.cells.toList = [v']) : v = v' := by
  cases v <;> simp [Value.cells] at h <;> first | exact h | exact absurd rfl (hv _)

theorem read_str {t : TypeId} (ht : P.underlying t = some .string) {v : Value} {d : DataW H} {ps : List MemPlace} (hv : ∀ cs, v ≠ .agg cs) (h : DataW.Trod enc P w 0 sp true t v d ps) : ∃ s : Str, RP (immOf w) w (.str s) v := by
  obtain ⟨fuel, h⟩ := h
  obtain ⟨s, e, _⟩ := DataW.trod_string ht h
  rw [one_cell hv e]
  exact ⟨_, .str s⟩

theorem read_ints {t e : TypeId} (ht : P.underlying t = some (.slice e)) (he : P.underlying e = some (.int .i64)) (hc : P.cellsOf e = 1) {v : Value} {d : DataW H} {ps : List MemPlace} (hv : ∀ cs, v ≠ .agg cs) (h : DataW.Trod enc P w 0 sp true t v d ps) : ∃ l : List Int, RP (immOf w) w (.slice (l.map (AV.int .i64))) v := by
  obtain ⟨fuel, h⟩ := h
  obtain ⟨l, v', e, hr⟩ := rp_read (α := Int) ht (fun n => [.int .i64 n]) 1 hc (by omega) (fun q hq cs x hx => by
    obtain ⟨n, e, _⟩ := DataW.trod_int he hx
    subst e
    refine ⟨n, rfl, rfl, ?_⟩
    intro j c hc
    match j, hc with
    | 0, hc => simp at hc; subst hc; exact ⟨rfl, .int _ _⟩
    | j + 1, hc => simp at hc) (mk := fun l => l.headD .undef) (fun _ => rfl) h
  rw [one_cell hv e]
  exact ⟨l, hr⟩

/-- The struct of a symbol, as the program's types have it. -/
structure SymTy (P : Program) (t : TypeId) (f0 f1 : Field) : Prop where
  und : P.underlying t = some (.struct #[f0, f1])
  cells : P.cellsOf t = 2
  o0 : f0.offset = 0
  o1 : f1.offset = 1
  c0 : P.cellsOf f0.type = 1
  c1 : P.cellsOf f1.type = 1
  u0 : P.underlying f0.type = some .string
  u1 : P.underlying f1.type = some .string

theorem read_sym {t : TypeId} {f0 f1 : Field} (T : SymTy P t f0 f1) {v : Value} {d : DataW H} {ps : List MemPlace} (hv : ∃ cs, v = .agg cs) (h : DataW.Trod enc P w 0 sp true t v d ps) : ∃ s : Sym, RP (immOf w) w (.agg s.cells) v := by
  obtain ⟨fuel, h⟩ := h
  obtain ⟨cs, rfl⟩ := hv
  obtain ⟨xs, n, hf, _, hl, hlen, hfl⟩ := DataW.trod_struct T.und h
  rw [T.cells] at hl
  simp only [Value.cells] at hl hfl
  obtain ⟨l⟩ := cs
  match l, hl with
  | [v0, v1], _ =>
    match xs, hlen with
    | [y0, y1], _ =>
      have h0 := hfl 0 f0 rfl
      have h1 := hfl 1 f1 rfl
      rw [T.o0, T.c0] at h0
      rw [T.o1, T.c1] at h1
      simp at h0 h1
      obtain ⟨s0, e0, _⟩ := DataW.trod_string T.u0 h0
      obtain ⟨s1, e1, _⟩ := DataW.trod_string T.u1 h1
      simp at e0 e1
      subst e0; subst e1
      refine ⟨⟨bytesN s0, bytesN s1⟩, .agg _ _ rfl (fun i c hc => ?_) (fun i c hc => ?_)⟩
      · simp only [Sym.cells] at hc
        match i, hc with
        | 0, hc => simp at hc; subst hc; rfl
        | 1, hc => simp at hc; subst hc; rfl
        | i + 2, hc => simp at hc
      · simp only [Sym.cells] at hc
        match i, hc with
        | 0, hc => simp at hc; subst hc; exact .str _
        | 1, hc => simp at hc; subst hc; exact .str _
        | i + 2, hc => simp at hc

theorem okWide_agg {t : TypeId} {fs : Array Field} (ht : P.underlying t = some (.struct fs)) {base : Nat} {v : Value} (h : Value.okWide P w .any base t v) : ∃ cs, v = .agg cs := by
  unfold Value.okWide at h
  rw [ht] at h
  obtain ⟨cs, h, _⟩ := h
  exact ⟨cs, h⟩

theorem okWide_str {t : TypeId} (ht : P.underlying t = some .string) {base : Nat} {v : Value} (h : Value.okWide P w .any base t v) : ∀ cs, v ≠ .agg cs := by
  intro cs e
  subst e
  unfold Value.okWide at h
  rw [ht] at h
  simp [Cell.okWide, Cell.ok, ht] at h

theorem okWide_sl {t e : TypeId} (ht : P.underlying t = some (.slice e)) {base : Nat} {v : Value} (h : Value.okWide P w .any base t v) : ∀ cs, v ≠ .agg cs := by
  intro cs e
  subst e
  unfold Value.okWide at h
  rw [ht] at h
  simp [Cell.okWide, Cell.ok, ht] at h
end
end Go.Vs

namespace Go.Proofs.YtgjiooieoeoghaaGreatDoor
open Go Go.Vs
set_option maxRecDepth 100000
namespace Seat
def ids : List Nat := [3, 4, 5, 6, 7, 8, 9, 10, 11, 12, 13, 16, 17, 15, 18, 14, 19, 20, 21, 23, 24, 22, 25, 26, 27, 28, 29, 30, 31, 32, 33, 34, 35, 36, 37, 38, 39, 40, 41, 42, 43, 44, 45, 46, 47, 49, 48, 50, 51, 52, 53, 54, 57, 56, 58, 59, 55, 60, 61, 62, 63, 64, 65, 66, 67, 69, 68, 71, 70, 72, 74, 73, 75, 76, 77, 78, 79, 80, 81, 82, 83, 84, 86, 85, 87, 88, 89, 90, 93, 92, 94, 95, 96, 97, 98, 99, 100, 101, 102, 103, 104, 105, 106, 107, 108, 91, 110, 111, 112, 113, 115, 116, 117, 118, 119, 120, 121, 122, 123, 124, 125, 126, 127, 128, 129, 109, 130, 131, 132, 133, 135, 136, 137, 138, 139, 140, 145, 146, 147, 148, 149, 150, 151, 152, 158, 159, 160, 161, 162, 163, 166, 167, 168, 169, 171, 170, 172, 173, 174, 175, 176, 177, 178, 179, 180, 181, 182, 183, 184, 185, 186, 187]
def gids : List Nat := [0, 1, 2, 3, 4, 999999]
def I (n : Nat) : Nat := ids.getD n 999999
def J (n : Nat) : Nat := gids.getD n 999999
def table : List (Nat × AFunc) := [(3, C.F0 I J), (4, C.F1 I J), (5, C.F2 I J), (6, C.F3 I J), (7, C.F4 I J), (8, C.F5 I J), (9, C.F6 I J), (10, C.F7 I J), (11, C.F8 I J), (12, C.F9 I J), (13, C.F10 I J), (14, C.F15 I J), (15, C.F13 I J), (16, C.F11 I J), (17, C.F12 I J), (18, C.F14 I J), (19, C.F16 I J), (20, C.F17 I J), (21, C.F18 I J), (22, C.F21 I J), (23, C.F19 I J), (24, C.F20 I J), (25, C.F22 I J), (26, C.F23 I J), (27, C.F24 I J), (28, C.F25 I J), (29, C.F26 I J), (30, C.F27 I J), (31, C.F28 I J), (32, C.F29 I J), (33, C.F30 I J), (34, C.F31 I J), (35, C.F32 I J), (36, C.F33 I J), (37, C.F34 I J), (38, C.F35 I J), (39, C.F36 I J), (40, C.F37 I J), (41, C.F38 I J), (42, C.F39 I J), (43, C.F40 I J), (44, C.F41 I J), (45, C.F42 I J), (46, C.F43 I J), (47, C.F44 I J), (48, C.F46 I J), (49, C.F45 I J), (50, C.F47 I J), (51, C.F48 I J), (52, C.F49 I J), (53, C.F50 I J), (54, C.F51 I J), (55, C.F56 I J), (56, C.F53 I J), (57, C.F52 I J), (58, C.F54 I J), (59, C.F55 I J), (60, C.F57 I J), (61, C.F58 I J), (62, C.F59 I J), (63, C.F60 I J), (64, C.F61 I J), (65, C.F62 I J), (66, C.F63 I J), (67, C.F64 I J), (68, C.F66 I J), (69, C.F65 I J), (70, C.F68 I J), (71, C.F67 I J), (72, C.F69 I J), (73, C.F71 I J), (74, C.F70 I J), (75, C.F72 I J), (76, C.F73 I J), (77, C.F74 I J), (78, C.F75 I J), (80, C.F77 I J), (81, C.F78 I J), (82, C.F79 I J), (83, C.F80 I J), (84, C.F81 I J), (85, C.F83 I J), (86, C.F82 I J), (87, C.F84 I J), (88, C.F85 I J), (89, C.F86 I J), (90, C.F87 I J), (91, C.F105 I J), (92, C.F89 I J), (94, C.F90 I J), (95, C.F91 I J), (96, C.F92 I J), (97, C.F93 I J), (98, C.F94 I J), (99, C.F95 I J), (100, C.F96 I J), (101, C.F97 I J), (102, C.F98 I J), (103, C.F99 I J), (104, C.F100 I J), (105, C.F101 I J), (106, C.F102 I J), (107, C.F103 I J), (108, C.F104 I J), (109, C.F125 I J), (110, C.F106 I J), (111, C.F107 I J), (112, C.F108 I J), (113, C.F109 I J), (115, C.F110 I J), (116, C.F111 I J), (117, C.F112 I J), (118, C.F113 I J), (119, C.F114 I J), (120, C.F115 I J), (121, C.F116 I J), (122, C.F117 I J), (123, C.F118 I J), (124, C.F119 I J), (125, C.F120 I J), (126, C.F121 I J), (127, C.F122 I J), (128, C.F123 I J), (129, C.F124 I J), (130, C.F126 I J), (131, C.F127 I J), (132, C.F128 I J), (133, C.F129 I J), (135, C.F130 I J), (136, C.F131 I J), (137, C.F132 I J), (138, C.F133 I J), (139, C.F134 I J), (140, C.F135 I J), (145, C.F136 I J), (146, C.F137 I J), (147, C.F138 I J), (148, C.F139 I J), (149, C.F140 I J), (150, C.F141 I J), (151, C.F142 I J), (152, C.F143 I J), (158, C.F144 I J), (159, C.F145 I J), (160, C.F146 I J), (161, C.F147 I J), (162, C.F148 I J), (163, C.F149 I J), (166, C.F150 I J), (167, C.F151 I J), (168, C.F152 I J), (169, C.F153 I J), (170, C.F155 I J), (171, C.F154 I J), (172, C.F156 I J), (173, C.F157 I J), (176, C.F160 I J), (177, C.F161 I J), (178, C.F162 I J), (179, C.F163 I J), (180, C.F164 I J), (181, C.F165 I J), (182, C.F166 I J), (183, C.F167 I J), (184, C.F168 I J), (186, C.F170 I J), (187, C.F171 I J), (79, C.F76 I J)]
def prog (n : Nat) : Option AFunc := (table.find? fun p => p.1 == n).map (·.2)
theorem ok3 : okFunc Tryz.prog Tryz.f3 (C.F0 I J) = true := by kernel_rfl
theorem ok4 : okFunc Tryz.prog Tryz.f4 (C.F1 I J) = true := by kernel_rfl
theorem ok5 : okFunc Tryz.prog Tryz.f5 (C.F2 I J) = true := by kernel_rfl
theorem ok6 : okFunc Tryz.prog Tryz.f6 (C.F3 I J) = true := by kernel_rfl
theorem ok7 : okFunc Tryz.prog Tryz.f7 (C.F4 I J) = true := by kernel_rfl
theorem ok8 : okFunc Tryz.prog Tryz.f8 (C.F5 I J) = true := by kernel_rfl
theorem ok9 : okFunc Tryz.prog Tryz.f9 (C.F6 I J) = true := by kernel_rfl
theorem ok10 : okFunc Tryz.prog Tryz.f10 (C.F7 I J) = true := by kernel_rfl
theorem ok11 : okFunc Tryz.prog Tryz.f11 (C.F8 I J) = true := by kernel_rfl
theorem ok12 : okFunc Tryz.prog Tryz.f12 (C.F9 I J) = true := by kernel_rfl
theorem ok13 : okFunc Tryz.prog Tryz.f13 (C.F10 I J) = true := by kernel_rfl
theorem ok14 : okFunc Tryz.prog Tryz.f14 (C.F15 I J) = true := by kernel_rfl
theorem ok15 : okFunc Tryz.prog Tryz.f15 (C.F13 I J) = true := by kernel_rfl
theorem ok16 : okFunc Tryz.prog Tryz.f16 (C.F11 I J) = true := by kernel_rfl
theorem ok17 : okFunc Tryz.prog Tryz.f17 (C.F12 I J) = true := by kernel_rfl
theorem ok18 : okFunc Tryz.prog Tryz.f18 (C.F14 I J) = true := by kernel_rfl
theorem ok19 : okFunc Tryz.prog Tryz.f19 (C.F16 I J) = true := by kernel_rfl
theorem ok20 : okFunc Tryz.prog Tryz.f20 (C.F17 I J) = true := by kernel_rfl
theorem ok21 : okFunc Tryz.prog Tryz.f21 (C.F18 I J) = true := by kernel_rfl
theorem ok22 : okFunc Tryz.prog Tryz.f22 (C.F21 I J) = true := by kernel_rfl
theorem ok23 : okFunc Tryz.prog Tryz.f23 (C.F19 I J) = true := by kernel_rfl
theorem ok24 : okFunc Tryz.prog Tryz.f24 (C.F20 I J) = true := by kernel_rfl
theorem ok25 : okFunc Tryz.prog Tryz.f25 (C.F22 I J) = true := by kernel_rfl
theorem ok26 : okFunc Tryz.prog Tryz.f26 (C.F23 I J) = true := by kernel_rfl
theorem ok27 : okFunc Tryz.prog Tryz.f27 (C.F24 I J) = true := by kernel_rfl
theorem ok28 : okFunc Tryz.prog Tryz.f28 (C.F25 I J) = true := by kernel_rfl
theorem ok29 : okFunc Tryz.prog Tryz.f29 (C.F26 I J) = true := by kernel_rfl
theorem ok30 : okFunc Tryz.prog Tryz.f30 (C.F27 I J) = true := by kernel_rfl
theorem ok31 : okFunc Tryz.prog Tryz.f31 (C.F28 I J) = true := by kernel_rfl
theorem ok32 : okFunc Tryz.prog Tryz.f32 (C.F29 I J) = true := by kernel_rfl
theorem ok33 : okFunc Tryz.prog Tryz.f33 (C.F30 I J) = true := by kernel_rfl
theorem ok34 : okFunc Tryz.prog Tryz.f34 (C.F31 I J) = true := by kernel_rfl
theorem ok35 : okFunc Tryz.prog Tryz.f35 (C.F32 I J) = true := by kernel_rfl
theorem ok36 : okFunc Tryz.prog Tryz.f36 (C.F33 I J) = true := by kernel_rfl
theorem ok37 : okFunc Tryz.prog Tryz.f37 (C.F34 I J) = true := by kernel_rfl
theorem ok38 : okFunc Tryz.prog Tryz.f38 (C.F35 I J) = true := by kernel_rfl
theorem ok39 : okFunc Tryz.prog Tryz.f39 (C.F36 I J) = true := by kernel_rfl
theorem ok40 : okFunc Tryz.prog Tryz.f40 (C.F37 I J) = true := by kernel_rfl
theorem ok41 : okFunc Tryz.prog Tryz.f41 (C.F38 I J) = true := by kernel_rfl
theorem ok42 : okFunc Tryz.prog Tryz.f42 (C.F39 I J) = true := by kernel_rfl
theorem ok43 : okFunc Tryz.prog Tryz.f43 (C.F40 I J) = true := by kernel_rfl
theorem ok44 : okFunc Tryz.prog Tryz.f44 (C.F41 I J) = true := by kernel_rfl
theorem ok45 : okFunc Tryz.prog Tryz.f45 (C.F42 I J) = true := by kernel_rfl
theorem ok46 : okFunc Tryz.prog Tryz.f46 (C.F43 I J) = true := by kernel_rfl
theorem ok47 : okFunc Tryz.prog Tryz.f47 (C.F44 I J) = true := by kernel_rfl
theorem ok48 : okFunc Tryz.prog Tryz.f48 (C.F46 I J) = true := by kernel_rfl
theorem ok49 : okFunc Tryz.prog Tryz.f49 (C.F45 I J) = true := by kernel_rfl
theorem ok50 : okFunc Tryz.prog Tryz.f50 (C.F47 I J) = true := by kernel_rfl
theorem ok51 : okFunc Tryz.prog Tryz.f51 (C.F48 I J) = true := by kernel_rfl
theorem ok52 : okFunc Tryz.prog Tryz.f52 (C.F49 I J) = true := by kernel_rfl
theorem ok53 : okFunc Tryz.prog Tryz.f53 (C.F50 I J) = true := by kernel_rfl
theorem ok54 : okFunc Tryz.prog Tryz.f54 (C.F51 I J) = true := by kernel_rfl
theorem ok55 : okFunc Tryz.prog Tryz.f55 (C.F56 I J) = true := by kernel_rfl
theorem ok56 : okFunc Tryz.prog Tryz.f56 (C.F53 I J) = true := by kernel_rfl
theorem ok57 : okFunc Tryz.prog Tryz.f57 (C.F52 I J) = true := by kernel_rfl
theorem ok58 : okFunc Tryz.prog Tryz.f58 (C.F54 I J) = true := by kernel_rfl
theorem ok59 : okFunc Tryz.prog Tryz.f59 (C.F55 I J) = true := by kernel_rfl
theorem ok60 : okFunc Tryz.prog Tryz.f60 (C.F57 I J) = true := by kernel_rfl
theorem ok61 : okFunc Tryz.prog Tryz.f61 (C.F58 I J) = true := by kernel_rfl
theorem ok62 : okFunc Tryz.prog Tryz.f62 (C.F59 I J) = true := by kernel_rfl
theorem ok63 : okFunc Tryz.prog Tryz.f63 (C.F60 I J) = true := by kernel_rfl
theorem ok64 : okFunc Tryz.prog Tryz.f64 (C.F61 I J) = true := by kernel_rfl
theorem ok65 : okFunc Tryz.prog Tryz.f65 (C.F62 I J) = true := by kernel_rfl
theorem ok66 : okFunc Tryz.prog Tryz.f66 (C.F63 I J) = true := by kernel_rfl
theorem ok67 : okFunc Tryz.prog Tryz.f67 (C.F64 I J) = true := by kernel_rfl
theorem ok68 : okFunc Tryz.prog Tryz.f68 (C.F66 I J) = true := by kernel_rfl
theorem ok69 : okFunc Tryz.prog Tryz.f69 (C.F65 I J) = true := by kernel_rfl
theorem ok70 : okFunc Tryz.prog Tryz.f70 (C.F68 I J) = true := by kernel_rfl
theorem ok71 : okFunc Tryz.prog Tryz.f71 (C.F67 I J) = true := by kernel_rfl
theorem ok72 : okFunc Tryz.prog Tryz.f72 (C.F69 I J) = true := by kernel_rfl
theorem ok73 : okFunc Tryz.prog Tryz.f73 (C.F71 I J) = true := by kernel_rfl
theorem ok74 : okFunc Tryz.prog Tryz.f74 (C.F70 I J) = true := by kernel_rfl
theorem ok75 : okFunc Tryz.prog Tryz.f75 (C.F72 I J) = true := by kernel_rfl
theorem ok76 : okFunc Tryz.prog Tryz.f76 (C.F73 I J) = true := by kernel_rfl
theorem ok77 : okFunc Tryz.prog Tryz.f77 (C.F74 I J) = true := by kernel_rfl
theorem ok78 : okFunc Tryz.prog Tryz.f78 (C.F75 I J) = true := by kernel_rfl
theorem ok80 : okFunc Tryz.prog Tryz.f80 (C.F77 I J) = true := by kernel_rfl
theorem ok81 : okFunc Tryz.prog Tryz.f81 (C.F78 I J) = true := by kernel_rfl
theorem ok82 : okFunc Tryz.prog Tryz.f82 (C.F79 I J) = true := by kernel_rfl
theorem ok83 : okFunc Tryz.prog Tryz.f83 (C.F80 I J) = true := by kernel_rfl
theorem ok84 : okFunc Tryz.prog Tryz.f84 (C.F81 I J) = true := by kernel_rfl
theorem ok85 : okFunc Tryz.prog Tryz.f85 (C.F83 I J) = true := by kernel_rfl
theorem ok86 : okFunc Tryz.prog Tryz.f86 (C.F82 I J) = true := by kernel_rfl
theorem ok87 : okFunc Tryz.prog Tryz.f87 (C.F84 I J) = true := by kernel_rfl
theorem ok88 : okFunc Tryz.prog Tryz.f88 (C.F85 I J) = true := by kernel_rfl
theorem ok89 : okFunc Tryz.prog Tryz.f89 (C.F86 I J) = true := by kernel_rfl
theorem ok90 : okFunc Tryz.prog Tryz.f90 (C.F87 I J) = true := by kernel_rfl
theorem ok91 : okFunc Tryz.prog Tryz.f91 (C.F105 I J) = true := by kernel_rfl
theorem ok92 : okFunc Tryz.prog Tryz.f92 (C.F89 I J) = true := by kernel_rfl
theorem ok94 : okFunc Tryz.prog Tryz.f94 (C.F90 I J) = true := by kernel_rfl
theorem ok95 : okFunc Tryz.prog Tryz.f95 (C.F91 I J) = true := by kernel_rfl
theorem ok96 : okFunc Tryz.prog Tryz.f96 (C.F92 I J) = true := by kernel_rfl
theorem ok97 : okFunc Tryz.prog Tryz.f97 (C.F93 I J) = true := by kernel_rfl
theorem ok98 : okFunc Tryz.prog Tryz.f98 (C.F94 I J) = true := by kernel_rfl
theorem ok99 : okFunc Tryz.prog Tryz.f99 (C.F95 I J) = true := by kernel_rfl
theorem ok100 : okFunc Tryz.prog Tryz.f100 (C.F96 I J) = true := by kernel_rfl
theorem ok101 : okFunc Tryz.prog Tryz.f101 (C.F97 I J) = true := by kernel_rfl
theorem ok102 : okFunc Tryz.prog Tryz.f102 (C.F98 I J) = true := by kernel_rfl
theorem ok103 : okFunc Tryz.prog Tryz.f103 (C.F99 I J) = true := by kernel_rfl
theorem ok104 : okFunc Tryz.prog Tryz.f104 (C.F100 I J) = true := by kernel_rfl
theorem ok105 : okFunc Tryz.prog Tryz.f105 (C.F101 I J) = true := by kernel_rfl
theorem ok106 : okFunc Tryz.prog Tryz.f106 (C.F102 I J) = true := by kernel_rfl
theorem ok107 : okFunc Tryz.prog Tryz.f107 (C.F103 I J) = true := by kernel_rfl
theorem ok108 : okFunc Tryz.prog Tryz.f108 (C.F104 I J) = true := by kernel_rfl
theorem ok109 : okFunc Tryz.prog Tryz.f109 (C.F125 I J) = true := by kernel_rfl
theorem ok110 : okFunc Tryz.prog Tryz.f110 (C.F106 I J) = true := by kernel_rfl
theorem ok111 : okFunc Tryz.prog Tryz.f111 (C.F107 I J) = true := by kernel_rfl
theorem ok112 : okFunc Tryz.prog Tryz.f112 (C.F108 I J) = true := by kernel_rfl
theorem ok113 : okFunc Tryz.prog Tryz.f113 (C.F109 I J) = true := by kernel_rfl
theorem ok115 : okFunc Tryz.prog Tryz.f115 (C.F110 I J) = true := by kernel_rfl
theorem ok116 : okFunc Tryz.prog Tryz.f116 (C.F111 I J) = true := by kernel_rfl
theorem ok117 : okFunc Tryz.prog Tryz.f117 (C.F112 I J) = true := by kernel_rfl
theorem ok118 : okFunc Tryz.prog Tryz.f118 (C.F113 I J) = true := by kernel_rfl
theorem ok119 : okFunc Tryz.prog Tryz.f119 (C.F114 I J) = true := by kernel_rfl
theorem ok120 : okFunc Tryz.prog Tryz.f120 (C.F115 I J) = true := by kernel_rfl
theorem ok121 : okFunc Tryz.prog Tryz.f121 (C.F116 I J) = true := by kernel_rfl
theorem ok122 : okFunc Tryz.prog Tryz.f122 (C.F117 I J) = true := by kernel_rfl
theorem ok123 : okFunc Tryz.prog Tryz.f123 (C.F118 I J) = true := by kernel_rfl
theorem ok124 : okFunc Tryz.prog Tryz.f124 (C.F119 I J) = true := by kernel_rfl
theorem ok125 : okFunc Tryz.prog Tryz.f125 (C.F120 I J) = true := by kernel_rfl
theorem ok126 : okFunc Tryz.prog Tryz.f126 (C.F121 I J) = true := by kernel_rfl
theorem ok127 : okFunc Tryz.prog Tryz.f127 (C.F122 I J) = true := by kernel_rfl
theorem ok128 : okFunc Tryz.prog Tryz.f128 (C.F123 I J) = true := by kernel_rfl
theorem ok129 : okFunc Tryz.prog Tryz.f129 (C.F124 I J) = true := by kernel_rfl
theorem ok130 : okFunc Tryz.prog Tryz.f130 (C.F126 I J) = true := by kernel_rfl
theorem ok131 : okFunc Tryz.prog Tryz.f131 (C.F127 I J) = true := by kernel_rfl
theorem ok132 : okFunc Tryz.prog Tryz.f132 (C.F128 I J) = true := by kernel_rfl
theorem ok133 : okFunc Tryz.prog Tryz.f133 (C.F129 I J) = true := by kernel_rfl
theorem ok135 : okFunc Tryz.prog Tryz.f135 (C.F130 I J) = true := by kernel_rfl
theorem ok136 : okFunc Tryz.prog Tryz.f136 (C.F131 I J) = true := by kernel_rfl
theorem ok137 : okFunc Tryz.prog Tryz.f137 (C.F132 I J) = true := by kernel_rfl
theorem ok138 : okFunc Tryz.prog Tryz.f138 (C.F133 I J) = true := by kernel_rfl
theorem ok139 : okFunc Tryz.prog Tryz.f139 (C.F134 I J) = true := by kernel_rfl
theorem ok140 : okFunc Tryz.prog Tryz.f140 (C.F135 I J) = true := by kernel_rfl
theorem ok145 : okFunc Tryz.prog Tryz.f145 (C.F136 I J) = true := by kernel_rfl
theorem ok146 : okFunc Tryz.prog Tryz.f146 (C.F137 I J) = true := by kernel_rfl
theorem ok147 : okFunc Tryz.prog Tryz.f147 (C.F138 I J) = true := by kernel_rfl
theorem ok148 : okFunc Tryz.prog Tryz.f148 (C.F139 I J) = true := by kernel_rfl
theorem ok149 : okFunc Tryz.prog Tryz.f149 (C.F140 I J) = true := by kernel_rfl
theorem ok150 : okFunc Tryz.prog Tryz.f150 (C.F141 I J) = true := by kernel_rfl
theorem ok151 : okFunc Tryz.prog Tryz.f151 (C.F142 I J) = true := by kernel_rfl
theorem ok152 : okFunc Tryz.prog Tryz.f152 (C.F143 I J) = true := by kernel_rfl
theorem ok158 : okFunc Tryz.prog Tryz.f158 (C.F144 I J) = true := by kernel_rfl
theorem ok159 : okFunc Tryz.prog Tryz.f159 (C.F145 I J) = true := by kernel_rfl
theorem ok160 : okFunc Tryz.prog Tryz.f160 (C.F146 I J) = true := by kernel_rfl
theorem ok161 : okFunc Tryz.prog Tryz.f161 (C.F147 I J) = true := by kernel_rfl
theorem ok162 : okFunc Tryz.prog Tryz.f162 (C.F148 I J) = true := by kernel_rfl
theorem ok163 : okFunc Tryz.prog Tryz.f163 (C.F149 I J) = true := by kernel_rfl
theorem ok166 : okFunc Tryz.prog Tryz.f166 (C.F150 I J) = true := by kernel_rfl
theorem ok167 : okFunc Tryz.prog Tryz.f167 (C.F151 I J) = true := by kernel_rfl
theorem ok168 : okFunc Tryz.prog Tryz.f168 (C.F152 I J) = true := by kernel_rfl
theorem ok169 : okFunc Tryz.prog Tryz.f169 (C.F153 I J) = true := by kernel_rfl
theorem ok170 : okFunc Tryz.prog Tryz.f170 (C.F155 I J) = true := by kernel_rfl
theorem ok171 : okFunc Tryz.prog Tryz.f171 (C.F154 I J) = true := by kernel_rfl
theorem ok172 : okFunc Tryz.prog Tryz.f172 (C.F156 I J) = true := by kernel_rfl
theorem ok173 : okFunc Tryz.prog Tryz.f173 (C.F157 I J) = true := by kernel_rfl
theorem ok176 : okFunc Tryz.prog Tryz.f176 (C.F160 I J) = true := by kernel_rfl
theorem ok177 : okFunc Tryz.prog Tryz.f177 (C.F161 I J) = true := by kernel_rfl
theorem ok178 : okFunc Tryz.prog Tryz.f178 (C.F162 I J) = true := by kernel_rfl
theorem ok179 : okFunc Tryz.prog Tryz.f179 (C.F163 I J) = true := by kernel_rfl
theorem ok180 : okFunc Tryz.prog Tryz.f180 (C.F164 I J) = true := by kernel_rfl
theorem ok181 : okFunc Tryz.prog Tryz.f181 (C.F165 I J) = true := by kernel_rfl
theorem ok182 : okFunc Tryz.prog Tryz.f182 (C.F166 I J) = true := by kernel_rfl
theorem ok183 : okFunc Tryz.prog Tryz.f183 (C.F167 I J) = true := by kernel_rfl
theorem ok184 : okFunc Tryz.prog Tryz.f184 (C.F168 I J) = true := by kernel_rfl
theorem ok186 : okFunc Tryz.prog Tryz.f186 (C.F170 I J) = true := by kernel_rfl
theorem ok187 : okFunc Tryz.prog Tryz.f187 (C.F171 I J) = true := by kernel_rfl
theorem ok79 : okFunc Tryz.prog Tryz.f79 (C.F76 I J) = true := by kernel_rfl
theorem table_ok : AllOK Tryz.prog table := ⟨⟨_, Tryz.func3, ok3⟩, ⟨⟨_, Tryz.func4, ok4⟩, ⟨⟨_, Tryz.func5, ok5⟩, ⟨⟨_, Tryz.func6, ok6⟩, ⟨⟨_, Tryz.func7, ok7⟩, ⟨⟨_, Tryz.func8, ok8⟩, ⟨⟨_, Tryz.func9, ok9⟩, ⟨⟨_, Tryz.func10, ok10⟩, ⟨⟨_, Tryz.func11, ok11⟩, ⟨⟨_, Tryz.func12, ok12⟩, ⟨⟨_, Tryz.func13, ok13⟩, ⟨⟨_, Tryz.func14, ok14⟩, ⟨⟨_, Tryz.func15, ok15⟩, ⟨⟨_, Tryz.func16, ok16⟩, ⟨⟨_, Tryz.func17, ok17⟩, ⟨⟨_, Tryz.func18, ok18⟩, ⟨⟨_, Tryz.func19, ok19⟩, ⟨⟨_, Tryz.func20, ok20⟩, ⟨⟨_, Tryz.func21, ok21⟩, ⟨⟨_, Tryz.func22, ok22⟩, ⟨⟨_, Tryz.func23, ok23⟩, ⟨⟨_, Tryz.func24, ok24⟩, ⟨⟨_, Tryz.func25, ok25⟩, ⟨⟨_, Tryz.func26, ok26⟩, ⟨⟨_, Tryz.func27, ok27⟩, ⟨⟨_, Tryz.func28, ok28⟩, ⟨⟨_, Tryz.func29, ok29⟩, ⟨⟨_, Tryz.func30, ok30⟩, ⟨⟨_, Tryz.func31, ok31⟩, ⟨⟨_, Tryz.func32, ok32⟩, ⟨⟨_, Tryz.func33, ok33⟩, ⟨⟨_, Tryz.func34, ok34⟩, ⟨⟨_, Tryz.func35, ok35⟩, ⟨⟨_, Tryz.func36, ok36⟩, ⟨⟨_, Tryz.func37, ok37⟩, ⟨⟨_, Tryz.func38, ok38⟩, ⟨⟨_, Tryz.func39, ok39⟩, ⟨⟨_, Tryz.func40, ok40⟩, ⟨⟨_, Tryz.func41, ok41⟩, ⟨⟨_, Tryz.func42, ok42⟩, ⟨⟨_, Tryz.func43, ok43⟩, ⟨⟨_, Tryz.func44, ok44⟩, ⟨⟨_, Tryz.func45, ok45⟩, ⟨⟨_, Tryz.func46, ok46⟩, ⟨⟨_, Tryz.func47, ok47⟩, ⟨⟨_, Tryz.func48, ok48⟩, ⟨⟨_, Tryz.func49, ok49⟩, ⟨⟨_, Tryz.func50, ok50⟩, ⟨⟨_, Tryz.func51, ok51⟩, ⟨⟨_, Tryz.func52, ok52⟩, ⟨⟨_, Tryz.func53, ok53⟩, ⟨⟨_, Tryz.func54, ok54⟩, ⟨⟨_, Tryz.func55, ok55⟩, ⟨⟨_, Tryz.func56, ok56⟩, ⟨⟨_, Tryz.func57, ok57⟩, ⟨⟨_, Tryz.func58, ok58⟩, ⟨⟨_, Tryz.func59, ok59⟩, ⟨⟨_, Tryz.func60, ok60⟩, ⟨⟨_, Tryz.func61, ok61⟩, ⟨⟨_, Tryz.func62, ok62⟩, ⟨⟨_, Tryz.func63, ok63⟩, ⟨⟨_, Tryz.func64, ok64⟩, ⟨⟨_, Tryz.func65, ok65⟩, ⟨⟨_, Tryz.func66, ok66⟩, ⟨⟨_, Tryz.func67, ok67⟩, ⟨⟨_, Tryz.func68, ok68⟩, ⟨⟨_, Tryz.func69, ok69⟩, ⟨⟨_, Tryz.func70, ok70⟩, ⟨⟨_, Tryz.func71, ok71⟩, ⟨⟨_, Tryz.func72, ok72⟩, ⟨⟨_, Tryz.func73, ok73⟩, ⟨⟨_, Tryz.func74, ok74⟩, ⟨⟨_, Tryz.func75, ok75⟩, ⟨⟨_, Tryz.func76, ok76⟩, ⟨⟨_, Tryz.func77, ok77⟩, ⟨⟨_, Tryz.func78, ok78⟩, ⟨⟨_, Tryz.func80, ok80⟩, ⟨⟨_, Tryz.func81, ok81⟩, ⟨⟨_, Tryz.func82, ok82⟩, ⟨⟨_, Tryz.func83, ok83⟩, ⟨⟨_, Tryz.func84, ok84⟩, ⟨⟨_, Tryz.func85, ok85⟩, ⟨⟨_, Tryz.func86, ok86⟩, ⟨⟨_, Tryz.func87, ok87⟩, ⟨⟨_, Tryz.func88, ok88⟩, ⟨⟨_, Tryz.func89, ok89⟩, ⟨⟨_, Tryz.func90, ok90⟩, ⟨⟨_, Tryz.func91, ok91⟩, ⟨⟨_, Tryz.func92, ok92⟩, ⟨⟨_, Tryz.func94, ok94⟩, ⟨⟨_, Tryz.func95, ok95⟩, ⟨⟨_, Tryz.func96, ok96⟩, ⟨⟨_, Tryz.func97, ok97⟩, ⟨⟨_, Tryz.func98, ok98⟩, ⟨⟨_, Tryz.func99, ok99⟩, ⟨⟨_, Tryz.func100, ok100⟩, ⟨⟨_, Tryz.func101, ok101⟩, ⟨⟨_, Tryz.func102, ok102⟩, ⟨⟨_, Tryz.func103, ok103⟩, ⟨⟨_, Tryz.func104, ok104⟩, ⟨⟨_, Tryz.func105, ok105⟩, ⟨⟨_, Tryz.func106, ok106⟩, ⟨⟨_, Tryz.func107, ok107⟩, ⟨⟨_, Tryz.func108, ok108⟩, ⟨⟨_, Tryz.func109, ok109⟩, ⟨⟨_, Tryz.func110, ok110⟩, ⟨⟨_, Tryz.func111, ok111⟩, ⟨⟨_, Tryz.func112, ok112⟩, ⟨⟨_, Tryz.func113, ok113⟩, ⟨⟨_, Tryz.func115, ok115⟩, ⟨⟨_, Tryz.func116, ok116⟩, ⟨⟨_, Tryz.func117, ok117⟩, ⟨⟨_, Tryz.func118, ok118⟩, ⟨⟨_, Tryz.func119, ok119⟩, ⟨⟨_, Tryz.func120, ok120⟩, ⟨⟨_, Tryz.func121, ok121⟩, ⟨⟨_, Tryz.func122, ok122⟩, ⟨⟨_, Tryz.func123, ok123⟩, ⟨⟨_, Tryz.func124, ok124⟩, ⟨⟨_, Tryz.func125, ok125⟩, ⟨⟨_, Tryz.func126, ok126⟩, ⟨⟨_, Tryz.func127, ok127⟩, ⟨⟨_, Tryz.func128, ok128⟩, ⟨⟨_, Tryz.func129, ok129⟩, ⟨⟨_, Tryz.func130, ok130⟩, ⟨⟨_, Tryz.func131, ok131⟩, ⟨⟨_, Tryz.func132, ok132⟩, ⟨⟨_, Tryz.func133, ok133⟩, ⟨⟨_, Tryz.func135, ok135⟩, ⟨⟨_, Tryz.func136, ok136⟩, ⟨⟨_, Tryz.func137, ok137⟩, ⟨⟨_, Tryz.func138, ok138⟩, ⟨⟨_, Tryz.func139, ok139⟩, ⟨⟨_, Tryz.func140, ok140⟩, ⟨⟨_, Tryz.func145, ok145⟩, ⟨⟨_, Tryz.func146, ok146⟩, ⟨⟨_, Tryz.func147, ok147⟩, ⟨⟨_, Tryz.func148, ok148⟩, ⟨⟨_, Tryz.func149, ok149⟩, ⟨⟨_, Tryz.func150, ok150⟩, ⟨⟨_, Tryz.func151, ok151⟩, ⟨⟨_, Tryz.func152, ok152⟩, ⟨⟨_, Tryz.func158, ok158⟩, ⟨⟨_, Tryz.func159, ok159⟩, ⟨⟨_, Tryz.func160, ok160⟩, ⟨⟨_, Tryz.func161, ok161⟩, ⟨⟨_, Tryz.func162, ok162⟩, ⟨⟨_, Tryz.func163, ok163⟩, ⟨⟨_, Tryz.func166, ok166⟩, ⟨⟨_, Tryz.func167, ok167⟩, ⟨⟨_, Tryz.func168, ok168⟩, ⟨⟨_, Tryz.func169, ok169⟩, ⟨⟨_, Tryz.func170, ok170⟩, ⟨⟨_, Tryz.func171, ok171⟩, ⟨⟨_, Tryz.func172, ok172⟩, ⟨⟨_, Tryz.func173, ok173⟩, ⟨⟨_, Tryz.func176, ok176⟩, ⟨⟨_, Tryz.func177, ok177⟩, ⟨⟨_, Tryz.func178, ok178⟩, ⟨⟨_, Tryz.func179, ok179⟩, ⟨⟨_, Tryz.func180, ok180⟩, ⟨⟨_, Tryz.func181, ok181⟩, ⟨⟨_, Tryz.func182, ok182⟩, ⟨⟨_, Tryz.func183, ok183⟩, ⟨⟨_, Tryz.func184, ok184⟩, ⟨⟨_, Tryz.func186, ok186⟩, ⟨⟨_, Tryz.func187, ok187⟩, ⟨⟨_, Tryz.func79, ok79⟩, trivial⟩⟩⟩⟩⟩⟩⟩⟩⟩⟩⟩⟩⟩⟩⟩⟩⟩⟩⟩⟩⟩⟩⟩⟩⟩⟩⟩⟩⟩⟩⟩⟩⟩⟩⟩⟩⟩⟩⟩⟩⟩⟩⟩⟩⟩⟩⟩⟩⟩⟩⟩⟩⟩⟩⟩⟩⟩⟩⟩⟩⟩⟩⟩⟩⟩⟩⟩⟩⟩⟩⟩⟩⟩⟩⟩⟩⟩⟩⟩⟩⟩⟩⟩⟩⟩⟩⟩⟩⟩⟩⟩⟩⟩⟩⟩⟩⟩⟩⟩⟩⟩⟩⟩⟩⟩⟩⟩⟩⟩⟩⟩⟩⟩⟩⟩⟩⟩⟩⟩⟩⟩⟩⟩⟩⟩⟩⟩⟩⟩⟩⟩⟩⟩⟩⟩⟩⟩⟩⟩⟩⟩⟩⟩⟩⟩⟩⟩⟩⟩⟩⟩⟩⟩⟩⟩⟩⟩⟩⟩⟩⟩⟩⟩⟩⟩⟩⟩⟩
end Seat
end Go.Proofs.YtgjiooieoeoghaaGreatDoor

namespace Go.Proofs
open Go.Shelf
def Tryz.laysItoa_ren : Go.Shelf.Ren := ⟨fun | 171 => 93 | 243 => 114 | 246 => 134 | 283 => 141 | 284 => 142 | 285 => 143 | 286 => 144 | 129 => 154 | 317 => 153 | 318 => 155 | 319 => 156 | 320 => 157 | 337 => 164 | 338 => 165 | n => n, fun | 3 => 3 | 9 => 9 | 2 => 2 | 4 => 4 | 171 => 122 | 0 => 0 | 53 => 123 | 37 => 119 | 5 => 5 | 173 => 126 | 212 => 131 | 51 => 132 | 20 => 20 | 213 => 133 | 46 => 135 | 232 => 159 | 233 => 160 | n => n, fun | 17 => 0 | 18 => 1 | 19 => 2 | n => n⟩
theorem Tryz.laysItoa : Go.Proofs.LaysM.n171 Tryz.prog Tryz.laysItoa_ren := {
  mixed := by kernel_rfl
  f129 := Tryz.func154.trans (congrArg some (by kernel_rfl))
  f171 := Tryz.func93.trans (congrArg some (by kernel_rfl))
  f243 := Tryz.func114.trans (congrArg some (by kernel_rfl))
  f246 := Tryz.func134.trans (congrArg some (by kernel_rfl))
  f283 := Tryz.func141.trans (congrArg some (by kernel_rfl))
  f284 := Tryz.func142.trans (congrArg some (by kernel_rfl))
  f285 := Tryz.func143.trans (congrArg some (by kernel_rfl))
  f286 := Tryz.func144.trans (congrArg some (by kernel_rfl))
  f317 := Tryz.func153.trans (congrArg some (by kernel_rfl))
  f318 := Tryz.func155.trans (congrArg some (by kernel_rfl))
  f319 := Tryz.func156.trans (congrArg some (by kernel_rfl))
  f320 := Tryz.func157.trans (congrArg some (by kernel_rfl))
  f337 := Tryz.func164.trans (congrArg some (by kernel_rfl))
  f338 := Tryz.func165.trans (congrArg some (by kernel_rfl))
  t0 := Tryz.underlying0
  a0 := Tryz.isAgg0
  z0 := Tryz.sizeOf0
  v0 := Tryz.zeroValue0
  t2 := Tryz.underlying2
  a2 := Tryz.isAgg2
  z2 := Tryz.sizeOf2
  v2 := Tryz.zeroValue2
  t3 := Tryz.underlying3
  a3 := Tryz.isAgg3
  z3 := Tryz.sizeOf3
  v3 := Tryz.zeroValue3
  t4 := Tryz.underlying4
  a4 := Tryz.isAgg4
  z4 := Tryz.sizeOf4
  v4 := Tryz.zeroValue4
  t5 := Tryz.underlying5
  a5 := Tryz.isAgg5
  z5 := Tryz.sizeOf5
  v5 := Tryz.zeroValue5
  t9 := Tryz.underlying9
  a9 := Tryz.isAgg9
  z9 := Tryz.sizeOf9
  v9 := Tryz.zeroValue9
  t20 := Tryz.underlying20
  a20 := Tryz.isAgg20
  z20 := Tryz.sizeOf20
  v20 := Tryz.zeroValue20
  t37 := Tryz.underlying119
  a37 := Tryz.isAgg119
  z37 := Tryz.sizeOf119
  v37 := Tryz.zeroValue119
  t46 := Tryz.underlying135
  a46 := Tryz.isAgg135
  z46 := Tryz.sizeOf135
  v46 := Tryz.zeroValue135
  t51 := Tryz.underlying132
  a51 := Tryz.isAgg132
  z51 := Tryz.sizeOf132
  v51 := Tryz.zeroValue132
  t53 := Tryz.underlying123
  a53 := Tryz.isAgg123
  z53 := Tryz.sizeOf123
  v53 := Tryz.zeroValue123
  t171 := Tryz.underlying122
  a171 := Tryz.isAgg122
  z171 := Tryz.sizeOf122
  v171 := Tryz.zeroValue122
  t173 := Tryz.underlying126
  a173 := Tryz.isAgg126
  z173 := Tryz.sizeOf126
  v173 := Tryz.zeroValue126
  t212 := Tryz.underlying131
  a212 := Tryz.isAgg131
  z212 := Tryz.sizeOf131
  v212 := Tryz.zeroValue131
  t213 := Tryz.underlying133
  a213 := Tryz.isAgg133
  z213 := Tryz.sizeOf133
  t232 := Tryz.underlying159
  a232 := Tryz.isAgg159
  z232 := Tryz.sizeOf159
  v232 := Tryz.zeroValue159
  t233 := Tryz.underlying160
  a233 := Tryz.isAgg160
  z233 := Tryz.sizeOf160
  v233 := Tryz.zeroValue160
  g17 := by kernel_rfl
  g18 := by kernel_rfl
  g19 := by kernel_rfl
  i0 := by kernel_rfl
  i2 := by kernel_rfl
  i3 := by kernel_rfl
  i4 := by kernel_rfl
  i5 := by kernel_rfl
  i9 := by kernel_rfl
  i20 := by kernel_rfl
  i37 := by kernel_rfl
  i46 := by kernel_rfl
  i51 := by kernel_rfl
  i53 := by kernel_rfl
  i171 := by kernel_rfl
  i173 := by kernel_rfl
  i212 := by kernel_rfl
  i232 := by kernel_rfl
  i233 := by kernel_rfl
  m17 := by kernel_rfl
  m18 := by kernel_rfl
  m19 := by kernel_rfl }
end Go.Proofs
namespace Go.Proofs.YtgjiooieoeoghaaGreatDoor
open Go
theorem itoa_calls (n : Int) (h0 : -9223372036854775808 ≤ n) (h1 : n ≤ 9223372036854775807) (w : World) (htab : Lib.TabIs Tryz.prog w "internal/strconv.uint64pow10" .u64 Lib.pow10Tab) :
    Calls Tryz.prog 93 #[.int .i64 n] w fun e w' => e = .returned (.string ⟨(Lib.itoa n).toArray⟩) ∧ ∃ k os, w' = Sort.grow (w.drewN k) os := Any.strconv_Itoa Tryz.laysItoa n h0 h1 w htab
end Go.Proofs.YtgjiooieoeoghaaGreatDoor

namespace Go.Proofs.YtgjiooieoeoghaaGreatDoor
open Go Go.Vs Go.ChangeShapes Go.WideShapes Go.RowKit
set_option maxRecDepth 100000
set_option linter.unusedVariables false
namespace Seat

def prims (n : Nat) : Option (List AV → Option AV) := if n = 93 then some itoaP else none
def gl (k : Nat) : List AV := if k = 0 then Lib.pow10Tab.map (AV.int .u64) else []

theorem g0 : Tryz.prog.globalNamed "internal/strconv.uint64pow10" = some 0 := by kernel_rfl
theorem mixed : Tryz.prog.follows .mixedOrders = true := by kernel_rfl
theorem laidOut : laidOutB Tryz.prog = true := by kernel_rfl

theorem prims_ok (f : Nat) (pf : List AV → Option AV) (h : prims f = some pf) : PrimOK Tryz.prog gl f pf := by
  unfold prims at h
  split at h
  · rename_i hf
    subst hf
    cases h
    exact prim_itoa (k := 0) ⟨_, Tryz.func93, of_decide_eq_true (by kernel_rfl), by kernel_rfl⟩ g0 rfl itoa_calls
  · cases h

theorem call_ok : CallOK Tryz.prog gl (callW gl prog prims) := callW_ok mixed (fun f af h => allOK_find table_ok f af h) prims_ok

/- What is listed is laid. -/
theorem laid_tab : Rows.laid_internal_strconv_uint64pow10 (H := Unit) = Lib.tabData .u64 Lib.pow10Tab := by kernel_rfl

theorem tab_of_laid {W : World} (h : laidMetH Tryz.prog Rows.termSubstitutesRow.laid W) : Lib.TabIs Tryz.prog W "internal/strconv.uint64pow10" .u64 Lib.pow10Tab := by
  rw [MakeChecks.laidMetH_plain _ _ _ (by kernel_rfl)] at h
  have h2 := h.tail.tail
  rw [laid_tab] at h2
  exact Lib.tabIs_of_head g0 (by kernel_rfl) Tryz.underlying131 Tryz.underlying123 (by kernel_rfl) (by kernel_rfl) h2

theorem gl_ok {W : World} (h : Lib.TabIs Tryz.prog W "internal/strconv.uint64pow10" .u64 Lib.pow10Tab) : ∀ k, GlobOK (immOf W) W (gl k) k := by
  intro k
  unfold gl
  split
  · rename_i hk
    subst hk
    unfold Lib.TabIs World.var? at h
    rw [g0] at h
    simp only [Option.bind_some] at h
    split at h
    · rename_i cs t f hb
      simp only [Option.some.injEq] at h
      subst h
      have hcell : ∀ j, W.cell? (at' 0 j) = (Lib.pow10Tab.map fun z => Value.int .u64 z)[j]? := fun j => by simp [World.cell?, at', hb]
      have himm : immOf W 0 = 21 := by
        unfold immOf
        rw [hb]
        simp [Lib.pow10Tab]
      refine ⟨fun j c hc => ?_, fun _ => ?_⟩
      · rw [List.getElem?_map] at hc
        cases hz : Lib.pow10Tab[j]? with
        | none => rw [hz] at hc; cases hc
        | some z =>
          rw [hz] at hc
          cases hc
          refine ⟨rfl, .int .u64 z, .int _ _, ?_, ?_⟩
          · rw [Nat.zero_add, hcell, List.getElem?_map, hz]; rfl
          · have := (List.getElem?_eq_some_iff.1 hz).1
            simp [Lib.pow10Tab] at this
            omega
      · refine ⟨by rw [himm]; simp [Lib.pow10Tab], ?_⟩
        rw [hcell]
        simp
    · cases h
  · exact ⟨fun j c hc => by simp at hc, fun h => absurd rfl h⟩

theorem tm : TabMake prog prims I J where
  h9 := ⟨by kernel_rfl, by kernel_rfl⟩
  h10 := ⟨by kernel_rfl, by kernel_rfl⟩
  h24 := ⟨by kernel_rfl, by kernel_rfl⟩
  h37 := ⟨by kernel_rfl, by kernel_rfl⟩
  h47 := ⟨by kernel_rfl, by kernel_rfl⟩
  h48 := ⟨by kernel_rfl, by kernel_rfl⟩
  h51 := ⟨by kernel_rfl, by kernel_rfl⟩
  h67 := ⟨by kernel_rfl, by kernel_rfl⟩
  h70 := ⟨by kernel_rfl, by kernel_rfl⟩
theorem t2 : TabRef2 prog prims I J := by constructor <;> exact ⟨by kernel_rfl, by kernel_rfl⟩
theorem t1 : TabRef1 prog prims I J := by constructor <;> exact ⟨by kernel_rfl, by kernel_rfl⟩
theorem t8 : TabRef8 prog prims I J := by constructor <;> exact ⟨by kernel_rfl, by kernel_rfl⟩
theorem tt : TabTerm prog prims I J := by constructor <;> exact ⟨by kernel_rfl, by kernel_rfl⟩
theorem tl : TabL8 prog prims I J := by constructor <;> exact ⟨by kernel_rfl, by kernel_rfl⟩
theorem ta : TabLaws8a prog prims I J := by constructor <;> exact ⟨by kernel_rfl, by kernel_rfl⟩
theorem tp : prims (I 88) = some itoaP := by kernel_rfl

def isTrue : Option (AV × List Boxes) → Bool
  | some (.bool true, []) => true
  | _ => false

theorem first_run : isTrue (callN gl prog prims 60 (I 8) [] []) = true := by decide +kernel
theorem first_true : callW gl prog prims (I 8) [] [] = some (.bool true, []) := by
  refine callW_iff.2 ⟨60, ?_⟩
  have := first_run
  unfold isTrue at this
  split at this
  · assumption
  · cases this

theorem own : ownKnob Tryz.prog.godebug = none := by kernel_rfl

theorem rawTy : ∃ f0 f1 f2 f3, RawTy Tryz.prog 24 22 f0 f1 f2 f3 :=
  ⟨_, _, _, _, Tryz.underlying24, by kernel_rfl, rfl, rfl, rfl, rfl, by kernel_rfl, by kernel_rfl, by kernel_rfl, by kernel_rfl, Tryz.underlying3, Tryz.underlying3, Tryz.underlying9, rfl, Tryz.underlying22⟩

theorem symTy : ∃ f0 f1, SymTy Tryz.prog 30 f0 f1 :=
  ⟨_, _, Tryz.underlying30, by kernel_rfl, rfl, rfl, by kernel_rfl, by kernel_rfl, Tryz.underlying9, Tryz.underlying9⟩

theorem reads : ∀ t, (t = 24 ∨ t = 22 ∨ t = 30 ∨ t = 9 ∨ t = 58) → Tryz.prog.readableRec t = true ∧ t < Tryz.prog.types.size := by
  intro t ht
  rcases ht with rfl | rfl | rfl | rfl | rfl
  · exact ⟨by kernel_rfl, of_decide_eq_true (by kernel_rfl)⟩
  · exact ⟨by kernel_rfl, of_decide_eq_true (by kernel_rfl)⟩
  · exact ⟨by kernel_rfl, of_decide_eq_true (by kernel_rfl)⟩
  · exact ⟨by kernel_rfl, of_decide_eq_true (by kernel_rfl)⟩
  · exact ⟨by kernel_rfl, of_decide_eq_true (by kernel_rfl)⟩

theorem reads_in (l : List TypeId) (h : (l.all fun t => decide (t = 24 ∨ t = 22 ∨ t = 30 ∨ t = 9 ∨ t = 58)) = true) : ∀ t ∈ l, Tryz.prog.readableRec t = true ∧ t < Tryz.prog.types.size := by
  intro t ht
  rw [List.all_eq_true] at h
  exact reads t (of_decide_eq_true (h t ht))

theorem tb : TabLaws8b prog prims I J := by constructor <;> exact ⟨by kernel_rfl, by kernel_rfl⟩
theorem tB : TabTermB prog prims I J := by constructor <;> exact ⟨by kernel_rfl, by kernel_rfl⟩

theorem made (s : Sym) (n : Str) (l : List Raw) (r : Raw) : callW gl prog prims 6 [.agg s.cells, .str n, .slice (l.map fun o => .agg o.cells), .agg r.cells] [] = some (.bool true, []) :=
  law_made tm t2 t1 tp t8 tl tt ta first_true s n l r []
theorem composes (r : Raw) (l m : List Raw) : callW gl prog prims 4 [.agg r.cells, .slice (l.map fun o => .agg o.cells), .slice (m.map fun o => .agg o.cells)] [] = some (.bool true, []) :=
  law_composes tm t2 t1 tp t8 tl tt ta first_true r l m []
theorem replaces (r s n : Raw) : callW gl prog prims 7 [.agg r.cells, .agg s.cells, .agg n.cells] [] = some (.bool true, []) :=
  law_replaces tm t2 t1 tp t8 tl tt tb first_true r s n []
theorem tP : TabPaths prog prims I J := by constructor <;> exact ⟨by kernel_rfl, by kernel_rfl⟩
theorem paths (r n : Raw) (p : List Int) : callW gl prog prims 8 [.agg r.cells, .agg n.cells, .slice (p.map (AV.int .i64))] [] = some (.bool true, []) :=
  law_paths tm t2 t1 tp t8 tl tt tP first_true r n p []
theorem lists (l : List Raw) : callW gl prog prims 5 [.slice (l.map fun o => .agg o.cells)] [] = some (.bool true, []) :=
  law_lists tm t2 t1 tp t8 tl tt tB tb first_true l []
theorem substitutes (r : Raw) (l : List Raw) : callW gl prog prims 3 [.agg r.cells, .slice (l.map fun o => .agg o.cells)] [] = some (.bool true, []) :=
  law_substitutes tm t2 t1 tp t8 tl tt ta first_true r l []

end Seat
end Go.Proofs.YtgjiooieoeoghaaGreatDoor
