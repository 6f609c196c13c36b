/-
  Part 2 of a proof by a value semantics: what the call computes, and that the model does what the value semantics says.
  Conditions: none.
-/
import Derived.Test.YtgjiooieoeoghaaGreatDoorPa
import Derived.Tactics
set_option linter.unusedSimpArgs false
set_option linter.unusedVariables false
set_option linter.unusedSectionVars false
namespace Go.Vs
open Go
set_option linter.unusedSimpArgs false
set_option linter.unusedVariables false

def isAggAt (P : Program) (t : TypeId) (b : Bool) : Bool := match P.underlying t with
  | some x => isAggD x == b
  | none => false

def sizeAt (P : Program) (t : TypeId) (n : Nat) : Bool := match P.info? t with
  | some i => Nat.beq i.size n
  | none => false

def zeroAt (P : Program) (t : TypeId) (zero : List AV) : Bool := match P.info? t with
  | some i => match i.zero with
    | some z => litsOK zero z.cells.toList
    | none => false
  | none => false

def AV.isNil : AV → Bool
  | .onil => true
  | _ => false

def noNil : List AV → Bool
  | [] => true
  | x :: r => !x.isNil && noNil r

def idxFrom : Nat → List (Nat × Operand) → Bool
  | _, [] => true
  | k, (i, _) :: r => Nat.beq i k && idxFrom (k + 1) r

def elemOfSlice (P : Program) (t : TypeId) : Option TypeId := match P.underlying t with
  | some (.slice e) => some e
  | _ => none

def okOp (P : Program) (N : Nat) (o : Oper) : AOp → Bool
  | .mv x => match o.op with
    | .move y => okOpd N y x
    | .assign y => okOpd N y x
    | _ => false
  | .pick c x y => match o.op with
    | .pick c' x' y' => okOpd N c' c && okOpd N x' x && okOpd N y' y
    | _ => false
  | .alloc zero => match o.op with
    | .alloc t => zeroAt P t zero
    | _ => false
  | .box x => match o.op with
    | .box _ y => okOpd N y x
    | _ => false
  | .build zero parts => match o.op with
    | .build t ps => match P.underlying t with
      | some (.struct fs) => zeroAt P t zero && noNil zero && fs.toList.all (fun f => (P.info? f.type).isSome) && okParts P N fs zero.length ps.toList parts
      | _ => false
    | _ => false
  | .lits _ sz parts => match o.op with
    | .buildSlice t len ps => match elemOfSlice P t with
      | some et => sizeAt P et sz && (Nat.beq (len * sz) 0 || ((P.info? et).bind (·.zero)).isSome) && Nat.ble (len * sz) 16777216 && Nat.beq ps.toList.length len && idxFrom 0 ps.toList && okOpds N (ps.toList.map (·.2)) parts
      | none => false
    | _ => false
  | .load1 x => match o.op with
    | .load t y => isAggAt P t false && okOpd N y x
    | _ => false
  | .loadT x => match o.op with
    | .load t y => isAggAt P t false && okOpd N y x
    | _ => false
  | .loadA n x => match o.op with
    | .load t y => isAggAt P t true && sizeAt P t n && okOpd N y x
    | _ => false
  | .store1 x v => match o.op with
    | .store t y u => sizeAt P t 1 && okOpd N y x && okOpd N u v && o.dst.isNone
    | _ => false
  | .storeN x v => match o.op with
    | .store t y u => sizeAt P t 1 && okOpd N y x && okOpd N u v && o.dst.isNone
    | _ => false
  | .storeAN n x v => match o.op with
    | .store t y u => sizeAt P t n && okOpd N y x && okOpd N u v && o.dst.isNone
    | _ => false
  | .ldL _ none x => match o.op with
    | .load t y => isAggAt P t false && okOpd N y x
    | _ => false
  | .ldL _ (some n) x => match o.op with
    | .load t y => isAggAt P t true && sizeAt P t n && okOpd N y x
    | _ => false
  | .stL _ none x v => match o.op with
    | .store t y u => sizeAt P t 1 && okOpd N y x && okOpd N u v && o.dst.isNone
    | _ => false
  | .stL _ (some n) x v => match o.op with
    | .store t y u => sizeAt P t n && okOpd N y x && okOpd N u v && o.dst.isNone
    | _ => false
  | .ldF _ n x => match o.op with
    | .load t y => isAggAt P t true && sizeAt P t n && okOpd N y x
    | _ => false
  | .toStr x => match o.op with
    | .convert src dst x' => (match elemOfSlice P src with
      | some et => (match P.underlying et with
        | some (.int .u8) => true
        | _ => false)
      | none => false) && (match P.underlying dst with
      | some .string => true
      | _ => false) && okOpd N x' x
    | _ => false
  | .frz _ x => match o.op with
    | .move y => okOpd N y x
    | .assign y => okOpd N y x
    | _ => false
  | .nilc x => match o.op with
    | .nilCheck y => okOpd N y x
    | _ => false
  | .storeA n x v => match o.op with
    | .store t y u => sizeAt P t n && okOpd N y x && okOpd N u v && o.dst.isNone
    | _ => false
  | .bin op x y => match o.op with
    | .binOp op' _ x' y' _ => decide (op = op') && okOpd N x' x && okOpd N y' y
    | _ => false
  | .eqA neg ks x y => match o.op with
    | .binOp op' xt x' y' _ => decide (op' = (bif neg then .neq else .eql)) && (match P.underlying xt with
      | some (.struct fs) => flatOK P 0 ks fs.toList
      | _ => false) && !P.stoodInHeld xt && !P.eqGuardType P.depth xt && okOpd N x' x && okOpd N y' y
    | _ => false
  | .eqb neg x y => match o.op with
    | .binOp op' xt x' y' _ => decide (op' = (bif neg then .neq else .eql)) && (match P.underlying xt with
      | some .bool => true
      | _ => false) && okOpd N x' x && okOpd N y' y
    | _ => false
  | .nilS x => match o.op with
    | .binOp op' xt x' (.const (.slice none 0 0)) _ => decide (op' = .eql) && (match P.underlying xt with
      | some (.slice _) => true
      | _ => false) && okOpd N x' x
    | _ => false
  | .un op x => match o.op with
    | .unOp op' _ x' => decide (op = op') && okOpd N x' x
    | _ => false
  | .conv k x => match o.op with
    | .convert src dst x' => (match P.underlying src with
      | some (.int _) => true
      | _ => false) && (match P.underlying dst with
      | some (.int k') => decide (k = k')
      | _ => false) && okOpd N x' x
    | _ => false
  | .mkfn f caps => match o.op with
    | .makeFunc (.func f') first caps' => Nat.beq f f' && first.isEmpty && okOpds N caps'.toList caps
    | _ => false
  | .mks _ _ sz zero x y => match o.op with
    | .makeSlice t x' y' => match elemOfSlice P t with
      | some et => sizeAt P et sz && zeroAt P et zero.cellsA && noNil zero.cellsA && Nat.ble (P.bytesOf et) 1048576 && okOpd N x' x && okOpd N y' y
      | none => false
    | _ => false
  | .slcS x lo hi => match o.op with
    | .slice t x' lo' hi' none => (match P.underlying t with
      | some .string => true
      | _ => false) && okOpd N x' x && okOpdO N lo' lo && okOpdO N hi' hi
    | _ => false
  | .slcL sz x lo hi => match o.op with
    | .slice t x' lo' hi' none => match elemOfSlice P t with
      | some et => sizeAt P et sz && okOpd N x' x && okOpdO N lo' lo && okOpdO N hi' hi
      | none => false
    | _ => false
  | .faddr off x => match o.op with
    | .fieldAddr S x' f => match P.underlying S with
      | some (.struct fs) => match fs[f]? with
        | some fd => Nat.beq fd.offset off && (match P.info? fd.type with
          | some i => !Nat.beq i.size 0
          | none => false) && okOpd N x' x
        | none => false
      | _ => false
    | _ => false
  | .fld ag off n x => match o.op with
    | .field S x' f => match P.underlying S with
      | some (.struct fs) => match fs[f]? with
        | some fd => Nat.beq fd.offset off && sizeAt P fd.type n && isAggAt P fd.type ag && okOpd N x' x
        | none => false
      | _ => false
    | _ => false
  | .iaddr sz x i => match o.op with
    | .indexAddr t x' i' => match elemOfSlice P t with
      | some et => sizeAt P et sz && okOpd N x' x && okOpd N i' i
      | none => false
    | _ => false
  | .iaddrA len sz x i => match o.op with
    | .indexAddr t x' i' => match P.underlying t with
      | some (.array len' et) => Nat.beq len' len && sizeAt P et sz && okOpd N x' x && okOpd N i' i
      | _ => false
    | _ => false
  | .idxS x i => match o.op with
    | .index t x' i' => (match P.underlying t with
      | some .string => true
      | _ => false) && okOpd N x' x && okOpd N i' i
    | _ => false
  | .idxA ag len sz x i => match o.op with
    | .index t x' i' => match P.underlying t with
      | some (.array len' et) => Nat.beq len' len && sizeAt P et sz && isAggAt P et ag && okOpd N x' x && okOpd N i' i
      | _ => false
    | _ => false
  | .extr n i => match o.op with
    | .extract (.tmp m) j => Nat.beq n m && Nat.beq i j
    | _ => false
  | .extrT n i => match o.op with
    | .extract (.tmp m) j => Nat.beq n m && Nat.beq i j
    | _ => false
  | .callP f args _ _ => match o.op with
    | .call c => match c.callee with
      | .value f' => okOpd N f' f && okOpds N c.args.toList args
      | _ => false
    | _ => false
  | .callS f args => match o.op with
    | .call c => match c.callee with
      | .value f' => okOpd N f' f && okOpds N c.args.toList args
      | _ => false
    | _ => false
  | .lenS x => match o.op with
    | .call c => match c.callee, c.args.toList, c.argTypes[0]? with
      | .builtin .len, [x'], some t => (match P.underlying t with
        | some .string => true
        | _ => false) && okOpd N x' x
      | _, _, _ => false
    | _ => false
  | .lenL x => match o.op with
    | .call c => match c.callee, c.args.toList, c.argTypes[0]? with
      | .builtin .len, [x'], some t => (elemOfSlice P t).isSome && okOpd N x' x
      | _, _, _ => false
    | _ => false
  | .app _ _ sz x y => match o.op with
    | .call c => match c.callee, c.args.toList, c.argTypes.toList with
      | .builtin .append, [x', y'], [t, t'] => Nat.beq t t' && (match elemOfSlice P t with
        | some et => sizeAt P et sz && Nat.ble (P.bytesOf et) 1048576 && (match P.info? et with
          | some i => match i.zero with
            | some z => Nat.beq z.cells.size sz
            | none => false
          | none => false)
        | none => false) && okOpd N x' x && okOpd N y' y
      | _, _, _ => false
    | _ => false
  | .mx x y => match o.op with
    | .call c => match c.callee, c.args.toList with
      | .builtin .max, [x', y'] => okOpd N x' x && okOpd N y' y
      | _, _ => false
    | _ => false
  | .mn x y => match o.op with
    | .call c => match c.callee, c.args.toList with
      | .builtin .min, [x', y'] => okOpd N x' x && okOpd N y' y
      | _, _ => false
    | _ => false
  | .bad => true

section
variable {P : Program} {gl : Globs} {g : Gh} {d N : Nat} {s : St} {a : Act} {w : World} {o : Oper} {draw : Bool} {e : Eff} {C : Callee} {tmps : Array Value}

theorem isAggAt_run {t : TypeId} {b : Bool} (h : isAggAt P t b = true) (w : World) : (isAgg t).run P w = .ok b w := by
  unfold isAggAt at h
  split at h
  · rename_i x hx
    rw [run_isAgg hx]; simp at h; rw [h]
  · cases h

theorem sizeAt_eq {t : TypeId} {n : Nat} (h : sizeAt P t n = true) : (P.info? t).map (·.size) = some n := by
  unfold sizeAt at h
  split at h
  · rename_i i hi; rw [hi]; rw [Nat.beq_eq] at h; simp [h]
  · cases h

theorem zeroAt_eq {t : TypeId} {zero : List AV} (h : zeroAt P t zero = true) : ∃ i z, P.info? t = some i ∧ i.zero = some z ∧ litsOK zero z.cells.toList = true := by
  unfold zeroAt at h
  split at h
  · rename_i i hi
    split at h
    · rename_i z hz; exact ⟨i, z, hi, hz, h⟩
    · cases h
  · cases h

theorem noNil_mem : ∀ {l : List AV}, noNil l = true → ∀ c ∈ l, c ≠ .onil
  | [], _, c, hc => by simp at hc
  | x :: r, h, c, hc => by
    simp only [noNil, Bool.and_eq_true, Bool.not_eq_true'] at h
    rcases List.mem_cons.1 hc with rfl | hc
    · rintro rfl; simp [AV.isNil] at h
    · exact noNil_mem h.2 c hc

theorem idxFrom_eq : ∀ {l : List (Nat × Operand)} {k : Nat}, idxFrom k l = true → l = ((l.map (·.2)).zipIdx k).map fun (x, i) => (i, x)
  | [], _, _ => rfl
  | (i, x) :: r, k, h => by
    simp only [idxFrom, Bool.and_eq_true, Nat.beq_eq] at h
    obtain ⟨rfl, h⟩ := h
    simp only [List.map_cons, List.zipIdx_cons]
    rw [← idxFrom_eq h]

theorem elemOfSlice_eq {t et : TypeId} (h : elemOfSlice P t = some et) : P.underlying t = some (.slice et) := by
  unfold elemOfSlice at h
  split at h
  · rename_i x hx; simp at h; subst h; exact hx
  · cases h

theorem arr_of_list {α : Type} {x : Array α} {l : List α} (h : x.toList = l) : x = l.toArray := by rw [← h]

theorem bytesOf_eq {t : TypeId} {i : TypeInfo} (h : P.info? t = some i) : P.bytesOf t = i.bytes := by simp [Program.bytesOf, h]

/-- All but calls. -/
theorem step_ok (R : Rel gl g d s a.tmps w) (hD : ∀ m, o.dst = some m → m < a.tmps.size) {ao : AOp} (hok : okOp P N o ao = true) (hnc : (∀ f l b z, ao ≠ .callP f l b z) ∧ (∀ f l, ao ≠ .callS f l))
    (he : eff gl C o.dst s.env s.bx s.nb s.stk ao = some e) : OpOK P gl g d s a w o draw e := by
  cases ao <;> simp only [okOp] at hok
  case callP f l b z => exact absurd rfl (hnc.1 f l b z)
  case callS f l => exact absurd rfl (hnc.2 f l)
  case bad => simp [eff] at he
  case mv x =>
    split at hok
    · rename_i y hy; exact ok_mv R hD (.inl hy) hok he
    · rename_i y hy; exact ok_mv R hD (.inr hy) hok he
    · cases hok
  case pick c x y =>
    split at hok
    · rename_i c' x' y' ho
      simp only [Bool.and_eq_true] at hok
      exact ok_pick R hD ho hok.1.1 hok.1.2 hok.2 he
    · cases hok
  case alloc zero =>
    split at hok
    · rename_i t ho
      obtain ⟨i, z, h1, h2, h3⟩ := zeroAt_eq hok
      exact ok_alloc R hD ho (by rw [h1]; exact h2) h3 he
    · cases hok
  case box x =>
    split at hok
    · rename_i el y ho; exact ok_box R hD ho hok he
    · cases hok
  case build zero parts =>
    split at hok
    · rename_i t ps ho
      split at hok
      · rename_i fs hfs
        simp only [Bool.and_eq_true] at hok
        obtain ⟨⟨⟨h1, h2⟩, h3⟩, h4⟩ := hok
        obtain ⟨i, z, k1, k2, k3⟩ := zeroAt_eq h1
        exact ok_build R hD ho hfs (by rw [k1]; exact k2) k3 (noNil_mem h2) (fun j f hf => List.all_eq_true.1 h3 f (List.mem_of_getElem? (by rw [Array.getElem?_toList]; exact hf))) h4 he
      · cases hok
    · cases hok
  case lits u sz parts =>
    split at hok
    · rename_i t len ps ho
      split at hok
      · rename_i et het
        simp only [Bool.and_eq_true, Bool.or_eq_true, Nat.beq_eq, Nat.ble_eq] at hok
        obtain ⟨⟨⟨⟨⟨h1, h2⟩, h3⟩, h4⟩, h5⟩, h6⟩ := hok
        exact ok_lits R hD ho (elemOfSlice_eq het) (sizeAt_eq h1) h2 (by simpa using h3) (idxFrom_eq h5) (by simpa using h4) h6 he
      · cases hok
    · cases hok
  case load1 x =>
    split at hok
    · rename_i t y ho
      simp only [Bool.and_eq_true] at hok
      exact ok_load1 R hD ho (isAggAt_run hok.1) hok.2 he
    · cases hok
  case loadT x =>
    split at hok
    · rename_i t y ho
      simp only [Bool.and_eq_true] at hok
      exact ok_loadT R hD ho (isAggAt_run hok.1) hok.2 he
    · cases hok
  case loadA n x =>
    split at hok
    · rename_i t y ho
      simp only [Bool.and_eq_true] at hok
      exact ok_loadA R hD ho (isAggAt_run hok.1.1) (sizeAt_eq hok.1.2) hok.2 he
    · cases hok
  case store1 x v =>
    split at hok
    · rename_i t y u ho
      simp only [Bool.and_eq_true, Option.isNone_iff_eq_none] at hok
      exact ok_store1 R hok.2 ho (sizeAt_eq hok.1.1.1) hok.1.1.2 hok.1.2 he
    · cases hok
  case storeN x v =>
    split at hok
    · rename_i t y u ho
      simp only [Bool.and_eq_true, Option.isNone_iff_eq_none] at hok
      exact ok_storeN R hok.2 ho (sizeAt_eq hok.1.1.1) hok.1.1.2 hok.1.2 he
    · cases hok
  case storeAN n x v =>
    split at hok
    · rename_i t y u ho
      simp only [Bool.and_eq_true, Option.isNone_iff_eq_none] at hok
      exact ok_storeAN R hok.2 ho (sizeAt_eq hok.1.1.1) hok.1.1.2 hok.1.2 he
    · cases hok
  case ldL m k x =>
    cases k with
    | none =>
      simp only at hok
      split at hok
      · rename_i t y ho
        simp only [Bool.and_eq_true] at hok
        exact ok_load1 R hD ho (isAggAt_run hok.1) hok.2 (eff_ldL1 he)
      · cases hok
    | some n =>
      simp only at hok
      split at hok
      · rename_i t y ho
        simp only [Bool.and_eq_true] at hok
        exact ok_loadA R hD ho (isAggAt_run hok.1.1) (sizeAt_eq hok.1.2) hok.2 (eff_ldLA he)
      · cases hok
  case stL m k x v =>
    cases k with
    | none =>
      simp only at hok
      split at hok
      · rename_i t y u ho
        simp only [Bool.and_eq_true, Option.isNone_iff_eq_none] at hok
        exact ok_stL1 R hok.2 ho (sizeAt_eq hok.1.1.1) hok.1.1.2 hok.1.2 he
      · cases hok
    | some n =>
      simp only at hok
      split at hok
      · rename_i t y u ho
        simp only [Bool.and_eq_true, Option.isNone_iff_eq_none] at hok
        exact ok_stLA R hok.2 ho (sizeAt_eq hok.1.1.1) hok.1.1.2 hok.1.2 he
      · cases hok
  case ldF m n x =>
    split at hok
    · rename_i t y ho
      simp only [Bool.and_eq_true] at hok
      exact ok_ldF R hD ho (isAggAt_run hok.1.1) (sizeAt_eq hok.1.2) hok.2 he
    · cases hok
  case toStr x =>
    split at hok
    · rename_i src dst x' ho
      simp only [Bool.and_eq_true] at hok
      obtain ⟨⟨h1, h2⟩, h3⟩ := hok
      split at h1
      · rename_i et het
        split at h1
        · rename_i hu8
          split at h2
          · rename_i hd; exact ok_toStr R hD ho (elemOfSlice_eq het) hu8 hd h3 he
          · cases h2
        · cases h1
      · cases h1
    · cases hok
  case frz q x =>
    split at hok
    · rename_i y ho
      exact ok_frz R hD (.inl ho) hok he
    · rename_i y ho
      exact ok_frz R hD (.inr ho) hok he
    · cases hok
  case nilc x =>
    split at hok
    · rename_i y ho
      exact ok_nilc R hD ho hok he
    · cases hok
  case storeA n x v =>
    split at hok
    · rename_i t y u ho
      simp only [Bool.and_eq_true, Option.isNone_iff_eq_none] at hok
      exact ok_storeA R hok.2 ho (sizeAt_eq hok.1.1.1) hok.1.1.2 hok.1.2 he
    · cases hok
  case bin op x y =>
    split at hok
    · rename_i op' xt x' y' yt ho
      simp only [Bool.and_eq_true, decide_eq_true_eq] at hok
      obtain ⟨⟨rfl, h1⟩, h2⟩ := hok
      exact ok_bin R hD ho h1 h2 he
    · cases hok
  case eqA neg ks x y =>
    split at hok
    · rename_i op' xt x' y' yt ho
      simp only [Bool.and_eq_true, decide_eq_true_eq, Bool.not_eq_true'] at hok
      obtain ⟨⟨⟨⟨⟨rfl, h1⟩, h2⟩, h3⟩, h4⟩, h5⟩ := hok
      split at h1
      · rename_i fs hfs; exact ok_eqA R hD ho hfs h1 h2 h3 h4 h5 he
      · cases h1
    · cases hok
  case eqb neg x y =>
    split at hok
    · rename_i op' xt x' y' yt ho
      simp only [Bool.and_eq_true, decide_eq_true_eq] at hok
      obtain ⟨⟨⟨rfl, h1⟩, h2⟩, h3⟩ := hok
      split at h1
      · rename_i ht; exact ok_eqb R hD ho ht h2 h3 he
      · cases h1
    · cases hok
  case nilS x =>
    split at hok
    · rename_i op' xt x' yt ho
      simp only [Bool.and_eq_true, decide_eq_true_eq] at hok
      obtain ⟨⟨rfl, h1⟩, h2⟩ := hok
      split at h1
      · rename_i ht; exact ok_nilS R hD ho ht h2 he
      · cases h1
    · cases hok
  case un op x =>
    split at hok
    · rename_i op' xt x' ho
      simp only [Bool.and_eq_true, decide_eq_true_eq] at hok
      obtain ⟨rfl, h1⟩ := hok
      exact ok_un R hD ho h1 he
    · cases hok
  case conv k x =>
    split at hok
    · rename_i src dst x' ho
      simp only [Bool.and_eq_true] at hok
      obtain ⟨⟨h1, h2⟩, h3⟩ := hok
      split at h1
      · rename_i k1 hk1
        split at h2
        · rename_i k2 hk2
          simp only [decide_eq_true_eq] at h2; subst h2
          exact ok_conv R hD ho hk1 hk2 h3 he
        · cases h2
      · cases h1
    · cases hok
  case mkfn f caps =>
    split at hok
    · rename_i f' first caps' ho
      simp only [Bool.and_eq_true, Nat.beq_eq] at hok
      obtain ⟨⟨rfl, h1⟩, h2⟩ := hok
      have : first = #[] := by simpa using h1
      subst this
      exact ok_mkfn R hD ho h2 he
    · cases hok
  case mks arr u sz zero x y =>
    split at hok
    · rename_i t x' y' ho
      split at hok
      · rename_i et het
        simp only [Bool.and_eq_true, Nat.ble_eq] at hok
        obtain ⟨⟨⟨⟨⟨h1, h2⟩, h3⟩, h4⟩, h5⟩, h6⟩ := hok
        obtain ⟨i, z, k1, k2, k3⟩ := zeroAt_eq h2
        have hs := sizeAt_eq h1
        rw [k1] at hs; simp at hs; subst hs
        rw [bytesOf_eq k1] at h4
        exact ok_mks R hD ho (elemOfSlice_eq het) k1 k2 h4 k3 (noNil_mem h3) h5 h6 he
      · cases hok
    · cases hok
  case slcS x lo hi =>
    split at hok
    · rename_i t x' lo' hi' ho
      simp only [Bool.and_eq_true] at hok
      obtain ⟨⟨⟨h1, h2⟩, h3⟩, h4⟩ := hok
      split at h1
      · rename_i ht; exact ok_slcS R hD ho ht h2 h3 h4 he
      · cases h1
    · cases hok
  case slcL sz x lo hi =>
    split at hok
    · rename_i t x' lo' hi' ho
      split at hok
      · rename_i et het
        simp only [Bool.and_eq_true] at hok
        exact ok_slcL R hD ho (elemOfSlice_eq het) (sizeAt_eq hok.1.1.1) hok.1.1.2 hok.1.2 hok.2 he
      · cases hok
    · cases hok
  case faddr off x =>
    split at hok
    · rename_i S x' f ho
      split at hok
      · rename_i fs hfs
        split at hok
        · rename_i fd hfd
          simp only [Bool.and_eq_true, Nat.beq_eq] at hok
          obtain ⟨⟨h1, h2⟩, h3⟩ := hok
          split at h2
          · rename_i i hi
            have hne : i.size ≠ 0 := by intro e0; rw [← Nat.beq_eq] at e0; rw [e0] at h2; cases h2
            exact ok_faddr R hD ho hfs hfd h1 (n := i.size) (by rw [hi]; rfl) hne h3 he
          · cases h2
        · cases hok
      · cases hok
    · cases hok
  case fld ag off n x =>
    split at hok
    · rename_i S x' f ho
      split at hok
      · rename_i fs hfs
        split at hok
        · rename_i fd hfd
          simp only [Bool.and_eq_true, Nat.beq_eq] at hok
          exact ok_fld R hD ho hfs hfd hok.1.1.1 (sizeAt_eq hok.1.1.2) (isAggAt_run hok.1.2 w) hok.2 he
        · cases hok
      · cases hok
    · cases hok
  case iaddr sz x i =>
    split at hok
    · rename_i t x' i' ho
      split at hok
      · rename_i et het
        simp only [Bool.and_eq_true] at hok
        exact ok_iaddr R hD ho (elemOfSlice_eq het) (sizeAt_eq hok.1.1) hok.1.2 hok.2 he
      · cases hok
    · cases hok
  case iaddrA len sz x i =>
    split at hok
    · rename_i t x' i' ho
      split at hok
      · rename_i len' et het
        simp only [Bool.and_eq_true, Nat.beq_eq] at hok
        obtain ⟨⟨⟨rfl, h1⟩, h2⟩, h3⟩ := hok
        exact ok_iaddrA R hD ho het (sizeAt_eq h1) h2 h3 he
      · cases hok
    · cases hok
  case idxS x i =>
    split at hok
    · rename_i t x' i' ho
      simp only [Bool.and_eq_true] at hok
      obtain ⟨⟨h1, h2⟩, h3⟩ := hok
      split at h1
      · rename_i ht; exact ok_idxS R hD ho ht h2 h3 he
      · cases h1
    · cases hok
  case idxA ag len sz x i =>
    split at hok
    · rename_i t x' i' ho
      split at hok
      · rename_i len' et het
        simp only [Bool.and_eq_true, Nat.beq_eq] at hok
        obtain ⟨⟨⟨⟨rfl, h1⟩, h2⟩, h3⟩, h4⟩ := hok
        exact ok_idxA R hD ho het (sizeAt_eq h1) (isAggAt_run h2 w) h3 h4 he
      · cases hok
    · cases hok
  case extr n i =>
    split at hok
    · rename_i m j ho
      simp only [Bool.and_eq_true, Nat.beq_eq] at hok
      obtain ⟨rfl, rfl⟩ := hok
      exact ok_extr R hD ho he
    · cases hok
  case extrT n i =>
    split at hok
    · rename_i m j ho
      simp only [Bool.and_eq_true, Nat.beq_eq] at hok
      obtain ⟨rfl, rfl⟩ := hok
      exact ok_extrT R hD ho he
    · cases hok
  case lenS x =>
    split at hok
    · rename_i c ho
      split at hok
      · rename_i x' t h1 h2 h3
        simp only [Bool.and_eq_true] at hok
        obtain ⟨k1, k2⟩ := hok
        split at k1
        · rename_i ht; exact ok_lenS R hD ho h1 (arr_of_list h2) h3 ht k2 he
        · cases k1
      · cases hok
    · cases hok
  case lenL x =>
    split at hok
    · rename_i c ho
      split at hok
      · rename_i x' t h1 h2 h3
        simp only [Bool.and_eq_true] at hok
        obtain ⟨et, het⟩ := Option.isSome_iff_exists.1 hok.1
        exact ok_lenL R hD ho h1 (arr_of_list h2) h3 (elemOfSlice_eq het) hok.2 he
      · cases hok
    · cases hok
  case app u arr sz x y =>
    split at hok
    · rename_i c ho
      split at hok
      · rename_i x' y' t t' h1 h2 h3
        simp only [Bool.and_eq_true, Nat.beq_eq] at hok
        obtain ⟨⟨⟨rfl, k1⟩, k2⟩, k3⟩ := hok
        split at k1
        · rename_i et het
          simp only [Bool.and_eq_true, Nat.ble_eq] at k1
          obtain ⟨⟨k4, k5⟩, k6⟩ := k1
          split at k6
          · rename_i i hi
            split at k6
            · rename_i z hz
              rw [Nat.beq_eq] at k6
              have hs := sizeAt_eq k4
              rw [hi] at hs; simp at hs; subst hs
              rw [bytesOf_eq hi] at k5
              exact ok_app R hD ho h1 (arr_of_list h2) (arr_of_list h3) (elemOfSlice_eq het) hi hz k6 k5 k2 k3 he
            · cases k6
          · cases k6
        · cases k1
      · cases hok
    · cases hok
  case mx x y =>
    split at hok
    · rename_i c ho
      split at hok
      · rename_i x' y' h1 h2
        simp only [Bool.and_eq_true] at hok
        exact ok_mx R hD ho h1 (arr_of_list h2) hok.1 hok.2 he
      · cases hok
    · cases hok
  case mn x y =>
    split at hok
    · rename_i c ho
      split at hok
      · rename_i x' y' h1 h2
        simp only [Bool.and_eq_true] at hok
        exact ok_mn R hD ho h1 (arr_of_list h2) hok.1 hok.2 he
      · cases hok
    · cases hok
end
end Go.Vs

namespace Go.Vs
open Go
set_option linter.unusedSimpArgs false
set_option linter.unusedVariables false

section
variable {P : Program} {gl : Globs} {g : Gh} {d N : Nat} {s : St} {a : Act} {w : World} {o : Oper} {draw : Bool} {e : Eff} {C : Callee} {tmps : Array Value}

/-- A value is taken out of a cell of a box of the frame. -/
theorem Rel.takeCell (R : Rel gl g d s tmps w) {n off : Nat} {cs : List AV} {c : AV} (hb : s.bx n = some (.cells cs)) (hc : cs[off]? = some c) (κ : Key) (hκ : ∀ l k, κ ≠ .box l k) :
    Rel gl (g.re fun k => if k = .cell d n off then κ else k) d { s with bx := upd s.bx n (some (.cells (cs.set off .undef))) } tmps w := by
  let f : Key → Key := fun k => if k = .cell d n off then κ else k
  have hk : ∀ k, k ≠ .cell d n off → Keep g w (g.re f) w k := fun k hk => re_keep _ _ _ (if_neg hk)
  have hnb := R.excl n _ hb
  have hmerge : ∀ k, mergeB (upd s.bx n (some (.cells (cs.set off .undef)))) s.nb k = if k = n then some (.cells (cs.set off .undef)) else mergeB s.bx s.nb k := fun k => by
    simp only [mergeB]
    by_cases hkn : k = n
    · subst hkn; simp [hnb, upd_same]
    · simp [upd_ne _ _ hkn, hkn]
  refine R.on (re_ext _ _ _) (fun _ _ _ h => h) (fun k => .inl ⟨rfl, rfl, fun c => hk _ (by simp)⟩) (fun k B h => ?_) (fun k h => ?_) (fun k B h => ?_) (fun l k B h => .inl ⟨h, hk _ (by simp), fun i => hk _ ?_⟩) R.deadO R.lvl
    (fun b' hb' => ⟨by simp [Gh.re, (R.fresh b' hb').1], (R.fresh b' hb').2⟩) (fun l n b' h => ⟨by simp [Gh.re, (R.locs l n b' h).1], (R.locs l n b' h).2⟩)
  · have h : mergeB (upd s.bx n (some (.cells (cs.set off .undef)))) s.nb k = some B := h
    rw [hmerge] at h
    by_cases hkn : k = n
    · rw [if_pos hkn] at h; cases h; subst hkn
      right
      obtain ⟨b, c', el, k1, k2, k3, k4, k5⟩ := R.boxes k (.cells cs) (by simp [mergeB, hnb, hb])
      refine ⟨b, c', el, k1, k2, k3, by simpa using k4, fun i z hz => ?_⟩
      by_cases hi : i = off
      · subst hi
        rw [List.getElem?_set_self (lt_of_get hc)] at hz; simp only [Option.some.injEq] at hz; subst hz
        exact ⟨.inl rfl, trivial⟩
      · rw [List.getElem?_set_ne (fun e => hi e.symm)] at hz
        obtain ⟨e1, e2⟩ := k5 i z hz
        exact ⟨e1, e2.keep (re_ext _ _ _) (hk _ (by simp [hi])) (fun _ _ _ h => h)⟩
    · rw [if_neg hkn] at h
      exact .inl ⟨h, hk _ (by simp), fun i => hk _ (by simp [hkn])⟩
  · have h : mergeB (upd s.bx n (some (.cells (cs.set off .undef)))) s.nb k = none := h
    rw [hmerge] at h
    by_cases hkn : k = n
    · rw [if_pos hkn] at h; cases h
    · rw [if_neg hkn] at h; exact R.dead k h
  · by_cases hkn : k = n
    · subst hkn; exact hnb
    · have h : upd s.bx n (some (.cells (cs.set off .undef))) k = some B := h
      rw [upd_ne _ _ hkn] at h; exact R.excl k B h
  · have := stkGet_lt h
    rw [R.lvl] at this
    intro e0
    simp only [Key.cell.injEq] at e0
    omega

theorem Rel.takeSlot (R : Rel gl g d s tmps w) (n : Nat) (κ : Key) (hκ : ∀ l k, κ ≠ .box l k) :
    Rel gl (g.re fun k => if k = .slot d n 0 then κ else k) d { s with env := upd s.env n .undef } tmps w := by
  let f : Key → Key := fun k => if k = .slot d n 0 then κ else k
  have hk : ∀ k, k ≠ .slot d n 0 → Keep g w (g.re f) w k := fun k hk => re_keep _ _ _ (if_neg hk)
  refine R.on (re_ext _ _ _) (fun _ _ _ h => h) (fun k => ?_) (fun k B h => .inl ⟨h, hk _ (by simp), fun _ => hk _ (by simp)⟩) R.dead R.excl (fun l k B h => .inl ⟨h, hk _ (by simp), fun i => hk _ (by simp)⟩) R.deadO R.lvl
    (fun b' hb' => ⟨by simp [Gh.re, (R.fresh b' hb').1], (R.fresh b' hb').2⟩) (fun l n b' h => ⟨by simp [Gh.re, (R.locs l n b' h).1], (R.locs l n b' h).2⟩)
  show ((upd s.env n .undef k = s.env k ∧ _) ∨ RV _ _ _ _ (upd s.env n .undef k) _)
  by_cases hkn : k = n
  · subst hkn; right; rw [upd_same]; trivial
  · left; exact ⟨upd_ne _ _ hkn, rfl, fun c => hk _ (by simp [hkn])⟩

theorem pur_plain {v p : AV} (h : v.pur = some p) : plainV p = true := by
  cases v <;> simp only [AV.pur, Option.some.injEq, reduceCtorEq] at h
  case own u sz l => cases u <;> simp [AV.pur] at h; subst h; rfl
  case fn f caps => cases caps <;> simp [AV.pur] at h; subst h; rfl
  all_goals (subst h; rfl)

theorem plain_refs {p : AV} (h : plainV p = true) : p.refs = [] := by
  cases p <;> simp only [plainV, Bool.false_eq_true] at h <;> first | rfl | skip
  case fn f caps => cases caps <;> simp [plainV] at h; rfl

theorem resVal_plain {ko : Bool} {clear : St → St} {A B : AV} {s' : St} (h : resVal ko s clear A = some (B, s')) : plainV B = true := by
  unfold resVal at h
  repeat' split at h
  all_goals first
    | (cases h; done)
    | (cases h; first | rfl | exact pur_plain (by assumption))

theorem result_plain {ko : Bool} {q : ARes} {B : AV} {s' : St} (h : result ko s q = some (B, s')) : plainV B = true := by
  cases q with
  | tmp n => simp only [result] at h; exact resVal_plain h
  | cell n size ag =>
    simp only [result] at h
    repeat' split at h
    all_goals first
      | exact resVal_plain h
      | (cases h; done)
      | (cases h; rfl)

theorem resultsL_plain : ∀ {qs : List ARes} {ko : Bool} {s : St} {Bs : List AV} {s' : St}, resultsL ko s qs = some (Bs, s') → ∀ B ∈ Bs, plainV B = true
  | [], ko, s, Bs, s', h, B, hB => by
    simp only [resultsL, Option.some.injEq, Prod.mk.injEq] at h
    rw [← h.1] at hB; simp at hB
  | q :: qs, ko, s, Bs, s', h, B, hB => by
    simp only [resultsL] at h
    split at h
    · cases h
    · rename_i B1 s1 h1
      split at h
      · cases h
      · rename_i Bs' s2 h2
        simp only [Option.some.injEq, Prod.mk.injEq] at h
        rw [← h.1] at hB
        rcases List.mem_cons.1 hB with rfl | hB
        · exact result_plain h1
        · exact resultsL_plain h2 B hB

/-- One result. -/
theorem resVal_ok (R : Rel gl g d s tmps w) {ko : Bool} {clear : St → St} {κ : Key} (hκ : ∀ k, κ ≠ .ret k) {A B : AV} {v : Value} (hv : RV1 g w d κ A v) (i : Nat)
    (hclear : Rel gl (g.re fun k => if k = κ then .ret i else k) d (clear s) tmps w) {s' : St} (h : resVal ko s clear A = some (B, s')) :
    ∃ g', Rel gl g' d s' tmps w ∧ Step g w g' w ∧ RV1 g' w d (.ret i) B v ∧ ∀ j, j ≠ i → Keep g w g' w (.ret j) := by
  unfold resVal at h
  split at h
  · rename_i u sz l
    split at h
    · simp only [Option.some.injEq, Prod.mk.injEq] at h
      obtain ⟨rfl, rfl⟩ := h
      refine ⟨_, hclear, re_step _ _ _, RV1.re (if_pos rfl) hv, fun j hj => re_keep _ _ _ (if_neg (fun e0 => hκ j e0.symm))⟩
    · split at h
      · cases h
      · rename_i hu
        simp only [Option.some.injEq, Prod.mk.injEq] at h
        obtain ⟨rfl, rfl⟩ := h
        have : u = false := by cases u <;> simp_all
        subst this
        exact ⟨g, R, .refl _ _, (own_rp hv).rc _, fun _ _ => .refl _ _ _⟩
  · split at h
    · simp only [Option.some.injEq, Prod.mk.injEq] at h
      obtain ⟨rfl, rfl⟩ := h
      exact ⟨g, R, .refl _ _, hv, fun _ _ => .refl _ _ _⟩
    · simp only [Option.some.injEq, Prod.mk.injEq] at h
      obtain ⟨rfl, rfl⟩ := h
      obtain ⟨x, rfl⟩ := hv
      exact ⟨g, R, .refl _ _, (RP.nil _ _).rc _, fun _ _ => .refl _ _ _⟩
  · rename_i n k
    split at h
    · rename_i fz sz l hb
      split at h
      · rename_i hl
        simp only [Option.some.injEq, Prod.mk.injEq] at h
        obtain ⟨rfl, rfl⟩ := h
        have hnb := R.excl n _ hb
        subst hl
        obtain ⟨g', h1, h2, h3, h4, h5, h6⟩ := R.freeze (n := n) (fz := fz) (sz := sz) (l := l) (by simp [mergeB, hnb, hb]) (bx' := upd s.bx n (some (.arr true sz l))) (nb' := s.nb) (fun q => by
            simp only [mergeB]
            by_cases hq : q = n
            · subst hq; simp [hnb, upd_same]
            · simp [upd_ne _ _ hq, hq]) (fun q B hq => by
            by_cases hqn : q = n
            · subst hqn; exact hnb
            · rw [upd_ne _ _ hqn] at hq; exact R.excl q B hq) hv
        exact ⟨g', h1, h2, h5.rc _, fun j _ => h6 _ (by simp)⟩
      · cases h
    · cases h
  · split at h
    · rename_i p hp
      simp only [Option.some.injEq, Prod.mk.injEq] at h
      obtain ⟨rfl, rfl⟩ := h
      exact ⟨g, R, .refl _ _, (hv.purs hp).rc _, fun _ _ => .refl _ _ _⟩
    · cases h

def okRes (P : Program) : ResultVar → ARes → Bool
  | .tmp t, .tmp n => Nat.beq t n
  | .cell x t, .cell n size ag => Nat.beq x n && isAggAt P t ag && sizeAt P t size
  | _, _ => false

def okResL (P : Program) : List ResultVar → List ARes → Bool
  | [], [] => true
  | r :: rs, q :: qs => okRes P r q && okResL P rs qs
  | _, _ => false

/-- The model's reading of one result. -/
def readRes (tmps : Array Value) : ResultVar → Sem Value
  | .tmp t => pure (tmps.getD t undef)
  | .cell x t => do loadVar t (← asAddr (tmps.getD x undef))

theorem rv_slot1 {n : Nat} {A : AV} {v : Value} (h : RV g w d n A v) (ht : ∀ vs, A ≠ .tup vs) : RV1 g w d (.slot d n 0) A v := h.rv1 ht

theorem result_ok (R : Rel gl g d s tmps w) {ko : Bool} {r : ResultVar} {q : ARes} (hq : okRes P r q = true) {B : AV} {s' : St} (h : result ko s q = some (B, s')) (i : Nat) :
    ∃ g' v, (readRes tmps r).run P w = .ok v w ∧ Rel gl g' d s' tmps w ∧ Step g w g' w ∧ RV1 g' w d (.ret i) B v ∧ ∀ j, j ≠ i → Keep g w g' w (.ret j) := by
  cases r with
  | tmp t =>
    cases q with
    | cell => simp [okRes] at hq
    | tmp n =>
      simp only [okRes, Nat.beq_eq] at hq; subst hq
      simp only [result] at h
      have hsl := R.slots t
      have ht : ∀ vs, s.env t ≠ .tup vs := by rintro vs e0; rw [e0] at h; simp [resVal, AV.pur] at h
      obtain ⟨g', h1, h2, h3, h4⟩ := resVal_ok R (κ := .slot d t 0) (by simp) (hsl.rv1 ht) i (R.takeSlot t (.ret i) (by simp)) h
      exact ⟨g', _, rfl, h1, h2, h3, h4⟩
  | cell x t =>
    cases q with
    | tmp => simp [okRes] at hq
    | cell n size ag =>
      simp only [okRes, Bool.and_eq_true, Nat.beq_eq] at hq
      obtain ⟨⟨rfl, hag⟩, hsz⟩ := hq
      simp only [result] at h
      have hsl := R.slots x
      split at h
      · rename_i m off h1
        rw [h1] at hsl
        obtain ⟨b, h2, h3⟩ := hsl
        have hread : readRes tmps (.cell x t) = loadVar t (at' b off) := by
          simp only [readRes, h3, asAddr]; rfl
        split at h
        · rename_i cs hb
          have hnb := R.excl m _ hb
          obtain ⟨b', c', el, k1, k2, k3, k4, k5⟩ := R.boxes m (.cells cs) (by simp [mergeB, hnb, hb])
          have : b' = b := by have h2 : g.loc d m = some b := h2.1; rw [k1] at h2; simpa using h2
          subst this
          cases ag with
          | true =>
            simp only [if_true] at h
            split at h
            · rename_i hn
              split at h
              · rename_i ps hps
                simp only [Option.some.injEq, Prod.mk.injEq] at h
                obtain ⟨rfl, rfl⟩ := h
                have hlen : ps.length = size := by rw [purs_length hps]; simp; omega
                refine ⟨g, .agg ((List.range size).map fun j => c'.getD (off + j) undef).toArray, ?_, R, .refl _ _, ?_, fun _ _ => .refl _ _ _⟩
                · rw [hread]
                  exact run_loadVarA (isAggAt_run hag w) (sizeAt_eq hsz) (fun j hj => by rw [cell_of_heap k3]; exact getD_of_lt (by omega))
                · rw [← hlen]
                  refine (range_row (imm := g.imm) (w := w) (fun j p hp => ?_)).agg.rc _
                  obtain ⟨v, e1, e2⟩ := purs_get hps j p hp
                  obtain ⟨_, e3⟩ := drop_take_get e1
                  obtain ⟨e4, e5⟩ := k5 _ v e3
                  exact ⟨pur_one e2 e4, e5.purs e2⟩
              · cases h
            · cases h
          | false =>
            simp only [Bool.false_eq_true, if_false] at h
            split at h
            · rename_i c hc
              obtain ⟨_, k6⟩ := k5 off c hc
              have hlt : off < c'.size := by rw [k4]; exact lt_of_get hc
              obtain ⟨g', e1, e2, e3, e4⟩ := resVal_ok R (κ := .cell d m off) (by simp) k6 i (R.takeCell hb hc (.ret i) (by simp)) h
              refine ⟨g', _, ?_, e1, e2, e3, e4⟩
              rw [hread]
              exact run_loadVar1 (isAggAt_run hag w) (by rw [cell_of_heap k3]; exact getD_of_lt hlt)
            · cases h
        · cases h
      · cases h

theorem resultsL_ok : ∀ {rs : List ResultVar} {qs : List ARes} (hq : okResL P rs qs = true) {ko : Bool} {g : Gh} {s : St} (R : Rel gl g d s tmps w) {Bs : List AV} {s' : St} (h : resultsL ko s qs = some (Bs, s')) (i : Nat),
    ∃ g' vs, (rs.mapM (readRes tmps)).run P w = .ok vs w ∧ vs.length = Bs.length ∧ Rel gl g' d s' tmps w ∧ Step g w g' w ∧ (∀ j B, Bs[j]? = some B → RV1 g' w d (.ret (i + j)) B (vs.getD j undef)) ∧ ∀ j, j < i → Keep g w g' w (.ret j)
  | [], [], _, ko, g, s, R, Bs, s', h, i => by
    simp only [resultsL, Option.some.injEq, Prod.mk.injEq] at h
    obtain ⟨rfl, rfl⟩ := h
    exact ⟨g, [], rfl, rfl, R, .refl _ _, by simp, fun _ _ => .refl _ _ _⟩
  | [], _ :: _, hq, _, _, _, _, _, _, _, _ => by simp [okResL] at hq
  | _ :: _, [], hq, _, _, _, _, _, _, _, _ => by simp [okResL] at hq
  | r :: rs, q :: qs, hq, ko, g, s, R, Bs, s', h, i => by
    simp only [okResL, Bool.and_eq_true] at hq
    simp only [resultsL] at h
    split at h
    · cases h
    · rename_i B s1 h1
      split at h
      · cases h
      · rename_i Bs' s2 h2
        simp only [Option.some.injEq, Prod.mk.injEq] at h
        obtain ⟨rfl, rfl⟩ := h
        obtain ⟨g1, v, e1, R1, S1, e2, e3⟩ := result_ok R hq.1 h1 i
        obtain ⟨g2, vs, f1, f2, R2, S2, f3, f4⟩ := resultsL_ok hq.2 R1 h2 (i + 1)
        have keepTrans : ∀ κ, Keep g w g1 w κ → Keep g1 w g2 w κ → Keep g w g2 w κ := fun κ p1 p2 b hb => by
          obtain ⟨q1, q2, q3⟩ := p1 b hb
          obtain ⟨r1, r2, r3⟩ := p2 b q1
          exact ⟨r1, r2.trans q2, r3.trans q3⟩
        refine ⟨g2, v :: vs, ?_, by simp [f2], R2, S1.trans S2, fun j B' hB' => ?_, fun j hj => keepTrans _ (e3 j (by omega)) (f4 j (by omega))⟩
        · simp only [List.mapM_cons, Sem.run_bind, e1, Result.andThen_ok, f1, Sem.run_pure]
        · cases j with
          | zero =>
            simp at hB'; subst hB'
            simp only [Nat.add_zero, List.getD_cons_zero]
            refine e2.keep S2.ext (f4 i (by omega)) (fun r hr b hb => ?_)
            -- results bear no references
            rw [plain_refs (result_plain h1)] at hr
            simp at hr
          | succ j =>
            have := f3 j B' (by simpa using hB')
            simp only [List.getD_cons_succ]
            rw [show i + (j + 1) = i + 1 + j by omega]; exact this
end
end Go.Vs

namespace Go.Vs
open Go
set_option linter.unusedSimpArgs false
set_option linter.unusedVariables false

section
variable {P : Program} {gl : Globs} {g : Gh} {d N : Nat} {s : St} {a : Act} {w : World} {o : Oper} {draw : Bool} {e : Eff} {C : Callee} {tmps : Array Value}

def AV.isOwn : AV → Bool
  | .own _ _ _ => true
  | _ => false

/-- What is no row of one's own and bears no reference stands for itself wherever the memory that never turns is the same. -/
theorem RV1.free {g' : Gh} {d' : Nat} {κ κ' : Key} {A : AV} {v : Value} (hp : plainV A = true) (ho : A.isOwn = false) (hi : g'.imm = g.imm) (h : RV1 g w d κ A v) : RV1 g' w d' κ' A v := by
  cases A <;> simp only [plainV, AV.isOwn, Bool.false_eq_true] at hp ho <;> simp only [RV1] at h ⊢ <;> first | (rw [hi]; exact h) | exact h | skip
  case own => simp at ho
  case fn f caps =>
    cases caps with
    | nil => obtain ⟨vs, h1, h2, h3⟩ := h; exact ⟨vs, h1, h2, by simp⟩
    | cons => simp [plainV] at hp

/-- The same, where references stand for the same too. -/
theorem RV1.freeL {g' : Gh} {κ κ' : Key} {A : AV} {v : Value} (ho : A.isOwn = false) (hi : g'.imm = g.imm) (hl : g'.loc = g.loc) (h : RV1 g w d κ A v) : RV1 g' w d κ' A v := by
  have ha : ∀ {r : Ref} {b : Nat}, g.at d r b → g'.at d r b := fun h => ⟨by rw [hl]; exact h.1, h.2⟩
  have hs : ∀ {A : AV} {v : Value}, RS g w d A v → RS g' w d A v := fun {A v} h => by
    cases A <;> simp only [RS] at h ⊢ <;> first | exact h | (rw [hi]; exact h) | (obtain ⟨b, h1, h2⟩ := h; exact ⟨b, ha h1, h2⟩)
  cases A <;> simp only [AV.isOwn, Bool.false_eq_true] at ho <;> simp only [RV1] at h ⊢ <;> first | exact h | (rw [hi]; exact h) | (obtain ⟨b, h1, h2⟩ := h; exact ⟨b, ha h1, h2⟩) | skip
  case own => simp at ho
  case fn f caps =>
    obtain ⟨vs, h1, h2, h3⟩ := h
    exact ⟨vs, h1, h2, fun i c hc => hs (h3 i c hc)⟩

def noTup : AV → Bool
  | .tup _ => false
  | _ => true

/-- A result as the caller finds it. -/
def RVres (g : Gh) (w : World) (d : Nat) (v : AV) (cv : Value) : Prop :=
  match v with
  | .tup vs => ∃ ws : Array Value, cv = .tuple ws ∧ ws.size = vs.length ∧ ∀ (i : Nat) (c : AV), vs[i]? = some c → RV1 g w d (.ret i) c (ws.getD i undef) ∧ plainV c = true
  | A => RV1 g w d (.ret 0) A cv ∧ plainV A = true

def keyOut (d : Nat) : Key → Bool
  | .slot _ _ _ => false
  | .box l _ => Nat.blt l d
  | .cell l _ _ => Nat.blt l d
  | .ret _ => true

/-- What a call leaves. -/
structure Out (gl : Globs) (g : Gh) (w : World) (d : Nat) (v : AV) (stk' : List Boxes) (g' : Gh) (w' : World) (cv : Value) : Prop where
  res : RVres g' w' d v cv
  outer : ∀ l n b, stkGet stk' l n = some b → RBox g' w' l n b
  deadO : ∀ l n, l < d → stkGet stk' l n = none → g'.loc l n = none
  lvl : stk'.length = d
  ext : Ext g w g' w'
  size : w.heap.size ≤ w'.heap.size
  rest : ∀ b, b < w.heap.size → g.ob b = none → g'.ob b = none ∧ g'.imm b = g.imm b ∧ w'.heap[b]? = w.heap[b]?
  os : w'.os = w.os
  tape : w'.tape = w.tape
  output : w'.output = w.output
  loc : ∀ l n b, l < d → g.loc l n = some b → g'.loc l n = some b
  fresh : ∀ b, w'.heap.size ≤ b → g'.ob b = none ∧ g'.imm b = 0
  locs : ∀ l n b, g'.loc l n = some b → g'.ob b = some (.box l n) ∧ l < d
  obs : ∀ b κ, g'.ob b = some κ → keyOut d κ = true

def CallOK (P : Program) (gl : Globs) (C : Callee) : Prop :=
  ∀ (f : Nat) (args : List AV) (stk : List Boxes) (v : AV) (stk' : List Boxes), C f args stk = some (v, stk') →
    (∃ fn, P.funcs[f]? = some fn ∧ fn.name ≠ "runtime.NumGoroutine" ∧ fn.body.isSome = true) ∧
    ∀ (g : Gh) (w : World) (vs : Array Value), vs.size = args.length → Rel gl g stk.length (initSt args stk) vs w →
      Calls P f vs w fun e w' => ∃ cv g', e = .returned cv ∧ Out gl g w stk.length v stk' g' w' cv

theorem exec_call {c : Call} {f' : Operand} {fid : Nat} {caps : Array Value} (ho : o.op = .call c) (hc : c.callee = .value f') (hf : a.eval f' = .func (.func fid) #[] caps)
    (hfn : ∃ fn, P.funcs[fid]? = some fn ∧ fn.name ≠ "runtime.NumGoroutine" ∧ fn.body.isSome = true) :
    (execOp a.eval o).run P w = .ok (.enter fid (c.args.map a.eval ++ caps)) w := by
  obtain ⟨fn, h1, h2, h3⟩ := hfn
  have h2' : (fn.name == "runtime.NumGoroutine") = false := by simpa using h2
  have h3' : fn.body.isNone = false := by cases hb : fn.body <;> simp_all
  simp only [execOp, ho, resolve, hc, hf, Deferred.ofValue, pure_bind, invoke, callFunc, Sem.run_bind, run_program, Result.andThen_ok, h1, h2', h3', Bool.false_eq_true, if_false, Sem.run_pure]
  simp

/-- The slot that an argument was taken from, told by the argument's place. -/
def takeIdx : List Opd → Nat → Nat → Option Nat
  | [], _, _ => none
  | .take m :: r, n, i => if m = n then some i else takeIdx r n (i + 1)
  | _ :: r, n, i => takeIdx r n (i + 1)

def nodupTakes : List Opd → Bool
  | [] => true
  | .take m :: r => (takeIdx r m 0).isNone && nodupTakes r
  | _ :: r => nodupTakes r

theorem takeIdx_shift : ∀ (l : List Opd) (n i j : Nat), takeIdx l n (i + j) = (takeIdx l n i).map (· + j)
  | [], _, _, _ => rfl
  | x :: r, n, i, j => by
    cases x <;> simp only [takeIdx]
    case take m =>
      split
      · rfl
      · rw [show i + j + 1 = i + 1 + j by omega]; exact takeIdx_shift r n (i + 1) j
    all_goals (rw [show i + j + 1 = i + 1 + j by omega]; exact takeIdx_shift r n (i + 1) j)

theorem takeIdx_get : ∀ {l : List Opd} {n i : Nat}, nodupTakes l = true → l[i]? = some (.take n) → takeIdx l n 0 = some i
  | [], n, i, _, h => by simp at h
  | x :: r, n, i, hn, h => by
    have hsh : takeIdx r n (0 + 1) = (takeIdx r n 0).map (· + 1) := takeIdx_shift r n 0 1
    cases i with
    | zero =>
      simp at h; subst h
      simp [takeIdx]
    | succ i =>
      have h' : r[i]? = some (.take n) := by simpa using h
      cases x
      case take m =>
        simp only [nodupTakes, Bool.and_eq_true, Option.isNone_iff_eq_none] at hn
        have ih := takeIdx_get hn.2 h'
        simp only [takeIdx]
        split
        · rename_i hm; subst hm; rw [hn.1] at ih; cases ih
        · rw [hsh, ih]; rfl
      all_goals
        simp only [nodupTakes] at hn
        have ih := takeIdx_get hn h'
        simp only [takeIdx]
        rw [hsh, ih]; rfl

theorem takeIdx_none : ∀ {l : List Opd} {n i : Nat}, n ∉ (tooks l).map (·.1) → takeIdx l n i = none
  | [], n, i, _ => rfl
  | x :: r, n, i, h => by
    simp only [tooks, List.map_append, List.mem_append, not_or] at h
    cases x <;> simp only [takeIdx]
    case take m =>
      simp [Opd.took] at h
      rw [if_neg (fun e => h.1 e.symm)]
      exact takeIdx_none (by simpa using h.2)
    all_goals exact takeIdx_none h.2

/-- An argument as it is handed over. -/
def ArgOK (g : Gh) (w : World) (d : Nat) (ax : Opd) (p : AV) (cv : Value) : Prop :=
  (∃ n u sz l, ax = .take n ∧ p = .own u sz l ∧ RV1 g w d (.slot d n 0) p cv) ∨ (p.isOwn = false ∧ RC g w d p cv)

theorem RD.arg {env : Env} {ax : Opd} {A : AV} {cv : Value} (h : RD g w d env ax A cv) (ht : noTup A = true) : ArgOK g w d ax A cv := by
  have ht' : ∀ vs, A ≠ .tup vs := by rintro vs rfl; simp [noTup] at ht
  cases hA : A.isOwn with
  | true =>
    cases A <;> simp only [AV.isOwn, Bool.false_eq_true] at hA
    rename_i u sz l
    obtain ⟨n, h1, h2⟩ := rd_own h
    exact .inl ⟨n, u, sz, l, h1, rfl, h2⟩
  | false =>
    rcases h with ⟨n, _, _, h⟩ | ⟨_, h⟩
    · exact .inr ⟨hA, fun κ => (h.rv1 ht').freeL hA rfl rfl⟩
    · exact .inr ⟨hA, h⟩

/-- What is no row of one's own stays what it is. -/
theorem RV1.keepN {g' : Gh} {w' : World} (e : Ext g w g' w') {κ κ' : Key} {A : AV} {v : Value} (ho : A.isOwn = false)
    (hl : ∀ r ∈ A.refs, ∀ b, g.at d r b → g'.at d r b) (h : RV1 g w d κ A v) : RV1 g' w' d κ' A v := by
  have h' := h.freeL (κ' := κ') ho rfl (rfl : g.loc = g.loc)
  cases A <;> simp only [AV.isOwn, Bool.false_eq_true] at ho <;> simp only [RV1] at h' ⊢
  case own => simp at ho
  case onil => exact h'
  case ptr r off => obtain ⟨b, h1, h2⟩ := h'; exact ⟨b, hl r (by simp [AV.refs, AV.refsS]) b h1, h2⟩
  case asl r n => obtain ⟨b, h1, h2⟩ := h'; exact ⟨b, hl r (by simp [AV.refs, AV.refsS]) b h1, h2⟩
  case aptr r sz i off => obtain ⟨b, h1, h2⟩ := h'; exact ⟨b, hl r (by simp [AV.refs, AV.refsS]) b h1, h2⟩
  case eptr cs => obtain ⟨b, o, h1, h2⟩ := h'; exact ⟨b, o, h1, h2.ext e⟩
  case fn f caps =>
    obtain ⟨vs, h1, h2, h3⟩ := h'
    refine ⟨vs, h1, h2, fun i c hc => (h3 i c hc).keep e fun r hr => hl r ?_⟩
    simp only [AV.refs, List.mem_flatMap]
    exact ⟨c, List.mem_of_getElem? hc, hr⟩
  all_goals exact h'.ext e

theorem ArgOK.keep {g' : Gh} {w' : World} {ax : Opd} {p : AV} {cv : Value} (h : ArgOK g w d ax p cv) (e : Ext g w g' w') (hk : ∀ n, Keep g w g' w' (.slot d n 0)) (hl : LocKeep g g') : ArgOK g' w' d ax p cv := by
  rcases h with ⟨n, u, sz, l, h1, h2, h3⟩ | ⟨h1, h2⟩
  · exact .inl ⟨n, u, sz, l, h1, h2, h3.keep e (hk n) (fun _ _ b hb => hl.at hb)⟩
  · exact .inr ⟨h1, fun κ => (h2 κ).keepN e h1 (fun _ _ b hb => hl.at hb)⟩

def ArgsOK (g : Gh) (w : World) (d : Nat) : List Opd → List AV → List Value → Prop
  | [], [], [] => True
  | ax :: axs, A :: vs, cv :: cvs => ArgOK g w d ax A cv ∧ ArgsOK g w d axs vs cvs
  | _, _, _ => False

theorem ArgsOK.keep {g' : Gh} {w' : World} (e : Ext g w g' w') (hk : ∀ n, Keep g w g' w' (.slot d n 0)) (hl : LocKeep g g') : ∀ {axs : List Opd} {ps : List AV} {cvs : List Value}, ArgsOK g w d axs ps cvs → ArgsOK g' w' d axs ps cvs
  | [], [], [], _ => trivial
  | _ :: _, _ :: _, _ :: _, h => ⟨h.1.keep e hk hl, ArgsOK.keep e hk hl h.2⟩
  | [], [], _ :: _, h => h.elim
  | [], _ :: _, _, h => h.elim
  | _ :: _, [], _, h => h.elim
  | _ :: _, _ :: _, [], h => h.elim

theorem ArgsOK.get : ∀ {axs : List Opd} {ps : List AV} {cvs : List Value}, ArgsOK g w d axs ps cvs → axs.length = ps.length ∧ cvs.length = ps.length ∧
    ∀ (i : Nat) (p : AV), ps[i]? = some p → ∃ ax, axs[i]? = some ax ∧ ArgOK g w d ax p (cvs.getD i undef)
  | [], [], [], _ => ⟨rfl, rfl, by simp⟩
  | ax :: axs, p :: ps, cv :: cvs, h => by
    obtain ⟨h1, h2, h3⟩ := ArgsOK.get h.2
    refine ⟨by simp [h1], by simp [h2], fun i q hq => ?_⟩
    cases i with
    | zero => simp at hq; subst hq; exact ⟨ax, rfl, h.1⟩
    | succ i => exact h3 i q (by simpa using hq)
  | [], [], _ :: _, h => h.elim
  | [], _ :: _, _, h => h.elim
  | _ :: _, [], _, h => h.elim
  | _ :: _, _ :: _, [], h => h.elim

theorem argsOK_of (R : Rel gl g d s a.tmps w) : ∀ {l : List Operand} {al : List Opd} (h : okOpds N l al = true) {vs : List AV} (hr : rds gl s.env al = some vs) (ht : vs.all noTup = true),
    ArgsOK g w d al vs (l.map a.eval) := by
  intro l al h vs hr ht
  obtain ⟨h1, h2, h3⟩ := rds_ok R h hr
  clear hr h
  induction l generalizing al vs with
  | nil =>
    cases al <;> cases vs <;> simp at h1 h2
    trivial
  | cons x l ih =>
    cases al with
    | nil => simp at h2
    | cons ax al =>
      cases vs with
      | nil => simp at h1
      | cons A vs =>
        simp only [List.all_cons, Bool.and_eq_true] at ht
        exact ⟨(h3 0 x ax A rfl rfl rfl).arg ht.1, ih ht.2 (by simpa using h1) (by simpa using h2) fun i x' ax' A' e1 e2 e3 => h3 (i + 1) x' ax' A' e1 e2 e3⟩

theorem pureArg_eq {v p : AV} (h : pureArg v = some p) : p = v ∧ plainV v = true ∧ noTup v = true := by
  cases v <;> simp only [pureArg, Option.some.injEq, reduceCtorEq] at h
  case fn f caps => cases caps <;> simp [pureArg] at h; subst h; exact ⟨rfl, rfl, rfl⟩
  all_goals (subst h; exact ⟨rfl, rfl, rfl⟩)

theorem freezes_ok : ∀ {axs : List Opd} {vs : List AV} {cvs : List Value} {g : Gh} {bx nb : Boxes} {ps : List AV} {bx' nb' : Boxes} {t : Bool} (_ : freezes bx nb vs = some (ps, bx', nb', t)) (_ : Rel gl g d { s with bx := bx, nb := nb } tmps w)
    (_ : ArgsOK g w d axs vs cvs), ∃ g', Rel gl g' d { s with bx := bx', nb := nb' } tmps w ∧ Step g w g' w ∧ g'.loc = g.loc ∧ g'.ob = g.ob ∧ (∀ κ, (∀ k, κ ≠ .box d k) → Keep g w g' w κ) ∧ ArgsOK g' w d axs ps cvs ∧
      (t = false → bx' = bx ∧ nb' = nb) ∧ ps.all plainV = true
  | axs, [], cvs, g, bx, nb, ps, bx', nb', t, h, R, hA => by
    simp only [freezes, Option.some.injEq, Prod.mk.injEq] at h
    obtain ⟨rfl, rfl, rfl, rfl⟩ := h
    exact ⟨g, R, .refl _ _, rfl, rfl, fun _ _ => .refl _ _ _, hA, fun _ => ⟨rfl, rfl⟩, rfl⟩
  | [], _ :: _, cvs, g, bx, nb, ps, bx', nb', t, h, R, hA => hA.elim
  | _ :: _, _ :: _, [], g, bx, nb, ps, bx', nb', t, h, R, hA => hA.elim
  | ax :: axs, v :: vs, cv :: cvs, g, bx, nb, ps, bx', nb', t, h, R, hA => by
    have fin : ∀ {n k sz : Nat} {fz : Bool} {l : List AV} {bx1 nb1 : Boxes} {vs1 : List AV} {t1 : Bool}, v = .asl (.loc n) k → l.length = k → mergeB bx nb n = some (.arr fz sz l) →
        (∀ q, mergeB bx1 nb1 q = if q = n then some (.arr true sz l) else mergeB bx nb q) → (∀ q B, bx1 q = some B → nb1 q = none) → freezes bx1 nb1 vs = some (vs1, bx', nb', t1) → ps = .slice l :: vs1 → t = true →
        ∃ g', Rel gl g' d { s with bx := bx', nb := nb' } tmps w ∧ Step g w g' w ∧ g'.loc = g.loc ∧ g'.ob = g.ob ∧ (∀ κ, (∀ k, κ ≠ .box d k) → Keep g w g' w κ) ∧ ArgsOK g' w d (ax :: axs) ps (cv :: cvs) ∧
          (t = false → bx' = bx ∧ nb' = nb) ∧ ps.all plainV = true := by
      intro n k sz fz l bx1 nb1 vs1 t1 hv hk hm hmerge hex hfr hps ht
      subst hv hk
      obtain ⟨hh, htl⟩ := hA
      have hcv : RV1 g w d (.ret 0) (.asl (.loc n) l.length) cv := by
        rcases hh with ⟨_, _, _, _, _, e0, _⟩ | ⟨_, e0⟩
        · cases e0
        · exact e0 _
      obtain ⟨g1, R1, S1, l1, o1, rp1, k1⟩ := R.freeze hm hmerge hex hcv
      have k1' : ∀ n, Keep g w g1 w (.slot d n 0) := fun n => k1 _ (by simp)
      have hl1 : LocKeep g g1 := fun l n b hb => by rw [l1]; exact hb
      obtain ⟨g2, R2, S2, l2, o2, k2, A2, _, P2⟩ := freezes_ok hfr R1 (htl.keep S1.ext k1' hl1)
      refine ⟨g2, R2, S1.trans S2, l2.trans l1, o2.trans o1, fun κ hκ b hb => ?_, ?_, by simp [ht], by simp [hps, P2, plainV]⟩
      · obtain ⟨q1, q2, q3⟩ := k1 κ hκ b hb
        obtain ⟨r1, r2, r3⟩ := k2 κ hκ b q1
        exact ⟨r1, r2.trans q2, r3.trans q3⟩
      · subst hps
        exact ⟨.inr ⟨rfl, fun κ => (rp1.ext S2.ext).rc κ⟩, A2⟩
    unfold freezes at h
    split at h
    · rename_i n k
      split at h
      · rename_i fz sz l hn
        split at h
        · rename_i hk
          split at h
          · cases h
          · rename_i vs1 bx1 nb1 t1 hfr
            simp only [Option.some.injEq, Prod.mk.injEq] at h
            obtain ⟨rfl, rfl, rfl, rfl⟩ := h
            exact fin (sz := sz) (fz := fz) rfl hk (by simp [mergeB, hn]) (fun q => by
              simp only [mergeB]
              by_cases hq : q = n
              · subst hq; simp [upd_same]
              · simp [upd_ne _ _ hq, hq]) (fun q B hq => by
              by_cases hqn : q = n
              · subst hqn
                have := R.excl q B hq
                rw [show ({ s with bx := bx, nb := nb } : St).nb q = nb q from rfl, hn] at this; cases this
              · rw [upd_ne _ _ hqn]; exact R.excl q B hq) hfr rfl rfl
        · cases h
      · cases h
      · rename_i hn
        split at h
        · rename_i fz sz l hb
          split at h
          · rename_i hk
            split at h
            · cases h
            · rename_i vs1 bx1 nb1 t1 hfr
              simp only [Option.some.injEq, Prod.mk.injEq] at h
              obtain ⟨rfl, rfl, rfl, rfl⟩ := h
              exact fin (sz := sz) (fz := fz) rfl hk (by simp [mergeB, hn, hb]) (fun q => by
                simp only [mergeB]
                by_cases hq : q = n
                · subst hq; simp [upd_same, hn]
                · simp [upd_ne _ _ hq, hq]) (fun q B hq => by
                by_cases hqn : q = n
                · subst hqn; exact hn
                · rw [upd_ne _ _ hqn] at hq; exact R.excl q B hq) hfr rfl rfl
          · cases h
        · cases h
    · split at h
      · cases h
      · rename_i p hp
        split at h
        · cases h
        · rename_i vs1 bx1 nb1 t1 hfr
          simp only [Option.some.injEq, Prod.mk.injEq] at h
          obtain ⟨rfl, rfl, rfl, rfl⟩ := h
          obtain ⟨rfl, e1, e2⟩ := pureArg_eq hp
          obtain ⟨g2, R2, S2, l2, o2, k2, A2, B2, P2⟩ := freezes_ok hfr R hA.2
          exact ⟨g2, R2, S2, l2, o2, k2, ⟨hA.1.keep S2.ext (fun n => k2 _ (by simp)) (fun l n b hb => by rw [l2]; exact hb), A2⟩, B2, by simp [e1, P2]⟩
end
end Go.Vs

namespace Go.Vs
open Go
set_option linter.unusedSimpArgs false
set_option linter.unusedVariables false

section
variable {P : Program} {gl : Globs} {g : Gh} {d N : Nat} {s : St} {a : Act} {w : World} {o : Oper} {draw : Bool} {e : Eff} {C : Callee} {tmps : Array Value}

/-- An operation, a call or another one, comes to what the evaluator says of it. -/
def OpW (P : Program) (gl : Globs) (g : Gh) (d : Nat) (s : St) (a : Act) (w : World) (o : Oper) (draw : Bool) (e : Eff) : Prop :=
  ∀ (next : Act → World → Prop) (Q : Exit → Act → World → Prop), (∀ g' v w', Rel gl g' d (applyEff draw s e) (putT a.tmps o.dst v) w' → Step g w g' w' → next (a.put o.dst v) w') → o.wp P a w next Q

theorem OpOK.toW (h : OpOK P gl g d s a w o draw e) : OpW P gl g d s a w o draw e := by
  intro next Q hn
  obtain ⟨g', v, w', hr, h1, h2⟩ := h
  rcases hr with hr | ⟨hr, rfl⟩
  · simp only [Oper.wp, hr, Oper.upon]; exact hn _ _ _ h1 h2
  · simp only [Oper.wp, hr, Oper.upon]; exact hn _ _ _ h1 h2

theorem res_land {gc g2 : Gh} {d' m : Nat} {v : AV} {cv : Value} (h : RVres gc w d' v cv) (hi : g2.imm = gc.imm) (ho : ∀ b c, gc.ob b = some (.ret c) → g2.ob b = some (.slot d m c)) : RV g2 w d m v cv := by
  have one : ∀ {A : AV} {x : Value} {i : Nat}, RV1 gc w d' (.ret i) A x → plainV A = true → RV1 g2 w d (.slot d m i) A x := by
    intro A x i h1 h2
    cases hA : A.isOwn with
    | false => exact h1.free h2 hA hi
    | true =>
      cases A <;> simp only [AV.isOwn, Bool.false_eq_true] at hA
      obtain ⟨b, cap, e1, e2, e3⟩ := h1
      refine ⟨b, cap, e1, ho _ _ e2, ?_⟩
      unfold OwnB at *
      rw [hi]; exact e3
  cases v
  case tup vs =>
    obtain ⟨ws, h1, h2, h3⟩ := h
    exact ⟨ws, h1, h2, fun i c hc => one (h3 i c hc).1 (h3 i c hc).2⟩
  all_goals exact one h.1 h.2

theorem getD_of_get {α : Type} {l : List α} {n : Nat} {x y : α} (h : l[n]? = some x) : l.getD n y = x := by
  rw [List.getD_eq_getElem?_getD, h]; rfl

theorem plain_noTup {v : AV} (h : plainV v = true) : noTup v = true := by
  cases v <;> simp [plainV, noTup] at h ⊢

theorem arg_free {g2 : Gh} {d' : Nat} {axs : List Opd} {i : Nat} {ax : Opd} {p : AV} {cv : Value} (hi : axs[i]? = some ax) (hnd : nodupTakes axs = true) (h : ArgOK g w d ax p cv) (hp : plainV p = true) (him : g2.imm = g.imm)
    (ho : ∀ b m, g.ob b = some (.slot d m 0) → takeIdx axs m 0 = some i → g2.ob b = some (.slot d' i 0)) : RV g2 w d' i p cv := by
  rcases h with ⟨m, u, sz, l, rfl, rfl, b, cap, e1, e2, e3⟩ | ⟨h1, h2⟩
  · refine ⟨b, cap, e1, ho b m e2 (takeIdx_get hnd hi), ?_⟩
    unfold OwnB at *
    rw [him]; exact e3
  · have : RC g2 w d' p cv := fun κ => (h2 κ).free hp h1 him
    exact this.rv

theorem keep_slot_trivial {g2 : Gh} {w' : World} {κ : Key} (h : ∀ b, g.ob b ≠ some κ) : Keep g w g2 w' κ := fun b hb => absurd hb (h b)

/-- What the callee of a pure call is given to see. -/
def Gh.calleeP (g : Gh) (d : Nat) (axs : List Opd) : Gh where
  imm := g.imm
  loc := fun _ _ => none
  ob := fun b => match g.ob b with
    | some (.slot l n 0) => if l = d then (takeIdx axs n 0).map fun i => .slot 0 i 0 else none
    | _ => none

theorem calleeP_none {axs : List Opd} {b : Nat} (h : g.ob b = none) : (g.calleeP d axs).ob b = none := by simp only [Gh.calleeP, h]

theorem calleeP_other {axs : List Opd} {b : Nat} {κ : Key} (h : g.ob b = some κ) (hn : ∀ n, n ∈ (tooks axs).map (·.1) → κ ≠ .slot d n 0) : (g.calleeP d axs).ob b = none := by
  simp only [Gh.calleeP, h]
  split
  · rename_i l n e0
    simp only [Option.some.injEq] at e0
    split
    · rename_i hl
      subst hl
      rw [takeIdx_none (fun hm => hn n hm e0)]
      rfl
    · rfl
  · rfl

theorem calleeP_rel (R : Rel gl g d s tmps w) {axs : List Opd} {ps : List AV} {cvs : List Value} (hA : ArgsOK g w d axs ps cvs) (hp : ps.all plainV = true) (hnd : nodupTakes axs = true) :
    Rel gl (g.calleeP d axs) 0 (initSt ps []) cvs.toArray w where
  slots n := by
    obtain ⟨h1, h2, h3⟩ := hA.get
    cases hn : ps[n]? with
    | none =>
      have : (initSt ps []).env n = .undef := by show ps.getD n .undef = _; rw [List.getD_eq_getElem?_getD, hn]; rfl
      rw [this]; trivial
    | some p =>
      obtain ⟨ax, e1, e2⟩ := h3 n p hn
      have : (initSt ps []).env n = p := getD_of_get hn
      rw [this]
      have : (cvs.toArray).getD n undef = cvs.getD n undef := by simp [Array.getD_eq_getD_getElem?]
      rw [this]
      refine arg_free e1 hnd e2 (List.all_eq_true.1 hp p (List.mem_of_getElem? hn)) rfl fun b m k1 k2 => ?_
      simp [Gh.calleeP, k1, k2]
  boxes n b h := by simp [mergeB, initSt] at h
  dead n _ := rfl
  excl n b h := by simp [initSt] at h
  outer l n b h := by simp [initSt, stkGet] at h
  deadO l n h := absurd h (by omega)
  lvl := rfl
  fresh b hb := ⟨calleeP_none (R.fresh b hb).1, (R.fresh b hb).2⟩
  locs l n b h := by simp [Gh.calleeP] at h
  globs := R.globs

/-- What is left after a pure call. -/
def Gh.backP (g gc g2 : Gh) (w : World) (d m : Nat) : Gh where
  imm := g2.imm
  loc := g.loc
  ob := fun b => match g2.ob b with
    | some (.ret c) => some (.slot d m c)
    | some _ => none
    | none => if (gc.ob b).isSome then none else if b < w.heap.size then g.ob b else none

theorem backP_rel (R : Rel gl g d s tmps w) {axs : List Opd} {D : Option Nat} (hD : ∀ m, D = some m → m < tmps.size) {v : AV} {g2 : Gh} {w' : World} {cv : Value} (O : Out gl (g.calleeP d axs) w 0 v [] g2 w' cv) :
    ∃ g', Rel gl g' d { s with env := wrs s.env (tooks axs ++ wrD D v) } (putT tmps D cv) w' ∧ Step g w g' w' := by
  let g' := g.backP (g.calleeP d axs) g2 w d (D.getD 0)
  have hx : Ext g w g' w' := ⟨O.ext.imm, O.ext.cell⟩
  have hk : ∀ κ, (∀ n, n ∈ (tooks axs).map (·.1) → κ ≠ .slot d n 0) → Keep g w g' w' κ := fun κ hκ b hb => by
    have hlt : b < w.heap.size := ob_lt R.fresh hb
    have hc := calleeP_other (axs := axs) hb hκ
    obtain ⟨e1, e2, e3⟩ := O.rest b hlt hc
    refine ⟨?_, e2, e3⟩
    show Gh.ob (g.backP _ _ _ _ _) b = _
    simp only [Gh.backP, e1, hc, hlt, Option.isSome_none, if_true, if_false, Bool.false_eq_true, hb]
  have hrest : ∀ b, b < w.heap.size → g.ob b = none → g'.ob b = none ∧ g'.imm b = g.imm b ∧ w'.heap[b]? = w.heap[b]? := fun b hb hn => by
    obtain ⟨e1, e2, e3⟩ := O.rest b hb (calleeP_none hn)
    refine ⟨?_, e2, e3⟩
    show Gh.ob (g.backP _ _ _ _ _) b = _
    simp only [Gh.backP, e1, calleeP_none hn, hb, Option.isSome_none, if_true, if_false, Bool.false_eq_true, hn]
  refine ⟨g', R.gen hx (fun _ _ _ h => h) (allU_tooks axs) rfl hD (fun m hm => ?_) (fun n c hn hn2 => hk _ ?_) (fun n b h => .inl ⟨h, hk _ (by simp), fun _ => hk _ (by simp)⟩) R.dead R.excl (fun l n b h => .inl ⟨h, hk _ (by simp), fun _ => hk _ (by simp)⟩) R.deadO R.lvl
    (fun b hb => ?_) (fun l n b h => ?_), hx, O.size, hrest, O.os, O.tape, O.output, fun _ _ _ h => h⟩
  · subst hm
    refine res_land O.res rfl fun b c hc => ?_
    show Gh.ob (g.backP _ _ _ _ _) b = _
    simp only [Gh.backP, hc, Option.getD_some]
  · intro m hm e0
    simp only [Key.slot.injEq, true_and] at e0
    exact hn2 (e0.1 ▸ hm)
  · have hlt : w.heap.size ≤ b := Nat.le_trans O.size hb
    refine ⟨?_, (O.fresh b hb).2⟩
    show Gh.ob (g.backP _ _ _ _ _) b = _
    simp only [Gh.backP, (O.fresh b hb).1]
    rw [if_neg (by omega : ¬ b < w.heap.size)]
    split <;> rfl
  · have h' := R.locs l n b h
    exact ⟨(hk (.box l n) (by simp) b h'.1).1, h'.2⟩

theorem callP_ok (HC : CallOK P gl C) (R : Rel gl g d s a.tmps w) (hD : ∀ m, o.dst = some m → m < a.tmps.size) {c : Call} {f' : Operand} {fa : Opd} {axs : List Opd} {arr fz : Bool}
    (ho : o.op = .call c) (hc : c.callee = .value f') (hf : okOpd N f' fa = true) (hargs : okOpds N c.args.toList axs = true) (hnd : nodupTakes axs = true)
    (he : eff gl C o.dst s.env s.bx s.nb s.stk (.callP fa axs arr fz) = some e) : OpW P gl g d s a w o draw e := by
  intro next Q hnext
  simp only [eff] at he
  split at he
  · rename_i fid vs hpf hvs
    obtain ⟨mf, hF⟩ := pk_ok R hf
    rw [hpf] at hF
    obtain ⟨caps, hfv, hcs, _⟩ := hF
    have hcaps : caps = #[] := by cases caps; simp_all
    subst hcaps
    split at he
    · rename_i ps bx' nb' t hfr
      by_cases htf : (t && !fz) = true
      · rw [if_pos htf] at he; cases he
      rw [if_neg htf] at he
      split at he
      · rename_i v hC
        split at he
        · rename_i v' m hl
          simp only [Option.some.injEq] at he
          -- the arguments
          have hnt : vs.all noTup = true := by
            have gen : ∀ {vs : List AV} {bx nb : Boxes} {r}, freezes bx nb vs = some r → vs.all noTup = true := by
              intro vs
              induction vs with
              | nil => intros; rfl
              | cons x vs ih =>
                intro bx nb r h
                simp only [List.all_cons, Bool.and_eq_true]
                unfold freezes at h
                split at h
                · refine ⟨rfl, ?_⟩
                  repeat' split at h
                  all_goals first
                    | (cases h; done)
                    | exact ih (by assumption)
                · split at h
                  · cases h
                  · rename_i p hp
                    split at h
                    · cases h
                    · exact ⟨(pureArg_eq hp).2.2, ih (by assumption)⟩
            exact gen hfr
          have hA := argsOK_of R hargs hvs hnt
          obtain ⟨g1, R1, S1, l1, o1, k1, A1, t1, P1⟩ := freezes_ok (s := s) hfr R hA
          have Rc := calleeP_rel R1 A1 P1 hnd
          obtain ⟨hfn, hcall⟩ := HC fid ps [] v [] hC
          have hsz : (c.args.toList.map a.eval).toArray.size = ps.length := by
            have := (A1.get).2.1; simpa using this
          have hcall := hcall _ w _ hsz Rc
          have hrun := exec_call (P := P) (w := w) ho hc hfv hfn
          simp only [Oper.wp, hrun, Oper.upon]
          have hargsEq : c.args.map a.eval ++ #[] = (c.args.toList.map a.eval).toArray := by
            apply Array.ext'; simp
          rw [hargsEq]
          refine Calls.mono hcall fun en w' hen => ?_
          obtain ⟨cv, g2, rfl, O⟩ := hen
          obtain ⟨g3, R3, S3⟩ := backP_rel R1 hD O
          have S03 := S1.trans S3
          cases t with
          | false =>
            obtain ⟨rfl, rfl⟩ := t1 rfl
            simp only at he
            obtain ⟨g4, R4, S4⟩ := landed_ok (draw := draw) (T := tooks axs) (D := o.dst) (s := s) hl R3
            subst he
            exact hnext _ _ _ R4 (S03.trans S4)
          | true =>
            obtain ⟨g4, R4, S4⟩ := landed_ok (draw := true) (T := tooks axs) (D := o.dst) (s := { s with bx := bx', nb := nb' }) hl R3
            cases m with
            | keep => simp only at he; subst he; exact hnext _ _ _ R4 (S03.trans S4)
            | new n b => simp only at he; subst he; exact hnext _ _ _ R4 (S03.trans S4)
            | nb n b => simp only at he; subst he; exact hnext _ _ _ R4 (S03.trans S4)
            | bxs n b => simp only at he; subst he; exact hnext _ _ _ R4 (S03.trans S4)
            | set x y z => simp only at he; subst he; exact hnext _ _ _ R4 (S03.trans S4)
        · cases he
      · cases he
    · cases he
  · cases he

/-- What the callee of a call on the whole stack is given to see. -/
def Gh.calleeS (g : Gh) (d : Nat) (axs : List Opd) : Gh where
  imm := g.imm
  loc := g.loc
  ob := fun b => match g.ob b with
    | some (.slot l n 0) => if l = d then (takeIdx axs n 0).map fun i => .slot (d + 1) i 0 else none
    | some (.box l n) => some (.box l n)
    | some (.cell l n i) => some (.cell l n i)
    | _ => none

theorem calleeS_none {axs : List Opd} {b : Nat} (h : g.ob b = none) : (g.calleeS d axs).ob b = none := by simp only [Gh.calleeS, h]

theorem calleeS_slot {axs : List Opd} {b : Nat} {l n c : Nat} (h : g.ob b = some (.slot l n c)) (hn : ∀ m, m ∈ (tooks axs).map (·.1) → Key.slot l n c ≠ .slot d m 0) : (g.calleeS d axs).ob b = none := by
  simp only [Gh.calleeS, h]
  split
  · rename_i l' n' e0
    simp only [Option.some.injEq, Key.slot.injEq] at e0
    obtain ⟨rfl, rfl, rfl⟩ := e0
    split
    · rename_i hl
      subst hl
      rw [takeIdx_none (fun hm => hn _ hm rfl)]
      rfl
    · rfl
  · rename_i e0; simp at e0
  · rename_i e0; simp at e0
  · rfl

theorem calleeS_keepB {axs : List Opd} (l n : Nat) : Keep g w (g.calleeS d axs) w (.box l n) := fun b h => ⟨by simp only [Gh.calleeS, h], rfl, rfl⟩
theorem calleeS_keepC {axs : List Opd} (l n i : Nat) : Keep g w (g.calleeS d axs) w (.cell l n i) := fun b h => ⟨by simp only [Gh.calleeS, h], rfl, rfl⟩

theorem glob_ref (r : Ref) : (r.glob d).lv (d + 1) = r.lv d ∧ (r.glob d).nm = r.nm := by cases r <;> exact ⟨rfl, rfl⟩

theorem globG_at {g2 : Gh} (hl : g2.loc = g.loc) {r : Ref} {b : Nat} (h : g.at d r b) : g2.at (d + 1) (r.glob d) b := by
  cases r with
  | loc n => exact ⟨by rw [hl]; exact h.1, Nat.lt_succ_self d⟩
  | glb k n => exact ⟨by rw [hl]; exact h.1, Nat.lt_succ_of_lt h.2⟩

theorem RS.globG {g2 : Gh} {d' : Nat} {A : AV} {v : Value} (hd : d' = d + 1) (hi : g2.imm = g.imm) (hl : g2.loc = g.loc) (h : RS g w d A v) : RS g2 w d' (A.globS d) v := by
  subst hd
  cases A <;> simp only [RS, AV.globS] at h ⊢
  case ptr r off => obtain ⟨b, h1, h2⟩ := h; exact ⟨b, globG_at hl h1, h2⟩
  case bool => exact h
  case int => exact h
  case str => rw [hi]; exact h
  case slice => rw [hi]; exact h

theorem RS.rv {A : AV} {v : Value} (h : RS g w d A v) (n : Nat) : RV g w d n A v := by
  cases A <;> simp only [RS] at h
  case ptr r off => exact h
  case int => subst h; exact .int _ _
  case bool => subst h; exact .bool _
  case str => exact h
  case slice => exact h

theorem RV1.globV {g2 : Gh} {d' : Nat} {κ κ' : Key} {A : AV} {v : Value} (hd : d' = d + 1) (ho : A.isOwn = false) (hi : g2.imm = g.imm) (hl : g2.loc = g.loc) (h : RV1 g w d κ A v) : RV1 g2 w d' κ' (A.globV d) v := by
  subst hd
  cases A <;> simp only [AV.isOwn, Bool.false_eq_true] at ho <;> simp only [AV.globV, AV.globS, RV1] at h ⊢
  case own => simp at ho
  case onil => exact h
  case ptr r off => obtain ⟨b, h1, h2⟩ := h; exact ⟨b, globG_at hl h1, h2⟩
  case asl r n => obtain ⟨b, h1, h2⟩ := h; exact ⟨b, globG_at hl h1, h2⟩
  case aptr r sz i off => obtain ⟨b, h1, h2⟩ := h; exact ⟨b, globG_at hl h1, h2⟩
  case eptr cs => rw [hi]; exact h
  case fn f caps =>
    obtain ⟨vs, h1, h2, h3⟩ := h
    refine ⟨vs, h1, by simpa using h2, fun i c hc => ?_⟩
    rw [List.getElem?_map] at hc
    cases hci : caps[i]? with
    | none => rw [hci] at hc; simp at hc
    | some c' =>
      rw [hci] at hc; simp at hc; subst hc
      exact (h3 i c' hci).globG rfl hi hl
  all_goals first | exact h | (rw [hi]; exact h)

theorem arg_glob {g2 : Gh} {d' : Nat} {axs : List Opd} {i : Nat} {ax : Opd} {p : AV} {cv : Value} (hd : d' = d + 1) (hi : axs[i]? = some ax) (hnd : nodupTakes axs = true) (h : ArgOK g w d ax p cv) (him : g2.imm = g.imm) (hl : g2.loc = g.loc)
    (ho : ∀ b m, g.ob b = some (.slot d m 0) → takeIdx axs m 0 = some i → g2.ob b = some (.slot d' i 0)) : RV g2 w d' i (p.globV d) cv := by
  rcases h with ⟨m, u, sz, l, rfl, rfl, b, cap, e1, e2, e3⟩ | ⟨h1, h2⟩
  · refine ⟨b, cap, e1, ho b m e2 (takeIdx_get hnd hi), ?_⟩
    unfold OwnB at *
    rw [him]; exact e3
  · have : RC g2 w d' (p.globV d) cv := fun κ => (h2 κ).globV hd h1 him hl
    exact this.rv

theorem stkGet_cons (b : Boxes) (k : List Boxes) (l n : Nat) : stkGet (b :: k) l n = if l = k.length then b n else stkGet k l n := by
  simp only [stkGet]
  by_cases h : l = k.length
  · subst h; simp
  · have : Nat.beq l k.length = false := by rw [← Bool.not_eq_true, Nat.beq_eq]; exact h
    rw [if_neg h, this]; rfl

theorem calleeS_rel (R : Rel gl g d s tmps w) {axs : List Opd} {ps : List AV} {cvs : List Value} (hA : ArgsOK g w d axs ps cvs) (hnd : nodupTakes axs = true) {caps : List AV} {cs : Array Value} (hcs : cs.size = caps.length)
    (hcap : ∀ (i : Nat) (c : AV), caps[i]? = some c → RS g w d c (cs.getD i undef)) :
    Rel gl (g.calleeS d axs) (d + 1) (initSt (ps.map (AV.globV d) ++ caps.map (AV.globS d)) (mergeB s.bx s.nb :: s.stk)) (cvs.toArray ++ cs) w where
  slots n := by
    obtain ⟨h1, h2, h3⟩ := hA.get
    have henv : (initSt (ps.map (AV.globV d) ++ caps.map (AV.globS d)) (mergeB s.bx s.nb :: s.stk)).env n = (ps.map (AV.globV d) ++ caps.map (AV.globS d)).getD n .undef := rfl
    rw [henv]
    by_cases hn : n < ps.length
    · have hp : ps[n]? = some ps[n] := by simp [hn]
      obtain ⟨ax, e1, e2⟩ := h3 n _ hp
      have e3 : (ps.map (AV.globV d) ++ caps.map (AV.globS d)).getD n .undef = ps[n].globV d := by
        refine getD_of_get ?_
        rw [List.getElem?_append_left (by simpa using hn)]; simp [hn]
      have e4 : (cvs.toArray ++ cs).getD n undef = cvs.getD n undef := by
        rw [getD_append, if_pos (by simp; omega)]; simp [Array.getD_eq_getD_getElem?]
      rw [e3, e4]
      refine arg_glob rfl e1 hnd e2 rfl rfl fun b m k1 k2 => ?_
      simp [Gh.calleeS, k1, k2]
    · have e3 : (ps.map (AV.globV d) ++ caps.map (AV.globS d)).getD n .undef = (caps.map (AV.globS d)).getD (n - ps.length) .undef := by
        rw [List.getD_eq_getElem?_getD, List.getElem?_append_right (by simpa using hn), List.getD_eq_getElem?_getD]; simp
      have e4 : (cvs.toArray ++ cs).getD n undef = cs.getD (n - ps.length) undef := by
        rw [getD_append, if_neg (by simp; omega)]; simp [h2]
      rw [e3, e4]
      cases hc : caps[n - ps.length]? with
      | none =>
        have : (caps.map (AV.globS d)).getD (n - ps.length) .undef = .undef := by rw [List.getD_eq_getElem?_getD]; simp [hc]
        rw [this]; trivial
      | some c =>
        have : (caps.map (AV.globS d)).getD (n - ps.length) .undef = c.globS d := getD_of_get (by simp [hc])
        rw [this]
        exact RS.rv (RS.globG (g2 := g.calleeS d axs) rfl rfl rfl (hcap _ _ hc)) n
  boxes n b h := by simp [mergeB, initSt] at h
  dead n _ := by
    show g.loc (d + 1) n = none
    cases hl : g.loc (d + 1) n with
    | none => rfl
    | some b => have := (R.locs _ _ _ hl).2; omega
  excl n b h := by simp [initSt] at h
  outer l n b h := by
    have h : stkGet (mergeB s.bx s.nb :: s.stk) l n = some b := h
    rw [stkGet_cons, R.lvl] at h
    have base : RBox g w l n b := by
      by_cases hl : l = d
      · subst hl; rw [if_pos rfl] at h; exact R.boxes n b h
      · rw [if_neg hl] at h; exact R.outer l n b h
    exact RBox.keep (g := g) (w := w) (g' := g.calleeS d axs) (w' := w) ⟨fun _ => Nat.le_refl _, fun _ _ _ => rfl⟩ (fun b hb => (R.locs _ _ _ hb).1) (calleeS_keepB _ _) (fun _ => calleeS_keepC _ _ _) (fun _ _ _ h => h) base
  deadO l n hl h := by
    have h : stkGet (mergeB s.bx s.nb :: s.stk) l n = none := h
    rw [stkGet_cons, R.lvl] at h
    by_cases hl' : l = d
    · subst hl'; rw [if_pos rfl] at h; exact R.dead n h
    · rw [if_neg hl'] at h; exact R.deadO l n (by omega) h
  lvl := by show (mergeB s.bx s.nb :: s.stk).length = _; rw [List.length_cons, R.lvl]
  fresh b hb := ⟨calleeS_none (R.fresh b hb).1, (R.fresh b hb).2⟩
  locs l n b h := by
    have h' := R.locs l n b h
    exact ⟨(calleeS_keepB (w := w) l n b h'.1).1, by omega⟩
  globs := R.globs

/-- What is left after a call on the whole stack. -/
def Gh.backS (g gc g2 : Gh) (w : World) (d m : Nat) : Gh where
  imm := g2.imm
  loc := g2.loc
  ob := fun b => match g2.ob b with
    | some (.ret c) => some (.slot d m c)
    | some κ => some κ
    | none => if (gc.ob b).isSome then none else if b < w.heap.size then g.ob b else none

theorem backS_keep {gc g2 : Gh} {w' : World} {m : Nat} {κ : Key} (hκ : ∀ c, κ ≠ .ret c) : Keep g2 w' (g.backS gc g2 w d m) w' κ := fun b hb => by
  refine ⟨?_, rfl, rfl⟩
  simp only [Gh.backS, hb]

theorem backS_rel (R : Rel gl g d s tmps w) {axs : List Opd} {D : Option Nat} (hD : ∀ m, D = some m → m < tmps.size) {v : AV} {g2 : Gh} {w' : World} {cv : Value} {b' : Boxes} {stk' : List Boxes}
    (O : Out gl (g.calleeS d axs) w (d + 1) v (b' :: stk') g2 w' cv) :
    ∃ g', Rel gl g' d { env := wrs s.env (tooks axs ++ wrD D v), bx := b', nb := fun _ => none, stk := stk' } (putT tmps D cv) w' ∧ Step g w g' w' := by
  let g' := g.backS (g.calleeS d axs) g2 w d (D.getD 0)
  have hx : Ext g w g' w' := ⟨O.ext.imm, O.ext.cell⟩
  have hlv : stk'.length = d := by have := O.lvl; simpa using this
  have hlk : LocKeep g g' := fun l n b h => O.loc l n b (by have := (R.locs l n b h).2; omega) h
  have hk : ∀ n c, (∀ m, m ∈ (tooks axs).map (·.1) → Key.slot d n c ≠ .slot d m 0) → Keep g w g' w' (.slot d n c) := fun n c hκ b hb => by
    have hlt : b < w.heap.size := ob_lt R.fresh hb
    have hc := calleeS_slot (axs := axs) hb hκ
    obtain ⟨e1, e2, e3⟩ := O.rest b hlt hc
    refine ⟨?_, e2, e3⟩
    show Gh.ob (g.backS _ _ _ _ _) b = _
    simp only [Gh.backS, e1, hc, hlt, Option.isSome_none, if_true, if_false, Bool.false_eq_true, hb]
  have hrest : ∀ b, b < w.heap.size → g.ob b = none → g'.ob b = none ∧ g'.imm b = g.imm b ∧ w'.heap[b]? = w.heap[b]? := fun b hb hn => by
    obtain ⟨e1, e2, e3⟩ := O.rest b hb (calleeS_none hn)
    refine ⟨?_, e2, e3⟩
    show Gh.ob (g.backS _ _ _ _ _) b = _
    simp only [Gh.backS, e1, calleeS_none hn, hb, Option.isSome_none, if_true, if_false, Bool.false_eq_true, hn]
  have hbox : ∀ l n B, stkGet (b' :: stk') l n = some B → RBox g' w' l n B := fun l n B h =>
    RBox.keep (g := g2) (w := w') (g' := g') (w' := w') ⟨fun _ => Nat.le_refl _, fun _ _ _ => rfl⟩ (fun b hb => (O.locs _ _ _ hb).1) (backS_keep (fun _ => by simp)) (fun _ => backS_keep (fun _ => by simp)) (fun _ _ _ h => h) (O.outer l n B h)
  refine ⟨g', R.gen hx hlk (allU_tooks axs) rfl hD (fun m hm => ?_) (fun n c hn hn2 => hk _ _ ?_) (fun n B h => .inr ?_) (fun n h => ?_) (fun _ _ _ => rfl) (fun l n B h => .inr ?_) (fun l n hl h => ?_) hlv
    (fun b hb => ?_) (fun l n b h => ?_), hx, O.size, hrest, O.os, O.tape, O.output, hlk⟩
  · subst hm
    refine res_land O.res rfl fun b c hc => ?_
    show Gh.ob (g.backS _ _ _ _ _) b = _
    simp only [Gh.backS, hc, Option.getD_some]
  · intro m hm e0
    simp only [Key.slot.injEq, true_and] at e0
    exact hn2 (e0.1 ▸ hm)
  · have h : b' n = some B := by simpa [mergeB] using h
    exact hbox d n B (by rw [stkGet_cons, hlv, if_pos rfl]; exact h)
  · have h : b' n = none := by simpa [mergeB] using h
    exact O.deadO d n (by omega) (by rw [stkGet_cons, hlv, if_pos rfl]; exact h)
  · have h : stkGet stk' l n = some B := h
    have := stkGet_lt h
    exact hbox l n B (by rw [stkGet_cons, if_neg (by omega)]; exact h)
  · have h : stkGet stk' l n = none := h
    exact O.deadO l n (by omega) (by rw [stkGet_cons, if_neg (by omega)]; exact h)
  · have hlt : w.heap.size ≤ b := Nat.le_trans O.size hb
    refine ⟨?_, (O.fresh b hb).2⟩
    show Gh.ob (g.backS _ _ _ _ _) b = _
    simp only [Gh.backS, (O.fresh b hb).1]
    rw [if_neg (by omega : ¬ b < w.heap.size)]
    split <;> rfl
  · have h' := O.locs l n b h
    exact ⟨(backS_keep (g := g) (gc := g.calleeS d axs) (w := w) (d := d) (m := D.getD 0) (w' := w') (by simp) b h'.1).1, by omega⟩

theorem callS_ok (HC : CallOK P gl C) (R : Rel gl g d s a.tmps w) (hD : ∀ m, o.dst = some m → m < a.tmps.size) {c : Call} {f' : Operand} {fa : Opd} {axs : List Opd}
    (ho : o.op = .call c) (hc : c.callee = .value f') (hf : okOpd N f' fa = true) (hargs : okOpds N c.args.toList axs = true) (hnd : nodupTakes axs = true)
    (he : eff gl C o.dst s.env s.bx s.nb s.stk (.callS fa axs) = some e) : OpW P gl g d s a w o draw e := by
  intro next Q hnext
  simp only [eff] at he
  split at he
  · rename_i fid caps vs hpf hvs
    obtain ⟨mf, hF⟩ := pk_ok R hf
    rw [hpf] at hF
    obtain ⟨cs, hfv, hcs, hcr⟩ := hF
    split at he
    · rename_i hnt
      split at he
      · rename_i v b' stk' hC
        simp only [Option.some.injEq] at he
        have hnt : vs.all noTup = true := by
          rw [List.all_eq_true] at hnt ⊢
          intro x hx
          have := hnt x hx
          cases x <;> first | rfl | (simp at this)
        have hA := argsOK_of R hargs hvs hnt
        have Rc := calleeS_rel R hA hnd hcs hcr
        rw [R.lvl] at hC
        obtain ⟨hfn, hcall⟩ := HC fid _ _ v _ hC
        have hsz : ((c.args.toList.map a.eval).toArray ++ cs).size = (vs.map (AV.globV d) ++ caps.map (AV.globS d)).length := by
          have := hA.get.2.1
          simp only [List.length_map] at this
          simp [hcs, this]
        have hl0 : (mergeB s.bx s.nb :: s.stk).length = d + 1 := by rw [List.length_cons, R.lvl]
        rw [hl0] at hcall
        have hcall := hcall _ w _ hsz Rc
        have hrun := exec_call (P := P) (w := w) ho hc hfv hfn
        simp only [Oper.wp, hrun, Oper.upon]
        have hargsEq : c.args.map a.eval ++ cs = (c.args.toList.map a.eval).toArray ++ cs := by
          congr 1
          apply Array.ext'; simp
        rw [hargsEq]
        refine Calls.mono hcall fun en w' hen => ?_
        obtain ⟨cv, g2, rfl, O⟩ := hen
        obtain ⟨g3, R3, S3⟩ := backS_rel R hD O
        subst he
        exact hnext _ _ _ R3 S3
      · cases he
    · cases he
  · cases he
end
end Go.Vs

namespace Go.Vs
open Go
set_option linter.unusedSimpArgs false
set_option linter.unusedVariables false

def Opd.sl : Opd → List Nat
  | .slot n => [n]
  | .take n => [n]
  | _ => []

def Opd.tk : Opd → List Nat
  | .take n => [n]
  | _ => []

def optL : Option Opd → List Opd
  | some x => [x]
  | none => []

def AOp.opds : AOp → List Opd
  | .mv x => [x]
  | .pick c a b => [c, a, b]
  | .alloc _ => []
  | .box x => [x]
  | .build _ parts => parts.map (·.2.2)
  | .lits _ _ parts => parts
  | .load1 x => [x]
  | .loadT x => [x]
  | .loadA _ x => [x]
  | .store1 x v => [x, v]
  | .storeN x v => [x, v]
  | .storeA _ x v => [x, v]
  | .storeAN _ x v => [x, v]
  | .nilc x => [x]
  | .frz _ x => [x]
  | .toStr x => [x]
  | .ldF _ _ x => [x]
  | .ldL _ _ x => [x]
  | .stL _ _ x v => [x, v]
  | .bin _ x y => [x, y]
  | .eqA _ _ x y => [x, y]
  | .eqb _ x y => [x, y]
  | .nilS x => [x]
  | .un _ x => [x]
  | .conv _ x => [x]
  | .mkfn _ caps => caps
  | .mks _ _ _ _ len cap => [len, cap]
  | .slcS x lo hi => x :: (optL lo ++ optL hi)
  | .slcL _ x lo hi => x :: (optL lo ++ optL hi)
  | .faddr _ x => [x]
  | .fld _ _ _ x => [x]
  | .iaddr _ x i => [x, i]
  | .iaddrA _ _ x i => [x, i]
  | .idxS x i => [x, i]
  | .idxA _ _ _ x i => [x, i]
  | .extr n _ => [.slot n]
  | .extrT n _ => [.take n]
  | .callP f args _ _ => f :: args
  | .callS f args => f :: args
  | .lenS x => [x]
  | .lenL x => [x]
  | .app _ _ _ s x => [s, x]
  | .mx x y => [x, y]
  | .mn x y => [x, y]
  | .bad => []

def AOpr.reads (o : AOpr) : List Nat := (match o.guard with
  | some (g, _) => [g]
  | none => []) ++ o.op.opds.flatMap Opd.sl

def AOpr.writes (o : AOpr) : List Nat := (match o.dst with
  | some n => [n]
  | none => []) ++ o.op.opds.flatMap Opd.tk

/-- What an operation has to do with the boxes: nothing, reads, makes one, writes one of the region's own, anything. -/
def AOp.cls : AOp → Nat
  | .load1 _ => 1
  | .loadA _ _ => 1
  | .alloc _ => 2
  | .box _ => 2
  | .mks arr _ _ _ _ _ => bif arr then 2 else 0
  | .app _ arr _ _ _ => bif arr then 2 else 0
  | .callP _ _ arr fz => bif fz then 4 else bif arr then 2 else 0
  | .storeN _ _ => 5
  | .storeAN _ _ _ => 5
  | .ldL m _ _ => 100 + 2 * m
  | .stL m _ _ _ => 101 + 2 * m
  | .loadT _ => 4
  | .store1 _ _ => 4
  | .storeA _ _ _ => 4
  | .frz m _ => 101 + 2 * m
  | .callS _ _ => 4
  | .ldF _ _ _ => 4
  | .bad => 4
  | _ => 0

section
variable {gl : Globs} {C : Callee} {env env' : Env} {bx nb bx' nb' : Boxes} {stk stk' : List Boxes} {D : Option Nat}

theorem pk_env {x : Opd} (h : ∀ n ∈ x.sl, env n = env' n) : pk gl env x = pk gl env' x := by
  cases x <;> simp only [pk, Opd.sl] at h ⊢ <;> exact h _ (by simp)

theorem rd_env {x : Opd} (h : ∀ n ∈ x.sl, env n = env' n) : rd gl env x = rd gl env' x := by
  cases x <;> simp only [rd, Opd.sl] at h ⊢ <;> rw [h _ (by simp)]

theorem rds_env : ∀ {l : List Opd}, (∀ x ∈ l, rd gl env x = rd gl env' x) → rds gl env l = rds gl env' l
  | [], _ => rfl
  | x :: r, h => by
    simp only [rds]
    rw [h x (by simp), rds_env (l := r) (fun y hy => h y (by simp [hy]))]

theorem fill_env : ∀ {l : List (Nat × Nat × Opd)} {cs : List AV}, (∀ x ∈ l.map (·.2.2), rd gl env x = rd gl env' x) → fillParts gl env cs l = fillParts gl env' cs l
  | [], _, _ => rfl
  | (off, n, x) :: r, cs, h => by
    simp only [fillParts]
    rw [h x (by simp)]
    cases rd gl env' x with
    | none => rfl
    | some v =>
      simp only
      cases v.pur with
      | none => rfl
      | some p => simp only; rw [fill_env (l := r) (fun y hy => h y (by simp; right; simpa using hy))]

theorem bndTo_env {len : Nat} {hi : Option Opd} (h : ∀ x ∈ optL hi, pk gl env x = pk gl env' x) : bndTo gl env len hi = bndTo gl env' len hi := by
  cases hi with
  | none => rfl
  | some x => simp only [bndTo]; rw [h x (by simp [optL])]

theorem bndFrom_env {len : Nat} {lo : Option Opd} (h : ∀ x ∈ optL lo, pk gl env x = pk gl env' x) : bndFrom gl env len lo = bndFrom gl env' len lo := by
  cases lo with
  | none => rfl
  | some x => simp only [bndFrom]; rw [h x (by simp [optL])]

theorem bnd_env {len : Nat} {lo hi : Option Opd} (h : ∀ x ∈ optL lo ++ optL hi, pk gl env x = pk gl env' x) : bnd gl env len lo hi = bnd gl env' len lo hi := by
  simp only [bnd]
  rw [bndTo_env (hi := hi) fun x hx => h x (by simp [hx])]
  split
  · rfl
  · rw [bndFrom_env (lo := lo) fun x hx => h x (by simp [hx])]

theorem eff_env {op : AOp} (h : ∀ n ∈ op.opds.flatMap Opd.sl, env n = env' n) : eff gl C D env bx nb stk op = eff gl C D env' bx nb stk op := by
  have hp : ∀ x ∈ op.opds, pk gl env x = pk gl env' x := fun x hx => pk_env fun n hn => h n (List.mem_flatMap.2 ⟨x, hx, hn⟩)
  have hr : ∀ x ∈ op.opds, rd gl env x = rd gl env' x := fun x hx => rd_env fun n hn => h n (List.mem_flatMap.2 ⟨x, hx, hn⟩)
  cases op
  case pick c a b =>
    simp only [eff]
    rw [hp c (by simp [AOp.opds])]
    split
    · rename_i t _
      have : rd gl env (bif t then a else b) = rd gl env' (bif t then a else b) := by cases t <;> exact hr _ (by simp [AOp.opds])
      rw [this]
    · rfl
  case build z parts => simp only [eff]; rw [fill_env hr]
  case lits u sz parts => simp only [eff]; rw [rds_env (l := parts) hr]
  case mkfn f caps => simp only [eff]; rw [rds_env (l := caps) hr]
  case slcS x lo hi =>
    simp only [eff]
    rw [hp x (by simp [AOp.opds])]
    split
    · rw [bnd_env fun y hy => hp y (by simp only [AOp.opds]; exact List.mem_cons_of_mem _ hy)]
    · rfl
  case slcL sz x lo hi =>
    simp only [eff]
    rw [hr x (by simp [AOp.opds])]
    split
    · split
      · rw [bnd_env fun y hy => hp y (by simp only [AOp.opds]; exact List.mem_cons_of_mem _ hy)]
      · rfl
    · rfl
  case extr n i => simp only [eff]; rw [h n (by simp [AOp.opds, Opd.sl])]
  case extrT n i => simp only [eff]; rw [h n (by simp [AOp.opds, Opd.sl])]
  case callP f args arr fz => simp only [eff]; rw [hp f (by simp [AOp.opds]), rds_env (l := args) fun y hy => hr y (by simp [AOp.opds, hy])]
  case callS f args => simp only [eff]; rw [hp f (by simp [AOp.opds]), rds_env (l := args) fun y hy => hr y (by simp [AOp.opds, hy])]
  all_goals simp only [AOp.opds, List.mem_cons, List.not_mem_nil, or_false, forall_eq_or_imp, forall_eq] at hp hr
  all_goals first
    | rfl
    | (simp only [eff, hp, hr]; done)
    | (simp only [eff]; rw [hp.1, hp.2])
    | (simp only [eff]; rw [hp.1, hr.2])
    | (simp only [eff]; rw [hr.1, hp.2])
    | (simp only [eff]; rw [hr.1, hr.2])

theorem mem_wrD {D : Option Nat} {v : AV} {p : Nat × AV} (h : p ∈ wrD D v) : D = some p.1 := by
  cases D <;> simp [wrD] at h
  rw [h]

theorem mem_took {x : Opd} {p : Nat × AV} (h : p ∈ x.took) : p.1 ∈ x.tk := by
  cases x <;> simp [Opd.took, Opd.tk] at h ⊢
  rw [h]

theorem mem_tooks : ∀ {l : List Opd} {p : Nat × AV}, p ∈ tooks l → p.1 ∈ l.flatMap Opd.tk
  | [], _, h => by simp [tooks] at h
  | x :: r, p, h => by
    simp only [tooks, List.mem_append] at h
    simp only [List.flatMap_cons, List.mem_append]
    rcases h with h | h
    · exact .inl (mem_took h)
    · exact .inr (mem_tooks h)

theorem mem_partTooks : ∀ {l : List (Nat × Nat × Opd)} {p : Nat × AV}, p ∈ partTooks l → p.1 ∈ (l.map (·.2.2)).flatMap Opd.tk
  | [], _, h => by simp [partTooks] at h
  | (_, _, x) :: r, p, h => by
    simp only [partTooks, List.mem_append] at h
    simp only [List.map_cons, List.flatMap_cons, List.mem_append]
    rcases h with h | h
    · exact .inl (mem_took h)
    · exact .inr (mem_partTooks h)

theorem eff_wr {op : AOp} {e : Eff} (h : eff gl C D env bx nb stk op = some e) : ∀ p ∈ e.wr, p.1 ∈ op.opds.flatMap Opd.tk ∨ D = some p.1 := by
  intro p hp
  cases op <;> simp only [eff] at h
  case pick c a b =>
    split at h
    · rename_i t _
      split at h
      · cases h
      · simp only [Option.some.injEq] at h; subst h
        simp only [List.mem_append] at hp
        rcases hp with hp | hp
        · left
          have := mem_took hp
          simp only [AOp.opds, List.flatMap_cons, List.flatMap_nil, List.mem_append]
          cases t <;> simp only [cond_true, cond_false] at this <;> simp [this]
        · exact .inr (mem_wrD hp)
    · cases h
  all_goals (repeat' split at h)
  all_goals first
    | (cases h; done)
    | (simp only [Option.some.injEq] at h; subst h
       simp only [List.mem_append, List.mem_cons, List.not_mem_nil, or_false, false_or] at hp
       simp only [AOp.opds, List.flatMap_cons, List.flatMap_nil, List.mem_append, List.append_nil, Opd.tk, List.mem_cons, List.not_mem_nil, or_false, false_or]
       first
        | exact .inr (mem_wrD hp)
        | (rcases hp with hp | hp
           · exact .inl (mem_took hp)
           · exact .inr (mem_wrD hp))
        | (rcases hp with hp | hp
           · exact .inl (.inr (mem_took hp))
           · exact .inr (mem_wrD hp))
        | (rcases hp with hp | hp
           · exact .inl (.inl (mem_took hp))
           · exact .inr (mem_wrD hp))
        | (rcases hp with (hp | hp) | hp
           · exact .inl (.inl (mem_took hp))
           · exact .inl (.inr (mem_took hp))
           · exact .inr (mem_wrD hp))
        | (rcases hp with hp | hp
           · exact .inl (mem_tooks hp)
           · exact .inr (mem_wrD hp))
        | (rcases hp with hp | hp
           · exact .inl (.inr (mem_tooks hp))
           · exact .inr (mem_wrD hp))
        | (rcases hp with hp | hp
           · exact .inl (mem_partTooks hp)
           · exact .inr (mem_wrD hp))
        | (rcases hp with hp | hp
           · exact .inl (by rw [hp])
           · exact .inr (mem_wrD hp))
        | (subst hp; exact .inr (by assumption))
        | (subst hp; exact .inr rfl)
        | (rcases hp with hp | hp
           · exact .inl (mem_took hp)
           · subst hp; exact .inr rfl)
        | exact mem_wrD hp
        | (subst hp; rfl))

theorem landed_f {v v' : AV} {m : Mem} (h : landed D false bx nb v = some (v', m)) : m = .keep ∧ landed D false bx' nb' v = some (v', m) := by
  simp only [landed, Bool.false_eq_true, if_false, Option.some.injEq, Prod.mk.injEq] at h ⊢
  obtain ⟨rfl, rfl⟩ := h
  exact ⟨rfl, rfl, rfl⟩

theorem landed_t {v v' : AV} {m : Mem} (h : landed D true bx nb v = some (v', m)) : ∃ n b, D = some n ∧ m = .new n b ∧ bx n = none ∧ nb n = none ∧ ∀ bx' nb', bx' n = none → nb' n = none → landed D true bx' nb' v = some (v', m) := by
  simp only [landed, if_true] at h
  split at h
  · rename_i n sz l
    split at h
    · rename_i h1 h2
      simp only [Option.some.injEq, Prod.mk.injEq] at h
      obtain ⟨rfl, rfl⟩ := h
      exact ⟨n, _, rfl, rfl, h1, h2, fun bx' nb' e1 e2 => by simp [landed, e1, e2]⟩
    · cases h
  · cases h

theorem freezes_f : ∀ {vs : List AV} {bx nb : Boxes} {ps : List AV} {bx1 nb1 : Boxes}, freezes bx nb vs = some (ps, bx1, nb1, false) → bx1 = bx ∧ nb1 = nb ∧ ∀ bx' nb', freezes bx' nb' vs = some (ps, bx', nb', false)
  | [], bx, nb, ps, bx1, nb1, h => by
    simp only [freezes, Option.some.injEq, Prod.mk.injEq] at h
    obtain ⟨rfl, rfl, rfl, _⟩ := h
    exact ⟨rfl, rfl, fun _ _ => rfl⟩
  | v :: vs, bx, nb, ps, bx1, nb1, h => by
    unfold freezes at h
    split at h
    · exfalso
      repeat' split at h
      all_goals first
        | (cases h; done)
        | simp at h
    · rename_i hne
      split at h
      · cases h
      · rename_i p hp
        split at h
        · cases h
        · rename_i vs1 bx2 nb2 t2 hfr
          simp only [Option.some.injEq, Prod.mk.injEq] at h
          obtain ⟨rfl, rfl, rfl, rfl⟩ := h
          obtain ⟨e1, e2, e3⟩ := freezes_f hfr
          refine ⟨e1, e2, fun bx' nb' => ?_⟩
          unfold freezes
          split
          · exact absurd rfl (hne _ _)
          · simp only [hp, e3 bx' nb']

/-- Nothing to do with the boxes. -/
theorem cls0 {op : AOp} (hc : op.cls = 0) {e : Eff} (h : eff gl C D env bx nb stk op = some e) : e.mem = .keep ∧ ∀ bx' nb' stk', eff gl C D env bx' nb' stk' op = some e := by
  cases op <;> (try (simp [AOp.cls] at hc; done)) <;> (try (simp only [AOp.cls] at hc; omega)) <;> simp only [AOp.cls] at hc
  case mks arr u sz zero len cap =>
    cases arr <;> (try (simp at hc; done))
    refine ⟨?_, fun bx' nb' stk' => ?_⟩
    · simp only [eff] at h
      repeat' split at h
      all_goals first
        | (cases h; done)
        | (simp only [Option.some.injEq] at h; subst h; rfl)
        | contradiction
    · simpa only [eff, Bool.false_eq_true, if_false] using h
  case app u arr sz s x =>
    cases arr <;> (try (simp at hc; done))
    refine ⟨?_, fun bx' nb' stk' => ?_⟩
    · simp only [eff] at h
      repeat' split at h
      all_goals first
        | (cases h; done)
        | (rename_i hl; simp only [Option.some.injEq] at h; subst h; first | rfl | exact (landed_f (bx' := bx) (nb' := nb) hl).1)
        | (simp only [Option.some.injEq] at h; subst h; rfl)
    · simpa only [eff, landed, Bool.false_eq_true, if_false] using h
  case callP f args arr fz =>
    cases fz <;> cases arr <;> (try (simp at hc; done))
    simp only [eff] at h ⊢
    split at h
    · rename_i fid vs hf hvs
      split at h
      · rename_i ps bx1 nb1 t hfr
        cases t with
        | true => simp at h
        | false =>
          obtain ⟨rfl, rfl, hall⟩ := freezes_f hfr
          simp only [Bool.false_and, Bool.false_eq_true, if_false] at h
          split at h
          · rename_i v hC
            split at h
            · rename_i v' m hl
              simp only [Option.some.injEq] at h; subst h
              refine ⟨(landed_f (bx' := bx1) (nb' := nb1) hl).1, fun bx' nb' stk' => ?_⟩
              simp only [hall, hC, (landed_f (bx' := bx') (nb' := nb') hl).2, Bool.false_and, Bool.false_eq_true, if_false]
            · cases h
          · cases h
      · cases h
    · cases h
  all_goals
    refine ⟨?_, fun bx' nb' stk' => h⟩
    simp only [eff] at h
    repeat' split at h
  all_goals first
    | (cases h; done)
    | (simp only [Option.some.injEq] at h; subst h; rfl)

/-- Reads of boxes that were there when the region began. -/
theorem cls1 {op : AOp} (hc : op.cls = 1) {e : Eff} (h : eff gl C D env bx nb stk op = some e) : e.mem = .keep ∧ ∀ nb', eff gl C D env bx nb' stk op = some e := by
  cases op <;> (try (simp [AOp.cls] at hc; done)) <;> (try (simp only [AOp.cls] at hc; omega)) <;> simp only [AOp.cls] at hc
  case mks arr u sz zero len cap => cases arr <;> (simp at hc; done)
  case app u arr sz s x => cases arr <;> (simp at hc; done)
  case callP f args arr fz => cases fz <;> cases arr <;> (simp at hc; done)
  all_goals
    refine ⟨?_, fun nb' => h⟩
    simp only [eff] at h
    repeat' split at h
  all_goals first
    | (cases h; done)
    | (simp only [Option.some.injEq] at h; subst h; rfl)

def NewOf (F : Boxes → Boxes → List Boxes → Option Eff) (bx nb : Boxes) (D : Option Nat) (e : Eff) : Prop :=
  ∃ n b, D = some n ∧ e.mem = .new n b ∧ bx n = none ∧ nb n = none ∧ ∀ bx' nb' stk', bx' n = none → nb' n = none → F bx' nb' stk' = some e

/-- A new box. -/
theorem cls2 {op : AOp} (hc : op.cls = 2) {e : Eff} (h : eff gl C D env bx nb stk op = some e) : NewOf (fun bx nb stk => eff gl C D env bx nb stk op) bx nb D e := by
  cases op <;> (try (simp [AOp.cls] at hc; done)) <;> (try (simp only [AOp.cls] at hc; omega)) <;> simp only [AOp.cls] at hc
  case alloc zero =>
    simp only [eff] at h
    split at h
    · rename_i n
      split at h
      · rename_i h1 h2
        simp only [Option.some.injEq] at h; subst h
        exact ⟨n, _, rfl, rfl, h1, h2, fun bx' nb' stk' e1 e2 => by simp [eff, e1, e2]⟩
      · cases h
    · cases h
  case box x =>
    simp only [eff] at h
    split at h
    · rename_i n
      split at h
      · rename_i h1 h2
        split at h
        · cases h
        · rename_i v hv
          split at h
          · rename_i ha
            simp only [Option.some.injEq] at h; subst h
            exact ⟨n, _, rfl, rfl, h1, h2, fun bx' nb' stk' e1 e2 => by simp only [eff, e1, e2, hv, if_pos ha]⟩
          · cases h
      · cases h
    · cases h
  case mks arr u sz zero len cap =>
    cases arr <;> (try (simp at hc; done))
    simp only [eff] at h
    split at h
    · rename_i n c h1 h2
      split at h
      · rename_i hcnd
        simp only [if_true] at h
        split at h
        · rename_i m
          split at h
          · rename_i k1 k2
            split at h
            · rename_i hnc
              simp only [Option.some.injEq] at h; subst h
              exact ⟨m, _, rfl, rfl, k1, k2, fun bx' nb' stk' e1 e2 => by simp only [eff, h1, h2, if_pos hcnd, if_true, e1, e2, if_pos hnc]⟩
            · cases h
          · cases h
        · cases h
      · cases h
    · cases h
  case app u arr sz s x =>
    cases arr <;> (try (simp at hc; done))
    simp only [eff] at h
    split at h
    · rename_i A B h1 h2
      split at h
      · rename_i lx hp
        split at h
        · rename_i hall
          split at h
          · split at h
            · rename_i hcnt
              split at h
              · simp at h
              · rename_i q r hl0
                split at h
                · rename_i v m hl
                  simp only [Option.some.injEq] at h; subst h
                  obtain ⟨n, b, rfl, rfl, e1, e2, e3⟩ := landed_t hl
                  refine ⟨n, b, rfl, rfl, e1, e2, fun bx' nb' stk' k1 k2 => ?_⟩
                  simp only [eff, h1, h2, hp, if_pos hall, if_pos hcnt, e3 bx' nb' k1 k2]
                · cases h
            · cases h
          · rename_i u' sz' l
            split at h
            · rename_i hcnd
              split at h
              · rename_i v m hl
                simp only [Option.some.injEq] at h; subst h
                obtain ⟨n, b, rfl, rfl, e1, e2, e3⟩ := landed_t hl
                refine ⟨n, b, rfl, rfl, e1, e2, fun bx' nb' stk' k1 k2 => ?_⟩
                simp only [eff, h1, h2, hp, if_pos hall, if_pos hcnd, e3 bx' nb' k1 k2]
              · cases h
            · cases h
          · cases h
        · cases h
      · cases h
    · cases h
  case callP f args arr fz =>
    cases fz <;> cases arr <;> (try (simp at hc; done))
    simp only [eff] at h ⊢
    split at h
    · rename_i fid vs hf hvs
      split at h
      · rename_i ps bx1 nb1 t hfr
        cases t with
        | true => simp at h
        | false =>
          obtain ⟨rfl, rfl, hall⟩ := freezes_f hfr
          simp only [Bool.false_and, Bool.false_eq_true, if_false] at h
          split at h
          · rename_i v hC
            split at h
            · rename_i v' m hl
              simp only [Option.some.injEq] at h; subst h
              obtain ⟨n, b, rfl, rfl, e1, e2, e3⟩ := landed_t hl
              refine ⟨n, b, rfl, rfl, e1, e2, fun bx' nb' stk' k1 k2 => ?_⟩
              simp only [hall, hC, e3 bx' nb' k1 k2, Bool.false_and, Bool.false_eq_true, if_false]
            · cases h
          · cases h
      · cases h
    · cases h

/-- A write to a box of the region's own. -/
theorem cls5 {op : AOp} (hc : op.cls = 5) {e : Eff} (h : eff gl C D env bx nb stk op = some e) : (∃ m b, e.mem = .nb m b) ∧ ∀ bx' stk', eff gl C D env bx' nb stk' op = some e := by
  cases op <;> (try (simp [AOp.cls] at hc; done)) <;> (try (simp only [AOp.cls] at hc; omega)) <;> simp only [AOp.cls] at hc
  case mks arr u sz zero len cap => cases arr <;> (simp at hc; done)
  case app u arr sz s x => cases arr <;> (simp at hc; done)
  case callP f args arr fz => cases fz <;> cases arr <;> (simp at hc; done)
  all_goals
    refine ⟨?_, fun bx' stk' => h⟩
    simp only [eff] at h
    repeat' split at h
    all_goals first
      | (cases h; done)
      | (simp only [Option.some.injEq] at h; subst h; exact ⟨_, _, rfl⟩)

/-- Reads of one box. -/
theorem clsR {op : AOp} {m : Nat} (hc : op.cls = 100 + 2 * m) {e : Eff} (h : eff gl C D env bx nb stk op = some e) : e.mem = .keep ∧ ∀ bx' nb' stk', bx' m = bx m → eff gl C D env bx' nb' stk' op = some e := by
  cases op <;> (try (simp [AOp.cls] at hc; omega)) <;> simp only [AOp.cls] at hc
  case mks arr u sz zero len cap => cases arr <;> (simp at hc; omega)
  case app u arr sz s x => cases arr <;> (simp at hc; omega)
  case callP f args arr fz => cases fz <;> cases arr <;> (simp at hc; omega)
  case ldL m' k x =>
    have hm : m' = m := by omega
    subst hm
    constructor
    · simp only [eff] at h
      repeat' split at h
      all_goals first
        | (cases h; done)
        | (simp only [Option.some.injEq] at h; subst h; rfl)
    · intro bx' nb' stk' hb
      simp only [eff] at h ⊢
      rw [hb]; exact h

/-- Writes to one box. -/
theorem clsW {op : AOp} {m : Nat} (hc : op.cls = 101 + 2 * m) {e : Eff} (h : eff gl C D env bx nb stk op = some e) : (∃ b, e.mem = .bxs m b) ∧ ∀ bx' nb' stk', bx' m = bx m → nb' m = nb m → eff gl C D env bx' nb' stk' op = some e := by
  cases op <;> (try (simp [AOp.cls] at hc; omega)) <;> simp only [AOp.cls] at hc
  case mks arr u sz zero len cap => cases arr <;> (simp at hc; omega)
  case app u arr sz s x => cases arr <;> (simp at hc; omega)
  case callP f args arr fz => cases fz <;> cases arr <;> (simp at hc; omega)
  case stL m' k x v =>
    have hm : m' = m := by omega
    subst hm
    constructor
    · simp only [eff] at h
      repeat' split at h
      all_goals first
        | (cases h; done)
        | (simp only [Option.some.injEq] at h; subst h; exact ⟨_, rfl⟩)
    · intro bx' nb' stk' hb hn
      simp only [eff] at h ⊢
      rw [hb, hn]; exact h
  case frz m' x =>
    have hm : m' = m := by omega
    subst hm
    constructor
    · simp only [eff] at h
      repeat' split at h
      all_goals first
        | (cases h; done)
        | (simp only [Option.some.injEq] at h; subst h; exact ⟨_, rfl⟩)
    · intro bx' nb' stk' hb hn
      simp only [eff] at h ⊢
      rw [hb, hn]; exact h
end
end Go.Vs

namespace Go.Vs
open Go
set_option linter.unusedSimpArgs false
set_option linter.unusedVariables false

section
variable {gl : Globs} {C : Callee} {env env' : Env} {bx nb bx' nb' : Boxes} {stk stk' : List Boxes} {D : Option Nat}

theorem effG_env {o : AOpr} (h : ∀ n ∈ o.reads, env n = env' n) : effG gl C o env bx nb stk = effG gl C o env' bx nb stk := by
  have ho : eff gl C o.dst env bx nb stk o.op = eff gl C o.dst env' bx nb stk o.op := eff_env fun n hn => h n (by simp only [AOpr.reads, List.mem_append]; exact .inr hn)
  unfold effG
  cases hg : o.guard with
  | none => simp only; exact ho
  | some p =>
    obtain ⟨g, want⟩ := p
    simp only
    rw [h g (by simp [AOpr.reads, hg]), ho]

theorem effG_wr {o : AOpr} {e : Eff} (h : effG gl C o env bx nb stk = some e) : ∀ p ∈ e.wr, p.1 ∈ o.writes := by
  have base : ∀ {e : Eff}, eff gl C o.dst env bx nb stk o.op = some e → ∀ p ∈ e.wr, p.1 ∈ o.writes := fun he p hp => by
    rcases eff_wr he p hp with h | h
    · simp only [AOpr.writes, List.mem_append]; exact .inr h
    · simp [AOpr.writes, h]
  have skip : ∀ {e : Eff}, some { wr := wrD o.dst (.tup []) } = some e → ∀ p ∈ e.wr, p.1 ∈ o.writes := fun he p hp => by
    simp only [Option.some.injEq] at he; subst he
    have := mem_wrD hp
    simp [AOpr.writes, this]
  unfold effG at h
  cases hg : o.guard with
  | none => rw [hg] at h; exact base h
  | some q =>
    obtain ⟨g, want⟩ := q
    rw [hg] at h
    simp only at h
    split at h
    · rename_i b _
      cases hb : (b == want) <;> rw [hb] at h
      · exact skip h
      · exact base h
    · exact skip h
    · cases h

/-- How an effect of class k depends on the boxes. -/
def Kd (F : Boxes → Boxes → List Boxes → Option Eff) (bx nb : Boxes) (stk : List Boxes) (D : Option Nat) (e : Eff) : Nat → Prop
  | 0 => e.mem = .keep ∧ ∀ bx' nb' stk', F bx' nb' stk' = some e
  | 1 => e.mem = .keep ∧ ∀ nb', F bx nb' stk = some e
  | 2 => NewOf F bx nb D e
  | 5 => (∃ m b, e.mem = .nb m b) ∧ ∀ bx' stk', F bx' nb stk' = some e
  | k => if k < 100 then F bx nb stk = some e
    else if k % 2 = 0 then e.mem = .keep ∧ ∀ bx' nb' stk', bx' ((k - 100) / 2) = bx ((k - 100) / 2) → F bx' nb' stk' = some e
    else (∃ b, e.mem = .bxs ((k - 100) / 2) b) ∧ ∀ bx' nb' stk', bx' ((k - 100) / 2) = bx ((k - 100) / 2) → nb' ((k - 100) / 2) = nb ((k - 100) / 2) → F bx' nb' stk' = some e

theorem eff_kd {op : AOp} {e : Eff} (h : eff gl C D env bx nb stk op = some e) : Kd (fun bx nb stk => eff gl C D env bx nb stk op) bx nb stk D e op.cls := by
  unfold Kd
  split
  · exact cls0 (by assumption) h
  · exact cls1 (by assumption) h
  · exact cls2 (by assumption) h
  · exact cls5 (by assumption) h
  · split
    · exact h
    · split
      · exact clsR (by omega) h
      · exact clsW (by omega) h

theorem effG_kd {o : AOpr} {e : Eff} (h : effG gl C o env bx nb stk = some e) :
    Kd (fun bx nb stk => effG gl C o env bx nb stk) bx nb stk o.dst e o.op.cls ∨ Kd (fun bx nb stk => effG gl C o env bx nb stk) bx nb stk o.dst e 0 := by
  unfold effG at h ⊢
  cases hg : o.guard with
  | none => simp only [hg] at h ⊢; exact .inl (eff_kd h)
  | some p =>
    obtain ⟨g, want⟩ := p
    simp only [hg] at h ⊢
    split at h
    · rename_i b hb
      cases hbw : (b == want) with
      | false =>
        rw [hbw] at h
        simp only [cond_false, Option.some.injEq] at h ⊢
        subst h
        exact .inr ⟨rfl, fun _ _ _ => rfl⟩
      | true =>
        rw [hbw] at h
        exact .inl (eff_kd h)
    · rename_i hb
      simp only [Option.some.injEq] at h
      subst h
      exact .inr ⟨rfl, fun _ _ _ => rfl⟩
    · cases h

/-- Reads of one box, writes to one box: other boxes. -/
def tagged (a b : Nat) : Bool :=
  (Nat.ble 100 a && Nat.beq (a % 2) 0 && (Nat.beq b 1 || Nat.beq b 2 || Nat.beq b 5)) ||
  (Nat.ble 100 b && Nat.beq (b % 2) 0 && (Nat.beq a 1 || Nat.beq a 2 || Nat.beq a 5)) ||
  (Nat.ble 100 a && Nat.ble 100 b && ((Nat.beq (a % 2) 0 && Nat.beq (b % 2) 0) || !(Nat.beq ((a - 100) / 2) ((b - 100) / 2))))

/-- May operations of these classes change places? -/
def compat : Nat → Nat → Bool
  | 0, _ => true
  | _, 0 => true
  | 1, 1 => true
  | 1, 2 => true
  | 2, 1 => true
  | 2, 2 => true
  | 1, 5 => true
  | 5, 1 => true
  | a, b => tagged a b

def disj (a b : List Nat) : Bool := a.all fun x => b.all fun y => !(Nat.beq x y)

theorem disj_iff {a b : List Nat} : disj a b = true ↔ ∀ x ∈ a, x ∉ b := by
  simp only [disj, List.all_eq_true, Bool.not_eq_true', ← Bool.not_eq_true, Nat.beq_eq]
  exact ⟨fun h x hx hb => h x hx x hb rfl, fun h x hx y hy e => h x hx (e ▸ hy)⟩

def indep (x y : AOpr) : Bool := compat x.op.cls y.op.cls && disj x.writes y.reads && disj x.writes y.writes && disj y.writes x.reads

theorem wrs_other {T : List (Nat × AV)} {env : Env} {n : Nat} (h : ∀ p ∈ T, p.1 ≠ n) : wrs env T n = env n := by
  induction T generalizing env with
  | nil => rfl
  | cons p T ih =>
    obtain ⟨m, v⟩ := p
    show wrs (upd env m v) T n = _
    rw [ih (fun p hp => h p (by simp [hp])), upd_ne]
    exact fun e => h (m, v) (by simp) e.symm

theorem wrs_mem {T : List (Nat × AV)} {env env' : Env} {n : Nat} (h : ∃ p ∈ T, p.1 = n) : wrs env T n = wrs env' T n := by
  induction T generalizing env env' with
  | nil => obtain ⟨p, hp, _⟩ := h; simp at hp
  | cons p T ih =>
    obtain ⟨m, v⟩ := p
    show wrs (upd env m v) T n = wrs (upd env' m v) T n
    by_cases hT : ∃ p ∈ T, p.1 = n
    · exact ih hT
    · have hT' : ∀ p ∈ T, p.1 ≠ n := fun p hp e => hT ⟨p, hp, e⟩
      rw [wrs_other hT', wrs_other hT']
      obtain ⟨p, hp, hpn⟩ := h
      simp only [List.mem_cons] at hp
      rcases hp with rfl | hp
      · simp only at hpn; subst hpn; rw [upd_same, upd_same]
      · exact absurd hpn (hT' p hp)

theorem wrs_comm {S T : List (Nat × AV)} {env : Env} (h : ∀ p ∈ S, ∀ q ∈ T, p.1 ≠ q.1) : wrs (wrs env S) T = wrs (wrs env T) S := by
  funext n
  by_cases hS : ∃ p ∈ S, p.1 = n
  · obtain ⟨p, hp, rfl⟩ := hS
    rw [wrs_other (fun q hq e => h p hp q hq e.symm), wrs_mem (env' := wrs env T) ⟨p, hp, rfl⟩]
  · have hS' : ∀ p ∈ S, p.1 ≠ n := fun p hp e => hS ⟨p, hp, e⟩
    rw [wrs_other (T := S) hS']
    by_cases hT : ∃ q ∈ T, q.1 = n
    · exact wrs_mem hT
    · have hT' : ∀ p ∈ T, p.1 ≠ n := fun p hp e => hT ⟨p, hp, e⟩
      rw [wrs_other hT', wrs_other hT', wrs_other hS']

/-- Two effects change places. -/
theorem eff_swap {F G : Boxes → Boxes → List Boxes → Option Eff} {DF DG : Option Nat} {kf kg : Nat} {s : St} {e f : Eff} (hc : compat kf kg = true) (hD : ∀ n, DF = some n → DG ≠ some n)
    (hF : F s.bx s.nb s.stk = some e) (hkF : Kd F s.bx s.nb s.stk DF e kf)
    (hG : G (applyEff true s e).bx (applyEff true s e).nb (applyEff true s e).stk = some f) (hkG : Kd G (applyEff true s e).bx (applyEff true s e).nb (applyEff true s e).stk DG f kg)
    (hw : ∀ p ∈ e.wr, ∀ q ∈ f.wr, p.1 ≠ q.1) :
    G s.bx s.nb s.stk = some f ∧ F (applyEff true s f).bx (applyEff true s f).nb (applyEff true s f).stk = some e ∧ applyEff true (applyEff true s f) e = applyEff true (applyEff true s e) f := by
  obtain ⟨ew, em⟩ := e
  obtain ⟨fw, fm⟩ := f
  obtain ⟨env, bx, nb, stk⟩ := s
  have hcm := wrs_comm (env := env) hw
  by_cases h0 : kf = 0
  · subst h0
    obtain ⟨k1, k2⟩ := hkF
    simp only at k1; subst k1
    refine ⟨hG, k2 _ _ _, ?_⟩
    cases fm <;> simp [applyEff, applyMem, hcm]
  by_cases h0' : kg = 0
  · subst h0'
    obtain ⟨k1, k2⟩ := hkG
    simp only at k1; subst k1
    refine ⟨k2 _ _ _, hF, ?_⟩
    cases em <;> simp [applyEff, applyMem, hcm]
  -- a read of one box is a read
  have base : ∀ {kf kg : Nat}, Kd F bx nb stk DF ⟨ew, em⟩ kf → Kd G (applyEff true ⟨env, bx, nb, stk⟩ ⟨ew, em⟩).bx (applyEff true ⟨env, bx, nb, stk⟩ ⟨ew, em⟩).nb (applyEff true ⟨env, bx, nb, stk⟩ ⟨ew, em⟩).stk DG ⟨fw, fm⟩ kg →
      ((kf = 1 ∧ kg = 1) ∨ (kf = 1 ∧ kg = 2) ∨ (kf = 2 ∧ kg = 1) ∨ (kf = 2 ∧ kg = 2) ∨ (kf = 1 ∧ kg = 5) ∨ (kf = 5 ∧ kg = 1)) →
      G bx nb stk = some ⟨fw, fm⟩ ∧ F (applyEff true ⟨env, bx, nb, stk⟩ ⟨fw, fm⟩).bx (applyEff true ⟨env, bx, nb, stk⟩ ⟨fw, fm⟩).nb (applyEff true ⟨env, bx, nb, stk⟩ ⟨fw, fm⟩).stk = some ⟨ew, em⟩ ∧
        applyEff true (applyEff true ⟨env, bx, nb, stk⟩ ⟨fw, fm⟩) ⟨ew, em⟩ = applyEff true (applyEff true ⟨env, bx, nb, stk⟩ ⟨ew, em⟩) ⟨fw, fm⟩ := by
    intro kf kg hkF hkG cases4
    rcases cases4 with ⟨rfl, rfl⟩ | ⟨rfl, rfl⟩ | ⟨rfl, rfl⟩ | ⟨rfl, rfl⟩ | ⟨rfl, rfl⟩ | ⟨rfl, rfl⟩
    · obtain ⟨k1, k2⟩ := hkF
      obtain ⟨l1, l2⟩ := hkG
      simp only at k1 l1; subst k1; subst l1
      exact ⟨hG, hF, by simp [applyEff, applyMem, hcm]⟩
    · obtain ⟨k1, k2⟩ := hkF
      obtain ⟨n, b, l1, l2, l3, l4, l5⟩ := hkG
      simp only at k1 l2; subst k1; subst l2
      exact ⟨hG, k2 _, by simp [applyEff, applyMem, hcm]⟩
    · obtain ⟨n, b, k1, k2, k3, k4, k5⟩ := hkF
      obtain ⟨l1, l2⟩ := hkG
      simp only at k2 l1; subst k2; subst l1
      exact ⟨l2 _, hF, by simp [applyEff, applyMem, hcm]⟩
    · obtain ⟨n, b, k1, k2, k3, k4, k5⟩ := hkF
      obtain ⟨m, c, l1, l2, l3, l4, l5⟩ := hkG
      simp only at k2 l2; subst k2; subst l2
      have hne : n ≠ m := fun e => hD n k1 (by rw [l1, e])
      have l4' : upd nb n (some b) m = none := l4
      rw [upd_ne _ _ hne.symm] at l4'
      refine ⟨l5 _ _ _ l3 l4', k5 _ _ _ k3 ?_, ?_⟩
      · show upd nb m (some c) n = none
        rw [upd_ne _ _ hne]; exact k4
      · simp only [applyEff, applyMem, if_true, hcm]
        congr 1
        funext q
        by_cases hq : q = n
        · subst hq; rw [upd_same, upd_ne _ _ hne, upd_same]
        · rw [upd_ne _ _ hq]
          by_cases hq2 : q = m
          · subst hq2; rw [upd_same, upd_same]
          · rw [upd_ne _ _ hq2, upd_ne _ _ hq2, upd_ne _ _ hq]
    · obtain ⟨k1, k2⟩ := hkF
      obtain ⟨⟨m, c, l1⟩, l2⟩ := hkG
      simp only at k1 l1; subst k1; subst l1
      exact ⟨hG, k2 _, by simp [applyEff, applyMem, hcm]⟩
    · obtain ⟨⟨m, c, k1⟩, k2⟩ := hkF
      obtain ⟨l1, l2⟩ := hkG
      simp only at k1 l1; subst k1; subst l1
      exact ⟨l2 _, hF, by simp [applyEff, applyMem, hcm]⟩
  have kdBig : ∀ {F : Boxes → Boxes → List Boxes → Option Eff} {bx nb : Boxes} {stk : List Boxes} {D : Option Nat} {e : Eff} {k : Nat}, 100 ≤ k → Kd F bx nb stk D e k →
      (k % 2 = 0 ∧ e.mem = .keep ∧ ∀ bx' nb' stk', bx' ((k - 100) / 2) = bx ((k - 100) / 2) → F bx' nb' stk' = some e) ∨
      (k % 2 ≠ 0 ∧ (∃ b, e.mem = .bxs ((k - 100) / 2) b) ∧ ∀ bx' nb' stk', bx' ((k - 100) / 2) = bx ((k - 100) / 2) → nb' ((k - 100) / 2) = nb ((k - 100) / 2) → F bx' nb' stk' = some e) := by
    intro F bx nb stk D e k hk h
    unfold Kd at h
    split at h <;> first | omega | skip
    rw [if_neg (by omega)] at h
    split at h
    · exact .inl ⟨by assumption, h⟩
    · exact .inr ⟨by assumption, h⟩
  have kdRead : ∀ {F : Boxes → Boxes → List Boxes → Option Eff} {bx nb : Boxes} {stk : List Boxes} {D : Option Nat} {e : Eff} {k : Nat}, 100 ≤ k → k % 2 = 0 → Kd F bx nb stk D e k → Kd F bx nb stk D e 1 := by
    intro F bx nb stk D e k hk hk2 h
    rcases kdBig hk h with ⟨_, h1, h2⟩ | ⟨h1, _⟩
    · exact ⟨h1, fun nb' => h2 _ _ _ rfl⟩
    · exact absurd hk2 h1
  have hcase : ((kf = 1 ∧ kg = 1) ∨ (kf = 1 ∧ kg = 2) ∨ (kf = 2 ∧ kg = 1) ∨ (kf = 2 ∧ kg = 2) ∨ (kf = 1 ∧ kg = 5) ∨ (kf = 5 ∧ kg = 1)) ∨ tagged kf kg = true := by
    unfold compat at hc
    split at hc <;> simp_all
  rcases hcase with hcase | ht
  · exact base hkF hkG hcase
  · simp only [tagged, Bool.or_eq_true, Bool.and_eq_true, Bool.not_eq_true', ← Bool.not_eq_true, Nat.ble_eq, Nat.beq_eq] at ht
    rcases ht with (⟨⟨h1, h2⟩, h3⟩ | ⟨⟨h1, h2⟩, h3⟩) | ⟨⟨h1, h2⟩, h3⟩
    · refine base (kdRead h1 h2 hkF) hkG ?_
      rcases h3 with (rfl | rfl) | rfl <;> simp
    · refine base hkF (kdRead h1 h2 hkG) ?_
      rcases h3 with (rfl | rfl) | rfl <;> simp
    · rcases kdBig h1 hkF with ⟨p1, p2, p3⟩ | ⟨p1, ⟨b, p2⟩, p3⟩
      · rcases kdBig h2 hkG with ⟨q1, q2, q3⟩ | ⟨q1, ⟨c, q2⟩, q3⟩
        · exact base (kdRead h1 p1 hkF) (kdRead h2 q1 hkG) (by simp)
        · have hne : (kf - 100) / 2 ≠ (kg - 100) / 2 := by
            rcases h3 with ⟨_, h4⟩ | h4
            · exact absurd h4 q1
            · exact h4
          simp only at p2 q2; subst p2; subst q2
          refine ⟨hG, p3 _ _ _ ?_, by simp [applyEff, applyMem, hcm]⟩
          show upd bx _ _ _ = _
          rw [upd_ne _ _ hne]
      · have hne : (kf - 100) / 2 ≠ (kg - 100) / 2 := by
          rcases h3 with ⟨h4, _⟩ | h4
          · exact absurd h4 p1
          · exact h4
        rcases kdBig h2 hkG with ⟨q1, q2, q3⟩ | ⟨q1, ⟨c, q2⟩, q3⟩
        · simp only at p2 q2; subst p2; subst q2
          refine ⟨q3 _ _ _ ?_, hF, by simp [applyEff, applyMem, hcm]⟩
          show _ = upd bx _ _ _
          rw [upd_ne _ _ hne.symm]
        · simp only at p2 q2; subst p2; subst q2
          refine ⟨q3 _ _ _ ?_ rfl, p3 _ _ _ ?_ rfl, ?_⟩
          · show _ = upd bx _ _ _
            rw [upd_ne _ _ hne.symm]
          · show upd bx _ _ _ = _
            rw [upd_ne _ _ hne]
          · simp only [applyEff, applyMem, hcm]
            congr 1
            funext q
            by_cases hq : q = (kf - 100) / 2
            · subst hq; rw [upd_same, upd_ne _ _ hne, upd_same]
            · rw [upd_ne _ _ hq]
              by_cases hq2 : q = (kg - 100) / 2
              · subst hq2; rw [upd_same, upd_same]
              · rw [upd_ne _ _ hq2, upd_ne _ _ hq2, upd_ne _ _ hq]

theorem compat0 (k : Nat) : compat 0 k = true ∧ compat k 0 = true := by
  constructor
  · simp [compat]
  · cases k with
    | zero => rfl
    | succ k => simp [compat]

theorem applyEff_env (draw : Bool) (s : St) (e : Eff) : (applyEff draw s e).env = wrs s.env e.wr := by
  simp [applyEff, applyMem_env]

theorem step_swap {x y : AOpr} (hi : indep x y = true) {s s1 s2 : St} (h1 : stepO gl C true x s = some s1) (h2 : stepO gl C true y s1 = some s2) :
    ∃ s1', stepO gl C true y s = some s1' ∧ stepO gl C true x s1' = some s2 := by
  simp only [indep, Bool.and_eq_true, disj_iff] at hi
  obtain ⟨⟨⟨hc, hxr⟩, hxw⟩, hyr⟩ := hi
  unfold stepO at h1 h2
  split at h1
  · rename_i e he
    simp only [Option.some.injEq] at h1; subst h1
    split at h2
    · rename_i f hf
      simp only [Option.some.injEq] at h2; subst h2
      have we := effG_wr he
      have wf := effG_wr hf
      have hf' : effG gl C y s.env (applyEff true s e).bx (applyEff true s e).nb (applyEff true s e).stk = some f := by
        rw [← hf]
        refine effG_env fun n hn => ?_
        rw [applyEff_env, wrs_other]
        rintro p hp rfl
        exact hxr _ (we p hp) hn
      have hw : ∀ p ∈ e.wr, ∀ q ∈ f.wr, p.1 ≠ q.1 := fun p hp q hq e0 => hxw _ (we p hp) (e0 ▸ wf q hq)
      have hD : ∀ n, x.dst = some n → y.dst ≠ some n := fun n e1 e2 => hxw n (by simp [AOpr.writes, e1]) (by simp [AOpr.writes, e2])
      have fin : ∀ {kf kg : Nat}, compat kf kg = true → Kd (fun bx nb stk => effG gl C x s.env bx nb stk) s.bx s.nb s.stk x.dst e kf →
          Kd (fun bx nb stk => effG gl C y s.env bx nb stk) (applyEff true s e).bx (applyEff true s e).nb (applyEff true s e).stk y.dst f kg → _ := fun {kf kg} hc hkF hkG =>
        eff_swap (F := fun bx nb stk => effG gl C x s.env bx nb stk) (G := fun bx nb stk => effG gl C y s.env bx nb stk) hc hD he hkF hf' hkG hw
      obtain ⟨r1, r2, r3⟩ : effG gl C y s.env s.bx s.nb s.stk = some f ∧ effG gl C x s.env (applyEff true s f).bx (applyEff true s f).nb (applyEff true s f).stk = some e ∧ applyEff true (applyEff true s f) e = applyEff true (applyEff true s e) f := by
        rcases effG_kd he with k1 | k1 <;> rcases effG_kd hf' with k2 | k2
        · exact fin hc k1 k2
        · exact fin (compat0 _).2 k1 k2
        · exact fin (compat0 _).1 k1 k2
        · exact fin (compat0 _).2 k1 k2
      refine ⟨applyEff true s f, by unfold stepO; rw [r1], ?_⟩
      unfold stepO
      have r2' : effG gl C x (applyEff true s f).env (applyEff true s f).bx (applyEff true s f).nb (applyEff true s f).stk = some e := by
        rw [← r2]
        refine effG_env fun n hn => ?_
        rw [applyEff_env, wrs_other]
        rintro p hp rfl
        exact hyr _ (wf p hp) hn
      rw [r2', ← r3]
    · cases h2
  · cases h1

/-- One that may change places with all ahead of it comes first. -/
theorem steps_front {y : AOpr} {post : List AOpr} {s' : St} : ∀ {pre : List AOpr} {s : St}, (∀ x ∈ pre, indep x y = true) → stepsO gl C true (pre ++ y :: post) s = some s' →
    ∃ s1, stepO gl C true y s = some s1 ∧ stepsO gl C true (pre ++ post) s1 = some s'
  | [], s, _, h => by
    simp only [List.nil_append, stepsO] at h
    split at h
    · cases h
    · rename_i s1 h1; exact ⟨s1, h1, h⟩
  | x :: pre, s, hx, h => by
    simp only [List.cons_append, stepsO] at h
    split at h
    · cases h
    · rename_i s1 h1
      obtain ⟨s2, h2, h3⟩ := steps_front (fun z hz => hx z (by simp [hz])) h
      obtain ⟨s3, h4, h5⟩ := step_swap (hx x (by simp)) h1 h2
      exact ⟨s3, h4, by simp only [List.cons_append, stepsO, h5]; exact h3⟩
end
end Go.Vs

namespace Go.Vs
open Go
set_option linter.unusedSimpArgs false
set_option linter.unusedVariables false

def eqDst : Option Nat → Option Nat → Bool
  | none, none => true
  | some a, some b => Nat.beq a b
  | _, _ => false

def okDst (N : Nat) : Option Nat → Bool
  | none => true
  | some n => Nat.blt n N

def okGuard (ops : List Oper) : Option (Nat × Bool) → Option (Nat × Bool) → Bool
  | none, none => true
  | some (j, want), some (n, want') => want == want' && (match ops[j]? with
    | some o => eqDst o.dst (some n)
    | none => false)
  | _, _ => false

def okTakes : AOp → Bool
  | .callP _ args _ _ => nodupTakes args
  | .callS _ args => nodupTakes args
  | _ => true

def okOper (P : Program) (N : Nat) (ops : List Oper) (o : Oper) (ao : AOpr) : Bool :=
  eqDst o.dst ao.dst && okDst N o.dst && okGuard ops o.guard ao.guard && okTakes ao.op && okOp P N o ao.op

def okOpers (P : Program) (N : Nat) (ops : List Oper) : List Oper → List AOpr → Bool
  | [], [] => true
  | o :: os, a :: as => okOper P N ops o a && okOpers P N ops os as
  | _, _ => false

theorem eqDst_eq {a b : Option Nat} (h : eqDst a b = true) : a = b := by
  cases a <;> cases b <;> simp [eqDst, Nat.beq_eq] at h ⊢
  exact h

section
variable {P : Program} {gl : Globs} {g : Gh} {d N : Nat} {s : St} {a : Act} {w : World} {o : Oper} {draw : Bool} {e : Eff} {C : Callee} {tmps : Array Value}
  {ops : Array Oper} {Q : Exit → Act → World → Prop}

theorem okOp_w (HC : CallOK P gl C) (R : Rel gl g d s a.tmps w) (hD : ∀ m, o.dst = some m → m < a.tmps.size) {ao : AOp} (hok : okOp P N o ao = true) (ht : okTakes ao = true)
    (he : eff gl C o.dst s.env s.bx s.nb s.stk ao = some e) : OpW P gl g d s a w o draw e := by
  by_cases h1 : ∃ f l b z, ao = .callP f l b z
  · obtain ⟨f, l, b, z, rfl⟩ := h1
    simp only [okOp] at hok
    split at hok
    · rename_i c ho
      split at hok
      · rename_i f' hc
        simp only [Bool.and_eq_true] at hok
        exact callP_ok HC R hD ho hc hok.1 hok.2 ht he
      · cases hok
    · cases hok
  by_cases h2 : ∃ f l, ao = .callS f l
  · obtain ⟨f, l, rfl⟩ := h2
    simp only [okOp] at hok
    split at hok
    · rename_i c ho
      split at hok
      · rename_i f' hc
        simp only [Bool.and_eq_true] at hok
        exact callS_ok HC R hD ho hc hok.1 hok.2 ht he
      · cases hok
    · cases hok
  exact (step_ok R hD hok ⟨fun f l b z e => h1 ⟨f, l, b, z, e⟩, fun f l e => h2 ⟨f, l, e⟩⟩ he).toW

theorem yielded_bool {j n : Nat} {o' : Oper} (hj : ops.toList[j]? = some o') (hd : o'.dst = some n) {tmps : Array Value} {b : Bool} (h : tmps.getD n undef = .bool b) : yielded ops tmps j = some b := by
  have h0 : ops[j]? = some o' := by rw [← Array.getElem?_toList]; exact hj
  have h1 : tmps[n]? = some (.bool b) := by
    rw [Array.getD_eq_getD_getElem?] at h
    cases hx : tmps[n]? with
    | none => rw [hx] at h; simp [undef] at h
    | some y => rw [hx] at h; simp at h; rw [h]
  simp only [yielded, h0, Option.bind_some, hd, h1]

theorem yielded_tup {j n : Nat} {o' : Oper} (hj : ops.toList[j]? = some o') (hd : o'.dst = some n) {tmps : Array Value} {ws : Array Value} (h : tmps.getD n undef = .tuple ws) : yielded ops tmps j = none := by
  have h0 : ops[j]? = some o' := by rw [← Array.getElem?_toList]; exact hj
  rw [Array.getD_eq_getD_getElem?] at h
  cases hx : tmps[n]? with
  | none => simp only [yielded, h0, Option.bind_some, hd, hx]
  | some y => rw [hx] at h; simp at h; subst h; simp only [yielded, h0, Option.bind_some, hd, hx]

theorem op_wp {i : Nat} {ao : AOpr} (HC : CallOK P gl C) (ho : ops[i]? = some o) (hok : okOper P N ops.toList o ao = true) (R : Rel gl g d s a.tmps w) (hN : N ≤ a.tmps.size) {s' : St} (he : stepO gl C draw ao s = some s')
    {K : Act → World → Prop} (hK : ∀ g' v w', Rel gl g' d s' (putT a.tmps o.dst v) w' → Step g w g' w' → K (a.put o.dst v) w') : wpOp P ops Q i K a w := by
  simp only [okOper, Bool.and_eq_true] at hok
  obtain ⟨⟨⟨⟨h1, h2⟩, h3⟩, h4⟩, h5⟩ := hok
  have h1 := eqDst_eq h1
  have hD : ∀ m, o.dst = some m → m < a.tmps.size := fun m hm => by
    rw [hm] at h2; simp only [okDst, Nat.blt_eq] at h2; exact Nat.lt_of_lt_of_le h2 hN
  unfold wpOp
  simp only [ho]
  unfold stepO at he
  split at he
  · rename_i e hg
    simp only [Option.some.injEq] at he; subst he
    have wanted : ∀ {e : Eff}, eff gl C ao.dst s.env s.bx s.nb s.stk ao.op = some e → (∀ g' v w', Rel gl g' d (applyEff draw s e) (putT a.tmps o.dst v) w' → Step g w g' w' → K (a.put o.dst v) w') → o.wp P a w K Q := fun he hK => by
      rw [← h1] at he
      exact okOp_w (draw := draw) HC R hD h5 h4 he K Q hK
    have skipped : e = { wr := wrD o.dst (.tup []) } → K (a.put o.dst undef) w := fun he => by
      subst he
      refine hK g undef w ?_ (.refl _ _)
      have : RC g w d .undef undef := fun _ => trivial
      refine R.gen (.refl _ _) (fun _ _ _ h => h) allU_nil rfl hD (A := .tup []) (v := undef) (fun m hm => ?_) (fun _ _ _ _ => .refl _ _ _) (fun n b h => .inl ⟨h, .refl _ _ _, fun _ => .refl _ _ _⟩) R.dead R.excl
        (fun l n b h => .inl ⟨h, .refl _ _ _, fun _ => .refl _ _ _⟩) R.deadO R.lvl R.fresh R.locs
      exact ⟨#[], rfl, rfl, by simp⟩
    unfold effG at hg
    cases hog : o.guard with
    | none =>
      rw [hog] at h3
      have hwt : Region.wanted o (yielded ops a.tmps) = true := by simp [Region.wanted, hog]
      cases hag : ao.guard with
      | some p => rw [hag] at h3; simp [okGuard] at h3
      | none =>
        rw [hag] at hg
        rw [if_pos hwt]
        exact .inl (wanted hg hK)
    | some p =>
      obtain ⟨j, want⟩ := p
      rw [hog] at h3
      cases hag : ao.guard with
      | none => rw [hag] at h3; simp [okGuard] at h3
      | some q =>
        obtain ⟨n, want'⟩ := q
        rw [hag] at h3 hg
        simp only [okGuard, Bool.and_eq_true, beq_iff_eq] at h3
        obtain ⟨rfl, h3⟩ := h3
        split at h3
        · rename_i o' ho'
          have hsl := R.slots n
          simp only at hg
          split at hg
          · rename_i b hb
            rw [hb] at hsl
            have hy := yielded_bool ho' (eqDst_eq h3) (rv_bool hsl)
            have hwt : Region.wanted o (yielded ops a.tmps) = (b == want) := by simp [Region.wanted, hog, hy]
            cases hbw : (b == want) with
            | true =>
              rw [hbw] at hg hwt
              rw [if_pos hwt]
              exact .inl (wanted hg hK)
            | false =>
              rw [hbw] at hg hwt
              rw [if_neg (by rw [hwt]; simp)]
              simp only [cond_false, Option.some.injEq] at hg
              exact skipped (by rw [← hg, h1])
          · rename_i vs hb
            rw [hb] at hsl
            obtain ⟨ws, hws, _⟩ := hsl
            have hy := yielded_tup ho' (eqDst_eq h3) hws
            have hwt : Region.wanted o (yielded ops a.tmps) = false := by simp [Region.wanted, hog, hy]
            rw [if_neg (by rw [hwt]; simp)]
            simp only [Option.some.injEq] at hg
            exact skipped (by rw [← hg, h1])
          · cases hg
        · cases h3
  · cases he

theorem okOpers_get {ops : List Oper} : ∀ {os : List Oper} {as : List AOpr}, okOpers P N ops os as = true → as.length = os.length ∧ ∀ (i : Nat) (o : Oper) (ao : AOpr), os[i]? = some o → as[i]? = some ao → okOper P N ops o ao = true
  | [], [], _ => ⟨rfl, by simp⟩
  | [], _ :: _, h => by simp [okOpers] at h
  | _ :: _, [], h => by simp [okOpers] at h
  | o :: os, a :: as, h => by
    simp only [okOpers, Bool.and_eq_true] at h
    obtain ⟨h1, h2⟩ := okOpers_get h.2
    refine ⟨by simp [h1], fun i o' a' e1 e2 => ?_⟩
    cases i with
    | zero => simp at e1 e2; subst e1; subst e2; exact h.1
    | succ i => exact h2 i o' a' (by simpa using e1) (by simpa using e2)

/-- The end of a region. -/
def RegEnd (gl : Globs) (g : Gh) (d : Nat) (s' : St) (a : Act) (w : World) (Q : Exit → Act → World → Prop) : Prop :=
  ∀ g' a' w', Rel gl g' d s' a'.tmps w' → Step g w g' w' → a'.defers = a.defers → a'.tmps.size = a.tmps.size → Q .normal a' w'

theorem RegEnd.next {D : Option Nat} {v : Value} {g' : Gh} {w' : World} {s' : St} (h : RegEnd gl g d s' a w Q) (S : Step g w g' w') : RegEnd gl g' d s' (a.put D v) w' Q :=
  fun g2 a2 w2 R2 S2 hd hs => h g2 a2 w2 R2 (S.trans S2) (by rw [hd, put_defers]) (by rw [hs, put_tmps, putT_size])

/-- In the text's order. -/
theorem reg_seq (HC : CallOK P gl C) {aops : List AOpr} (hok : okOpers P N ops.toList ops.toList aops = true) : ∀ (m k : Nat) {g : Gh} {s : St} {a : Act} {w : World}, k + m = ops.size → ∀ {s' : St}, stepsO gl C false (aops.drop k) s = some s' →
    Rel gl g d s a.tmps w → N ≤ a.tmps.size → RegEnd gl g d s' a w Q → wpOps P ops Q (List.range' k m) a w
  | 0, k, g, s, a, w, hk, s', he, R, hN, hend => by
    obtain ⟨hlen, _⟩ := okOpers_get hok
    rw [List.drop_eq_nil_of_le (by simp at hlen; omega)] at he
    simp only [stepsO, Option.some.injEq] at he; subst he
    exact hend g a w R (.refl _ _) rfl rfl
  | m + 1, k, g, s, a, w, hk, s', he, R, hN, hend => by
    obtain ⟨hlen, hall⟩ := okOpers_get hok
    have hklt : k < aops.length := by simp at hlen; omega
    rw [List.drop_eq_getElem_cons hklt] at he
    simp only [stepsO] at he
    split at he
    · cases he
    · rename_i s1 h1
      rw [List.range'_succ, wpOps_cons]
      have hko : k < ops.size := by omega
      have ho : ops[k]? = some ops[k] := by simp [hko]
      have hok1 := hall k ops[k] aops[k] (by rw [Array.getElem?_toList]; exact ho) (by simp [hklt])
      refine op_wp HC ho hok1 R hN h1 fun g' v w' R' S' => ?_
      rw [← put_tmps] at R'
      exact reg_seq HC hok m (k + 1) (by omega) he R' (by rw [put_tmps, putT_size]; exact hN) (hend.next S')

def ancOf (prev : List Nat) : List Edge → Nat
  | [] => 0
  | e :: es => bif Region.binds .any e then Nat.lor (Nat.lor (ancOf prev es) (Nat.shiftLeft 1 e.on)) (prev.getD e.on 0) else ancOf prev es

def ancs : List Nat → List Oper → List Nat
  | prev, [] => prev
  | prev, o :: os => ancs (prev ++ [ancOf prev o.after.toList]) os

/-- Each edge that binds points backwards. -/
def backward : Nat → List Oper → Bool
  | _, [] => true
  | i, o :: os => o.after.toList.all (fun e => !(Region.binds .any e) || Nat.blt e.on i) && backward (i + 1) os

def freePairs (A : List Nat) (aops : List AOpr) : Nat → List AOpr → Bool
  | _, [] => true
  | i, y :: ys => (aops.take i).zipIdx.all (fun (x, j) => Nat.testBit (A.getD i 0) j || indep x y) && freePairs A aops (i + 1) ys

def okDraw (ops : List Oper) (aops : List AOpr) : Bool := backward 0 ops && freePairs (ancs [] ops) aops 0 aops

theorem ancOf_bit {prev : List Nat} : ∀ {es : List Edge} {j : Nat}, Nat.testBit (ancOf prev es) j = true → ∃ e ∈ es, Region.binds .any e = true ∧ (e.on = j ∨ Nat.testBit (prev.getD e.on 0) j = true)
  | [], j, h => by simp [ancOf] at h
  | e :: es, j, h => by
    unfold ancOf at h
    cases hb : Region.binds .any e with
    | false =>
      rw [hb] at h
      obtain ⟨e', h1, h2⟩ := ancOf_bit (es := es) h
      exact ⟨e', List.mem_cons_of_mem _ h1, h2⟩
    | true =>
      rw [hb] at h
      simp only [cond_true] at h
      have h : (ancOf prev es ||| (1 <<< e.on) ||| prev.getD e.on 0).testBit j = true := h
      rw [Nat.testBit_or, Nat.testBit_or] at h
      simp only [Bool.or_eq_true] at h
      rcases h with (h | h) | h
      · obtain ⟨e', h1, h2⟩ := ancOf_bit (es := es) h
        exact ⟨e', List.mem_cons_of_mem _ h1, h2⟩
      · refine ⟨e, by simp, hb, .inl ?_⟩
        rw [Nat.testBit_shiftLeft] at h
        simp only [Bool.and_eq_true, decide_eq_true_eq] at h
        obtain ⟨h1, h2⟩ := h
        by_cases h0 : j - e.on = 0
        · omega
        · rw [Nat.testBit_one_eq_true_iff_self_eq_zero] at h2; exact absurd h2 h0
      · exact ⟨e, by simp, hb, .inr h⟩

theorem ancs_prefix : ∀ (os : List Oper) (prev : List Nat), prev <+: ancs prev os ∧ (ancs prev os).length = prev.length + os.length
  | [], prev => ⟨List.prefix_refl _, by simp [ancs]⟩
  | o :: os, prev => by
    obtain ⟨h1, h2⟩ := ancs_prefix os (prev ++ [ancOf prev o.after.toList])
    refine ⟨(List.prefix_append _ _).trans h1, ?_⟩
    simp only [ancs, h2]; simp; omega

theorem ancs_get : ∀ (os : List Oper) (prev : List Nat) (k : Nat) (o : Oper), os[k]? = some o → ∃ pk, pk <+: ancs prev os ∧ (ancs prev os)[prev.length + k]? = some (ancOf pk o.after.toList)
  | [], prev, k, o, h => by simp at h
  | x :: os, prev, 0, o, h => by
    simp at h; subst h
    obtain ⟨h1, _⟩ := ancs_prefix os (prev ++ [ancOf prev x.after.toList])
    refine ⟨prev, (ancs_prefix _ _).1, ?_⟩
    simp only [ancs]
    obtain ⟨r, hr⟩ := h1
    rw [← hr]
    simp
  | x :: os, prev, k + 1, o, h => by
    obtain ⟨pk, h1, h2⟩ := ancs_get os (prev ++ [ancOf prev x.after.toList]) k o (by simpa using h)
    refine ⟨pk, h1, ?_⟩
    simp only [ancs]
    rw [← h2]
    congr 1
    simp; omega

theorem prefix_getD {p l : List Nat} (h : p <+: l) {i j : Nat} (hb : Nat.testBit (p.getD i 0) j = true) : Nat.testBit (l.getD i 0) j = true := by
  obtain ⟨r, rfl⟩ := h
  by_cases hi : i < p.length
  · rw [List.getD_eq_getElem?_getD, List.getElem?_append_left hi, ← List.getD_eq_getElem?_getD]; exact hb
  · rw [List.getD_eq_getElem?_getD, List.getElem?_eq_none (by omega)] at hb
    simp at hb

theorem anc_edge {os : List Oper} {i j : Nat} (h : Nat.testBit ((ancs [] os).getD i 0) j = true) : ∃ o, os[i]? = some o ∧ ∃ e ∈ o.after.toList, Region.binds .any e = true ∧ (e.on = j ∨ Nat.testBit ((ancs [] os).getD e.on 0) j = true) := by
  cases ho : os[i]? with
  | none =>
    have : os.length ≤ i := by simpa using ho
    have hl := (ancs_prefix os []).2
    rw [List.getD_eq_getElem?_getD, List.getElem?_eq_none (by simp at hl; omega)] at h
    simp at h
  | some o =>
    obtain ⟨pk, h1, h2⟩ := ancs_get os [] i o ho
    rw [List.length_nil, Nat.zero_add] at h2
    rw [List.getD_eq_getElem?_getD, h2] at h
    simp only [Option.getD_some] at h
    obtain ⟨e, h3, h4, h5⟩ := ancOf_bit h
    exact ⟨o, rfl, e, h3, h4, h5.imp id (prefix_getD h1)⟩

theorem backward_get : ∀ {os : List Oper} {k : Nat}, backward k os = true → ∀ (i : Nat) (o : Oper), os[i]? = some o → ∀ e ∈ o.after.toList, Region.binds .any e = true → e.on < k + i
  | [], k, _, i, o, h, _, _, _ => by simp at h
  | x :: os, k, hb, i, o, h, e, he, hbi => by
    simp only [backward, Bool.and_eq_true, List.all_eq_true, Bool.or_eq_true, Bool.not_eq_true', Nat.blt_eq] at hb
    cases i with
    | zero =>
      simp at h; subst h
      rcases hb.1 e he with h1 | h1
      · rw [hbi] at h1; cases h1
      · exact h1
    | succ i =>
      have := backward_get hb.2 i o (by simpa using h) e he hbi
      omega

theorem freePairs_get {A : List Nat} {aops : List AOpr} : ∀ {ys : List AOpr} {k : Nat}, freePairs A aops k ys = true → ∀ (i : Nat) (y : AOpr), ys[i]? = some y → ∀ (j : Nat) (x : AOpr), j < k + i → aops[j]? = some x →
    Nat.testBit (A.getD (k + i) 0) j = true ∨ indep x y = true
  | [], k, _, i, y, h, _, _, _, _ => by simp at h
  | z :: ys, k, hf, i, y, h, j, x, hj, hx => by
    simp only [freePairs, Bool.and_eq_true, List.all_eq_true] at hf
    cases i with
    | zero =>
      simp at h; subst h
      have := hf.1 (x, j) (by
        rw [List.mem_zipIdx_iff_getElem?]
        simp only [Nat.add_zero] at hj
        rw [List.getElem?_take, if_pos hj]; exact hx)
      simpa [Bool.or_eq_true] using this
    | succ i =>
      have := freePairs_get hf.2 i y (by simpa using h) j x (by omega) hx
      rw [show k + (i + 1) = k + 1 + i by omega]; exact this

def Closed (ops : Array Oper) (listed : Array Bool) : Prop :=
  ∀ (i : Nat) (o : Oper), listed.getD i false = true → ops[i]? = some o → ∀ e ∈ o.after, Region.binds .any e = true → listed.getD e.on false = true

theorem anc_listed {listed : Array Bool} (hc : Closed ops listed) (hb : backward 0 ops.toList = true) : ∀ (i : Nat), (∀ o, ops[i]? = some o → ∀ e ∈ o.after, Region.binds .any e = true → listed.getD e.on false = true) →
    ∀ j, Nat.testBit ((ancs [] ops.toList).getD i 0) j = true → listed.getD j false = true := by
  intro i
  induction i using Nat.strongRecOn with
  | _ i ih =>
    intro h j hj
    obtain ⟨o, ho, e, he, hbi, hor⟩ := anc_edge hj
    have ho' : ops[i]? = some o := by rw [← Array.getElem?_toList]; exact ho
    have hl := h o ho' e (by simpa using he) hbi
    rcases hor with rfl | hor
    · exact hl
    · have hlt := backward_get hb i o ho e he hbi
      exact ih e.on (by omega) (fun o' ho2 => hc e.on o' hl ho2) j hor

def rem (ops : Array Oper) (listed : Array Bool) : List Nat := (List.range ops.size).filter fun i => !listed.getD i true

theorem mem_rem {listed : Array Bool} {i : Nat} : i ∈ rem ops listed ↔ i < ops.size ∧ listed.getD i true = false := by
  simp [rem]

theorem rem_split {listed : Array Bool} (hs : listed.size = ops.size) {i : Nat} (hi : i ∈ rem ops listed) :
    ∃ pre post, rem ops listed = pre ++ i :: post ∧ rem ops (listed.setIfInBounds i true) = pre ++ post ∧ ∀ j ∈ pre, j < i ∧ listed.getD j true = false := by
  obtain ⟨h1, h2⟩ := mem_rem.1 hi
  have hr : List.range ops.size = List.range' 0 i ++ i :: List.range' (i + 1) (ops.size - i - 1) := by
    rw [List.range_eq_range', ← List.range'_succ]
    rw [show ops.size - i - 1 + 1 = ops.size - i by omega]
    have := @List.range'_append_1 0 i (ops.size - i)
    rw [Nat.zero_add] at this
    rw [this]; congr 1; omega
  refine ⟨(List.range' 0 i).filter fun j => !listed.getD j true, (List.range' (i + 1) (ops.size - i - 1)).filter fun j => !listed.getD j true, ?_, ?_, fun j hj => ?_⟩
  · unfold rem
    rw [hr, List.filter_append, List.filter_cons, h2]
    simp
  · unfold rem
    rw [hr, List.filter_append, List.filter_cons]
    have h3 : (listed.setIfInBounds i true).getD i true = true := by
      simp [Array.getD_eq_getD_getElem?, hs, h1]
    rw [h3]
    simp only [Bool.not_true, Bool.false_eq_true, if_false]
    congr 1
    · refine List.filter_congr fun j hj => ?_
      rw [getD_set_ne true (by simp at hj; omega)]
    · refine List.filter_congr fun j hj => ?_
      rw [getD_set_ne true (by simp at hj; omega)]
  · simp at hj
    exact ⟨hj.1, by simpa using hj.2⟩

theorem rem_ready {listed : Array Bool} (hs : listed.size = ops.size) (hb : backward 0 ops.toList = true) (h : Region.ready .any ops listed = []) : rem ops listed = [] := by
  cases hr : rem ops listed with
  | nil => rfl
  | cons i r =>
    have hi : i ∈ rem ops listed := by rw [hr]; simp
    obtain ⟨pre, post, e1, _, e3⟩ := rem_split hs hi
    have hpre : pre = [] := by
      cases pre with
      | nil => rfl
      | cons j p =>
        rw [hr] at e1
        simp only [List.cons_append, List.cons.injEq] at e1
        have := (e3 j (by simp)).1
        omega
    subst hpre
    obtain ⟨h1, h2⟩ := mem_rem.1 hi
    have : i ∈ Region.ready .any ops listed := by
      rw [mem_ready]
      refine ⟨h2, ops[i], by simp [h1], fun e he hbi => ?_⟩
      have hlt := backward_get hb i ops[i] (by simp [h1]) e (by simpa using he) hbi
      rw [Nat.zero_add] at hlt
      have hnot : e.on ∉ rem ops listed := by
        rw [hr]
        intro hm
        -- the first of a sorted row
        rw [hr] at e1
        simp only [List.nil_append, List.cons.injEq, true_and] at e1
        have : e.on ∈ rem ops listed := by rw [hr]; exact hm
        obtain ⟨pre2, post2, f1, _, f3⟩ := rem_split hs this
        cases pre2 with
        | nil => rw [hr] at f1; simp at f1; omega
        | cons q p2 =>
          rw [hr] at f1
          simp only [List.cons_append, List.cons.injEq] at f1
          have := (f3 q (by simp)).1
          omega
      rw [mem_rem] at hnot
      have hsz : e.on < listed.size := by omega
      have : listed.getD e.on true = true := by
        cases hv : listed.getD e.on true with
        | true => rfl
        | false => exact absurd ⟨by omega, hv⟩ hnot
      simpa [Array.getD_eq_getD_getElem?, hsz] using this
    rw [h] at this; cases this

theorem closed_set {listed : Array Bool} (hc : Closed ops listed) {i : Nat} (hi : i ∈ Region.ready .any ops listed) : Closed ops (listed.setIfInBounds i true) := by
  intro k o hk ho e he hbi
  refine getD_set_true ?_
  by_cases hki : k = i
  · subst hki
    obtain ⟨_, o', ho', hall⟩ := mem_ready.1 hi
    rw [ho] at ho'; cases ho'
    exact hall e he hbi
  · rw [getD_set_ne false (fun h => hki h.symm)] at hk
    exact hc k o hk ho e he hbi

/-- In any order that the edges allow. -/
theorem reg_any (HC : CallOK P gl C) {aops : List AOpr} (hok : okOpers P N ops.toList ops.toList aops = true) (hdr : okDraw ops.toList aops = true) : ∀ (fuel : Nat) {listed : Array Bool} {g : Gh} {s : St} {a : Act} {w : World},
    (rem ops listed).length = fuel → listed.size = ops.size → Closed ops listed → ∀ {s' : St}, stepsO gl C true ((rem ops listed).map fun i => aops.getD i { dst := none, op := .bad }) s = some s' →
    Rel gl g d s a.tmps w → N ≤ a.tmps.size → RegEnd gl g d s' a w Q → wpAny P .any ops Q fuel listed a w := by
  simp only [okDraw, Bool.and_eq_true] at hdr
  obtain ⟨hb, hfp⟩ := hdr
  obtain ⟨hlen, hall⟩ := okOpers_get hok
  intro fuel
  induction fuel with
  | zero =>
    intro listed g s a w hf hs hc s' he R hN hend
    have hr : rem ops listed = [] := List.length_eq_zero_iff.1 hf
    rw [hr] at he
    simp only [List.map_nil, stepsO, Option.some.injEq] at he; subst he
    refine ⟨?_, hend g a w R (.refl _ _) rfl rfl⟩
    cases hrd : Region.ready .any ops listed with
    | nil => rfl
    | cons i r =>
      have : i ∈ Region.ready .any ops listed := by rw [hrd]; simp
      obtain ⟨h1, o, ho, _⟩ := mem_ready.1 this
      have : i ∈ rem ops listed := mem_rem.2 ⟨(Array.getElem?_eq_some_iff.1 ho).1, h1⟩
      rw [hr] at this; cases this
  | succ fuel ih =>
    intro listed g s a w hf hs hc s' he R hN hend
    refine ⟨fun h => ?_, fun i hi => ?_⟩
    · have := rem_ready hs hb h
      rw [this] at hf; simp at hf
    · obtain ⟨h1, o, ho, hedge⟩ := mem_ready.1 hi
      have hilt : i < ops.size := (Array.getElem?_eq_some_iff.1 ho).1
      have hrem : i ∈ rem ops listed := mem_rem.2 ⟨hilt, h1⟩
      obtain ⟨pre, post, e1, e2, e3⟩ := rem_split hs hrem
      have hial : i < aops.length := by simp at hlen; omega
      rw [e1, List.map_append, List.map_cons] at he
      have hgi : aops.getD i { dst := none, op := .bad } = aops[i] := by simp [List.getD_eq_getElem?_getD, hial]
      rw [hgi] at he
      obtain ⟨s1, k1, k2⟩ := steps_front (fun x hx => by
        obtain ⟨j, hj, rfl⟩ := List.mem_map.1 hx
        obtain ⟨hji, hjl⟩ := e3 j hj
        have hjal : j < aops.length := by omega
        have hgj : aops.getD j { dst := none, op := .bad } = aops[j] := by simp [List.getD_eq_getElem?_getD, hjal]
        rw [hgj]
        rcases freePairs_get hfp i aops[i] (by simp [hial]) j aops[j] (by omega) (by simp [hjal]) with h | h
        · rw [Nat.zero_add] at h
          have hl := anc_listed hc hb i (fun o' ho' => by rw [ho] at ho'; cases ho'; exact hedge) j h
          have hjs : j < listed.size := by omega
          rw [Array.getD_eq_getD_getElem?] at hl hjl
          simp [hjs] at hl hjl
          rw [hl] at hjl; cases hjl
        · exact h) he
      refine op_wp HC ho (hall i o aops[i] (by rw [Array.getElem?_toList]; exact ho) (by simp [hial])) R hN k1 fun g' v w' R' S' => ?_
      rw [← put_tmps] at R'
      rw [← List.map_append, ← e2] at k2
      refine ih ?_ (by simpa using hs) (closed_set hc hi) k2 R' (by rw [put_tmps, putT_size]; exact hN) (hend.next S')
      rw [e2]
      rw [e1] at hf
      simp at hf ⊢
      omega
end
end Go.Vs

namespace Go.Vs
open Go
set_option linter.unusedSimpArgs false
set_option linter.unusedVariables false

/-- A step of a frame at level d that may drop boxes of its own. -/
structure StepL (d : Nat) (g : Gh) (w : World) (g' : Gh) (w' : World) : Prop where
  ext : Ext g w g' w'
  size : w.heap.size ≤ w'.heap.size
  rest : ∀ b, b < w.heap.size → g.ob b = none → g'.ob b = none ∧ g'.imm b = g.imm b ∧ w'.heap[b]? = w.heap[b]?
  os : w'.os = w.os
  tape : w'.tape = w.tape
  output : w'.output = w.output
  loc : ∀ l n b, l < d → g.loc l n = some b → g'.loc l n = some b

theorem Step.toL {d : Nat} {g : Gh} {w : World} {g' : Gh} {w' : World} (h : Step g w g' w') : StepL d g w g' w' :=
  ⟨h.ext, h.size, h.rest, h.os, h.tape, h.output, fun l n b _ hb => h.loc l n b hb⟩

theorem StepL.refl (d : Nat) (g : Gh) (w : World) : StepL d g w g w := (Step.refl g w).toL

theorem StepL.trans {d : Nat} {g : Gh} {w : World} {g' : Gh} {w' : World} {g'' : Gh} {w'' : World} (h : StepL d g w g' w') (k : StepL d g' w' g'' w'') : StepL d g w g'' w'' :=
  ⟨h.ext.trans k.ext, Nat.le_trans h.size k.size, fun b hb ho => by
    obtain ⟨h1, h2, h3⟩ := h.rest b hb ho
    obtain ⟨k1, k2, k3⟩ := k.rest b (Nat.lt_of_lt_of_le hb h.size) h1
    exact ⟨k1, k2.trans h2, k3.trans h3⟩, k.os.trans h.os, k.tape.trans h.tape, k.output.trans h.output, fun l n b hl hb => k.loc l n b hl (h.loc l n b hl hb)⟩

theorem RBox.keep2 {g : Gh} {w : World} {g' : Gh} {w' : World} (e : Ext g w g' w') {l n : Nat} {x : Box}
    (hob : ∀ b, g.loc l n = some b → g.ob b = some (.box l n)) (hk : Keep g w g' w' (.box l n)) (hc : ∀ i, Keep g w g' w' (.cell l n i))
    (hown : ∀ b, g.loc l n = some b → g'.loc l n = some b) (hl : ∀ cs, x = .cells cs → ∀ a ∈ cs, ∀ r ∈ a.refs, ∀ b, g.at l r b → g'.at l r b) (h : RBox g w l n x) : RBox g' w' l n x := by
  cases x with
  | cells cs =>
    obtain ⟨b, c, elem, h1, h2, h3, h4, h5⟩ := h
    obtain ⟨_, k2, k3⟩ := hk b (hob b h1)
    exact ⟨b, c, elem, hown _ h1, k2.trans h2, k3.trans h3, h4, fun i a ha => ⟨(h5 i a ha).1, (h5 i a ha).2.keep e (hc i) (hl cs rfl a (List.mem_of_getElem? ha))⟩⟩
  | arr fz sz es =>
    obtain ⟨b, c, elem, h1, h3, h4, h5, h6, h7⟩ := h
    obtain ⟨_, k2, k3⟩ := hk b (hob b h1)
    exact ⟨b, c, elem, hown _ h1, k3.trans h3, h4, h5.ext e, fun hf => k2.trans (h6 hf), fun hf => k2.trans (h7 hf)⟩

theorem ofList_map {e : Env} : ∀ {l : List Nat} (m : Nat), ofList (l.map fun n => (n, e n)) m = if m ∈ l then e m else .undef
  | [], m => by simp [ofList]
  | n :: l, m => by
    simp only [List.map_cons, ofList]
    by_cases h : m = n
    · subst h; simp
    · have : Nat.beq m n = false := by rw [← Bool.not_eq_true, Nat.beq_eq]; exact h
      rw [this]
      simp only [cond_false, ofList_map m, List.mem_cons, h, false_or]

theorem ofListB_map {e : Boxes} : ∀ {l : List Nat} (m : Nat), ofListB (l.map fun n => (n, e n)) m = if m ∈ l then e m else none
  | [], m => by simp [ofListB]
  | n :: l, m => by
    simp only [List.map_cons, ofListB]
    by_cases h : m = n
    · subst h; simp
    · have : Nat.beq m n = false := by rw [← Bool.not_eq_true, Nat.beq_eq]; exact h
      rw [this]
      simp only [cond_false, ofListB_map m, List.mem_cons, h, false_or]

/-- The ghost behind a loop's head: the boxes that are not listed are nobody's. -/
def Gh.drop (g : Gh) (d : Nat) (keepB : List Nat) : Gh where
  imm := g.imm
  loc := fun l n => if l = d ∧ n ∉ keepB then none else g.loc l n
  ob := fun b => match g.ob b with
    | some (.box l n) => if l = d ∧ n ∉ keepB then none else some (.box l n)
    | some (.cell l n i) => if l = d ∧ n ∉ keepB then none else some (.cell l n i)
    | k => k

section
variable {P : Program} {gl : Globs} {g : Gh} {d N : Nat} {s : St} {a : Act} {w : World} {o : Oper} {draw : Bool} {e : Eff} {C : Callee} {tmps : Array Value}
  {ops : Array Oper} {Q : Exit → Act → World → Prop}

theorem drop_ext (keepB : List Nat) : Ext g w (g.drop d keepB) w := ⟨fun _ => Nat.le_refl _, fun _ _ _ => rfl⟩

theorem drop_keep {keepB : List Nat} {κ : Key} (h : ∀ n, n ∉ keepB → κ ≠ .box d n ∧ ∀ i, κ ≠ .cell d n i) : Keep g w (g.drop d keepB) w κ := fun b hb => by
  refine ⟨?_, rfl, rfl⟩
  simp only [Gh.drop, hb]
  cases κ with
  | slot => rfl
  | ret => rfl
  | box l n =>
    simp only
    rw [if_neg]
    rintro ⟨rfl, hn⟩
    exact (h n hn).1 rfl
  | cell l n i =>
    simp only
    rw [if_neg]
    rintro ⟨rfl, hn⟩
    exact (h n hn).2 i rfl

theorem drop_loc {keepB : List Nat} {l n : Nat} (h : l = d → n ∈ keepB) : (g.drop d keepB).loc l n = g.loc l n := by
  show (if l = d ∧ n ∉ keepB then none else g.loc l n) = _
  rw [if_neg]
  rintro ⟨h1, h2⟩
  exact h2 (h h1)

theorem kept_at {keepB : List Nat} {r : Ref} (hl : r.keptBy keepB = true) {b : Nat} (h : g.at d r b) : (g.drop d keepB).at d r b := by
  refine ⟨?_, h.2⟩
  rw [drop_loc]
  · exact h.1
  · cases r with
    | loc n => intro _; show n ∈ keepB; simpa [Ref.keptBy] using hl
    | glb l n => intro e; have h2 : l < d := h.2; have e : l = d := e; omega

theorem project_ok (R : Rel gl g d s tmps w) {keep keepB : List Nat} {s1 : St} (h : project keep keepB s = some s1) :
    Rel gl (g.drop d keepB) d s1 tmps w ∧ StepL d g w (g.drop d keepB) w := by
  unfold project at h
  split at h
  · rename_i hc
    simp only [Bool.and_eq_true, List.all_eq_true] at hc
    obtain ⟨hk, hb⟩ := hc
    simp only [Option.some.injEq] at h; subst h
    have hbx : ∀ n, ofListB (keepB.map fun n => (n, s.bx n)) n = if n ∈ keepB then s.bx n else none := ofListB_map
    refine ⟨?_, drop_ext _, Nat.le_refl _, fun b hb' hn => ⟨by simp only [Gh.drop, hn], rfl, rfl⟩, rfl, rfl, rfl, fun l n b hl hb' => by rw [drop_loc (fun e => absurd e (by omega))]; exact hb'⟩
    refine { slots := fun n => ?_, boxes := fun n b h => ?_, dead := fun n h => ?_, excl := fun _ _ _ => rfl, outer := fun l n b h => ?_, deadO := fun l n hl h => ?_, lvl := R.lvl, fresh := fun b hb' => ?_, locs := fun l n b h => ?_, globs := fun k => (R.globs k).ext (drop_ext keepB) }
    · show RV (g.drop d keepB) w d n (ofList (keep.map fun n => (n, s.env n)) n) _
      rw [ofList_map]
      by_cases hn : n ∈ keep
      · rw [if_pos hn]
        have hkn := hk n hn
        have hsl := R.slots n
        have hnt : ∀ vs, s.env n ≠ .tup vs := by intro vs e0; rw [e0] at hkn; simp [AV.keptBy] at hkn
        have hrefs : ∀ r ∈ (s.env n).refs, r.keptBy keepB = true := by
          have : (s.env n).keptBy keepB = ((s.env n).refs.all (Ref.keptBy keepB)) := by
            generalize s.env n = A at *
            cases A <;> first | rfl | exact absurd rfl (hnt _)
          rw [this, List.all_eq_true] at hkn
          exact hkn
        have h1 := hsl.rv1 hnt
        have h2 : RV1 (g.drop d keepB) w d (.slot d n 0) (s.env n) (tmps.getD n undef) := h1.keep (drop_ext keepB) (drop_keep (by simp)) (fun r hr b hb' => kept_at (hrefs r hr) hb')
        generalize s.env n = A at *
        cases A <;> first | exact h2 | exact absurd rfl (hnt _)
      · rw [if_neg hn]; trivial
    · have h : mergeB (ofListB (keepB.map fun n => (n, s.bx n))) (fun _ => none) n = some b := h
      simp only [mergeB, hbx] at h
      split at h
      · rename_i hn
        obtain ⟨hnb, hkb⟩ : (s.nb n).isNone = true ∧ Box.keptBy keepB (s.bx n) = true := by simpa using hb n hn
        have hnb : s.nb n = none := by simpa using hnb
        have hm : mergeB s.bx s.nb n = some b := by simp [mergeB, hnb, h]
        refine (R.boxes n b hm).keep2 (drop_ext keepB) (fun b hb' => (R.locs _ _ _ hb').1) (drop_keep fun m hm => ⟨?_, by simp⟩) (fun i => drop_keep fun m hm => ⟨by simp, ?_⟩) (fun b' hb' => by rw [drop_loc (fun _ => hn)]; exact hb') (fun cs hcs a ha r hr b' hb' => ?_)
        · rintro e0; simp only [Key.box.injEq, true_and] at e0; subst e0; exact hm hn
        · rintro j e0; simp only [Key.cell.injEq, true_and] at e0; exact hm (e0.1 ▸ hn)
        · subst hcs
          rw [h] at hkb
          simp only [Box.keptBy, List.all_eq_true] at hkb
          have hka := hkb a ha
          have hnt : ∀ vs, a ≠ .tup vs := by rintro vs rfl; simp [AV.keptBy] at hka
          have : a.keptBy keepB = (a.refs.all (Ref.keptBy keepB)) := by cases a <;> first | rfl | exact absurd rfl (hnt _)
          rw [this, List.all_eq_true] at hka
          exact kept_at (hka r hr) hb'
      · cases h
    · have h : mergeB (ofListB (keepB.map fun n => (n, s.bx n))) (fun _ => none) n = none := h
      simp only [mergeB, hbx] at h
      by_cases hn : n ∈ keepB
      · rw [if_pos hn] at h
        obtain ⟨hnb, hkb⟩ : (s.nb n).isNone = true ∧ Box.keptBy keepB (s.bx n) = true := by simpa using hb n hn
        have hnb : s.nb n = none := by simpa using hnb
        rw [drop_loc (fun _ => hn)]
        exact R.dead n (by simp [mergeB, hnb, h])
      · show (if d = d ∧ n ∉ keepB then none else g.loc d n) = none
        rw [if_pos ⟨rfl, hn⟩]
    · have h : stkGet s.stk l n = some b := h
      have hlt := stkGet_lt h
      rw [R.lvl] at hlt
      refine (R.outer l n b h).keep2 (drop_ext keepB) (fun b hb' => (R.locs _ _ _ hb').1) (drop_keep fun m hm => ⟨?_, by simp⟩) (fun i => drop_keep fun m hm => ⟨by simp, ?_⟩) (fun b' hb' => by rw [drop_loc (fun e => absurd e (by omega))]; exact hb') (fun cs hcs a ha r hr b' hb' => ?_)
      · rintro e0; simp only [Key.box.injEq] at e0; omega
      · rintro j e0; simp only [Key.cell.injEq] at e0; omega
      · refine ⟨?_, hb'.2⟩
        rw [drop_loc]
        · exact hb'.1
        · intro e0
          cases r with
          | loc k => have : l = d := e0; omega
          | glb k m => have : k = d := e0; have h2 : k < l := hb'.2; omega
    · have h : stkGet s.stk l n = none := h
      rw [drop_loc (fun e => absurd e (by omega))]
      exact R.deadO l n hl h
    · obtain ⟨e1, e2⟩ := R.fresh b hb'
      exact ⟨by simp only [Gh.drop, e1], e2⟩
    · have h : (if l = d ∧ n ∉ keepB then none else g.loc l n) = some b := h
      split at h
      · cases h
      · rename_i hnd
        obtain ⟨e1, e2⟩ := R.locs l n b h
        refine ⟨?_, e2⟩
        simp only [Gh.drop, e1]
        rw [if_neg hnd]
  · cases h

def AExit.ex : AExit → Exit
  | .normal => .normal
  | .exit id => .exit id
  | .ret => .ret

/-- Where a piece of code may go on. -/
def CodeEnd (gl : Globs) (g : Gh) (d : Nat) (x : AExit) (s' : St) (a : Act) (w : World) (Q : Exit → Act → World → Prop) : Prop :=
  ∀ g' a' w', Rel gl g' d s' a'.tmps w' → StepL d g w g' w' → a'.defers = a.defers → a'.tmps.size = a.tmps.size → Q x.ex a' w'

theorem CodeEnd.from {x : AExit} {s' : St} {g1 : Gh} {a1 : Act} {w1 : World} (h : CodeEnd gl g d x s' a w Q) (S : StepL d g w g1 w1) (hd : a1.defers = a.defers) (hs : a1.tmps.size = a.tmps.size) :
    CodeEnd gl g1 d x s' a1 w1 Q :=
  fun g2 a2 w2 R2 S2 e1 e2 => h g2 a2 w2 R2 (S.trans S2) (e1.trans hd) (e2.trans hs)

def okCode (P : Program) (N : Nat) : Code → AC → Bool
  | .skip, .skip => true
  | .region _ ops dr, .reg dr' aops => (dr == dr') && okOpers P N ops.toList ops.toList aops && (bif dr then okDraw ops.toList aops else true)
  | .seq a b, .seq x y => okCode P N a x && okCode P N b y
  | .cond c t e, .cond x y z => okOpd N c x && okCode P N t y && okCode P N e z
  | .block id b, .block id' b' => Nat.beq id id' && okCode P N b b'
  | .loop b, .loop _ _ b' => okCode P N b b'
  | .exit id, .exit id' => Nat.beq id id'
  | .ret, .ret => true
  | _, .bad => true
  | _, _ => false

theorem Rel.merge (R : Rel gl g d s tmps w) : Rel gl g d { s with bx := mergeB s.bx s.nb, nb := fun _ => none } tmps w where
  slots := R.slots
  boxes n b h := R.boxes n b (by simpa [mergeB] using h)
  dead n h := R.dead n (by simpa [mergeB] using h)
  excl _ _ _ := rfl
  outer := R.outer
  deadO := R.deadO
  lvl := R.lvl
  fresh := R.fresh
  locs := R.locs
  globs := R.globs

/-- What a piece of code comes to. -/
theorem exec_ok (hm : P.follows .mixedOrders = true) (HC : CallOK P gl C) (n : Nat) : ∀ {ac : AC} {c : Code}, okCode P N c ac = true → ∀ {g : Gh} {s : St} {a : Act} {w : World} {x : AExit} {s' : St}, execC gl C (loopN n) ac s = some (x, s') →
    Rel gl g d s a.tmps w → N ≤ a.tmps.size → ∀ {Q : Exit → Act → World → Prop}, CodeEnd gl g d x s' a w Q → c.wp P Q a w
  | .skip, c, hok, g, s, a, w, x, s', he, R, hN, Q, hend => by
    cases c <;> simp only [okCode, Bool.false_eq_true] at hok
    simp only [execC, Option.some.injEq, Prod.mk.injEq] at he
    obtain ⟨rfl, rfl⟩ := he
    exact wp_skip (hend g a w R (.refl _ _ _) rfl rfl)
  | .exit id, c, hok, g, s, a, w, x, s', he, R, hN, Q, hend => by
    cases c <;> simp only [okCode, Bool.false_eq_true, Nat.beq_eq] at hok
    simp only [execC, Option.some.injEq, Prod.mk.injEq] at he
    obtain ⟨rfl, rfl⟩ := he
    subst hok
    exact wp_exit (hend g a w R (.refl _ _ _) rfl rfl)
  | .ret, c, hok, g, s, a, w, x, s', he, R, hN, Q, hend => by
    cases c <;> simp only [okCode, Bool.false_eq_true] at hok
    simp only [execC, Option.some.injEq, Prod.mk.injEq] at he
    obtain ⟨rfl, rfl⟩ := he
    exact wp_ret (hend g a w R (.refl _ _ _) rfl rfl)
  | .bad, c, hok, g, s, a, w, x, s', he, R, hN, Q, hend => by simp [execC] at he
  | .reg dr aops, c, hok, g, s, a, w, x, s', he, R, hN, Q, hend => by
    cases c <;> simp only [okCode, Bool.false_eq_true, Bool.and_eq_true, beq_iff_eq] at hok
    rename_i id ops dr'
    obtain ⟨⟨rfl, hop⟩, hdr⟩ := hok
    simp only [execC] at he
    split at he
    · cases he
    · rename_i s1 h1
      simp only [Option.some.injEq, Prod.mk.injEq] at he
      obtain ⟨rfl, he⟩ := he
      cases dr' with
      | false =>
        simp only [Bool.false_eq_true, if_false] at he; subst he
        refine wp_region ?_
        rw [List.range_eq_range']
        refine reg_seq HC hop ops.size 0 (by omega) (by simpa using h1) R hN fun g' a' w' R' S' e1 e2 => hend g' a' w' R' S'.toL e1 e2
      | true =>
        simp only [if_true] at he; subst he
        simp only [cond_true] at hdr
        refine wp_region_any hm ?_
        obtain ⟨Rd, Sd⟩ := R.drew
        have hrem : rem ops (Array.replicate ops.size false) = List.range ops.size := by
          unfold rem
          rw [List.filter_eq_self]
          intro i hi
          simp at hi
          simp [Array.getD_eq_getD_getElem?, hi]
        obtain ⟨hlen, _⟩ := okOpers_get hop
        refine reg_any HC hop hdr ops.size (by rw [hrem]; simp) (by simp) (fun i o hi _ _ _ _ => ?_) (s' := s1) ?_ Rd hN fun g' a' w' R' S' e1 e2 => ?_
        · rw [Array.getD_eq_getD_getElem?] at hi
          simp [Array.getElem?_replicate] at hi
          split at hi <;> simp at hi
        · rw [hrem]
          have : (List.range ops.size).map (fun i => aops.getD i { dst := none, op := .bad }) = aops := by
            refine List.ext_getElem? fun i => ?_
            simp only [List.getElem?_map]
            by_cases hi : i < ops.size
            · have hi' : i < aops.length := by simp at hlen; omega
              simp [hi, hi', List.getD_eq_getElem?_getD]
            · have hi' : aops.length ≤ i := by simp at hlen; omega
              simp [hi, hi']
          rw [this]; exact h1
        · exact hend g' a' w' R'.merge (Sd.trans S').toL e1 e2
  | .seq p q, c, hok, g, s, a, w, x, s', he, R, hN, Q, hend => by
    cases c <;> simp only [okCode, Bool.false_eq_true, Bool.and_eq_true] at hok
    rename_i c1 c2
    simp only [execC] at he
    refine wp_seq ?_
    split at he
    · rename_i s1 h1
      refine exec_ok hm HC n hok.1 h1 R hN fun g1 a1 w1 R1 S1 e1 e2 => ?_
      exact exec_ok hm HC n hok.2 he R1 (by omega) (hend.from S1 e1 e2)
    · rename_i hne
      refine exec_ok hm HC n hok.1 he R hN fun g1 a1 w1 R1 S1 e1 e2 => ?_
      cases x with
      | normal => exact absurd he (hne s')
      | exit id => exact hend g1 a1 w1 R1 S1 e1 e2
      | ret => exact hend g1 a1 w1 R1 S1 e1 e2
  | .cond y p q, c, hok, g, s, a, w, x, s', he, R, hN, Q, hend => by
    cases c <;> simp only [okCode, Bool.false_eq_true, Bool.and_eq_true] at hok
    rename_i oc c1 c2
    simp only [execC] at he
    obtain ⟨m, hX⟩ := pk_ok R hok.1.1
    split at he
    · rename_i b hb
      rw [hb] at hX
      refine wp_cond (rv_bool hX) ?_
      cases b with
      | true => exact exec_ok hm HC n hok.1.2 he R hN hend
      | false => exact exec_ok hm HC n hok.2 he R hN hend
    · cases he
  | .block id p, c, hok, g, s, a, w, x, s', he, R, hN, Q, hend => by
    cases c <;> simp only [okCode, Bool.false_eq_true, Bool.and_eq_true, Nat.beq_eq] at hok
    rename_i id' c1
    obtain ⟨rfl, hok⟩ := hok
    simp only [execC] at he
    refine wp_block ?_
    split at he
    · rename_i i s1 h1
      refine exec_ok hm HC n hok h1 R hN fun g1 a1 w1 R1 S1 e1 e2 => ?_
      show (if i = id' then Q .normal a1 w1 else Q (.exit i) a1 w1)
      by_cases hi : i = id'
      · subst hi
        simp only [Nat.beq_refl, cond_true, Option.some.injEq, Prod.mk.injEq] at he
        obtain ⟨rfl, rfl⟩ := he
        rw [if_pos rfl]; exact hend g1 a1 w1 R1 S1 e1 e2
      · have : Nat.beq i id' = false := by rw [← Bool.not_eq_true, Nat.beq_eq]; exact hi
        rw [this] at he
        simp only [cond_false, Option.some.injEq, Prod.mk.injEq] at he
        obtain ⟨rfl, rfl⟩ := he
        rw [if_neg hi]; exact hend g1 a1 w1 R1 S1 e1 e2
    · rename_i hne
      refine exec_ok hm HC n hok he R hN fun g1 a1 w1 R1 S1 e1 e2 => ?_
      cases x with
      | normal => exact hend g1 a1 w1 R1 S1 e1 e2
      | exit id => exact absurd he (hne id s')
      | ret => exact hend g1 a1 w1 R1 S1 e1 e2
  | .loop keep keepB p, c, hok, g, s, a, w, x, s', he, R, hN, Q, hend => by
    cases c <;> simp only [okCode, Bool.false_eq_true] at hok
    rename_i c1
    simp only [execC] at he
    refine wp_loop_rounds n ?_
    have rounds : ∀ (k : Nat) {g : Gh} {s : St} {a : Act} {w : World}, loopN k keep keepB (execC gl C (loopN n) p) s = some (x, s') → Rel gl g d s a.tmps w → N ≤ a.tmps.size → CodeEnd gl g d x s' a w Q → Code.rounds P c1 Q k a w := by
      intro k
      induction k with
      | zero => intro g s a w h; simp [loopN] at h
      | succ k ih =>
        intro g s a w h R hN hend
        simp only [loopN] at h
        split at h
        · cases h
        · rename_i s1 h1
          obtain ⟨R1, S1⟩ := project_ok R h1
          rw [rounds_succ]
          split at h
          · rename_i s2 h2
            refine exec_ok hm HC n hok h2 R1 hN fun g2 a2 w2 R2 S2 e1 e2 => ?_
            exact ih h R2 (by omega) (hend.from (S1.trans S2) e1 e2)
          · rename_i hne
            refine exec_ok hm HC n hok h R1 hN fun g2 a2 w2 R2 S2 e1 e2 => ?_
            cases x with
            | normal => exact absurd h (hne s')
            | exit id => exact hend g2 a2 w2 R2 (S1.trans S2) e1 e2
            | ret => exact hend g2 a2 w2 R2 (S1.trans S2) e1 e2
    exact rounds n he R hN hend
end
end Go.Vs

namespace Go.Vs
open Go
set_option linter.unusedSimpArgs false
set_option linter.unusedVariables false

/-- A function's code is what the evaluator takes it for. -/
def okFunc (P : Program) (fn : Func) (af : AFunc) : Bool :=
  (match fn.body with
    | some c => okCode P fn.ntmps c af.code
    | none => false) && okResL P fn.results.toList af.res && !(fn.name == "runtime.NumGoroutine")

def Gh.out (g : Gh) (d : Nat) : Gh where
  imm := g.imm
  loc := fun l n => if l < d then g.loc l n else none
  ob := fun b => match g.ob b with
    | some κ => if keyOut d κ = true then some κ else none
    | none => none

section
variable {P : Program} {gl : Globs} {g : Gh} {d N : Nat} {s : St} {a : Act} {w : World} {C : Callee} {tmps : Array Value}

theorem out_ext : Ext g w (g.out d) w := ⟨fun _ => Nat.le_refl _, fun _ _ _ => rfl⟩

theorem out_keep {κ : Key} (h : keyOut d κ = true) : Keep g w (g.out d) w κ := fun b hb => ⟨by simp only [Gh.out, hb]; rw [if_pos h], rfl, rfl⟩

theorem out_loc {l n : Nat} (h : l < d) : (g.out d).loc l n = g.loc l n := if_pos h

theorem out_val {i : Nat} {A : AV} {v : Value} (hp : plainV A = true) (h : RV1 g w d (.ret i) A v) : RV1 (g.out d) w d (.ret i) A v :=
  h.keep out_ext (out_keep rfl) fun r hr => by rw [plain_refs hp] at hr; simp at hr

theorem out_of {g0 : Gh} {w0 : World} (R : Rel gl g d s tmps w) (S : StepL d g0 w0 g w) {v : AV} {cv : Value} (h : RVres (g.out d) w d v cv) : Out gl g0 w0 d v s.stk (g.out d) w cv where
  res := h
  outer l n b hb := by
    have hlt := stkGet_lt hb
    rw [R.lvl] at hlt
    refine (R.outer l n b hb).keep2 out_ext (fun b hb' => (R.locs _ _ _ hb').1) (out_keep (by simp [keyOut, Nat.blt_eq, hlt])) (fun i => out_keep (by simp [keyOut, Nat.blt_eq, hlt])) (fun b' hb' => by rw [out_loc hlt]; exact hb') (fun cs hcs a ha r hr b' hb' => ⟨?_, hb'.2⟩)
    rw [out_loc]
    · exact hb'.1
    · cases r with
      | loc k => exact hlt
      | glb k m => have h2 : k < l := hb'.2; show k < d; omega
  deadO l n hl hb := by rw [out_loc hl]; exact R.deadO l n hl hb
  lvl := R.lvl
  ext := ⟨S.ext.imm, S.ext.cell⟩
  size := S.size
  rest b hb hn := by
    obtain ⟨h1, h2, h3⟩ := S.rest b hb hn
    exact ⟨by simp only [Gh.out, h1], h2, h3⟩
  os := S.os
  tape := S.tape
  output := S.output
  loc l n b hl hb := by rw [out_loc hl]; exact S.loc l n b hl hb
  fresh b hb := by
    obtain ⟨e1, e2⟩ := R.fresh b hb
    exact ⟨by simp only [Gh.out, e1], e2⟩
  locs l n b h := by
    have h : (if l < d then g.loc l n else none) = some b := h
    split at h
    · rename_i hl
      refine ⟨?_, hl⟩
      simp only [Gh.out, (R.locs l n b h).1]
      rw [if_pos (by simp [keyOut, Nat.blt_eq, hl])]
    · cases h
  obs b κ h := by
    simp only [Gh.out] at h
    split at h
    · split at h
      · simp only [Option.some.injEq] at h; subst h; assumption
      · cases h
    · cases h

theorem results_run {fn : Func} {vs : List Value} (h : (fn.results.toList.mapM (readRes tmps)).run P w = .ok vs w) : (results fn tmps).run P w = .ok (if h : vs.length = 1 then vs[0] else .tuple vs.toArray) w := by
  have e : results fn tmps = fn.results.mapM (readRes tmps) >>= fun vs => pure (if h : vs.size = 1 then vs[0] else .tuple vs) := by
    unfold results
    congr 2
  rw [e]
  rw [Array.mapM_eq_mapM_toList, Sem.run_bind]
  have h2 : (List.toArray <$> fn.results.toList.mapM (readRes tmps)).run P w = .ok vs.toArray w := by
    rw [map_eq_pure_bind, Sem.run_bind, h]; rfl
  rw [h2]
  simp only [Result.andThen_ok, Sem.run_pure]
  simp

theorem finish_ok (R : Rel gl g d s tmps w) {fn : Func} {af : AFunc} (hq : okResL P fn.results.toList af.res = true) {v : AV} {stk' : List Boxes} (h : finish af s = some (v, stk')) {g0 : Gh} {w0 : World} (S0 : StepL d g0 w0 g w) :
    ∃ cv, (results fn tmps).run P w = .ok cv w ∧ ∃ g', Out gl g0 w0 d v stk' g' w cv := by
  unfold finish at h
  have key : ∀ {Bs : List AV} {s' : St}, resultsL af.keepOwn s af.res = some (Bs, s') → ∃ g' vs, (fn.results.toList.mapM (readRes tmps)).run P w = .ok vs w ∧ vs.length = Bs.length ∧ Rel gl g' d s' tmps w ∧ StepL d g0 w0 g' w ∧
      ∀ (j : Nat) (B : AV), Bs[j]? = some B → RV1 (g'.out d) w d (.ret j) B (vs.getD j undef) ∧ plainV B = true := by
    intro Bs s' hr
    obtain ⟨g', vs, e1, e2, e3, e4, e5, _⟩ := resultsL_ok hq R hr 0
    refine ⟨g', vs, e1, e2, e3, S0.trans e4.toL, fun j B hB => ?_⟩
    have hp := resultsL_plain hr B (List.mem_of_getElem? hB)
    have := e5 j B hB
    rw [Nat.zero_add] at this
    exact ⟨out_val hp this, hp⟩
  split at h
  · rename_i B s' hr
    simp only [Option.some.injEq, Prod.mk.injEq] at h
    obtain ⟨rfl, rfl⟩ := h
    obtain ⟨g', vs, e1, e2, e3, e4, e5⟩ := key hr
    have hl : vs.length = 1 := e2
    refine ⟨_, results_run e1, g'.out d, out_of e3 e4 ?_⟩
    rw [dif_pos hl]
    obtain ⟨h1, h2⟩ := e5 0 B rfl
    have hv : vs.getD 0 undef = vs[0] := by simp [List.getD_eq_getElem?_getD, hl]
    rw [hv] at h1
    cases B <;> first | exact ⟨h1, h2⟩ | (simp [plainV] at h2; done)
  · rename_i Bs s' hne hr
    simp only [Option.some.injEq, Prod.mk.injEq] at h
    obtain ⟨rfl, rfl⟩ := h
    obtain ⟨g', vs, e1, e2, e3, e4, e5⟩ := key hr
    have hl : vs.length ≠ 1 := by
      intro h1
      rw [e2] at h1
      obtain ⟨B, rfl⟩ := List.length_eq_one_iff.1 h1
      exact hne B rfl
    refine ⟨_, results_run e1, g'.out d, out_of e3 e4 ?_⟩
    rw [dif_neg hl]
    refine ⟨vs.toArray, rfl, by simp [e2], fun i c hc => ?_⟩
    have : vs.toArray.getD i undef = vs.getD i undef := by simp [Array.getD_eq_getD_getElem?]
    rw [this]
    exact e5 i c hc
  · cases h

/-- A function that the evaluator does not know the code of. -/
def PrimOK (P : Program) (gl : Globs) (f : Nat) (pf : List AV → Option AV) : Prop := CallOK P gl fun f' args stk => bif Nat.beq f' f then (match pf args with
  | some v => some (v, stk)
  | none => none) else none

theorem callN_ok (hm : P.follows .mixedOrders = true) {prog : Prog} {prims : Prims} (hprog : ∀ f af, prog f = some af → ∃ fn, P.funcs[f]? = some fn ∧ okFunc P fn af = true)
    (hprim : ∀ f pf, prims f = some pf → PrimOK P gl f pf) : ∀ n, CallOK P gl (callN gl prog prims n)
  | 0 => by intro f args stk v stk' h; simp [callN] at h
  | n + 1 => by
    intro f args stk v stk' h
    simp only [callN] at h
    split at h
    · rename_i pf hpf
      refine hprim f pf hpf f args stk v stk' ?_
      simp only [Nat.beq_refl, cond_true]
      exact h
    · split at h
      · cases h
      · rename_i af haf
        obtain ⟨fn, hfn, hok⟩ := hprog f af haf
        simp only [okFunc, Bool.and_eq_true, Bool.not_eq_true', beq_eq_false_iff_ne, ne_eq] at hok
        obtain ⟨⟨hbody, hres⟩, hname⟩ := hok
        split at hbody
        · rename_i c hc
          refine ⟨⟨fn, hfn, hname, by simp [hc]⟩, fun g w vs hvs R => ?_⟩
          refine calls_of_wp hfn hc ?_
          have R0 : Rel gl g stk.length (initSt args stk) (vs ++ Array.replicate (fn.ntmps - vs.size) undef) w :=
            R.on (.refl _ _) (fun _ _ _ h => h) (fun k => by
              by_cases hk : k < vs.size
              · exact .inl ⟨rfl, by rw [getD_append, if_pos hk], fun _ => .refl _ _ _⟩
              · right
                have : (initSt args stk).env k = .undef := by
                  show args.getD k .undef = _
                  rw [List.getD_eq_getElem?_getD, List.getElem?_eq_none (by omega)]; rfl
                rw [this]; trivial) (fun k b h => .inl ⟨h, .refl _ _ _, fun _ => .refl _ _ _⟩) R.dead R.excl (fun l k b h => .inl ⟨h, .refl _ _ _, fun _ => .refl _ _ _⟩) R.deadO R.lvl R.fresh R.locs
          have hsize : fn.ntmps ≤ (vs ++ Array.replicate (fn.ntmps - vs.size) undef).size := by simp; omega
          unfold ending at h
          have fin : ∀ {s' : St}, finish af s' = some (v, stk') → ∀ (g' : Gh) (a' : Act) (w' : World), Rel gl g' stk.length s' a'.tmps w' → StepL stk.length g w g' w' → a'.defers = [] →
              a'.defers = [] ∧ ∃ cv, (results fn a'.tmps).run P w' = .ok cv w' ∧ (fun (en : Ending) (w' : World) => ∃ cv g', en = .returned cv ∧ Out gl g w stk.length v stk' g' w' cv) (.returned cv) w' := by
            intro s' hf g' a' w' R' S' hd
            obtain ⟨cv, e1, g2, e2⟩ := finish_ok R' hres hf S'
            exact ⟨hd, cv, e1, cv, g2, rfl, e2⟩
          split at h
          · rename_i s' hex
            refine exec_ok (d := stk.length) hm (callN_ok hm hprog hprim n) n hbody hex R0 hsize fun g' a' w' R' S' hd hs => ?_
            exact fin h g' a' w' R' S' hd
          · rename_i s' hex
            refine exec_ok (d := stk.length) hm (callN_ok hm hprog hprim n) n hbody hex R0 hsize fun g' a' w' R' S' hd hs => ?_
            exact fin h g' a' w' R' S' hd
          · cases h
        · cases hbody
end
end Go.Vs

namespace Go.Vs
open Go
set_option linter.unusedSimpArgs false
set_option linter.unusedVariables false

def LeC (C C' : Callee) : Prop := ∀ f args stk r, C f args stk = some r → C' f args stk = some r

def LeL (L L' : Looper) : Prop := ∀ keep keepB (st st' : St → Option (AExit × St)), (∀ s r, st s = some r → st' s = some r) → ∀ s r, L keep keepB st s = some r → L' keep keepB st' s = some r

section
variable {gl : Globs}

theorem eff_mono {C C' : Callee} {D : Option Nat} {env : Env} {bx nb : Boxes} {stk : List Boxes} {op : AOp} {e : Eff} (hC : LeC C C') (h : eff gl C D env bx nb stk op = some e) : eff gl C' D env bx nb stk op = some e := by
  cases op
  case callP f args arr fz =>
    simp only [eff] at h ⊢
    split at h
    · split at h
      · by_cases hz : (‹Bool› && !fz) = true
        · rw [if_pos hz] at h; cases h
        · rw [if_neg hz] at h ⊢
          split at h
          · rename_i hc
            rw [hC _ _ _ _ hc]
            exact h
          · cases h
      · cases h
    · cases h
  case callS f args =>
    simp only [eff] at h ⊢
    split at h
    · split at h
      · split at h
        · rename_i hnt _ _ _ hc
          rw [hC _ _ _ _ hc]
          rw [if_pos (by assumption)]
          exact h
        · cases h
      · cases h
    · cases h
  all_goals exact h

theorem effG_mono {C C' : Callee} {o : AOpr} {env : Env} {bx nb : Boxes} {stk : List Boxes} {e : Eff} (hC : LeC C C') (h : effG gl C o env bx nb stk = some e) : effG gl C' o env bx nb stk = some e := by
  unfold effG at h ⊢
  cases hg : o.guard with
  | none => rw [hg] at h; exact eff_mono hC h
  | some p =>
    obtain ⟨g, want⟩ := p
    rw [hg] at h
    simp only at h ⊢
    split at h
    · rename_i b hb
      cases hbw : (b == want) <;> rw [hbw] at h
      · exact h
      · exact eff_mono hC h
    · exact h
    · cases h

theorem stepO_mono {C C' : Callee} {dr : Bool} {o : AOpr} {s s' : St} (hC : LeC C C') (h : stepO gl C dr o s = some s') : stepO gl C' dr o s = some s' := by
  unfold stepO at h ⊢
  split at h
  · rename_i e he
    rw [effG_mono hC he]; exact h
  · cases h

theorem stepsO_mono {C C' : Callee} {dr : Bool} (hC : LeC C C') : ∀ {l : List AOpr} {s s' : St}, stepsO gl C dr l s = some s' → stepsO gl C' dr l s = some s'
  | [], s, s', h => h
  | o :: l, s, s', h => by
    simp only [stepsO] at h ⊢
    split at h
    · cases h
    · rename_i s1 h1
      rw [stepO_mono hC h1]
      exact stepsO_mono hC h

theorem execC_mono {C C' : Callee} {L L' : Looper} (hC : LeC C C') (hL : LeL L L') : ∀ {ac : AC} {s : St} {r : AExit × St}, execC gl C L ac s = some r → execC gl C' L' ac s = some r
  | .skip, s, r, h => h
  | .exit _, s, r, h => h
  | .ret, s, r, h => h
  | .bad, s, r, h => h
  | .reg dr ops, s, r, h => by
    simp only [execC] at h ⊢
    split at h
    · cases h
    · rename_i s1 h1
      rw [stepsO_mono hC h1]; exact h
  | .seq a b, s, r, h => by
    simp only [execC] at h ⊢
    split at h
    · rename_i s1 h1
      rw [execC_mono hC hL h1]
      exact execC_mono hC hL h
    · rename_i hne
      rw [execC_mono hC hL h]
      obtain ⟨x, s1⟩ := r
      cases x with
      | normal => exact absurd h (hne s1)
      | exit => rfl
      | ret => rfl
  | .cond c t e, s, r, h => by
    simp only [execC] at h ⊢
    split at h
    · rename_i b hb
      cases b with
      | true => exact execC_mono hC hL h
      | false => exact execC_mono hC hL h
    · cases h
  | .block id b, s, r, h => by
    simp only [execC] at h ⊢
    split at h
    · rename_i i s1 h1
      rw [execC_mono hC hL h1]; exact h
    · rename_i hne
      rw [execC_mono hC hL h]
      obtain ⟨x, s1⟩ := r
      cases x with
      | exit i => exact absurd h (hne i s1)
      | normal => rfl
      | ret => rfl
  | .loop keep keepB b, s, r, h => by
    simp only [execC] at h ⊢
    exact hL keep keepB _ _ (fun s r hr => execC_mono hC hL hr) s r h

theorem loopN_le : ∀ {n m : Nat}, n ≤ m → LeL (loopN n) (loopN m)
  | 0, m, _ => fun keep keepB st st' hst s r h => by simp [loopN] at h
  | n + 1, 0, hm => absurd hm (by omega)
  | n + 1, m + 1, hm => fun keep keepB st st' hst s r h => by
    simp only [loopN] at h ⊢
    split at h
    · cases h
    · rename_i s1 h1
      split at h
      · rename_i s2 h2
        rw [hst _ _ h2]
        exact loopN_le (by omega : n ≤ m) keep keepB st st' hst s2 r h
      · rename_i hne
        rw [hst _ _ h]
        obtain ⟨x, s2⟩ := r
        cases x with
        | normal => exact absurd h (hne s2)
        | exit => rfl
        | ret => rfl

theorem loopN_succ (k : Nat) (keep keepB : List Nat) (st : St → Option (AExit × St)) (s : St) : loopN (k + 1) keep keepB st s = (match project keep keepB s with
  | none => none
  | some s1 => match st s1 with
    | some (.normal, s') => loopN k keep keepB st s'
    | r => r) := rfl

variable {prog : Prog} {prims : Prims}

theorem callN_le : ∀ {n m : Nat}, n ≤ m → LeC (callN gl prog prims n) (callN gl prog prims m)
  | 0, m, _ => fun f args stk r h => by simp [callN] at h
  | n + 1, 0, hm => absurd hm (by omega)
  | n + 1, m + 1, hm => fun f args stk r h => by
    simp only [callN] at h ⊢
    split at h
    · rename_i g hg; exact h
    · split at h
      · cases h
      · rename_i af haf
        unfold ending at h ⊢
        split at h
        · rename_i s' he
          rw [execC_mono (callN_le (by omega : n ≤ m)) (loopN_le (by omega)) he]; exact h
        · rename_i s' he
          rw [execC_mono (callN_le (by omega : n ≤ m)) (loopN_le (by omega)) he]; exact h
        · cases h

open Classical in
/-- Calls without fuel. -/
noncomputable def callW (gl : Globs) (prog : Prog) (prims : Prims) : Callee := fun f args stk =>
  if h : ∃ r n, callN gl prog prims n f args stk = some r then some (Classical.choose h) else none

open Classical in
/-- Loops without fuel. -/
noncomputable def loopW : Looper := fun keep keepB st s =>
  if h : ∃ r n, loopN n keep keepB st s = some r then some (Classical.choose h) else none

theorem callW_iff {f : Nat} {args : List AV} {stk : List Boxes} {r : AV × List Boxes} : callW gl prog prims f args stk = some r ↔ ∃ n, callN gl prog prims n f args stk = some r := by
  unfold callW
  constructor
  · intro h
    split at h
    · rename_i hx
      simp only [Option.some.injEq] at h
      exact h ▸ Classical.choose_spec hx
    · cases h
  · rintro ⟨n, hn⟩
    have hx : ∃ r n, callN gl prog prims n f args stk = some r := ⟨r, n, hn⟩
    rw [dif_pos hx]
    obtain ⟨m, hm⟩ := Classical.choose_spec hx
    have h1 := callN_le (Nat.le_max_left n m) f args stk _ hn
    have h2 := callN_le (Nat.le_max_right n m) f args stk _ hm
    rw [h1] at h2
    exact h2.symm

theorem loopW_iff {keep keepB : List Nat} {st : St → Option (AExit × St)} {s : St} {r : AExit × St} : loopW keep keepB st s = some r ↔ ∃ n, loopN n keep keepB st s = some r := by
  unfold loopW
  constructor
  · intro h
    split at h
    · rename_i hx
      simp only [Option.some.injEq] at h
      exact h ▸ Classical.choose_spec hx
    · cases h
  · rintro ⟨n, hn⟩
    have hx : ∃ r n, loopN n keep keepB st s = some r := ⟨r, n, hn⟩
    rw [dif_pos hx]
    obtain ⟨m, hm⟩ := Classical.choose_spec hx
    have h1 := loopN_le (Nat.le_max_left n m) keep keepB st st (fun _ _ h => h) s _ hn
    have h2 := loopN_le (Nat.le_max_right n m) keep keepB st st (fun _ _ h => h) s _ hm
    rw [h1] at h2
    exact h2.symm

theorem eff_cont {D : Option Nat} {env : Env} {bx nb : Boxes} {stk : List Boxes} {op : AOp} {e : Eff} (h : eff gl (callW gl prog prims) D env bx nb stk op = some e) : ∃ n, eff gl (callN gl prog prims n) D env bx nb stk op = some e := by
  cases op
  case callP f args arr fz =>
    simp only [eff] at h ⊢
    split at h
    · split at h
      · by_cases hz : (‹Bool› && !fz) = true
        · rw [if_pos hz] at h; cases h
        · rw [if_neg hz] at h
          split at h
          · rename_i hc
            obtain ⟨n, hn⟩ := callW_iff.1 hc
            refine ⟨n, ?_⟩
            rw [if_neg hz, hn]
            exact h
          · cases h
      · cases h
    · cases h
  case callS f args =>
    simp only [eff] at h ⊢
    split at h
    · split at h
      · split at h
        · rename_i hc
          obtain ⟨n, hn⟩ := callW_iff.1 hc
          refine ⟨n, ?_⟩
          rw [if_pos (by assumption), hn]
          exact h
        · cases h
      · cases h
    · cases h
  all_goals exact ⟨0, h⟩

theorem effG_cont {o : AOpr} {env : Env} {bx nb : Boxes} {stk : List Boxes} {e : Eff} (h : effG gl (callW gl prog prims) o env bx nb stk = some e) : ∃ n, effG gl (callN gl prog prims n) o env bx nb stk = some e := by
  unfold effG at h ⊢
  cases hg : o.guard with
  | none => rw [hg] at h; exact eff_cont h
  | some p =>
    obtain ⟨g, want⟩ := p
    rw [hg] at h
    simp only at h ⊢
    split at h
    · rename_i b hb
      cases hbw : (b == want) <;> rw [hbw] at h
      · exact ⟨0, h⟩
      · exact eff_cont h
    · exact ⟨0, h⟩
    · cases h

theorem stepsO_cont {dr : Bool} : ∀ {l : List AOpr} {s s' : St}, stepsO gl (callW gl prog prims) dr l s = some s' → ∃ n, stepsO gl (callN gl prog prims n) dr l s = some s'
  | [], s, s', h => ⟨0, h⟩
  | o :: l, s, s', h => by
    simp only [stepsO] at h
    split at h
    · cases h
    · rename_i s1 h1
      unfold stepO at h1
      split at h1
      · rename_i e he
        obtain ⟨n, hn⟩ := effG_cont he
        obtain ⟨m, hm⟩ := stepsO_cont h
        refine ⟨max n m, ?_⟩
        have hs : stepO gl (callN gl prog prims (max n m)) dr o s = some s1 := by
          unfold stepO
          rw [effG_mono (callN_le (Nat.le_max_left n m)) hn]; exact h1
        simp only [stepsO, hs]
        exact stepsO_mono (callN_le (Nat.le_max_right n m)) hm
      · cases h1

theorem execC_cont : ∀ {ac : AC} {s : St} {r : AExit × St}, execC gl (callW gl prog prims) loopW ac s = some r → ∃ n, execC gl (callN gl prog prims n) (loopN n) ac s = some r
  | .skip, s, r, h => ⟨0, h⟩
  | .exit _, s, r, h => ⟨0, h⟩
  | .ret, s, r, h => ⟨0, h⟩
  | .bad, s, r, h => ⟨0, h⟩
  | .reg dr ops, s, r, h => by
    simp only [execC] at h ⊢
    split at h
    · cases h
    · rename_i s1 h1
      obtain ⟨n, hn⟩ := stepsO_cont h1
      exact ⟨n, by rw [hn]; exact h⟩
  | .seq a b, s, r, h => by
    simp only [execC] at h ⊢
    split at h
    · rename_i s1 h1
      obtain ⟨n, hn⟩ := execC_cont h1
      obtain ⟨m, hm⟩ := execC_cont h
      refine ⟨max n m, ?_⟩
      rw [execC_mono (callN_le (Nat.le_max_left n m)) (loopN_le (Nat.le_max_left n m)) hn]
      exact execC_mono (callN_le (Nat.le_max_right n m)) (loopN_le (Nat.le_max_right n m)) hm
    · rename_i hne
      obtain ⟨n, hn⟩ := execC_cont h
      refine ⟨n, ?_⟩
      rw [hn]
      obtain ⟨x, s1⟩ := r
      cases x with
      | normal => exact absurd h (hne s1)
      | exit => rfl
      | ret => rfl
  | .cond c t e, s, r, h => by
    simp only [execC] at h ⊢
    split at h
    · rename_i b hb
      cases b with
      | true => exact execC_cont h
      | false => exact execC_cont h
    · cases h
  | .block id b, s, r, h => by
    simp only [execC] at h ⊢
    split at h
    · rename_i i s1 h1
      obtain ⟨n, hn⟩ := execC_cont h1
      exact ⟨n, by rw [hn]; exact h⟩
    · rename_i hne
      obtain ⟨n, hn⟩ := execC_cont h
      refine ⟨n, ?_⟩
      rw [hn]
      obtain ⟨x, s1⟩ := r
      cases x with
      | exit i => exact absurd h (hne i s1)
      | normal => rfl
      | ret => rfl
  | .loop keep keepB b, s, r, h => by
    simp only [execC] at h ⊢
    obtain ⟨k, hk⟩ := loopW_iff.1 h
    have key : ∀ (k : Nat) {s : St}, loopN k keep keepB (execC gl (callW gl prog prims) loopW b) s = some r → ∃ n, loopN n keep keepB (execC gl (callN gl prog prims n) (loopN n) b) s = some r := by
      intro k
      induction k with
      | zero => intro s h; simp [loopN] at h
      | succ k ih =>
        intro s h
        simp only [loopN] at h
        split at h
        · cases h
        · rename_i s1 h1
          split at h
          · rename_i s2 h2
            obtain ⟨n, hn⟩ := execC_cont h2
            obtain ⟨m, hm⟩ := ih h
            refine ⟨max n m + 1, ?_⟩
            rw [loopN_succ, h1]
            simp only
            rw [execC_mono (callN_le (by omega : n ≤ max n m + 1)) (loopN_le (by omega : n ≤ max n m + 1)) hn]
            exact loopN_le (Nat.le_max_right n m) keep keepB _ _ (fun s r hr => execC_mono (callN_le (by omega)) (loopN_le (by omega)) hr) s2 r hm
          · rename_i hne
            obtain ⟨n, hn⟩ := execC_cont h
            refine ⟨n + 1, ?_⟩
            rw [loopN_succ, h1]
            simp only
            rw [execC_mono (callN_le (by omega : n ≤ n + 1)) (loopN_le (by omega : n ≤ n + 1)) hn]
            obtain ⟨x, s2⟩ := r
            cases x with
            | normal => exact absurd h (hne s2)
            | exit => rfl
            | ret => rfl
    exact key k hk

/-- A function's code run without fuel. -/
theorem callW_of {f : Nat} {af : AFunc} {args : List AV} {stk : List Boxes} {r : AV × List Boxes} (hp : prims f = none) (hf : prog f = some af)
    (h : ending af (execC gl (callW gl prog prims) loopW af.code (initSt args stk)) = some r) : callW gl prog prims f args stk = some r := by
  rw [callW_iff]
  have : ∃ x s', execC gl (callW gl prog prims) loopW af.code (initSt args stk) = some (x, s') := by
    cases hx : execC gl (callW gl prog prims) loopW af.code (initSt args stk) with
    | none => rw [hx] at h; simp [ending] at h
    | some p => exact ⟨p.1, p.2, rfl⟩
  obtain ⟨x, s', hx⟩ := this
  obtain ⟨n, hn⟩ := execC_cont hx
  refine ⟨n + 1, ?_⟩
  simp only [callN, hp, hf, hn]
  rw [← hx]; exact h

theorem callW_prim {f : Nat} {g : List AV → Option AV} {args : List AV} {v : AV} (hp : prims f = some g) (h : g args = some v) (stk : List Boxes) : callW gl prog prims f args stk = some (v, stk) :=
  callW_iff.2 ⟨1, by simp only [callN, hp, h]⟩

theorem loopW_step {keep keepB : List Nat} {st : St → Option (AExit × St)} {s s1 s2 : St} {r : AExit × St} (h1 : project keep keepB s = some s1) (h2 : st s1 = some (.normal, s2)) (h : loopW keep keepB st s2 = some r) : loopW keep keepB st s = some r := by
  obtain ⟨n, hn⟩ := loopW_iff.1 h
  exact loopW_iff.2 ⟨n + 1, by simp only [loopN, h1, h2]; exact hn⟩

theorem loopW_exit {keep keepB : List Nat} {st : St → Option (AExit × St)} {s s1 s2 : St} {x : AExit} (h1 : project keep keepB s = some s1) (h2 : st s1 = some (x, s2)) (hx : x ≠ .normal) : loopW keep keepB st s = some (x, s2) := by
  refine loopW_iff.2 ⟨1, ?_⟩
  simp only [loopN, h1, h2]
  cases x with
  | normal => exact absurd rfl hx
  | exit => rfl
  | ret => rfl

theorem callW_ok {P : Program} (hm : P.follows .mixedOrders = true) (hprog : ∀ f af, prog f = some af → ∃ fn, P.funcs[f]? = some fn ∧ okFunc P fn af = true)
    (hprim : ∀ f pf, prims f = some pf → PrimOK P gl f pf) : CallOK P gl (callW gl prog prims) := by
  intro f args stk v stk' h
  obtain ⟨n, hn⟩ := callW_iff.1 h
  exact callN_ok hm hprog hprim n f args stk v stk' hn
end
end Go.Vs

namespace Go.Vs
open Go

theorem upd_app {α : Type} (e : Nat → α) (n : Nat) (v : α) (m : Nat) : upd e n v m = if m = n then v else e m := by
  by_cases h : m = n
  · subst h; simp [upd_same]
  · rw [upd_ne _ _ h, if_neg h]

theorem ofList_cons (n : Nat) (v : AV) (r : List (Nat × AV)) (m : Nat) : ofList ((n, v) :: r) m = if m = n then v else ofList r m := by
  by_cases h : m = n
  · subst h; simp [ofList]
  · have : Nat.beq m n = false := by rw [← Bool.not_eq_true, Nat.beq_eq]; exact h
    rw [if_neg h]; simp only [ofList, this, cond_false]

theorem ofListB_cons (n : Nat) (v : Option Box) (r : List (Nat × Option Box)) (m : Nat) : ofListB ((n, v) :: r) m = if m = n then v else ofListB r m := by
  by_cases h : m = n
  · subst h; simp [ofListB]
  · have : Nat.beq m n = false := by rw [← Bool.not_eq_true, Nat.beq_eq]; exact h
    rw [if_neg h]; simp only [ofListB, this, cond_false]

theorem ofList_nil (m : Nat) : ofList [] m = .undef := rfl
theorem ofListB_nil (m : Nat) : ofListB [] m = none := rfl

section
variable (gl : Globs) (C : Callee) (L : Looper) (s : St)
theorem x_skip : execC gl C L .skip s = some (.normal, s) := rfl
theorem x_exit (i : Nat) : execC gl C L (.exit i) s = some (.exit i, s) := rfl
theorem x_ret : execC gl C L .ret s = some (.ret, s) := rfl
theorem x_reg (dr : Bool) (ops : List AOpr) : execC gl C L (.reg dr ops) s = (match stepsO gl C dr ops s with
  | none => none
  | some s' => some (.normal, if dr then { s' with bx := mergeB s'.bx s'.nb, nb := fun _ => none } else s')) := rfl
theorem x_seq (a b : AC) : execC gl C L (.seq a b) s = (match execC gl C L a s with
  | some (.normal, s') => execC gl C L b s'
  | r => r) := rfl
theorem x_cond (c : Opd) (t e : AC) : execC gl C L (.cond c t e) s = (match pk gl s.env c with
  | .bool b => bif b then execC gl C L t s else execC gl C L e s
  | _ => none) := rfl
theorem x_block (i : Nat) (b : AC) : execC gl C L (.block i b) s = (match execC gl C L b s with
  | some (.exit j, s') => bif Nat.beq j i then some (.normal, s') else some (.exit j, s')
  | r => r) := rfl
theorem x_loop (keep keepB : List Nat) (b : AC) : execC gl C L (.loop keep keepB b) s = L keep keepB (execC gl C L b) s := rfl
end

/-- A loop whose rounds go from one state of a row to the next, and that ends in the last one's round. -/
theorem loopW_rows {keep keepB : List Nat} {st : St → Option (AExit × St)} {x : AExit} (hx : x ≠ .normal) {H : Nat → St} {s2 : Nat → St} {fin : St} : ∀ (k n : Nat), 
    (∀ i, n ≤ i → i < n + k → st (H i) = some (.normal, s2 i) ∧ project keep keepB (s2 i) = some (H (i + 1))) → st (H (n + k)) = some (x, fin) → ∀ s, project keep keepB s = some (H n) → loopW keep keepB st s = some (x, fin)
  | 0, n, _, hf, s, hp => loopW_exit hp hf hx
  | k + 1, n, hs, hf, s, hp => by
    obtain ⟨h1, h2⟩ := hs n (Nat.le_refl _) (by omega)
    refine loopW_step hp h1 ?_
    exact loopW_rows hx k (n + 1) (fun i hi hi2 => hs i (by omega) (by omega)) (by rw [show n + 1 + k = n + (k + 1) by omega]; exact hf) _ h2

/- The evaluator's readings, constructor by constructor. -/
theorem copy_bool (b : Bool) : AV.copy (.bool b) = some (.bool b) := rfl
theorem copy_int (k : IntKind) (n : Int) : AV.copy (.int k n) = some (.int k n) := rfl
theorem copy_str (x : List Nat) : AV.copy (.str x) = some (.str x) := rfl
theorem copy_agg (x : List AV) : AV.copy (.agg x) = some (.agg x) := rfl
theorem copy_slice (x : List AV) : AV.copy (.slice x) = some (.slice x) := rfl
theorem copy_ptr (r : Ref) (o : Nat) : AV.copy (.ptr r o) = some (.ptr r o) := rfl
theorem copy_asl (r : Ref) (o : Nat) : AV.copy (.asl r o) = some (.asl r o) := rfl
theorem copy_aptr (r : Ref) (a b o : Nat) : AV.copy (.aptr r a b o) = some (.aptr r a b o) := rfl
theorem copy_eptr (x : List AV) : AV.copy (.eptr x) = some (.eptr x) := rfl
theorem copy_fn (f : Nat) (x : List AV) : AV.copy (.fn f x) = some (.fn f x) := rfl
theorem copy_nilptr  : AV.copy (.nilptr) = some (.nilptr) := rfl
theorem copy_nilfn  : AV.copy (.nilfn) = some (.nilfn) := rfl
theorem copy_onil : AV.copy .onil = some (.slice []) := rfl
theorem copy_own (z : Nat) (x : List AV) : AV.copy (.own false z x) = some (.slice x) := rfl
theorem pur_bool (b : Bool) : AV.pur (.bool b) = some (.bool b) := rfl
theorem pur_int (k : IntKind) (n : Int) : AV.pur (.int k n) = some (.int k n) := rfl
theorem pur_str (x : List Nat) : AV.pur (.str x) = some (.str x) := rfl
theorem pur_agg (x : List AV) : AV.pur (.agg x) = some (.agg x) := rfl
theorem pur_slice (x : List AV) : AV.pur (.slice x) = some (.slice x) := rfl
theorem pur_nilptr  : AV.pur (.nilptr) = some (.nilptr) := rfl
theorem pur_nilfn  : AV.pur (.nilfn) = some (.nilfn) := rfl
theorem pur_fn0 (f : Nat) : AV.pur (.fn f []) = some (.fn f []) := rfl
theorem pur_onil : AV.pur .onil = some (.slice []) := rfl
theorem pur_own (z : Nat) (x : List AV) : AV.pur (.own false z x) = some (.slice x) := rfl
theorem frz_nil (bx nb : Boxes) : freezes bx nb [] = some ([], bx, nb, false) := rfl
theorem frz_bool (bx nb : Boxes) (b : Bool) (r : List AV) : freezes bx nb ((.bool b) :: r) = (match freezes bx nb r with
  | none => none
  | some (vs, bx', nb', t) => some ((.bool b) :: vs, bx', nb', t)) := rfl
theorem frz_int (bx nb : Boxes) (k : IntKind) (n : Int) (r : List AV) : freezes bx nb ((.int k n) :: r) = (match freezes bx nb r with
  | none => none
  | some (vs, bx', nb', t) => some ((.int k n) :: vs, bx', nb', t)) := rfl
theorem frz_str (bx nb : Boxes) (x : List Nat) (r : List AV) : freezes bx nb ((.str x) :: r) = (match freezes bx nb r with
  | none => none
  | some (vs, bx', nb', t) => some ((.str x) :: vs, bx', nb', t)) := rfl
theorem frz_agg (bx nb : Boxes) (x : List AV) (r : List AV) : freezes bx nb ((.agg x) :: r) = (match freezes bx nb r with
  | none => none
  | some (vs, bx', nb', t) => some ((.agg x) :: vs, bx', nb', t)) := rfl
theorem frz_slice (bx nb : Boxes) (x : List AV) (r : List AV) : freezes bx nb ((.slice x) :: r) = (match freezes bx nb r with
  | none => none
  | some (vs, bx', nb', t) => some ((.slice x) :: vs, bx', nb', t)) := rfl
theorem frz_fn0 (bx nb : Boxes) (f : Nat) (r : List AV) : freezes bx nb ((.fn f []) :: r) = (match freezes bx nb r with
  | none => none
  | some (vs, bx', nb', t) => some ((.fn f []) :: vs, bx', nb', t)) := rfl
theorem frz_nilptr (bx nb : Boxes)  (r : List AV) : freezes bx nb ((.nilptr) :: r) = (match freezes bx nb r with
  | none => none
  | some (vs, bx', nb', t) => some ((.nilptr) :: vs, bx', nb', t)) := rfl
theorem frz_nilfn (bx nb : Boxes)  (r : List AV) : freezes bx nb ((.nilfn) :: r) = (match freezes bx nb r with
  | none => none
  | some (vs, bx', nb', t) => some ((.nilfn) :: vs, bx', nb', t)) := rfl
theorem frz_own (bx nb : Boxes) (u : Bool) (z : Nat) (x : List AV) (r : List AV) : freezes bx nb ((.own u z x) :: r) = (match freezes bx nb r with
  | none => none
  | some (vs, bx', nb', t) => some ((.own u z x) :: vs, bx', nb', t)) := rfl
theorem frz_onil (bx nb : Boxes)  (r : List AV) : freezes bx nb ((.onil) :: r) = (match freezes bx nb r with
  | none => none
  | some (vs, bx', nb', t) => some ((.onil) :: vs, bx', nb', t)) := rfl
theorem cells_bool (b : Bool) : AV.cellsA (.bool b) = [.bool b] := rfl
theorem one_bool (b : Bool) : AV.one (.bool b) = true := rfl
theorem cells_int (k : IntKind) (n : Int) : AV.cellsA (.int k n) = [.int k n] := rfl
theorem one_int (k : IntKind) (n : Int) : AV.one (.int k n) = true := rfl
theorem cells_str (x : List Nat) : AV.cellsA (.str x) = [.str x] := rfl
theorem one_str (x : List Nat) : AV.one (.str x) = true := rfl
theorem cells_agg (x : List AV) : AV.cellsA (.agg x) = x := rfl
theorem one_agg (x : List AV) : AV.one (.agg x) = false := rfl
theorem cells_slice (x : List AV) : AV.cellsA (.slice x) = [.slice x] := rfl
theorem one_slice (x : List AV) : AV.one (.slice x) = true := rfl
theorem cells_ptr (r : Ref) (o : Nat) : AV.cellsA (.ptr r o) = [.ptr r o] := rfl
theorem one_ptr (r : Ref) (o : Nat) : AV.one (.ptr r o) = true := rfl
theorem cells_asl (r : Ref) (o : Nat) : AV.cellsA (.asl r o) = [.asl r o] := rfl
theorem one_asl (r : Ref) (o : Nat) : AV.one (.asl r o) = true := rfl
theorem cells_aptr (r : Ref) (a b o : Nat) : AV.cellsA (.aptr r a b o) = [.aptr r a b o] := rfl
theorem one_aptr (r : Ref) (a b o : Nat) : AV.one (.aptr r a b o) = true := rfl
theorem cells_eptr (x : List AV) : AV.cellsA (.eptr x) = [.eptr x] := rfl
theorem one_eptr (x : List AV) : AV.one (.eptr x) = true := rfl
theorem cells_fn (f : Nat) (x : List AV) : AV.cellsA (.fn f x) = [.fn f x] := rfl
theorem one_fn (f : Nat) (x : List AV) : AV.one (.fn f x) = true := rfl
theorem cells_nilptr  : AV.cellsA (.nilptr) = [.nilptr] := rfl
theorem one_nilptr  : AV.one (.nilptr) = true := rfl
theorem cells_nilfn  : AV.cellsA (.nilfn) = [.nilfn] := rfl
theorem one_nilfn  : AV.one (.nilfn) = true := rfl
theorem cells_own (u : Bool) (z : Nat) (x : List AV) : AV.cellsA (.own u z x) = [.own u z x] := rfl
theorem one_own (u : Bool) (z : Nat) (x : List AV) : AV.one (.own u z x) = true := rfl
theorem cells_onil  : AV.cellsA (.onil) = [.onil] := rfl
theorem one_onil  : AV.one (.onil) = true := rfl
theorem kept_bool (b : Bool) (l : List Nat) : AV.keptBy l (.bool b) = true := rfl
theorem kept_int (k : IntKind) (n : Int) (l : List Nat) : AV.keptBy l (.int k n) = true := rfl
theorem kept_str (x : List Nat) (l : List Nat) : AV.keptBy l (.str x) = true := rfl
theorem kept_agg (x : List AV) (l : List Nat) : AV.keptBy l (.agg x) = true := rfl
theorem kept_slice (x : List AV) (l : List Nat) : AV.keptBy l (.slice x) = true := rfl
theorem kept_eptr (x : List AV) (l : List Nat) : AV.keptBy l (.eptr x) = true := rfl
theorem kept_nilptr  (l : List Nat) : AV.keptBy l (.nilptr) = true := rfl
theorem kept_nilfn  (l : List Nat) : AV.keptBy l (.nilfn) = true := rfl
theorem kept_own (u : Bool) (z : Nat) (x : List AV) (l : List Nat) : AV.keptBy l (.own u z x) = true := rfl
theorem kept_onil  (l : List Nat) : AV.keptBy l (.onil) = true := rfl
theorem kept_undef  (l : List Nat) : AV.keptBy l (.undef) = true := rfl
theorem kept_ptr (r : Ref) (o : Nat) (l : List Nat) : AV.keptBy l (.ptr r o) = r.keptBy l := by simp [AV.keptBy, AV.refs, AV.refsS]
theorem kept_asl (r : Ref) (o : Nat) (l : List Nat) : AV.keptBy l (.asl r o) = r.keptBy l := by simp [AV.keptBy, AV.refs, AV.refsS]
theorem kept_fn0 (f : Nat) (l : List Nat) : AV.keptBy l (.fn f []) = true := rfl
theorem kref_loc (n : Nat) (l : List Nat) : Ref.keptBy l (.loc n) = l.contains n := rfl
theorem kref_glb (k n : Nat) (l : List Nat) : Ref.keptBy l (.glb k n) = true := rfl
theorem kbox_none (l : List Nat) : Box.keptBy l none = true := rfl
theorem kbox_cells (cs : List AV) (l : List Nat) : Box.keptBy l (some (.cells cs)) = cs.all (AV.keptBy l) := rfl
theorem kbox_arr (f : Bool) (z : Nat) (x : List AV) (l : List Nat) : Box.keptBy l (some (.arr f z x)) = true := rfl

/-- A loop's outcome as a function of the state that it is entered with. -/
theorem loopW_fun {keep keepB : List Nat} {st : St → Option (AExit × St)} {x : AExit} {A : St → Prop} {B : St → Prop} (h : ∀ s0, A s0 → ∃ fin, loopW keep keepB st s0 = some (x, fin) ∧ B fin) :
    ∃ G : St → St, (∀ s0, A s0 → loopW keep keepB st s0 = some (x, G s0)) ∧ ∀ s0, A s0 → B (G s0) := by
  have h2 : ∀ s0, ∃ fin, A s0 → loopW keep keepB st s0 = some (x, fin) ∧ B fin := fun s0 => by
    by_cases ha : A s0
    · obtain ⟨fin, h1⟩ := h s0 ha; exact ⟨fin, fun _ => h1⟩
    · exact ⟨s0, fun h => absurd h ha⟩
  exact ⟨fun s0 => Classical.choose (h2 s0), fun s0 ha => (Classical.choose_spec (h2 s0) ha).1, fun s0 ha => (Classical.choose_spec (h2 s0) ha).2⟩
end Go.Vs

namespace Go.Vs
open Go

/-- What is still to be done when a piece of code has ended. -/
inductive Fr where
  | sq (b : AC)
  | bl (i : Nat)

def outs (r : Option (AExit × St)) (Q : AExit → St → Prop) : Prop := match r with
  | some (x, s) => Q x s
  | none => False

theorem outs_ex {r : Option (AExit × St)} {Q : AExit → St → Prop} (h : outs r Q) : ∃ x s, r = some (x, s) ∧ Q x s := by
  unfold outs at h
  split at h
  · exact ⟨_, _, rfl, h⟩
  · exact h.elim

theorem outs_of {r : Option (AExit × St)} {Q : AExit → St → Prop} {x : AExit} {s : St} (h : r = some (x, s)) (hq : Q x s) : outs r Q := by
  rw [h]; exact hq

section
variable (gl : Globs) (C : Callee) (L : Looper)

/-- The code's end, where some is left to be done. -/
def after : List Fr → AExit → St → Option (AExit × St)
  | [], x, s => some (x, s)
  | .sq b :: ks, x, s => match x with
    | .normal => match execC gl C L b s with
      | some (x', s') => after ks x' s'
      | none => none
    | x => after ks x s
  | .bl i :: ks, x, s => match x with
    | .exit j => bif Nat.beq j i then after ks .normal s else after ks (.exit j) s
    | x => after ks x s

def wpr (x : AExit) (s : St) (ks : List Fr) (Q : AExit → St → Prop) : Prop := outs (after gl C L ks x s) Q

def wpk (a : AC) (s : St) (ks : List Fr) (Q : AExit → St → Prop) : Prop := outs (execC gl C L a s) fun x s' => wpr gl C L x s' ks Q

/-- The operations of a region. -/
def wps (dr : Bool) (ops : List AOpr) (s : St) (ks : List Fr) (Q : AExit → St → Prop) : Prop := match stepsO gl C dr ops s with
  | some s' => wpr gl C L .normal (if dr then { s' with bx := mergeB s'.bx s'.nb, nb := fun _ => none } else s') ks Q
  | none => False

/-- One operation's outcome. -/
def wpe (dr : Bool) (ops : List AOpr) (s : St) (ks : List Fr) (Q : AExit → St → Prop) (e : Option Eff) : Prop := match e with
  | some e => wps gl C L dr ops (applyEff dr s e) ks Q
  | none => False

/-- A guarded operation, where the guard says v. -/
def wpg (dr : Bool) (d : Option Nat) (op : AOp) (want : Bool) (ops : List AOpr) (s : St) (ks : List Fr) (Q : AExit → St → Prop) (v : AV) : Prop := match v with
  | .bool b => if b = want then wpe gl C L dr ops s ks Q (eff gl C d s.env s.bx s.nb s.stk op) else wps gl C L dr ops (applyEff dr s { wr := wrD d (.tup []) }) ks Q
  | .tup _ => wps gl C L dr ops (applyEff dr s { wr := wrD d (.tup []) }) ks Q
  | _ => False

/-- A branch on what an operand says. -/
def wpc (t e : AC) (s : St) (ks : List Fr) (Q : AExit → St → Prop) (v : AV) : Prop := match v with
  | .bool b => if b = true then wpk gl C L t s ks Q else wpk gl C L e s ks Q
  | _ => False

variable {gl C L}
theorem wpr_nil {x : AExit} {s : St} {Q : AExit → St → Prop} : wpr gl C L x s [] Q = Q x s := rfl

theorem wpr_sq_normal {s : St} {b : AC} {ks : List Fr} {Q : AExit → St → Prop} : wpr gl C L .normal s (.sq b :: ks) Q = wpk gl C L b s ks Q := by
  simp only [wpr, after, wpk]
  cases h : execC gl C L b s <;> simp [outs, wpr]

theorem wpr_sq_ret {s : St} {b : AC} {ks : List Fr} {Q : AExit → St → Prop} : wpr gl C L .ret s (.sq b :: ks) Q = wpr gl C L .ret s ks Q := rfl
theorem wpr_sq_exit {s : St} {b : AC} {i : Nat} {ks : List Fr} {Q : AExit → St → Prop} : wpr gl C L (.exit i) s (.sq b :: ks) Q = wpr gl C L (.exit i) s ks Q := rfl
theorem wpr_bl_normal {s : St} {i : Nat} {ks : List Fr} {Q : AExit → St → Prop} : wpr gl C L .normal s (.bl i :: ks) Q = wpr gl C L .normal s ks Q := rfl
theorem wpr_bl_ret {s : St} {i : Nat} {ks : List Fr} {Q : AExit → St → Prop} : wpr gl C L .ret s (.bl i :: ks) Q = wpr gl C L .ret s ks Q := rfl
theorem wpr_bl_exit {s : St} {i j : Nat} {ks : List Fr} {Q : AExit → St → Prop} : wpr gl C L (.exit j) s (.bl i :: ks) Q = if j = i then wpr gl C L .normal s ks Q else wpr gl C L (.exit j) s ks Q := by
  simp only [wpr, after]
  by_cases h : j = i
  · subst h; simp
  · have : Nat.beq j i = false := by rw [← Bool.not_eq_true, Nat.beq_eq]; exact h
    simp [this, h]

theorem wpk_skip {s : St} {ks : List Fr} {Q : AExit → St → Prop} : wpk gl C L .skip s ks Q = wpr gl C L .normal s ks Q := rfl
theorem wpk_exit {s : St} {i : Nat} {ks : List Fr} {Q : AExit → St → Prop} : wpk gl C L (.exit i) s ks Q = wpr gl C L (.exit i) s ks Q := rfl
theorem wpk_ret {s : St} {ks : List Fr} {Q : AExit → St → Prop} : wpk gl C L .ret s ks Q = wpr gl C L .ret s ks Q := rfl
theorem wpk_seq {s : St} {a b : AC} {ks : List Fr} {Q : AExit → St → Prop} : wpk gl C L (.seq a b) s ks Q = wpk gl C L a s (.sq b :: ks) Q := by
  simp only [wpk, execC]
  cases h : execC gl C L a s with
  | none => rfl
  | some r =>
    obtain ⟨x, s1⟩ := r
    cases x with
    | normal => simp only [outs]; rw [wpr_sq_normal]; rfl
    | exit i => rfl
    | ret => rfl

theorem wpk_block {s : St} {i : Nat} {b : AC} {ks : List Fr} {Q : AExit → St → Prop} : wpk gl C L (.block i b) s ks Q = wpk gl C L b s (.bl i :: ks) Q := by
  simp only [wpk, execC]
  cases h : execC gl C L b s with
  | none => rfl
  | some r =>
    obtain ⟨x, s1⟩ := r
    cases x with
    | normal => rfl
    | ret => rfl
    | exit j =>
      simp only [outs, wpr, after]
      cases hj : Nat.beq j i <;> rfl

theorem wpk_cond {s : St} {c : Opd} {t e : AC} {ks : List Fr} {Q : AExit → St → Prop} : wpk gl C L (.cond c t e) s ks Q = wpc gl C L t e s ks Q (pk gl s.env c) := by
  simp only [wpk, execC, wpc]
  cases h : pk gl s.env c <;> try rfl
  rename_i b
  cases b <;> rfl

theorem wpc_true {s : St} {t e : AC} {ks : List Fr} {Q : AExit → St → Prop} : wpc gl C L t e s ks Q (.bool true) = wpk gl C L t s ks Q := by simp [wpc]
theorem wpc_false {s : St} {t e : AC} {ks : List Fr} {Q : AExit → St → Prop} : wpc gl C L t e s ks Q (.bool false) = wpk gl C L e s ks Q := by simp [wpc]
/-- A branch, both ways. -/
theorem wpc_split {s : St} {b : Bool} {t e : AC} {ks : List Fr} {Q : AExit → St → Prop} (h1 : b = true → wpk gl C L t s ks Q) (h2 : b = false → wpk gl C L e s ks Q) : wpc gl C L t e s ks Q (.bool b) := by
  cases b with
  | true => rw [wpc_true]; exact h1 rfl
  | false => rw [wpc_false]; exact h2 rfl

theorem wpk_reg {s : St} {dr : Bool} {ops : List AOpr} {ks : List Fr} {Q : AExit → St → Prop} : wpk gl C L (.reg dr ops) s ks Q = wps gl C L dr ops s ks Q := by
  simp only [wpk, execC, wps]
  cases h : stepsO gl C dr ops s <;> rfl

theorem wps_nil_f {s : St} {ks : List Fr} {Q : AExit → St → Prop} : wps gl C L false [] s ks Q = wpr gl C L .normal s ks Q := rfl
theorem wps_nil_t {s : St} {ks : List Fr} {Q : AExit → St → Prop} : wps gl C L true [] s ks Q = wpr gl C L .normal { s with bx := mergeB s.bx s.nb, nb := fun _ => none } ks Q := rfl
theorem wps_cons {s : St} {dr : Bool} {d : Option Nat} {op : AOp} {ops : List AOpr} {ks : List Fr} {Q : AExit → St → Prop} : wps gl C L dr ({ dst := d, op := op } :: ops) s ks Q = wpe gl C L dr ops s ks Q (eff gl C d s.env s.bx s.nb s.stk op) := by
  simp only [wps, stepsO, stepO, wpe, effG]
  cases h : eff gl C d s.env s.bx s.nb s.stk op <;> rfl
theorem wps_guard {s : St} {dr : Bool} {d : Option Nat} {op : AOp} {g : Nat} {want : Bool} {ops : List AOpr} {ks : List Fr} {Q : AExit → St → Prop} : wps gl C L dr ({ dst := d, op := op, guard := some (g, want) } :: ops) s ks Q = wpg gl C L dr d op want ops s ks Q (s.env g) := by
  simp only [wps, stepsO, stepO, wpe, effG, wpg]
  cases h : s.env g <;> try rfl
  rename_i b
  simp only
  by_cases hb : b = want
  · subst hb
    simp only [beq_self_eq_true, cond_true, if_true]
    cases h : eff gl C d s.env s.bx s.nb s.stk op <;> rfl
  · have : (b == want) = false := by simpa using hb
    simp only [this, cond_false, if_neg hb]
theorem wpg_tup {s : St} {dr : Bool} {d : Option Nat} {op : AOp} {want : Bool} {ops : List AOpr} {ks : List Fr} {vs : List AV} {Q : AExit → St → Prop} : wpg gl C L dr d op want ops s ks Q (.tup vs) = wps gl C L dr ops (applyEff dr s { wr := wrD d (.tup []) }) ks Q := rfl
theorem wpg_tt {s : St} {dr : Bool} {d : Option Nat} {op : AOp} {ops : List AOpr} {ks : List Fr} {Q : AExit → St → Prop} : wpg gl C L dr d op true ops s ks Q (.bool true) = wpe gl C L dr ops s ks Q (eff gl C d s.env s.bx s.nb s.stk op) := rfl
theorem wpg_ff {s : St} {dr : Bool} {d : Option Nat} {op : AOp} {ops : List AOpr} {ks : List Fr} {Q : AExit → St → Prop} : wpg gl C L dr d op false ops s ks Q (.bool false) = wpe gl C L dr ops s ks Q (eff gl C d s.env s.bx s.nb s.stk op) := rfl
theorem wpg_tf {s : St} {dr : Bool} {d : Option Nat} {op : AOp} {ops : List AOpr} {ks : List Fr} {Q : AExit → St → Prop} : wpg gl C L dr d op true ops s ks Q (.bool false) = wps gl C L dr ops (applyEff dr s { wr := wrD d (.tup []) }) ks Q := by simp [wpg]
theorem wpg_ft {s : St} {dr : Bool} {d : Option Nat} {op : AOp} {ops : List AOpr} {ks : List Fr} {Q : AExit → St → Prop} : wpg gl C L dr d op false ops s ks Q (.bool true) = wps gl C L dr ops (applyEff dr s { wr := wrD d (.tup []) }) ks Q := by simp [wpg]
/-- A guard, both ways. -/
theorem wpg_split {s : St} {dr : Bool} {d : Option Nat} {op : AOp} {want : Bool} {ops : List AOpr} {ks : List Fr} {b : Bool} {Q : AExit → St → Prop} (h1 : b = true → wpg gl C L dr d op want ops s ks Q (.bool true)) (h2 : b = false → wpg gl C L dr d op want ops s ks Q (.bool false)) : wpg gl C L dr d op want ops s ks Q (.bool b) := by
  cases b with
  | true => exact h1 rfl
  | false => exact h2 rfl
theorem wpe_some {s : St} {dr : Bool} {ops : List AOpr} {ks : List Fr} {Q : AExit → St → Prop} {e : Eff} : wpe gl C L dr ops s ks Q (some e) = wps gl C L dr ops (applyEff dr s e) ks Q := rfl
theorem wpe_none {s : St} {dr : Bool} {ops : List AOpr} {ks : List Fr} {Q : AExit → St → Prop} : wpe gl C L dr ops s ks Q none = False := rfl
end

/-- A function's end. -/
def Ends (rs : List ARes) (ko : Bool) (r : AV × List Boxes) : AExit → St → Prop := fun x s => ending { code := .skip, res := rs, keepOwn := ko } (some (x, s)) = some r

def finishR (rs : List ARes) (ko : Bool) (s : St) : Option (AV × List Boxes) := finish { code := .skip, res := rs, keepOwn := ko } s
theorem ends_normal {rs : List ARes} {ko : Bool} {r : AV × List Boxes} {s : St} : Ends rs ko r .normal s = (finishR rs ko s = some r) := rfl
theorem ends_ret {rs : List ARes} {ko : Bool} {r : AV × List Boxes} {s : St} : Ends rs ko r .ret s = (finishR rs ko s = some r) := rfl
theorem finishR_one {a : ARes} {ko : Bool} {s : St} : finishR [a] ko s = (match result ko s a with
  | some (v, s') => some (v, s'.stk)
  | none => none) := by
  unfold finishR finish resultsL
  cases h : result ko s a with
  | none => simp [h]
  | some r => obtain ⟨v, s'⟩ := r; simp [h, resultsL]
theorem finishR_two {a b : ARes} {ko : Bool} {s : St} : finishR [a, b] ko s = (match result ko s a with
  | some (v, s') => (match result ko s' b with
    | some (w, s') => some (.tup [v, w], s'.stk)
    | none => none)
  | none => none) := by
  unfold finishR finish resultsL
  cases h : result ko s a with
  | none => simp [h]
  | some r =>
    obtain ⟨v, s'⟩ := r
    simp only [h, resultsL]
    cases h2 : result ko s' b with
    | none => simp
    | some r => obtain ⟨w, s''⟩ := r; simp

section
variable {gl : Globs} {prog : Prog} {prims : Prims}

theorem callW_wp {f : Nat} {af : AFunc} {args : List AV} {stk : List Boxes} {r : AV × List Boxes} (hp : prims f = none) (hf : prog f = some af) 
    (h : wpk gl (callW gl prog prims) loopW af.code (initSt args stk) [] (Ends af.res af.keepOwn r)) : callW gl prog prims f args stk = some r := by
  refine callW_of hp hf ?_
  obtain ⟨x, s, h1, h2⟩ := outs_ex h
  rw [wpr_nil] at h2
  rw [h1]
  unfold Ends at h2
  cases x <;> exact h2
end

/-- A loop that ends as R says. -/
def wpl (gl : Globs) (C : Callee) (keep keepB : List Nat) (b : AC) (s : St) (R : AExit → St → Prop) : Prop := outs (loopW keep keepB (execC gl C loopW b) s) R

def Rnd (gl : Globs) (C : Callee) (keep keepB : List Nat) (b : AC) (R : AExit → St → Prop) : AExit → St → Prop := fun x s => match x with
  | .normal => wpl gl C keep keepB b s R
  | x => R x s

section
variable {gl : Globs} {C : Callee} {keep keepB : List Nat} {b : AC} {R : AExit → St → Prop}
theorem rnd_normal {s : St} : Rnd gl C keep keepB b R .normal s = wpl gl C keep keepB b s R := rfl
theorem rnd_ret {s : St} : Rnd gl C keep keepB b R .ret s = R .ret s := rfl
theorem rnd_exit {s : St} {i : Nat} : Rnd gl C keep keepB b R (.exit i) s = R (.exit i) s := rfl

theorem wpl_step {s0 H : St} (hp : project keep keepB s0 = some H) (h : wpk gl C loopW b H [] (Rnd gl C keep keepB b R)) : wpl gl C keep keepB b s0 R := by
  obtain ⟨x, s, h1, h2⟩ := outs_ex h
  rw [wpr_nil] at h2
  cases x with
  | normal =>
    obtain ⟨x, fin, h3, h4⟩ := outs_ex h2
    exact outs_of (loopW_step hp h1 h3) h4
  | ret => exact outs_of (loopW_exit hp h1 (by simp)) h2
  | exit i => exact outs_of (loopW_exit hp h1 (by simp)) h2

theorem wpk_loop {s : St} {ks : List Fr} {Q : AExit → St → Prop} (h : wpl gl C keep keepB b s fun x fin => wpr gl C loopW x fin ks Q) : wpk gl C loopW (.loop keep keepB b) s ks Q := by
  exact h

theorem wpl_mono {s : St} {R' : AExit → St → Prop} (h : wpl gl C keep keepB b s R') (hr : ∀ x s, R' x s → R x s) : wpl gl C keep keepB b s R := by
  obtain ⟨x, fin, h1, h2⟩ := outs_ex h
  exact outs_of h1 (hr _ _ h2)
end
end Go.Vs

namespace Go.Vs
open Go

attribute [simp ↓] wpk_seq wpk_block wpk_cond wpk_reg wpk_skip wpk_exit wpk_ret wps_nil_f wps_nil_t wps_cons wpe_some wpe_none wpc_true wpc_false wps_guard wpg_tup wpg_tt wpg_ff wpg_tf wpg_ft wpr_nil wpr_sq_normal wpr_sq_ret wpr_sq_exit wpr_bl_normal wpr_bl_ret wpr_bl_exit rnd_normal rnd_ret rnd_exit ends_normal ends_ret
attribute [simp] eff pk rd rds tooks copy_bool copy_int copy_str copy_agg copy_slice copy_ptr copy_asl copy_aptr copy_eptr copy_fn copy_nilptr copy_nilfn copy_onil copy_own
attribute [simp] pur_bool pur_int pur_str pur_agg pur_slice pur_nilptr pur_nilfn pur_fn0 pur_onil pur_own
attribute [simp] frz_nil frz_bool frz_int frz_str frz_agg frz_slice frz_fn0 frz_nilptr frz_nilfn frz_own frz_onil
attribute [simp] cells_bool one_bool cells_int one_int cells_str one_str cells_agg one_agg cells_slice one_slice cells_ptr one_ptr cells_asl one_asl cells_aptr one_aptr cells_eptr one_eptr cells_fn one_fn cells_nilptr one_nilptr cells_nilfn one_nilfn cells_own one_own cells_onil one_onil
attribute [simp] kept_bool kept_int kept_str kept_agg kept_slice kept_eptr kept_nilptr kept_nilfn kept_own kept_onil kept_undef kept_ptr kept_asl kept_fn0 kref_loc kref_glb kbox_none kbox_cells kbox_arr
attribute [simp] initSt applyEff applyMem wrs Opd.took wrD upd_app binA unA finishR_one finishR_two result resVal getB getN setN outOf purs eqCells eqS landed joinV AV.single storable plainV splice fillParts partTooks mergeB ofList_cons ofListB_cons ofList_nil ofListB_nil bnd bndTo bndFrom project AV.globV AV.globS Ref.glob

theorem drop_cons {α : Type} {p q : List α} {x : α} {i : Nat} (h : p.drop i = x :: q) : ∃ hi : i < p.length, p[i] = x ∧ p.drop (i + 1) = q ∧ x ∈ p := by
  have hi : i < p.length := by
    rcases Nat.lt_or_ge i p.length with hi | hi
    · exact hi
    · rw [List.drop_eq_nil_of_le hi] at h; cases h
  rw [List.drop_eq_getElem_cons hi] at h
  obtain ⟨h1, h2⟩ := List.cons.inj h
  exact ⟨hi, h1, h2, h1 ▸ List.getElem_mem hi⟩

theorem drop_nil {α : Type} {p : List α} {i : Nat} (h : p.drop i = []) : p.length ≤ i := by simpa using h

theorem strEq_self (a : List Nat) : strEq a a = true := strEq_iff.2 rfl
theorem strEq_dec (a b : List Nat) : strEq a b = decide (a = b) := by
  by_cases h : a = b
  · subst h; simp [strEq_self]
  · simp only [h, decide_false]; rw [← Bool.not_eq_true, strEq_iff]; exact h
attribute [simp] strEq_dec

theorem ofList_mem {e : Nat → AV} : ∀ {l : List Nat} {n : Nat}, n ∈ l → ofList (l.map fun n => (n, e n)) n = e n
  | a :: l, n, h => by
    by_cases hn : n = a
    · subst hn; simp
    · rcases List.mem_cons.1 h with h | h
      · exact absurd h hn
      · simp [hn, ofList_mem h]

theorem ofListB_mem {e : Nat → Option Box} : ∀ {l : List Nat} {n : Nat}, n ∈ l → ofListB (l.map fun n => (n, e n)) n = e n
  | a :: l, n, h => by
    by_cases hn : n = a
    · subst hn; simp
    · rcases List.mem_cons.1 h with h | h
      · exact absurd h hn
      · simp [hn, ofListB_mem h]

/-- A state that is like another one, as far as a loop keeps it. -/
def PJ (keep keepB : List Nat) (s H : St) : Prop := project keep keepB s = some H
theorem pj_of {keep keepB : List Nat} {s H : St} (h : project keep keepB s = some H) : PJ keep keepB s H := h
theorem pj_to {keep keepB : List Nat} {s H : St} (h : PJ keep keepB s H) : project keep keepB s = some H := h

theorem project_env {keep keepB : List Nat} {s H : St} (h : PJ keep keepB s H) (n : Nat) (hn : n ∈ keep) : s.env n = H.env n := by
  unfold PJ project at h
  split at h
  · cases h; exact (ofList_mem hn).symm
  · cases h

theorem project_bx {keep keepB : List Nat} {s H : St} (h : PJ keep keepB s H) (n : Nat) (hn : n ∈ keepB) : s.bx n = H.bx n ∧ s.nb n = none := by
  unfold PJ project at h
  split at h
  · rename_i hc
    cases h
    refine ⟨(ofListB_mem hn).symm, ?_⟩
    simp only [Bool.and_eq_true, List.all_eq_true] at hc
    exact Option.isNone_iff_eq_none.1 (hc.2 n hn).1
  · cases h

theorem project_stk {keep keepB : List Nat} {s H : St} (h : PJ keep keepB s H) : s.stk = H.stk := by
  unfold PJ project at h
  split at h
  · cases h; rfl
  · cases h

theorem stkGet_self (b : Boxes) (r : List Boxes) : stkGet (b :: r) r.length = b := by simp [stkGet]
theorem stkGet_two (a b : Boxes) (r : List Boxes) : stkGet (a :: b :: r) r.length = b := by
  have : Nat.beq r.length (r.length + 1) = false := by rw [← Bool.not_eq_true, Nat.beq_eq]; omega
  simp [stkGet, this]
attribute [simp] stkGet_self stkGet_two
end Go.Vs

namespace Go.Vs.C
open Go Go.Vs
set_option maxRecDepth 100000
set_option linter.unusedVariables false
def F58_0 (I J : Nat → Nat) : AC :=
  .seq (.reg false [
       { dst := some 18, op := .bin .lss (.slot 17) (.slot 16) }])
    (.seq (.cond (.slot 18)
      (.skip)
      (.exit 0))
     (.seq (.block 1 (.seq (.reg false [
           { dst := some 19, op := .mv (.slot 17) },
           { dst := some 20, op := .iaddr 11 (.slot 15) (.slot 17) },
           { dst := some 21, op := .loadA 11 (.slot 20) },
           { dst := some 8, op := .alloc [.int .i64 0, .str [], .str [], .int .i64 0, .str [], .str [], .str [], .str [], .str [], .slice [], .slice []] },
           { dst := some 7, op := .mv (.slot 19) },
           { dst := none, op := .storeA 11 (.slot 8) (.slot 21) }])
        (.seq (.reg false [
            { dst := some 22, op := .mv (.slot 1) },
            { dst := some 23, op := .mv (.slot 7) },
            { dst := some 24, op := .iaddr 11 (.slot 22) (.slot 23) },
            { dst := some 25, op := .loadA 11 (.slot 24) },
            { dst := some 9, op := .alloc [.int .i64 0, .str [], .str [], .int .i64 0, .str [], .str [], .str [], .str [], .str [], .slice [], .slice []] },
            { dst := none, op := .storeA 11 (.slot 9) (.slot 25) }])
         (.seq (.reg false [
             { dst := some 26, op := .mv (.slot 2) },
             { dst := some 27, op := .loadA 11 (.slot 8) },
             { dst := some 28, op := .loadA 11 (.slot 9) },
             { dst := some 29, op := .callS (.slot 26) [(.slot 27), (.slot 28)] },
             { dst := some 30, op := .un .not (.slot 29) }])
          (.cond (.slot 30)
           (.seq (.reg false [
               { dst := some 6, op := .mv (.lit (.bool false)) }])
            (.ret))
           (.skip))))))
      (.reg false [
         { dst := some 31, op := .bin .add (.slot 17) (.lit (.int .i64 1)) },
         { dst := some 17, op := .mv (.slot 31) }])))
/-- slices.EqualFunc[[]lispprover/api.Term,[]lispprover/api.Term,lispprover/api.Term,lispprover/api.Term] -/
def F58 (I J : Nat → Nat) : AFunc where
  code := .seq (.reg false [
       { dst := some 6, op := .mv (.lit (.bool false)) }])
    (.seq (.seq (.reg false [
         { dst := some 10, op := .mv (.slot 0) },
         { dst := some 11, op := .lenL (.slot 10) },
         { dst := some 12, op := .mv (.slot 1) },
         { dst := some 13, op := .lenL (.slot 12) },
         { dst := some 14, op := .bin .neq (.slot 11) (.slot 13) }])
      (.cond (.slot 14)
       (.seq (.reg false [
           { dst := some 6, op := .mv (.lit (.bool false)) }])
        (.ret))
       (.skip)))
     (.seq (.seq (.reg false [
          { dst := some 15, op := .mv (.slot 0) },
          { dst := some 16, op := .lenL (.slot 15) },
          { dst := some 17, op := .mv (.lit (.int .i64 0)) }])
       (.block 0 (.loop [1, 2, 15, 16, 17] [] (F58_0 I J))))
      (.seq (.reg false [
          { dst := some 6, op := .mv (.lit (.bool true)) }])
       (.ret))))
  res := [.tmp 6]
  keepOwn := false

/-- slices.ContainsFunc[[]lispprover/api.Term,lispprover/api.Term] -/
def F103 (I J : Nat → Nat) : AFunc where
  code := .seq (.reg false [
       { dst := some 4, op := .mv (.lit (.bool false)) }])
    (.seq (.reg false [
        { dst := some 5, op := .mv (.slot 0) },
        { dst := some 6, op := .mv (.slot 1) },
        { dst := some 7, op := .callS (.lit (.fn (I 124) [])) [(.slot 5), (.slot 6)] },
        { dst := some 8, op := .bin .geq (.slot 7) (.lit (.int .i64 0)) },
        { dst := some 4, op := .mv (.slot 8) }])
     (.ret))
  res := [.tmp 4]
  keepOwn := false

/-- slices.Contains[[]lispprover/api.Symbol,lispprover/api.Symbol] -/
def F105 (I J : Nat → Nat) : AFunc where
  code := .seq (.reg false [
       { dst := some 3, op := .box (.slot 1) },
       { dst := some 4, op := .mv (.lit (.bool false)) }])
    (.seq (.reg false [
        { dst := some 5, op := .mv (.slot 0) },
        { dst := some 6, op := .loadA 2 (.slot 3) },
        { dst := some 7, op := .callP (.lit (.fn (I 125) [])) [(.slot 5), (.slot 6)] false false },
        { dst := some 8, op := .bin .geq (.slot 7) (.lit (.int .i64 0)) },
        { dst := some 4, op := .mv (.slot 8) }])
     (.ret))
  res := [.tmp 4]
  keepOwn := false

def F124_0 (I J : Nat → Nat) : AC :=
  .seq (.reg false [
       { dst := some 9, op := .bin .lss (.slot 8) (.slot 7) }])
    (.seq (.cond (.slot 9)
      (.skip)
      (.exit 0))
     (.seq (.block 1 (.seq (.reg false [
           { dst := some 10, op := .mv (.slot 8) },
           { dst := some 5, op := .mv (.slot 10) }])
        (.seq (.reg false [
            { dst := some 11, op := .mv (.slot 1) },
            { dst := some 12, op := .mv (.slot 0) },
            { dst := some 13, op := .mv (.slot 5) },
            { dst := some 14, op := .iaddr 11 (.slot 12) (.slot 13) },
            { dst := some 15, op := .loadA 11 (.slot 14) },
            { dst := some 16, op := .callS (.slot 11) [(.slot 15)] }])
         (.cond (.slot 16)
          (.seq (.reg false [
              { dst := some 17, op := .mv (.slot 5) },
              { dst := some 4, op := .mv (.slot 17) }])
           (.ret))
          (.skip)))))
      (.reg false [
         { dst := some 18, op := .bin .add (.slot 8) (.lit (.int .i64 1)) },
         { dst := some 8, op := .mv (.slot 18) }])))
/-- slices.IndexFunc[[]lispprover/api.Term,lispprover/api.Term] -/
def F124 (I J : Nat → Nat) : AFunc where
  code := .seq (.reg false [
       { dst := some 4, op := .mv (.lit (.int .i64 0)) }])
    (.seq (.seq (.reg false [
         { dst := some 6, op := .mv (.slot 0) },
         { dst := some 7, op := .lenL (.slot 6) },
         { dst := some 8, op := .mv (.lit (.int .i64 0)) }])
      (.block 0 (.loop [0, 1, 7, 8] [] (F124_0 I J))))
     (.seq (.reg false [
         { dst := some 4, op := .mv (.lit (.int .i64 (-1))) }])
      (.ret)))
  res := [.tmp 4]
  keepOwn := false

def F125_0 (I J : Nat → Nat) : AC :=
  .seq (.reg false [
       { dst := some 9, op := .bin .lss (.slot 8) (.slot 7) }])
    (.seq (.cond (.slot 9)
      (.skip)
      (.exit 0))
     (.seq (.block 1 (.seq (.reg false [
           { dst := some 10, op := .mv (.slot 8) },
           { dst := some 5, op := .mv (.slot 10) }])
        (.seq (.reg true [
            { dst := some 11, op := .loadA 2 (.slot 3) },
            { dst := some 12, op := .mv (.slot 0) },
            { dst := some 13, op := .mv (.slot 5) },
            { dst := some 14, op := .iaddr 2 (.slot 12) (.slot 13) },
            { dst := some 15, op := .loadA 2 (.slot 14) },
            { dst := some 16, op := .eqA false [0, 0] (.slot 11) (.slot 15) }])
         (.cond (.slot 16)
          (.seq (.reg false [
              { dst := some 17, op := .mv (.slot 5) },
              { dst := some 4, op := .mv (.slot 17) }])
           (.ret))
          (.skip)))))
      (.reg false [
         { dst := some 18, op := .bin .add (.slot 8) (.lit (.int .i64 1)) },
         { dst := some 8, op := .mv (.slot 18) }])))
/-- slices.Index[[]lispprover/api.Symbol,lispprover/api.Symbol] -/
def F125 (I J : Nat → Nat) : AFunc where
  code := .seq (.reg false [
       { dst := some 3, op := .box (.slot 1) },
       { dst := some 4, op := .mv (.lit (.int .i64 0)) }])
    (.seq (.seq (.reg false [
         { dst := some 6, op := .mv (.slot 0) },
         { dst := some 7, op := .lenL (.slot 6) },
         { dst := some 8, op := .mv (.lit (.int .i64 0)) }])
      (.block 0 (.loop [0, 3, 7, 8] [3] (F125_0 I J))))
     (.seq (.reg false [
         { dst := some 4, op := .mv (.lit (.int .i64 (-1))) }])
      (.ret)))
  res := [.tmp 4]
  keepOwn := false

/-- strings.TrimPrefix -/
def F136 (I J : Nat → Nat) : AFunc where
  code := .seq (.reg false [
       { dst := some 4, op := .mv (.lit (.str [])) }])
    (.seq (.reg false [
        { dst := some 5, op := .mv (.slot 0) },
        { dst := some 6, op := .mv (.slot 1) },
        { dst := some 7, op := .callP (.lit (.fn (I 144) [])) [(.slot 5), (.slot 6)] false false },
        { dst := some 4, op := .mv (.slot 7) }])
     (.ret))
  res := [.tmp 4]
  keepOwn := false

/-- internal/stringslite.TrimPrefix -/
def F144 (I J : Nat → Nat) : AFunc where
  code := .seq (.reg false [
       { dst := some 4, op := .mv (.lit (.str [])) }])
    (.seq (.seq (.reg false [
         { dst := some 5, op := .mv (.slot 0) },
         { dst := some 6, op := .mv (.slot 1) },
         { dst := some 7, op := .callP (.lit (.fn (I 150) [])) [(.slot 5), (.slot 6)] false false }])
      (.cond (.slot 7)
       (.seq (.reg false [
           { dst := some 8, op := .mv (.slot 0) },
           { dst := some 9, op := .mv (.slot 1) },
           { dst := some 10, op := .lenS (.slot 9) },
           { dst := some 11, op := .slcS (.slot 8) (some (.slot 10)) none },
           { dst := some 4, op := .mv (.slot 11) }])
        (.ret))
       (.skip)))
     (.seq (.reg false [
         { dst := some 12, op := .mv (.slot 0) },
         { dst := some 4, op := .mv (.slot 12) }])
      (.ret)))
  res := [.tmp 4]
  keepOwn := false

/-- internal/stringslite.HasPrefix -/
def F150 (I J : Nat → Nat) : AFunc where
  code := .seq (.reg false [
       { dst := some 4, op := .mv (.lit (.bool false)) }])
    (.seq (.reg false [
        { dst := some 5, op := .mv (.slot 0) },
        { dst := some 6, op := .lenS (.slot 5) },
        { dst := some 7, op := .mv (.slot 1) },
        { dst := some 8, op := .lenS (.slot 7) },
        { dst := some 9, op := .bin .geq (.slot 6) (.slot 8) },
        { dst := some 10, op := .mv (.slot 9) },
        { dst := some 11, op := .mv (.slot 0), guard := some (10, true) },
        { dst := some 12, op := .mv (.slot 1), guard := some (10, true) },
        { dst := some 13, op := .lenS (.slot 12), guard := some (10, true) },
        { dst := some 14, op := .slcS (.slot 11) none (some (.slot 13)), guard := some (10, true) },
        { dst := some 15, op := .mv (.slot 1), guard := some (10, true) },
        { dst := some 16, op := .bin .eql (.slot 14) (.slot 15), guard := some (10, true) },
        { dst := some 17, op := .pick (.slot 10) (.slot 16) (.lit (.bool false)) },
        { dst := some 4, op := .mv (.slot 17) }])
     (.ret))
  res := [.tmp 4]
  keepOwn := false

/-- strconv.ParseUint -/
def F151 (I J : Nat → Nat) : AFunc where
  code := .seq (.reg false [
       { dst := some 6, op := .mv (.lit (.int .u64 0)) },
       { dst := some 7, op := .bad }])
    (.seq (.reg false [
        { dst := some 11, op := .mv (.slot 0) },
        { dst := some 12, op := .mv (.slot 1) },
        { dst := some 13, op := .mv (.slot 2) },
        { dst := some 14, op := .callP (.lit (.fn (I 160) [])) [(.slot 11), (.slot 12), (.slot 13)] false false },
        { dst := some 10, op := .mv (.take 14) },
        { dst := some 15, op := .extr 10 0 },
        { dst := some 16, op := .extr 10 1 },
        { dst := some 8, op := .mv (.slot 15) },
        { dst := some 9, op := .mv (.slot 16) }])
     (.seq (.seq (.reg false [
          { dst := some 17, op := .mv (.slot 9) },
          { dst := some 18, op := .bad }])
       (.cond (.slot 18)
        (.seq (.reg false [
            { dst := some 19, op := .mv (.slot 8) },
            { dst := some 20, op := .mv (.slot 0) },
            { dst := some 21, op := .mv (.slot 1) },
            { dst := some 22, op := .mv (.slot 2) },
            { dst := some 23, op := .mv (.slot 9) },
            { dst := some 24, op := .callP (.lit (.fn (I 161) [])) [(.lit (.str [80, 97, 114, 115, 101, 85, 105, 110, 116])), (.slot 20), (.slot 21), (.slot 22), (.slot 23)] false false },
            { dst := some 6, op := .mv (.slot 19) },
            { dst := some 7, op := .mv (.slot 24) }])
         (.ret))
        (.skip)))
      (.seq (.reg false [
          { dst := some 25, op := .mv (.slot 8) },
          { dst := some 6, op := .mv (.slot 25) },
          { dst := some 7, op := .bad }])
       (.ret))))
  res := [.tmp 6, .tmp 7]
  keepOwn := false

def F155_0 (I J : Nat → Nat) : AC :=
  .seq (.seq (.reg false [
        { dst := some 9, op := .mv (.slot 5) },
        { dst := some 10, op := .mv (.slot 6) },
        { dst := some 11, op := .bin .lss (.slot 9) (.slot 10) }])
     (.cond (.slot 11)
      (.skip)
      (.exit 0)))
    (.block 1 (.seq (.reg false [
         { dst := some 12, op := .mv (.slot 5) },
         { dst := some 13, op := .mv (.slot 6) },
         { dst := some 14, op := .bin .add (.slot 12) (.slot 13) },
         { dst := some 15, op := .conv .u64 (.slot 14) },
         { dst := some 16, op := .bin .shr (.slot 15) (.lit (.int .u64 1)) },
         { dst := some 17, op := .conv .i64 (.slot 16) },
         { dst := some 7, op := .mv (.slot 17) }])
      (.seq (.reg false [
          { dst := some 18, op := .mv (.slot 1) },
          { dst := some 19, op := .mv (.slot 7) },
          { dst := some 20, op := .callS (.slot 18) [(.slot 19)] },
          { dst := some 21, op := .un .not (.slot 20) }])
       (.cond (.slot 21)
        (.reg false [
           { dst := some 22, op := .mv (.slot 7) },
           { dst := some 23, op := .bin .add (.slot 22) (.lit (.int .i64 1)) },
           { dst := some 5, op := .mv (.slot 23) }])
        (.reg false [
           { dst := some 24, op := .mv (.slot 7) },
           { dst := some 6, op := .mv (.slot 24) }])))))
/-- sort.Search -/
def F155 (I J : Nat → Nat) : AFunc where
  code := .seq (.reg false [
       { dst := some 4, op := .mv (.lit (.int .i64 0)) }])
    (.seq (.reg false [
        { dst := some 8, op := .mv (.slot 0) },
        { dst := some 5, op := .mv (.lit (.int .i64 0)) },
        { dst := some 6, op := .mv (.slot 8) }])
     (.seq (.block 0 (.loop [1, 5, 6] [] (F155_0 I J)))
      (.seq (.reg false [
          { dst := some 25, op := .mv (.slot 5) },
          { dst := some 4, op := .mv (.slot 25) }])
       (.ret))))
  res := [.tmp 4]
  keepOwn := false

/-- (*strings.Builder).WriteByte -/
def F157 (I J : Nat → Nat) : AFunc where
  code := .seq (.reg false [
       { dst := some 4, op := .bad }])
    (.seq (.reg false [
        { dst := some 5, op := .mv (.slot 0) },
        { dst := some 6, op := .callS (.lit (.fn (I 162) [])) [(.slot 5)] }])
     (.seq (.reg false [
         { dst := some 7, op := .mv (.slot 0) },
         { dst := some 8, op := .mv (.slot 0) },
         { dst := some 9, op := .nilc (.slot 8) },
         { dst := some 10, op := .faddr 1 (.slot 9) },
         { dst := some 11, op := .loadT (.slot 10) },
         { dst := some 12, op := .mv (.slot 1) },
         { dst := some 13, op := .lits false 1 [(.slot 12)] },
         { dst := some 14, op := .app false false 1 (.take 11) (.slot 13) },
         { dst := some 15, op := .nilc (.slot 7) },
         { dst := some 16, op := .faddr 1 (.slot 15) },
         { dst := none, op := .store1 (.slot 16) (.slot 14) }])
      (.seq (.reg false [
          { dst := some 4, op := .bad }])
       (.ret))))
  res := [.tmp 4]
  keepOwn := false

/-- (*strings.Builder).WriteString -/
def F158 (I J : Nat → Nat) : AFunc where
  code := .seq (.reg false [
       { dst := some 4, op := .mv (.lit (.int .i64 0)) },
       { dst := some 5, op := .bad }])
    (.seq (.reg false [
        { dst := some 6, op := .mv (.slot 0) },
        { dst := some 7, op := .callS (.lit (.fn (I 162) [])) [(.slot 6)] }])
     (.seq (.reg false [
         { dst := some 8, op := .mv (.slot 0) },
         { dst := some 9, op := .mv (.slot 0) },
         { dst := some 10, op := .nilc (.slot 9) },
         { dst := some 11, op := .faddr 1 (.slot 10) },
         { dst := some 12, op := .loadT (.slot 11) },
         { dst := some 13, op := .mv (.slot 1) },
         { dst := some 14, op := .app false false 1 (.take 12) (.slot 13) },
         { dst := some 15, op := .nilc (.slot 8) },
         { dst := some 16, op := .faddr 1 (.slot 15) },
         { dst := none, op := .store1 (.slot 16) (.slot 14) }])
      (.seq (.reg false [
          { dst := some 17, op := .mv (.slot 1) },
          { dst := some 18, op := .lenS (.slot 17) },
          { dst := some 4, op := .mv (.slot 18) },
          { dst := some 5, op := .bad }])
       (.ret))))
  res := [.tmp 4, .tmp 5]
  keepOwn := false

/-- (*strings.Builder).String -/
def F159 (I J : Nat → Nat) : AFunc where
  code := .seq (.reg false [
       { dst := some 2, op := .mv (.lit (.str [])) }])
    (.seq (.reg true [
        { dst := some 3, op := .mv (.slot 0) },
        { dst := some 4, op := .nilc (.slot 3) },
        { dst := some 5, op := .faddr 1 (.slot 4) },
        { dst := some 6, op := .load1 (.slot 5) },
        { dst := some 7, op := .bad },
        { dst := some 8, op := .mv (.slot 0) },
        { dst := some 9, op := .nilc (.slot 8) },
        { dst := some 10, op := .faddr 1 (.slot 9) },
        { dst := some 11, op := .load1 (.slot 10) },
        { dst := some 12, op := .lenL (.slot 11) },
        { dst := some 13, op := .bad },
        { dst := some 2, op := .mv (.slot 13) }])
     (.ret))
  res := [.tmp 2]
  keepOwn := false

def F160_0 (I J : Nat → Nat) : AC :=
  .seq (.reg false [
       { dst := some 102, op := .bin .lss (.slot 101) (.slot 100) }])
    (.seq (.cond (.slot 102)
      (.skip)
      (.exit 3))
     (.seq (.block 4 (.seq (.reg false [
           { dst := some 103, op := .iaddr 1 (.slot 99) (.slot 101) },
           { dst := some 104, op := .load1 (.slot 103) },
           { dst := some 15, op := .mv (.slot 104) }])
        (.seq (.reg false [
            { dst := some 16, op := .mv (.lit (.int .u8 0)) }])
         (.seq (.block 5 (.seq (.reg false [
               { dst := some 107, op := .mv (.slot 15) },
               { dst := some 108, op := .bin .eql (.slot 107) (.lit (.int .u8 95)) },
               { dst := some 109, op := .mv (.slot 108) },
               { dst := some 110, op := .mv (.slot 8), guard := some (109, true) },
               { dst := some 111, op := .pick (.slot 109) (.slot 110) (.lit (.bool false)) },
               { dst := some 106, op := .mv (.slot 111) }])
            (.cond (.slot 106)
             (.seq (.reg false [
                 { dst := some 12, op := .mv (.lit (.bool true)) }])
              (.exit 4))
             (.seq (.reg false [
                 { dst := some 113, op := .mv (.slot 15) },
                 { dst := some 114, op := .bin .leq (.lit (.int .u8 48)) (.slot 113) },
                 { dst := some 115, op := .mv (.slot 114) },
                 { dst := some 116, op := .mv (.slot 15), guard := some (115, true) },
                 { dst := some 117, op := .bin .leq (.slot 116) (.lit (.int .u8 57)), guard := some (115, true) },
                 { dst := some 118, op := .pick (.slot 115) (.slot 117) (.lit (.bool false)) },
                 { dst := some 112, op := .mv (.slot 118) }])
              (.cond (.slot 112)
               (.reg false [
                  { dst := some 119, op := .mv (.slot 15) },
                  { dst := some 120, op := .bin .sub (.slot 119) (.lit (.int .u8 48)) },
                  { dst := some 16, op := .mv (.slot 120) }])
               (.seq (.reg false [
                   { dst := some 122, op := .mv (.slot 15) },
                   { dst := some 123, op := .callP (.lit (.fn (I 163) [])) [(.slot 122)] false false },
                   { dst := some 124, op := .bin .leq (.lit (.int .u8 97)) (.slot 123) },
                   { dst := some 125, op := .mv (.slot 124) },
                   { dst := some 126, op := .mv (.slot 15), guard := some (125, true) },
                   { dst := some 127, op := .callP (.lit (.fn (I 163) [])) [(.slot 126)] false false, guard := some (125, true) },
                   { dst := some 128, op := .bin .leq (.slot 127) (.lit (.int .u8 122)), guard := some (125, true) },
                   { dst := some 129, op := .pick (.slot 125) (.slot 128) (.lit (.bool false)) },
                   { dst := some 121, op := .mv (.slot 129) }])
                (.cond (.slot 121)
                 (.reg false [
                    { dst := some 130, op := .mv (.slot 15) },
                    { dst := some 131, op := .callP (.lit (.fn (I 163) [])) [(.slot 130)] false false },
                    { dst := some 132, op := .bin .sub (.slot 131) (.lit (.int .u8 97)) },
                    { dst := some 133, op := .bin .add (.slot 132) (.lit (.int .u8 10)) },
                    { dst := some 16, op := .mv (.slot 133) }])
                 (.seq (.reg false [
                     { dst := some 105, op := .bad },
                     { dst := some 6, op := .mv (.lit (.int .u64 0)) },
                     { dst := some 7, op := .mv (.slot 105) }])
                  (.ret)))))))))
          (.seq (.seq (.reg false [
               { dst := some 134, op := .mv (.slot 16) },
               { dst := some 135, op := .mv (.slot 1) },
               { dst := some 136, op := .conv .u8 (.slot 135) },
               { dst := some 137, op := .bin .geq (.slot 134) (.slot 136) }])
            (.cond (.slot 137)
             (.seq (.reg false [
                 { dst := some 138, op := .bad },
                 { dst := some 6, op := .mv (.lit (.int .u64 0)) },
                 { dst := some 7, op := .mv (.slot 138) }])
              (.ret))
             (.skip)))
           (.seq (.seq (.reg false [
                { dst := some 139, op := .mv (.slot 13) },
                { dst := some 140, op := .mv (.slot 10) },
                { dst := some 141, op := .bin .geq (.slot 139) (.slot 140) }])
             (.cond (.slot 141)
              (.seq (.reg false [
                  { dst := some 142, op := .mv (.slot 11) },
                  { dst := some 143, op := .bad },
                  { dst := some 6, op := .mv (.slot 142) },
                  { dst := some 7, op := .mv (.slot 143) }])
               (.ret))
              (.skip)))
            (.seq (.reg false [
                { dst := some 144, op := .mv (.slot 13) },
                { dst := some 145, op := .mv (.slot 1) },
                { dst := some 146, op := .conv .u64 (.slot 145) },
                { dst := some 147, op := .bin .mul (.slot 144) (.slot 146) },
                { dst := some 13, op := .mv (.slot 147) }])
             (.seq (.reg false [
                 { dst := some 148, op := .mv (.slot 13) },
                 { dst := some 149, op := .mv (.slot 16) },
                 { dst := some 150, op := .conv .u64 (.slot 149) },
                 { dst := some 151, op := .bin .add (.slot 148) (.slot 150) },
                 { dst := some 17, op := .mv (.slot 151) }])
              (.seq (.seq (.reg false [
                   { dst := some 152, op := .mv (.slot 17) },
                   { dst := some 153, op := .mv (.slot 13) },
                   { dst := some 154, op := .bin .lss (.slot 152) (.slot 153) },
                   { dst := some 155, op := .mv (.slot 154) },
                   { dst := some 156, op := .mv (.slot 17), guard := some (155, false) },
                   { dst := some 157, op := .mv (.slot 11), guard := some (155, false) },
                   { dst := some 158, op := .bin .gtr (.slot 156) (.slot 157), guard := some (155, false) },
                   { dst := some 159, op := .pick (.slot 155) (.lit (.bool true)) (.slot 158) }])
                (.cond (.slot 159)
                 (.seq (.reg false [
                     { dst := some 160, op := .mv (.slot 11) },
                     { dst := some 161, op := .bad },
                     { dst := some 6, op := .mv (.slot 160) },
                     { dst := some 7, op := .mv (.slot 161) }])
                  (.ret))
                 (.skip)))
               (.reg false [
                  { dst := some 162, op := .mv (.slot 17) },
                  { dst := some 13, op := .mv (.slot 162) }]))))))))))
      (.reg false [
         { dst := some 163, op := .bin .add (.slot 101) (.lit (.int .i64 1)) },
         { dst := some 101, op := .mv (.slot 163) }])))
/-- internal/strconv.ParseUint -/
def F160 (I J : Nat → Nat) : AFunc where
  code := .seq (.reg false [
       { dst := some 6, op := .mv (.lit (.int .u64 0)) },
       { dst := some 7, op := .bad }])
    (.seq (.seq (.reg false [
         { dst := some 18, op := .mv (.slot 0) },
         { dst := some 19, op := .bin .eql (.slot 18) (.lit (.str [])) }])
      (.cond (.slot 19)
       (.seq (.reg false [
           { dst := some 20, op := .bad },
           { dst := some 6, op := .mv (.lit (.int .u64 0)) },
           { dst := some 7, op := .mv (.slot 20) }])
        (.ret))
       (.skip)))
     (.seq (.reg false [
         { dst := some 21, op := .mv (.slot 1) },
         { dst := some 22, op := .bin .eql (.slot 21) (.lit (.int .i64 0)) },
         { dst := some 8, op := .mv (.slot 22) }])
      (.seq (.reg false [
          { dst := some 23, op := .mv (.slot 0) },
          { dst := some 9, op := .mv (.slot 23) }])
       (.seq (.block 0 (.seq (.reg false [
             { dst := some 26, op := .mv (.slot 1) },
             { dst := some 27, op := .bin .leq (.lit (.int .i64 2)) (.slot 26) },
             { dst := some 28, op := .mv (.slot 27) },
             { dst := some 29, op := .mv (.slot 1), guard := some (28, true) },
             { dst := some 30, op := .bin .leq (.slot 29) (.lit (.int .i64 36)), guard := some (28, true) },
             { dst := some 31, op := .pick (.slot 28) (.slot 30) (.lit (.bool false)) },
             { dst := some 25, op := .mv (.slot 31) }])
          (.cond (.slot 25)
           (.skip)
           (.seq (.reg false [
               { dst := some 33, op := .mv (.slot 1) },
               { dst := some 34, op := .bin .eql (.slot 33) (.lit (.int .i64 0)) },
               { dst := some 32, op := .mv (.slot 34) }])
            (.cond (.slot 32)
             (.seq (.reg false [
                 { dst := some 1, op := .mv (.lit (.int .i64 10)) }])
              (.seq (.reg false [
                  { dst := some 35, op := .mv (.slot 0) },
                  { dst := some 36, op := .idxS (.slot 35) (.lit (.int .i64 0)) },
                  { dst := some 37, op := .bin .eql (.slot 36) (.lit (.int .u8 48)) }])
               (.cond (.slot 37)
                (.block 1 (.seq (.reg false [
                     { dst := some 41, op := .mv (.slot 0) },
                     { dst := some 42, op := .lenS (.slot 41) },
                     { dst := some 43, op := .bin .geq (.slot 42) (.lit (.int .i64 3)) },
                     { dst := some 44, op := .mv (.slot 43) },
                     { dst := some 45, op := .mv (.slot 0), guard := some (44, true) },
                     { dst := some 46, op := .idxS (.slot 45) (.lit (.int .i64 1)), guard := some (44, true) },
                     { dst := some 47, op := .callP (.lit (.fn (I 163) [])) [(.slot 46)] false false, guard := some (44, true) },
                     { dst := some 48, op := .bin .eql (.slot 47) (.lit (.int .u8 98)), guard := some (44, true) },
                     { dst := some 49, op := .pick (.slot 44) (.slot 48) (.lit (.bool false)) },
                     { dst := some 40, op := .mv (.slot 49) }])
                  (.cond (.slot 40)
                   (.seq (.reg false [
                       { dst := some 1, op := .mv (.lit (.int .i64 2)) }])
                    (.reg false [
                       { dst := some 50, op := .mv (.slot 0) },
                       { dst := some 51, op := .slcS (.slot 50) (some (.lit (.int .i64 2))) none },
                       { dst := some 0, op := .mv (.slot 51) }]))
                   (.seq (.reg false [
                       { dst := some 53, op := .mv (.slot 0) },
                       { dst := some 54, op := .lenS (.slot 53) },
                       { dst := some 55, op := .bin .geq (.slot 54) (.lit (.int .i64 3)) },
                       { dst := some 56, op := .mv (.slot 55) },
                       { dst := some 57, op := .mv (.slot 0), guard := some (56, true) },
                       { dst := some 58, op := .idxS (.slot 57) (.lit (.int .i64 1)), guard := some (56, true) },
                       { dst := some 59, op := .callP (.lit (.fn (I 163) [])) [(.slot 58)] false false, guard := some (56, true) },
                       { dst := some 60, op := .bin .eql (.slot 59) (.lit (.int .u8 111)), guard := some (56, true) },
                       { dst := some 61, op := .pick (.slot 56) (.slot 60) (.lit (.bool false)) },
                       { dst := some 52, op := .mv (.slot 61) }])
                    (.cond (.slot 52)
                     (.seq (.reg false [
                         { dst := some 1, op := .mv (.lit (.int .i64 8)) }])
                      (.reg false [
                         { dst := some 62, op := .mv (.slot 0) },
                         { dst := some 63, op := .slcS (.slot 62) (some (.lit (.int .i64 2))) none },
                         { dst := some 0, op := .mv (.slot 63) }]))
                     (.seq (.reg false [
                         { dst := some 65, op := .mv (.slot 0) },
                         { dst := some 66, op := .lenS (.slot 65) },
                         { dst := some 67, op := .bin .geq (.slot 66) (.lit (.int .i64 3)) },
                         { dst := some 68, op := .mv (.slot 67) },
                         { dst := some 69, op := .mv (.slot 0), guard := some (68, true) },
                         { dst := some 70, op := .idxS (.slot 69) (.lit (.int .i64 1)), guard := some (68, true) },
                         { dst := some 71, op := .callP (.lit (.fn (I 163) [])) [(.slot 70)] false false, guard := some (68, true) },
                         { dst := some 72, op := .bin .eql (.slot 71) (.lit (.int .u8 120)), guard := some (68, true) },
                         { dst := some 73, op := .pick (.slot 68) (.slot 72) (.lit (.bool false)) },
                         { dst := some 64, op := .mv (.slot 73) }])
                      (.cond (.slot 64)
                       (.seq (.reg false [
                           { dst := some 1, op := .mv (.lit (.int .i64 16)) }])
                        (.reg false [
                           { dst := some 74, op := .mv (.slot 0) },
                           { dst := some 75, op := .slcS (.slot 74) (some (.lit (.int .i64 2))) none },
                           { dst := some 0, op := .mv (.slot 75) }]))
                       (.seq (.reg false [
                           { dst := some 1, op := .mv (.lit (.int .i64 8)) }])
                        (.reg false [
                           { dst := some 38, op := .mv (.slot 0) },
                           { dst := some 39, op := .slcS (.slot 38) (some (.lit (.int .i64 1))) none },
                           { dst := some 0, op := .mv (.slot 39) }])))))))))
                (.skip))))
             (.seq (.reg false [
                 { dst := some 24, op := .bad },
                 { dst := some 6, op := .mv (.lit (.int .u64 0)) },
                 { dst := some 7, op := .mv (.slot 24) }])
              (.ret)))))))
        (.seq (.seq (.reg false [
             { dst := some 76, op := .mv (.slot 2) },
             { dst := some 77, op := .bin .eql (.slot 76) (.lit (.int .i64 0)) }])
          (.cond (.slot 77)
           (.reg false [
              { dst := some 2, op := .mv (.lit (.int .i64 64)) }])
           (.seq (.reg false [
               { dst := some 78, op := .mv (.slot 2) },
               { dst := some 79, op := .bin .lss (.slot 78) (.lit (.int .i64 0)) },
               { dst := some 80, op := .mv (.slot 79) },
               { dst := some 81, op := .mv (.slot 2), guard := some (80, false) },
               { dst := some 82, op := .bin .gtr (.slot 81) (.lit (.int .i64 64)), guard := some (80, false) },
               { dst := some 83, op := .pick (.slot 80) (.lit (.bool true)) (.slot 82) }])
            (.cond (.slot 83)
             (.seq (.reg false [
                 { dst := some 84, op := .bad },
                 { dst := some 6, op := .mv (.lit (.int .u64 0)) },
                 { dst := some 7, op := .mv (.slot 84) }])
              (.ret))
             (.skip)))))
         (.seq (.reg false [
             { dst := some 10, op := .mv (.lit (.int .u64 0)) }])
          (.seq (.seq (.reg false [
               { dst := some 85, op := .mv (.slot 1) }])
            (.block 2 (.seq (.reg false [
                 { dst := some 91, op := .bin .eql (.slot 85) (.lit (.int .i64 10)) },
                 { dst := some 90, op := .mv (.slot 91) }])
              (.cond (.slot 90)
               (.reg false [
                  { dst := some 10, op := .mv (.lit (.int .u64 1844674407370955162)) }])
               (.seq (.reg false [
                   { dst := some 93, op := .bin .eql (.slot 85) (.lit (.int .i64 16)) },
                   { dst := some 92, op := .mv (.slot 93) }])
                (.cond (.slot 92)
                 (.reg false [
                    { dst := some 10, op := .mv (.lit (.int .u64 1152921504606846976)) }])
                 (.reg false [
                    { dst := some 86, op := .mv (.slot 1) },
                    { dst := some 87, op := .conv .u64 (.slot 86) },
                    { dst := some 88, op := .bin .quo (.lit (.int .u64 18446744073709551615)) (.slot 87) },
                    { dst := some 89, op := .bin .add (.slot 88) (.lit (.int .u64 1)) },
                    { dst := some 10, op := .mv (.slot 89) }])))))))
           (.seq (.reg false [
               { dst := some 94, op := .mv (.slot 2) },
               { dst := some 95, op := .conv .u64 (.slot 94) },
               { dst := some 96, op := .bin .shl (.lit (.int .u64 1)) (.slot 95) },
               { dst := some 97, op := .bin .sub (.slot 96) (.lit (.int .u64 1)) },
               { dst := some 11, op := .mv (.slot 97) }])
            (.seq (.reg false [
                { dst := some 12, op := .mv (.lit (.bool false)) }])
             (.seq (.reg false [
                 { dst := some 13, op := .mv (.lit (.int .u64 0)) }])
              (.seq (.seq (.reg false [
                   { dst := some 98, op := .mv (.slot 0) },
                   { dst := some 99, op := .bad },
                   { dst := some 100, op := .lenL (.slot 99) },
                   { dst := some 101, op := .mv (.lit (.int .i64 0)) }])
                (.block 3 (.loop [1, 8, 9, 10, 11, 12, 13, 99, 100, 101] [] (F160_0 I J))))
               (.seq (.seq (.reg false [
                    { dst := some 164, op := .mv (.slot 12) },
                    { dst := some 165, op := .mv (.slot 164) },
                    { dst := some 166, op := .mv (.slot 9), guard := some (165, true) },
                    { dst := some 167, op := .callP (.lit (.fn (I 164) [])) [(.slot 166)] false false, guard := some (165, true) },
                    { dst := some 168, op := .un .not (.slot 167), guard := some (165, true) },
                    { dst := some 169, op := .pick (.slot 165) (.slot 168) (.lit (.bool false)) }])
                 (.cond (.slot 169)
                  (.seq (.reg false [
                      { dst := some 170, op := .bad },
                      { dst := some 6, op := .mv (.lit (.int .u64 0)) },
                      { dst := some 7, op := .mv (.slot 170) }])
                   (.ret))
                  (.skip)))
                (.seq (.reg false [
                    { dst := some 171, op := .mv (.slot 13) },
                    { dst := some 6, op := .mv (.slot 171) },
                    { dst := some 7, op := .bad }])
                 (.ret))))))))))))))
  res := [.tmp 6, .tmp 7]
  keepOwn := false

/-- strconv.toError -/
def F161 (I J : Nat → Nat) : AFunc where
  code := .seq (.reg false [
       { dst := some 10, op := .bad }])
    (.seq (.seq (.reg false [
         { dst := some 11, op := .mv (.slot 4) }])
      (.block 0 (.seq (.reg false [
           { dst := some 13, op := .bad },
           { dst := some 14, op := .bad },
           { dst := some 12, op := .mv (.slot 14) }])
        (.cond (.slot 12)
         (.seq (.reg false [
             { dst := some 15, op := .mv (.slot 0) },
             { dst := some 16, op := .mv (.slot 1) },
             { dst := some 17, op := .callP (.lit (.fn (I 165) [])) [(.slot 15), (.slot 16)] false false },
             { dst := some 18, op := .bad },
             { dst := some 10, op := .mv (.slot 18) }])
          (.ret))
         (.seq (.reg false [
             { dst := some 20, op := .bad },
             { dst := some 21, op := .bad },
             { dst := some 19, op := .mv (.slot 21) }])
          (.cond (.slot 19)
           (.seq (.reg false [
               { dst := some 22, op := .mv (.slot 0) },
               { dst := some 23, op := .mv (.slot 1) },
               { dst := some 24, op := .callP (.lit (.fn (I 166) [])) [(.slot 22), (.slot 23)] false false },
               { dst := some 25, op := .bad },
               { dst := some 10, op := .mv (.slot 25) }])
            (.ret))
           (.seq (.reg false [
               { dst := some 27, op := .bad },
               { dst := some 28, op := .bad },
               { dst := some 26, op := .mv (.slot 28) }])
            (.cond (.slot 26)
             (.seq (.reg false [
                 { dst := some 29, op := .mv (.slot 0) },
                 { dst := some 30, op := .mv (.slot 1) },
                 { dst := some 31, op := .mv (.slot 2) },
                 { dst := some 32, op := .callP (.lit (.fn (I 167) [])) [(.slot 29), (.slot 30), (.slot 31)] false false },
                 { dst := some 33, op := .bad },
                 { dst := some 10, op := .mv (.slot 33) }])
              (.ret))
             (.seq (.reg false [
                 { dst := some 35, op := .bad },
                 { dst := some 36, op := .bad },
                 { dst := some 34, op := .mv (.slot 36) }])
              (.cond (.slot 34)
               (.seq (.reg false [
                   { dst := some 37, op := .mv (.slot 0) },
                   { dst := some 38, op := .mv (.slot 1) },
                   { dst := some 39, op := .mv (.slot 3) },
                   { dst := some 40, op := .callP (.lit (.fn (I 168) [])) [(.slot 37), (.slot 38), (.slot 39)] false false },
                   { dst := some 41, op := .bad },
                   { dst := some 10, op := .mv (.slot 41) }])
                (.ret))
               (.skip)))))))))))
     (.seq (.reg false [
         { dst := some 42, op := .mv (.slot 4) },
         { dst := some 10, op := .mv (.slot 42) }])
      (.ret)))
  res := [.tmp 10]
  keepOwn := false

/-- (*strings.Builder).copyCheck -/
def F162 (I J : Nat → Nat) : AFunc where
  code := .seq (.reg false [
       { dst := some 2, op := .mv (.slot 0) },
       { dst := some 3, op := .nilc (.slot 2) },
       { dst := some 4, op := .faddr 0 (.slot 3) },
       { dst := some 5, op := .load1 (.slot 4) },
       { dst := some 6, op := .bad }])
    (.cond (.slot 6)
     (.reg false [
        { dst := some 7, op := .mv (.slot 0) },
        { dst := some 8, op := .mv (.slot 0) },
        { dst := some 9, op := .bad },
        { dst := some 10, op := .callP (.lit (.fn (I 169) [])) [(.slot 9)] false false },
        { dst := some 11, op := .bad },
        { dst := some 12, op := .nilc (.slot 7) },
        { dst := some 13, op := .faddr 0 (.slot 12) },
        { dst := none, op := .store1 (.slot 13) (.slot 11) }])
     (.seq (.reg false [
         { dst := some 14, op := .mv (.slot 0) },
         { dst := some 15, op := .nilc (.slot 14) },
         { dst := some 16, op := .faddr 0 (.slot 15) },
         { dst := some 17, op := .load1 (.slot 16) },
         { dst := some 18, op := .mv (.slot 0) },
         { dst := some 19, op := .bad }])
      (.cond (.slot 19)
       (.bad)
       (.skip))))
  res := []
  keepOwn := false

/-- internal/strconv.lower -/
def F163 (I J : Nat → Nat) : AFunc where
  code := .seq (.reg false [
       { dst := some 2, op := .mv (.lit (.int .u8 0)) }])
    (.seq (.reg false [
        { dst := some 3, op := .mv (.slot 0) },
        { dst := some 4, op := .bin .or (.slot 3) (.lit (.int .u8 32)) },
        { dst := some 2, op := .mv (.slot 4) }])
     (.ret))
  res := [.tmp 2]
  keepOwn := false

def F164_0 (I J : Nat → Nat) : AC :=
  .seq (.seq (.reg false [
        { dst := some 51, op := .mv (.slot 4) },
        { dst := some 52, op := .mv (.slot 0) },
        { dst := some 53, op := .lenS (.slot 52) },
        { dst := some 54, op := .bin .lss (.slot 51) (.slot 53) }])
     (.cond (.slot 54)
      (.skip)
      (.exit 0)))
    (.seq (.block 1 (.seq (.seq (.reg false [
           { dst := some 57, op := .mv (.slot 0) },
           { dst := some 58, op := .mv (.slot 4) },
           { dst := some 59, op := .idxS (.slot 57) (.slot 58) },
           { dst := some 60, op := .bin .leq (.lit (.int .u8 48)) (.slot 59) },
           { dst := some 61, op := .mv (.slot 60) },
           { dst := some 62, op := .mv (.slot 0), guard := some (61, true) },
           { dst := some 63, op := .mv (.slot 4), guard := some (61, true) },
           { dst := some 64, op := .idxS (.slot 62) (.slot 63), guard := some (61, true) },
           { dst := some 65, op := .bin .leq (.slot 64) (.lit (.int .u8 57)), guard := some (61, true) },
           { dst := some 66, op := .pick (.slot 61) (.slot 65) (.lit (.bool false)) },
           { dst := some 67, op := .mv (.slot 66) },
           { dst := some 68, op := .mv (.slot 5), guard := some (67, false) },
           { dst := some 69, op := .mv (.slot 68), guard := some (67, false) },
           { dst := some 70, op := .mv (.slot 0), guard := some (69, true) },
           { dst := some 71, op := .mv (.slot 4), guard := some (69, true) },
           { dst := some 72, op := .idxS (.slot 70) (.slot 71), guard := some (69, true) },
           { dst := some 73, op := .callP (.lit (.fn (I 163) [])) [(.slot 72)] false false, guard := some (69, true) },
           { dst := some 74, op := .bin .leq (.lit (.int .u8 97)) (.slot 73), guard := some (69, true) },
           { dst := some 75, op := .pick (.slot 69) (.slot 74) (.lit (.bool false)), guard := some (67, false) },
           { dst := some 76, op := .mv (.slot 75), guard := some (67, false) },
           { dst := some 77, op := .mv (.slot 0), guard := some (76, true) },
           { dst := some 78, op := .mv (.slot 4), guard := some (76, true) },
           { dst := some 79, op := .idxS (.slot 77) (.slot 78), guard := some (76, true) },
           { dst := some 80, op := .callP (.lit (.fn (I 163) [])) [(.slot 79)] false false, guard := some (76, true) },
           { dst := some 81, op := .bin .leq (.slot 80) (.lit (.int .u8 102)), guard := some (76, true) },
           { dst := some 82, op := .pick (.slot 76) (.slot 81) (.lit (.bool false)), guard := some (67, false) },
           { dst := some 83, op := .pick (.slot 67) (.lit (.bool true)) (.slot 82) }])
        (.cond (.slot 83)
         (.seq (.reg false [
             { dst := some 3, op := .mv (.lit (.int .i32 48)) }])
          (.exit 1))
         (.skip)))
       (.seq (.seq (.reg false [
            { dst := some 84, op := .mv (.slot 0) },
            { dst := some 85, op := .mv (.slot 4) },
            { dst := some 86, op := .idxS (.slot 84) (.slot 85) },
            { dst := some 87, op := .bin .eql (.slot 86) (.lit (.int .u8 95)) }])
         (.cond (.slot 87)
          (.seq (.seq (.reg false [
               { dst := some 88, op := .mv (.slot 3) },
               { dst := some 89, op := .bin .neq (.slot 88) (.lit (.int .i32 48)) }])
            (.cond (.slot 89)
             (.seq (.reg false [
                 { dst := some 2, op := .mv (.lit (.bool false)) }])
              (.ret))
             (.skip)))
           (.seq (.reg false [
               { dst := some 3, op := .mv (.lit (.int .i32 95)) }])
            (.exit 1)))
          (.skip)))
        (.seq (.seq (.reg false [
             { dst := some 90, op := .mv (.slot 3) },
             { dst := some 91, op := .bin .eql (.slot 90) (.lit (.int .i32 95)) }])
          (.cond (.slot 91)
           (.seq (.reg false [
               { dst := some 2, op := .mv (.lit (.bool false)) }])
            (.ret))
           (.skip)))
         (.reg false [
            { dst := some 3, op := .mv (.lit (.int .i32 33)) }])))))
     (.reg false [
        { dst := some 55, op := .mv (.slot 4) },
        { dst := some 56, op := .bin .add (.slot 55) (.lit (.int .i64 1)) },
        { dst := some 4, op := .mv (.slot 56) }]))
/-- internal/strconv.underscoreOK -/
def F164 (I J : Nat → Nat) : AFunc where
  code := .seq (.reg false [
       { dst := some 2, op := .mv (.lit (.bool false)) }])
    (.seq (.reg false [
        { dst := some 3, op := .mv (.lit (.int .i32 94)) }])
     (.seq (.reg false [
         { dst := some 4, op := .mv (.lit (.int .i64 0)) }])
      (.seq (.seq (.reg false [
           { dst := some 6, op := .mv (.slot 0) },
           { dst := some 7, op := .lenS (.slot 6) },
           { dst := some 8, op := .bin .geq (.slot 7) (.lit (.int .i64 1)) },
           { dst := some 9, op := .mv (.slot 8) },
           { dst := some 10, op := .mv (.slot 0), guard := some (9, true) },
           { dst := some 11, op := .idxS (.slot 10) (.lit (.int .i64 0)), guard := some (9, true) },
           { dst := some 12, op := .bin .eql (.slot 11) (.lit (.int .u8 45)), guard := some (9, true) },
           { dst := some 13, op := .mv (.slot 12), guard := some (9, true) },
           { dst := some 14, op := .mv (.slot 0), guard := some (13, false) },
           { dst := some 15, op := .idxS (.slot 14) (.lit (.int .i64 0)), guard := some (13, false) },
           { dst := some 16, op := .bin .eql (.slot 15) (.lit (.int .u8 43)), guard := some (13, false) },
           { dst := some 17, op := .pick (.slot 13) (.lit (.bool true)) (.slot 16), guard := some (9, true) },
           { dst := some 18, op := .pick (.slot 9) (.slot 17) (.lit (.bool false)) }])
        (.cond (.slot 18)
         (.reg false [
            { dst := some 19, op := .mv (.slot 0) },
            { dst := some 20, op := .slcS (.slot 19) (some (.lit (.int .i64 1))) none },
            { dst := some 0, op := .mv (.slot 20) }])
         (.skip)))
       (.seq (.reg false [
           { dst := some 5, op := .mv (.lit (.bool false)) }])
        (.seq (.seq (.reg false [
             { dst := some 21, op := .mv (.slot 0) },
             { dst := some 22, op := .lenS (.slot 21) },
             { dst := some 23, op := .bin .geq (.slot 22) (.lit (.int .i64 2)) },
             { dst := some 24, op := .mv (.slot 23) },
             { dst := some 25, op := .mv (.slot 0), guard := some (24, true) },
             { dst := some 26, op := .idxS (.slot 25) (.lit (.int .i64 0)), guard := some (24, true) },
             { dst := some 27, op := .bin .eql (.slot 26) (.lit (.int .u8 48)), guard := some (24, true) },
             { dst := some 28, op := .pick (.slot 24) (.slot 27) (.lit (.bool false)) },
             { dst := some 29, op := .mv (.slot 28) },
             { dst := some 30, op := .mv (.slot 0), guard := some (29, true) },
             { dst := some 31, op := .idxS (.slot 30) (.lit (.int .i64 1)), guard := some (29, true) },
             { dst := some 32, op := .callP (.lit (.fn (I 163) [])) [(.slot 31)] false false, guard := some (29, true) },
             { dst := some 33, op := .bin .eql (.slot 32) (.lit (.int .u8 98)), guard := some (29, true) },
             { dst := some 34, op := .mv (.slot 33), guard := some (29, true) },
             { dst := some 35, op := .mv (.slot 0), guard := some (34, false) },
             { dst := some 36, op := .idxS (.slot 35) (.lit (.int .i64 1)), guard := some (34, false) },
             { dst := some 37, op := .callP (.lit (.fn (I 163) [])) [(.slot 36)] false false, guard := some (34, false) },
             { dst := some 38, op := .bin .eql (.slot 37) (.lit (.int .u8 111)), guard := some (34, false) },
             { dst := some 39, op := .pick (.slot 34) (.lit (.bool true)) (.slot 38), guard := some (29, true) },
             { dst := some 40, op := .mv (.slot 39), guard := some (29, true) },
             { dst := some 41, op := .mv (.slot 0), guard := some (40, false) },
             { dst := some 42, op := .idxS (.slot 41) (.lit (.int .i64 1)), guard := some (40, false) },
             { dst := some 43, op := .callP (.lit (.fn (I 163) [])) [(.slot 42)] false false, guard := some (40, false) },
             { dst := some 44, op := .bin .eql (.slot 43) (.lit (.int .u8 120)), guard := some (40, false) },
             { dst := some 45, op := .pick (.slot 40) (.lit (.bool true)) (.slot 44), guard := some (29, true) },
             { dst := some 46, op := .pick (.slot 29) (.slot 45) (.lit (.bool false)) }])
          (.cond (.slot 46)
           (.seq (.reg false [
               { dst := some 4, op := .mv (.lit (.int .i64 2)) }])
            (.seq (.reg false [
                { dst := some 3, op := .mv (.lit (.int .i32 48)) }])
             (.reg false [
                { dst := some 47, op := .mv (.slot 0) },
                { dst := some 48, op := .idxS (.slot 47) (.lit (.int .i64 1)) },
                { dst := some 49, op := .callP (.lit (.fn (I 163) [])) [(.slot 48)] false false },
                { dst := some 50, op := .bin .eql (.slot 49) (.lit (.int .u8 120)) },
                { dst := some 5, op := .mv (.slot 50) }])))
           (.skip)))
         (.seq (.block 0 (.loop [0, 3, 4, 5] [] (F164_0 I J)))
          (.seq (.reg false [
              { dst := some 92, op := .mv (.slot 3) },
              { dst := some 93, op := .bin .neq (.slot 92) (.lit (.int .i32 95)) },
              { dst := some 2, op := .mv (.slot 93) }])
           (.ret))))))))
  res := [.tmp 2]
  keepOwn := false

/-- strconv.syntaxError -/
def F165 (I J : Nat → Nat) : AFunc where
  code := .seq (.reg false [
       { dst := some 4, op := .mv (.lit (.nilptr)) }])
    (.seq (.reg true [
        { dst := some 5, op := .mv (.slot 0) },
        { dst := some 6, op := .mv (.slot 1) },
        { dst := some 7, op := .callP (.lit (.fn (I 170) [])) [(.slot 6)] false false },
        { dst := some 8, op := .load1 (.glob (J 3)) },
        { dst := some 9, op := .bad },
        { dst := some 10, op := .box (.slot 9) },
        { dst := some 4, op := .mv (.slot 10) }])
     (.ret))
  res := [.tmp 4]
  keepOwn := false

/-- strconv.rangeError -/
def F166 (I J : Nat → Nat) : AFunc where
  code := .seq (.reg false [
       { dst := some 4, op := .mv (.lit (.nilptr)) }])
    (.seq (.reg true [
        { dst := some 5, op := .mv (.slot 0) },
        { dst := some 6, op := .mv (.slot 1) },
        { dst := some 7, op := .callP (.lit (.fn (I 170) [])) [(.slot 6)] false false },
        { dst := some 8, op := .load1 (.glob (J 4)) },
        { dst := some 9, op := .bad },
        { dst := some 10, op := .box (.slot 9) },
        { dst := some 4, op := .mv (.slot 10) }])
     (.ret))
  res := [.tmp 4]
  keepOwn := false

/-- strconv.baseError -/
def F167 (I J : Nat → Nat) : AFunc where
  code := .seq (.reg false [
       { dst := some 6, op := .mv (.lit (.nilptr)) }])
    (.seq (.reg false [
        { dst := some 7, op := .mv (.slot 0) },
        { dst := some 8, op := .mv (.slot 1) },
        { dst := some 9, op := .callP (.lit (.fn (I 170) [])) [(.slot 8)] false false },
        { dst := some 10, op := .mv (.slot 2) },
        { dst := some 11, op := .callP (.lit (.fn (I 88) [])) [(.slot 10)] false false },
        { dst := some 12, op := .bin .add (.lit (.str [105, 110, 118, 97, 108, 105, 100, 32, 98, 97, 115, 101, 32])) (.slot 11) },
        { dst := some 13, op := .callP (.lit (.fn (I 171) [])) [(.slot 12)] false false },
        { dst := some 14, op := .bad },
        { dst := some 15, op := .box (.slot 14) },
        { dst := some 6, op := .mv (.slot 15) }])
     (.ret))
  res := [.tmp 6]
  keepOwn := false

/-- strconv.bitSizeError -/
def F168 (I J : Nat → Nat) : AFunc where
  code := .seq (.reg false [
       { dst := some 6, op := .mv (.lit (.nilptr)) }])
    (.seq (.reg false [
        { dst := some 7, op := .mv (.slot 0) },
        { dst := some 8, op := .mv (.slot 1) },
        { dst := some 9, op := .callP (.lit (.fn (I 170) [])) [(.slot 8)] false false },
        { dst := some 10, op := .mv (.slot 2) },
        { dst := some 11, op := .callP (.lit (.fn (I 88) [])) [(.slot 10)] false false },
        { dst := some 12, op := .bin .add (.lit (.str [105, 110, 118, 97, 108, 105, 100, 32, 98, 105, 116, 32, 115, 105, 122, 101, 32])) (.slot 11) },
        { dst := some 13, op := .callP (.lit (.fn (I 171) [])) [(.slot 12)] false false },
        { dst := some 14, op := .bad },
        { dst := some 15, op := .box (.slot 14) },
        { dst := some 6, op := .mv (.slot 15) }])
     (.ret))
  res := [.tmp 6]
  keepOwn := false

/-- internal/stringslite.Clone -/
def F170 (I J : Nat → Nat) : AFunc where
  code := .seq (.reg false [
       { dst := some 2, op := .mv (.lit (.str [])) }])
    (.seq (.seq (.reg false [
         { dst := some 4, op := .mv (.slot 0) },
         { dst := some 5, op := .lenS (.slot 4) },
         { dst := some 6, op := .bin .eql (.slot 5) (.lit (.int .i64 0)) }])
      (.cond (.slot 6)
       (.seq (.reg false [
           { dst := some 2, op := .mv (.lit (.str [])) }])
        (.ret))
       (.skip)))
     (.seq (.reg false [
         { dst := some 7, op := .mv (.slot 0) },
         { dst := some 8, op := .lenS (.slot 7) },
         { dst := some 9, op := .mks false false 1 (.int .u8 0) (.slot 8) (.slot 8) },
         { dst := some 3, op := .mv (.slot 9) }])
      (.seq (.reg false [
          { dst := some 10, op := .mv (.slot 3) },
          { dst := some 11, op := .mv (.slot 0) },
          { dst := some 12, op := .bad }])
       (.seq (.reg false [
           { dst := some 13, op := .mv (.slot 3) },
           { dst := some 14, op := .iaddr 1 (.slot 13) (.lit (.int .i64 0)) },
           { dst := some 15, op := .mv (.slot 3) },
           { dst := some 16, op := .lenL (.slot 15) },
           { dst := some 17, op := .bad },
           { dst := some 2, op := .mv (.slot 17) }])
        (.ret)))))
  res := [.tmp 2]
  keepOwn := false

/-- errors.New -/
def F171 (I J : Nat → Nat) : AFunc where
  code := .seq (.reg false [
       { dst := some 2, op := .bad }])
    (.seq (.reg false [
        { dst := some 3, op := .mv (.slot 0) },
        { dst := some 4, op := .build [.str []] [(0, 1, (.slot 3))] },
        { dst := some 5, op := .box (.slot 4) },
        { dst := some 6, op := .bad },
        { dst := some 2, op := .mv (.slot 6) }])
     (.ret))
  res := [.tmp 2]
  keepOwn := false

end Go.Vs.C
