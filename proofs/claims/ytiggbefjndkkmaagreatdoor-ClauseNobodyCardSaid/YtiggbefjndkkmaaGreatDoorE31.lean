/- The engine, part 31 of 35: rows that hold true. No condition. -/
import Derived.Test.YtiggbefjndkkmaaGreatDoorE30
import Derived.ProofKit
import Derived.LaidLaws
import Derived.Deep.DeepLaidRun
namespace Go.Abs

variable {P : Program} {m : Nat}

/-! ### A call on arguments that are not looked into -/

def anyV : Value := .complex .f64 0 0

/-- An argument of which nothing is known but its outer form. -/
def anyArg (P : Program) (t : TypeId) : Value :=
  match P.underlying t with
  | some (.struct _) | some (.array _ _) => .agg (Array.replicate (P.cellsOf t) anyV)
  | _ => anyV

theorem one_of_cell {w : World} {r : Reach} {base : Nat} {t : TypeId} {v : Value} (h : Cell.okWide P w r base t v) : one v = true := by
  unfold Cell.okWide at h
  split at h <;> first | rfl | skip
  unfold Cell.ok at h
  split at h <;> first | rfl | exact h.elim

theorem vr_any {φ : Inj} {v : Value} (h : one v = true) : VR φ anyV v := .complex _ _ _ v h

theorem vr_anyArg {φ : Inj} {w : World} {r : Reach} {base : Nat} {t : TypeId} {v : Value} (h : Value.okWide P w r base t v) : VR φ (anyArg P t) v := by
  unfold Value.okWide at h
  unfold anyArg
  have agg : (∃ cs, v = .agg cs ∧ cs.size = P.cellsOf t ∧ Row.okWide P w r base t cs) → VR φ (.agg (Array.replicate (P.cellsOf t) anyV)) v := by
    rintro ⟨cs, rfl, hs, ts, _, _, hc⟩
    refine .agg _ cs (by simp [hs]) fun i x y hx hy => ?_
    obtain ⟨u, _, hk⟩ := hc i y hy
    have : x = anyV := by
      rw [Array.getElem?_replicate] at hx
      split at hx
      · cases hx; rfl
      · cases hx
    subst this
    exact vr_any (one_of_cell hk)
  split at h
  · rename_i e; rw [e]; exact agg h
  · rename_i e; rw [e]; exact agg h
  · rename_i h1 h2
    have hv := vr_any (φ := φ) (one_of_cell h)
    split
    · rename_i e; exact absurd e (h1 _)
    · rename_i e; exact absurd e (h2 _ _)
    · exact hv

/-! ### The start: the package-level variables in their places, nothing else -/

def φg (P : Program) : Inj := fun g => if g < P.globals.size then some ⟨g, 0, 0, 0⟩ else none

theorem glob_φg : Glob P (φg P) := fun g hg => ⟨⟨g, 0, 0, 0⟩, by simp [φg, hg], rfl, rfl⟩

theorem inv_start {W : World} (h : P.globals.size ≤ W.heap.size) : Inv (φg P) ⟨P.globals.size, .nil⟩ W := by
  refine ⟨fun id l hl => ?_, fun id b hb => (by cases hb), fun id id' b b' l l' hb => (by cases hb)⟩
  unfold φg at hl
  split at hl
  · rename_i hlt
    cases hl
    exact ⟨hlt, Nat.lt_of_lt_of_le hlt h⟩
  · cases hl

/-- Every package-level variable has its block at the start. -/
def globalsB (P : Program) : Bool := (List.range P.globals.size).all fun g => (((begin P (fun _ _ => 0) default).world.heap[g]?).bind Obj.row?).isSome

theorem globals_there (hB : globalsB P = true) {W : World} (h : W.ShapedOpen P) : P.globals.size ≤ W.heap.size := by
  unfold globalsB at hB
  rw [List.all_eq_true] at hB
  apply Classical.byContradiction
  intro hlt
  have hlt : W.heap.size < P.globals.size := by omega
  have := hB W.heap.size (List.mem_range.2 hlt)
  obtain ⟨⟨z, t⟩, hz⟩ := Option.isSome_iff_exists.1 this
  obtain ⟨cs, h1, _⟩ := h.1 W.heap.size z t hlt hz
  rw [Array.getElem?_eq_none (Nat.le_refl _)] at h1
  cases h1

open Go.RowKit in
/-- A law whose run looks at nothing of its arguments. -/
theorem true_of_run {ne : Nat} (hS : Sane P ne) {n : Nat} {f : Nat} {fn : Func} {c : Code} (hf : P.funcs[f]? = some fn) (hb : fn.body = some c) {args args' : Array Value}
    (h : (acall P ne n P.globals.size f args ⟨P.globals.size, .nil⟩).map (·.1) = some (.bool true)) (ha : AR (φg P) args args') {W : World} (hW : P.globals.size ≤ W.heap.size) :
    Calls P f args' W fun e W' => e = .returned (.bool true) ∧ Below W.heap.size W W' := by
  cases hr : acall P ne n P.globals.size f args ⟨P.globals.size, .nil⟩ with
  | none => rw [hr] at h; cases h
  | some r =>
    obtain ⟨v, H'⟩ := r
    rw [hr] at h
    simp only [Option.map_some, Option.some.injEq] at h
    subst h
    refine (acall_ok hS hf hb hr glob_φg ha (inv_start hW)).mono fun e W' hpost => ?_
    obtain ⟨φ', v', rfl, hv, _, hst⟩ := hpost
    cases hv
    exact ⟨rfl, hst.os, hst.tape, hst.output, hst.size, fun k hk => hst.keep k hk fun id l _ hs => by cases hs⟩

/-! ### The row -/

open Go.ChangeShapes in
theorem trodAll_below {H : Type} {enc : TypeId × Value → H} (hl : laidOutB P = true) {W W' : World} (hb : RowKit.Below W.heap.size W W') : ∀ (ts : List TypeId) (vs : List Value) (ds : List (DataW H)) (ps : List MemPlace),
    (∀ t ∈ ts, P.readableRec t = true ∧ t < P.types.size) → DataW.TrodAll enc P W 0 (fun _ => true) true ts vs ds ps → (∀ x ∈ ps, x.block < W.heap.size) → DataW.TrodAll enc P W' 0 (fun b => decide (b < W.heap.size)) true ts vs ds ps := by
  intro ts
  induction ts with
  | nil =>
    intro vs ds ps _ h _
    obtain ⟨rfl, rfl, rfl⟩ := trodAll_nil h
    exact trodAll_mk0
  | cons t ts ih =>
    intro vs ds ps ht h hlt
    obtain ⟨v, vs', d, ds', p, q, rfl, rfl, rfl, h1, h2⟩ := trodAll_cons h
    obtain ⟨hr, hs⟩ := ht t (by simp)
    exact ⟨p, q, RowKit.Below.trod hl hr hs h1 hb (fun x hx => hlt x (by simp [hx])), ih vs' ds' q (fun t h => ht t (by simp [h])) h2 (fun x hx => hlt x (by simp [hx])), rfl⟩

open Go.ChangeShapes in
theorem law_post {H : Type} {enc : TypeId × Value → H} {fn : Func} {s : ChangeSpec} {apart fresh handsOn : Bool} (hl : laidOutB P = true) (hts : ∀ t ∈ fn.params.toList, P.readableRec t = true ∧ t < P.types.size) (hv : s.vars = [])
    {tb : TypeId} (hres : fn.resultTypes = #[tb]) (hbool : P.underlying tb = some .bool) {W W' : World} {args : Array Value} {ds gs : List (DataW H)} {before : List MemPlace}
    (hW : DataW.Whole enc P fn.params.toList s.vars apart W args.toList ds gs before) (hs : (s.fn H ds).results = [.lit (.bool true)] ∧ (s.fn H ds).args = ds ∧ (s.fn H ds).vars = []) (hb : RowKit.Below W.heap.size W W') :
    s.post enc P fn apart fresh handsOn false W args (.bool true) W' := by
  have hW' := hW
  obtain ⟨p, q, hA, hV, hps, hfz, hnd⟩ := hW
  rw [hv] at hV
  obtain ⟨rfl, rfl⟩ := trodVars_none hV
  have hlt : ∀ x ∈ before, x.block < W.heap.size := fun x hx => hW'.lt x hx
  rw [List.append_nil] at hps
  subst hps
  refine ⟨ds, [], before, [], before, [], hW', ?_, ?_, ?_, hb.frame _, fun h => by cases h⟩
  · rw [List.append_nil, hs.1, hres]
    exact trodAll_mk1 ⟨1, by simp [DataW.trod, hbool, Value.cells]⟩
  · rw [List.append_nil, hs.2.1]
    exact trodAll_below hl hb _ _ _ _ hts hA hlt
  · rw [List.append_nil, hs.2.2, hv]
    rfl

end Go.Abs
