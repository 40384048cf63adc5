/- The engine, part 6 of 35: pieces of the interpreter and of its soundness. No condition. -/
import Derived.Test.YtiggbefjndkkmaaGreatDoorE5
namespace Go.Abs

variable {P : Program} {m : Nat}

/-- What an operation comes to. -/
def NextR (φ : Inj) : Next → Next → Prop
  | .value v, .value v' => VR φ v v'
  | .skip, .skip => True
  | _, _ => False

theorem sim_v {φ : Inj} {s s' : Sem Value} (h : Sim P m VR φ s s') : Sim P m NextR φ (do pure (.value (← s))) (do pure (.value (← s'))) :=
  sim_bind h fun φ' _ x y hxy => sim_pure hxy

theorem sim_u {φ : Inj} {s s' : Sem Unit} {R : Inj → Unit → Unit → Prop} (h : Sim P m R φ s s') : Sim P m NextR φ (do s; pure .skip) (do s'; pure .skip) :=
  sim_bind h fun φ' _ x y hxy => sim_pure (R := NextR) trivial

theorem arun_runtimePanic {α : Type} (e : RuntimeError) (H : AH) : arun P m (runtimePanic e : Sem α) H = none := by
  cases e <;> simp only [Go.runtimePanic, bind, arun_bind, arun, program, goPanic, newVar, newRow, newObj, pure, elemOf, underlying] <;>
    (repeat' split) <;> simp_all [stuck]

theorem arun_bind_none {α β : Type} (s : Sem α) (k : α → Sem β) (h : ∀ a H, arun P m (k a) H = none) (H : AH) : arun P m (s >>= k) H = none := by
  change arun P m (s.bind k) H = none
  rw [arun_bind]
  split
  · exact h _ _
  · rfl

theorem arun_none_bind {α β : Type} (s : Sem α) (k : α → Sem β) (H : AH) (h : arun P m s H = none) : arun P m (s >>= k) H = none := by
  change arun P m (s.bind k) H = none
  rw [arun_bind, h]

theorem sim_none {α β : Type} {R : Inj → α → β → Prop} {φ : Inj} {s : Sem α} {s' : Sem β} (h : ∀ H, arun P m s H = none) : Sim P m R φ s s' := by
  intro H w x H' hr
  rw [h] at hr; cases hr

theorem sim_runtimePanic {α β : Type} {R : Inj → α → β → Prop} {φ : Inj} (e : RuntimeError) {s' : Sem β} : Sim P m R φ (runtimePanic e) s' := sim_none (arun_runtimePanic e)

theorem sim_choose {φ : Inj} (q : Question) : Sim P m (EqR Nat) φ (choose q) (choose q) := by
  intro H w z H' hr hi
  simp only [Go.choose, arun] at hr
  cases hq : q.forced with
  | false => rw [hq] at hr; cases hr
  | true =>
    rw [hq] at hr
    simp only [cond_true, Option.some.injEq, Prod.mk.injEq] at hr
    obtain ⟨rfl, rfl⟩ := hr
    exact ⟨φ, 0, w, by simp [Go.choose, Sem.run, hq], hi, Step.refl _ _ _ _, rfl⟩

theorem sim_boundsPanic {α β : Type} {R : Inj → α → β → Prop} {φ : Inj} (k : IntKind) (x y : Int) (c : BoundsCode) {s' : Sem β} : Sim P m R φ (boundsPanic k x y c) s' := by
  refine sim_none fun H => ?_
  unfold Go.boundsPanic
  show arun P m (if _ then _ else _) H = none
  split
  · exact arun_bind_none _ _ (fun a H => arun_runtimePanic _ _) H
  · exact arun_bind_none _ _ (fun a H => arun_runtimePanic _ _) H

theorem sim_askRoom {φ : Inj} (n : Nat) : Sim P m (EqR Unit) φ (askRoom n) (askRoom n) := by
  intro H w z H' hr hi
  unfold Go.askRoom at hr ⊢
  split at hr <;> simp only [mark, arun, pure, Option.some.injEq, Prod.mk.injEq] at hr <;> obtain ⟨_, rfl⟩ := hr
  · exact ⟨φ, (), w, by split <;> rfl, hi, Step.refl _ _ _ _, rfl⟩
  · exact ⟨φ, (), w, by split <;> rfl, hi, Step.refl _ _ _ _, rfl⟩

theorem sim_asIntOf {φ : Inj} {v v' : Value} (h : VR φ v v') : Sim P m (EqR (IntKind × Int)) φ (asIntOf v) (asIntOf v') := by
  cases h <;> first | exact sim_pure rfl | exact sim_halt

theorem sim_asInt {φ : Inj} {v v' : Value} (h : VR φ v v') : Sim P m (EqR Int) φ (asInt v) (asInt v') := by
  unfold Go.asInt
  exact sim_bind (sim_asIntOf h) fun φ' _ x y e => by cases e; exact sim_pure rfl

theorem sim_asAgg {φ : Inj} {v v' : Value} (h : VR φ v v') : Sim P m AR φ (asAgg v) (asAgg v') := by
  cases h <;> first | exact sim_halt | (rename_i hf h1; exact sim_pure ⟨hf, h1⟩)

theorem sim_sureAddr {φ : Inj} {v v' : Value} (h : VR φ v v') : Sim P m AddrR φ (Instr.sureAddr v) (Instr.sureAddr v') := by
  cases h <;> first | exact sim_halt | (rename_i h; exact sim_pure ⟨rfl, _, h, rfl⟩)

theorem sim_zeroValue {φ : Inj} {t : TypeId} (hz : zflat P t = true) : Sim P m (fun φ x y => x = y ∧ flat depth x = true) φ (zeroValue t) (zeroValue t) := by
  intro H w z H' hr hi
  unfold Go.zeroValue at hr ⊢
  unfold Go.typeInfo at hr ⊢
  simp only [bind, arun_bind, program, arun] at hr
  unfold zflat at hz
  cases hp : P.info? t with
  | none => rw [hp] at hr; simp [stuck, arun] at hr
  | some i =>
    rw [hp] at hr hz
    simp only [pure, arun] at hr hz
    cases hq : i.zero with
    | none => rw [hq] at hr; simp [unsupported, arun] at hr
    | some q =>
      rw [hq] at hr hz
      simp only [arun, Option.some.injEq, Prod.mk.injEq] at hr hz
      obtain ⟨rfl, rfl⟩ := hr
      refine ⟨φ, q, w, ?_, hi, Step.refl _ _ _ _, rfl, hz⟩
      simp [program, Sem.run, hp, hq]

theorem flat_cells {v : Value} (h : flat depth v = true) : ∀ (i : Nat) (x : Value), v.cells[i]? = some x → flat depth x = true ∨ flat 7 x = true := by
  intro i x hx
  cases v with
  | agg cs =>
    simp only [Value.cells] at hx
    simp only [depth, flat] at h
    rw [Array.all_eq_true] at h
    rw [Array.getElem?_eq_some_iff] at hx
    obtain ⟨hi, rfl⟩ := hx
    exact .inr (h i hi)
  | _ =>
    simp only [Value.cells] at hx
    rw [Array.getElem?_eq_some_iff] at hx
    obtain ⟨hi, rfl⟩ := hx
    simp only [List.size_toArray, List.length_cons, List.length_nil, Nat.zero_add, Nat.lt_one_iff] at hi
    subst hi
    exact .inl h

theorem flat_cells_refl {φ : Inj} {v : Value} (h : flat depth v = true) : AR φ v.cells v.cells :=
  ⟨rfl, fun i x y hx hy => by
    rw [hx] at hy; cases hy
    rcases flat_cells h i x hx with h | h <;> exact flat_refl _ h⟩

/-- A new variable of a type. -/
theorem sim_alloc {φ : Inj} {t : TypeId} (hz : zflat P t = true) (b : Bool) : Sim P m VR φ (Instr.alloc t true (.tuple #[])) (Instr.alloc t true (.tuple #[])) := by
  unfold Instr.alloc
  refine sim_bind (sim_zeroValue hz) fun φ1 h1 x y e => ?_
  obtain ⟨rfl, hf⟩ := e
  exact sim_bind (sim_newVar t (flat_refl _ hf)) fun φ2 h2 a a' ha => sim_pure ha.ptr

theorem sim_box {φ : Inj} {v v' : Value} (t : TypeId) (hv : VR φ v v') : Sim P m VR φ (Instr.box t v) (Instr.box t v') := by
  unfold Instr.box
  exact sim_bind (sim_newVar t hv) fun φ2 h2 a a' ha => sim_pure ha.ptr

theorem sim_loadAt {φ : Inj} {v v' : Value} (t : TypeId) (hv : VR φ v v') : Sim P m VR φ (Instr.loadAt t v) (Instr.loadAt t v') := by
  unfold Instr.loadAt
  exact sim_bind (sim_sureAddr hv) fun φ2 h2 a a' ha => sim_loadVar t ha

theorem sim_storeAt {φ : Inj} {v v' x x' : Value} (t : TypeId) (hv : VR φ v v') (hx : VR φ x x') : Sim P m (EqR Unit) φ (Instr.storeAt t v x) (Instr.storeAt t v' x') := by
  unfold Instr.storeAt
  exact sim_bind (sim_sureAddr hv) fun φ2 h2 a a' ha => sim_storeVar t ha (hx.mono h2)

theorem sim_part {φ : Inj} {f f' : Array Value} (t : TypeId) (off : Nat) (hf : AR φ f f') : Sim P m VR φ (part t f off) (part t f' off) := by
  unfold Go.part
  refine sim_bind (sim_isAgg t) fun φ1 h1 x y e => ?_
  cases e
  cases x
  · simp only [Bool.false_eq_true, if_false]
    cases hx : f[off]? with
    | none => exact sim_halt
    | some u =>
      obtain ⟨u', h2, h3⟩ := hf.get hx
      rw [h2]
      exact sim_pure (h3.mono h1)
  · simp only [if_true]
    refine sim_bind (sim_sizeOf t) fun φ2 h2 n n' e => ?_
    cases e
    have := ((hf.mono h1).mono h2).extract off (off + n)
    exact sim_pure (.agg _ _ this.1 this.2)

theorem sim_field {φ : Inj} {v v' : Value} (t : TypeId) (k : Nat) (hv : VR φ v v') : Sim P m VR φ (Instr.field t v k) (Instr.field t v' k) := by
  unfold Instr.field
  refine sim_bind (sim_underlying t) fun φ1 h1 d d' e => ?_
  cases e
  cases d with
  | struct fields =>
    simp only
    cases fields[k]? with
    | none => exact sim_halt
    | some f =>
      simp only
      exact sim_bind (sim_asAgg (hv.mono h1)) fun φ2 h2 f1 f2 hf => sim_part _ _ hf
  | _ => exact sim_halt

theorem sim_fieldPlace {φ : Inj} {a a' : Addr} (f : Field) (ha : AddrR φ a a') : Sim P m AddrR φ (fieldPlace a f) (fieldPlace a' f) := by
  unfold Go.fieldPlace
  refine sim_bind (sim_sizeOf _) fun φ1 h1 n n' e => ?_
  cases e
  split
  · intro H w x H' hr
    exfalso
    unfold partAt byteOf at hr
    simp only [bind, arun_bind, pure] at hr
    obtain ⟨h1, _⟩ := ha
    rw [h1] at hr
    simp [arun, program, arun_bind, noView, viewAt, shape, bind] at hr
  · exact sim_pure ((ha.mono h1).add _)

theorem sim_fieldAt {φ : Inj} {v v' : Value} (t : TypeId) (k : Nat) (hv : VR φ v v') : Sim P m VR φ (Instr.fieldAt t v k) (Instr.fieldAt t v' k) := by
  unfold Instr.fieldAt
  refine sim_bind (sim_underlying t) fun φ1 h1 d d' e => ?_
  cases e
  cases d with
  | struct fields =>
    simp only
    cases fields[k]? with
    | none => exact sim_halt
    | some f =>
      simp only
      refine sim_bind (sim_sureAddr (hv.mono h1)) fun φ2 h2 a a' ha => ?_
      exact sim_bind (sim_fieldPlace f ha) fun φ3 h3 b b' hb => sim_pure hb.ptr
  | _ => exact sim_halt

end Go.Abs
