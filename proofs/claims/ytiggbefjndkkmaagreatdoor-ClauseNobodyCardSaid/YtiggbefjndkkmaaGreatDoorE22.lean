/- The engine, part 22 of 35: pieces of the interpreter and of its soundness. No condition. -/
import Derived.Test.YtiggbefjndkkmaaGreatDoorE21
namespace Go.Abs

variable {P : Program} {m : Nat} {α β : Type}

/-- It leaves the abstract heap as it is. -/
def HK (P : Program) (m : Nat) (s : Sem α) : Prop := ∀ H x H', arun P m s H = some (x, H') → H' = H

theorem hk_bind {s : Sem α} {k : α → Sem β} (h : HK P m s) (hk : ∀ a, HK P m (k a)) : HK P m (s >>= k) := by
  intro H x H' hr
  change arun P m (s.bind k) H = _ at hr
  rw [arun_bind] at hr
  cases hs : arun P m s H with
  | none => rw [hs] at hr; cases hr
  | some p =>
    obtain ⟨a, H1⟩ := p
    rw [hs] at hr
    have e1 := h H a H1 hs
    subst e1
    exact hk a _ x H' hr

theorem hk_pure (a : α) : HK P m (Pure.pure a : Sem α) := by
  intro H x H' hr
  have : some (a, H) = some (x, H') := hr
  simp only [Option.some.injEq, Prod.mk.injEq] at this
  exact this.2.symm

theorem hk_halt (h : Halt) : HK P m (Sem.halt h : Sem α) := by intro H x H' hr; simp [arun] at hr

theorem hk_none {s : Sem α} (h : ∀ H, arun P m s H = none) : HK P m s := by intro H x H' hr; rw [h] at hr; cases hr

theorem hk_program : HK P m program := by
  intro H x H' hr
  have : some (P, H) = some (x, H') := hr
  simp only [Option.some.injEq, Prod.mk.injEq] at this
  exact this.2.symm

theorem hk_load (a : Addr) (md : Mode) : HK P m (load a md) := by
  intro H x H' hr
  simp only [load, arun] at hr
  split at hr
  · simp only [Option.some.injEq, Prod.mk.injEq] at hr; exact hr.2.symm
  · cases hr

theorem hk_underlying (t : TypeId) : HK P m (underlying t) := hk_bind hk_program fun p => by cases p.underlying t <;> first | exact hk_pure _ | exact hk_halt _
theorem hk_typeInfo (t : TypeId) : HK P m (typeInfo t) := hk_bind hk_program fun p => by cases p.info? t <;> first | exact hk_pure _ | exact hk_halt _
theorem hk_sizeOf (t : TypeId) : HK P m (sizeOf t) := hk_bind (hk_typeInfo t) fun i => hk_pure _
theorem hk_isAgg (t : TypeId) : HK P m (isAgg t) := hk_bind (hk_underlying t) fun d => by cases d <;> exact hk_pure _
theorem hk_zero (t : TypeId) : HK P m (zeroValue t) := hk_bind (hk_typeInfo t) fun i => by cases i.zero <;> first | exact hk_pure _ | exact hk_halt _
theorem hk_asIntOf (v : Value) : HK P m (asIntOf v) := by
  cases v with
  | pointer a => cases a <;> exact hk_halt _
  | int k n => exact hk_pure _
  | _ => exact hk_halt _
theorem hk_sureAddr (v : Value) : HK P m (Instr.sureAddr v) := by
  cases v with
  | pointer a => cases a <;> first | exact hk_pure _ | exact hk_halt _
  | _ => exact hk_halt _
theorem hk_runtimePanic (e : RuntimeError) : HK P m (runtimePanic e : Sem α) := hk_none (arun_runtimePanic e)
theorem hk_boundsPanic (k : IntKind) (x y : Int) (c : BoundsCode) : HK P m (boundsPanic k x y c : Sem α) := by
  refine hk_none fun H => ?_
  unfold Go.boundsPanic
  show arun P m (if _ then _ else _) H = none
  split
  · exact arun_bind_none _ _ (fun a H => arun_runtimePanic _ _) H
  · exact arun_bind_none _ _ (fun a H => arun_runtimePanic _ _) H

theorem hk_loadCellsFrom (a : Addr) : ∀ (n i : Nat) (acc : Array Value), HK P m (loadCellsFrom a i n acc) := by
  intro n
  induction n with
  | zero => intro i acc; exact hk_pure _
  | succ n ih => intro i acc; exact hk_bind (hk_load _ _) fun v => ih _ _

theorem hk_loadVar (t : TypeId) (a : Addr) : HK P m (loadVar t a) := by
  refine hk_bind (hk_isAgg t) fun b => ?_
  cases b
  · exact hk_load _ _
  · exact hk_bind (hk_sizeOf t) fun n => hk_bind (hk_loadCellsFrom a n 0 #[]) fun cs => hk_pure _

theorem hk_part (t : TypeId) (cs : Array Value) (off : Nat) : HK P m (part t cs off) := by
  refine hk_bind (hk_isAgg t) fun b => ?_
  cases b
  · show HK P m (match cs[off]? with | some v => pure v | none => stuck "part: no such cell")
    cases cs[off]? with
    | none => exact hk_halt _
    | some v => exact hk_pure _
  · exact hk_bind (hk_sizeOf t) fun n => hk_pure _

theorem hk_loadAt (t : TypeId) (v : Value) : HK P m (Instr.loadAt t v) := hk_bind (hk_sureAddr v) fun a => hk_loadVar t a

theorem hk_fieldPlace (a : Addr) (f : Field) : HK P m (fieldPlace a f) := by
  refine hk_bind (hk_sizeOf _) fun n => ?_
  split
  · intro H x H' hr
    exfalso
    unfold partAt byteOf at hr
    simp only [bind, arun_bind, pure] at hr
    split at hr
    · rename_i u H1 hq
      revert hq
      cases hs : a.spot with
      | none => simp [arun, program, arun_bind, noView, viewAt, shape, bind]
      | some s =>
        simp only [arun, Option.some.injEq, Prod.mk.injEq]
        intro hq
        obtain ⟨rfl, rfl⟩ := hq
        simp [arun, program, arun_bind, noView, viewAt, shape, bind] at hr
    · cases hr
  · exact hk_pure _

theorem hk_fieldAt (t : TypeId) (v : Value) (k : Nat) : HK P m (Instr.fieldAt t v k) := by
  refine hk_bind (hk_underlying t) fun d => ?_
  cases d with
  | struct fs =>
    simp only
    cases fs[k]? with
    | none => exact hk_halt _
    | some f => exact hk_bind (hk_sureAddr v) fun a => hk_bind (hk_fieldPlace a f) fun b => hk_pure _
  | _ => exact hk_halt _

theorem hk_asAgg (v : Value) : HK P m (asAgg v) := by cases v <;> first | exact hk_pure _ | exact hk_halt _

theorem hk_field (t : TypeId) (v : Value) (k : Nat) : HK P m (Instr.field t v k) := by
  refine hk_bind (hk_underlying t) fun d => ?_
  cases d with
  | struct fs =>
    simp only
    cases fs[k]? with
    | none => exact hk_halt _
    | some f => exact hk_bind (hk_asAgg v) fun a => hk_part _ _ _
  | _ => exact hk_halt _

theorem hk_makeInterface (t : TypeId) (v : Value) : HK P m (Instr.makeInterface t v) := hk_bind (hk_underlying t) fun d => by cases d <;> first | exact hk_halt _ | exact hk_pure _

theorem hk_extract (v : Value) (k : Nat) : HK P m (Instr.extract v k) := by
  cases v with
  | tuple vs => simp only [Instr.extract]; cases vs[k]? <;> first | exact hk_halt _ | exact hk_pure _
  | _ => exact hk_halt _

theorem hk_index (t : TypeId) (x i : Value) : HK P m (Instr.index t x i) := by
  refine hk_bind (hk_asIntOf i) fun k => ?_
  obtain ⟨k, n⟩ := k
  refine hk_bind (hk_underlying t) fun d => ?_
  split
  · split
    · exact hk_bind (hk_sizeOf _) fun z => hk_part _ _ _
    · exact hk_boundsPanic _ _ _ _
  · split
    · exact hk_pure _
    · exact hk_boundsPanic _ _ _ _
  · exact hk_halt _

theorem hk_indexAt (t : TypeId) (x i : Value) : HK P m (Instr.indexAt t x i) := by
  refine hk_bind (hk_asIntOf i) fun k => ?_
  obtain ⟨k, n⟩ := k
  have tail : ∀ p : Option Addr × Nat × TypeId, HK P m (do
        let d ← underlying t
        match p.fst with
          | some a => (if 0 ≤ n ∧ n < ↑p.2.fst then (sizeOf p.2.snd >>= fun z => pure (Value.pointer (some (a.add (n.toNat * z))))) else (if (decide (p.2.fst ≤ 1) && (match d with | TypeDesc.array len elem => true | x => false)) = true then unsupported (.noEntry "op/indexAddr.an index out of range at an array of length 0 or 1 (ledger 616)") else boundsPanic k n (↑p.2.fst) BoundsCode.index))
          | none => boundsPanic k n 0 BoundsCode.index) := by
    intro p
    refine hk_bind (hk_underlying t) fun d => ?_
    cases p.fst with
    | none => exact hk_boundsPanic _ _ _ _
    | some a =>
      simp only
      split
      · exact hk_bind (hk_sizeOf _) fun z => hk_pure _
      · have both : ∀ b : Bool, HK P m (if b = true then unsupported (.noEntry "op/indexAddr.an index out of range at an array of length 0 or 1 (ledger 616)") else boundsPanic k n (↑p.2.fst) BoundsCode.index : Sem Value) := by
          intro b; cases b
          · exact hk_boundsPanic _ _ _ _
          · exact hk_halt _
        exact both _
  refine hk_bind (hk_underlying t) fun d => ?_
  cases d with
  | array len elem => exact hk_bind (hk_sureAddr x) fun a => tail (some a, len, elem)
  | slice elem =>
    cases x with
    | slice b l c => exact tail (b, l, elem)
    | _ => exact hk_halt _
  | _ => exact hk_halt _

theorem hk_mapM (f : α → Sem (Nat × Nat)) (hf : ∀ x, HK P m (f x)) : ∀ l : List α, HK P m (l.mapM f) := by
  intro l
  induction l with
  | nil => exact hk_pure _
  | cons a l ih => rw [List.mapM_cons]; exact hk_bind (hf a) fun x => hk_bind ih fun y => hk_pure _

theorem hk_build (t : TypeId) (ps : Array (Nat × Value)) : HK P m (Instr.build t ps) := by
  refine hk_bind (hk_zero t) fun z => ?_
  refine hk_bind (hk_underlying t) fun d => ?_
  cases d with
  | struct fields =>
    refine hk_bind ?_ fun pl => ?_
    · rw [Array.mapM_eq_mapM_toList]
      exact hk_bind (hk_mapM _ (fun x => hk_bind (hk_sizeOf _) fun n => hk_pure _) _) fun a => hk_pure _
    · split
      · exact hk_pure _
      · exact hk_halt _
  | array len elem =>
    refine hk_bind (hk_sizeOf elem) fun s => ?_
    split
    · exact hk_pure _
    · exact hk_halt _
  | _ => exact hk_halt _

theorem hk_v {s : Sem Value} (h : HK P m s) : HK P m (do pure (.value (← s)) : Sem Next) := hk_bind h fun v => hk_pure _

theorem asNext_same {s : Sem Next} (h : HK P m s) {H H' : AH} {v : Value} (hr : asNext (arun P m s H) = some (v, H')) : H' = H := by
  cases ha : arun P m s H with
  | none => rw [ha] at hr; cases hr
  | some p =>
    obtain ⟨nx, H1⟩ := p
    have := h H nx H1 ha
    subst this
    rw [ha] at hr
    cases nx <;> simp only [asNext] at hr <;> first | (cases hr; done) | (simp only [Option.some.injEq, Prod.mk.injEq] at hr; exact hr.2.symm)

theorem flatRun_same {o : Oper} {ρ : Operand → Value} {H H' : AH} {v : Value} (h : flatRun P o ρ H = some (v, H')) : H' = H := by
  have go : ∀ x : Option Next, asVal H x = some (v, H') → H' = H := by
    intro x hx
    unfold asVal at hx
    split at hx
    · rename_i u
      cases hf : flat depth u with
      | false => rw [hf] at hx; cases hx
      | true => rw [hf] at hx; simp only [cond_true, Option.some.injEq, Prod.mk.injEq] at hx; exact hx.2.symm
    · simp only [Option.some.injEq, Prod.mk.injEq] at hx; exact hx.2.symm
    · cases hx
  unfold flatRun at h
  split at h
  · cases h
  · cases ha : o.op.operands.all (fun x => flat depth (ρ x)) with
    | false => rw [ha] at h; cases h
    | true => rw [ha] at h; exact go _ h

theorem quiet_same {ne : Nat} {ih : Ex} {o : Oper} {ρ : Operand → Value} {H H' : AH} {v : Value} (hq : quiet o = true) (h : runOp P ne ih m o ρ H = some (v, H')) : H' = H := by
  have fl := fun hh => flatRun_same (P := P) (o := o) (ρ := ρ) (H := H) (H' := H') (v := v) hh
  obtain ⟨dst, op, ty, pos, after, guard⟩ := o
  unfold quiet at hq
  unfold runOp at h
  simp only at h hq
  cases op with
  | call c =>
    obtain ⟨callee, args, ts⟩ := c
    cases callee with
    | builtin b =>
      cases b <;> simp only at hq <;> first | (cases hq; done) | skip
      · exact fl h
      · simp only at h
        split at h
        · simp only [Option.some.injEq, Prod.mk.injEq] at h; exact h.2.symm
        · split at h
          · simp only [Option.some.injEq, Prod.mk.injEq] at h; exact h.2.symm
          · cases h
        · exact fl h
      · exact fl h
      · exact fl h
      · simp only at h
        split at h
        · rename_i a n c _
          cases hb : (Nat.beq n 0 || Nat.beq c 0) with
          | true => rw [hb] at h; cases h
          | false => rw [hb] at h; simp only [cond_false, Option.some.injEq, Prod.mk.injEq] at h; exact h.2.symm
        · exact fl h
    | _ => cases hq
  | move x => simp only [aOp, Option.some.injEq, Prod.mk.injEq] at h; exact h.2.symm
  | assign x => simp only [aOp, Option.some.injEq, Prod.mk.injEq] at h; exact h.2.symm
  | pick c a b =>
    simp only [aOp] at h
    split at h
    · simp only [Option.some.injEq, Prod.mk.injEq] at h; exact h.2.symm
    · cases h
  | slice t x lo hi mx =>
    simp only [aOp] at h
    split at h
    · split at h
      · simp only [Option.some.injEq, Prod.mk.injEq] at h; exact h.2.symm
      · cases h
    · exact fl h
  | binOp op t x y yt =>
    simp only [aOp] at h
    split at h
    · simp only [Option.some.injEq, Prod.mk.injEq] at h; exact h.2.symm
    · exact fl h
  | unOp op t x => exact fl h
  | typeAssert x a b c => exact fl h
  | build t ps =>
    simp only [aOp] at h
    cases hz : zflat P t with
    | false => rw [hz] at h; cases h
    | true => rw [hz] at h; exact asNext_same (hk_v (hk_build _ _)) h
  | nilCheck x =>
    simp only [aOp] at h
    split at h
    · simp only [Option.some.injEq, Prod.mk.injEq] at h; exact h.2.symm
    · simp only [Option.some.injEq, Prod.mk.injEq] at h; exact h.2.symm
    · cases h
  | makeInterface t x => exact asNext_same (hk_v (hk_makeInterface _ _)) h
  | makeFunc fn f c => exact asNext_same (P := P) (m := m) (hk_v (hk_pure _)) h
  | fieldAddr t x f => exact asNext_same (hk_v (hk_fieldAt _ _ _)) h
  | field t x f => exact asNext_same (hk_v (hk_field _ _ _)) h
  | indexAddr t x i => exact asNext_same (hk_v (hk_indexAt _ _ _)) h
  | index t x i => exact asNext_same (hk_v (hk_index _ _ _)) h
  | load t x => exact asNext_same (hk_v (hk_loadAt _ _)) h
  | lookup t x k ok =>
    simp only [aOp] at h
    cases hf : flat depth (ρ k) with
    | false => rw [hf] at h; cases h
    | true =>
      rw [hf] at h
      simp only [cond_true] at h
      split at h
      · simp only [Option.some.injEq, Prod.mk.injEq] at h; exact h.2.symm
      · cases h
  | extract x i => exact asNext_same (hk_v (hk_extract _ _)) h
  | _ => cases hq

end Go.Abs
