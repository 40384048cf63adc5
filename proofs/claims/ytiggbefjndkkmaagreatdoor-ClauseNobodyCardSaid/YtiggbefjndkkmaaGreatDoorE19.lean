/- The engine, part 19 of 35: pieces of the interpreter and of its soundness. No condition. -/
import Derived.Test.YtiggbefjndkkmaaGreatDoorE18
namespace Go.Abs

variable {P : Program} {m : Nat}

theorem wp_of_opOK {φ : Inj} {H H' : AH} {w : World} {v : Value} {o : Oper} {a : Act} {next : Act → World → Prop} {Q : Exit → Act → World → Prop} (h : OpOK P m φ H w v H' (execOp a.eval o))
    (hn : ∀ φ' v' w', VR φ' v v' → Inv φ' H' w' → Step m φ H w φ' H' w' → next (a.put o.dst v') w') : o.wp P a w next Q := by
  obtain ⟨φ', w', nx, h1, h2, h3, h4⟩ := h
  unfold Oper.wp
  rw [h1]
  rcases h4 with ⟨v', rfl, h5⟩ | ⟨rfl, rfl⟩
  · exact hn φ' v' w' h5 h2 h3
  · exact hn φ' undef w' (vr_undef _) h2 h3

theorem sim_lenOf {φ : Inj} {v v' : Value} (h : VR φ v v') : Sim P m (fun _ p q => p = q ∧ p ≤ (match v with | .slice _ k _ => k | _ => p)) φ (Builtin.lenOf v) (Builtin.lenOf v') := by
  cases h <;> first | exact sim_pure ⟨rfl, Nat.le_refl _⟩ | exact sim_halt

theorem sim_firstCells0 {φ : Inj} (size : Nat) {v v' : Value} (h : VR φ v v') : Sim P m (fun _ c c' => c = #[] ∧ c' = #[]) φ (Builtin.firstCells size 0 v) (Builtin.firstCells size 0 v') := by
  have nul : ∀ b a : Addr, Sim P m (fun _ c c' => c = #[] ∧ c' = #[]) φ (loadCells b (0 * size)) (loadCells a (0 * size)) := by
    intro b a; rw [Nat.zero_mul]; exact sim_pure ⟨rfl, rfl⟩
  cases h with
  | slice b o n c l1 hl hc => exact nul _ _
  | sliceOpen b o n c l1 hl hn hc => exact nul _ _
  | sliceEnd b o l1 a hl => exact nul _ _
  | sliceZero b o l1 a hl => exact nul _ _
  | sliceNil n c => exact sim_pure ⟨rfl, rfl⟩
  | string s => exact sim_pure ⟨by apply Array.ext'; simp, by apply Array.ext'; simp⟩
  | _ => exact sim_halt

theorem sim_firstCells {φ : Inj} (size n : Nat) {v v' : Value} (h : VR φ v v') (hn : n ≤ (match v with | .slice _ k _ => k | _ => n)) : Sim P m AR φ (Builtin.firstCells size n v) (Builtin.firstCells size n v') := by
  have nul : ∀ b a : Addr, n = 0 → Sim P m AR φ (loadCells b (n * size)) (loadCells a (n * size)) := by
    intro b a e; subst e; rw [Nat.zero_mul]; exact sim_pure (AR.empty _)
  cases h with
  | slice b o n c l1 hl hc => exact sim_loadCells _ ⟨rfl, l1, hl, rfl⟩
  | sliceOpen b o n c l1 hl hn hc => exact sim_loadCells _ ⟨rfl, l1, hl, rfl⟩
  | sliceEnd b o l1 a hl => exact nul _ _ (Nat.le_zero.1 hn)
  | sliceZero b o l1 a hl => exact nul _ _ (Nat.le_zero.1 hn)
  | sliceNil n c => exact sim_pure (AR.empty _)
  | string s => exact sim_pure (AR.map _ _ _ fun x hx => .int _ _)
  | _ => exact sim_halt

theorem sim_copy {φ : Inj} (ts : Array TypeId) (ty : TypeId) {x y x' y' : Value} (hx : VR φ x x') (hy : VR φ y y') : Sim P m VR φ (Builtin.copy_ ts ty #[x, y]) (Builtin.copy_ ts ty #[x', y']) := by
  unfold Builtin.copy_
  cases hts : ts[0]? with
  | none => exact sim_halt
  | some t =>
    simp only [List.getElem?_toArray, List.getElem?_cons_zero, List.getElem?_cons_succ]
    refine sim_bind (sim_underlying t) fun φ1 h1 d d' e => ?_
    cases e
    cases d with
    | slice elem =>
      simp only
      have hx1 := hx.mono h1
      have tail : ∀ (b b' : Option Addr) (n : Nat), ((b = none ∧ b' = none) ∨ ∃ a a', b = some a ∧ b' = some a' ∧ (n = 0 ∨ AddrR φ1 a a')) → Sim P m VR φ1
          (do
            let __do_lift ← Builtin.lenOf y
            let size ← sizeOf elem
            let cells ← Builtin.firstCells size (Nat.min __do_lift n) y
            match b with
              | some a => do
                storeCells a cells.toList
                pure (goInt ↑(Nat.min __do_lift n))
              | x => pure (goInt ↑(Nat.min __do_lift n)))
          (do
            let __do_lift ← Builtin.lenOf y'
            let size ← sizeOf elem
            let cells ← Builtin.firstCells size (Nat.min __do_lift n) y'
            match b' with
              | some a => do
                storeCells a cells.toList
                pure (goInt ↑(Nat.min __do_lift n))
              | x => pure (goInt ↑(Nat.min __do_lift n))) := by
        intro b b' n hb
        have hy1 := hy.mono h1
        refine sim_bind (sim_lenOf hy1) fun φ2 h2 p q e => ?_
        obtain ⟨rfl, hp⟩ := e
        refine sim_bind (sim_sizeOf elem) fun φ3 h3 s s' e => ?_
        cases e
        have hy3 := (hy1.mono h2).mono h3
        rcases hb with ⟨rfl, rfl⟩ | ⟨a, a', rfl, rfl, ha⟩
        · refine sim_bind (sim_firstCells s (Nat.min p n) hy3 ?_) fun φ4 h4 c c' hc => sim_pure (.int _ _)
          cases y <;> simp only [Nat.le_refl]
          exact Nat.le_trans (Nat.min_le_left _ _) hp
        · rcases ha with rfl | ha
          · have e0 : Nat.min p 0 = 0 := Nat.min_zero p
            rw [e0]
            refine sim_bind (sim_firstCells0 s hy3) fun φ4 h4 c c' hc => ?_
            obtain ⟨rfl, rfl⟩ := hc
            exact sim_bind (R := EqR Unit) (sim_pure rfl) fun φ5 h5 _ _ _ => sim_pure (.int _ _)
          · refine sim_bind (sim_firstCells s (Nat.min p n) hy3 ?_) fun φ4 h4 c c' hc => ?_
            · cases y <;> simp only [Nat.le_refl]
              exact Nat.le_trans (Nat.min_le_left _ _) hp
            · exact sim_bind (sim_storeCells _ _ 0 (((ha.mono h2).mono h3).mono h4) (AR_iff.1 hc)) fun φ5 h5 _ _ _ => sim_pure (.int _ _)
      cases hx1 with
      | sliceNil n c => exact tail none none n (.inl ⟨rfl, rfl⟩)
      | slice b o n c l1 hl hc => exact tail _ _ n (.inr ⟨_, _, rfl, rfl, .inr ⟨rfl, l1, hl, rfl⟩⟩)
      | sliceOpen b o n c l1 hl hn hc => exact tail _ _ n (.inr ⟨_, _, rfl, rfl, .inr ⟨rfl, l1, hl, rfl⟩⟩)
      | sliceEnd b o l1 a hl => exact tail _ _ 0 (.inr ⟨_, _, rfl, rfl, .inl rfl⟩)
      | sliceZero b o l1 a hl => exact tail _ _ 0 (.inr ⟨_, _, rfl, rfl, .inl rfl⟩)
      | _ => exact sim_halt
    | _ => exact sim_halt

theorem calls_returned {φ : Inj} {H H' : AH} {w : World} {v : Value} {f : Nat} {args : Array Value} {dst : Option Tmp} {a : Act} {next : Act → World → Prop} {Q : Exit → Act → World → Prop} (h : CallOK P m φ H w v H' f args)
    (hn : ∀ φ' v' w', VR φ' v v' → Inv φ' H' w' → Step m φ H w φ' H' w' → next (a.put dst v') w') :
    Calls P f args w fun
      | .returned v, w'' => next (a.put dst v) w''
      | .panicked chain, w'' => Q (.panic chain) a w''
      | .outgrown, _ => LetsOut Q := by
  refine h.mono fun e w' hh => ?_
  obtain ⟨φ', v', rfl, h1, h2, h3⟩ := hh
  exact hn φ' v' w' h1 h2 h3

theorem flat_all {φ : Inj} {args args' : Array Value} (h : args.all (flat depth) = true) (ha : AR φ args args') : args = args' := by
  refine Array.ext ha.1 fun i h1 h2 => ?_
  rw [Array.all_eq_true] at h
  exact flat_eq depth (h i h1) (ha.2 i _ _ (Array.getElem?_eq_getElem h1) (Array.getElem?_eq_getElem h2))

/-- A call of a function by its number. -/
theorem callFn_wp {ne : Nat} (hS : Sane P ne) {ih : Ex} (hG : Good P ih) {f : Nat} {args args' : Array Value} {H H' : AH} {v : Value} (h : acallFn P ne ih m f args H = some (v, H')) {φ : Inj} {w : World} (hg : Glob P φ) (ha : AR φ args args') (hi : Inv φ H w)
    {o : Oper} {a : Act} {next : Act → World → Prop} {Q : Exit → Act → World → Prop} (hn : ∀ φ' v' w', VR φ' v v' → Inv φ' H' w' → Step m φ H w φ' H' w' → next (a.put o.dst v') w') :
    o.upon P a next Q ((callFunc f args').run P w) := by
  have h0 := h
  unfold acallFn at h
  cases hf : P.funcs[f]? with
  | none => rw [hf] at h; cases h
  | some fn =>
    rw [hf] at h
    simp only at h
    cases hb : fn.body with
    | some c =>
      rw [run_callFunc_body hS hf hb]
      exact calls_returned (acallFn_body hS hG hf hb h0 hg ha hi) hn
    | none =>
      rw [hb] at h
      simp only at h
      cases hfl : args.all (flat depth) with
      | true =>
        rw [hfl] at h
        simp only [cond_true] at h
        have he := flat_all hfl ha
        subst he
        cases hp : peval P (callFunc f args) with
        | none => rw [hp] at h; cases h
        | some nx =>
          rw [hp] at h
          rw [peval_run P _ _ hp w]
          cases nx with
          | value u =>
            simp only [asVal] at h
            cases hf2 : flat depth u with
            | false => rw [hf2] at h; cases h
            | true =>
              rw [hf2] at h
              simp only [cond_true, Option.some.injEq, Prod.mk.injEq] at h
              obtain ⟨rfl, rfl⟩ := h
              exact hn φ u w (flat_refl _ hf2) hi (Step.refl _ _ _ _)
          | skip =>
            simp only [asVal, Option.some.injEq, Prod.mk.injEq] at h
            obtain ⟨rfl, rfl⟩ := h
            exact hn φ undef w (vr_undef _) hi (Step.refl _ _ _ _)
          | _ => cases h
      | false =>
        rw [hfl] at h
        simp only [cond_false] at h
        split at h
        · rename_i x hx
          cases hfe : Nat.beq f ne with
          | false => rw [hfe] at h; cases h
          | true =>
            rw [hfe] at h
            have := Nat.eq_of_beq_eq_true hfe
            subst this
            simp only [cond_true, Option.some.injEq, Prod.mk.injEq] at h
            obtain ⟨rfl, rfl⟩ := h
            have hlr := AR_iff.1 ha
            rw [hx] at hlr
            obtain ⟨x', hx', hv⟩ : ∃ x', args' = #[x'] ∧ VR φ x x' := by
              generalize hq : args'.toList = q at hlr
              cases hlr with
              | cons h1 t1 => cases t1; exact ⟨_, by apply Array.ext'; simpa using hq, h1⟩
            rw [hx', hS.esc (by rw [hf]; rfl)]
            exact hn φ x' w hv hi (Step.refl _ _ _ _)
        · cases h

theorem ar_map {φ : Inj} {ρ ρ' : Operand → Value} (xs : Array Operand) (h : ∀ x ∈ xs, VR φ (ρ x) (ρ' x)) : AR φ (xs.map ρ) (xs.map ρ') := AR.map ρ ρ' xs h

theorem ar_one {φ : Inj} {args args' : Array Value} {x : Value} (ha : AR φ args args') (h : args.toList = [x]) : args = #[x] ∧ ∃ x', args' = #[x'] ∧ VR φ x x' := by
  have hlr := AR_iff.1 ha
  rw [h] at hlr
  refine ⟨by apply Array.ext'; simpa using h, ?_⟩
  generalize hq : args'.toList = q at hlr
  cases hlr with
  | cons h1 t1 => cases t1; exact ⟨_, by apply Array.ext'; simpa using hq, h1⟩

theorem ar_two {φ : Inj} {args args' : Array Value} {x y : Value} (ha : AR φ args args') (h : args.toList = [x, y]) : args = #[x, y] ∧ ∃ x' y', args' = #[x', y'] ∧ VR φ x x' ∧ VR φ y y' := by
  have hlr := AR_iff.1 ha
  rw [h] at hlr
  refine ⟨list_two h, ?_⟩
  generalize hq : args'.toList = q at hlr
  cases hlr with
  | cons h1 t1 => cases t1 with
    | cons h2 t2 => cases t2; exact ⟨_, _, list_two hq, h1, h2⟩

theorem unsafeSliceData_eq (ts : Array TypeId) (ty : TypeId) (a : Addr) (n c : Nat) (hc : c ≠ 0) : Builtin.unsafeSliceData_ ts ty #[.slice (some a) n c] = pure (.pointer (some a)) := by
  show (if c ≠ 0 then _ else _) = _
  rw [if_pos hc]

theorem runOp_ok {ne : Nat} (hS : Sane P ne) {ih : Ex} (hG : Good P ih) {o : Oper} {ρ : Operand → Value} {H H' : AH} {v : Value} (h : runOp P ne ih m o ρ H = some (v, H')) {φ : Inj} {w : World} {a : Act} (hg : Glob P φ) (hρ : ∀ x ∈ o.op.operands, VR φ (ρ x) (a.eval x)) (hi : Inv φ H w)
    {next : Act → World → Prop} {Q : Exit → Act → World → Prop} (hn : ∀ φ' v' w', VR φ' v v' → Inv φ' H' w' → Step m φ H w φ' H' w' → next (a.put o.dst v') w') : o.wp P a w next Q := by
  have fl := fun hh => wp_of_opOK (a := a) (next := next) (Q := Q) (flatRun_ok (P := P) (m := m) (H' := H') (v := v) hi hρ hh) hn
  have ao := fun hh => wp_of_opOK (a := a) (next := next) (Q := Q) (aOp_ok (P := P) (m := m) (H' := H') (v := v) hi hρ hh) hn
  obtain ⟨dst, op, ty, pos, after, guard⟩ := o
  unfold runOp at h
  simp only at h hρ hn
  cases op with
  | call c =>
    obtain ⟨callee, args, ts⟩ := c
    cases callee with
    | value g =>
      simp only at h
      have hgv := hρ g (by simp [Op.operands, Call.operands])
      have hargs : AR φ (args.map ρ) (args.map a.eval) := ar_map args fun x hx => hρ x (by simp [Op.operands, Call.operands, hx])
      split at h
      · rename_i f first captured hge
        rw [hge] at hgv
        generalize hq : a.eval g = q at hgv
        cases hgv with
        | func fn f1 g1 f1' g1' hf1 hg1 i1 i2 =>
          have hall : AR φ (first ++ args.map ρ ++ captured) (f1' ++ args.map a.eval ++ g1') := ((AR.append ⟨hf1, i1⟩ hargs).append ⟨hg1, i2⟩)
          show Oper.upon P _ a next Q _
          have hex : execOp a.eval { dst := dst, op := .call { callee := .value g, args := args, argTypes := ts }, type := ty, pos := pos, after := after, guard := guard } = callFunc f (f1' ++ args.map a.eval ++ g1') := by
            simp only [execOp, resolve, hq]; rfl
          rw [hex]
          exact callFn_wp hS hG h hg hall hi hn
      · cases h
    | invoke r nm => cases h
    | builtin b =>
      have hargs : AR φ (args.map ρ) (args.map a.eval) := ar_map args fun x hx => hρ x (by simp [Op.operands, Call.operands, hx])
      simp only at h
      cases b with
      | append => exact wp_of_opOK (aAppend_ok (ty := ty) hi h hargs) hn
      | len =>
        simp only at h
        split at h
        · rename_i e b n c hu hl
          simp only [Option.some.injEq, Prod.mk.injEq] at h
          obtain ⟨rfl, rfl⟩ := h
          obtain ⟨_, x', hx', hv⟩ := ar_one hargs hl
          obtain ⟨b', c', rfl⟩ := slice_inv hv
          cases ht : ts[0]? with
          | none => rw [ht] at hu; cases hu
          | some t =>
            rw [ht] at hu
            have hu : P.underlying t = some (.slice e) := hu
            have hrun : (Builtin.len_ ts ty (args.map a.eval)).run P w = .ok (goInt n) w := by
              rw [hx']
              simp [Builtin.len_, ht, run_und hu]
            exact wp_of_opOK (opOK_value (s := Builtin.len_ ts ty (args.map a.eval)) hrun hi (Step.refl _ _ _ _) (.int _ _)) hn
        · rename_i k e r hu hl
          split at h
          · rename_i es n opn esz ro hgr
            simp only [Option.some.injEq, Prod.mk.injEq] at h
            obtain ⟨rfl, rfl⟩ := h
            obtain ⟨_, x', hx', hv⟩ := ar_one hargs hl
            cases hv with
            | map r l hlr =>
              obtain ⟨es', g1, g2⟩ := hi.map hgr rfl hlr
              cases ht : ts[0]? with
              | none => rw [ht] at hu; cases hu
              | some t =>
                rw [ht] at hu
                have hu : P.underlying t = some (.map k e) := hu
                have hrun : (Builtin.len_ ts ty (args.map a.eval)).run P w = .ok (goInt es'.size) w := by
                  rw [hx']
                  simp [Builtin.len_, ht, run_und hu, run_getObj_map g1]
                rw [g2.1] at hn
                exact wp_of_opOK (opOK_value (s := Builtin.len_ ts ty (args.map a.eval)) hrun hi (Step.refl _ _ _ _) (.int _ _)) hn
          · cases h
        · exact fl h
      | copy =>
        simp only at h
        split at h
        · rename_i x y hl
          obtain ⟨e1, x', y', e2, hx, hy⟩ := ar_two hargs hl
          have h' : asNext (arun P m (do pure (.value (← Builtin.copy_ ts ty (args.map ρ)))) H) = some (v, H') := h
          rw [e1] at h'
          refine wp_of_opOK (H' := H') (v := v) ?_ hn
          show OpOK P m φ H w v H' (do pure (.value (← Builtin.copy_ ts ty (args.map a.eval))))
          rw [e2]
          exact opOK_of_sim (sim_v (sim_copy ts ty hx hy)) hi h'
        · cases h
      | delete =>
        simp only at h
        have : ∃ x k, (args.map ρ).toList = [x, k] := by
          unfold aDelete at h
          split at h
          · rename_i t x k h1 h2; exact ⟨x, k, h2⟩
          · cases h
        obtain ⟨x, k, hl⟩ := this
        obtain ⟨e1, x', k', e2, hx, hk⟩ := ar_two hargs hl
        rw [hl] at h
        have hfk : flat depth k = true := by
          unfold aDelete at h
          split at h
          · rename_i t x2 k2 h1 h2
            simp only [List.cons.injEq, and_true] at h2
            obtain ⟨rfl, rfl⟩ := h2
            cases hf : flat depth k with
            | true => rfl
            | false => rw [hf] at h; cases h
          · cases h
        obtain ⟨w', r1, r2, r3, rfl⟩ := aDelete_ok (ty := ty) hi h hx
        have := flat_eq depth hfk hk
        subst this
        rw [← e2] at r1
        exact wp_of_opOK (opOK_value (s := Builtin.delete_ ts ty (args.map a.eval)) r1 r2 r3 (.tuple #[] #[] rfl fun i x y hx => by simp at hx)) hn
      | unsafeSliceData =>
        simp only at h
        split at h
        · rename_i p n c hl
          cases hq : (Nat.beq n 0 || Nat.beq c 0) with
          | true => rw [hq] at h; cases h
          | false =>
            rw [hq] at h
            simp only [cond_false, Option.some.injEq, Prod.mk.injEq] at h
            obtain ⟨rfl, rfl⟩ := h
            simp only [Bool.or_eq_false_iff] at hq
            have hn0 := Nat.ne_of_beq_eq_false hq.1
            have hc0 := Nat.ne_of_beq_eq_false hq.2
            obtain ⟨_, x', hx', hv⟩ := ar_one hargs hl
            have key : ∃ p' c', x' = .slice (some p') n c' ∧ c' ≠ 0 ∧ VR φ (.pointer (some p)) (.pointer (some p')) := by
              cases hv with
              | slice b o n c l1 hl1 hc => exact ⟨_, _, rfl, hc0, .ptr b o l1 hl1⟩
              | sliceOpen b o n c l1 hl1 hn1 hc => exact ⟨_, _, rfl, by omega, .ptr b o l1 hl1⟩
              | sliceEnd b o l1 a hl => exact absurd rfl hn0
              | sliceZero b o l1 a hl => exact absurd rfl hn0
            obtain ⟨p', c', rfl, hc', hvp⟩ := key
            have hrun : (Builtin.unsafeSliceData_ ts ty (args.map a.eval)).run P w = .ok (.pointer (some p')) w := by
              rw [hx', unsafeSliceData_eq ts ty p' n c' hc']; rfl
            exact wp_of_opOK (opOK_value (s := Builtin.unsafeSliceData_ ts ty (args.map a.eval)) hrun hi (Step.refl _ _ _ _) hvp) hn
        · exact fl h
      | unsafeString =>
        simp only at h
        have : ∃ x k, (args.map ρ).toList = [x, k] := by
          unfold aUnsafeString at h
          split at h
          · rename_i h1 _; exact ⟨_, _, h1⟩
          · rename_i h1 _; exact ⟨_, _, h1⟩
          · cases h
        obtain ⟨x, k, hl⟩ := this
        obtain ⟨e1, x', k', e2, hx, hk⟩ := ar_two hargs hl
        rw [hl] at h
        obtain ⟨w', r1, r2, r3, s, rfl⟩ := aUnsafeString_ok (ty := ty) hi h hx hk
        rw [← e2] at r1
        exact wp_of_opOK (opOK_value (s := Builtin.unsafeString_ ts ty (args.map a.eval)) r1 r2 r3 (.string s)) hn
      | _ => exact fl h
  | _ => exact ao h

end Go.Abs
