/- Parts of the proof: an abstract interpreter of the loaded program and its soundness, printed functions, the law's own texts; part 3. No condition. -/
import Derived.Test.YtccbilfbhecdaaaDoorNm2
import Derived.OrdersHeld
import Derived.LaidSub
import Derived.Deep.DeepHandedRow
import Derived.Test.YtccbilfbhecdaaaDoorChecked
namespace Go.Abs

variable {P : Program} {ne : NE} {m n : Nat}

theorem agree.cell {w1 w : World} (h : agree w1 w) {a : Addr} {v : Value} (hc : w1.cell? a = some v) : w.cell? a = some v := by
  unfold World.cell? at hc ⊢
  cases hb : w1.heap[a.block]? with
  | none => rw [hb] at hc; cases hc
  | some o =>
    have hlt : a.block < w1.heap.size := by rw [Array.getElem?_eq_some_iff] at hb; exact hb.1
    rw [h _ hlt, hb]
    rw [hb] at hc
    exact hc

theorem peval_bind_some {α β : Type} {s : Sem α} {f : α → Sem β} {a : α} (h : peval P s = some a) : peval P (s >>= f) = peval P (f a) := by
  show peval P (s.bind f) = _
  rw [pbind, h]; rfl

theorem aAsk_peval {φ : Inj} (kt : TypeId) (k : Value) {es es' : List MapEntry} (h : F2 (ER φ) es es') : ∀ (n : Nat) (r : Option (Nat × Value)), aAsk P kt k es n = some r →
    ∃ r', peval P (Instr.findAsking kt k es' n) = some r' ∧ FindR φ r r' := by
  induction h with
  | nil => intro n r hr; simp only [aAsk, Option.some.injEq] at hr; subst hr; exact ⟨none, rfl, trivial⟩
  | @cons a b _ _ hab _ ih =>
    intro n r hr
    simp only [aAsk] at hr
    cases hp : peval P (Op.equal kt k a.key) with
    | none => rw [hp] at hr; cases hr
    | some q =>
      rw [hp] at hr
      rw [hab.1] at hp
      cases q
      · obtain ⟨r', h1, h2⟩ := ih (n + 1) r hr
        refine ⟨r', ?_, h2⟩
        simp only [Instr.findAsking]
        rw [peval_bind_some hp]
        exact h1
      · simp only [Option.some.injEq] at hr
        subst hr
        refine ⟨some (n, b.val), ?_, rfl, hab.2.1⟩
        simp only [Instr.findAsking]
        rw [peval_bind_some hp]
        rfl

theorem peval_und {t : TypeId} {d : TypeDesc} (h : P.underlying t = some d) : peval P (underlying t) = some d := by
  simp only [Go.underlying, Go.program, bind, Pure.pure, Sem.bind, peval, h]

theorem aFind_peval {φ : Inj} {kt : TypeId} {k : Value} {es es' : List MapEntry} (h : F2 (ER φ) es es') {r : Option (Nat × Value)} (hr : aFind P kt k es = some r) :
    ∃ r', peval P (Instr.findKey kt k es') = some r' ∧ FindR φ r r' := by
  unfold aFind at hr
  cases hu : P.underlying kt with
  | none => rw [hu] at hr; cases hr
  | some d =>
    rw [hu] at hr
    simp only at hr
    rcases findNow_rel d k h 0 with ⟨h1, h2⟩ | ⟨q, q', h1, h2, h3⟩
    · rw [h1] at hr
      obtain ⟨r', a1, a2⟩ := aAsk_peval kt k h 0 r hr
      refine ⟨r', ?_, a2⟩
      simp only [Instr.findKey]
      rw [peval_bind_some (peval_und hu)]
      simp only [h2]
      exact a1
    · rw [h1] at hr
      simp only [Option.some.injEq] at hr
      subst hr
      refine ⟨q', ?_, h3⟩
      simp only [Instr.findKey]
      rw [peval_bind_some (peval_und hu)]
      simp only [h2]
      rfl

theorem aLookup_det {φ : Inj} {H : AH} {w1 : World} {t : TypeId} {x x' k v : Value} {ok : Bool} (hi : Inv φ H w1) (h : aLookup P t x k ok H = some v) (hx : VR φ x x') :
    ∃ v', VR φ v v' ∧ ∀ w, agree w1 w → (Instr.lookup t x' k ok).run P w = .ok v' w := by
  unfold aLookup at h
  cases ht : P.underlying t with
  | none => rw [ht] at h; cases h
  | some d =>
    rw [ht] at h
    cases d with
    | map kt e =>
      simp only at h
      cases he : aEntries H x with
      | none => rw [he] at h; cases h
      | some es =>
        rw [he] at h
        simp only at h
        have hent : ∃ es', MR φ es es' ∧ ((x' = .map none ∧ es' = #[]) ∨ ∃ r n, x' = .map (some r) ∧ w1.heap[r]? = some (.map es' n)) := by
          cases hx with
          | mapNil => simp only [aEntries, Option.some.injEq] at he; subst he; exact ⟨#[], MR.empty _, .inl ⟨rfl, rfl⟩⟩
          | map r l hl =>
            simp only [aEntries] at he
            split at he
            · rename_i es1 n _ _ _ hg
              simp only [Option.some.injEq] at he
              subst he
              obtain ⟨es', h1, h2⟩ := hi.map hg rfl hl
              exact ⟨es', h2, .inr ⟨_, n, rfl, h1⟩⟩
            · cases he
          | _ => cases he
        obtain ⟨es', hm, hx2⟩ := hent
        have hf := MR_iff.1 hm
        have hemp : es.isEmpty = es'.isEmpty := by have := hf.isEmpty; simpa using this
        cases hc : peval P (Instr.checkKey es.isEmpty 10000 kt k) with
        | none => rw [hc] at h; cases h
        | some u =>
          rw [hc] at h
          rw [hemp] at hc
          cases hfi : aFind P kt k es.toList with
          | none => rw [hfi] at h; cases h
          | some r =>
            rw [hfi] at h
            obtain ⟨r', hr1, hr2⟩ := aFind_peval hf hfi
            have tail : ∃ v', VR φ v v' ∧ ∀ w, (do
                Instr.checkKey es'.isEmpty 10000 kt k
                let (v, okb) ← match ← Instr.findKey kt k es'.toList with
                  | some (_, v) => pure (v, true)
                  | none => pure (← zeroValue e, false)
                pure (if ok then Value.tuple #[v, .bool okb] else v) : Sem Value).run P w = .ok v' w := by
              cases r with
              | none =>
                cases r' with
                | some p => exact hr2.elim
                | none =>
                  simp only at h
                  cases hz : (P.info? e).bind (·.zero) with
                  | none => rw [hz] at h; cases h
                  | some z =>
                    rw [hz] at h
                    simp only at h
                    cases hfl : flat depth z with
                    | false => rw [hfl] at h; cases h
                    | true =>
                      rw [hfl] at h
                      simp only [cond_true, Option.some.injEq] at h
                      subst h
                      refine ⟨if ok then Value.tuple #[z, .bool false] else z, ?_, fun w => ?_⟩
                      · cases ok
                        · exact flat_refl _ hfl
                        · exact vr_tuple2 (flat_refl _ hfl) (.bool false)
                      · simp only [Sem.run_bind, peval_run P _ _ hc w, Result.andThen_ok, peval_run P _ _ hr1 w, run_zero hz, Sem.run_pure]
              | some p =>
                obtain ⟨i, u⟩ := p
                cases r' with
                | none => exact hr2.elim
                | some p' =>
                  obtain ⟨i', u'⟩ := p'
                  simp only at h
                  simp only [Option.some.injEq] at h
                  subst h
                  refine ⟨if ok then Value.tuple #[u', .bool true] else u', ?_, fun w => ?_⟩
                  · cases ok
                    · exact hr2.2
                    · exact vr_tuple2 hr2.2 (.bool true)
                  · simp only [Sem.run_bind, peval_run P _ _ hc w, Result.andThen_ok, peval_run P _ _ hr1 w, Sem.run_pure]
            obtain ⟨v', hv1, hv2⟩ := tail
            refine ⟨v', hv1, fun w hag => ?_⟩
            rw [← hv2 w]
            rcases hx2 with ⟨rfl, rfl⟩ | ⟨rr, n, rfl, hg⟩
            · simp only [Instr.lookup, Sem.run_bind, run_und ht, Result.andThen_ok, Sem.run_pure]
              rfl
            · have hg2 : w.heap[rr]? = some (.map es' n) := by
                have hlt : rr < w1.heap.size := by rw [Array.getElem?_eq_some_iff] at hg; exact hg.1
                rw [hag _ hlt]; exact hg
              simp only [Instr.lookup, Sem.run_bind, run_und ht, Result.andThen_ok, Sem.run_pure, run_getObj_map hg2]
              rfl
    | _ => cases h

theorem aLoad_det {φ : Inj} {H : AH} {w1 : World} {t : TypeId} {q q' : Addr} {v : Value} (hi : Inv φ H w1) (h : aLoad P t q H = some v) (hq : AddrR φ q q') : ∃ v', VR φ v v' ∧ ∀ w, agree w1 w → (loadVar t q').run P w = .ok v' w := by
  unfold aLoad at h
  split at h
  · rename_i d i hu hii
    have hagg : ∀ w, (isAgg t).run P w = .ok (isAggD d) w := by
      intro w
      simp only [isAgg, Sem.run_bind, run_und hu, Result.andThen_ok]
      cases d <;> rfl
    cases hd : isAggD d with
    | true =>
      rw [hd] at h
      simp only [cond_true] at h
      cases hr : rdCells H q 0 i.size with
      | none => rw [hr] at h; cases h
      | some l =>
        rw [hr] at h
        simp only [Option.some.injEq] at h
        subst h
        obtain ⟨hl, l', h1, h2⟩ := rd_run hi hq _ 0 l hr
        refine ⟨.agg l'.toArray, ?_, fun w hag => ?_⟩
        · have := AR_iff.2 (show LR φ l.toArray.toList l'.toArray.toList by simpa using h1)
          exact .agg _ _ this.1 this.2
        · have hrun := run_loadCells_list (P := P) w q' l' (fun j u hu => hag.cell (by have := h2 j u hu; rwa [Nat.zero_add] at this))
          rw [← LR.length h1, hl] at hrun
          simp only [loadVar, Sem.run_bind, hagg, hd, Result.andThen_ok, if_true, run_size hii, hrun, Sem.run_pure]
    | false =>
      rw [hd] at h
      simp only [cond_false] at h
      obtain ⟨v', h1, h2⟩ := hi.cell h hq
      refine ⟨v', h2, fun w hag => ?_⟩
      have := hag.cell h1
      simp only [loadVar, Sem.run_bind, hagg, hd, Result.andThen_ok, Bool.false_eq_true, if_false]
      simp [this]
  · cases h

/-- What an operation reads. -/
def detOp (P : Program) (H : AH) (o : Oper) (ρ : Operand → Value) : Option Value :=
  match tPure P o ρ with
  | some v => some v
  | none => match o.op with
    | .load t x => match ρ x with
      | .pointer (some a) => aLoad P t a H
      | _ => none
    | .lookup t x k ok => bif flat depth (ρ k) then aLookup P t (ρ x) (ρ k) ok H else none
    | .extract x i => match ρ x with
      | .tuple cs => cs[i]?
      | _ => none
    | .call { callee := .builtin .len, args, argTypes } => match (argTypes[0]?).bind P.underlying, (args.map ρ).toList with
      | some (.slice _), [.slice _ k _] => some (goInt k)
      | _, _ => match flatRun P o ρ H with
        | some (v, _) => some v
        | none => none
    | .binOp .. | .unOp .. | .build .. | .pick .. | .field .. | .index .. => match flatRun P o ρ H with
      | some (v, _) => some v
      | none => none
    | .convert s d _ => match P.underlying s, P.underlying d with
      | some (.int _), some (.int _) => match flatRun P o ρ H with
        | some (v, _) => some v
        | none => none
      | some .string, some .string => match flatRun P o ρ H with
        | some (v, _) => some v
        | none => none
      | _, _ => none
    | _ => none

theorem flat_det {φ : Inj} {H H' : AH} {o : Oper} {ρ ρ' : Operand → Value} {v : Value} (hρ : ∀ x ∈ o.op.operands, VR φ (ρ x) (ρ' x)) (h : flatRun P o ρ H = some (v, H')) (hns : ∀ w, ∀ nx, (execOp ρ' o).run P w = .ok nx w → nx ≠ .skip) : ∃ v', VR φ v v' ∧ ∀ w, (execOp ρ' o).run P w = .ok (.value v') w := by
  unfold flatRun at h
  split at h
  · cases h
  · rename_i hs
    cases ha : o.op.operands.all (fun x => flat depth (ρ x)) with
    | false => rw [ha] at h; cases h
    | true =>
      rw [ha] at h
      simp only [cond_true] at h
      rw [Array.all_eq_true_iff_forall_mem] at ha
      have hc : execOp ρ o = execOp ρ' o := execOp_congr hs fun x hx => flat_eq depth (ha x hx) (hρ x hx)
      cases hp : peval P (execOp ρ o) with
      | none => rw [hp] at h; cases h
      | some nx =>
        rw [hp] at h
        rw [hc] at hp
        cases nx with
        | value u =>
          simp only [asVal] at h
          cases hf : flat depth u with
          | false => rw [hf] at h; cases h
          | true =>
            rw [hf] at h
            simp only [cond_true, Option.some.injEq, Prod.mk.injEq] at h
            obtain ⟨rfl, rfl⟩ := h
            exact ⟨u, flat_refl _ hf, fun w => peval_run P _ _ hp w⟩
        | skip => exact absurd rfl (hns default _ (peval_run P _ _ hp default))
        | _ => cases h

theorem v_noskip {s : Sem Value} {w : World} {nx : Next} (h : (do pure (Next.value (← s)) : Sem Next).run P w = .ok nx w) : nx ≠ .skip := by
  rw [Sem.run_bind] at h
  cases hs : s.run P w with
  | ok v w' =>
    rw [hs] at h
    have : Result.ok (Next.value v) w' = Result.ok nx w := h
    simp only [Result.ok.injEq] at this
    rw [← this.1]; intro e; cases e
  | halt x w' => rw [hs] at h; cases h

theorem detOp_ok {φ : Inj} {H : AH} {w1 : World} {o : Oper} {ρ ρ' : Operand → Value} {v : Value} (hi : Inv φ H w1) (hρ : ∀ x ∈ o.op.operands, VR φ (ρ x) (ρ' x)) (h : detOp P H o ρ = some v) :
    ∃ v', VR φ v v' ∧ ∀ w, agree w1 w → (execOp ρ' o).run P w = .ok (.value v') w := by
  unfold detOp at h
  cases ht : tPure P o ρ with
  | some u =>
    rw [ht] at h
    simp only [Option.some.injEq] at h
    subst h
    obtain ⟨v', h1, h2⟩ := tPure_run hρ ht
    exact ⟨v', h1, fun w _ => h2 w⟩
  | none =>
    rw [ht] at h
    simp only at h
    have fl : (match flatRun P o ρ H with | some (v, _) => some v | none => none) = some v → (∀ w, ∀ nx, (execOp ρ' o).run P w = .ok nx w → nx ≠ .skip) → ∃ v', VR φ v v' ∧ ∀ w, agree w1 w → (execOp ρ' o).run P w = .ok (.value v') w := by
      intro h hns
      cases hf : flatRun P o ρ H with
      | none => rw [hf] at h; cases h
      | some p =>
        obtain ⟨u, H'⟩ := p
        rw [hf] at h
        simp only [Option.some.injEq] at h
        subst h
        obtain ⟨v', h1, h2⟩ := flat_det hρ hf hns
        exact ⟨v', h1, fun w _ => h2 w⟩
    obtain ⟨dst, op, ty, pos, after, guard⟩ := o
    simp only at h hρ
    split at h
    · rename_i t x
      have hx := hρ x (by simp [Op.operands])
      split at h
      · rename_i a ha
        rw [ha] at hx
        obtain ⟨q', hq, hqa⟩ := hx.ptr_inv
        obtain ⟨v', h1, h2⟩ := aLoad_det hi h hqa
        refine ⟨v', h1, fun w hag => ?_⟩
        simp only [execOp, hq, Instr.loadAt, Instr.sureAddr, Sem.run_bind, Sem.run_pure, Result.andThen_ok, h2 w hag]
      · cases h
    · rename_i t x k ok
      cases hf : flat depth (ρ k) with
      | false => rw [hf] at h; cases h
      | true =>
        rw [hf] at h
        simp only [cond_true] at h
        have hk := flat_eq depth hf (hρ k (by simp [Op.operands]))
        obtain ⟨v', h1, h2⟩ := aLookup_det (w1 := w1) hi h (hρ x (by simp [Op.operands]))
        refine ⟨v', h1, fun w hag => ?_⟩
        rw [hk] at h2
        simp only [execOp, Sem.run_bind, h2 w hag, Result.andThen_ok]
        rfl
    · rename_i x i
      have hx := hρ x (by simp [Op.operands])
      split at h
      · rename_i cs hc
        rw [hc] at hx
        generalize hq : ρ' x = q at hx
        cases hx with
        | tuple f f' hf h1 =>
          have hlt : i < f'.size := by
            rw [Array.getElem?_eq_some_iff] at h
            obtain ⟨h, _⟩ := h
            omega
          refine ⟨f'[i], h1 i _ _ h (by simp [hlt]), fun w _ => ?_⟩
          have hrun : (Instr.extract (.tuple f') i).run P w = .ok f'[i] w := by
            simp only [Instr.extract]
            simp [hlt]
          simp only [execOp, hq, Sem.run_bind, hrun, Result.andThen_ok]
          rfl
      · cases h
    · rename_i args ts
      split at h
      · rename_i e b k c hu hl
        simp only [Option.some.injEq] at h
        subst h
        have hargs : AR φ (args.map ρ) (args.map ρ') := ar_map args fun x hx => hρ x (by simp [Op.operands, Call.operands, hx])
        obtain ⟨_, x', hx', hv⟩ := ar_one hargs hl
        obtain ⟨b', c', rfl⟩ := slice_inv hv
        refine ⟨goInt k, .int _ _, fun w _ => ?_⟩
        cases hts : ts[0]? with
        | none => rw [hts] at hu; cases hu
        | some t =>
          rw [hts] at hu
          have hu : P.underlying t = some (.slice e) := hu
          have hrun : (Builtin.len_ ts ty (args.map ρ')).run P w = .ok (goInt k) w := by
            rw [hx']
            simp [Builtin.len_, hts, run_und hu]
          show (do pure (Next.value (← Builtin.len_ ts ty (args.map ρ'))) : Sem Next).run P w = _
          rw [Sem.run_bind, hrun]; rfl
      · exact fl h fun w nx hr => v_noskip (s := Builtin.len_ ts ty (args.map ρ')) hr
    · rename_i bo t x y u
      exact fl h fun w nx hr => v_noskip (s := (do eqGuard bo t x y (ρ' x) (ρ' y); binOp bo t (ρ' x) (ρ' y))) hr
    · rename_i uo t x
      exact fl h fun w nx hr => v_noskip (s := Op.unary uo (ρ' x)) hr
    · rename_i t ps
      exact fl h fun w nx hr => v_noskip (s := Instr.build t (ps.map fun (i, x) => (i, ρ' x))) hr
    · rename_i c x y
      exact fl h fun w nx hr => by
        simp only [execOp, Sem.run_bind] at hr
        cases hb : (asBool (ρ' c)).run P w with
        | ok b w' =>
          rw [hb] at hr
          have : Result.ok (Next.value (if b then ρ' x else ρ' y)) w' = Result.ok nx w := hr
          simp only [Result.ok.injEq] at this
          rw [← this.1]; intro e; cases e
        | halt z w' => rw [hb] at hr; cases hr
    · rename_i t x f
      exact fl h fun w nx hr => v_noskip (s := Instr.field t (ρ' x) f) hr
    · rename_i t x y
      exact fl h fun w nx hr => v_noskip (s := Instr.index t (ρ' x) (ρ' y)) hr
    · rename_i s d x
      split at h
      · exact fl h fun w nx hr => v_noskip (s := convert s d (ρ' x)) hr
      · exact fl h fun w nx hr => v_noskip (s := convert s d (ρ' x)) hr
      · cases h
    · cases h

end Go.Abs


namespace Go.Abs

variable {P : Program} {ne : NE} {m n : Nat}

/-- Must what was there stand behind operation j? Not where it waits for all that reads. -/
def dem (A : List Nat) (bs : List Nat) (j : Nat) : Bool := !(A.all fun i => Nat.blt i j && pre bs j i)

/-- Operations that only hand a value on. -/
def mvAt (ops : Array Oper) (j : Nat) : Bool :=
  match ops[j]? with
  | some o => (match o.op with
    | .move _ => true
    | .assign _ => true
    | .pick .. => true
    | _ => false)
  | none => false

def demO (ops : Array Oper) (A : List Nat) (bs : List Nat) (j : Nat) : Bool := dem A bs j && !mvAt ops j

theorem mv_same {P : Program} {ops : Array Oper} {Q : Exit → Act → World → Prop} {j : Nat} {K : Act → World → Prop} {a : Act} {w : World} (hm : mvAt ops j = true) (h : wpOp P ops Q j K a w) : wpOp P ops Q j (fun a' w' => w' = w ∧ K a' w') a w := by
  unfold wpOp at *
  unfold mvAt at hm
  cases ho : ops[j]? with
  | none => rw [ho] at hm; cases hm
  | some o =>
    rw [ho] at h hm
    simp only at h hm ⊢
    split
    · rename_i hw
      rw [if_pos hw] at h
      rcases h with h | h
      · left
        unfold Oper.wp at *
        have hr : (∃ v, (execOp a.eval o).run P w = .ok (.value v) w) ∨ ∃ x, (execOp a.eval o).run P w = .halt x w := by
          obtain ⟨dst, op, ty, pos, after, guard⟩ := o
          cases op with
          | move x => exact .inl ⟨_, rfl⟩
          | assign x => exact .inl ⟨_, rfl⟩
          | pick c x y =>
            simp only [execOp]
            cases hc : a.eval c with
            | bool b => exact .inl ⟨_, rfl⟩
            | _ => exact .inr ⟨_, rfl⟩
          | _ => cases hm
        rcases hr with ⟨v, hr⟩ | ⟨x, hr⟩
        · rw [hr] at h ⊢
          exact ⟨by first | rfl | trivial, h⟩
        · rw [hr] at h ⊢
          cases x <;> exact h
      · exact .inr h
    · rename_i hw
      rw [if_neg hw] at h
      exact ⟨by first | rfl | trivial, h⟩

def wpAnyD (P : Program) (ops : Array Oper) (Q : Exit → Act → World → Prop) (bs A : List Nat) (w1 : World) : Nat → Array Bool → Act → World → Prop
  | 0, la, a, w => Region.ready .any ops la = [] ∧ Q .normal a w
  | f + 1, la, a, w => (Region.ready .any ops la = [] → Q .normal a w) ∧
    ∀ i ∈ Region.ready .any ops la, wpOp P ops Q i (fun a' w' => (demO ops A bs i = true → agree w1 w') ∧ wpAnyD P ops Q bs A w1 f (la.setIfInBounds i true) a' w') a w

variable {ops : Array Oper} {Q : Exit → Act → World → Prop} {bs A : List Nat} {w1 : World}

theorem wpAny_of_D : ∀ (f : Nat) (la : Array Bool) (a : Act) (w : World), wpAnyD P ops Q bs A w1 f la a w → wpAny P .any ops Q f la a w
  | 0, _, _, _, h => h
  | f + 1, _, _, _, h => ⟨h.1, fun i hi => wpOp_mono (fun a' w' h' => wpAny_of_D f _ a' w' h'.2) (h.2 i hi)⟩

theorem wpAnyD_first {i : Nat} {oi : Oper} {v : Value} (hi : ops[i]? = some oi) (hA : A.contains i = true) (hc : closedOk ops.toList bs = true) (hsel : ∀ (j : Nat) (o : Oper) cs b, ops[j]? = some o → o.op ≠ .select cs b)
    (hQ : ∀ c a w, ¬ Q (.panic c) a w) :
    ∀ (fuel : Nat) (la : Array Bool) (a : Act) (w : World), JC ops bs la →
      (∀ j oj, ops[j]? = some oj → j ≠ i → la.getD j true = false → (∀ e ∈ oj.after, Region.binds .any e = true → e.on ≠ i) → oi.apart ops oj = true) →
      i ∈ Region.ready .any ops la → YieldsIf P ops (agree w1) oi v a → agree w1 w →
      wpAnyD P ops Q bs A w1 fuel (la.setIfInBounds i true) (a.put oi.dst v) w → wpAnyD P ops Q bs A w1 (fuel + 1) la a w := by
  intro fuel
  induction fuel with
  | zero =>
    intro la a w hJ _ hr hy hS H
    refine ⟨fun h => (by rw [h] at hr; cases hr), fun j hj => ?_⟩
    by_cases hji : j = i
    · subst hji; exact hy.wpOp hi hS ⟨fun _ => hS, H⟩
    · have := ready_mono hj hji
      rw [H.1] at this
      cases this
  | succ fuel ih =>
    intro la a w hJ hfree hr hy hS H
    refine ⟨fun h => (by rw [h] at hr; cases hr), fun j hj => ?_⟩
    by_cases hji : j = i
    · subst hji; exact hy.wpOp hi hS ⟨fun _ => hS, H⟩
    · have h1 := H.2 j (ready_mono hj hji)
      have r := rdy_of hc hJ hj
      have ri := rdy_of hc hJ hr
      have hd : dem A bs j = true := by
        cases hq : dem A bs j with
        | true => rfl
        | false =>
          exfalso
          unfold dem at hq
          have hq : (A.all fun i => Nat.blt i j && pre bs j i) = true := by simpa using hq
          rw [List.all_eq_true] at hq
          have := hq i (by simpa using hA)
          simp only [Bool.and_eq_true] at this
          exact ri.no (r.all i (blt_lt this.1) this.2)
      have h1 : wpOp P ops Q j (fun a' w' => agree w1 w' ∧ (demO ops A bs j = true → agree w1 w') ∧ wpAnyD P ops Q bs A w1 fuel ((la.setIfInBounds i true).setIfInBounds j true) a' w') (a.put oi.dst v) w := by
        cases hm : mvAt ops j with
        | true => exact wpOp_mono (fun a' w' hh => ⟨by rw [hh.1]; exact hS, hh.2⟩) (mv_same hm h1)
        | false => exact wpOp_mono (fun a' w' hh => ⟨hh.1 (by unfold demO; rw [hd, hm]; rfl), hh⟩) h1
      obtain ⟨hjun, oj, hoj, hall⟩ := mem_ready.1 hj
      have hnot : ∀ e ∈ oj.after, Region.binds .any e = true → e.on ≠ i := fun e he hb heq => by
        have h1 := hall e he hb
        have h0 := (mem_ready.1 hr).1
        rw [heq] at h1
        rcases Nat.lt_or_ge i la.size with h' | h'
        · simp [h'] at h0 h1; rw [h0] at h1; cases h1
        · simp [Array.getElem?_eq_none h'] at h1
      have h2 := wpOp_putIf hoj (hfree j oj hoj hji hjun hnot) (fun cs b => hsel i oi cs b hi) (fun cs b => hsel j oj cs b hoj) (fun c a w h => absurd h (hQ c _ w)) hy h1
      have hfree' : ∀ k ok, ops[k]? = some ok → k ≠ i → (la.setIfInBounds j true).getD k true = false →
          (∀ e ∈ ok.after, Region.binds .any e = true → e.on ≠ i) → oi.apart ops ok = true := fun k ok hk hki hun hno => by
        refine hfree k ok hk hki ?_ hno
        by_cases hjk : j = k
        · subst hjk; exact hjun
        · rw [getD_set_ne true hjk] at hun; exact hun
      refine wpOp_mono (fun a' w' h3 => ⟨fun _ => h3.2.1, ih (la.setIfInBounds j true) a' w' (hJ.next r) hfree' (ready_mono hr (Ne.symm hji)) h3.1 h3.2.1 ?_⟩) h2
      rw [Array.setIfInBounds_comm _ _ hji]
      exact h3.2.2.2

/-- How the region began. -/
structure DC (P : Program) (H1 : AH) (ls1 : Lcs) (w1 : World) (φ1 : Inj) (cs1 : List Nat) : Prop where
  glob : Glob P φ1
  inv : Inv φ1 H1 w1
  loc : ∀ (i : Nat) c x, cs1[i]? = some c → ls1[i]? = some (some x) → ∃ rs, w1.heap[c]? = some (.cells rs x.1 (0, 0)) ∧ LR φ1 x.2 rs.toList

def KA (φ1 : Inj) (cs1 : List Nat) (knA : KN) (a : Act) : Prop := ∀ t kv, lkV knA t = some kv → KR φ1 cs1 kv (a.tmps.getD t undef)

def DA (P : Program) (ne : NE) (m : Nat) (E : Ent) (n : Nat) (ops : Array Oper) (bs A : List Nat) (H1 : AH) (ls1 : Lcs) (f : Nat) (la : Array Bool) (ag : Bool) (knA kn : KN) (ls : Lcs) (H : AH) (Q : Exit → Act → World → Prop) : Prop :=
  ∀ w1 φ1 cs1 a w φ cs, DC P H1 ls1 w1 φ1 cs1 → φ1.le φ → SSφ P ne m E n kn ls H a w φ cs → KA φ1 cs1 knA a → (∀ (i : Nat) (c : Nat), cs1[i]? = some c → cs[i]? = some c) → JC ops bs la → (ag = true → agree w1 w) → wpAnyD P ops Q bs A w1 f la a w

/-- The same, where it is one operation's turn. -/
def DAk (P : Program) (ne : NE) (m : Nat) (E : Ent) (n : Nat) (ops : Array Oper) (bs A : List Nat) (H1 : AH) (ls1 : Lcs) (k f : Nat) (la : Array Bool) (ag : Bool) (knA kn : KN) (ls : Lcs) (H : AH) (Q : Exit → Act → World → Prop) : Prop :=
  ∀ w1 φ1 cs1 a w φ cs, DC P H1 ls1 w1 φ1 cs1 → φ1.le φ → SSφ P ne m E n kn ls H a w φ cs → KA φ1 cs1 knA a → (∀ (i : Nat) (c : Nat), cs1[i]? = some c → cs[i]? = some c) → JC ops bs la → (ag = true → agree w1 w) →
    wpOp P ops Q k (fun a' w' => (demO ops A bs k = true → agree w1 w') ∧ wpAnyD P ops Q bs A w1 f (la.setIfInBounds k true) a' w') a w

section
variable {E : Ent} {knA kn : KN} {ls ls1 : Lcs} {H H1 : AH} {a : Act} {w : World} {φ φ1 : Inj} {cs cs1 : List Nat} {f k : Nat} {la : Array Bool} {ag : Bool}

theorem WS.drawn {c : Code} (ops : Array Oper) (A : List Nat) (hc : regOf c = some (ops, true)) (hB : closedOk ops.toList (befores ops.toList) = true) (h : DA P ne m E n ops (befores ops.toList) A H ls ops.size (Array.replicate ops.size false) true kn kn ls H Q) : WS P ne m E n c kn ls H Q := by
  cases c with
  | region id ops' d =>
    simp only [regOf, Option.some.injEq, Prod.mk.injEq] at hc
    obtain ⟨rfl, rfl⟩ := hc
    intro a w hs
    obtain ⟨φ, cs, hs⟩ := hs
    refine wp_region_any hs.sane.mixed ?_
    have hs' : SSφ P ne m E n kn ls H a { w with drawn := w.drawn + 1 } φ cs :=
      ⟨hs.glob, ⟨hs.inv.dom, hs.inv.obj, hs.inv.sep⟩, ⟨hs.step.le, hs.step.ext, hs.step.new, hs.step.alv, hs.step.size, hs.step.keep, hs.step.os, hs.step.tape, hs.step.output⟩, hs.len, fun i c x h1 h2 => ⟨(hs.loc i c x h1 h2).1, (hs.loc i c x h1 h2).2, (hs.loc i c x h1 h2).3⟩, hs.inj, hs.low, hs.slot, hs.size, hs.defers, hs.sane, hs.inv0⟩
    exact wpAny_of_D _ _ _ _ (h _ φ cs a _ φ cs ⟨hs'.glob, hs'.inv, fun i c x h1 h2 => (hs'.loc i c x h1 h2).2⟩ (Inj.le_refl φ) hs' (fun t kv hl => hs'.slot t kv hl) (fun _ _ hc => hc) ⟨by simp, fun i j hh => by
      unfold LL at hh
      rw [Array.getD_eq_getD_getElem?, Array.getElem?_replicate] at hh
      split at hh <;> cases hh⟩ (fun _ => agree.refl _))
  | _ => cases hc

theorem DA.done (hr : readyIs ops la [] = true) (h : ∀ a w, SS P ne m E n kn ls H a w → Q .normal a w) : DA P ne m E n ops bs A H1 ls1 f la ag knA kn ls H Q := by
  intro w1 φ1 cs1 a w φ cs _ _ hs _ _ _ _
  have hr := readyIs_eq hr
  cases f with
  | zero => exact ⟨hr, h a w ⟨φ, cs, hs⟩⟩
  | succ f => exact ⟨fun _ => h a w ⟨φ, cs, hs⟩, by rw [hr]; simp⟩

theorem KA.put (h : KA φ1 cs1 knA a) {n : Nat} (hsz : n ≤ a.tmps.size) {d : Option Nat} (hd : (match d with | some a => Nat.blt a n | none => true) = true) {kv : KV} {v' : Value} (hv : KR φ1 cs1 kv v') : KA φ1 cs1 (putV knA d kv) (a.put d v') := by
  cases d with
  | none => exact h
  | some d =>
    have hlt : d < a.tmps.size := Nat.lt_of_lt_of_le (blt_lt hd) hsz
    intro t kv' hl
    simp only [putV, lkV] at hl
    simp only [Act.put]
    rw [Array.getD_eq_getD_getElem?, Array.getElem?_setIfInBounds]
    cases hb : Nat.beq d t with
    | true =>
      rw [hb] at hl
      have := Nat.eq_of_beq_eq_true hb
      subst this
      cases hl
      rw [if_pos rfl, if_pos hlt]
      exact hv
    | false =>
      rw [hb] at hl
      rw [if_neg (Nat.ne_of_beq_eq_false hb), ← Array.getD_eq_getD_getElem?]
      exact h t kv' hl

def dropV (d : Option Nat) (knA : KN) : KN := match d with
  | some d => knA.filter fun p => !(Nat.beq p.1 d)
  | none => knA

theorem lk_drop {d : Nat} : ∀ {kn : KN} {t : Nat} {kv : KV}, lkV (kn.filter fun p => !(Nat.beq p.1 d)) t = some kv → t ≠ d ∧ lkV kn t = some kv := by
  intro kn
  induction kn with
  | nil => intro t kv h; cases h
  | cons p l ih =>
    obtain ⟨s, v⟩ := p
    intro t kv h
    rw [List.filter_cons] at h
    cases hq : Nat.beq s d with
    | true =>
      rw [hq] at h
      obtain ⟨h1, h2⟩ := ih (by simpa using h)
      refine ⟨h1, ?_⟩
      simp only [lkV]
      have e := Nat.eq_of_beq_eq_true hq
      cases hs : Nat.beq s t with
      | true => exact absurd ((Nat.eq_of_beq_eq_true hs).symm.trans e) h1
      | false => exact h2
    | false =>
      rw [hq] at h
      simp only [Bool.not_false, if_true, lkV] at h
      simp only [lkV]
      cases hs : Nat.beq s t with
      | true =>
        rw [hs] at h
        have e := Nat.eq_of_beq_eq_true hs
        subst e
        exact ⟨Nat.ne_of_beq_eq_false hq, h⟩
      | false => rw [hs] at h; exact ih h

theorem KA.drop (h : KA φ1 cs1 knA a) (d : Option Nat) (v' : Value) : KA φ1 cs1 (dropV d knA) (a.put d v') := by
  cases d with
  | none => exact h
  | some d =>
    intro t kv hl
    obtain ⟨h1, h2⟩ := lk_drop hl
    simp only [Act.put]
    rw [Array.getD_eq_getD_getElem?, Array.getElem?_setIfInBounds, if_neg (fun e => h1 e.symm), ← Array.getD_eq_getD_getElem?]
    exact h t kv h2

/-- What is asked of an operation that is taken first. -/
def takeB (P : Program) (n : Nat) (ops : Array Oper) (A : List Nat) (la : Array Bool) (k : Nat) (o : Oper) : Bool :=
  A.contains k && Region.noSelect ops && Region.free .any ops la k && (Region.ready .any ops la).contains k && dstV n o

theorem evalA_ (h : KA φ1 cs1 knA a) (hg : Glob P φ1) {x : Operand} (hk : knownV knA x = true) (hx : okx P x = true) : VR φ1 (evV knA x) (a.eval x) := by
  cases x with
  | tmp t =>
    simp only [knownV] at hk
    simp only [evV]
    cases hl : lkV knA t with
    | none => rw [hl] at hk; cases hk
    | some kv =>
      cases kv with
      | val v => exact h t _ hl
      | loc i off => rw [hl] at hk; cases hk
      | sli i n => rw [hl] at hk; cases hk
  | const v => exact flat_refl depth hx
  | global g =>
    have hlt : g < P.globals.size := blt_lt hx
    obtain ⟨l, h1, h2, h3⟩ := hg g hlt
    have := VR.ptr (φ := φ1) g 0 l h1
    rw [h2, h3] at this
    exact this
  | func f => exact .func (.func f) #[] #[] #[] #[] rfl rfl (fun i x y hx => by simp at hx) (fun i x y hx => by simp at hx)

theorem take_core (ho : ops[k]? = some (opAt ops k)) (hB : takeB P n ops A la k (opAt ops k) = true) (hc : closedOk ops.toList bs = true) (hQ : ∀ c a w, ¬ Q (.panic c) a w) {kv : KV} {w1 : World}
    (hd : DC P H1 ls1 w1 φ1 cs1) (hle : φ1.le φ) (hs : SSφ P ne m E n kn ls H a w φ cs) (hka : KA φ1 cs1 knA a) (hpf : ∀ (i : Nat) (c : Nat), cs1[i]? = some c → cs[i]? = some c) (hJ : JC ops bs la) (hag : agree w1 w) {v' : Value} (hkr : KR φ1 cs1 kv v') (hkr2 : KR φ cs kv v') (hy : YieldsIf P ops (agree w1) (opAt ops k) v' a)
    (h : DA P ne m E n ops bs A H1 ls1 f (la.setIfInBounds k true) true (putV knA (opAt ops k).dst kv) (putV kn (opAt ops k).dst kv) ls H Q) : wpAnyD P ops Q bs A w1 (f + 1) la a w := by
  unfold takeB at hB
  simp only [Bool.and_eq_true] at hB
  obtain ⟨⟨⟨⟨b1, b2⟩, b3⟩, b4⟩, b5⟩ := hB
  have hr : k ∈ Region.ready .any ops la := by simpa using b4
  refine wpAnyD_first ho b1 hc (Region.noSelect_spec b2) hQ f la a w hJ (Region.free_spec ho b3) hr hy hag ?_
  exact h w1 φ1 cs1 _ w φ cs hd hle (hs.put b5 hkr2) (hka.put hs.size b5 hkr) hpf (hJ.next (rdy_of hc hJ hr)) (fun _ => hag)

/-- A value is taken. -/
theorem DA.take {v : Value} (ho : ops[k]? = some (opAt ops k)) (hB : takeB P n ops A la k (opAt ops k) = true) (hc : closedOk ops.toList bs = true) (hQ : ∀ c a w, ¬ Q (.panic c) a w)
    (hw : (wantV ops kn (opAt ops k), (opAt ops k).op.operands.all (okx P), (opAt ops k).op.operands.all (knownV knA)) = (some true, true, true)) (hv : detOp P H1 (opAt ops k) (evV knA) = some v)
    (h : DA P ne m E n ops bs A H1 ls1 f (la.setIfInBounds k true) true (putV knA (opAt ops k).dst (.val v)) (putV kn (opAt ops k).dst (.val v)) ls H Q) : DA P ne m E n ops bs A H1 ls1 (f + 1) la true knA kn ls H Q := by
  intro w1 φ1 cs1 a w φ cs hd hle hs hka hpf hJ hag
  simp only [Prod.mk.injEq] at hw
  obtain ⟨hw1, hw2, hw3⟩ := hw
  rw [Array.all_eq_true_iff_forall_mem] at hw2 hw3
  obtain ⟨v', h1, h2⟩ := detOp_ok (ρ' := a.eval) hd.inv (fun x hx => evalA_ hka hd.glob (hw3 x hx) (hw2 x hx)) hv
  exact take_core ho hB hc hQ hd hle hs hka hpf hJ (hag rfl) (kv := .val v) h1 (h1.mono hle) (.inl ⟨wantV_ok hs hw1, h2⟩) h

/-- What an operation reads of one's own variables. -/
def locDet (P : Program) (knA : KN) (ls1 : Lcs) (o : Oper) : Option KV :=
  match o.op with
  | .move _ | .assign _ | .nilCheck _ | .fieldAddr .. | .load .. => (locOp P knA ls1 o).map (·.1)
  | _ => none

theorem locDet_ok {o : Oper} {kv : KV} (h : locDet P knA ls1 o = some kv) (hd : DC P H1 ls1 w1 φ1 cs1) (hka : KA φ1 cs1 knA a) : ∃ v', KR φ1 cs1 kv v' ∧ ∀ w, agree w1 w → (execOp a.eval o).run P w = .ok (.value v') w := by
  unfold locDet at h
  have hl : ∃ ls', locOp P knA ls1 o = some (kv, ls') := by
    split at h
    all_goals first | (cases hq : locOp P knA ls1 o with | none => rw [hq] at h; cases h | some p => obtain ⟨x, y⟩ := p; rw [hq] at h; simp only [Option.map_some, Option.some.injEq] at h; subst h; exact ⟨y, rfl⟩) | cases h
  obtain ⟨ls', hl⟩ := hl
  obtain ⟨dst, op, ty, pos, after, guard⟩ := o
  unfold locOp at hl
  simp only at hl h
  split at hl
  · rename_i t
    split at hl
    · rename_i i off hk
      simp only [Option.some.injEq, Prod.mk.injEq] at hl
      obtain ⟨rfl, rfl⟩ := hl
      exact ⟨a.tmps.getD t undef, hka t _ hk, fun w _ => rfl⟩
    · cases hl
  · rename_i t
    split at hl
    · rename_i i off hk
      simp only [Option.some.injEq, Prod.mk.injEq] at hl
      obtain ⟨rfl, rfl⟩ := hl
      exact ⟨a.tmps.getD t undef, hka t _ hk, fun w _ => rfl⟩
    · cases hl
  · rename_i t
    split at hl
    · rename_i i off hk
      simp only [Option.some.injEq, Prod.mk.injEq] at hl
      obtain ⟨rfl, rfl⟩ := hl
      refine ⟨a.tmps.getD t undef, hka t _ hk, fun w _ => ?_⟩
      obtain ⟨c, h1, h2⟩ := hka t _ hk
      have : a.eval (.tmp t) = .pointer (some ⟨c, off, none⟩) := h2
      simp only [execOp, this]
      rw [h2]; rfl
    · cases hl
  · rename_i s t f
    split at hl
    · rename_i i off fs hk hu
      cases hf : fs[f]? with
      | none => rw [hf] at hl; cases hl
      | some fd =>
        rw [hf] at hl
        simp only at hl
        cases hi : P.info? fd.type with
        | none => rw [hi] at hl; cases hl
        | some inf =>
          rw [hi] at hl
          simp only at hl
          cases hz : Nat.beq inf.size 0 with
          | true => rw [hz] at hl; cases hl
          | false =>
            rw [hz] at hl
            simp only [cond_false, Option.some.injEq, Prod.mk.injEq] at hl
            obtain ⟨rfl, rfl⟩ := hl
            obtain ⟨c, h1, h2⟩ := hka t _ hk
            have he : a.eval (.tmp t) = .pointer (some ⟨c, off, none⟩) := h2
            refine ⟨.pointer (some ⟨c, off + fd.offset, none⟩), ⟨c, h1, rfl⟩, fun w _ => ?_⟩
            have hne := Nat.ne_of_beq_eq_false hz
            have hrun : (Instr.fieldAt s (.pointer (some ⟨c, off, none⟩)) f).run P w = .ok (.pointer (some ⟨c, off + fd.offset, none⟩)) w := by
              simp only [Instr.fieldAt, Sem.run_bind, run_und hu, Result.andThen_ok, hf, Instr.sureAddr, Sem.run_pure, fieldPlace, run_size hi]
              rw [if_neg hne]
              simp only [Sem.run_pure, Result.andThen_ok, Addr.add_lit]
            simp only [execOp, he, Sem.run_bind, hrun, Result.andThen_ok]
            rfl
    · cases hl
  · rename_i t x
    split at hl
    · rename_i i off d inf hk hu hi
      split at hl
      · rename_i e cells hc
        obtain ⟨c, h1, h2⟩ := hka x _ hk
        obtain ⟨rs, g2, g3⟩ := hd.loc i c _ h1 hc
        have he : a.eval (.tmp x) = .pointer (some ⟨c, off, none⟩) := h2
        have hlen := LR.length g3
        simp only at hlen g3
        have hlt : c < w1.heap.size := by rw [Array.getElem?_eq_some_iff] at g2; exact g2.1
        have hagg : ∀ w, (isAgg t).run P w = .ok (isAggD d) w := by
          intro w
          simp only [isAgg, Sem.run_bind, run_und hu, Result.andThen_ok]
          cases d <;> rfl
        have hex : ∀ w v, (loadVar t ⟨c, off, none⟩).run P w = .ok v w → (execOp a.eval ⟨dst, .load t (.tmp x), ty, pos, after, guard⟩).run P w = .ok (.value v) w := by
          intro w v hr
          simp only [execOp, he, Instr.loadAt, Instr.sureAddr, Sem.run_bind, Sem.run_pure, Result.andThen_ok, hr]
        have hcell : ∀ w, agree w1 w → ∀ (j : Nat) u, rs[off + j]? = some u → w.cell? ((⟨c, off, none⟩ : Addr).add j) = some u := by
          intro w hag j u hu
          rw [Addr.add_lit]
          simp [World.cell?, hag c hlt, g2, hu]
        cases hda : isAggD d with
        | true =>
          rw [hda] at hl
          simp only [cond_true] at hl
          cases hb : Nat.ble (off + inf.size) cells.length with
          | false => rw [hb] at hl; cases hl
          | true =>
            rw [hb] at hl
            simp only [cond_true, Option.some.injEq, Prod.mk.injEq] at hl
            obtain ⟨rfl, rfl⟩ := hl
            have hble := Nat.le_of_ble_eq_true hb
            have hls : ((rs.toList.drop off).take inf.size).length = inf.size := by simp at hlen ⊢; omega
            refine ⟨.agg ((rs.toList.drop off).take inf.size).toArray, ?_, fun w hag => hex w _ ?_⟩
            · have hpw : AR φ1 ((cells.drop off).take inf.size).toArray ((rs.toList.drop off).take inf.size).toArray := by
                refine ⟨by simp at hlen ⊢; omega, fun j u v hu hv => ?_⟩
                have hA := AR_iff.2 (show LR φ1 cells.toArray.toList rs.toList by simpa using g3)
                rw [List.getElem?_toArray, List.getElem?_take] at hu hv
                split at hu
                · rename_i hj
                  rw [if_pos hj, List.getElem?_drop] at hv
                  rw [List.getElem?_drop] at hu
                  exact hA.2 (off + j) u v (by simpa using hu) (by simpa using hv)
                · cases hu
              exact .agg _ _ hpw.1 hpw.2
            · have hrun := run_loadCells_list (P := P) w ⟨c, off, none⟩ ((rs.toList.drop off).take inf.size) (fun j u hu => by
                rw [List.getElem?_take] at hu
                split at hu
                · rw [List.getElem?_drop] at hu
                  exact hcell w hag j u (by simpa using hu)
                · cases hu)
              rw [hls] at hrun
              simp only [loadVar, Sem.run_bind, hagg w, Result.andThen_ok, hda, if_true, run_size hi, hrun, Sem.run_pure]
        | false =>
          rw [hda] at hl
          simp only [cond_false] at hl
          cases hv : cells[off]? with
          | none => rw [hv] at hl; cases hl
          | some v =>
            rw [hv] at hl
            simp only [Option.some.injEq, Prod.mk.injEq] at hl
            obtain ⟨rfl, rfl⟩ := hl
            have hA := AR_iff.2 (show LR φ1 cells.toArray.toList rs.toList by simpa using g3)
            obtain ⟨v', hv', hvr⟩ := hA.get (show cells.toArray[off]? = some v by simpa using hv)
            refine ⟨v', hvr, fun w hag => hex w _ ?_⟩
            have h0 := hcell w hag 0 v' (by simpa using hv')
            have e0 : (⟨c, off, none⟩ : Addr).add 0 = ⟨c, off, none⟩ := rfl
            rw [e0] at h0
            simp only [loadVar, Sem.run_bind, hagg w, hda, Result.andThen_ok, Bool.false_eq_true, if_false]
            simp [h0]
      · cases hl
    · cases hl
  all_goals first | (simp only [reduceCtorEq] at h; done) | (cases hl; done)

theorem KR.pfx {kv : KV} {v' : Value} (hle : φ1.le φ) (hpf : ∀ (i : Nat) (c : Nat), cs1[i]? = some c → cs[i]? = some c) (h : KR φ1 cs1 kv v') : KR φ cs kv v' := by
  cases kv with
  | val v => exact VR.mono hle h
  | loc i off =>
    obtain ⟨c, h1, h2⟩ := h
    exact ⟨c, hpf i c h1, h2⟩
  | sli i n =>
    obtain ⟨⟨c, h1, h2⟩, h3⟩ := h
    exact ⟨⟨c, hpf i c h1, h2⟩, h3⟩

/-- A read of one's own variable is taken. -/
theorem DA.takeL {kv : KV} (ho : ops[k]? = some (opAt ops k)) (hB : takeB P n ops A la k (opAt ops k) = true) (hc : closedOk ops.toList bs = true) (hQ : ∀ c a w, ¬ Q (.panic c) a w) (hw : wantV ops kn (opAt ops k) = some true) (hv : locDet P knA ls1 (opAt ops k) = some kv)
    (h : DA P ne m E n ops bs A H1 ls1 f (la.setIfInBounds k true) true (putV knA (opAt ops k).dst kv) (putV kn (opAt ops k).dst kv) ls H Q) : DA P ne m E n ops bs A H1 ls1 (f + 1) la true knA kn ls H Q := by
  intro w1 φ1 cs1 a w φ cs hd hle hs hka hpf hJ hag
  obtain ⟨v', h1, h2⟩ := locDet_ok hv hd hka
  exact take_core ho hB hc hQ hd hle hs hka hpf hJ (hag rfl) (kv := kv) h1 (h1.pfx hle hpf) (.inl ⟨wantV_ok hs hw, h2⟩) h

/-- A call as an operation, with a mark of its own. -/
theorem call_wp' {m2 : Nat} {g : Nat} {args : Array Value} {v : Value} {H' : AH} {o : Oper} (hs : SSφ P ne m E n kn ls H a w φ cs) (hx : o.op.operands.all (okx P) = true) (hkn : o.op.operands.all (knownV kn) = true) (hc : callV kn o = some (g, args)) (hr : CallS P ne m2 g args H v H')
    {K : Act → World → Prop} (hn : ∀ φ' v' w', VR φ' v v' → Inv φ' H' w' → Step m2 φ H w φ' H' w' → K (a.put o.dst v') w') : o.wp P a w K Q := by
  rw [Array.all_eq_true_iff_forall_mem] at hkn hx
  have hev : ∀ x ∈ o.op.operands, VR φ (evV kn x) (a.eval x) := fun x hxm => hs.eval (hkn x hxm) (hx x hxm)
  obtain ⟨⟨fn, c, hf, hb⟩, hr⟩ := hr hs.sane
  obtain ⟨dst, op, ty, pos, after, guard⟩ := o
  unfold callV at hc
  simp only at hc hev hn
  split at hc
  · rename_i g args0 ts
    have hgv := hev g (by simp [Op.operands, Call.operands])
    have hargs : AR φ (args0.map (evV kn)) (args0.map a.eval) := ar_map args0 fun x hx => hev x (by simp [Op.operands, Call.operands, hx])
    split at hc
    · rename_i f0 first cap hge
      simp only [Option.some.injEq, Prod.mk.injEq] at hc
      obtain ⟨rfl, rfl⟩ := hc
      rw [hge] at hgv
      generalize hq : a.eval g = q at hgv
      cases hgv with
      | func fn' f1 g1 f1' g1' hf1 hg1 i1 i2 =>
        have hall : AR φ (first ++ args0.map (evV kn) ++ cap) (f1' ++ args0.map a.eval ++ g1') := ((AR.append ⟨hf1, i1⟩ hargs).append ⟨hg1, i2⟩)
        show Oper.upon P _ a K Q _
        have hex : execOp a.eval { dst := dst, op := .call { callee := .value g, args := args0, argTypes := ts }, type := ty, pos := pos, after := after, guard := guard } = callFunc f0 (f1' ++ args0.map a.eval ++ g1') := by
          simp only [execOp, resolve, hq]; rfl
        rw [hex, run_callFunc_body hs.sane hf hb]
        exact calls_returned (hr φ w _ hs.glob hall hs.inv) hn
    · cases hc
  · cases hc

theorem agree.trans' {w1 w w' : World} (h1 : agree w1 w) (h2 : agree w w') : agree w1 w' := fun c hc => by
  have hlt : c < w.heap.size := by
    have := h1 c hc
    rw [Array.getElem?_eq_getElem hc] at this
    rw [Array.getElem?_eq_some_iff] at this
    exact this.1
  rw [h2 c hlt, h1 c hc]

theorem act_core (ho : ops[k]? = some (opAt ops k)) {w1 : World} (hs : SSφ P ne m E n kn ls H a w φ cs) (hw : wantV ops kn (opAt ops k) = some true)
    (h : ∀ K : Act → World → Prop, (∀ a' w', (demO ops A bs k = true → agree w1 w') ∧ wpAnyD P ops Q bs A w1 f (la.setIfInBounds k true) a' w' → K a' w') → (opAt ops k).wp P a w K Q) :
    wpOp P ops Q k (fun a' w' => (demO ops A bs k = true → agree w1 w') ∧ wpAnyD P ops Q bs A w1 f (la.setIfInBounds k true) a' w') a w := by
  unfold wpOp
  rw [ho]
  simp only [wantV_ok hs hw, if_true]
  left
  exact h _ fun a' w' hh => hh

theorem rdy_act (hr : (Region.ready .any ops la).contains k = true) (hc : closedOk ops.toList bs = true) (hJ : JC ops bs la) : JC ops bs (la.setIfInBounds k true) :=
  hJ.next (rdy_of hc hJ (by simpa using hr))

theorem DA.one (k : Nat) (hr : readyIs ops la [k] = true) (h : DAk P ne m E n ops bs A H1 ls1 k f la ag knA kn ls H Q) : DA P ne m E n ops bs A H1 ls1 (f + 1) la ag knA kn ls H Q := by
  intro w1 φ1 cs1 a w φ cs q1 q2 q3 q4 q5 q6 q7
  have hr := readyIs_eq hr
  refine ⟨fun h0 => (by rw [hr] at h0; cases h0), fun i hi => ?_⟩
  rw [hr] at hi
  simp only [List.mem_cons, List.not_mem_nil, or_false] at hi
  subst hi
  exact h w1 φ1 cs1 a w φ cs q1 q2 q3 q4 q5 q6 q7

theorem step_weak {φ φ' : Inj} {H H' : AH} {w w' : World} {m m2 : Nat} (hm : m ≤ m2) (h : Step m2 φ H w φ' H' w') : Step m φ H w φ' H' w' :=
  ⟨h.le, h.ext, fun id l h1 h2 => ⟨(h.new id l h1 h2).1, (h.new id l h1 h2).2.imp (fun q => q) fun ⟨id0, l0, q1, q2⟩ => ⟨id0, l0, Nat.le_trans hm q1, q2⟩⟩, h.alv, h.size, fun c hc hno => h.keep c hc fun id l hid => hno id l (Nat.le_trans hm hid), h.os, h.tape, h.output⟩

/-- Nothing that was there has been written. -/
theorem step_agree {φ φ' : Inj} {H H' : AH} {w w' : World} {m : Nat} (hm : H.next ≤ m) (hi : Inv φ H w) (h : Step m φ H w φ' H' w') : agree w w' := by
  intro c hc
  refine h.keep c hc fun id l hid hs hl => ?_
  have := (hi.dom id l hl).1
  omega

/-- Something new, or a write. -/
theorem DA.actH (m2 : Nat) (ag' : Bool) {v : Value} {H' : AH} (ho : ops[k]? = some (opAt ops k)) (hr : (Region.ready .any ops la).contains k = true) (hc : closedOk ops.toList bs = true) (hB : opV P n ops kn (opAt ops k) = true) (hv : runOp P (NE.plain 0) ih0 m2 (opAt ops k) (evV kn) H = some (v, H')) (hn : noCall (opAt ops k) = true)
    (hm : m ≤ m2) (hm2 : (demO ops A bs k || ag') = true → H.next ≤ m2) (ha : ((!demO ops A bs k || ag) && (!ag' || ag)) = true)
    (h : DA P ne m E n ops bs A H1 ls1 f (la.setIfInBounds k true) ag' (dropV (opAt ops k).dst knA) (putV kn (opAt ops k).dst (.val v)) ls H' Q) : DAk P ne m E n ops bs A H1 ls1 k f la ag knA kn ls H Q := by
  intro w1 φ1 cs1 a w φ cs hd1 hle hs hka hpf hJ hag
  unfold opV at hB
  simp only [Bool.and_eq_true] at hB
  obtain ⟨⟨⟨hg, hx⟩, hkn⟩, hd⟩ := hB
  rw [Array.all_eq_true_iff_forall_mem] at hkn hx
  have hw : wantV ops kn (opAt ops k) = some true := by
    split at hg
    · assumption
    · cases hg
  refine act_core ho hs hw fun K hK => ?_
  have hr' : runOp P ne ih0 m2 (opAt ops k) (evV kn) H = some (v, H') := by
    rw [← hv]
    generalize opAt ops k = o at hn
    obtain ⟨dst, op, ty, pos, after, guard⟩ := o
    unfold runOp
    cases op with
    | call c =>
      obtain ⟨callee, args, ts⟩ := c
      cases callee with
      | value g => cases hn
      | _ => rfl
    | _ => rfl
  refine runOp_ok hs.sane good_ih0 hr' hs.glob (fun x hxm => hs.eval (hkn x hxm) (hx x hxm)) hs.inv fun φ' v' w' h1 h2 h3 => ?_
  have hkeep : (demO ops A bs k || ag') = true → ag = true → agree w1 w' := fun hh hag2 => by
    exact (hag hag2).trans' (step_agree (hm2 hh) hs.inv h3)
  rw [Bool.and_eq_true] at ha
  refine hK _ _ ⟨fun hdm => hkeep (by rw [hdm]; rfl) (by have := ha.1; rw [hdm] at this; simpa using this), h w1 φ1 cs1 _ _ φ' cs hd1 (fun id l hl => h3.ext _ _ (hle _ _ hl)) ((hs.heap h2 (step_weak hm h3)).put hd h1) (hka.drop _ _) hpf (rdy_act hr hc hJ) fun hag2 => hkeep (by rw [hag2, Bool.or_true]) (by have := ha.2; rw [hag2] at this; simpa using this)⟩

/-- A call. -/
theorem DA.actC (m2 : Nat) (ag' : Bool) {v : Value} {H' : AH} (g : Nat) (args : Array Value) (ho : ops[k]? = some (opAt ops k)) (hr : (Region.ready .any ops la).contains k = true) (hc : closedOk ops.toList bs = true) (hB : opV P n ops kn (opAt ops k) = true) (hcl : callV kn (opAt ops k) = some (g, args)) (hcs : CallS P ne m2 g args H v H')
    (hm : m ≤ m2) (hm2 : (demO ops A bs k || ag') = true → H.next ≤ m2) (ha : ((!demO ops A bs k || ag) && (!ag' || ag)) = true)
    (h : DA P ne m E n ops bs A H1 ls1 f (la.setIfInBounds k true) ag' (dropV (opAt ops k).dst knA) (putV kn (opAt ops k).dst (.val v)) ls H' Q) : DAk P ne m E n ops bs A H1 ls1 k f la ag knA kn ls H Q := by
  intro w1 φ1 cs1 a w φ cs hd1 hle hs hka hpf hJ hag
  unfold opV at hB
  simp only [Bool.and_eq_true] at hB
  obtain ⟨⟨⟨hg, hx⟩, hkn⟩, hd⟩ := hB
  have hw : wantV ops kn (opAt ops k) = some true := by
    split at hg
    · assumption
    · cases hg
  refine act_core ho hs hw fun K hK => ?_
  refine call_wp' hs hx hkn hcl hcs fun φ' v' w' h1 h2 h3 => ?_
  have hkeep : (demO ops A bs k || ag') = true → ag = true → agree w1 w' := fun hh hag2 => by
    exact (hag hag2).trans' (step_agree (hm2 hh) hs.inv h3)
  rw [Bool.and_eq_true] at ha
  refine hK _ _ ⟨fun hdm => hkeep (by rw [hdm]; rfl) (by have := ha.1; rw [hdm] at this; simpa using this), h w1 φ1 cs1 _ _ φ' cs hd1 (fun id l hl => h3.ext _ _ (hle _ _ hl)) ((hs.heap h2 (step_weak hm h3)).put hd h1) (hka.drop _ _) hpf (rdy_act hr hc hJ) fun hag2 => hkeep (by rw [hag2, Bool.or_true]) (by have := ha.2; rw [hag2] at this; simpa using this)⟩

/-- A truth value is met both ways. -/
theorem DA.fix (t : Nat) {b : Bool} (d : Bool) (hb : b = d) (hl : lkV kn t = some (.val (.bool b))) (h : DA P ne m E n ops bs A H1 ls1 f la ag ((t, .val (.bool d)) :: knA) ((t, .val (.bool d)) :: kn) ls H Q) : DA P ne m E n ops bs A H1 ls1 f la ag knA kn ls H Q := by
  subst hb
  intro w1 φ1 cs1 a w φ cs hd1 hle hs hka hpf hJ hag
  have hv : VR φ (.bool b) (a.tmps.getD t undef) := hs.slot t _ hl
  have hv1 : VR φ1 (.bool b) (a.tmps.getD t undef) := by
    generalize a.tmps.getD t undef = u at hv
    cases hv; exact .bool b
  refine h w1 φ1 cs1 a w φ cs hd1 hle ⟨hs.glob, hs.inv, hs.step, hs.len, hs.loc, hs.inj, hs.low, fun s kv hh => ?_, hs.size, hs.defers, hs.sane, hs.inv0⟩ (fun s kv hh => ?_) hpf hJ hag
  · simp only [lkV] at hh
    cases hq : Nat.beq t s with
    | true =>
      rw [hq] at hh
      have := Nat.eq_of_beq_eq_true hq
      subst this
      cases hh
      exact hv
    | false => rw [hq] at hh; exact hs.slot s kv hh
  · simp only [lkV] at hh
    cases hq : Nat.beq t s with
    | true =>
      rw [hq] at hh
      have := Nat.eq_of_beq_eq_true hq
      subst this
      cases hh
      exact hv1
    | false => rw [hq] at hh; exact hka s kv hh

end
end Go.Abs


namespace Go.Abs

/-- How a loop is run: by whatever finds what the loop comes to. -/
structure LC where
  run : {S R : Type} → (S → Option (Lp S R)) → S → Option (S ⊕ R)
  fuel : Nat
  ok : ∀ {S R : Type} {body : S → Option (Lp S R)} {s : S} {o : S ⊕ R}, run body s = some o → loopO body s = some o

noncomputable def LCo (k : Nat) : LC := ⟨fun b s => loopO b s, k, fun h => h⟩
def LCn (k j : Nat) : LC := ⟨fun b s => iterO b k s, j, fun h => loopO_iff.2 ⟨k, h⟩⟩

variable {P : Program} {ne : NE} {m : Nat} {ih : Ex} {ρ : Operand → Value} {o : Oper} {H H' : AH}

theorem det_load {t : TypeId} {x : Operand} {a : Addr} {v : Value} (hop : o.op = .load t x) (hu : (P.underlying t).map isAggD = some false) (hi : (P.info? t).isSome = true) (hx : ρ x = .pointer (some a)) (h : H.cell a = some v) : detOp P H o ρ = some v := by
  obtain ⟨dst, op, ty, pos, after, guard⟩ := o
  simp only at hop
  subst hop
  obtain ⟨i, hi⟩ := Option.isSome_iff_exists.1 hi
  cases hd : P.underlying t with
  | none => rw [hd] at hu; cases hu
  | some d =>
    rw [hd] at hu
    simp only [Option.map_some, Option.some.injEq] at hu
    simp only [detOp, tPure, hx, aLoad, hd, hi, hu, cond_false, h]

theorem det_idx {t e : TypeId} {x y : Operand} {sz : Nat} {s : Sl3} {k : IntKind} {i : Int} {a : Addr} (hop : o.op = .indexAddr t x y) (hu : P.underlying t = some (.slice e)) (hi : (P.info? e).map (·.size) = some sz)
    (hx : ρ x = s.v) (hy : ρ y = .int k i) (h : idxA sz s i = some a) : detOp P H o ρ = some (.pointer (some a)) := by
  obtain ⟨dst, op, ty, pos, after, guard⟩ := o
  simp only at hop
  subst hop
  obtain ⟨p, l, c⟩ := s
  cases hie : P.info? e with
  | none => rw [hie] at hi; cases hi
  | some inf =>
    rw [hie] at hi
    simp only [Option.map_some, Option.some.injEq] at hi
    subst hi
    unfold idxA at h
    cases p with
    | none => cases h
    | some b =>
      simp only at h
      split at h
      · rename_i hb
        simp only [Option.some.injEq] at h
        subst h
        obtain ⟨j, rfl⟩ : ∃ j : Nat, i = (j : Int) := ⟨i.toNat, by omega⟩
        have hlt : Nat.blt j l = true := Nat.ble_eq_true_of_le (by omega)
        have hp : tPure P ⟨dst, .indexAddr t x y, ty, pos, after, guard⟩ ρ = some (.pointer (some (b.add (j * inf.size)))) := by
          simp only [tPure, hu, hx, hy, Sl3.v, hie]
          show (match (Value.int k (Int.ofNat j)) with | .int _ (.ofNat i) => _ | _ => none) = _
          simp only [hlt, cond_true]
        simp only [detOp, hp]
        simp
      · cases h

theorem run_loadAg {t : TypeId} {x : Operand} {a : Addr} {l : List Value} {k : Nat} (hop : o.op = .load t x) (hu : (P.underlying t).map isAggD = some true) (hi : (P.info? t).map (·.size) = some k) (hx : ρ x = .pointer (some a)) (h : rdCells H a 0 k = some l) : runOp P ne ih m o ρ H = some (.agg l.toArray, H) := by
  obtain ⟨dst, op, ty, pos, after, guard⟩ := o
  simp only at hop
  subst hop
  cases hie : P.info? t with
  | none => rw [hie] at hi; cases hi
  | some i =>
    rw [hie] at hi
    simp only [Option.map_some, Option.some.injEq] at hi
    subst hi
    cases hd : P.underlying t with
    | none => rw [hd] at hu; cases hu
    | some d =>
      rw [hd] at hu
      simp only [Option.map_some, Option.some.injEq] at hu
      simp only [runOp, aOp, execOp, hx, bind]
      have hS : arun P m (Instr.loadAt t (.pointer (some a))) H = some (.agg l.toArray, H) := by
        unfold Instr.loadAt Go.loadVar Go.isAgg
        have hl := arun_loadCellsFrom (P := P) (m := m) a i.size 0 #[] H
        rw [h] at hl
        simp only [Instr.sureAddr, Go.underlying, Go.program, Go.sizeOf, Go.typeInfo, bind, Pure.pure, Sem.bind, arun, hd]
        cases d <;> first | (simp only [isAggD] at hu; cases hu; done) | (simp only [Sem.bind, arun, if_true, hie, Go.loadCells]; rw [arun_bind, hl]; simp [arun])
      rw [arun_bind, hS]
      rfl

def idxR (sz n : Nat) (a : Addr) (i : Int) : Option Addr := if 0 ≤ i ∧ i < n then some (a.add (i.toNat * sz)) else none

theorem run_idxR {t e : TypeId} {x y : Operand} {sz n : Nat} {a a' : Addr} {k : IntKind} {i : Int} (hop : o.op = .indexAddr t x y) (hu : P.underlying t = some (.array n e)) (hi : (P.info? e).map (·.size) = some sz)
    (hx : ρ x = .pointer (some a)) (hy : ρ y = .int k i) (h : idxR sz n a i = some a') : runOp P ne ih m o ρ H = some (.pointer (some a'), H) := by
  obtain ⟨dst, op, ty, pos, after, guard⟩ := o
  simp only at hop
  subst hop
  cases hie : P.info? e with
  | none => rw [hie] at hi; cases hi
  | some inf =>
    rw [hie] at hi
    simp only [Option.map_some, Option.some.injEq] at hi
    subst hi
    unfold idxR at h
    split at h
    · rename_i hb
      simp only [Option.some.injEq] at h
      subst h
      simp only [runOp, aOp, execOp, hx, hy]
      have hS : arun P m (Instr.indexAt t (.pointer (some a)) (.int k i)) H = some (.pointer (some (a.add (i.toNat * inf.size))), H) := by
        unfold Instr.indexAt
        simp only [asIntOf, Go.underlying, Go.sizeOf, Go.typeInfo, Go.program, bind, Pure.pure, Sem.bind, arun, hu, hie, Instr.sureAddr]
        rw [if_pos hb]
        simp only [Sem.bind, arun, hie]
      simp only [bind]
      rw [arun_bind, hS]
      rfl
    · cases h

def slcR (sz n : Nat) (a : Addr) (lo hi : Option Int) : Option Sl3 :=
  let l := lo.getD 0
  let h := hi.getD n
  if 0 ≤ l ∧ l ≤ h ∧ h ≤ n ∧ n < OPEN then some ⟨some (if n = l.toNat then a else a.add (l.toNat * sz)), h.toNat - l.toNat, n - l.toNat⟩ else none

theorem run_slcR {t e : TypeId} {x : Operand} {lo hi : Option Operand} {sz n : Nat} {a : Addr} {s : Sl3} {k1 k2 : IntKind} {l1 l2 : Option Int} (hop : o.op = .slice t x lo hi none) (hu : P.underlying t = some (.array n e)) (hi' : (P.info? e).map (·.size) = some sz)
    (hx : ρ x = .pointer (some a)) (h1 : lo.map ρ = l1.map (.int k1)) (h2 : hi.map ρ = l2.map (.int k2)) (h : slcR sz n a l1 l2 = some s) : runOp P ne ih m o ρ H = some (s.v, H) := by
  obtain ⟨dst, op, ty, pos, after, guard⟩ := o
  simp only at hop
  subst hop
  cases hie : P.info? e with
  | none => rw [hie] at hi'; cases hi'
  | some inf =>
    rw [hie] at hi'
    simp only [Option.map_some, Option.some.injEq] at hi'
    subst hi'
    unfold slcR at h
    simp only at h
    split at h
    · rename_i hb
      simp only [Option.some.injEq] at h
      subst h
      obtain ⟨b1, b2, b3, b4⟩ := hb
      have hlt : Nat.blt n OPEN = true := Nat.ble_eq_true_of_le b4
      have hab : abounds n n (lo.map ρ) (hi.map ρ) none = some ((l1.getD 0).toNat, (l2.getD n).toNat, n) := by
        rw [h1, h2]
        unfold abounds
        simp only [bnd, Option.isSome_none, Bool.false_and, cond_false]
        cases l2 with
        | none =>
          simp only [Option.map_none, bnd, Option.getD_none]
          cases l1 with
          | none => simp [bnd]
          | some x =>
            simp only [Option.getD_some, Option.getD_none] at b1 b2
            obtain ⟨j, rfl⟩ : ∃ j : Nat, x = Int.ofNat j := ⟨x.toNat, by simp; omega⟩
            have : Nat.ble j n = true := Nat.ble_eq_true_of_le (by simp at b2; omega)
            simp [bnd, this]
        | some y =>
          simp only [Option.getD_some] at b1 b2 b3
          obtain ⟨q, rfl⟩ : ∃ j : Nat, y = Int.ofNat j := ⟨y.toNat, by simp; omega⟩
          have hq : Nat.ble q n = true := Nat.ble_eq_true_of_le (by simp at b3; omega)
          simp only [Option.map_some, bnd, hq, cond_true]
          cases l1 with
          | none => simp [bnd]
          | some x =>
            simp only [Option.getD_some] at b1 b2
            obtain ⟨j, rfl⟩ : ∃ j : Nat, x = Int.ofNat j := ⟨x.toNat, by simp; omega⟩
            have : Nat.ble j q = true := Nat.ble_eq_true_of_le (by simp at b2; omega)
            simp [bnd, this]
      simp only [runOp, aOp, hx, aSliceArr, hu, hie, Option.map_none, hab, hlt, Nat.ble_eq_true_of_le (Nat.le_refl n), Bool.and_self, cond_true, Sl3.v]
    · cases h

def mapB : Blk := { obj := .map #[] 0, opn := false, esz := 0, ro := false }

def lkM {α : Type} (P : Program) (t : TypeId) (de : Value → Option α) (H : AH) (m : Option Nat) (k : Value) : Option (α × Bool) :=
  match aLookup P t (.map m) k true H with
  | some (.tuple cs) => match cs.toList with
    | [x, .bool b] => (de x).map (·, b)
    | _ => none
  | _ => none

def lk1 {α : Type} (P : Program) (t : TypeId) (de : Value → Option α) (H : AH) (m : Option Nat) (k : Value) : Option α := (aLookup P t (.map m) k false H).bind de

theorem lkM_eq {α : Type} {t : TypeId} {de : Value → Option α} {mm : Option Nat} {k : Value} {x : α} {b : Bool} {v : Value} (h : lkM P t de H mm k = some (x, b)) (hv : ∀ u, de u = some x → u = v) : aLookup P t (.map mm) k true H = some (.tuple #[v, .bool b]) := by
  unfold lkM at h
  split at h
  · rename_i cs hc
    split at h
    · rename_i y c hl
      cases hd : de y with
      | none => rw [hd] at h; cases h
      | some z =>
        rw [hd] at h
        simp only [Option.map_some, Option.some.injEq, Prod.mk.injEq] at h
        obtain ⟨rfl, rfl⟩ := h
        rw [hc, ← hv y hd, list_two hl]
    · cases h
  · cases h

theorem lk1_eq {α : Type} {t : TypeId} {de : Value → Option α} {mm : Option Nat} {k : Value} {x : α} {v : Value} (h : lk1 P t de H mm k = some x) (hv : ∀ u, de u = some x → u = v) : aLookup P t (.map mm) k false H = some v := by
  obtain ⟨u, h1, h2⟩ := bind_some h
  rw [h1, hv u h2]

theorem run_look {t : TypeId} {x y : Operand} {ok : Bool} {mm : Option Nat} {k v : Value} (hop : o.op = .lookup t x y ok) (hx : ρ x = .map mm) (hy : ρ y = k) (hf : flat depth k = true) (h : aLookup P t (.map mm) k ok H = some v) : runOp P ne ih m o ρ H = some (v, H) := by
  obtain ⟨dst, op, ty, pos, after, guard⟩ := o
  simp only at hop
  subst hop
  simp only [runOp, aOp, hx, hy, hf, cond_true, h]

theorem det_look {t : TypeId} {x y : Operand} {ok : Bool} {mm : Option Nat} {k v : Value} (hop : o.op = .lookup t x y ok) (hx : ρ x = .map mm) (hy : ρ y = k) (hf : flat depth k = true) (h : aLookup P t (.map mm) k ok H = some v) : detOp P H o ρ = some v := by
  obtain ⟨dst, op, ty, pos, after, guard⟩ := o
  simp only at hop
  subst hop
  simp only [detOp, tPure, hx, hy, hf, cond_true, h]

def upM (P : Program) (m : Nat) (t : TypeId) (H : AH) (mm : Option Nat) (k v : Value) : Option AH :=
  match aUpdate P m t (.map mm) k v H with
  | some (.tuple cs, H') => if cs.size = 0 then some H' else none
  | _ => none

theorem run_upM {t : TypeId} {x y z : Operand} {mm : Option Nat} {k v : Value} (hop : o.op = .mapUpdate t x y z) (hx : ρ x = .map mm) (hy : ρ y = k) (hz : ρ z = v) (hf : flat depth k = true) (h : upM P m t H mm k v = some H') : runOp P ne ih m o ρ H = some (undef, H') := by
  obtain ⟨dst, op, ty, pos, after, guard⟩ := o
  simp only at hop
  subst hop
  unfold upM at h
  split at h
  · rename_i cs H1 hu
    split at h
    · rename_i hs
      simp only [Option.some.injEq] at h
      subst h
      have e : cs = #[] := Array.eq_empty_of_size_eq_zero hs
      subst e
      simp only [runOp, aOp, hx, hy, hz, hf, cond_true, hu]
      rfl
    · cases h
  · cases h

def deM : Value → Option (Option Nat)
  | .map r => some r
  | _ => none
theorem deM_inv {x : Option Nat} : ∀ u, deM u = some x → u = .map x := by
  intro u h
  cases u <;> simp only [deM] at h <;> cases h
  rfl

theorem rdc_cons {a : Addr} {i k : Nat} {v : Value} {l : List Value} (h1 : H.cell (a.add i) = some v) (h2 : rdCells H a (i + 1) k = some l) : rdCells H a i (k + 1) = some (v :: l) := by
  simp only [rdCells, h1, h2]

section
variable {E : Ent} {n : Nat} {kn : KN} {ls : Lcs} {ops : Array Oper} {k : Nat} {Q : Exit → Act → World → Prop}

/-- A call of a function of Go's own without a body. -/
theorem RS.ext {v : Value} (f : Nat) (args : Array Value) (ho : ops[k]? = some (opAt ops k)) (hB : opV P n ops kn (opAt ops k) = true) (hc : callV kn (opAt ops k) = some (f, args)) (ha : args.all (flat depth) = true) (hp : peval P (callFunc f args) = some (.value v)) (hv : flat depth v = true)
    (h : RS P ne m E n ops (k + 1) (putV kn (opAt ops k).dst (.val v)) ls H Q) : RS P ne m E n ops k kn ls H Q := by
  intro a w hs
  obtain ⟨φ, cs, hs⟩ := hs
  unfold opV at hB
  simp only [Bool.and_eq_true] at hB
  obtain ⟨⟨⟨hg, hx⟩, hkn⟩, hd⟩ := hB
  rw [Array.all_eq_true_iff_forall_mem] at hkn hx
  have hw : wantV ops kn (opAt ops k) = some true := by
    split at hg
    · assumption
    · cases hg
  rw [range_step ho, wpOps_cons]
  unfold wpOp
  rw [ho]
  simp only [wantV_ok hs hw, if_true]
  left
  have hev : ∀ x ∈ (opAt ops k).op.operands, VR φ (evV kn x) (a.eval x) := fun x hxm => hs.eval (hkn x hxm) (hx x hxm)
  have hn := h (a.put (opAt ops k).dst v) w ⟨φ, cs, hs.put hd (kv := .val v) (flat_refl depth hv)⟩
  revert hn hc hev
  generalize opAt ops k = o
  intro hc hev hn
  obtain ⟨dst, op, ty, pos, after, guard⟩ := o
  unfold callV at hc
  simp only at hc hev hn
  split at hc
  · rename_i g args0 ts
    have hgv := hev g (by simp [Op.operands, Call.operands])
    have hargs : AR φ (args0.map (evV kn)) (args0.map a.eval) := ar_map args0 fun x hx => hev x (by simp [Op.operands, Call.operands, hx])
    split at hc
    · rename_i f0 first cap hge
      simp only [Option.some.injEq, Prod.mk.injEq] at hc
      obtain ⟨rfl, rfl⟩ := hc
      rw [hge] at hgv
      generalize hq : a.eval g = q at hgv
      cases hgv with
      | func fn' f1 g1 f1' g1' hf1 hg1 i1 i2 =>
        have hall : AR φ (first ++ args0.map (evV kn) ++ cap) (f1' ++ args0.map a.eval ++ g1') := ((AR.append ⟨hf1, i1⟩ hargs).append ⟨hg1, i2⟩)
        have e := flat_all ha hall
        show Oper.upon P _ a _ Q _
        have hex : execOp a.eval { dst := dst, op := .call { callee := .value g, args := args0, argTypes := ts }, type := ty, pos := pos, after := after, guard := guard } = callFunc f0 (f1' ++ args0.map a.eval ++ g1') := by
          simp only [execOp, resolve, hq]; rfl
        rw [hex, ← e, peval_run P _ _ hp w]
        exact hn
    · cases hc
  · cases hc

end

end Go.Abs


namespace Go.Abs

variable {P : Program} {ne : NE} {m n : Nat}
variable {E : Ent} {kn knA : KN} {ls ls1 : Lcs} {H H1 H' : AH} {ops : Array Oper} {k : Nat} {Q : Exit → Act → World → Prop} {bs A : List Nat} {f : Nat} {la : Array Bool} {ag : Bool}

theorem SubV.cons {t : Nat} {v : KV} {l kn : KN} (h : lkV kn t = some v) (h2 : SubV l kn) : SubV ((t, v) :: l) kn := ⟨h, h2⟩
theorem SubV.nil {kn : KN} : SubV [] kn := trivial

/-- A new block. -/
def newB (e : TypeId) (cells : List Value) (H : AH) : Option (Addr × AH) := some (⟨H.next, 0, none⟩, H.push (pubB e cells))

theorem run_newB {ih : Ex} {ρ : Operand → Value} {o : Oper} {e : TypeId} {cells : List Value} {p : Addr} (hr : runOp P ne ih m o ρ H = some (.pointer (some ⟨H.next, 0, none⟩), H.push (pubB e cells))) (hx : newB e cells H = some (p, H')) : runOp P ne ih m o ρ H = some (.pointer (some p), H') := by
  cases hx
  exact hr

/-- A new map. -/
def newM (H : AH) : Option (Nat × AH) := some (H.next, H.push mapB)

theorem run_newM {ih : Ex} {ρ : Operand → Value} {o : Oper} {p : Nat} (hr : runOp P ne ih m o ρ H = some (.map (some H.next), H.push mapB)) (hx : newM H = some (p, H')) : runOp P ne ih m o ρ H = some (.map (some p), H') := by
  cases hx
  exact hr

theorem RS.atD (d : Option Nat) (v : Value) (ho : ops[k]? = some (opAt ops k)) (hd : (opAt ops k).dst = d) (hB : (opV P n ops kn (opAt ops k) && noCall (opAt ops k)) = true) (hr : runOp P (NE.plain 0) ih0 m (opAt ops k) (evV kn) H = some (v, H'))
    (h : RS P ne m E n ops (k + 1) (putV kn d (.val v)) ls H' Q) : RS P ne m E n ops k kn ls H Q := by
  subst hd
  exact RS.at v ho hB hr h

theorem RS.callD (d : Option Nat) {v : Value} (f : Nat) (args : Array Value) (ho : ops[k]? = some (opAt ops k)) (hd : (opAt ops k).dst = d) (hB : opV P n ops kn (opAt ops k) = true) (hc : callV kn (opAt ops k) = some (f, args)) (hr : CallS P ne m f args H v H')
    (h : RS P ne m E n ops (k + 1) (putV kn d (.val v)) ls H' Q) : RS P ne m E n ops k kn ls H Q := by
  subst hd
  exact RS.call f args ho hB hc hr h

theorem RS.extD (d : Option Nat) {v : Value} (f : Nat) (args : Array Value) (ho : ops[k]? = some (opAt ops k)) (hd : (opAt ops k).dst = d) (hB : opV P n ops kn (opAt ops k) = true) (hc : callV kn (opAt ops k) = some (f, args)) (ha : args.all (flat depth) = true) (hp : peval P (callFunc f args) = some (.value v)) (hv : flat depth v = true)
    (h : RS P ne m E n ops (k + 1) (putV kn d (.val v)) ls H Q) : RS P ne m E n ops k kn ls H Q := by
  subst hd
  exact RS.ext f args ho hB hc ha hp hv h

theorem WS.drawnX {c : Code} (ops : Array Oper) (A : List Nat) (bs : List Nat) (sz : Nat) (hc : regOf c = some (ops, true)) (hb : befores ops.toList = bs) (hs : ops.size = sz) (hB : closedOk ops.toList bs = true) (h : DA P ne m E n ops bs A H ls sz (Array.replicate sz false) true kn kn ls H Q) : WS P ne m E n c kn ls H Q := by
  subst hb hs
  exact WS.drawn ops A hc hB h

theorem DA.takeD (k : Nat) (d : Option Nat) (v : Value) (ho : ops[k]? = some (opAt ops k)) (hd : (opAt ops k).dst = d) (hB : takeB P n ops A la k (opAt ops k) = true) (hc : closedOk ops.toList bs = true) (hQ : ∀ c a w, ¬ Q (.panic c) a w)
    (hw : (wantV ops kn (opAt ops k), (opAt ops k).op.operands.all (okx P), (opAt ops k).op.operands.all (knownV knA)) = (some true, true, true)) (hv : detOp P H1 (opAt ops k) (evV knA) = some v)
    (h : DA P ne m E n ops bs A H1 ls1 f (la.setIfInBounds k true) true (putV knA d (.val v)) (putV kn d (.val v)) ls H Q) : DA P ne m E n ops bs A H1 ls1 (f + 1) la true knA kn ls H Q := by
  subst hd
  exact DA.take ho hB hc hQ hw hv h

theorem DA.takeLD (k : Nat) (d : Option Nat) (kv : KV) (ho : ops[k]? = some (opAt ops k)) (hd : (opAt ops k).dst = d) (hB : takeB P n ops A la k (opAt ops k) = true) (hc : closedOk ops.toList bs = true) (hQ : ∀ c a w, ¬ Q (.panic c) a w) (hw : wantV ops kn (opAt ops k) = some true) (hv : locDet P knA ls1 (opAt ops k) = some kv)
    (h : DA P ne m E n ops bs A H1 ls1 f (la.setIfInBounds k true) true (putV knA d kv) (putV kn d kv) ls H Q) : DA P ne m E n ops bs A H1 ls1 (f + 1) la true knA kn ls H Q := by
  subst hd
  exact DA.takeL ho hB hc hQ hw hv h

theorem DA.actHD (k : Nat) (d : Option Nat) (m2 : Nat) (ag' : Bool) (v : Value) (ho : ops[k]? = some (opAt ops k)) (hdd : (opAt ops k).dst = d) (hr : (Region.ready .any ops la).contains k = true) (hc : closedOk ops.toList bs = true) (hB : (opV P n ops kn (opAt ops k) && noCall (opAt ops k)) = true) (hv : runOp P (NE.plain 0) ih0 m2 (opAt ops k) (evV kn) H = some (v, H'))
    (hm : m ≤ m2) (hm2 : (demO ops A bs k || ag') = true → H.next ≤ m2) (ha : ((!demO ops A bs k || ag) && (!ag' || ag)) = true)
    (h : DA P ne m E n ops bs A H1 ls1 f (la.setIfInBounds k true) ag' (dropV d knA) (putV kn d (.val v)) ls H' Q) : DAk P ne m E n ops bs A H1 ls1 k f la ag knA kn ls H Q := by
  subst hdd
  rw [Bool.and_eq_true] at hB
  exact DA.actH m2 ag' ho hr hc hB.1 hv hB.2 hm hm2 ha h

theorem DA.actCD (k : Nat) (d : Option Nat) (m2 : Nat) (ag' : Bool) {v : Value} (g : Nat) (args : Array Value) (ho : ops[k]? = some (opAt ops k)) (hdd : (opAt ops k).dst = d) (hr : (Region.ready .any ops la).contains k = true) (hc : closedOk ops.toList bs = true) (hB : opV P n ops kn (opAt ops k) = true) (hcl : callV kn (opAt ops k) = some (g, args)) (hcs : CallS P ne m2 g args H v H')
    (hm : m ≤ m2) (hm2 : (demO ops A bs k || ag') = true → H.next ≤ m2) (ha : ((!demO ops A bs k || ag) && (!ag' || ag)) = true)
    (h : DA P ne m E n ops bs A H1 ls1 f (la.setIfInBounds k true) ag' (dropV d knA) (putV kn d (.val v)) ls H' Q) : DAk P ne m E n ops bs A H1 ls1 k f la ag knA kn ls H Q := by
  subst hdd
  exact DA.actC m2 ag' g args ho hr hc hB hcl hcs hm hm2 ha h

theorem rdc_nil {a : Addr} {i : Nat} : rdCells H a i 0 = some [] := rfl

def ixByte (s : ByteArray) (b : Int) : Option Int :=
  match (List.range s.size).find? fun i => s[i]! == b.toNat.toUInt8 with
  | some i => some (i : Int)
  | none => some (-1)

theorem ixByte_run {s : ByteArray} {b x : Int} (h : ixByte s b = some x) : peval P (do let v ← Extern.BytealgIndexByte.indexByte #[.string s, .int .u8 b]; pure (Next.value v)) = some (.value (.int .i64 x)) := by
  have e : (do let v ← Extern.BytealgIndexByte.indexByte #[.string s, .int .u8 b]; pure (Next.value v) : Sem Next) = (match (List.range s.size).find? fun i => s[i]! == b.toNat.toUInt8 with | some i => pure (goInt i) | none => pure (goInt (-1)) : Sem Value) >>= fun v => pure (Next.value v) := rfl
  rw [e]
  unfold ixByte at h
  generalize (List.range s.size).find? (fun i => s[i]! == b.toNat.toUInt8) = q at h
  cases q with
  | some i => cases h; rfl
  | none => cases h; rfl

end Go.Abs


namespace Go.Abs

variable {P : Program} {ne : NE} {m n : Nat}

section
variable {E : Ent} {kn : KN} {ls : Lcs} {H : AH} {a : Act} {w : World} {φ : Inj} {cs : List Nat} {Q : Exit → Act → World → Prop}

def ldO (p : Nat) (t : TypeId) : Oper := { dst := none, op := .load t (.tmp p), type := 0, pos := default, after := #[], guard := none }

/-- What a named result that lies in memory holds. -/
def cellV (P : Program) (kn : KN) (ls : Lcs) (H : AH) (p : Nat) (t : TypeId) : Option Value :=
  match lkV kn p with
  | some (.loc _ _) => match locDet P kn ls (ldO p t) with
    | some (.val v) => some v
    | _ => none
  | some (.val (.pointer (some q))) => aLoad P t q H
  | _ => none

def resL (P : Program) (kn : KN) (ls : Lcs) (H : AH) : List ResultVar → Option (List Value)
  | [] => some []
  | .tmp t :: l => match lkV kn t, resL P kn ls H l with
    | some (.val u), some us => some (u :: us)
    | _, _ => none
  | .cell p t :: l => match cellV P kn ls H p t, resL P kn ls H l with
    | some u, some us => some (u :: us)
    | _, _ => none

def resF (P : Program) (fn : Func) (kn : KN) (ls : Lcs) (H : AH) : Option Value :=
  match resL P kn ls H fn.results.toList with
  | some [v] => some v
  | some l => some (.tuple l.toArray)
  | none => none

/-- It has gone back with this value. -/
def RT (P : Program) (ne : NE) (m : Nat) (E : Ent) (fn : Func) (v : Value) (H : AH) (a : Act) (w : World) : Prop :=
  ∃ n kn ls, SS P ne m E n kn ls H a w ∧ resF P fn kn ls H = some v

def retS (P : Program) (ne : NE) (m : Nat) (E : Ent) (fn : Func) (v : Value) (H : AH) : Exit → Act → World → Prop
  | .normal, a, w | .ret, a, w => RT P ne m E fn v H a w
  | _, _, _ => False

def argV : Nat → List Value → KN
  | _, [] => []
  | i, v :: l => (i, .val v) :: argV (i + 1) l

theorem lk_argV : ∀ (l : List Value) (i t : Nat) (kv : KV), lkV (argV i l) t = some kv → ∃ v, kv = .val v ∧ i ≤ t ∧ l[t - i]? = some v := by
  intro l
  induction l with
  | nil => intro i t kv h; cases h
  | cons v l ih =>
    intro i t kv h
    simp only [argV, lkV] at h
    cases hb : Nat.beq i t with
    | true =>
      rw [hb] at h
      have := Nat.eq_of_beq_eq_true hb
      subst this
      cases h
      exact ⟨v, rfl, Nat.le_refl _, by simp⟩
    | false =>
      rw [hb] at h
      have hne := Nat.ne_of_beq_eq_false hb
      obtain ⟨u, h1, h2, h3⟩ := ih _ _ _ h
      refine ⟨u, h1, by omega, ?_⟩
      rw [show t - i = (t - (i + 1)) + 1 by omega]
      simpa using h3

theorem cellV_run (hs : SSφ P ne m E n kn ls H a w φ cs) {p : Nat} {t : TypeId} {v : Value} (h : cellV P kn ls H p t = some v) : ∃ v', (resV a.tmps (.cell p t)).run P w = .ok v' w ∧ VR φ v v' := by
  unfold cellV at h
  split at h
  · rename_i i off hk
    split at h
    · rename_i u hu
      simp only [Option.some.injEq] at h
      subst h
      obtain ⟨v', h1, h2⟩ := locDet_ok hu (DC.mk hs.glob hs.inv fun i c x h1 h2 => (hs.loc i c x h1 h2).2) (fun t kv hl => hs.slot t kv hl : KA φ cs kn a)
      refine ⟨v', ?_, h1⟩
      have h3 := h2 w (agree.refl w)
      obtain ⟨c, _, hp⟩ := loc_inv hs hk
      have he : a.eval (.tmp p) = .pointer (some ⟨c, off, none⟩) := hp
      simp only [ldO, execOp, he, Instr.loadAt, Instr.sureAddr, Sem.run_bind, Sem.run_pure, Result.andThen_ok] at h3
      simp only [resV, hp, asAddr, Sem.run_bind, Sem.run_pure, Result.andThen_ok]
      generalize (loadVar t ⟨c, off, none⟩).run P w = q at h3 ⊢
      cases q <;> simp [Result.andThen, Sem.run_pure] at h3
      obtain ⟨rfl, rfl⟩ := h3
      rfl
    · cases h
  · rename_i q hk
    have hp := hs.slot p _ hk
    obtain ⟨q', hq2, hqa⟩ := VR.ptr_inv hp
    obtain ⟨v', h3, h4⟩ := aLoad_run hs.inv h hqa
    refine ⟨v', ?_, h4⟩
    simp only [resV, Sem.run_bind, hq2]
    exact h3
  · cases h

theorem mapM_res (hs : SSφ P ne m E n kn ls H a w φ cs) : ∀ {l : List ResultVar} {vs : List Value}, resL P kn ls H l = some vs → ∃ vs', (l.mapM (resV a.tmps)).run P w = .ok vs' w ∧ LR φ vs vs' := by
  intro l
  induction l with
  | nil => intro vs h; simp only [resL, Option.some.injEq] at h; subst h; exact ⟨[], rfl, .nil⟩
  | cons r l ih =>
    intro vs h
    cases r with
    | tmp t =>
      simp only [resL] at h
      split at h
      · rename_i u us h1 h2
        simp only [Option.some.injEq] at h
        subst h
        obtain ⟨vs', h3, h4⟩ := ih h2
        refine ⟨a.tmps.getD t undef :: vs', ?_, .cons (hs.slot t _ h1) h4⟩
        rw [List.mapM_cons]
        have hA : (resV a.tmps (.tmp t)).run P w = .ok (a.tmps.getD t undef) w := rfl
        simp only [Sem.run_bind, hA, Sem.run_pure, Result.andThen_ok, h3]
      · cases h
    | cell p t =>
      simp only [resL] at h
      split at h
      · rename_i u us h1 h2
        simp only [Option.some.injEq] at h
        subst h
        obtain ⟨vs', h3, h4⟩ := ih h2
        obtain ⟨v', h5, h6⟩ := cellV_run hs h1
        refine ⟨v' :: vs', ?_, .cons h6 h4⟩
        rw [List.mapM_cons]
        simp only [Sem.run_bind, h5, Sem.run_pure, Result.andThen_ok, h3]
      · cases h

theorem CallS.mk {f : Nat} {fn : Func} {B : Code} {args : List Value} {H H' : AH} {v : Value} (hf : P.funcs[f]? = some fn) (hb : fn.body = some B) (h : ∀ E : Ent, E.H = H → WS P ne m E fn.ntmps B (argV 0 args) [] H (retS P ne m E fn v H')) : CallS P ne m f args.toArray H v H' := by
  intro hS
  refine ⟨⟨fn, B, hf, hb⟩, fun φ w args' hg ha hi => ?_⟩
  have hent : SS P ne m ⟨φ, H, w⟩ fn.ntmps (argV 0 args) [] H { tmps := args' ++ Array.replicate (fn.ntmps - args'.size) undef, defers := [] } w := by
    refine ⟨φ, [], hg, hi, Step.refl _ _ _ _, rfl, fun i c x hc => (by cases hc), fun i j c hc => (by cases hc), fun i c hc => (by cases hc), fun t kv hl => ?_, by simp; omega, rfl, hS, hi⟩
    obtain ⟨v, rfl, _, h2⟩ := lk_argV _ _ _ _ hl
    rw [Nat.sub_zero] at h2
    have : args.toArray[t]? = some v := by simpa using h2
    obtain ⟨y, hy, hv⟩ := ha.get this
    have hlt : t < args'.size := by rw [Array.getElem?_eq_some_iff] at hy; exact hy.1
    show VR φ v _
    rw [Array.getD_eq_getD_getElem?, Array.getElem?_append, if_pos hlt, hy]
    exact hv
  have hw := h ⟨φ, H, w⟩ rfl _ _ hent
  refine calls_of_wp hf hb (wp_mono hw fun e a w' hpost => ?_)
  have fin : RT P ne m ⟨φ, H, w⟩ fn v H' a w' → a.defers = [] ∧ ∃ v', (results fn a.tmps).run P w' = .ok v' w' ∧ (∃ φ' v'', Ending.returned v' = .returned v'' ∧ VR φ' v v'' ∧ Inv φ' H' w' ∧ Step m φ H w φ' H' w') := by
    rintro ⟨n, kn, ls, ⟨φ', cs, hs⟩, hr⟩
    refine ⟨hs.defers, ?_⟩
    have main : ∃ (vs vs' : List Value), (fn.results.toList.mapM (resV a.tmps)).run P w' = .ok vs' w' ∧ LR φ' vs vs' ∧ v = (if h : vs.length = 1 then vs[0]'(by omega) else .tuple vs.toArray) := by
      unfold resF at hr
      cases hl : resL P kn ls H' fn.results.toList with
      | none => rw [hl] at hr; cases hr
      | some vs =>
        rw [hl] at hr
        obtain ⟨vs', h1, h2⟩ := mapM_res hs hl
        refine ⟨vs, vs', h1, h2, ?_⟩
        split at hr
        · rename_i u he
          cases he
          cases hr
          rfl
        · rename_i l hne he
          cases he
          cases hr
          rw [dif_neg ?_]
          intro h1
          match vs, h1 with
          | [u], _ => exact hne u rfl
        · cases hr
    obtain ⟨vs, vs', h1, h2, h3⟩ := main
    have hm : (fn.results.mapM (resV a.tmps)).run P w' = .ok vs'.toArray w' := by
      rw [Array.mapM_eq_mapM_toList]
      show Sem.run P (List.toArray <$> _) w' = _
      rw [Sem.run_map, h1]; rfl
    have hlen := LR.length h2
    have hres : (results fn a.tmps).run P w' = .ok (if h : vs'.toArray.size = 1 then vs'.toArray[0] else .tuple vs'.toArray) w' := by
      rw [results_eq, Sem.run_bind, hm, Result.andThen_ok]; rfl
    refine ⟨_, hres, φ', _, rfl, ?_, hs.inv, hs.step⟩
    rw [h3]
    by_cases h1' : vs.length = 1
    · rw [dif_pos h1', dif_pos (by simpa [← hlen] using h1')]
      cases h2 with
      | nil => cases h1'
      | cons hv ht => exact hv
    · rw [dif_neg h1', dif_neg (by simpa [← hlen] using h1')]
      have := AR_iff.2 (show LR φ' vs.toArray.toList vs'.toArray.toList by simpa using h2)
      exact .tuple _ _ this.1 this.2
  cases e with
  | normal => exact fin hpost
  | ret => exact fin hpost
  | _ => exact hpost.elim

theorem rtR {fn : Func} {v : Value} (h : RT P ne m E fn v H a w) : retS P ne m E fn v H .ret a w := h
theorem rtN {fn : Func} {v : Value} (h : RT P ne m E fn v H a w) : retS P ne m E fn v H .normal a w := h
theorem rtS {fn : Func} {v : Value} (hs : SS P ne m E n kn ls H a w) (h : resF P fn kn ls H = some v) : RT P ne m E fn v H a w := ⟨n, kn, ls, hs, h⟩

end
end Go.Abs


namespace Go.Abs

variable {P : Program} {ne : NE} {m n : Nat}

def pureOp (P : Program) (o : Oper) (ρ : Operand → Value) : Option Value :=
  match o.op with
  | .load .. => none
  | .lookup .. => none
  | _ => detOp P ⟨0, .nil⟩ o ρ

theorem pureOp_ok {φ : Inj} {o : Oper} {ρ ρ' : Operand → Value} {v : Value} (hρ : ∀ x ∈ o.op.operands, VR φ (ρ x) (ρ' x)) (h : pureOp P o ρ = some v) :
    ∃ v', VR φ v v' ∧ ∀ w, (execOp ρ' o).run P w = .ok (.value v') w := by
  have hnl : (∀ t x, o.op ≠ .load t x) ∧ (∀ t x k ok, o.op ≠ .lookup t x k ok) ∧ detOp P ⟨0, .nil⟩ o ρ = some v := by
    unfold pureOp at h
    split at h
    · cases h
    · cases h
    · rename_i q1 q2; exact ⟨fun t x e => q1 t x e, fun t x k ok e => q2 t x k ok e, h⟩
  clear h
  obtain ⟨n1, n2, h⟩ := hnl
  unfold detOp at h
  cases ht : tPure P o ρ with
  | some u =>
    rw [ht] at h
    simp only [Option.some.injEq] at h
    subst h
    obtain ⟨v', h1, h2⟩ := tPure_run hρ ht
    exact ⟨v', h1, h2⟩
  | none =>
    rw [ht] at h
    simp only at h
    have fl : (match flatRun P o ρ ⟨0, .nil⟩ with | some (v, _) => some v | none => none) = some v → (∀ w, ∀ nx, (execOp ρ' o).run P w = .ok nx w → nx ≠ .skip) → ∃ v', VR φ v v' ∧ ∀ w, (execOp ρ' o).run P w = .ok (.value v') w := by
      intro h hns
      cases hf : flatRun P o ρ ⟨0, .nil⟩ with
      | none => rw [hf] at h; cases h
      | some p =>
        obtain ⟨u, H'⟩ := p
        rw [hf] at h
        simp only [Option.some.injEq] at h
        subst h
        obtain ⟨v', h1, h2⟩ := flat_det hρ hf hns
        exact ⟨v', h1, h2⟩
    obtain ⟨dst, op, ty, pos, after, guard⟩ := o
    simp only at h hρ n1 n2
    split at h
    · exact (n1 _ _ rfl).elim
    · exact (n2 _ _ _ _ rfl).elim
    · rename_i x i
      have hx := hρ x (by simp [Op.operands])
      split at h
      · rename_i cs hc
        rw [hc] at hx
        generalize hq : ρ' x = q at hx
        cases hx with
        | tuple f f' hf h1 =>
          have hlt : i < f'.size := by
            rw [Array.getElem?_eq_some_iff] at h
            obtain ⟨h, _⟩ := h
            omega
          refine ⟨f'[i], h1 i _ _ h (by simp [hlt]), fun w => ?_⟩
          have hrun : (Instr.extract (.tuple f') i).run P w = .ok f'[i] w := by
            simp only [Instr.extract]
            simp [hlt]
          simp only [execOp, hq, Sem.run_bind, hrun, Result.andThen_ok]
          rfl
      · cases h
    · rename_i args ts
      split at h
      · rename_i e b k c hu hl
        simp only [Option.some.injEq] at h
        subst h
        have hargs : AR φ (args.map ρ) (args.map ρ') := ar_map args fun x hx => hρ x (by simp [Op.operands, Call.operands, hx])
        obtain ⟨_, x', hx', hv⟩ := ar_one hargs hl
        obtain ⟨b', c', rfl⟩ := slice_inv hv
        refine ⟨goInt k, .int _ _, fun w => ?_⟩
        cases hts : ts[0]? with
        | none => rw [hts] at hu; cases hu
        | some t =>
          rw [hts] at hu
          have hu : P.underlying t = some (.slice e) := hu
          have hrun : (Builtin.len_ ts ty (args.map ρ')).run P w = .ok (goInt k) w := by
            rw [hx']
            simp [Builtin.len_, hts, run_und hu]
          show (do pure (Next.value (← Builtin.len_ ts ty (args.map ρ'))) : Sem Next).run P w = _
          rw [Sem.run_bind, hrun]; rfl
      · exact fl h fun w nx hr => v_noskip (s := Builtin.len_ ts ty (args.map ρ')) hr
    · rename_i bo t x y u
      exact fl h fun w nx hr => v_noskip (s := (do eqGuard bo t x y (ρ' x) (ρ' y); binOp bo t (ρ' x) (ρ' y))) hr
    · rename_i uo t x
      exact fl h fun w nx hr => v_noskip (s := Op.unary uo (ρ' x)) hr
    · rename_i t ps
      exact fl h fun w nx hr => v_noskip (s := Instr.build t (ps.map fun (i, x) => (i, ρ' x))) hr
    · rename_i c x y
      exact fl h fun w nx hr => by
        simp only [execOp, Sem.run_bind] at hr
        cases hb : (asBool (ρ' c)).run P w with
        | ok b w' =>
          rw [hb] at hr
          have : Result.ok (Next.value (if b then ρ' x else ρ' y)) w' = Result.ok nx w := hr
          simp only [Result.ok.injEq] at this
          rw [← this.1]; intro e; cases e
        | halt z w' => rw [hb] at hr; cases hr
    · rename_i t x f
      exact fl h fun w nx hr => v_noskip (s := Instr.field t (ρ' x) f) hr
    · rename_i t x y
      exact fl h fun w nx hr => v_noskip (s := Instr.index t (ρ' x) (ρ' y)) hr
    · rename_i s d x
      split at h
      · exact fl h fun w nx hr => v_noskip (s := convert s d (ρ' x)) hr
      · exact fl h fun w nx hr => v_noskip (s := convert s d (ρ' x)) hr
      · cases h
    · cases h


variable {ops : Array Oper} {Q : Exit → Act → World → Prop} {bs A : List Nat} {w1 : World}

theorem wpAnyD_firstP {i : Nat} {oi : Oper} {v : Value} (hi : ops[i]? = some oi) (hc : closedOk ops.toList bs = true) (hsel : ∀ (j : Nat) (o : Oper) cs b, ops[j]? = some o → o.op ≠ .select cs b)
    (hQ : ∀ c a w, ¬ Q (.panic c) a w) :
    ∀ (fuel : Nat) (la : Array Bool) (a : Act) (w : World), JC ops bs la →
      (∀ j oj, ops[j]? = some oj → j ≠ i → la.getD j true = false → (∀ e ∈ oj.after, Region.binds .any e = true → e.on ≠ i) → oi.apart ops oj = true) →
      i ∈ Region.ready .any ops la → YieldsIf P ops (fun _ => True) oi v a → demO ops A bs i = false →
      wpAnyD P ops Q bs A w1 fuel (la.setIfInBounds i true) (a.put oi.dst v) w → wpAnyD P ops Q bs A w1 (fuel + 1) la a w := by
  intro fuel
  induction fuel with
  | zero =>
    intro la a w hJ _ hr hy hS H
    refine ⟨fun h => (by rw [h] at hr; cases hr), fun j hj => ?_⟩
    by_cases hji : j = i
    · subst hji; exact hy.wpOp hi trivial ⟨fun hh => (by rw [hS] at hh; cases hh), H⟩
    · have := ready_mono hj hji
      rw [H.1] at this
      cases this
  | succ fuel ih =>
    intro la a w hJ hfree hr hy hS H
    refine ⟨fun h => (by rw [h] at hr; cases hr), fun j hj => ?_⟩
    by_cases hji : j = i
    · subst hji; exact hy.wpOp hi trivial ⟨fun hh => (by rw [hS] at hh; cases hh), H⟩
    · have h1 := H.2 j (ready_mono hj hji)
      have r := rdy_of hc hJ hj
      have ri := rdy_of hc hJ hr
      obtain ⟨hjun, oj, hoj, hall⟩ := mem_ready.1 hj
      have hnot : ∀ e ∈ oj.after, Region.binds .any e = true → e.on ≠ i := fun e he hb heq => by
        have h1 := hall e he hb
        have h0 := (mem_ready.1 hr).1
        rw [heq] at h1
        rcases Nat.lt_or_ge i la.size with h' | h'
        · simp [h'] at h0 h1; rw [h0] at h1; cases h1
        · simp [Array.getElem?_eq_none h'] at h1
      have h2 := wpOp_putIf hoj (hfree j oj hoj hji hjun hnot) (fun cs b => hsel i oi cs b hi) (fun cs b => hsel j oj cs b hoj) (fun c a w h => absurd h (hQ c _ w)) hy h1
      have hfree' : ∀ k ok, ops[k]? = some ok → k ≠ i → (la.setIfInBounds j true).getD k true = false →
          (∀ e ∈ ok.after, Region.binds .any e = true → e.on ≠ i) → oi.apart ops ok = true := fun k ok hk hki hun hno => by
        refine hfree k ok hk hki ?_ hno
        by_cases hjk : j = k
        · subst hjk; exact hjun
        · rw [getD_set_ne true hjk] at hun; exact hun
      refine wpOp_mono (fun a' w' h3 => ⟨h3.2.1, ih (la.setIfInBounds j true) a' w' (hJ.next r) hfree' (ready_mono hr (Ne.symm hji)) h3.1 hS ?_⟩) h2
      rw [Array.setIfInBounds_comm _ _ hji]
      exact h3.2.2


section
variable {E : Ent} {knA kn : KN} {ls ls1 : Lcs} {H H1 : AH} {f k : Nat} {la : Array Bool} {ag : Bool}

def takeQ (P : Program) (n : Nat) (ops : Array Oper) (A bs : List Nat) (la : Array Bool) (k : Nat) (o : Oper) : Bool :=
  !(demO ops A bs k) && Region.noSelect ops && Region.free .any ops la k && (Region.ready .any ops la).contains k && dstV n o

/-- A value that touches no memory is taken first. -/
theorem DA.takeP (k : Nat) (d : Option Nat) (v : Value) (ho : ops[k]? = some (opAt ops k)) (hd : (opAt ops k).dst = d) (hB : takeQ P n ops A bs la k (opAt ops k) = true) (hc : closedOk ops.toList bs = true) (hQ : ∀ c a w, ¬ Q (.panic c) a w)
    (hw : (wantV ops kn (opAt ops k), (opAt ops k).op.operands.all (okx P), (opAt ops k).op.operands.all (knownV kn)) = (some true, true, true)) (hv : pureOp P (opAt ops k) (evV kn) = some v)
    (h : DA P ne m E n ops bs A H1 ls1 f (la.setIfInBounds k true) ag (dropV d knA) (putV kn d (.val v)) ls H Q) : DA P ne m E n ops bs A H1 ls1 (f + 1) la ag knA kn ls H Q := by
  subst hd
  intro w1 φ1 cs1 a w φ cs hd hle hs hka hpf hJ hag
  unfold takeQ at hB
  simp only [Bool.and_eq_true] at hB
  obtain ⟨⟨⟨⟨b1, b2⟩, b3⟩, b4⟩, b5⟩ := hB
  have hr : k ∈ Region.ready .any ops la := by simpa using b4
  simp only [Prod.mk.injEq] at hw
  obtain ⟨hw1, hw2, hw3⟩ := hw
  rw [Array.all_eq_true_iff_forall_mem] at hw2 hw3
  obtain ⟨v', h1, h2⟩ := pureOp_ok (ρ' := a.eval) (fun x hx => hs.eval (hw3 x hx) (hw2 x hx)) hv
  refine wpAnyD_firstP ho hc (Region.noSelect_spec b2) hQ f la a w hJ (Region.free_spec ho b3) hr (.inl ⟨wantV_ok hs hw1, fun w _ => h2 w⟩) (by simpa using b1) ?_
  exact h w1 φ1 cs1 _ w φ cs hd hle (hs.put b5 h1) (hka.drop _ _) hpf (hJ.next (rdy_of hc hJ hr)) hag

end

def notRead (o : Oper) : Bool := match o.op with
  | .load .. => false
  | .lookup .. => false
  | _ => true

theorem pureOp_of {o : Oper} {ρ : Operand → Value} {v : Value} (hn : notRead o = true) (h : detOp P ⟨0, .nil⟩ o ρ = some v) : pureOp P o ρ = some v := by
  unfold pureOp
  unfold notRead at hn
  split
  · rename_i e; rw [e] at hn; cases hn
  · rename_i e; rw [e] at hn; cases hn
  · exact h

theorem det_byt {o : Oper} {ρ : Operand → Value} {H : AH} {t : TypeId} {x y : Operand} {k : IntKind} {s : ByteArray} {i b : Int} (hop : o.op = .index t x y) (hu : P.underlying t = some .string) (hx : ρ x = .string s) (hy : ρ y = .int k i) (h : bytA s i = some b) : detOp P H o ρ = some (.int .u8 b) := by
  obtain ⟨dst, op, ty, pos, after, guard⟩ := o
  simp only at hop
  subst hop
  unfold bytA at h
  split at h
  · rename_i h0
    cases hb : s[i.toNat]? with
    | none => rw [hb] at h; cases h
    | some c =>
      rw [hb] at h
      simp only [Option.map_some, Option.some.injEq] at h
      subst h
      have hp' : peval P (execOp ρ { dst, op := .index t x y, type := ty, pos, after, guard }) = some (.value (.int .u8 c.toNat)) := by
        simp only [execOp, hx, hy]
        have hS : peval P (Instr.index t (.string s) (.int k i)) = some (.int .u8 c.toNat) := by
          unfold Instr.index
          simp only [asIntOf, Go.underlying, Go.program, bind, Pure.pure, Sem.bind, peval, hu, h0, if_true, hb]
        rw [peval_bind_some hS]
        rfl
      simp only [detOp, tPure, flatRun, Op.operands, hp']
      simp [hx, hy, flat, asVal]
  · cases h

end Go.Abs


namespace Go.Abs

variable {P : Program} {ne : NE} {m n : Nat}
variable {E : Ent} {kn knA : KN} {ls ls1 : Lcs} {H H1 H' : AH} {ops : Array Oper} {k : Nat} {Q : Exit → Act → World → Prop} {bs A : List Nat} {f : Nat} {la : Array Bool} {ag : Bool}

def isScope : Code → Bool | .scope _ => true | _ => false

theorem WS.scope {c : Code} (hc : isScope c = true) (h : WS P ne m E n (cfst c) kn ls H (Exit.noGoto Q)) : WS P ne m E n c kn ls H Q := by
  cases c with
  | scope b => exact fun a w hs => wp_scope_straight (h a w hs)
  | _ => cases hc

theorem sgR {a : Act} {w : World} (h : Q .ret a w) : Exit.noGoto Q .ret a w := h
section
variable {S R : Type} {knOf : S → KN} {lsOf : S → Lcs} {hOf : S → AH} {i : Nat} {QR : R → Exit → Act → World → Prop} {a : Act} {w : World}

def lpX (P : Program) (ne : NE) (m : Nat) (E : Ent) (n : Nat) (knOf : S → KN) (lsOf : S → Lcs) (hOf : S → AH) (i : Nat) (QR : R → Exit → Act → World → Prop) (o : Lp S R) : Exit → Act → World → Prop
  | .normal, a, w => ∃ s, o = .next s ∧ SS P ne m E n (knOf s) (lsOf s) (hOf s) a w
  | e, a, w => (∃ s, o = .brk s ∧ e = .exit i ∧ SS P ne m E n (knOf s) (lsOf s) (hOf s) a w) ∨ ∃ r, o = .ret r ∧ QR r e a w

theorem lxN {o : Lp S R} {s : S} (ho : o = .next s) (h : SS P ne m E n (knOf s) (lsOf s) (hOf s) a w) : lpX P ne m E n knOf lsOf hOf i QR o .normal a w := ⟨s, ho, h⟩
theorem lxB {o : Lp S R} {s : S} (ho : o = .brk s) (h : SS P ne m E n (knOf s) (lsOf s) (hOf s) a w) : lpX P ne m E n knOf lsOf hOf i QR o (.exit i) a w := .inl ⟨s, ho, rfl, h⟩
theorem lxR {o : Lp S R} {r : R} (ho : o = .ret r) (h : QR r .ret a w) : lpX P ne m E n knOf lsOf hOf i QR o .ret a w := .inr ⟨r, ho, h⟩
theorem lxE {o : Lp S R} {r : R} {j : Nat} (ho : o = .ret r) (h : QR r (.exit j) a w) : lpX P ne m E n knOf lsOf hOf i QR o (.exit j) a w := .inr ⟨r, ho, h⟩

theorem roundsX_of {c : Code} {body : S → Option (Lp S R)}
    (hbody : ∀ s o, body s = some o → WS P ne m E n c (knOf s) (lsOf s) (hOf s) (lpX P ne m E n knOf lsOf hOf i QR o)) :
    ∀ (k : Nat) (s : S) (o : S ⊕ R), iterO body k s = some o → ∀ {Q : Exit → Act → World → Prop}, (∀ s', o = .inl s' → ∀ a w, SS P ne m E n (knOf s') (lsOf s') (hOf s') a w → Q (.exit i) a w) → (∀ r, o = .inr r → ∀ e a w, QR r e a w → Q e a w) →
      ∀ a w, SS P ne m E n (knOf s) (lsOf s) (hOf s) a w → Code.rounds P c Q k a w := by
  intro k
  induction k with
  | zero => intro s o h; cases h
  | succ k ih =>
    intro s o h Q h1 h2 a w hs
    rw [rounds_succ]
    simp only [iterO] at h
    cases hb : body s with
    | none => rw [hb] at h; cases h
    | some l =>
      rw [hb] at h
      have other : ∀ e a' w', ((∃ s, l = .brk s ∧ e = .exit i ∧ SS P ne m E n (knOf s) (lsOf s) (hOf s) a' w') ∨ ∃ r, l = .ret r ∧ QR r e a' w') → Q e a' w' := by
        rintro e a' w' (⟨s', rfl, rfl, hs'⟩ | ⟨r, rfl, hr⟩)
        · simp only [Option.some.injEq] at h
          exact h1 s' h.symm a' w' hs'
        · simp only [Option.some.injEq] at h
          exact h2 r h.symm _ a' w' hr
      refine wp_mono (hbody s l hb a w hs) fun e a' w' hq => ?_
      cases e with
      | normal =>
        obtain ⟨s', rfl, hs'⟩ := hq
        exact ih s' o h h1 h2 a' w' hs'
      | _ => exact other _ a' w' hq

theorem WS.loopX_ {c : Code} (hc : isLoop c = true) (body : S → Option (Lp S R)) (knOf : S → KN) (lsOf : S → Lcs) (hOf : S → AH) (i : Nat) (QR : R → Exit → Act → World → Prop)
    (hbody : ∀ s o, body s = some o → WS P ne m E n (cfst c) (knOf s) (lsOf s) (hOf s) (lpX P ne m E n knOf lsOf hOf i QR o)) {s : S} {o : S ⊕ R} (hl : loopO body s = some o) (k : Nat) (hsub : SubV (knOf s) kn) (hls : ls.take k = lsOf s) (hbl : belowL k (knOf s) = true) (hH : H = hOf s)
    (h1 : ∀ s', o = .inl s' → ∀ a w, SS P ne m E n (knOf s') (lsOf s') (hOf s') a w → Q (.exit i) a w) (h2 : ∀ r, o = .inr r → ∀ e a w, QR r e a w → Q e a w) : WS P ne m E n c kn ls H Q := by
  cases c with
  | loop body' =>
    intro a w hs
    obtain ⟨k', hk⟩ := loopO_iff.1 hl
    subst hH
    exact wp_loop_rounds k' (roundsX_of hbody k' s o hk h1 h2 a w (hs.sub hsub k hls hbl))
  | _ => cases hc

theorem WS.loopXI {c : Code} (hc : isLoop c = true) (body : S → Option (Lp S R)) (knOf : S → KN) (lsOf : S → Lcs) (hOf : S → AH) (i : Nat) (QR : R → Exit → Act → World → Prop)
    (hbody : ∀ s o, body s = some o → WS P ne m E n (cfst c) (knOf s) (lsOf s) (hOf s) (lpX P ne m E n knOf lsOf hOf i QR o)) {s s' : S} (hl : loopO body s = some (.inl s')) (k : Nat) (hsub : SubV (knOf s) kn) (hls : ls.take k = lsOf s) (hbl : belowL k (knOf s) = true) (hH : H = hOf s)
    (h1 : ∀ a w, SS P ne m E n (knOf s') (lsOf s') (hOf s') a w → Q (.exit i) a w) : WS P ne m E n c kn ls H Q :=
  WS.loopX_ hc body knOf lsOf hOf i QR hbody hl k hsub hls hbl hH (fun s2 e => by cases e; exact h1) (fun r e => by cases e)

theorem WS.loopXR {c : Code} (hc : isLoop c = true) (body : S → Option (Lp S R)) (knOf : S → KN) (lsOf : S → Lcs) (hOf : S → AH) (i : Nat) (QR : R → Exit → Act → World → Prop)
    (hbody : ∀ s o, body s = some o → WS P ne m E n (cfst c) (knOf s) (lsOf s) (hOf s) (lpX P ne m E n knOf lsOf hOf i QR o)) {s : S} {r : R} (hl : loopO body s = some (.inr r)) (k : Nat) (hsub : SubV (knOf s) kn) (hls : ls.take k = lsOf s) (hbl : belowL k (knOf s) = true) (hH : H = hOf s)
    (h2 : ∀ e a w, QR r e a w → Q e a w) : WS P ne m E n c kn ls H Q :=
  WS.loopX_ hc body knOf lsOf hOf i QR hbody hl k hsub hls hbl hH (fun s2 e => by cases e) (fun r2 e => by cases e; exact h2)

end

end Go.Abs


namespace Go.Abs

variable {P : Program} {m : Nat}

/-- What a listed table's block holds. -/
theorem tab_met {laid : List (String × DataW Unit)} {W : World} {name : String} {k : IntKind} {zs : List Int} {g : Nat} {e t te : TypeId} {n : Nat} (hL : laidMet P laid W) (hf : laid.filter (fun x => x.1 == name) = [(name, Lib.tabData k zs)])
    (hg : P.globalNamed name = some g) (hty : (P.globals[g]?).map (·.type) = some t) (ht : P.underlying t = some (.array n te)) (he : P.underlying te = some (.int k)) (hce : P.cellsOf te = 1) (hct : P.cellsOf t = n) (hlt : g < P.globals.size)
    (hrow : (((begin P (fun _ _ => 0) default).world.heap[g]?).bind Obj.row?).map (·.2) = some e) (hsh : W.ShapedOpen P) : ∃ fr, W.heap[g]? = some (.cells (zs.map fun z => Value.int k z).toArray e fr) := by
  have h1 := laidMet.filter (fun x => x.1 == name) hL
  rw [hf] at h1
  exact ⟨(0, 0), tab_there hg hlt hrow hsh (Lib.tabIs_of_head hg hty ht he hce hct h1)⟩

def zsOf : DataW Unit → List Int
  | .agg l => l.map fun | .lit (.int _ z) => z | _ => 0
  | _ => []

end Go.Abs


namespace Go.Abs

variable {P : Program} {ne : NE} {m n : Nat}
variable {E : Ent} {kn knA : KN} {ls ls1 : Lcs} {H H1 H' : AH} {ops : Array Oper} {k : Nat} {Q : Exit → Act → World → Prop} {bs A : List Nat} {f : Nat} {la : Array Bool} {ag : Bool} {c : Code}

theorem WS.sq (h : WS P ne m E n (cfst c) kn ls H (Exit.then ((csnd c).wp P Q) Q)) (hc : isSeq c = true := by kernel_rfl) : WS P ne m E n c kn ls H Q := WS.seq hc h
theorem WS.sk (h : ∀ a w, SS P ne m E n kn ls H a w → Q .normal a w) (hc : isSkip c = true := by kernel_rfl) : WS P ne m E n c kn ls H Q := WS.skip hc h
theorem WS.rt (h : ∀ a w, SS P ne m E n kn ls H a w → Q .ret a w) (hc : isRet c = true := by kernel_rfl) : WS P ne m E n c kn ls H Q := WS.ret hc h
theorem WS.ex (i : Nat) (h : ∀ a w, SS P ne m E n kn ls H a w → Q (.exit i) a w) (hc : isExit i c = true := by kernel_rfl) : WS P ne m E n c kn ls H Q := WS.exit i hc h
theorem WS.bk (i : Nat) (h : WS P ne m E n (cfst c) kn ls H (blkS i Q)) (hc : isBlock i c = true := by kernel_rfl) : WS P ne m E n c kn ls H Q := WS.blk i hc h
theorem WS.cT (h : WS P ne m E n (cfst c) kn ls H Q) (hc : (condOf c).map (fun x => (knownV kn x, evV kn x)) = some (true, .bool true) := by kernel_rfl) : WS P ne m E n c kn ls H Q := WS.condT true rfl hc h
theorem WS.cF (h : WS P ne m E n (csnd c) kn ls H Q) (hc : (condOf c).map (fun x => (knownV kn x, evV kn x)) = some (true, .bool false) := by kernel_rfl) : WS P ne m E n c kn ls H Q := WS.condF false rfl hc h
theorem WS.fx (t : Nat) {b : Bool} (d : Bool) (hb : b = d) (h : WS P ne m E n c ((t, .val (.bool d)) :: kn) ls H Q) (hl : lkV kn t = some (.val (.bool b)) := by kernel_rfl) : WS P ne m E n c kn ls H Q := WS.fix t d hb hl h
theorem RS.fx (t : Nat) {b : Bool} (d : Bool) (hb : b = d) (h : RS P ne m E n ops k ((t, .val (.bool d)) :: kn) ls H Q) (hl : lkV kn t = some (.val (.bool b)) := by kernel_rfl) : RS P ne m E n ops k kn ls H Q := RS.fix t d hb hl h
theorem DA.fx (t : Nat) {b : Bool} (d : Bool) (hb : b = d) (h : DA P ne m E n ops bs A H1 ls1 f la ag ((t, .val (.bool d)) :: knA) ((t, .val (.bool d)) :: kn) ls H Q) (hl : lkV kn t = some (.val (.bool b)) := by kernel_rfl) : DA P ne m E n ops bs A H1 ls1 f la ag knA kn ls H Q := DA.fix t d hb hl h

theorem WS.rg (h : RS P ne m E n (opsOf c) 0 kn ls H Q) (hc : (regOf c).map (·.2) = some false := by kernel_rfl) : WS P ne m E n c kn ls H Q := by
  refine WS.region (opsOf c) ?_ h
  cases c with
  | region id ops d =>
    simp only [regOf, Option.map_some, Option.some.injEq] at hc
    subst hc; rfl
  | _ => cases hc

theorem RS.dn (h : ∀ a w, SS P ne m E n kn ls H a w → Q .normal a w) (hk : Nat.ble ops.size k = true := by kernel_rfl) : RS P ne m E n ops k kn ls H Q := RS.done hk h
theorem RS.mS (j : Nat) (new : KN) (h : RS P ne m E n ops (k + j) (new ++ kn) ls H Q) (hr : runLs P m n ops j k kn ls H = some (new ++ kn, ls, H) := by kernel_rfl) : RS P ne m E n ops k kn ls H Q := RS.many j new ls hr h
theorem RS.mL (j : Nat) (new : KN) (ls' : Lcs) (h : RS P ne m E n ops (k + j) (new ++ kn) ls' H Q) (hr : runLs P m n ops j k kn ls H = some (new ++ kn, ls', H) := by kernel_rfl) : RS P ne m E n ops k kn ls H Q := RS.many j new ls' hr h
theorem RS.o (d : Option Nat) (v : Value) (hr : runOp P (NE.plain 0) ih0 m (opAt ops k) (evV kn) H = some (v, H')) (h : RS P ne m E n ops (k + 1) (putV kn d (.val v)) ls H' Q)
    (ho : ops[k]? = some (opAt ops k) := by kernel_rfl) (hd : (opAt ops k).dst = d := by kernel_rfl) (hB : (opV P n ops kn (opAt ops k) && noCall (opAt ops k)) = true := by kernel_rfl) : RS P ne m E n ops k kn ls H Q := RS.atD d v ho hd hB hr h
theorem RS.cl (d : Option Nat) {v : Value} (g : Nat) (args : Array Value) (hr : CallS P ne m g args H v H') (h : RS P ne m E n ops (k + 1) (putV kn d (.val v)) ls H' Q)
    (ho : ops[k]? = some (opAt ops k) := by kernel_rfl) (hd : (opAt ops k).dst = d := by kernel_rfl) (hB : opV P n ops kn (opAt ops k) = true := by kernel_rfl) (hc : callV kn (opAt ops k) = some (g, args) := by kernel_rfl) : RS P ne m E n ops k kn ls H Q := RS.callD d g args ho hd hB hc hr h

theorem WS.dr (A : List Nat) (bs : List Nat) (sz : Nat) (h : closedOk (opsOf c).toList bs = true → DA P ne m E n (opsOf c) bs A H ls sz (Array.replicate sz false) true kn kn ls H Q) (hc : regOf c = some (opsOf c, true) := by kernel_rfl) (hb : befores (opsOf c).toList = bs := by kernel_rfl) (hs : (opsOf c).size = sz := by kernel_rfl) (hB : closedOk (opsOf c).toList bs = true := by kernel_rfl) : WS P ne m E n c kn ls H Q := WS.drawnX (opsOf c) A bs sz hc hb hs hB (h hB)
theorem DA.dn (h : ∀ a w, SS P ne m E n kn ls H a w → Q .normal a w) (hr : readyIs ops la [] = true := by kernel_rfl) : DA P ne m E n ops bs A H1 ls1 f la ag knA kn ls H Q := DA.done hr h
theorem DA.on (k : Nat) (h : DAk P ne m E n ops bs A H1 ls1 k f la ag knA kn ls H Q) (hr : readyIs ops la [k] = true := by kernel_rfl) : DA P ne m E n ops bs A H1 ls1 (f + 1) la ag knA kn ls H Q := DA.one k hr h

theorem DA.tD (k : Nat) (d : Option Nat) (v : Value) (hv : detOp P H1 (opAt ops k) (evV knA) = some v) (h : DA P ne m E n ops bs A H1 ls1 f (la.setIfInBounds k true) true (putV knA d (.val v)) (putV kn d (.val v)) ls H Q)
    (hc : closedOk ops.toList bs = true := by assumption) (ho : ops[k]? = some (opAt ops k) := by kernel_rfl) (hd : (opAt ops k).dst = d := by kernel_rfl) (hB : takeB P n ops A la k (opAt ops k) = true := by kernel_rfl) (hQ : ∀ c a w, ¬ Q (.panic c) a w := by exact fun _ _ _ h => h)
    (hw : (wantV ops kn (opAt ops k), (opAt ops k).op.operands.all (okx P), (opAt ops k).op.operands.all (knownV knA)) = (some true, true, true) := by kernel_rfl) : DA P ne m E n ops bs A H1 ls1 (f + 1) la true knA kn ls H Q := DA.takeD k d v ho hd hB hc hQ hw hv h
theorem DA.tK (k : Nat) (d : Option Nat) (v : Value) (h : DA P ne m E n ops bs A H1 ls1 f (la.setIfInBounds k true) true (putV knA d (.val v)) (putV kn d (.val v)) ls H Q)
    (hc : closedOk ops.toList bs = true := by assumption) (ho : ops[k]? = some (opAt ops k) := by kernel_rfl) (hd : (opAt ops k).dst = d := by kernel_rfl) (hB : takeB P n ops A la k (opAt ops k) = true := by kernel_rfl) (hQ : ∀ c a w, ¬ Q (.panic c) a w := by exact fun _ _ _ h => h)
    (hw : (wantV ops kn (opAt ops k), (opAt ops k).op.operands.all (okx P), (opAt ops k).op.operands.all (knownV knA)) = (some true, true, true) := by kernel_rfl) (hv : detOp P H1 (opAt ops k) (evV knA) = some v := by kernel_rfl) : DA P ne m E n ops bs A H1 ls1 (f + 1) la true knA kn ls H Q := DA.takeD k d v ho hd hB hc hQ hw hv h
theorem DA.tL (k : Nat) (d : Option Nat) (kv : KV) (h : DA P ne m E n ops bs A H1 ls1 f (la.setIfInBounds k true) true (putV knA d kv) (putV kn d kv) ls H Q)
    (hc : closedOk ops.toList bs = true := by assumption) (ho : ops[k]? = some (opAt ops k) := by kernel_rfl) (hd : (opAt ops k).dst = d := by kernel_rfl) (hB : takeB P n ops A la k (opAt ops k) = true := by kernel_rfl) (hQ : ∀ c a w, ¬ Q (.panic c) a w := by exact fun _ _ _ h => h)
    (hw : wantV ops kn (opAt ops k) = some true := by kernel_rfl) (hv : locDet P knA ls1 (opAt ops k) = some kv := by kernel_rfl) : DA P ne m E n ops bs A H1 ls1 (f + 1) la true knA kn ls H Q := DA.takeLD k d kv ho hd hB hc hQ hw hv h
theorem DA.tP (k : Nat) (d : Option Nat) (v : Value) (h : DA P ne m E n ops bs A H1 ls1 f (la.setIfInBounds k true) ag (dropV d knA) (putV kn d (.val v)) ls H Q)
    (hc : closedOk ops.toList bs = true := by assumption) (ho : ops[k]? = some (opAt ops k) := by kernel_rfl) (hd : (opAt ops k).dst = d := by kernel_rfl) (hB : takeQ P n ops A bs la k (opAt ops k) = true := by kernel_rfl) (hQ : ∀ c a w, ¬ Q (.panic c) a w := by exact fun _ _ _ h => h)
    (hw : (wantV ops kn (opAt ops k), (opAt ops k).op.operands.all (okx P), (opAt ops k).op.operands.all (knownV kn)) = (some true, true, true) := by kernel_rfl) (hv : pureOp P (opAt ops k) (evV kn) = some v := by kernel_rfl) : DA P ne m E n ops bs A H1 ls1 (f + 1) la ag knA kn ls H Q := DA.takeP k d v ho hd hB hc hQ hw hv h
theorem DA.tPx (k : Nat) (d : Option Nat) (v : Value) (hv : detOp P ⟨0, .nil⟩ (opAt ops k) (evV kn) = some v) (h : DA P ne m E n ops bs A H1 ls1 f (la.setIfInBounds k true) ag (dropV d knA) (putV kn d (.val v)) ls H Q)
    (hc : closedOk ops.toList bs = true := by assumption) (ho : ops[k]? = some (opAt ops k) := by kernel_rfl) (hd : (opAt ops k).dst = d := by kernel_rfl) (hB : takeQ P n ops A bs la k (opAt ops k) = true := by kernel_rfl) (hQ : ∀ c a w, ¬ Q (.panic c) a w := by exact fun _ _ _ h => h)
    (hw : (wantV ops kn (opAt ops k), (opAt ops k).op.operands.all (okx P), (opAt ops k).op.operands.all (knownV kn)) = (some true, true, true) := by kernel_rfl) (hn : notRead (opAt ops k) = true := by kernel_rfl) : DA P ne m E n ops bs A H1 ls1 (f + 1) la ag knA kn ls H Q := DA.takeP k d v ho hd hB hc hQ hw (pureOp_of hn hv) h
/-- One that may change what was there: nobody reads any more. -/
theorem DA.aH (k : Nat) (d : Option Nat) (v : Value) (hv : runOp P (NE.plain 0) ih0 m (opAt ops k) (evV kn) H = some (v, H')) (h : DA P ne m E n ops bs A H1 ls1 f (la.setIfInBounds k true) false (dropV d knA) (putV kn d (.val v)) ls H' Q)
    (hc : closedOk ops.toList bs = true := by assumption) (ho : ops[k]? = some (opAt ops k) := by kernel_rfl) (hdd : (opAt ops k).dst = d := by kernel_rfl) (hr : (Region.ready .any ops la).contains k = true := by kernel_rfl) (hB : (opV P n ops kn (opAt ops k) && noCall (opAt ops k)) = true := by kernel_rfl) (hd : demO ops A bs k = false := by kernel_rfl) : DAk P ne m E n ops bs A H1 ls1 k f la ag knA kn ls H Q :=
  DA.actHD k d m false v ho hdd hr hc hB hv (Nat.le_refl _) (fun hh => by rw [hd] at hh; cases hh) (by rw [hd]; rfl) h
theorem DA.aHk (k : Nat) (d : Option Nat) (ag' : Bool) (v : Value) (hv : runOp P (NE.plain 0) ih0 (Nat.max m H.next) (opAt ops k) (evV kn) H = some (v, H')) (h : DA P ne m E n ops bs A H1 ls1 f (la.setIfInBounds k true) ag' (dropV d knA) (putV kn d (.val v)) ls H' Q)
    (hc : closedOk ops.toList bs = true := by assumption) (ho : ops[k]? = some (opAt ops k) := by kernel_rfl) (hdd : (opAt ops k).dst = d := by kernel_rfl) (hr : (Region.ready .any ops la).contains k = true := by kernel_rfl) (hB : (opV P n ops kn (opAt ops k) && noCall (opAt ops k)) = true := by kernel_rfl) (ha : ((!demO ops A bs k || ag) && (!ag' || ag)) = true := by kernel_rfl) : DAk P ne m E n ops bs A H1 ls1 k f la ag knA kn ls H Q :=
  DA.actHD k d (Nat.max m H.next) ag' v ho hdd hr hc hB hv (Nat.le_max_left _ _) (fun _ => Nat.le_max_right _ _) ha h
theorem DA.aC (k : Nat) (d : Option Nat) {v : Value} (g : Nat) (args : Array Value) (hcs : CallS P ne m g args H v H') (h : DA P ne m E n ops bs A H1 ls1 f (la.setIfInBounds k true) false (dropV d knA) (putV kn d (.val v)) ls H' Q)
    (hc : closedOk ops.toList bs = true := by assumption) (ho : ops[k]? = some (opAt ops k) := by kernel_rfl) (hdd : (opAt ops k).dst = d := by kernel_rfl) (hr : (Region.ready .any ops la).contains k = true := by kernel_rfl) (hB : opV P n ops kn (opAt ops k) = true := by kernel_rfl) (hcl : callV kn (opAt ops k) = some (g, args) := by kernel_rfl) (hd : demO ops A bs k = false := by kernel_rfl) : DAk P ne m E n ops bs A H1 ls1 k f la ag knA kn ls H Q :=
  DA.actCD k d m false g args ho hdd hr hc hB hcl hcs (Nat.le_refl _) (fun hh => by rw [hd] at hh; cases hh) (by rw [hd]; rfl) h
theorem DA.aCk (k : Nat) (d : Option Nat) (ag' : Bool) {v : Value} (g : Nat) (args : Array Value) (hcs : CallS P ne (Nat.max m H.next) g args H v H') (h : DA P ne m E n ops bs A H1 ls1 f (la.setIfInBounds k true) ag' (dropV d knA) (putV kn d (.val v)) ls H' Q)
    (hc : closedOk ops.toList bs = true := by assumption) (ho : ops[k]? = some (opAt ops k) := by kernel_rfl) (hdd : (opAt ops k).dst = d := by kernel_rfl) (hr : (Region.ready .any ops la).contains k = true := by kernel_rfl) (hB : opV P n ops kn (opAt ops k) = true := by kernel_rfl) (hcl : callV kn (opAt ops k) = some (g, args) := by kernel_rfl) (ha : ((!demO ops A bs k || ag) && (!ag' || ag)) = true := by kernel_rfl) : DAk P ne m E n ops bs A H1 ls1 k f la ag knA kn ls H Q :=
  DA.actCD k d (Nat.max m H.next) ag' g args ho hdd hr hc hB hcl hcs (Nat.le_max_left _ _) (fun _ => Nat.le_max_right _ _) ha h

theorem SubV.of : ∀ {kn' kn : KN}, kn'.map (fun p => lkV kn p.1) = kn'.map (fun p => some p.2) → SubV kn' kn := by
  intro kn'
  induction kn' with
  | nil => intro kn _; trivial
  | cons p l ih =>
    intro kn h
    obtain ⟨t, v⟩ := p
    simp only [List.map_cons, List.cons.injEq] at h
    exact ⟨h.1, ih h.2⟩

theorem SS.sb {a : Act} {w : World} (h : SS P ne m E n kn ls H a w) {kn' : KN} (k : Nat) {ls' : Lcs} (hs : kn'.map (fun p => lkV kn p.1) = kn'.map (fun p => some p.2) := by kernel_rfl) (hl : ls.take k = ls' := by kernel_rfl) (hb : belowL k kn' = true := by kernel_rfl) : SS P ne m E n kn' ls' H a w := h.sub (SubV.of hs) k hl hb

theorem rS {fn : Func} {v : Value} {a : Act} {w : World} (hs : SS P ne m E n kn ls H a w) (h : resF P fn kn ls H = some v := by kernel_rfl) : RT P ne m E fn v H a w := rtS hs h

section
variable {S R : Type} {body : S → Option (Lp S R)} {knOf : S → KN} {lsOf : S → Lcs} {hOf : S → AH} {i : Nat}

theorem WS.lI {QR : R → Act → World → Prop} (hbody : ∀ s o, body s = some o → WS P ne m E n (cfst c) (knOf s) (lsOf s) (hOf s) (lpS P ne m E n knOf lsOf hOf i QR o)) {s s' : S} (hl : loopO body s = some (.inl s')) (k : Nat) (h1 : ∀ a w, SS P ne m E n (knOf s') (lsOf s') (hOf s') a w → Q (.exit i) a w)
    (hc : isLoop c = true := by kernel_rfl) (hs : (knOf s).map (fun p => lkV kn p.1) = (knOf s).map (fun p => some p.2) := by kernel_rfl) (hls : ls.take k = lsOf s := by kernel_rfl) (hbl : belowL k (knOf s) = true := by kernel_rfl) (hH : H = hOf s := by rfl) : WS P ne m E n c kn ls H Q :=
  WS.loopI hc body knOf lsOf hOf i QR hbody hl k (SubV.of hs) hls hbl hH h1
theorem WS.lR {QR : R → Act → World → Prop} (hbody : ∀ s o, body s = some o → WS P ne m E n (cfst c) (knOf s) (lsOf s) (hOf s) (lpS P ne m E n knOf lsOf hOf i QR o)) {s : S} {r : R} (hl : loopO body s = some (.inr r)) (k : Nat) (h2 : ∀ a w, QR r a w → Q .ret a w)
    (hc : isLoop c = true := by kernel_rfl) (hs : (knOf s).map (fun p => lkV kn p.1) = (knOf s).map (fun p => some p.2) := by kernel_rfl) (hls : ls.take k = lsOf s := by kernel_rfl) (hbl : belowL k (knOf s) = true := by kernel_rfl) (hH : H = hOf s := by rfl) : WS P ne m E n c kn ls H Q :=
  WS.loopR hc body knOf lsOf hOf i QR hbody hl k (SubV.of hs) hls hbl hH h2
theorem WS.lXI {QR : R → Exit → Act → World → Prop} (hbody : ∀ s o, body s = some o → WS P ne m E n (cfst c) (knOf s) (lsOf s) (hOf s) (lpX P ne m E n knOf lsOf hOf i QR o)) {s s' : S} (hl : loopO body s = some (.inl s')) (k : Nat) (h1 : ∀ a w, SS P ne m E n (knOf s') (lsOf s') (hOf s') a w → Q (.exit i) a w)
    (hc : isLoop c = true := by kernel_rfl) (hs : (knOf s).map (fun p => lkV kn p.1) = (knOf s).map (fun p => some p.2) := by kernel_rfl) (hls : ls.take k = lsOf s := by kernel_rfl) (hbl : belowL k (knOf s) = true := by kernel_rfl) (hH : H = hOf s := by rfl) : WS P ne m E n c kn ls H Q :=
  WS.loopXI hc body knOf lsOf hOf i QR hbody hl k (SubV.of hs) hls hbl hH h1
theorem WS.lXR {QR : R → Exit → Act → World → Prop} (hbody : ∀ s o, body s = some o → WS P ne m E n (cfst c) (knOf s) (lsOf s) (hOf s) (lpX P ne m E n knOf lsOf hOf i QR o)) {s : S} {r : R} (hl : loopO body s = some (.inr r)) (k : Nat) (h2 : ∀ e a w, QR r e a w → Q e a w)
    (hc : isLoop c = true := by kernel_rfl) (hs : (knOf s).map (fun p => lkV kn p.1) = (knOf s).map (fun p => some p.2) := by kernel_rfl) (hls : ls.take k = lsOf s := by kernel_rfl) (hbl : belowL k (knOf s) = true := by kernel_rfl) (hH : H = hOf s := by rfl) : WS P ne m E n c kn ls H Q :=
  WS.loopXR hc body knOf lsOf hOf i QR hbody hl k (SubV.of hs) hls hbl hH h2
end

end Go.Abs


namespace Go.Abs

variable {P : Program} {ne : NE} {m : Nat} {H : AH}

theorem tab_world {φ : Inj} {w : World} {x : Tab} (hg : Glob P φ) (hi : Inv φ H w) (hlt : x.1 < P.globals.size) (hfl : x.2.2.all (flat depth) = true) (hx : H.get x.1 = some (tabBlk x)) :
    ∃ fr, w.heap[x.1]? = some (.cells x.2.2 x.2.1 fr) := by
  obtain ⟨l, h1, h2⟩ := hi.obj x.1 _ hx
  obtain ⟨l', g1, g2, g3⟩ := hg x.1 hlt
  rw [h1] at g1; cases g1
  obtain ⟨c', e', f', k1, k2⟩ := h2
  obtain ⟨k3, k4⟩ := k2.exact_ rfl
  have k5 := k2.elem
  subst k5
  rw [g2] at k1
  refine ⟨f', ?_⟩
  rw [k1]
  have : c' = x.2.2 := by
    refine Array.ext k4 fun i hi1 hi2 => ?_
    obtain ⟨v', q1, q2⟩ := k2.cell i x.2.2[i] (by simp [hi2])
    rw [k3, Nat.zero_add] at q1
    have hf : flat depth x.2.2[i] = true := by
      rw [Array.all_eq_true] at hfl
      exact hfl i hi2
    have := flat_eq depth hf q2
    rw [← this] at q1
    have q3 : c'[i]? = some c'[i] := by simp [hi1]
    rw [q3] at q1
    exact Option.some.inj q1
  rw [this]

structure UnderRes (P : Program) (φ : Inj) (H : AH) (w : World) (v : Value) (H1 : AH) (v' : Value) (w' : World) (φ1 : Inj) : Prop where
  vr : VR φ1 v v'
  inv : Inv φ1 H1 w'
  new : ∀ l, φ1 P.globals.size = some l → w.heap.size ≤ l.blk
  size : w.heap.size ≤ w'.heap.size
  keep : ∀ c, c < w.heap.size → w'.heap[c]? = w.heap[c]?
  os : w'.os = w.os
  tape : w'.tape = w.tape
  output : w'.output = w.output

theorem under_core {tabs : List Tab} {f : Nat} {args : Array Value} {v : Value} {H1 : AH} (hP : 0 < P.globals.size) (hB : tabsB P tabs = true) (hc : CallS P ne P.globals.size f args (startH P tabs) v H1)
    (ha : args.all (flat depth) = true) (hsub : ∀ x ∈ tabs, H.get x.1 = some (tabBlk x)) (hS : Sane P ne) :
    (∃ fn c, P.funcs[f]? = some fn ∧ fn.body = some c) ∧ ∀ φ w args', Glob P φ → AR φ args args' → Inv φ H w → Calls P f args' w fun e w' => ∃ v' φ1, e = .returned v' ∧ UnderRes P φ H w v H1 v' w' φ1 := by
  obtain ⟨h1, h2⟩ := hc hS
  refine ⟨h1, fun φ w args' hg har hi => ?_⟩
  have hB' := hB
  unfold tabsB at hB'
  rw [List.all_eq_true] at hB'
  have hlt : ∀ x ∈ tabs, x.1 < P.globals.size ∧ x.2.2.all (flat depth) = true := fun x hx => by
    have := hB' x hx
    simp only [Bool.and_eq_true] at this
    exact ⟨blt_lt this.1, this.2⟩
  have hsz : P.globals.size ≤ w.heap.size := by
    obtain ⟨l, g1, g2, _⟩ := hg (P.globals.size - 1) (by omega)
    have := (hi.dom _ l g1).2
    omega
  have hinv : Inv (φg P) (startH P tabs) w := inv_tabs hsz hB fun x hx => tab_world hg hi (hlt x hx).1 (hlt x hx).2 (hsub x hx)
  have har' : AR (φg P) args args' := by
    refine ⟨har.1, fun i x y hx hy => ?_⟩
    have hf : flat depth x = true := by
      rw [Array.all_eq_true_iff_forall_mem] at ha
      exact ha x (Array.mem_of_getElem? hx)
    have := flat_eq depth hf (har.2 i x y hx hy)
    subst this
    exact flat_refl depth hf
  refine (h2 (φg P) w args' glob_φg har' hinv).mono fun e w' ⟨φ1, v', he, hv, hi1, hst⟩ => ⟨v', φ1, he, hv, hi1, fun l hl => ?_, hst.size, fun c hc => ?_, hst.os, hst.tape, hst.output⟩
  · have hno : φg P P.globals.size = none := by simp [φg]
    rcases (hst.new _ l hl hno).2 with h | ⟨id0, l0, a1, a2, a3, _⟩
    · exact h
    · obtain ⟨b, hb⟩ := Option.isSome_iff_exists.1 a2
      obtain ⟨x, hx, rfl, _⟩ := startH_get hb
      have := (hlt x hx).1
      omega
  · refine hst.keep c hc fun id l hm hs _ => ?_
    obtain ⟨b, hb⟩ := Option.isSome_iff_exists.1 hs
    obtain ⟨x, hx, rfl, _⟩ := startH_get hb
    have := (hlt x hx).1
    omega

theorem inv_kept {φ : Inj} {w w' : World} (hi : Inv φ H w) (hs : w.heap.size ≤ w'.heap.size) (hk : ∀ c, c < w.heap.size → w'.heap[c]? = w.heap[c]?) : Inv φ H w' := by
  refine ⟨fun id l hl => ?_, fun id b hb => ?_, hi.sep⟩
  · have := hi.dom id l hl
    exact ⟨this.1, by omega⟩
  · obtain ⟨l, q1, q2⟩ := hi.obj id b hb
    exact ⟨l, q1, q2.same (hk l.blk (hi.dom id l q1).2)⟩

/-- A plain answer. -/
theorem CallS.under {tabs : List Tab} {f : Nat} {args : Array Value} {v : Value} {H1 : AH} (hP : 0 < P.globals.size) (hB : tabsB P tabs = true) (hc : CallS P ne P.globals.size f args (startH P tabs) v H1)
    (ha : args.all (flat depth) = true) (hv : flat depth v = true) (hsub : ∀ x ∈ tabs, H.get x.1 = some (tabBlk x)) : CallS P ne m f args H v H := by
  intro hS
  obtain ⟨h1, h2⟩ := under_core hP hB hc ha hsub hS
  refine ⟨h1, fun φ w args' hg har hi => (h2 φ w args' hg har hi).mono fun e w' ⟨v', φ1, he, hr⟩ => ?_⟩
  have hvv := flat_eq depth hv hr.vr
  subst hvv
  exact ⟨φ, v, he, flat_refl depth hv, inv_kept hi hr.size hr.keep, ⟨Nat.le_refl _, Inj.le_refl _, fun id l hl hn => (by rw [hl] at hn; cases hn), fun id hh => .inl hh, hr.size, fun c hc _ => hr.keep c hc, hr.os, hr.tape, hr.output⟩⟩

/-- A new slice of plain values. -/
theorem CallS.underNew {tabs : List Tab} {f : Nat} {args : Array Value} {n c : Nat} {H1 : AH} {b : Blk} {cs : Array Value} {e : TypeId} {fr : Nat × Nat} (hP : 0 < P.globals.size) (hB : tabsB P tabs = true)
    (hc : CallS P ne P.globals.size f args (startH P tabs) (.slice (some ⟨P.globals.size, 0, none⟩) n c) H1)
    (ha : args.all (flat depth) = true) (hb : H1.get P.globals.size = some b) (hob : b.obj = .cells cs e fr) (hopn : b.opn = false) (hco : c ≠ OPEN) (hcs : cs.all (flat depth) = true)
    (hsub : ∀ x ∈ tabs, H.get x.1 = some (tabBlk x)) : CallS P ne m f args H (.slice (some ⟨H.next, 0, none⟩) n c) (H.push b) := by
  intro hS
  obtain ⟨h1, h2⟩ := under_core hP hB hc ha hsub hS
  refine ⟨h1, fun φ w args' hg har hi => (h2 φ w args' hg har hi).mono fun ee w' ⟨v', φ1, he, hr⟩ => ?_⟩
  obtain ⟨l, q1, q2⟩ := hr.inv.obj _ b hb
  have hnew := hr.new l q1
  have hlt := (hr.inv.dom _ l q1).2
  have hle := Inj.le_upd l hi.fresh
  have hk := inv_kept hi hr.size hr.keep
  have hvr : VR (φ.upd H.next l) (.slice (some ⟨H.next, 0, none⟩) n c) v' := by
    have hvr := hr.vr
    cases hvr with
    | slice _ _ _ _ l' h hc => rw [q1] at h; cases h; exact .slice _ _ _ _ l (Inj.upd_same _ _ _) hc
    | sliceOpen => exact absurd rfl hco
    | sliceEnd => exact absurd rfl hco
    | sliceZero _ _ l' a h => rw [q1] at h; cases h; exact .sliceZero _ _ l a (Inj.upd_same _ _ _)
  have hdom : ∀ id l', φ id = some l' → id < H.next ∧ l'.blk < w.heap.size := hi.dom
  refine ⟨φ.upd H.next l, v', he, hvr, ⟨fun id l' hl => ?_, fun id b' hg' => ?_, fun id id' b1 b2 l1 l2 hb1 hb2 hne hro ha1 ha2 hl1 hl2 => ?_⟩,
    ⟨by simp, hle, fun id l' hl hn => ?_, fun id hh => ?_, hr.size, fun c hc _ => hr.keep c hc, hr.os, hr.tape, hr.output⟩⟩
  · by_cases e' : id = H.next
    · subst e'
      rw [Inj.upd_same] at hl; cases hl
      exact ⟨by simp, hlt⟩
    · rw [Inj.upd_other _ _ e'] at hl
      have := hk.dom id l' hl
      simp only [AH.next_push]
      omega
  · by_cases e' : id = H.next
    · subst e'
      rw [AH.get_push_same] at hg'; cases hg'
      refine ⟨l, Inj.upd_same _ _ _, ?_⟩
      unfold OR at q2 ⊢
      rw [hob] at q2 ⊢
      obtain ⟨c', e', f', k1, k2⟩ := q2
      refine ⟨c', e', f', k1, ⟨fun i v hv => ?_, k2.fin, k2.esz, k2.exact_, k2.own, k2.elem⟩⟩
      obtain ⟨v', z1, z2⟩ := k2.cell i v hv
      have hf : flat depth v = true := by
        rw [Array.all_eq_true_iff_forall_mem] at hcs
        exact hcs v (Array.mem_of_getElem? hv)
      have := flat_eq depth hf z2
      subst this
      exact ⟨v, z1, flat_refl depth hf⟩
    · rw [AH.get_push_other _ _ e'] at hg'
      obtain ⟨l', k1, k2⟩ := hk.obj id b' hg'
      exact ⟨l', by rw [Inj.upd_other _ _ e']; exact k1, k2.mono hle⟩
  · by_cases e1 : id = H.next
    · subst e1
      rw [Inj.upd_same] at hl1; cases hl1
      have e2 : id' ≠ H.next := fun h => hne h.symm
      rw [Inj.upd_other _ _ e2] at hl2
      have := (hdom _ _ hl2).2
      omega
    · rw [Inj.upd_other _ _ e1] at hl1
      rw [AH.get_push_other _ _ e1] at hb1
      by_cases e2 : id' = H.next
      · subst e2
        rw [Inj.upd_same] at hl2; cases hl2
        have := (hdom _ _ hl1).2
        omega
      · rw [Inj.upd_other _ _ e2] at hl2
        rw [AH.get_push_other _ _ e2] at hb2
        exact hi.sep id id' b1 b2 l1 l2 hb1 hb2 hne hro ha1 ha2 hl1 hl2
  · by_cases e' : id = H.next
    · subst e'
      rw [Inj.upd_same] at hl; cases hl
      exact ⟨Nat.le_refl _, .inl hnew⟩
    · rw [Inj.upd_other _ _ e'] at hl
      rw [hl] at hn; cases hn
  · by_cases e' : id = H.next
    · subst e'
      exact .inr hi.fresh
    · rw [AH.get_push_other _ _ e'] at hh
      exact .inl hh

end Go.Abs


namespace Go.Abs

/-- Nothing is turned but what W names; nothing is given back. -/
def Fm (W : Nat → Prop) (H H' : AH) : Prop := H.next ≤ H'.next ∧ ∀ id b, id < H.next → ¬ W id → H.get id = some b → H'.get id = some b

abbrev Ext (H H' : AH) : Prop := Fm (fun _ => False) H H'

theorem Fm.refl (W : Nat → Prop) (H : AH) : Fm W H H := ⟨Nat.le_refl _, fun _ _ _ _ h => h⟩

theorem Fm.comp {W W' : Nat → Prop} {H H1 H2 : AH} (h : Fm W H H1) (h' : Fm W' H1 H2) (hw : ∀ id, id < H.next → ¬ W id → ¬ W' id) : Fm W H H2 :=
  ⟨Nat.le_trans h.1 h'.1, fun id b hid hn hb => h'.2 id b (Nat.lt_of_lt_of_le hid h.1) (hw id hid hn) (h.2 id b hid hn hb)⟩

theorem Ext.trans {H H1 H2 : AH} (h : Ext H H1) (h' : Ext H1 H2) : Ext H H2 := Fm.comp h h' fun _ _ h => h

theorem Fm.weak {W W' : Nat → Prop} {H H1 : AH} (h : Fm W H H1) (hw : ∀ id, id < H.next → W id → W' id) : Fm W' H H1 :=
  ⟨h.1, fun id b hid hn hb => h.2 id b hid (fun hh => hn (hw id hid hh)) hb⟩

theorem Fm.push (W : Nat → Prop) (H : AH) (b : Blk) : Fm W H (H.push b) :=
  ⟨by simp, fun id _ hid _ hb => by rw [AH.get_push_other H _ (by omega)]; exact hb⟩

theorem Fm.put {H : AH} {i : Nat} {b : Blk} : Fm (fun id => id = i) H (H.put i b) :=
  ⟨Nat.le_refl _, fun id _ _ hn hb => by rw [AH.get_put_other H _ hn]; exact hb⟩

/-- The block of a slice. -/
def blkIs (s : Sl3) (id : Nat) : Prop := ∃ a, s.p = some a ∧ a.block = id

theorem cell_obj {H : AH} {a : Addr} {v : Value} (h : H.cell a = some v) : ∃ b c e f, H.get a.block = some b ∧ b.obj = .cells c e f ∧ a.spot = none ∧ c[a.off]? = some v := by
  unfold AH.cell at h
  split at h
  · rename_i c e f o z r hg hs
    exact ⟨_, c, e, f, hg, rfl, hs, h⟩
  · cases h

theorem cell_of {H : AH} {a : Addr} {v : Value} {b : Blk} {c : Array Value} {e : TypeId} {f : Nat × Nat} (hg : H.get a.block = some b) (hb : b.obj = .cells c e f) (hs : a.spot = none) (hv : c[a.off]? = some v) : H.cell a = some v := by
  unfold AH.cell
  obtain ⟨obj, o, z, r⟩ := b
  simp only at hb
  subst hb
  rw [hg, hs]
  exact hv

theorem add_block (a : Addr) (i : Nat) : (a.add i).block = a.block := by unfold Addr.add; split <;> rfl

theorem cell_fr {W : Nat → Prop} {H H' : AH} (h : Fm W H H') {a : Addr} {v : Value} (hlt : a.block < H.next) (hw : ¬ W a.block) (hc : H.cell a = some v) : H'.cell a = some v := by
  obtain ⟨b, c, e, f, h1, h2, h3, h4⟩ := cell_obj hc
  exact cell_of (h.2 _ _ hlt hw h1) h2 h3 h4

/-- A slice that holds these numbers. -/
structure Ro (k : IntKind) (H : AH) (s : Sl3) (xs : List Nat) : Prop where
  len : s.n = xs.length
  cap : s.n ≤ s.c
  top : s.c ≤ OPEN
  nil : s.p = none → s.n = 0 ∧ s.c = 0
  low : ∀ a, s.p = some a → a.block < H.next
  opn : ∀ a, s.p = some a → s.c = OPEN → ∃ b, H.get a.block = some b ∧ b.opn = true ∧ b.esz = 1 ∧ isCells b.obj = true
  cell : ∀ a, s.p = some a → ∀ (i : Nat) (h : i < xs.length), H.cell (a.add i) = some (.int k (xs[i] : Nat))

theorem Ro.fr {k : IntKind} {H H' : AH} {s : Sl3} {xs : List Nat} {W : Nat → Prop} (h : Ro k H s xs) (hf : Fm W H H') (hw : ∀ a, s.p = some a → ¬ W a.block) : Ro k H' s xs :=
  ⟨h.len, h.cap, h.top, h.nil, fun a ha => Nat.lt_of_lt_of_le (h.low a ha) hf.1,
    fun a ha ho => let ⟨b, h1, h2⟩ := h.opn a ha ho; ⟨b, hf.2 _ _ (h.low a ha) (hw a ha) h1, h2⟩,
    fun a ha i hi => cell_fr hf (by rw [add_block]; exact h.low a ha) (by rw [add_block]; exact hw a ha) (h.cell a ha i hi)⟩

theorem Ro.ext {k : IntKind} {H H' : AH} {s : Sl3} {xs : List Nat} (h : Ro k H s xs) (hf : Ext H H') : Ro k H' s xs := h.fr hf fun _ _ h => h

theorem Ro.nil' (k : IntKind) (H : AH) : Ro k H Sl3.nil [] :=
  ⟨rfl, Nat.le_refl _, Nat.zero_le _, fun _ => ⟨rfl, rfl⟩, fun a h => (by cases h), fun a h => (by cases h), fun a h => (by cases h)⟩

theorem Ro.some_ {k : IntKind} {H : AH} {s : Sl3} {xs : List Nat} (h : Ro k H s xs) (hp : 0 < xs.length) : ∃ a, s.p = some a := by
  cases hs : s.p with
  | some a => exact ⟨a, rfl⟩
  | none => have := h.nil hs; have := h.len; omega

/-- Reading an element. -/
theorem Ro.get {k : IntKind} {H : AH} {s : Sl3} {xs : List Nat} (h : Ro k H s xs) {i : Nat} (hi : i < xs.length) {v : Int} (hv : v = i) :
    ∃ p, idxA 1 s v = some p ∧ rd (deI k) H p = some ((xs[i] : Nat) : Int) ∧ (∀ c, H.next ≤ c → belowN c p = true) := by
  obtain ⟨a, ha⟩ := h.some_ (by omega)
  subst hv
  refine ⟨a.add i, ?_, ?_, fun c hc => ?_⟩
  · unfold idxA
    rw [ha]
    simp only
    rw [if_pos ⟨Int.natCast_nonneg i, by rw [h.len]; exact Int.ofNat_lt.2 hi⟩]
    simp
  · unfold rd
    rw [h.cell a ha i hi]
    simp [deI]
  · unfold belowN
    rw [add_block]
    exact blt_iff.2 (Nat.lt_of_lt_of_le (h.low a ha) hc)

theorem wrap_i64' {x : Int} (h0 : -9223372036854775808 ≤ x) (h1 : x < 9223372036854775808) : IntKind.i64.wrap x = x := by
  rw [IntKind.wrap_i64]; omega

theorem add_zero (a : Addr) : a.add 0 = a := rfl
inductive Vec (k : IntKind) (e : TypeId) (m : Nat) (H : AH) (xs : List Nat) : Sl3 → Prop
  | nil (hx : xs = []) : Vec k e m H xs Sl3.nil
  | opn (id : Nat) (hm : m ≤ id) (hid : id < H.next) (hg : H.get id = some { obj := .cells (xs.map fun (x : Nat) => Value.int k (x : Int)).toArray e (0, 0), opn := true, esz := 1, ro := false }) : Vec k e m H xs ⟨some ⟨id, 0, none⟩, xs.length, OPEN⟩
  | fix (id c : Nat) (cs : Array Value) (hm : m ≤ id) (hid : id < H.next) (hg : H.get id = some { obj := .cells cs e (0, 0), opn := false, esz := 0, ro := false }) (hc : cs.size = c) (ho : c < OPEN) (hl : xs.length ≤ c)
      (hx : ∀ (i : Nat) (h : i < xs.length), cs[i]? = some (.int k (xs[i] : Nat))) : Vec k e m H xs ⟨some ⟨id, 0, none⟩, xs.length, c⟩

theorem Vec.ro {k : IntKind} {e : TypeId} {m : Nat} {H : AH} {xs : List Nat} {s : Sl3} (h : Vec k e m H xs s) (hl : xs.length ≤ OPEN) : Ro k H s xs := by
  have adds : ∀ (id i : Nat), (Addr.mk id 0 none).add i = ⟨id, i, none⟩ := by
    intro id i
    unfold Addr.add
    split
    · rename_i h; subst h; rfl
    · simp
  cases h with
  | nil hx => subst hx; exact Ro.nil' k H
  | opn id hm hid hg =>
    refine ⟨rfl, hl, Nat.le_refl _, fun h => (by cases h), fun a ha => ?_, fun a ha _ => ?_, fun a ha i hi => ?_⟩
    · cases ha; exact hid
    · cases ha; exact ⟨_, hg, rfl, rfl, rfl⟩
    · cases ha
      rw [adds]
      exact cell_of (a := ⟨id, i, none⟩) hg rfl rfl (by simp [hi])
  | fix id c cs hm hid hg hc ho hl hx =>
    refine ⟨rfl, hl, Nat.le_of_lt ho, fun h => (by cases h), fun a ha => ?_, fun a ha hh => ?_, fun a ha i hi => ?_⟩
    · cases ha; exact hid
    · exact absurd (show c = OPEN from hh) (by omega)
    · cases ha
      rw [adds]
      exact cell_of (a := ⟨id, i, none⟩) hg rfl rfl (hx i hi)

theorem Vec.fr {k : IntKind} {e : TypeId} {m : Nat} {H H' : AH} {xs : List Nat} {s : Sl3} {W : Nat → Prop} (h : Vec k e m H xs s) (hf : Fm W H H') (hw : ∀ id, blkIs s id → ¬ W id) : Vec k e m H' xs s := by
  cases h with
  | nil hx => exact .nil hx
  | opn id hm hid hg => exact .opn id hm (Nat.lt_of_lt_of_le hid hf.1) (hf.2 _ _ hid (hw id ⟨_, rfl, rfl⟩) hg)
  | fix id c cs hm hid hg hc ho hl hx => exact .fix id c cs hm (Nat.lt_of_lt_of_le hid hf.1) (hf.2 _ _ hid (hw id ⟨_, rfl, rfl⟩) hg) hc ho hl hx

theorem Vec.low {k : IntKind} {e : TypeId} {m : Nat} {H : AH} {xs : List Nat} {s : Sl3} (h : Vec k e m H xs s) : ∀ id, blkIs s id → id < H.next := by
  rintro id ⟨a, ha, rfl⟩
  cases h with
  | nil hx => cases ha
  | opn id hm hid hg => cases ha; exact hid
  | fix id c cs hm hid hg hc ho hl hx => cases ha; exact hid

end Go.Abs


namespace Go.Abs

abbrev nums (k : IntKind) (xs : List Nat) : List Value := xs.map fun (x : Nat) => Value.int k (x : Int)

theorem addr_add (id o i : Nat) : (Addr.mk id o none).add i = ⟨id, o + i, none⟩ := by
  unfold Addr.add
  split
  · rename_i h; subst h; rfl
  · rfl

theorem rdCells_of {H : AH} {a : Addr} : ∀ (l : List Value) (j : Nat), (∀ (i : Nat) (h : i < l.length), H.cell (a.add (j + i)) = some l[i]) → rdCells H a j l.length = some l := by
  intro l
  induction l with
  | nil => intro j _; rfl
  | cons v l ih =>
    intro j h
    have h0 := h 0 (by simp)
    simp only [Nat.add_zero, List.getElem_cons_zero] at h0
    have h1 := ih (j + 1) fun i hi => by
      have := h (i + 1) (by simpa using hi)
      rw [show j + 1 + i = j + (i + 1) by omega, this]
      simp
    simp only [List.length_cons, rdCells, h0, h1]

theorem Ro.rd {k : IntKind} {H : AH} {s : Sl3} {xs : List Nat} (h : Ro k H s xs) {a : Addr} (ha : s.p = some a) : rdCells H a 0 (s.n * 1) = some (nums k xs) := by
  have := rdCells_of (H := H) (a := a) (nums k xs) 0 fun i hi => by
    rw [Nat.zero_add, h.cell a ha i (by simpa using hi)]
    simp [nums]
  rw [h.len, Nat.mul_one]
  simpa [nums] using this

theorem one_nums (k : IntKind) (xs : List Nat) : (nums k xs).all one = true := by
  rw [List.all_eq_true]
  intro v hv
  simp only [nums, List.mem_map] at hv
  obtain ⟨x, _, rfl⟩ := hv
  rfl

theorem grownS_ok {H : AH} {e : TypeId} {sz bytes need : Nat} {cs : List Value} (h1 : (2 * need + 1000) * bytes ≤ 281474976710656) (h2 : need ≤ 281474976710656) :
    grownS H e sz bytes need cs = some (⟨some ⟨H.next, 0, none⟩, need, OPEN⟩, H.push { obj := .cells cs.toArray e (0, 0), opn := true, esz := sz, ro := false }) := by
  unfold grownS
  rw [if_pos ⟨h1, h2⟩]

theorem setCell_ok {H : AH} {m id off : Nat} {v : Value} {cs : Array Value} {e : TypeId} {opn : Bool} {esz : Nat} (hm : m ≤ id) (hg : H.get id = some { obj := .cells cs e (0, 0), opn, esz, ro := false }) (ho : off < cs.size) :
    H.setCell m ⟨id, off, none⟩ v = some (H.put id { obj := .cells (cs.setIfInBounds off v) e (0, 0), opn, esz, ro := false }) := by
  unfold AH.setCell
  simp only [hg, ble_of hm, blt_iff.2 ho, Bool.and_self, cond_true]

/-- Appending what another slice holds. -/
theorem Vec.app {k : IntKind} {e : TypeId} {m bytes : Nat} {H : AH} {xs ys : List Nat} {s z : Sl3} (h : Vec k e m H xs s) (hz : Ro k H z ys) (hzs : ∀ id, blkIs z id → ¬ blkIs s id)
    (h1 : (2 * (xs.length + ys.length) + 1000) * bytes ≤ 281474976710656) (h2 : xs.length + ys.length ≤ 281474976710656) (hm : m ≤ H.next) :
    ∃ s' H', appS m e 1 bytes H s z = some (s', H') ∧ Vec k e m H' (xs ++ ys) s' ∧ Fm (blkIs s) H H' ∧ ∀ id, blkIs s' id → blkIs s id ∨ H.next ≤ id := by
  have hO : OPEN = 9223372036854775808 := rfl
  have hs := h.ro (by omega)
  -- the elements
  have hsrc : ∀ r, appL m e 1 bytes H s ys.length (nums k ys) = r → appS m e 1 bytes H s z = r := by
    intro r hr
    unfold appS
    cases hp : z.p with
    | none =>
      have := hz.nil hp
      have hl := hz.len
      simp only
      rw [if_pos this.1]
      have : ys = [] := List.length_eq_zero_iff.1 (by omega)
      subst this
      exact hr
    | some b =>
      simp only
      rw [hz.rd hp]
      simp only
      rw [if_pos (one_nums k ys), hz.len]
      exact hr
  by_cases hy : ys.length = 0
  · have : ys = [] := List.length_eq_zero_iff.1 hy
    subst this
    refine ⟨s, H, hsrc _ ?_, by simpa using h, Fm.refl _ _, fun id hid => .inl hid⟩
    unfold appL
    rw [if_pos hy, if_pos hs.cap]
  · have mapApp : nums k xs ++ nums k ys = nums k (xs ++ ys) := by simp [nums]
    have lenApp : (xs ++ ys).length = xs.length + ys.length := by simp
    cases h with
    | nil hx =>
      subst hx
      refine ⟨⟨some ⟨H.next, 0, none⟩, ys.length, OPEN⟩, H.push { obj := .cells (nums k ys).toArray e (0, 0), opn := true, esz := 1, ro := false }, hsrc _ ?_, ?_, Fm.push _ _ _, ?_⟩
      · unfold appL
        rw [if_neg hy]
        simp only [Sl3.nil]
        rw [if_pos ⟨trivial, trivial⟩, grownS_ok (by simpa using h1) (by simpa using h2)]
      · simp only [List.nil_append]
        exact .opn H.next hm (by simp) (by rw [AH.get_push_same])
      · rintro id ⟨a, ha, rfl⟩
        cases ha
        exact .inr (Nat.le_refl _)
    | opn id hm' hid hg =>
      have hrd := hs.rd (a := ⟨id, 0, none⟩) rfl
      refine ⟨⟨some ⟨H.next, 0, none⟩, (xs ++ ys).length, OPEN⟩, (H.put id dead).push { obj := .cells (nums k (xs ++ ys)).toArray e (0, 0), opn := true, esz := 1, ro := false }, hsrc _ ?_, ?_, ?_, ?_⟩
      · unfold appL
        rw [if_neg hy]
        simp only
        simp only at hrd
        rw [hrd]
        simp only
        have hown : ownedB m H ⟨id, 0, none⟩ e 1 = true := by
          unfold ownedB
          simp only [hg, ble_of hm', Nat.beq_refl, Bool.and_self]
        rw [if_pos trivial, if_pos ⟨hown, one_nums k ys⟩, grownS_ok h1 h2, mapApp, ← lenApp]
        rfl
      · refine .opn H.next hm (by simp) ?_
        show ((H.put id dead).push _).get (H.put id dead).next = _
        rw [AH.get_push_same]
      · refine ⟨by simp, fun id' b hid' hn hb => ?_⟩
        have hne : id' ≠ id := fun e => hn ⟨_, rfl, e.symm⟩
        rw [AH.get_push_other _ _ (by simp; omega), AH.get_put_other _ _ hne]
        exact hb
      · rintro id' ⟨a, ha, rfl⟩
        cases ha
        exact .inr (Nat.le_refl _)
    | fix id c cs hm' hid hg hc ho hl hx =>
      have hrd := hs.rd (a := ⟨id, 0, none⟩) rfl
      by_cases hfit : xs.length + ys.length ≤ c
      · -- in place
        have hwr : ∀ (l : List Value) (j : Nat) (G : AH) (ds : Array Value), l.all one = true → G.get id = some { obj := .cells ds e (0, 0), opn := false, esz := 0, ro := false } → xs.length + j + l.length ≤ ds.size →
            ∃ G' ds', wrCells m ⟨id, xs.length, none⟩ j l G = some G' ∧ G'.get id = some { obj := .cells ds' e (0, 0), opn := false, esz := 0, ro := false } ∧ ds'.size = ds.size ∧ G'.next = G.next ∧ (∀ id', id' ≠ id → G'.get id' = G.get id') ∧
              (∀ i, i < xs.length + j → ds'[i]? = ds[i]?) ∧ ∀ (i : Nat) (hi : i < l.length), ds'[xs.length + j + i]? = some l[i] := by
          intro l
          induction l with
          | nil => intro j G ds _ hG _; exact ⟨G, ds, rfl, hG, rfl, rfl, fun _ _ => rfl, fun _ _ => rfl, fun i hi => by simp at hi⟩
          | cons v l ih =>
            intro j G ds hone hG hsz
            simp only [List.all_cons, Bool.and_eq_true] at hone
            have hset := setCell_ok (H := G) (m := m) (id := id) (off := xs.length + j) (v := v) hm' hG (by simp at hsz; omega)
            obtain ⟨G', ds', w1, w2, w3, w4, w5, w6, w7⟩ := ih (j + 1) (G.put id { obj := .cells (ds.setIfInBounds (xs.length + j) v) e (0, 0), opn := false, esz := 0, ro := false }) (ds.setIfInBounds (xs.length + j) v) hone.2 (AH.get_put_same _ _ _) (by simp at hsz ⊢; omega)
            refine ⟨G', ds', ?_, w2, by simpa using w3, w4, fun id' hne => by rw [w5 id' hne, AH.get_put_other _ _ hne], fun i hi => ?_, fun i hi => ?_⟩
            · simp only [wrCells, hone.1, cond_true]
              rw [addr_add, hset]
              exact w1
            · rw [w6 i (by omega), Array.getElem?_setIfInBounds_ne (by omega)]
            · cases i with
              | zero =>
                rw [Nat.add_zero, w6 _ (by omega), Array.getElem?_setIfInBounds_self_of_lt (by simp at hsz; omega)]
                rfl
              | succ i =>
                have := w7 i (by simpa using hi)
                rw [show xs.length + (j + 1) + i = xs.length + j + (i + 1) by omega] at this
                rw [this]
                simp
        obtain ⟨G', ds', w1, w2, w3, w4, w5, w6, w7⟩ := hwr (nums k ys) 0 H cs (one_nums k ys) hg (by simp [nums]; omega)
        refine ⟨⟨some ⟨id, 0, none⟩, (xs ++ ys).length, c⟩, G', hsrc _ ?_, ?_, ⟨by rw [w4]; exact Nat.le_refl _, fun id' b _ hn hb => by rw [w5 id' (fun e => hn ⟨_, rfl, e.symm⟩)]; exact hb⟩, ?_⟩
        · unfold appL
          rw [if_neg hy]
          simp only
          simp only at hrd
          rw [hrd]
          simp only
          rw [if_neg (by omega), if_pos hfit, Nat.mul_one, addr_add, Nat.zero_add, w1, ← lenApp]
          rfl
        · refine .fix id c ds' hm' (by rw [w4]; exact hid) w2 (by rw [w3]; exact hc) ho (by rw [lenApp]; exact hfit) fun i hi => ?_
          by_cases hlt : i < xs.length
          · rw [w6 i (by omega), List.getElem_append_left hlt]; exact hx i hlt
          · have hi2 : i - xs.length < ys.length := by rw [lenApp] at hi; omega
            have := w7 (i - xs.length) (by simpa [nums] using hi2)
            rw [Nat.add_zero, show xs.length + (i - xs.length) = i by omega] at this
            rw [this, List.getElem_append_right (by omega)]
            simp [nums]
        · rintro id' ⟨a, ha, rfl⟩
          cases ha
          exact .inl ⟨_, rfl, rfl⟩
      · refine ⟨⟨some ⟨H.next, 0, none⟩, (xs ++ ys).length, OPEN⟩, H.push { obj := .cells (nums k (xs ++ ys)).toArray e (0, 0), opn := true, esz := 1, ro := false }, hsrc _ ?_, ?_, Fm.push _ _ _, ?_⟩
        · unfold appL
          rw [if_neg hy]
          simp only
          simp only at hrd
          rw [hrd]
          simp only
          rw [if_neg (by omega), if_neg hfit, if_pos hl, grownS_ok h1 h2, mapApp, ← lenApp]
        · exact .opn H.next hm (by simp) (by rw [AH.get_push_same])
        · rintro id' ⟨a, ha, rfl⟩
          cases ha
          exact .inr (Nat.le_refl _)

/-- A new row of numbers. -/
theorem newR_ro {k : IntKind} {e : TypeId} {H : AH} {ys : List Nat} (hl : ys.length < OPEN) :
    ∃ z H', newR e ys.length (nums k ys).toArray H = some (z, H') ∧ Ro k H' z ys ∧ Ext H H' ∧ (∀ id, blkIs z id → id = H.next) ∧ H'.next = H.next + 1 := by
  refine ⟨_, _, rfl, ?_, Fm.push _ _ _, ?_, by simp⟩
  · refine ⟨rfl, Nat.le_refl _, Nat.le_of_lt hl, fun h => (by cases h), fun a ha => ?_, fun a _ ho => absurd (show ys.length = OPEN from ho) (by omega), fun a ha i hi => ?_⟩
    · cases ha; simp
    · cases ha
      rw [addr_add]
      exact cell_of (a := ⟨H.next, 0 + i, none⟩) (AH.get_push_same _ _) rfl rfl (by simp [nums, hi])
  · rintro id ⟨a, ha, rfl⟩
    cases ha
    rfl

/-- Appending one number. -/
theorem Vec.push {k : IntKind} {e : TypeId} {m bytes : Nat} {H : AH} {xs : List Nat} {s : Sl3} (h : Vec k e m H xs s) (x : Nat) {v : Int} (hv : v = x)
    (h1 : (2 * (xs.length + 1) + 1000) * bytes ≤ 281474976710656) (h2 : xs.length + 1 ≤ 281474976710656) (hm : m ≤ H.next) :
    ∃ z H1 s' H', newR e 1 #[Value.int k v] H = some (z, H1) ∧ appS m e 1 bytes H1 s z = some (s', H') ∧ Vec k e m H' (xs ++ [x]) s' ∧ Fm (blkIs s) H H' ∧ ∀ id, blkIs s' id → blkIs s id ∨ H.next ≤ id := by
  subst hv
  obtain ⟨z, H1, n1, n2, n3, n4, n5⟩ := newR_ro (k := k) (e := e) (H := H) (ys := [x]) (by simp [OPEN])
  have h' := h.fr n3 fun _ _ h => h
  obtain ⟨s', H', a1, a2, a3, a4⟩ := h'.app n2 (fun id hz hs => by have := n4 id hz; have := h.low id hs; omega) (bytes := bytes) (by simpa using h1) (by simpa using h2) (by omega)
  refine ⟨z, H1, s', H', n1, a1, a2, (n3.weak fun _ _ h => h.elim).comp a3 (fun _ _ hn => hn), fun id hid => ?_⟩
  rcases a4 id hid with h | h
  · exact .inl h
  · exact .inr (by omega)

end Go.Abs


namespace Go.Abs

def val (B : Nat) : List Nat → Nat
  | [] => 0
  | x :: l => x + B * val B l

variable {B : Nat}

theorem wrap_nat {x : Int} {n : Nat} (h : x = n) (hn : n < 9223372036854775808) : IntKind.i64.wrap x = n := by
  subst h
  exact wrap_i64' (by omega) (by omega)

end Go.Abs


namespace Go.Abs

/-- A cell of a block that stands. -/
def Cel (H : AH) (a : Addr) (v : Value) : Prop := H.cell a = some v ∧ a.block < H.next

theorem Cel.fr {W : Nat → Prop} {H H' : AH} {a : Addr} {v : Value} (h : Cel H a v) (hf : Fm W H H') (hw : ¬ W a.block) : Cel H' a v :=
  ⟨cell_fr hf h.2 hw h.1, Nat.lt_of_lt_of_le h.2 hf.1⟩

theorem Cel.ext {H H' : AH} {a : Addr} {v : Value} (h : Cel H a v) (hf : Ext H H') : Cel H' a v := h.fr hf fun h => h

theorem Cel.rd {α : Type} {H : AH} {a : Addr} {v : Value} (h : Cel H a v) (de : Value → Option α) : rd de H a = de v := by
  unfold Abs.rd
  rw [h.1]
  rfl

/-- From place i on these stand, each in so many cells. -/
def LAt {α : Type} (R : AH → Addr → α → Prop) (sz : Nat) (H : AH) (p : Option Addr) : Nat → List α → Prop
  | _, [] => True
  | i, x :: xs => (∃ a, p = some a ∧ R H (a.add (i * sz)) x) ∧ LAt R sz H p (i + 1) xs

theorem LAt.get {α : Type} {R : AH → Addr → α → Prop} {sz : Nat} {H : AH} {p : Option Addr} : ∀ {xs : List α} {i : Nat}, LAt R sz H p i xs → ∀ (j : Nat) (h : j < xs.length), ∃ a, p = some a ∧ R H (a.add ((i + j) * sz)) xs[j]
  | x :: xs, i, h, 0, hj => h.1
  | x :: xs, i, h, j + 1, hj => by
    obtain ⟨a, h1, h2⟩ := LAt.get h.2 j (by simpa using hj)
    exact ⟨a, h1, by rw [show i + (j + 1) = i + 1 + j by omega]; exact h2⟩

theorem LAt.imp {α : Type} {R R' : AH → Addr → α → Prop} {sz : Nat} {H H' : AH} {p : Option Addr} (hr : ∀ a x, R H a x → R' H' a x) : ∀ {xs : List α} {i : Nat}, LAt R sz H p i xs → LAt R' sz H' p i xs
  | [], _, _ => trivial
  | _ :: _, _, h => ⟨let ⟨a, h1, h2⟩ := h.1; ⟨a, h1, hr _ _ h2⟩, LAt.imp hr h.2⟩

theorem LAt.of {α : Type} {R : AH → Addr → α → Prop} {sz : Nat} {H : AH} {p : Option Addr} : ∀ {xs : List α} {i : Nat}, (∀ (j : Nat) (h : j < xs.length), ∃ a, p = some a ∧ R H (a.add ((i + j) * sz)) xs[j]) → LAt R sz H p i xs
  | [], _, _ => trivial
  | x :: xs, i, h => ⟨h 0 (by simp), LAt.of fun j hj => by
      obtain ⟨a, h1, h2⟩ := h (j + 1) (by simpa using hj)
      exact ⟨a, h1, by rw [show i + 1 + j = i + (j + 1) by omega]; exact h2⟩⟩

/-- The most that a row may hold. -/
def maxN : Nat := 9223372036854775807

/-- A slice of such things. -/
structure SlL {α : Type} (R : AH → Addr → α → Prop) (sz : Nat) (H : AH) (s : Sl3) (xs : List α) : Prop where
  n : s.n = xs.length
  cap : s.n ≤ s.c
  top : s.n ≤ maxN
  low : ∀ a, s.p = some a → a.block < H.next ∧ a.spot = none
  at_ : LAt R sz H s.p 0 xs

theorem SlL.len {α : Type} {R : AH → Addr → α → Prop} {sz : Nat} {H : AH} {s : Sl3} {xs : List α} (h : SlL R sz H s xs) : xs.length ≤ maxN := by
  have := h.n; have := h.top; omega

theorem SlL.imp {α : Type} {R R' : AH → Addr → α → Prop} {sz : Nat} {H H' : AH} {s : Sl3} {xs : List α} (h : SlL R sz H s xs) (hn : H.next ≤ H'.next) (hr : ∀ a x, R H a x → R' H' a x) : SlL R' sz H' s xs :=
  ⟨h.n, h.cap, h.top, fun a ha => ⟨Nat.lt_of_lt_of_le (h.low a ha).1 hn, (h.low a ha).2⟩, h.at_.imp hr⟩

theorem idxA_some {sz : Nat} {s : Sl3} {a : Addr} (ha : s.p = some a) {i : Nat} {v : Int} (hv : v = i) (hi : i < s.n) : idxA sz s v = some (a.add (i * sz)) := by
  subst hv
  unfold idxA
  rw [ha]
  simp only [Int.toNat_natCast]
  rw [if_pos ⟨by omega, by omega⟩]

theorem SlL.get {α : Type} {R : AH → Addr → α → Prop} {sz : Nat} {H : AH} {s : Sl3} {xs : List α} (h : SlL R sz H s xs) {i : Nat} (hi : i < xs.length) {v : Int} (hv : v = i) :
    ∃ q, idxA sz s v = some q ∧ R H q xs[i] := by
  obtain ⟨a, h1, h2⟩ := h.at_.get i hi
  rw [Nat.zero_add] at h2
  exact ⟨_, idxA_some h1 hv (by rw [h.n]; exact hi), h2⟩

theorem wrap_next {n i : Nat} (hi : i < n) (hn : n ≤ maxN) : IntKind.i64.wrap ((i : Int) + 1) = ((i + 1 : Nat) : Int) := by
  refine wrap_nat (by omega) ?_
  have : maxN = 9223372036854775807 := rfl
  omega

/-- What a search ends in. -/
def found {R : Type} (n : Nat) : Option R → Int ⊕ R
  | some r => .inr r
  | none => .inl (n : Int)

def stepO {R : Type} (i : Nat) : Option R → Lp Int R
  | some r => .ret r
  | none => .next (IntKind.i64.wrap ((i : Int) + 1))

/-- A loop that goes up by one and may end early. -/
theorem loopO_up {R : Type} {body : Int → Option (Lp Int R)} (n : Nat) (hn : n ≤ maxN) (out : Nat → Option R)
    (hs : ∀ i : Nat, i < n → body i = some (stepO i (out i))) (he : body n = some (.brk n)) :
    loopO body 0 = some (found n ((List.range n).findSome? out)) := by
  have key : ∀ (d i : Nat), i + d = n → loopO body (i : Int) = some (found n ((List.range' i d).findSome? out)) := by
    intro d
    induction d with
    | zero =>
      intro i hi
      have : i = n := by omega
      subst this
      rw [loopO_iff]
      exact ⟨1, by rw [iterO, he]; rfl⟩
    | succ d ih =>
      intro i hi
      have hb := hs i (by omega)
      rw [List.range'_succ, List.findSome?_cons]
      cases ho : out i with
      | some r =>
        rw [ho] at hb
        rw [loopO_iff]
        exact ⟨1, by rw [iterO, hb]; rfl⟩
      | none =>
        rw [ho] at hb
        simp only [stepO] at hb
        rw [wrap_next (by omega) hn] at hb
        rw [loopO_next hb]
        exact ih (i + 1) (by omega)
  have := key n 0 (by omega)
  rw [List.range_eq_range']
  exact this

theorem loopO_nextI {S R : Type} {body : S → Option (Lp S R)} {s : S} {k : Nat} {r : S ⊕ R} (h : iterO body k s = some r) : loopO body s = some r := loopO_iff.2 ⟨k, h⟩


/-- A text stands in a cell. -/
def StrA (H : AH) (q : Addr) (s : ByteArray) : Prop := Cel H q (.string s)

theorem Cel.push {H : AH} {b : Blk} {c : Array Value} {e : TypeId} {f : Nat × Nat} (hb : b.obj = .cells c e f) {i : Nat} {v : Value} (hv : c[i]? = some v) : Cel (H.push b) ⟨H.next, i, none⟩ v :=
  ⟨cell_of (a := ⟨H.next, i, none⟩) (AH.get_push_same _ _) hb rfl hv, by simp⟩

/-- A new block of single cells. -/
theorem SlL.push {α : Type} {R : AH → Addr → α → Prop} {H : AH} {b : Blk} {c : Array Value} {e : TypeId} {f : Nat × Nat} (hb : b.obj = .cells c e f) {xs : List α} (hn : xs.length ≤ maxN)
    (hr : ∀ (i : Nat) (h : i < xs.length), R (H.push b) ⟨H.next, i, none⟩ xs[i]) : SlL R 1 (H.push b) ⟨some ⟨H.next, 0, none⟩, xs.length, xs.length⟩ xs := by
  refine ⟨rfl, Nat.le_refl _, hn, fun a ha => ?_, LAt.of fun j hj => ⟨_, rfl, ?_⟩⟩
  · cases ha; simp
  · rw [addr_add, Nat.mul_one, Nat.zero_add, Nat.zero_add]
    exact hr j hj

theorem SlL.ext {α : Type} {R : AH → Addr → α → Prop} {sz : Nat} {H H' : AH} {s : Sl3} {xs : List α} (h : SlL R sz H s xs) (hf : Ext H H') (hr : ∀ a x, R H a x → R H' a x) : SlL R sz H' s xs := h.imp hf.1 hr

theorem bytA_get {s : ByteArray} {i : Nat} (hi : i < s.size) {v : Int} (hv : v = i) : bytA s v = some ((s[i].toNat : Nat) : Int) := by
  subst hv
  unfold bytA
  rw [if_pos (by omega)]
  simp [hi]

end Go.Abs


namespace Go.Abs

/-- A slice that holds these slices. -/
structure RoS (H : AH) (s : Sl3) (ss : List Sl3) : Prop where
  len : s.n = ss.length
  cap : s.n ≤ s.c
  nil : s.p = none → s.n = 0 ∧ s.c = 0
  low : ∀ a, s.p = some a → a.block < H.next
  cell : ∀ a, s.p = some a → ∀ (i : Nat) (h : i < ss.length), H.cell (a.add i) = some ss[i].v

theorem RoS.ext {H H' : AH} {s : Sl3} {ss : List Sl3} (h : RoS H s ss) (hf : Ext H H') : RoS H' s ss :=
  ⟨h.len, h.cap, h.nil, fun a ha => Nat.lt_of_lt_of_le (h.low a ha) hf.1, fun a ha i hi => cell_fr hf (by rw [add_block]; exact h.low a ha) (fun h => h) (h.cell a ha i hi)⟩

theorem RoS.get {H : AH} {s : Sl3} {ss : List Sl3} (h : RoS H s ss) {i : Nat} (hi : i < ss.length) {v : Int} (hv : v = i) : ∃ p, idxA 1 s v = some p ∧ rd deSl H p = some ss[i] := by
  subst hv
  cases hp : s.p with
  | none => have := h.nil hp; have := h.len; omega
  | some a =>
    refine ⟨a.add i, ?_, ?_⟩
    · unfold idxA
      rw [hp]
      simp only
      rw [if_pos ⟨Int.natCast_nonneg i, by rw [h.len]; exact Int.ofNat_lt.2 hi⟩]
      simp
    · unfold rd
      rw [h.cell a hp i hi]
      rfl

end Go.Abs


namespace Go.Abs

variable {P : Program}

/-- What came in stands in the world, and is only read. -/
structure Imp (P : Program) (φ : Inj) (H : AH) (W : World) : Prop where
  inv : Inv φ H W
  glob : Glob P φ
  ro : ∀ id b, H.get id = some b → b.ro = true

/-- A view of a row of cells. -/
def viewB (c : Array Value) (e : TypeId) : Blk := ⟨.cells c e (0, 0), true, 1, true⟩

theorem Imp.add {φ : Inj} {H : AH} {W : World} (h : Imp P φ H W) {blk off : Nat} {c c' : Array Value} {e : TypeId} {f : Nat × Nat} (hb : W.heap[blk]? = some (.cells c' e f))
    (hc : ∀ (i : Nat) (v : Value), c[i]? = some v → ∃ v', c'[off + i]? = some v' ∧ VR φ v v') : Imp P (φ.upd H.next ⟨blk, off, 0, 1⟩) (H.push (viewB c e)) W ∧ φ.le (φ.upd H.next ⟨blk, off, 0, 1⟩) := by
  have hle := Inj.le_upd ⟨blk, off, 0, 1⟩ h.inv.fresh
  have hro : ∀ id b, (H.push (viewB c e)).get id = some b → b.ro = true := fun id b hg => by
    by_cases e' : id = H.next
    · subst e'
      rw [AH.get_push_same] at hg; cases hg; rfl
    · rw [AH.get_push_other _ _ e'] at hg
      exact h.ro id b hg
  refine ⟨⟨⟨fun i l hl => ?_, fun i b hg => ?_, fun i j b b' l l' h1 _ _ hr => ?_⟩, fun g hg => ?_, hro⟩, hle⟩
  · by_cases e' : i = H.next
    · subst e'
      rw [Inj.upd_same] at hl; cases hl
      exact ⟨by simp, (Array.getElem?_eq_some_iff.1 hb).1⟩
    · rw [Inj.upd_other _ _ e'] at hl
      have := h.inv.dom i l hl
      simp only [AH.next_push]
      omega
  · by_cases e' : i = H.next
    · subst e'
      rw [AH.get_push_same] at hg; cases hg
      refine ⟨_, Inj.upd_same _ _ _, c', e, f, hb, fun i v hv => ?_, Nat.zero_le _, fun _ => rfl, fun ho => (by cases ho), fun hr => (by cases hr), rfl⟩
      obtain ⟨v', h1, h2⟩ := hc i v hv
      exact ⟨v', h1, h2.mono hle⟩
    · rw [AH.get_push_other _ _ e'] at hg
      obtain ⟨l, h1, h2⟩ := h.inv.obj i b hg
      exact ⟨l, by rw [Inj.upd_other _ _ e']; exact h1, h2.mono hle⟩
  · rw [hro i b h1] at hr; cases hr
  · obtain ⟨l, h1, h2, h3⟩ := h.glob g hg
    exact ⟨l, hle _ _ h1, h2, h3⟩

theorem cell?_some {w : World} {a : Addr} {v : Value} (h : w.cell? a = some v) : ∃ c e f, w.heap[a.block]? = some (.cells c e f) ∧ a.spot = none ∧ c[a.off]? = some v := by
  unfold World.cell? at h
  split at h
  · rename_i c e f hc
    split at h
    · cases h
    · rename_i hs
      refine ⟨c, e, f, hc, ?_, h⟩
      cases hh : a.spot with
      | none => rfl
      | some x => rw [hh] at hs; simp at hs
  · cases h

theorem add_off (a : Addr) (hs : a.spot = none) (i : Nat) : a.add i = ⟨a.block, a.off + i, none⟩ := by
  obtain ⟨b, o, s⟩ := a
  simp only at hs
  subst hs
  unfold Addr.add
  split
  · rename_i h; subst h; rfl
  · rfl

theorem addr_eta (a : Addr) (hs : a.spot = none) : (⟨a.block, a.off, none⟩ : Addr) = a := by
  obtain ⟨b, o, s⟩ := a
  simp only at hs
  subst hs
  rfl

/-- A row of cells that all stand in one block. -/
theorem Imp.cells {φ : Inj} {H : AH} {W : World} (h : Imp P φ H W) {a : Addr} {c : Array Value} (h0 : 0 < c.size) (hc : ∀ (i : Nat) (v : Value), c[i]? = some v → ∃ v', W.cell? (a.add i) = some v' ∧ VR φ v v') :
    ∃ φ' e, Imp P φ' (H.push (viewB c e)) W ∧ φ.le φ' ∧ ∀ n k, k ≠ OPEN → VR φ' (.slice (some ⟨H.next, 0, none⟩) n k) (.slice (some a) n k) := by
  obtain ⟨v', h1, _⟩ := hc 0 c[0] (by simp [h0])
  obtain ⟨c', e, f, h2, h3, _⟩ := cell?_some h1
  rw [add_block] at h2
  have hsp : a.spot = none := by
    unfold Addr.add at h3
    simpa using h3
  obtain ⟨h4, h5⟩ := h.add (blk := a.block) (off := a.off) (c := c) (c' := c') (e := e) (f := f) h2 (fun i v hv => by
    obtain ⟨w, g1, g2⟩ := hc i v hv
    obtain ⟨c'', e', f', g3, _, g5⟩ := cell?_some g1
    rw [add_block, h2] at g3
    simp only [Option.some.injEq, Obj.cells.injEq] at g3
    obtain ⟨rfl, _⟩ := g3
    rw [add_off a hsp] at g5
    exact ⟨w, g5, g2⟩)
  refine ⟨_, e, h4, h5, fun n k hk => ?_⟩
  have := VR.slice H.next 0 n k ⟨a.block, a.off, 0, 1⟩ (Inj.upd_same φ H.next ⟨a.block, a.off, 0, 1⟩) hk
  rw [show (⟨(⟨a.block, a.off, 0, 1⟩ : Loc).blk, (⟨a.block, a.off, 0, 1⟩ : Loc).off + 0, none⟩ : Addr) = a from addr_eta a hsp] at this
  exact this

open Go.ChangeShapes in
theorem trodAll_len {H : Type} {enc : TypeId × Value → H} {W : World} {sp : Nat → Bool} {hd : Bool} : ∀ (ts : List TypeId) (vs : List Value) (ds : List (DataW H)) (ps : List MemPlace), DataW.TrodAll enc P W 0 sp hd ts vs ds ps → ds.length = ts.length := by
  intro ts
  induction ts with
  | nil => intro vs ds ps h; obtain ⟨_, rfl, _⟩ := trodAll_nil h; rfl
  | cons t ts ih => intro vs ds ps h; obtain ⟨v, vs', d, ds', p, q, _, rfl, _, _, h2⟩ := trodAll_cons h; simp [ih _ _ _ h2]


theorem Imp.startT {W : World} {tabs : List Tab} (h : P.globals.size ≤ W.heap.size) (hB : tabsB P tabs = true) (ht : ∀ x ∈ tabs, ∃ fr, W.heap[x.1]? = some (.cells x.2.2 x.2.1 fr)) : Imp P (φg P) (startH P tabs) W :=
  ⟨inv_tabs h hB ht, glob_φg, fun id b hb => by obtain ⟨x, _, _, rfl⟩ := startH_get hb; rfl⟩

open Go.RowKit in
theorem true_of_callI {ne : NE} (hS : Sane P ne) {f : Nat} {args args' : Array Value} {H H' : AH} {φ : Inj} {W : World} (h : CallS P ne H.next f args H (.bool true) H') (hi : Imp P φ H W) (ha : AR φ args args') :
    Calls P f args' W fun e W' => e = .returned (.bool true) ∧ Below W.heap.size W W' := by
  refine ((h hS).2 φ W args' hi.glob ha hi.inv).mono fun e W' hpost => ?_
  obtain ⟨φ', v', rfl, hv, _, hst⟩ := hpost
  cases hv
  refine ⟨rfl, hst.os, hst.tape, hst.output, hst.size, fun k hk => hst.keep k hk fun id l hm hs _ => ?_⟩
  obtain ⟨b, hb⟩ := Option.isSome_iff_exists.1 hs
  obtain ⟨l', h1, _⟩ := hi.inv.obj id b hb
  have := (hi.inv.dom id l' h1).1
  omega

/-- A law of a row that lists tables and has a bound on what comes in. -/
theorem lifted_row_tabs {H : Type} {enc : TypeId × Value → H} {C : Checked} {os : Os} {f : FuncId} {fn : Func} {s : OpenSpec} {k : (H : Type) → List (DataW H) → Bool} (hk : s.cond = some k) {F : Stop.Interp} {laid : List (String × DataW Unit)}
    (own : ownKnob C.prog.godebug = none) (started : os.Started) (noInit : C.prog.inits.idxOf? f = none) (hfn : C.prog.funcs[f]? = some fn)
    (hgb : globalsB C.prog = true) (hl : laidOutB C.prog = true) (hts : readB C.prog fn = true) (hv : s.vars = []) (hres : boolRes C.prog fn = true)
    (hspec : ∀ ds : List (DataW H), ds.length = fn.params.size → ((s.at F).fn H ds).results = [.lit (.bool true)] ∧ ((s.at F).fn H ds).args = ds ∧ ((s.at F).fn H ds).vars = [])
    (hva : (s.at F).vars = s.vars) (hh : (laid.filter fun x => x.2.handleName?.isSome) = [])
    (witness : ∃ (w : World) (tape : Tape) (i : Input), w.os = os ∧ (w.forCall tape i).Shaped C.prog ∧ i.vars = [] ∧ Input.okWide C.prog (w.forCall tape i) .any w.heap.size f i ∧
      s.preRow enc C.prog fn [] false laid (w.forCall tape i).memory i.args ∧ ({} : Assume).holds C.prog (lone (Frame.enter C.prog f i.args .normal) [] (w.forCall tape i)))
    (contract : ∀ (W : World) (base : Nat) (args : Array Value) (ds : List (DataW H)) (ps : List MemPlace), C.prog.globals.size ≤ W.heap.size →
      (∀ (j : Nat) t v, fn.params[j]? = some t → args[j]? = some v → Value.okWide C.prog W .any base t v) →
      DataW.TrodAll enc C.prog W 0 (fun _ => true) true fn.params.toList args.toList ds ps → k H ds = true → laidMet C.prog laid W → W.ShapedOpen C.prog → (DataW.weightsEach C.prog (fn.params.toList ++ s.bare.plain.varTypes C.prog) ds).all (· ≤ reachBytes) = true →
      Calls C.prog f args W fun e W' => e = .returned (.bool true) ∧ RowKit.Below W.heap.size W W') :
    ReturnsInHanded {} C os f .any (s.preRow enc C.prog fn [] false laid) ((s.at F).post enc C.prog fn false true false false) := by
  obtain ⟨tb, hres, hbool⟩ := boolRes_of hres
  have hts := readB_of hts
  refine returnsInHanded_of_row own started noInit hfn witness ?_
  intro W base args ds gs before hval hW _ hcond hwt hL hsh _
  have hL' : laidMet C.prog laid W := by
    unfold laidMetH at hL
    rw [hh] at hL
    exact hL
  have hW2 := hW
  obtain ⟨p, q, hA, hV, _⟩ := hW
  rw [hv] at hV
  obtain ⟨rfl, rfl⟩ := ChangeShapes.trodVars_none hV
  have hkk := hcond k hk
  rw [List.append_nil] at hkk hwt
  have hlen : ds.length = fn.params.size := by simpa using trodAll_len _ _ _ _ hA
  refine (contract W base args ds p (globals_there hgb hsh) hval hA hkk hL' hsh hwt).mono fun e W' ⟨he, hb⟩ => ?_
  subst he
  exact ⟨_, rfl, law_post hl hts (hva.trans hv) hres hbool (hva.symm ▸ hW2) (hspec ds hlen) hb⟩

end Go.Abs


namespace Go.Proofs.YtccbilfbhecdaaaDoor.Aw
open Go Go.Abs
set_option maxRecDepth 100000

def sort_Name_enc : Bool → Value
  | r0 => (Value.bool r0)

def sort_Name_hp (H : AH) : Bool → AH := fun _ => H

noncomputable def B13 : Code := (Tryd.f13.body).getD .skip

noncomputable def sort_Name_b0 (_L : LC) (a0 : ByteArray) : Int → Option (Lp Int Bool) := fun v24_3 =>
  if v24_3 < (a0.size : Int) then
    Option.bind (bytA a0 v24_3) fun x4 =>
    if x4 < 32 then
      none
    else
      Option.bind (bytA a0 v24_3) fun x5 =>
      if x5 > 126 then
        none
      else
        Option.bind (bytA a0 v24_3) fun x6 =>
        if x6 = 124 then
          none
        else
          Option.bind (bytA a0 v24_3) fun x7 =>
          if x7 = 92 then
            none
          else
            some (.next (IntKind.i64.wrap (v24_3 + 1)))
  else
    some (.brk v24_3)

def sort_Name_b0_kn (_L : LC) (a0 : ByteArray) : Int → KN := fun v24_3 => [(24, .val (Value.int .i64 v24_3)), (0, .val (Value.string a0)), (23, .val (Value.int .i64 (a0.size : Int)))]

def sort_Name_b0_ls (_L : LC) (_a0 : ByteArray) : Int → Lcs := fun _ => []

noncomputable def sort_Name (L : LC) (a0 : ByteArray) : Option Bool :=
  if (a0.size : Int) < 1 then
    none
  else
    if (a0.size : Int) > 200 then
      none
    else
      Option.bind (bytA a0 0) fun x1 =>
      if x1 = 64 then
        none
      else
        Option.bind (bytA a0 0) fun x2 =>
        if x2 = 46 then
          none
        else
          Option.bind (L.run (sort_Name_b0 L a0) 0) fun o => match o with
          | .inl _ =>
            some true
          | .inr r => some r

theorem sort_Name_b0_ok {ne : NE} {E : Ent} {m : Nat} {H : AH} {L : LC} {a0 : ByteArray}  : ∀ s o, sort_Name_b0 L a0 s = some o →
    WS Tryd.prog ne m E Tryd.f13.ntmps (cfst (cfst (csnd (cfst (csnd (csnd B13)))))) (sort_Name_b0_kn L a0 s) (sort_Name_b0_ls L a0 s) ((fun _ => H) s) (lpS Tryd.prog ne m E Tryd.f13.ntmps (sort_Name_b0_kn L a0) (sort_Name_b0_ls L a0) (fun _ => H) 0 (fun r => RT Tryd.prog ne m E Tryd.f13 (sort_Name_enc r) (sort_Name_hp H r)) o) := by
  rintro v24_3 o h
  unfold sort_Name_b0 at h
  try dsimp only at h
  refine WS.sq ?_
  refine WS.rg ?_
  refine RS.mS 1 [(25, .val (Value.bool (decide (v24_3 < (a0.size : Int)))))] ?_
  refine RS.dn ?_
  refine WS.nxt ?_
  refine WS.sq ?_
  rcases ite_some h with ⟨hp, h⟩ | ⟨hp, h⟩
  · refine WS.fx 25 true (decide_eq_true hp) ?_
    refine WS.cT ?_
    refine WS.sk ?_
    refine WS.nxt ?_
    refine WS.sq ?_
    refine WS.bk 1 ?_
    refine WS.sq ?_
    refine WS.rg ?_
    refine RS.mS 2 [(3, .val (Value.int .i64 v24_3)), (26, .val (Value.int .i64 v24_3))] ?_
    refine RS.dn ?_
    refine WS.nxt ?_
    refine WS.sq ?_
    refine WS.rg ?_
    refine RS.mS 2 [(28, .val (Value.int .i64 v24_3)), (27, .val (Value.string a0))] ?_
    obtain ⟨x4, hx, h⟩ := bind_some h
    refine RS.o (H' := H) (some 29) (Value.int .u8 x4) (Abs.run_byt (t := 9) (x := .tmp 27) (y := .tmp 28) (s := a0) (k := .i64) (i := v24_3) (by kernel_rfl) (by kernel_rfl) (by kernel_rfl) (by kernel_rfl) hx) ?_
    refine RS.mS 2 [(31, .val (Value.bool (decide (x4 < 32)))), (30, .val (Value.bool (decide (x4 < 32))))] ?_
    rcases ite_some h with ⟨hp, h⟩ | ⟨hp, h⟩
    · refine RS.fx 31 true (decide_eq_true hp) ?_
      cases h
    · refine RS.fx 31 false (decide_eq_false hp) ?_
      refine RS.mS 2 [(33, .val (Value.int .i64 v24_3)), (32, .val (Value.string a0))] ?_
      obtain ⟨x5, hx, h⟩ := bind_some h
      refine RS.o (H' := H) (some 34) (Value.int .u8 x5) (Abs.run_byt (t := 9) (x := .tmp 32) (y := .tmp 33) (s := a0) (k := .i64) (i := v24_3) (by kernel_rfl) (by kernel_rfl) (by kernel_rfl) (by kernel_rfl) hx) ?_
      refine RS.mS 3 [(37, .val (Value.bool (decide (x5 > 126)))), (36, .val (Value.bool (decide (x5 > 126)))), (35, .val (Value.bool (decide (x5 > 126))))] ?_
      rcases ite_some h with ⟨hp, h⟩ | ⟨hp, h⟩
      · refine RS.fx 37 true (decide_eq_true hp) ?_
        cases h
      · refine RS.fx 37 false (decide_eq_false hp) ?_
        refine RS.mS 2 [(39, .val (Value.int .i64 v24_3)), (38, .val (Value.string a0))] ?_
        obtain ⟨x6, hx, h⟩ := bind_some h
        refine RS.o (H' := H) (some 40) (Value.int .u8 x6) (Abs.run_byt (t := 9) (x := .tmp 38) (y := .tmp 39) (s := a0) (k := .i64) (i := v24_3) (by kernel_rfl) (by kernel_rfl) (by kernel_rfl) (by kernel_rfl) hx) ?_
        refine RS.mS 3 [(43, .val (Value.bool (decide (x6 = 124)))), (42, .val (Value.bool (decide (x6 = 124)))), (41, .val (Value.bool (decide (x6 = 124))))] ?_
        rcases ite_some h with ⟨hp, h⟩ | ⟨hp, h⟩
        · refine RS.fx 43 true (decide_eq_true hp) ?_
          cases h
        · refine RS.fx 43 false (decide_eq_false hp) ?_
          refine RS.mS 2 [(45, .val (Value.int .i64 v24_3)), (44, .val (Value.string a0))] ?_
          obtain ⟨x7, hx, h⟩ := bind_some h
          refine RS.o (H' := H) (some 46) (Value.int .u8 x7) (Abs.run_byt (t := 9) (x := .tmp 44) (y := .tmp 45) (s := a0) (k := .i64) (i := v24_3) (by kernel_rfl) (by kernel_rfl) (by kernel_rfl) (by kernel_rfl) hx) ?_
          refine RS.mS 2 [(48, .val (Value.bool (decide (x7 = 92)))), (47, .val (Value.bool (decide (x7 = 92))))] ?_
          refine RS.dn ?_
          refine WS.nxt ?_
          rcases ite_some h with ⟨hp, h⟩ | ⟨hp, h⟩
          · refine WS.fx 48 true (decide_eq_true hp) ?_
            refine WS.cT ?_
            cases h
          · refine WS.fx 48 false (decide_eq_false hp) ?_
            refine WS.cF ?_
            refine WS.sk ?_
            refine fun a w hs => bkN ((WS.nxt ?_ a w hs))
            refine WS.rg ?_
            refine RS.mS 2 [(24, .val (Value.int .i64 (IntKind.i64.wrap (v24_3 + 1)))), (49, .val (Value.int .i64 (IntKind.i64.wrap (v24_3 + 1))))] ?_
            refine RS.dn ?_
            cases h
            exact fun a w hs => lsN rfl (hs.sb 0)
  · refine WS.fx 25 false (decide_eq_false hp) ?_
    refine WS.cF ?_
    refine WS.ex 0 ?_
    cases h
    exact fun a w hs => sqE (lsB rfl (hs.sb 0))

theorem sort_Name_ok {L : LC} {ne : NE} {m : Nat} {H : AH} {a0 : ByteArray} {r : Bool} (h : sort_Name L a0 = some r) :
    CallS Tryd.prog ne m 13 #[(Value.string a0)] H (sort_Name_enc r) (sort_Name_hp H r) := by
  refine CallS.mk (args := [(Value.string a0)]) Tryd.func13 (B := B13) (by kernel_rfl) (fun E _ => ?_)
  unfold sort_Name at h
  refine WS.sq ?_
  refine WS.rg ?_
  refine RS.mS 1 [(2, .val (Value.bool false))] ?_
  refine RS.dn ?_
  refine WS.nxt ?_
  refine WS.sq ?_
  refine WS.sq ?_
  refine WS.rg ?_
  refine RS.mS 4 [(7, .val (Value.bool (decide ((a0.size : Int) < 1)))), (6, .val (Value.bool (decide ((a0.size : Int) < 1)))), (5, .val (Value.int .i64 (a0.size : Int))), (4, .val (Value.string a0))] ?_
  rcases ite_some h with ⟨hp, h⟩ | ⟨hp, h⟩
  · refine RS.fx 7 true (decide_eq_true hp) ?_
    cases h
  · refine RS.fx 7 false (decide_eq_false hp) ?_
    refine RS.mS 5 [(12, .val (Value.bool (decide ((a0.size : Int) > 200)))), (11, .val (Value.bool (decide ((a0.size : Int) > 200)))), (10, .val (Value.bool (decide ((a0.size : Int) > 200)))), (9, .val (Value.int .i64 (a0.size : Int))), (8, .val (Value.string a0))] ?_
    rcases ite_some h with ⟨hp, h⟩ | ⟨hp, h⟩
    · refine RS.fx 12 true (decide_eq_true hp) ?_
      cases h
    · refine RS.fx 12 false (decide_eq_false hp) ?_
      refine RS.mS 1 [(13, .val (Value.string a0))] ?_
      obtain ⟨x1, hx, h⟩ := bind_some h
      refine RS.o (H' := H) (some 14) (Value.int .u8 x1) (Abs.run_byt (t := 9) (x := .tmp 13) (y := .const (Value.int .i64 0)) (s := a0) (k := .i64) (i := 0) (by kernel_rfl) (by kernel_rfl) (by kernel_rfl) (by kernel_rfl) hx) ?_
      refine RS.mS 3 [(17, .val (Value.bool (decide (x1 = 64)))), (16, .val (Value.bool (decide (x1 = 64)))), (15, .val (Value.bool (decide (x1 = 64))))] ?_
      rcases ite_some h with ⟨hp, h⟩ | ⟨hp, h⟩
      · refine RS.fx 17 true (decide_eq_true hp) ?_
        cases h
      · refine RS.fx 17 false (decide_eq_false hp) ?_
        refine RS.mS 1 [(18, .val (Value.string a0))] ?_
        obtain ⟨x2, hx, h⟩ := bind_some h
        refine RS.o (H' := H) (some 19) (Value.int .u8 x2) (Abs.run_byt (t := 9) (x := .tmp 18) (y := .const (Value.int .i64 0)) (s := a0) (k := .i64) (i := 0) (by kernel_rfl) (by kernel_rfl) (by kernel_rfl) (by kernel_rfl) hx) ?_
        refine RS.mS 2 [(21, .val (Value.bool (decide (x2 = 46)))), (20, .val (Value.bool (decide (x2 = 46))))] ?_
        refine RS.dn ?_
        refine WS.nxt ?_
        rcases ite_some h with ⟨hp, h⟩ | ⟨hp, h⟩
        · refine WS.fx 21 true (decide_eq_true hp) ?_
          refine WS.cT ?_
          cases h
        · refine WS.fx 21 false (decide_eq_false hp) ?_
          refine WS.cF ?_
          refine WS.sk ?_
          refine WS.nxt ?_
          refine WS.sq ?_
          refine WS.sq ?_
          refine WS.rg ?_
          refine RS.mS 3 [(24, .val (Value.int .i64 0)), (23, .val (Value.int .i64 (a0.size : Int))), (22, .val (Value.string a0))] ?_
          refine RS.dn ?_
          refine WS.nxt ?_
          refine WS.bk 0 ?_
          obtain ⟨o, hl, h⟩ := bind_some h
          rcases o with v24_8 | r
          · try dsimp only at h
            refine WS.lI (sort_Name_b0_ok (ne := ne) (L := L) (E := E) (m := m) (H := H)) (L.ok hl) 0 ?_
            clear hl
            refine fun a w hs => bkE ((WS.nxt ?_ a w hs))
            refine WS.sq ?_
            refine WS.rg ?_
            refine RS.mS 1 [(2, .val (Value.bool true))] ?_
            refine RS.dn ?_
            refine WS.nxt ?_
            refine WS.rt ?_
            cases h
            exact fun a w hs => rtR (rS hs)
          · try dsimp only at h
            refine WS.lR (sort_Name_b0_ok (ne := ne) (L := L) (E := E) (m := m) (H := H)) (L.ok hl) 0 ?_
            cases h
            exact fun a w hq => bkR (sqR (rtR hq))

def sort_open_enc : ((Option Addr) × AH) → Value
  | (r0, _) => (Value.pointer r0)

def sort_open_hp (_ : AH) : ((Option Addr) × AH) → AH := fun r => r.2

noncomputable def B36 : Code := (Tryd.f36.body).getD .skip

noncomputable def sort_open_b0 (_L : LC) (a0_0 : Sl3) (_a0_1 : Sl3) (_a0_2 : Sl3) (_p3 : Addr) : (AH × Int) → Option (Lp (AH × Int) ((Option Addr) × AH)) := fun (H5, v17_6) =>
  if v17_6 < (a0_0.n : Int) then
    none
  else
    some (.brk (H5, v17_6))

def sort_open_b0_kn (_L : LC) (a0_0 : Sl3) (_a0_1 : Sl3) (_a0_2 : Sl3) (p3 : Addr) : (AH × Int) → KN := fun (_, v17_6) => [(17, .val (Value.int .i64 v17_6)), (1, .loc 0 0), (3, .val (Value.pointer (some p3))), (15, .val (Sl3.v a0_0)), (16, .val (Value.int .i64 (a0_0.n : Int)))]

def sort_open_b0_ls (_L : LC) (a0_0 : Sl3) (a0_1 : Sl3) (a0_2 : Sl3) (_p3 : Addr) : (AH × Int) → Lcs := fun (_, _) => [some (33, [(Sl3.v a0_0), (Sl3.v a0_1), (Sl3.v a0_2)])]

noncomputable def sort_open_b1 (_L : LC) (m : Nat) (_a0_0 : Sl3) (a0_1 : Sl3) (_a0_2 : Sl3) (p3 : Addr) : (AH × Int) → Option (Lp (AH × Int) ((Option Addr) × AH)) := fun (H9, v31_10) =>
  if v31_10 < (a0_1.n : Int) then
    Option.bind (idxA 2 a0_1 v31_10) fun p11 =>
    Option.bind (rd deS H9 (Addr.add p11 0)) fun x12_0 =>
    Option.bind (rd deSl H9 (Addr.add p11 1)) fun _ =>
    Option.bind (rd deM H9 (Addr.add p3 3)) fun x13 =>
    Option.bind (lkM Tryd.prog 94 (deI .i64) H9 x13 (Value.agg #[(Value.int .i64 6), (Value.string x12_0)])) fun (_, b15) =>
    if b15 = true then
      none
    else
      Option.bind (rd deM H9 (Addr.add p3 3)) fun x16 =>
      Option.bind (upM Tryd.prog m 94 H9 x16 (Value.agg #[(Value.int .i64 6), (Value.string x12_0)]) (Value.int .i64 v31_10)) fun H17 =>
      some (.next (H17, (IntKind.i64.wrap (v31_10 + 1))))
  else
    some (.brk (H9, v31_10))

def sort_open_b1_kn (_L : LC) (_m : Nat) (_a0_0 : Sl3) (a0_1 : Sl3) (_a0_2 : Sl3) (p3 : Addr) : (AH × Int) → KN := fun (_, v31_10) => [(31, .val (Value.int .i64 v31_10)), (3, .val (Value.pointer (some p3))), (29, .val (Sl3.v a0_1)), (30, .val (Value.int .i64 (a0_1.n : Int)))]

def sort_open_b1_ls (_L : LC) (_m : Nat) (a0_0 : Sl3) (a0_1 : Sl3) (a0_2 : Sl3) (_p3 : Addr) : (AH × Int) → Lcs := fun (_, _) => [some (33, [(Sl3.v a0_0), (Sl3.v a0_1), (Sl3.v a0_2)])]

noncomputable def sort_open (L : LC) (m : Nat) (H : AH) (a0_0 : Sl3) (a0_1 : Sl3) (a0_2 : Sl3) : Option ((Option Addr) × AH) :=
  Option.bind (newM H) fun (p1, H2) =>
  Option.bind (newB 96 [(Sl3.v a0_0), (Sl3.v a0_1), (Sl3.v a0_2), (Value.map (some p1))] H2) fun (p3, H4) =>
  Option.bind (L.run (sort_open_b0 L a0_0 a0_1 a0_2 p3) (H4, 0)) fun o => match o with
  | .inl (H7, _) =>
    Option.bind (L.run (sort_open_b1 L m a0_0 a0_1 a0_2 p3) (H7, 0)) fun o => match o with
    | .inl (H18, _) =>
      some ((some p3), H18)
    | .inr r => some r
  | .inr r => some r

theorem sort_open_b0_ok {ne : NE} {E : Ent} {m : Nat} {H : AH} {L : LC} {a0_0 : Sl3} {a0_1 : Sl3} {a0_2 : Sl3} {p3 : Addr}  : ∀ s o, sort_open_b0 L a0_0 a0_1 a0_2 p3 s = some o →
    WS Tryd.prog ne m E Tryd.f36.ntmps (cfst (cfst (csnd (cfst (csnd (csnd B36)))))) (sort_open_b0_kn L a0_0 a0_1 a0_2 p3 s) (sort_open_b0_ls L a0_0 a0_1 a0_2 p3 s) ((fun s => s.1) s) (lpS Tryd.prog ne m E Tryd.f36.ntmps (sort_open_b0_kn L a0_0 a0_1 a0_2 p3) (sort_open_b0_ls L a0_0 a0_1 a0_2 p3) (fun s => s.1) 0 (fun r => RT Tryd.prog ne m E Tryd.f36 (sort_open_enc r) (sort_open_hp H r)) o) := by
  rintro ⟨H5, v17_6⟩ o h
  unfold sort_open_b0 at h
  try dsimp only at h
  refine WS.sq ?_
  refine WS.rg ?_
  refine RS.mS 1 [(18, .val (Value.bool (decide (v17_6 < (a0_0.n : Int)))))] ?_
  refine RS.dn ?_
  refine WS.nxt ?_
  refine WS.sq ?_
  rcases ite_some h with ⟨hp, h⟩ | ⟨hp, h⟩
  · refine WS.fx 18 true (decide_eq_true hp) ?_
    refine WS.cT ?_
    cases h
  · refine WS.fx 18 false (decide_eq_false hp) ?_
    refine WS.cF ?_
    refine WS.ex 0 ?_
    cases h
    exact fun a w hs => sqE (lsB rfl (hs.sb 1))

theorem sort_open_b1_ok {ne : NE} {E : Ent} {H : AH} {L : LC} {m : Nat} {a0_0 : Sl3} {a0_1 : Sl3} {a0_2 : Sl3} {p3 : Addr}  : ∀ s o, sort_open_b1 L m a0_0 a0_1 a0_2 p3 s = some o →
    WS Tryd.prog ne m E Tryd.f36.ntmps (cfst (cfst (csnd (cfst (csnd (csnd (csnd B36))))))) (sort_open_b1_kn L m a0_0 a0_1 a0_2 p3 s) (sort_open_b1_ls L m a0_0 a0_1 a0_2 p3 s) ((fun s => s.1) s) (lpS Tryd.prog ne m E Tryd.f36.ntmps (sort_open_b1_kn L m a0_0 a0_1 a0_2 p3) (sort_open_b1_ls L m a0_0 a0_1 a0_2 p3) (fun s => s.1) 2 (fun r => RT Tryd.prog ne m E Tryd.f36 (sort_open_enc r) (sort_open_hp H r)) o) := by
  rintro ⟨H9, v31_10⟩ o h
  unfold sort_open_b1 at h
  try dsimp only at h
  refine WS.sq ?_
  refine WS.rg ?_
  refine RS.mS 1 [(32, .val (Value.bool (decide (v31_10 < (a0_1.n : Int)))))] ?_
  refine RS.dn ?_
  refine WS.nxt ?_
  refine WS.sq ?_
  rcases ite_some h with ⟨hp, h⟩ | ⟨hp, h⟩
  · refine WS.fx 32 true (decide_eq_true hp) ?_
    refine WS.cT ?_
    refine WS.sk ?_
    refine WS.nxt ?_
    refine WS.sq ?_
    refine WS.bk 3 ?_
    refine WS.sq ?_
    refine WS.rg ?_
    refine RS.mS 1 [(33, .val (Value.int .i64 v31_10))] ?_
    obtain ⟨p11, hx, h⟩ := bind_some h
    refine RS.o (H' := H9) (some 34) (Value.pointer (some p11)) (Abs.run_idx (s := a0_1) (k := .i64) (t := 30) (e := 46) (x := .tmp 29) (y := .tmp 31) (by kernel_rfl) (by kernel_rfl) (by kernel_rfl) (by kernel_rfl) (by kernel_rfl) hx) ?_
    obtain ⟨x12_0, hx0, h⟩ := bind_some h
    obtain ⟨x12_1, hx1, h⟩ := bind_some h
    refine RS.o (H' := H9) (some 35) (Value.agg #[(Value.string x12_0), (Sl3.v x12_1)]) (Abs.run_loadAg (t := 46) (x := .tmp 34) (a := p11) (k := 2) (by kernel_rfl) (by kernel_rfl) (by kernel_rfl) (by kernel_rfl) (rdc_cons (rd_cell hx0 deS_inv) (rdc_cons (rd_cell hx1 deSl_inv) rdc_nil))) ?_
    refine RS.mL 3 [(6, .val (Value.int .i64 v31_10)), (7, .loc 1 0)] ([some (33, [(Sl3.v a0_0), (Sl3.v a0_1), (Sl3.v a0_2)]), some (46, [(Value.string x12_0), (Sl3.v x12_1)])]) ?_
    refine RS.dn ?_
    refine WS.nxt ?_
    refine WS.sq ?_
    refine WS.dr [0, 1, 2, 3, 4, 5, 6, 7] [0, 1, 3, 7, 0, 16, 48, 127, 255, 511, 511, 1023, 4095] 13 (fun hcl => ?_)
    refine DA.tK 0 (some 37) (Value.pointer (some p3)) ?_
    refine DA.tK 1 (some 38) (Value.pointer (some p3)) ?_
    refine DA.tK 2 (some 39) (Value.pointer (some (Addr.add p3 3))) ?_
    obtain ⟨x13, hx, h⟩ := bind_some h
    refine DA.tD 3 (some 40) (Value.map x13) (Abs.det_load (t := 94) (x := .tmp 39) (a := (Addr.add p3 3)) (by kernel_rfl) (by kernel_rfl) (by kernel_rfl) (by kernel_rfl) (rd_cell hx deM_inv)) ?_
    refine DA.tL 4 (some 41) (.loc 1 0) ?_
    refine DA.tL 5 (some 42) (.val (Value.string x12_0)) ?_
    refine DA.tK 6 (some 43) (Value.agg #[(Value.int .i64 6), (Value.string x12_0)]) ?_
    obtain ⟨⟨x14, b15⟩, hx, h⟩ := bind_some h
    try dsimp only at h
    refine DA.tD 7 (some 44) (Value.tuple #[(Value.int .i64 x14), (Value.bool b15)]) (Abs.det_look (t := 94) (x := .tmp 40) (y := .tmp 43) (mm := x13) (k := (Value.agg #[(Value.int .i64 6), (Value.string x12_0)])) (by kernel_rfl) (by kernel_rfl) (by kernel_rfl) (by kernel_rfl) (lkM_eq hx deI_inv)) ?_
    refine DA.tP 8 (some 36) (Value.tuple #[(Value.int .i64 x14), (Value.bool b15)]) ?_
    refine DA.tP 9 (some 45) (Value.int .i64 x14) ?_
    refine DA.tP 10 (some 46) (Value.bool b15) ?_
    refine DA.tP 11 (some 8) (Value.int .i64 x14) ?_
    refine DA.tP 12 (some 9) (Value.bool b15) ?_
    refine DA.dn ?_
    refine WS.nxt ?_
    refine WS.sq ?_
    refine WS.rg ?_
    refine RS.mS 2 [(48, .val (Value.bool (!b15))), (47, .val (Value.bool b15))] ?_
    refine RS.dn ?_
    refine WS.nxt ?_
    rcases ite_some h with ⟨hp, h⟩ | ⟨hp, h⟩
    · refine WS.fx 48 false (nb_not hp) ?_
      refine WS.cF ?_
      cases h
    · refine WS.fx 48 true (nb_not' hp) ?_
      refine WS.cT ?_
      refine WS.dr [0, 1, 2, 3, 4, 5] [0, 1, 3, 7, 0, 16, 48, 0, 255] 9 (fun hcl => ?_)
      refine DA.tK 0 (some 49) (Value.pointer (some p3)) ?_
      refine DA.tK 1 (some 50) (Value.pointer (some p3)) ?_
      refine DA.tK 2 (some 51) (Value.pointer (some (Addr.add p3 3))) ?_
      obtain ⟨x16, hx, h⟩ := bind_some h
      refine DA.tD 3 (some 52) (Value.map x16) (Abs.det_load (t := 94) (x := .tmp 51) (a := (Addr.add p3 3)) (by kernel_rfl) (by kernel_rfl) (by kernel_rfl) (by kernel_rfl) (rd_cell hx deM_inv)) ?_
      refine DA.tL 4 (some 53) (.loc 1 0) ?_
      refine DA.tL 5 (some 54) (.val (Value.string x12_0)) ?_
      refine DA.tP 7 (some 56) (Value.int .i64 v31_10) ?_
      refine DA.on 6 ?_
      refine DA.aHk (H' := H9) 6 (some 55) false (Value.agg #[(Value.int .i64 6), (Value.string x12_0)]) (by kernel_rfl) ?_
      obtain ⟨H17, hx, h⟩ := bind_some h
      refine DA.on 8 ?_
      refine DA.aH (H' := H17) 8 none undef (Abs.run_upM (t := 94) (x := .tmp 52) (y := .tmp 55) (z := .tmp 56) (mm := x16) (k := (Value.agg #[(Value.int .i64 6), (Value.string x12_0)])) (v := (Value.int .i64 v31_10)) (by kernel_rfl) (by kernel_rfl) (by kernel_rfl) (by kernel_rfl) (by kernel_rfl) hx) ?_
      refine DA.dn ?_
      refine fun a w hs => bkN ((WS.nxt ?_ a w hs))
      refine WS.rg ?_
      refine RS.mS 2 [(31, .val (Value.int .i64 (IntKind.i64.wrap (v31_10 + 1)))), (57, .val (Value.int .i64 (IntKind.i64.wrap (v31_10 + 1))))] ?_
      refine RS.dn ?_
      cases h
      exact fun a w hs => lsN rfl (hs.sb 1)
  · refine WS.fx 32 false (decide_eq_false hp) ?_
    refine WS.cF ?_
    refine WS.ex 2 ?_
    cases h
    exact fun a w hs => sqE (lsB rfl (hs.sb 1))

theorem sort_open_ok {L : LC} {ne : NE} {m : Nat} {H : AH} {a0_0 : Sl3} {a0_1 : Sl3} {a0_2 : Sl3} {r : ((Option Addr) × AH)} (h : sort_open L m H a0_0 a0_1 a0_2 = some r) :
    CallS Tryd.prog ne m 36 #[(Value.agg #[(Sl3.v a0_0), (Sl3.v a0_1), (Sl3.v a0_2)])] H (sort_open_enc r) (sort_open_hp H r) := by
  refine CallS.mk (args := [(Value.agg #[(Sl3.v a0_0), (Sl3.v a0_1), (Sl3.v a0_2)])]) Tryd.func36 (B := B36) (by kernel_rfl) (fun E _ => ?_)
  unfold sort_open at h
  refine WS.sq ?_
  refine WS.rg ?_
  refine RS.mL 2 [(2, .val (Value.pointer none)), (1, .loc 0 0)] ([some (33, [(Sl3.v a0_0), (Sl3.v a0_1), (Sl3.v a0_2)])]) ?_
  refine RS.dn ?_
  refine WS.nxt ?_
  refine WS.sq ?_
  refine WS.rg ?_
  refine RS.mS 1 [(10, .val (Value.agg #[(Sl3.v a0_0), (Sl3.v a0_1), (Sl3.v a0_2)]))] ?_
  obtain ⟨⟨p1, H2⟩, hx, h⟩ := bind_some h
  try dsimp only at h
  refine RS.o (H' := H2) (some 11) (Value.map (some p1)) (Abs.run_newM (by kernel_rfl) hx) ?_
  refine RS.mS 1 [(12, .val (Value.agg #[(Sl3.v a0_0), (Sl3.v a0_1), (Sl3.v a0_2), (Value.map (some p1))]))] ?_
  obtain ⟨⟨p3, H4⟩, hx, h⟩ := bind_some h
  try dsimp only at h
  refine RS.o (H' := H4) (some 13) (Value.pointer (some p3)) (Abs.run_newB (by kernel_rfl) hx) ?_
  refine RS.mS 1 [(3, .val (Value.pointer (some p3)))] ?_
  refine RS.dn ?_
  refine WS.nxt ?_
  refine WS.sq ?_
  refine WS.sq ?_
  refine WS.rg ?_
  refine RS.mS 4 [(17, .val (Value.int .i64 0)), (16, .val (Value.int .i64 (a0_0.n : Int))), (15, .val (Sl3.v a0_0)), (14, .loc 0 0)] ?_
  refine RS.dn ?_
  refine WS.nxt ?_
  refine WS.bk 0 ?_
  obtain ⟨o, hl, h⟩ := bind_some h
  rcases o with ⟨H7, v17_8⟩ | r
  · try dsimp only at h
    refine WS.lI (sort_open_b0_ok (ne := ne) (L := L) (E := E) (m := m) (H := H)) (L.ok hl) 1 ?_
    clear hl
    refine fun a w hs => bkE ((WS.nxt ?_ a w hs))
    refine WS.sq ?_
    refine WS.sq ?_
    refine WS.rg ?_
    refine RS.mS 4 [(31, .val (Value.int .i64 0)), (30, .val (Value.int .i64 (a0_1.n : Int))), (29, .val (Sl3.v a0_1)), (28, .loc 0 1)] ?_
    refine RS.dn ?_
    refine WS.nxt ?_
    refine WS.bk 2 ?_
    obtain ⟨o, hl, h⟩ := bind_some h
    rcases o with ⟨H18, v31_19⟩ | r
    · try dsimp only at h
      refine WS.lI (sort_open_b1_ok (ne := ne) (L := L) (E := E) (m := m) (H := H)) (L.ok hl) 1 ?_
      clear hl
      refine fun a w hs => bkE ((WS.nxt ?_ a w hs))
      refine WS.sq ?_
      refine WS.rg ?_
      refine RS.mS 2 [(2, .val (Value.pointer (some p3))), (58, .val (Value.pointer (some p3)))] ?_
      refine RS.dn ?_
      refine WS.nxt ?_
      refine WS.rt ?_
      cases h
      exact fun a w hs => rtR (rS hs)
    · try dsimp only at h
      refine WS.lR (sort_open_b1_ok (ne := ne) (L := L) (E := E) (m := m) (H := H)) (L.ok hl) 1 ?_
      cases h
      exact fun a w hq => bkR (sqR (rtR hq))
  · try dsimp only at h
    refine WS.lR (sort_open_b0_ok (ne := ne) (L := L) (E := E) (m := m) (H := H)) (L.ok hl) 1 ?_
    cases h
    exact fun a w hq => bkR (sqR (rtR hq))

def sort_many_enc : Bool → Value
  | r0 => (Value.bool r0)

def sort_many_hp (H : AH) : Bool → AH := fun _ => H

noncomputable def B40 : Code := (Tryd.f40.body).getD .skip

noncomputable def sort_many_b1 (_L : LC) (H : AH) (_a0_0 : Sl3) (_a0_1 : Sl3) (_a0_2 : Sl3) (_v24_2 : Int) (_x4_0 : ByteArray) (x4_1 : Sl3) : (Int × Int) → Option (Lp (Int × Int) Bool) := fun (v3_5, v46_6) =>
  if v46_6 < (x4_1.n : Int) then
    Option.bind (idxA 2 x4_1 v46_6) fun p7 =>
    Option.bind (rd deS H (Addr.add p7 0)) fun _ =>
    Option.bind (rd deSl H (Addr.add p7 1)) fun x8_1 =>
    if (x8_1.n : Int) > 64 then
      none
    else
      some (.next ((IntKind.i64.wrap (v3_5 + (x8_1.n : Int))), (IntKind.i64.wrap (v46_6 + 1))))
  else
    some (.brk (v3_5, v46_6))

def sort_many_b1_kn (_L : LC) (_H : AH) (_a0_0 : Sl3) (a0_1 : Sl3) (_a0_2 : Sl3) (v24_2 : Int) (_x4_0 : ByteArray) (x4_1 : Sl3) : (Int × Int) → KN := fun (v3_5, v46_6) => [(3, .val (Value.int .i64 v3_5)), (46, .val (Value.int .i64 v46_6)), (1, .loc 0 0), (22, .val (Sl3.v a0_1)), (23, .val (Value.int .i64 (a0_1.n : Int))), (24, .val (Value.int .i64 v24_2)), (44, .val (Sl3.v x4_1)), (45, .val (Value.int .i64 (x4_1.n : Int)))]

def sort_many_b1_ls (_L : LC) (_H : AH) (a0_0 : Sl3) (a0_1 : Sl3) (a0_2 : Sl3) (_v24_2 : Int) (x4_0 : ByteArray) (x4_1 : Sl3) : (Int × Int) → Lcs := fun (_, _) => [some (33, [(Sl3.v a0_0), (Sl3.v a0_1), (Sl3.v a0_2)]), some (46, [(Value.string x4_0), (Sl3.v x4_1)])]

noncomputable def sort_many_b0 (L : LC) (H : AH) (a0_0 : Sl3) (a0_1 : Sl3) (a0_2 : Sl3) : (Int × Int) → Option (Lp (Int × Int) Bool) := fun (v3_1, v24_2) =>
  if v24_2 < (a0_1.n : Int) then
    Option.bind (idxA 2 a0_1 v24_2) fun p3 =>
    Option.bind (rd deS H (Addr.add p3 0)) fun x4_0 =>
    Option.bind (rd deSl H (Addr.add p3 1)) fun x4_1 =>
    if (x4_1.n : Int) < 1 then
      none
    else
      if (x4_1.n : Int) > 64 then
        none
      else
        Option.bind (L.run (sort_many_b1 L H a0_0 a0_1 a0_2 v24_2 x4_0 x4_1) ((IntKind.i64.wrap (v3_1 + (x4_1.n : Int))), 0)) fun o => match o with
        | .inl (v3_9, _) =>
          some (.next (v3_9, (IntKind.i64.wrap (v24_2 + 1))))
        | .inr r => some (.ret r)
  else
    some (.brk (v3_1, v24_2))

def sort_many_b0_kn (_L : LC) (_H : AH) (_a0_0 : Sl3) (a0_1 : Sl3) (_a0_2 : Sl3) : (Int × Int) → KN := fun (v3_1, v24_2) => [(3, .val (Value.int .i64 v3_1)), (24, .val (Value.int .i64 v24_2)), (1, .loc 0 0), (22, .val (Sl3.v a0_1)), (23, .val (Value.int .i64 (a0_1.n : Int)))]

def sort_many_b0_ls (_L : LC) (_H : AH) (a0_0 : Sl3) (a0_1 : Sl3) (a0_2 : Sl3) : (Int × Int) → Lcs := fun (_, _) => [some (33, [(Sl3.v a0_0), (Sl3.v a0_1), (Sl3.v a0_2)])]

noncomputable def sort_many_b2 (_L : LC) (_H : AH) (_a0_0 : Sl3) (_a0_1 : Sl3) (a0_2 : Sl3) (_v3_11 : Int) : Int → Option (Lp Int Bool) := fun v64_13 =>
  if v64_13 < (a0_2.n : Int) then
    none
  else
    some (.brk v64_13)

def sort_many_b2_kn (_L : LC) (_H : AH) (_a0_0 : Sl3) (_a0_1 : Sl3) (a0_2 : Sl3) (v3_11 : Int) : Int → KN := fun v64_13 => [(64, .val (Value.int .i64 v64_13)), (3, .val (Value.int .i64 v3_11)), (62, .val (Sl3.v a0_2)), (63, .val (Value.int .i64 (a0_2.n : Int)))]

def sort_many_b2_ls (_L : LC) (_H : AH) (a0_0 : Sl3) (a0_1 : Sl3) (a0_2 : Sl3) (_v3_11 : Int) : Int → Lcs := fun _ => [some (33, [(Sl3.v a0_0), (Sl3.v a0_1), (Sl3.v a0_2)])]

noncomputable def sort_many (L : LC) (H : AH) (a0_0 : Sl3) (a0_1 : Sl3) (a0_2 : Sl3) : Option Bool :=
  Option.bind (L.run (sort_many_b0 L H a0_0 a0_1 a0_2) ((IntKind.i64.wrap ((IntKind.i64.wrap ((a0_0.n : Int) + (a0_1.n : Int))) + (a0_2.n : Int))), 0)) fun o => match o with
  | .inl (v3_11, _) =>
    Option.bind (L.run (sort_many_b2 L H a0_0 a0_1 a0_2 v3_11) 0) fun o => match o with
    | .inl _ =>
      some (decide (v3_11 > 4096))
    | .inr r => some r
  | .inr r => some r

theorem sort_many_b1_ok {ne : NE} {E : Ent} {m : Nat} {L : LC} {H : AH} {a0_0 : Sl3} {a0_1 : Sl3} {a0_2 : Sl3} {v24_2 : Int} {x4_0 : ByteArray} {x4_1 : Sl3}  : ∀ s o, sort_many_b1 L H a0_0 a0_1 a0_2 v24_2 x4_0 x4_1 s = some o →
    WS Tryd.prog ne m E Tryd.f40.ntmps (cfst (cfst (csnd (csnd (csnd (cfst (cfst (csnd (csnd (cfst (cfst (csnd (cfst (csnd (csnd B40))))))))))))))) (sort_many_b1_kn L H a0_0 a0_1 a0_2 v24_2 x4_0 x4_1 s) (sort_many_b1_ls L H a0_0 a0_1 a0_2 v24_2 x4_0 x4_1 s) ((fun _ => H) s) (lpS Tryd.prog ne m E Tryd.f40.ntmps (sort_many_b1_kn L H a0_0 a0_1 a0_2 v24_2 x4_0 x4_1) (sort_many_b1_ls L H a0_0 a0_1 a0_2 v24_2 x4_0 x4_1) (fun _ => H) 2 (fun r => RT Tryd.prog ne m E Tryd.f40 (sort_many_enc r) (sort_many_hp H r)) o) := by
  rintro ⟨v3_5, v46_6⟩ o h
  unfold sort_many_b1 at h
  try dsimp only at h
  refine WS.sq ?_
  refine WS.rg ?_
  refine RS.mS 1 [(47, .val (Value.bool (decide (v46_6 < (x4_1.n : Int)))))] ?_
  refine RS.dn ?_
  refine WS.nxt ?_
  refine WS.sq ?_
  rcases ite_some h with ⟨hp, h⟩ | ⟨hp, h⟩
  · refine WS.fx 47 true (decide_eq_true hp) ?_
    refine WS.cT ?_
    refine WS.sk ?_
    refine WS.nxt ?_
    refine WS.sq ?_
    refine WS.bk 3 ?_
    refine WS.sq ?_
    refine WS.rg ?_
    obtain ⟨p7, hx, h⟩ := bind_some h
    refine RS.o (H' := H) (some 48) (Value.pointer (some p7)) (Abs.run_idx (s := x4_1) (k := .i64) (t := 44) (e := 50) (x := .tmp 44) (y := .tmp 46) (by kernel_rfl) (by kernel_rfl) (by kernel_rfl) (by kernel_rfl) (by kernel_rfl) hx) ?_
    obtain ⟨x8_0, hx0, h⟩ := bind_some h
    obtain ⟨x8_1, hx1, h⟩ := bind_some h
    refine RS.o (H' := H) (some 49) (Value.agg #[(Value.string x8_0), (Sl3.v x8_1)]) (Abs.run_loadAg (t := 50) (x := .tmp 48) (a := p7) (k := 2) (by kernel_rfl) (by kernel_rfl) (by kernel_rfl) (by kernel_rfl) (rdc_cons (rd_cell hx0 deS_inv) (rdc_cons (rd_cell hx1 deSl_inv) rdc_nil))) ?_
    refine RS.mL 2 [(7, .loc 2 0)] ([some (33, [(Sl3.v a0_0), (Sl3.v a0_1), (Sl3.v a0_2)]), some (46, [(Value.string x4_0), (Sl3.v x4_1)]), some (50, [(Value.string x8_0), (Sl3.v x8_1)])]) ?_
    refine RS.dn ?_
    refine WS.nxt ?_
    refine WS.sq ?_
    refine WS.rg ?_
    refine RS.mS 6 [(3, .val (Value.int .i64 (IntKind.i64.wrap (v3_5 + (x8_1.n : Int))))), (54, .val (Value.int .i64 (IntKind.i64.wrap (v3_5 + (x8_1.n : Int))))), (53, .val (Value.int .i64 (x8_1.n : Int))), (52, .val (Sl3.v x8_1)), (51, .loc 2 1), (50, .val (Value.int .i64 v3_5))] ?_
    refine RS.dn ?_
    refine WS.nxt ?_
    refine WS.sq ?_
    refine WS.rg ?_
    refine RS.mS 4 [(58, .val (Value.bool (decide ((x8_1.n : Int) > 64)))), (57, .val (Value.int .i64 (x8_1.n : Int))), (56, .val (Sl3.v x8_1)), (55, .loc 2 1)] ?_
    refine RS.dn ?_
    refine WS.nxt ?_
    rcases ite_some h with ⟨hp, h⟩ | ⟨hp, h⟩
    · refine WS.fx 58 true (decide_eq_true hp) ?_
      refine WS.cT ?_
      cases h
    · refine WS.fx 58 false (decide_eq_false hp) ?_
      refine WS.cF ?_
      refine WS.sk ?_
      refine fun a w hs => bkN ((WS.nxt ?_ a w hs))
      refine WS.rg ?_
      refine RS.mS 2 [(46, .val (Value.int .i64 (IntKind.i64.wrap (v46_6 + 1)))), (59, .val (Value.int .i64 (IntKind.i64.wrap (v46_6 + 1))))] ?_
      refine RS.dn ?_
      cases h
      exact fun a w hs => lsN rfl (hs.sb 2)
  · refine WS.fx 47 false (decide_eq_false hp) ?_
    refine WS.cF ?_
    refine WS.ex 2 ?_
    cases h
    exact fun a w hs => sqE (lsB rfl (hs.sb 2))

theorem sort_many_b0_ok {ne : NE} {E : Ent} {m : Nat} {L : LC} {H : AH} {a0_0 : Sl3} {a0_1 : Sl3} {a0_2 : Sl3}  : ∀ s o, sort_many_b0 L H a0_0 a0_1 a0_2 s = some o →
    WS Tryd.prog ne m E Tryd.f40.ntmps (cfst (cfst (csnd (cfst (csnd (csnd B40)))))) (sort_many_b0_kn L H a0_0 a0_1 a0_2 s) (sort_many_b0_ls L H a0_0 a0_1 a0_2 s) ((fun _ => H) s) (lpS Tryd.prog ne m E Tryd.f40.ntmps (sort_many_b0_kn L H a0_0 a0_1 a0_2) (sort_many_b0_ls L H a0_0 a0_1 a0_2) (fun _ => H) 0 (fun r => RT Tryd.prog ne m E Tryd.f40 (sort_many_enc r) (sort_many_hp H r)) o) := by
  rintro ⟨v3_1, v24_2⟩ o h
  unfold sort_many_b0 at h
  try dsimp only at h
  refine WS.sq ?_
  refine WS.rg ?_
  refine RS.mS 1 [(25, .val (Value.bool (decide (v24_2 < (a0_1.n : Int)))))] ?_
  refine RS.dn ?_
  refine WS.nxt ?_
  refine WS.sq ?_
  rcases ite_some h with ⟨hp, h⟩ | ⟨hp, h⟩
  · refine WS.fx 25 true (decide_eq_true hp) ?_
    refine WS.cT ?_
    refine WS.sk ?_
    refine WS.nxt ?_
    refine WS.sq ?_
    refine WS.bk 1 ?_
    refine WS.sq ?_
    refine WS.rg ?_
    obtain ⟨p3, hx, h⟩ := bind_some h
    refine RS.o (H' := H) (some 26) (Value.pointer (some p3)) (Abs.run_idx (s := a0_1) (k := .i64) (t := 30) (e := 46) (x := .tmp 22) (y := .tmp 24) (by kernel_rfl) (by kernel_rfl) (by kernel_rfl) (by kernel_rfl) (by kernel_rfl) hx) ?_
    obtain ⟨x4_0, hx0, h⟩ := bind_some h
    obtain ⟨x4_1, hx1, h⟩ := bind_some h
    refine RS.o (H' := H) (some 27) (Value.agg #[(Value.string x4_0), (Sl3.v x4_1)]) (Abs.run_loadAg (t := 46) (x := .tmp 26) (a := p3) (k := 2) (by kernel_rfl) (by kernel_rfl) (by kernel_rfl) (by kernel_rfl) (rdc_cons (rd_cell hx0 deS_inv) (rdc_cons (rd_cell hx1 deSl_inv) rdc_nil))) ?_
    refine RS.mL 2 [(5, .loc 1 0)] ([some (33, [(Sl3.v a0_0), (Sl3.v a0_1), (Sl3.v a0_2)]), some (46, [(Value.string x4_0), (Sl3.v x4_1)])]) ?_
    refine RS.dn ?_
    refine WS.nxt ?_
    refine WS.sq ?_
    refine WS.sq ?_
    refine WS.rg ?_
    refine RS.mS 6 [(3, .val (Value.int .i64 (IntKind.i64.wrap (v3_1 + (x4_1.n : Int))))), (32, .val (Value.int .i64 (IntKind.i64.wrap (v3_1 + (x4_1.n : Int))))), (31, .val (Value.int .i64 (x4_1.n : Int))), (30, .val (Sl3.v x4_1)), (29, .loc 1 1), (28, .val (Value.int .i64 v3_1))] ?_
    refine RS.dn ?_
    refine WS.nxt ?_
    refine WS.sq ?_
    refine WS.rg ?_
    refine RS.mS 5 [(37, .val (Value.bool (decide ((x4_1.n : Int) < 1)))), (36, .val (Value.bool (decide ((x4_1.n : Int) < 1)))), (35, .val (Value.int .i64 (x4_1.n : Int))), (34, .val (Sl3.v x4_1)), (33, .loc 1 1)] ?_
    rcases ite_some h with ⟨hp, h⟩ | ⟨hp, h⟩
    · refine RS.fx 37 true (decide_eq_true hp) ?_
      cases h
    · refine RS.fx 37 false (decide_eq_false hp) ?_
      refine RS.mS 5 [(42, .val (Value.bool (decide ((x4_1.n : Int) > 64)))), (41, .val (Value.bool (decide ((x4_1.n : Int) > 64)))), (40, .val (Value.int .i64 (x4_1.n : Int))), (39, .val (Sl3.v x4_1)), (38, .loc 1 1)] ?_
      refine RS.dn ?_
      refine WS.nxt ?_
      rcases ite_some h with ⟨hp, h⟩ | ⟨hp, h⟩
      · refine WS.fx 42 true (decide_eq_true hp) ?_
        refine WS.cT ?_
        cases h
      · refine WS.fx 42 false (decide_eq_false hp) ?_
        refine WS.cF ?_
        refine WS.sk ?_
        refine WS.nxt ?_
        refine WS.sq ?_
        refine WS.rg ?_
        refine RS.mS 4 [(46, .val (Value.int .i64 0)), (45, .val (Value.int .i64 (x4_1.n : Int))), (44, .val (Sl3.v x4_1)), (43, .loc 1 1)] ?_
        refine RS.dn ?_
        refine WS.nxt ?_
        refine WS.bk 2 ?_
        obtain ⟨o, hl, h⟩ := bind_some h
        rcases o with ⟨v3_9, v46_10⟩ | r
        · try dsimp only at h
          refine WS.lI (sort_many_b1_ok (ne := ne) (L := L) (E := E) (m := m) (H := H)) (L.ok hl) 2 ?_
          clear hl
          refine fun a w hs => bkE (bkN ((WS.nxt ?_ a w hs)))
          refine WS.rg ?_
          refine RS.mS 2 [(24, .val (Value.int .i64 (IntKind.i64.wrap (v24_2 + 1)))), (60, .val (Value.int .i64 (IntKind.i64.wrap (v24_2 + 1))))] ?_
          refine RS.dn ?_
          cases h
          exact fun a w hs => lsN rfl (hs.sb 1)
        · try dsimp only at h
          refine WS.lR (sort_many_b1_ok (ne := ne) (L := L) (E := E) (m := m) (H := H)) (L.ok hl) 2 ?_
          cases h
          exact fun a w hq => bkR (bkR (sqR (lsR rfl hq)))
  · refine WS.fx 25 false (decide_eq_false hp) ?_
    refine WS.cF ?_
    refine WS.ex 0 ?_
    cases h
    exact fun a w hs => sqE (lsB rfl (hs.sb 1))

theorem sort_many_b2_ok {ne : NE} {E : Ent} {m : Nat} {L : LC} {H : AH} {a0_0 : Sl3} {a0_1 : Sl3} {a0_2 : Sl3} {v3_11 : Int}  : ∀ s o, sort_many_b2 L H a0_0 a0_1 a0_2 v3_11 s = some o →
    WS Tryd.prog ne m E Tryd.f40.ntmps (cfst (cfst (csnd (cfst (csnd (csnd (csnd B40))))))) (sort_many_b2_kn L H a0_0 a0_1 a0_2 v3_11 s) (sort_many_b2_ls L H a0_0 a0_1 a0_2 v3_11 s) ((fun _ => H) s) (lpS Tryd.prog ne m E Tryd.f40.ntmps (sort_many_b2_kn L H a0_0 a0_1 a0_2 v3_11) (sort_many_b2_ls L H a0_0 a0_1 a0_2 v3_11) (fun _ => H) 4 (fun r => RT Tryd.prog ne m E Tryd.f40 (sort_many_enc r) (sort_many_hp H r)) o) := by
  rintro v64_13 o h
  unfold sort_many_b2 at h
  try dsimp only at h
  refine WS.sq ?_
  refine WS.rg ?_
  refine RS.mS 1 [(65, .val (Value.bool (decide (v64_13 < (a0_2.n : Int)))))] ?_
  refine RS.dn ?_
  refine WS.nxt ?_
  refine WS.sq ?_
  rcases ite_some h with ⟨hp, h⟩ | ⟨hp, h⟩
  · refine WS.fx 65 true (decide_eq_true hp) ?_
    refine WS.cT ?_
    cases h
  · refine WS.fx 65 false (decide_eq_false hp) ?_
    refine WS.cF ?_
    refine WS.ex 4 ?_
    cases h
    exact fun a w hs => sqE (lsB rfl (hs.sb 1))

theorem sort_many_ok {L : LC} {ne : NE} {m : Nat} {H : AH} {a0_0 : Sl3} {a0_1 : Sl3} {a0_2 : Sl3} {r : Bool} (h : sort_many L H a0_0 a0_1 a0_2 = some r) :
    CallS Tryd.prog ne m 40 #[(Value.agg #[(Sl3.v a0_0), (Sl3.v a0_1), (Sl3.v a0_2)])] H (sort_many_enc r) (sort_many_hp H r) := by
  refine CallS.mk (args := [(Value.agg #[(Sl3.v a0_0), (Sl3.v a0_1), (Sl3.v a0_2)])]) Tryd.func40 (B := B40) (by kernel_rfl) (fun E _ => ?_)
  unfold sort_many at h
  refine WS.sq ?_
  refine WS.rg ?_
  refine RS.mL 2 [(2, .val (Value.bool false)), (1, .loc 0 0)] ([some (33, [(Sl3.v a0_0), (Sl3.v a0_1), (Sl3.v a0_2)])]) ?_
  refine RS.dn ?_
  refine WS.nxt ?_
  refine WS.sq ?_
  refine WS.rg ?_
  refine RS.mS 12 [(3, .val (Value.int .i64 (IntKind.i64.wrap ((IntKind.i64.wrap ((a0_0.n : Int) + (a0_1.n : Int))) + (a0_2.n : Int))))), (20, .val (Value.int .i64 (IntKind.i64.wrap ((IntKind.i64.wrap ((a0_0.n : Int) + (a0_1.n : Int))) + (a0_2.n : Int))))), (19, .val (Value.int .i64 (a0_2.n : Int))), (18, .val (Sl3.v a0_2)), (17, .loc 0 2), (16, .val (Value.int .i64 (IntKind.i64.wrap ((a0_0.n : Int) + (a0_1.n : Int))))), (15, .val (Value.int .i64 (a0_1.n : Int))), (14, .val (Sl3.v a0_1)), (13, .loc 0 1), (12, .val (Value.int .i64 (a0_0.n : Int))), (11, .val (Sl3.v a0_0)), (10, .loc 0 0)] ?_
  refine RS.dn ?_
  refine WS.nxt ?_
  refine WS.sq ?_
  refine WS.sq ?_
  refine WS.rg ?_
  refine RS.mS 4 [(24, .val (Value.int .i64 0)), (23, .val (Value.int .i64 (a0_1.n : Int))), (22, .val (Sl3.v a0_1)), (21, .loc 0 1)] ?_
  refine RS.dn ?_
  refine WS.nxt ?_
  refine WS.bk 0 ?_
  obtain ⟨o, hl, h⟩ := bind_some h
  rcases o with ⟨v3_11, v24_12⟩ | r
  · try dsimp only at h
    refine WS.lI (sort_many_b0_ok (ne := ne) (L := L) (E := E) (m := m) (H := H)) (L.ok hl) 1 ?_
    clear hl
    refine fun a w hs => bkE ((WS.nxt ?_ a w hs))
    refine WS.sq ?_
    refine WS.sq ?_
    refine WS.rg ?_
    refine RS.mS 4 [(64, .val (Value.int .i64 0)), (63, .val (Value.int .i64 (a0_2.n : Int))), (62, .val (Sl3.v a0_2)), (61, .loc 0 2)] ?_
    refine RS.dn ?_
    refine WS.nxt ?_
    refine WS.bk 4 ?_
    obtain ⟨o, hl, h⟩ := bind_some h
    rcases o with v64_14 | r
    · try dsimp only at h
      refine WS.lI (sort_many_b2_ok (ne := ne) (L := L) (E := E) (m := m) (H := H)) (L.ok hl) 1 ?_
      clear hl
      refine fun a w hs => bkE ((WS.nxt ?_ a w hs))
      refine WS.sq ?_
      refine WS.rg ?_
      refine RS.mS 3 [(2, .val (Value.bool (decide (v3_11 > 4096)))), (74, .val (Value.bool (decide (v3_11 > 4096)))), (73, .val (Value.int .i64 v3_11))] ?_
      refine RS.dn ?_
      refine WS.nxt ?_
      refine WS.rt ?_
      cases h
      exact fun a w hs => rtR (rS hs)
    · try dsimp only at h
      refine WS.lR (sort_many_b2_ok (ne := ne) (L := L) (E := E) (m := m) (H := H)) (L.ok hl) 1 ?_
      cases h
      exact fun a w hq => bkR (sqR (rtR hq))
  · try dsimp only at h
    refine WS.lR (sort_many_b0_ok (ne := ne) (L := L) (E := E) (m := m) (H := H)) (L.ok hl) 1 ?_
    cases h
    exact fun a w hq => bkR (sqR (rtR hq))

def slices_Clone_enc : (Sl3 × AH) → Value
  | (r0, _) => (Sl3.v r0)

def slices_Clone_hp (_ : AH) : (Sl3 × AH) → AH := fun r => r.2

noncomputable def B42 : Code := (Tryd.f42.body).getD .skip

noncomputable def slices_Clone (_L : LC) (m : Nat) (H : AH) (a0 : Sl3) : Option (Sl3 × AH) :=
  if (isNilS a0) = true then
    some (Sl3.nil, H)
  else
    Option.bind (newR 9 0 #[] H) fun (s1, H2) =>
    Option.bind (appS m 9 1 16 H2 s1 a0) fun (s3, H4) =>
    some (s3, H4)

theorem slices_Clone_ok {L : LC} {ne : NE} {m : Nat} {H : AH} {a0 : Sl3} {r : (Sl3 × AH)} (h : slices_Clone L m H a0 = some r) :
    CallS Tryd.prog ne m 42 #[(Sl3.v a0)] H (slices_Clone_enc r) (slices_Clone_hp H r) := by
  refine CallS.mk (args := [(Sl3.v a0)]) Tryd.func42 (B := B42) (by kernel_rfl) (fun E _ => ?_)
  unfold slices_Clone at h
  refine WS.sq ?_
  refine WS.rg ?_
  refine RS.mS 1 [(2, .val (Sl3.v Sl3.nil))] ?_
  refine RS.dn ?_
  refine WS.nxt ?_
  refine WS.sq ?_
  refine WS.sq ?_
  refine WS.rg ?_
  refine RS.mS 1 [(3, .val (Sl3.v a0))] ?_
  refine RS.o (H' := H) (some 4) (Value.bool (isNilS a0)) (run_nil_eql (t := 29) (e := 9) (u := 29) (x := .tmp 3) (y := .const (Sl3.v Sl3.nil)) (s := a0) (by kernel_rfl) (by kernel_rfl) (by kernel_rfl) (by kernel_rfl)) ?_
  refine RS.dn ?_
  refine WS.nxt ?_
  rcases ite_some h with ⟨hp, h⟩ | ⟨hp, h⟩
  · refine WS.fx 4 true hp ?_
    refine WS.cT ?_
    refine WS.sq ?_
    refine WS.rg ?_
    refine RS.mS 1 [(2, .val (Sl3.v Sl3.nil))] ?_
    refine RS.dn ?_
    refine WS.nxt ?_
    refine WS.rt ?_
    cases h
    exact fun a w hs => sqR (rtR (rS hs))
  · refine WS.fx 4 false (b_not hp) ?_
    refine WS.cF ?_
    refine WS.sk ?_
    refine WS.nxt ?_
    refine WS.sq ?_
    refine WS.rg ?_
    obtain ⟨⟨s1, H2⟩, hx, h⟩ := bind_some h
    try dsimp only at h
    refine RS.o (H' := H2) (some 5) (Sl3.v s1) (Abs.run_newR (by kernel_rfl) (by kernel_rfl) hx) ?_
    refine RS.mS 1 [(6, .val (Sl3.v a0))] ?_
    obtain ⟨⟨s3, H4⟩, hx, h⟩ := bind_some h
    try dsimp only at h
    refine RS.o (H' := H4) (some 7) (Sl3.v s3) (Abs.run_app (x := .tmp 5) (y := .tmp 6) (ts := #[29, 29]) (s := s1) (z := a0) (by kernel_rfl) (by kernel_rfl) (by kernel_rfl) (by kernel_rfl) hx) ?_
    refine RS.mS 1 [(2, .val (Sl3.v s3))] ?_
    refine RS.dn ?_
    refine WS.nxt ?_
    refine WS.rt ?_
    cases h
    exact fun a w hs => rtR (rS hs)

end Go.Proofs.YtccbilfbhecdaaaDoor.Aw


namespace Go.Proofs.YtccbilfbhecdaaaDoor.Aw
open Go Go.Abs
set_option maxRecDepth 100000

def sort_names_enc : (Sl3 × Sl3 × AH) → Value
  | (r0, r1, _) => (Value.tuple #[(Sl3.v r0), (Sl3.v r1)])

def sort_names_hp (_ : AH) : (Sl3 × Sl3 × AH) → AH := fun r => r.2.2

noncomputable def B41 : Code := (Tryd.f41.body).getD .skip

noncomputable def sort_names_b2 (_L : LC) (m : Nat) (_a0_0 : Sl3) (_a0_1 : Sl3) (_a0_2 : Sl3) (_v20_6 : Int) (_x8_0 : ByteArray) (_x8_1 : Sl3) (_s11 : Sl3) (_v32_15 : Int) (_x17_0 : ByteArray) (x17_1 : Sl3) : (AH × Sl3 × Int) → Option (Lp (AH × Sl3 × Int) (Sl3 × Sl3 × AH)) := fun (H22, v5_23, v44_24) =>
  if v44_24 < (x17_1.n : Int) then
    Option.bind (idxA 5 x17_1 v44_24) fun p25 =>
    Option.bind (rd deS H22 (Addr.add p25 0)) fun x26_0 =>
    Option.bind (rd (deI .i64) H22 (Addr.add p25 1)) fun _ =>
    Option.bind (rd (deI .i64) H22 (Addr.add p25 2)) fun _ =>
    Option.bind (rd deS H22 (Addr.add p25 3)) fun _ =>
    Option.bind (rd deSl H22 (Addr.add p25 4)) fun _ =>
    Option.bind (newR 9 1 #[(Value.string x26_0)] H22) fun (s27, H28) =>
    Option.bind (appS m 9 1 16 H28 v5_23 s27) fun (s29, H30) =>
    some (.next (H30, s29, (IntKind.i64.wrap (v44_24 + 1))))
  else
    some (.brk (H22, v5_23, v44_24))

def sort_names_b2_kn (_L : LC) (_m : Nat) (_a0_0 : Sl3) (a0_1 : Sl3) (_a0_2 : Sl3) (v20_6 : Int) (_x8_0 : ByteArray) (x8_1 : Sl3) (s11 : Sl3) (v32_15 : Int) (_x17_0 : ByteArray) (x17_1 : Sl3) : (AH × Sl3 × Int) → KN := fun (_, v5_23, v44_24) => [(5, .val (Sl3.v v5_23)), (44, .val (Value.int .i64 v44_24)), (1, .loc 0 0), (4, .val (Sl3.v s11)), (18, .val (Sl3.v a0_1)), (19, .val (Value.int .i64 (a0_1.n : Int))), (20, .val (Value.int .i64 v20_6)), (30, .val (Sl3.v x8_1)), (31, .val (Value.int .i64 (x8_1.n : Int))), (32, .val (Value.int .i64 v32_15)), (42, .val (Sl3.v x17_1)), (43, .val (Value.int .i64 (x17_1.n : Int)))]

def sort_names_b2_ls (_L : LC) (_m : Nat) (a0_0 : Sl3) (a0_1 : Sl3) (a0_2 : Sl3) (_v20_6 : Int) (x8_0 : ByteArray) (x8_1 : Sl3) (_s11 : Sl3) (_v32_15 : Int) (x17_0 : ByteArray) (x17_1 : Sl3) : (AH × Sl3 × Int) → Lcs := fun (_, _, _) => [some (33, [(Sl3.v a0_0), (Sl3.v a0_1), (Sl3.v a0_2)]), some (46, [(Value.string x8_0), (Sl3.v x8_1)]), some (50, [(Value.string x17_0), (Sl3.v x17_1)])]

noncomputable def sort_names_b1 (L : LC) (m : Nat) (a0_0 : Sl3) (a0_1 : Sl3) (a0_2 : Sl3) (v20_6 : Int) (x8_0 : ByteArray) (x8_1 : Sl3) (s11 : Sl3) : (AH × Sl3 × Int) → Option (Lp (AH × Sl3 × Int) (Sl3 × Sl3 × AH)) := fun (H13, v5_14, v32_15) =>
  if v32_15 < (x8_1.n : Int) then
    Option.bind (idxA 2 x8_1 v32_15) fun p16 =>
    Option.bind (rd deS H13 (Addr.add p16 0)) fun x17_0 =>
    Option.bind (rd deSl H13 (Addr.add p16 1)) fun x17_1 =>
    Option.bind (newR 9 1 #[(Value.string x17_0)] H13) fun (s18, H19) =>
    Option.bind (appS m 9 1 16 H19 v5_14 s18) fun (s20, H21) =>
    Option.bind (L.run (sort_names_b2 L m a0_0 a0_1 a0_2 v20_6 x8_0 x8_1 s11 v32_15 x17_0 x17_1) (H21, s20, 0)) fun o => match o with
    | .inl (H31, v5_32, _) =>
      some (.next (H31, v5_32, (IntKind.i64.wrap (v32_15 + 1))))
    | .inr r => some (.ret r)
  else
    some (.brk (H13, v5_14, v32_15))

def sort_names_b1_kn (_L : LC) (_m : Nat) (_a0_0 : Sl3) (a0_1 : Sl3) (_a0_2 : Sl3) (v20_6 : Int) (_x8_0 : ByteArray) (x8_1 : Sl3) (s11 : Sl3) : (AH × Sl3 × Int) → KN := fun (_, v5_14, v32_15) => [(5, .val (Sl3.v v5_14)), (32, .val (Value.int .i64 v32_15)), (1, .loc 0 0), (4, .val (Sl3.v s11)), (18, .val (Sl3.v a0_1)), (19, .val (Value.int .i64 (a0_1.n : Int))), (20, .val (Value.int .i64 v20_6)), (30, .val (Sl3.v x8_1)), (31, .val (Value.int .i64 (x8_1.n : Int)))]

def sort_names_b1_ls (_L : LC) (_m : Nat) (a0_0 : Sl3) (a0_1 : Sl3) (a0_2 : Sl3) (_v20_6 : Int) (x8_0 : ByteArray) (x8_1 : Sl3) (_s11 : Sl3) : (AH × Sl3 × Int) → Lcs := fun (_, _, _) => [some (33, [(Sl3.v a0_0), (Sl3.v a0_1), (Sl3.v a0_2)]), some (46, [(Value.string x8_0), (Sl3.v x8_1)])]

noncomputable def sort_names_b0 (L : LC) (m : Nat) (a0_0 : Sl3) (a0_1 : Sl3) (a0_2 : Sl3) : (AH × Sl3 × Sl3 × Int) → Option (Lp (AH × Sl3 × Sl3 × Int) (Sl3 × Sl3 × AH)) := fun (H3, v4_4, v5_5, v20_6) =>
  if v20_6 < (a0_1.n : Int) then
    Option.bind (idxA 2 a0_1 v20_6) fun p7 =>
    Option.bind (rd deS H3 (Addr.add p7 0)) fun x8_0 =>
    Option.bind (rd deSl H3 (Addr.add p7 1)) fun x8_1 =>
    Option.bind (newR 9 1 #[(Value.string x8_0)] H3) fun (s9, H10) =>
    Option.bind (appS m 9 1 16 H10 v4_4 s9) fun (s11, H12) =>
    Option.bind (L.run (sort_names_b1 L m a0_0 a0_1 a0_2 v20_6 x8_0 x8_1 s11) (H12, v5_5, 0)) fun o => match o with
    | .inl (H34, v5_35, _) =>
      some (.next (H34, s11, v5_35, (IntKind.i64.wrap (v20_6 + 1))))
    | .inr r => some (.ret r)
  else
    some (.brk (H3, v4_4, v5_5, v20_6))

def sort_names_b0_kn (_L : LC) (_m : Nat) (_a0_0 : Sl3) (a0_1 : Sl3) (_a0_2 : Sl3) : (AH × Sl3 × Sl3 × Int) → KN := fun (_, v4_4, v5_5, v20_6) => [(4, .val (Sl3.v v4_4)), (5, .val (Sl3.v v5_5)), (20, .val (Value.int .i64 v20_6)), (1, .loc 0 0), (18, .val (Sl3.v a0_1)), (19, .val (Value.int .i64 (a0_1.n : Int)))]

def sort_names_b0_ls (_L : LC) (_m : Nat) (a0_0 : Sl3) (a0_1 : Sl3) (a0_2 : Sl3) : (AH × Sl3 × Sl3 × Int) → Lcs := fun (_, _, _, _) => [some (33, [(Sl3.v a0_0), (Sl3.v a0_1), (Sl3.v a0_2)])]

noncomputable def sort_names_b3 (_L : LC) (_a0_0 : Sl3) (_a0_1 : Sl3) (a0_2 : Sl3) (_v4_38 : Sl3) : (AH × Sl3 × Int) → Option (Lp (AH × Sl3 × Int) (Sl3 × Sl3 × AH)) := fun (H41, v5_42, v59_43) =>
  if v59_43 < (a0_2.n : Int) then
    none
  else
    some (.brk (H41, v5_42, v59_43))

def sort_names_b3_kn (_L : LC) (_a0_0 : Sl3) (_a0_1 : Sl3) (a0_2 : Sl3) (v4_38 : Sl3) : (AH × Sl3 × Int) → KN := fun (_, v5_42, v59_43) => [(5, .val (Sl3.v v5_42)), (59, .val (Value.int .i64 v59_43)), (4, .val (Sl3.v v4_38)), (57, .val (Sl3.v a0_2)), (58, .val (Value.int .i64 (a0_2.n : Int)))]

def sort_names_b3_ls (_L : LC) (a0_0 : Sl3) (a0_1 : Sl3) (a0_2 : Sl3) (_v4_38 : Sl3) : (AH × Sl3 × Int) → Lcs := fun (_, _, _) => [some (33, [(Sl3.v a0_0), (Sl3.v a0_1), (Sl3.v a0_2)])]

noncomputable def sort_names (L : LC) (m : Nat) (H : AH) (a0_0 : Sl3) (a0_1 : Sl3) (a0_2 : Sl3) : Option (Sl3 × Sl3 × AH) :=
  Option.bind (slices_Clone L m H a0_0) fun (x1, H2) =>
  Option.bind (L.run (sort_names_b0 L m a0_0 a0_1 a0_2) (H2, x1, Sl3.nil, 0)) fun o => match o with
  | .inl (H37, v4_38, v5_39, _) =>
    Option.bind (L.run (sort_names_b3 L a0_0 a0_1 a0_2 v4_38) (H37, v5_39, 0)) fun o => match o with
    | .inl (H44, v5_45, _) =>
      some (v4_38, v5_45, H44)
    | .inr r => some r
  | .inr r => some r

theorem sort_names_b2_ok {ne : NE} {E : Ent} {H : AH} {L : LC} {m : Nat} {a0_0 : Sl3} {a0_1 : Sl3} {a0_2 : Sl3} {v20_6 : Int} {x8_0 : ByteArray} {x8_1 : Sl3} {s11 : Sl3} {v32_15 : Int} {x17_0 : ByteArray} {x17_1 : Sl3}  : ∀ s o, sort_names_b2 L m a0_0 a0_1 a0_2 v20_6 x8_0 x8_1 s11 v32_15 x17_0 x17_1 s = some o →
    WS Tryd.prog ne m E Tryd.f41.ntmps (cfst (cfst (csnd (csnd (csnd (cfst (cfst (csnd (csnd (cfst (cfst (csnd (csnd (csnd (cfst (cfst (csnd (csnd (cfst (cfst (csnd (cfst (csnd (csnd (csnd B41))))))))))))))))))))))))) (sort_names_b2_kn L m a0_0 a0_1 a0_2 v20_6 x8_0 x8_1 s11 v32_15 x17_0 x17_1 s) (sort_names_b2_ls L m a0_0 a0_1 a0_2 v20_6 x8_0 x8_1 s11 v32_15 x17_0 x17_1 s) ((fun s => s.1) s) (lpS Tryd.prog ne m E Tryd.f41.ntmps (sort_names_b2_kn L m a0_0 a0_1 a0_2 v20_6 x8_0 x8_1 s11 v32_15 x17_0 x17_1) (sort_names_b2_ls L m a0_0 a0_1 a0_2 v20_6 x8_0 x8_1 s11 v32_15 x17_0 x17_1) (fun s => s.1) 4 (fun r => RT Tryd.prog ne m E Tryd.f41 (sort_names_enc r) (sort_names_hp H r)) o) := by
  rintro ⟨H22, v5_23, v44_24⟩ o h
  unfold sort_names_b2 at h
  try dsimp only at h
  refine WS.sq ?_
  refine WS.rg ?_
  refine RS.mS 1 [(45, .val (Value.bool (decide (v44_24 < (x17_1.n : Int)))))] ?_
  refine RS.dn ?_
  refine WS.nxt ?_
  refine WS.sq ?_
  rcases ite_some h with ⟨hp, h⟩ | ⟨hp, h⟩
  · refine WS.fx 45 true (decide_eq_true hp) ?_
    refine WS.cT ?_
    refine WS.sk ?_
    refine WS.nxt ?_
    refine WS.sq ?_
    refine WS.bk 5 ?_
    refine WS.sq ?_
    refine WS.rg ?_
    obtain ⟨p25, hx, h⟩ := bind_some h
    refine RS.o (H' := H22) (some 46) (Value.pointer (some p25)) (Abs.run_idx (s := x17_1) (k := .i64) (t := 48) (e := 52) (x := .tmp 42) (y := .tmp 44) (by kernel_rfl) (by kernel_rfl) (by kernel_rfl) (by kernel_rfl) (by kernel_rfl) hx) ?_
    obtain ⟨x26_0, hx0, h⟩ := bind_some h
    obtain ⟨x26_1, hx1, h⟩ := bind_some h
    obtain ⟨x26_2, hx2, h⟩ := bind_some h
    obtain ⟨x26_3, hx3, h⟩ := bind_some h
    obtain ⟨x26_4, hx4, h⟩ := bind_some h
    refine RS.o (H' := H22) (some 47) (Value.agg #[(Value.string x26_0), (Value.int .i64 x26_1), (Value.int .i64 x26_2), (Value.string x26_3), (Sl3.v x26_4)]) (Abs.run_loadAg (t := 52) (x := .tmp 46) (a := p25) (k := 5) (by kernel_rfl) (by kernel_rfl) (by kernel_rfl) (by kernel_rfl) (rdc_cons (rd_cell hx0 deS_inv) (rdc_cons (rd_cell hx1 deI_inv) (rdc_cons (rd_cell hx2 deI_inv) (rdc_cons (rd_cell hx3 deS_inv) (rdc_cons (rd_cell hx4 deSl_inv) rdc_nil)))))) ?_
    refine RS.mL 2 [(11, .loc 3 0)] ([some (33, [(Sl3.v a0_0), (Sl3.v a0_1), (Sl3.v a0_2)]), some (46, [(Value.string x8_0), (Sl3.v x8_1)]), some (50, [(Value.string x17_0), (Sl3.v x17_1)]), some (52, [(Value.string x26_0), (Value.int .i64 x26_1), (Value.int .i64 x26_2), (Value.string x26_3), (Sl3.v x26_4)])]) ?_
    refine RS.dn ?_
    refine WS.nxt ?_
    refine WS.rg ?_
    refine RS.mS 3 [(50, .val (Value.string x26_0)), (49, .loc 3 0), (48, .val (Sl3.v v5_23))] ?_
    obtain ⟨⟨s27, H28⟩, hx, h⟩ := bind_some h
    try dsimp only at h
    refine RS.o (H' := H28) (some 51) (Sl3.v s27) (Abs.run_newR (by kernel_rfl) (by kernel_rfl) hx) ?_
    obtain ⟨⟨s29, H30⟩, hx, h⟩ := bind_some h
    try dsimp only at h
    refine RS.o (H' := H30) (some 52) (Sl3.v s29) (Abs.run_app (x := .tmp 48) (y := .tmp 51) (ts := #[29, 29]) (s := v5_23) (z := s27) (by kernel_rfl) (by kernel_rfl) (by kernel_rfl) (by kernel_rfl) hx) ?_
    refine RS.mS 1 [(5, .val (Sl3.v s29))] ?_
    refine RS.dn ?_
    refine fun a w hs => bkN ((WS.nxt ?_ a w hs))
    refine WS.rg ?_
    refine RS.mS 2 [(44, .val (Value.int .i64 (IntKind.i64.wrap (v44_24 + 1)))), (53, .val (Value.int .i64 (IntKind.i64.wrap (v44_24 + 1))))] ?_
    refine RS.dn ?_
    cases h
    exact fun a w hs => lsN rfl (hs.sb 3)
  · refine WS.fx 45 false (decide_eq_false hp) ?_
    refine WS.cF ?_
    refine WS.ex 4 ?_
    cases h
    exact fun a w hs => sqE (lsB rfl (hs.sb 3))

theorem sort_names_b1_ok {ne : NE} {E : Ent} {H : AH} {L : LC} {m : Nat} {a0_0 : Sl3} {a0_1 : Sl3} {a0_2 : Sl3} {v20_6 : Int} {x8_0 : ByteArray} {x8_1 : Sl3} {s11 : Sl3}  : ∀ s o, sort_names_b1 L m a0_0 a0_1 a0_2 v20_6 x8_0 x8_1 s11 s = some o →
    WS Tryd.prog ne m E Tryd.f41.ntmps (cfst (cfst (csnd (csnd (csnd (cfst (cfst (csnd (csnd (cfst (cfst (csnd (cfst (csnd (csnd (csnd B41)))))))))))))))) (sort_names_b1_kn L m a0_0 a0_1 a0_2 v20_6 x8_0 x8_1 s11 s) (sort_names_b1_ls L m a0_0 a0_1 a0_2 v20_6 x8_0 x8_1 s11 s) ((fun s => s.1) s) (lpS Tryd.prog ne m E Tryd.f41.ntmps (sort_names_b1_kn L m a0_0 a0_1 a0_2 v20_6 x8_0 x8_1 s11) (sort_names_b1_ls L m a0_0 a0_1 a0_2 v20_6 x8_0 x8_1 s11) (fun s => s.1) 2 (fun r => RT Tryd.prog ne m E Tryd.f41 (sort_names_enc r) (sort_names_hp H r)) o) := by
  rintro ⟨H13, v5_14, v32_15⟩ o h
  unfold sort_names_b1 at h
  try dsimp only at h
  refine WS.sq ?_
  refine WS.rg ?_
  refine RS.mS 1 [(33, .val (Value.bool (decide (v32_15 < (x8_1.n : Int)))))] ?_
  refine RS.dn ?_
  refine WS.nxt ?_
  refine WS.sq ?_
  rcases ite_some h with ⟨hp, h⟩ | ⟨hp, h⟩
  · refine WS.fx 33 true (decide_eq_true hp) ?_
    refine WS.cT ?_
    refine WS.sk ?_
    refine WS.nxt ?_
    refine WS.sq ?_
    refine WS.bk 3 ?_
    refine WS.sq ?_
    refine WS.rg ?_
    obtain ⟨p16, hx, h⟩ := bind_some h
    refine RS.o (H' := H13) (some 34) (Value.pointer (some p16)) (Abs.run_idx (s := x8_1) (k := .i64) (t := 44) (e := 50) (x := .tmp 30) (y := .tmp 32) (by kernel_rfl) (by kernel_rfl) (by kernel_rfl) (by kernel_rfl) (by kernel_rfl) hx) ?_
    obtain ⟨x17_0, hx0, h⟩ := bind_some h
    obtain ⟨x17_1, hx1, h⟩ := bind_some h
    refine RS.o (H' := H13) (some 35) (Value.agg #[(Value.string x17_0), (Sl3.v x17_1)]) (Abs.run_loadAg (t := 50) (x := .tmp 34) (a := p16) (k := 2) (by kernel_rfl) (by kernel_rfl) (by kernel_rfl) (by kernel_rfl) (rdc_cons (rd_cell hx0 deS_inv) (rdc_cons (rd_cell hx1 deSl_inv) rdc_nil))) ?_
    refine RS.mL 2 [(9, .loc 2 0)] ([some (33, [(Sl3.v a0_0), (Sl3.v a0_1), (Sl3.v a0_2)]), some (46, [(Value.string x8_0), (Sl3.v x8_1)]), some (50, [(Value.string x17_0), (Sl3.v x17_1)])]) ?_
    refine RS.dn ?_
    refine WS.nxt ?_
    refine WS.sq ?_
    refine WS.rg ?_
    refine RS.mS 3 [(38, .val (Value.string x17_0)), (37, .loc 2 0), (36, .val (Sl3.v v5_14))] ?_
    obtain ⟨⟨s18, H19⟩, hx, h⟩ := bind_some h
    try dsimp only at h
    refine RS.o (H' := H19) (some 39) (Sl3.v s18) (Abs.run_newR (by kernel_rfl) (by kernel_rfl) hx) ?_
    obtain ⟨⟨s20, H21⟩, hx, h⟩ := bind_some h
    try dsimp only at h
    refine RS.o (H' := H21) (some 40) (Sl3.v s20) (Abs.run_app (x := .tmp 36) (y := .tmp 39) (ts := #[29, 29]) (s := v5_14) (z := s18) (by kernel_rfl) (by kernel_rfl) (by kernel_rfl) (by kernel_rfl) hx) ?_
    refine RS.mS 1 [(5, .val (Sl3.v s20))] ?_
    refine RS.dn ?_
    refine WS.nxt ?_
    refine WS.sq ?_
    refine WS.rg ?_
    refine RS.mS 4 [(44, .val (Value.int .i64 0)), (43, .val (Value.int .i64 (x17_1.n : Int))), (42, .val (Sl3.v x17_1)), (41, .loc 2 1)] ?_
    refine RS.dn ?_
    refine WS.nxt ?_
    refine WS.bk 4 ?_
    obtain ⟨o, hl, h⟩ := bind_some h
    rcases o with ⟨H31, v5_32, v44_33⟩ | r
    · try dsimp only at h
      refine WS.lI (sort_names_b2_ok (ne := ne) (L := L) (E := E) (m := m) (H := H)) (L.ok hl) 3 ?_
      clear hl
      refine fun a w hs => bkE (bkN ((WS.nxt ?_ a w hs)))
      refine WS.rg ?_
      refine RS.mS 2 [(32, .val (Value.int .i64 (IntKind.i64.wrap (v32_15 + 1)))), (54, .val (Value.int .i64 (IntKind.i64.wrap (v32_15 + 1))))] ?_
      refine RS.dn ?_
      cases h
      exact fun a w hs => lsN rfl (hs.sb 2)
    · try dsimp only at h
      refine WS.lR (sort_names_b2_ok (ne := ne) (L := L) (E := E) (m := m) (H := H)) (L.ok hl) 3 ?_
      cases h
      exact fun a w hq => bkR (bkR (sqR (lsR rfl hq)))
  · refine WS.fx 33 false (decide_eq_false hp) ?_
    refine WS.cF ?_
    refine WS.ex 2 ?_
    cases h
    exact fun a w hs => sqE (lsB rfl (hs.sb 2))

theorem sort_names_b0_ok {ne : NE} {E : Ent} {H : AH} {L : LC} {m : Nat} {a0_0 : Sl3} {a0_1 : Sl3} {a0_2 : Sl3}  : ∀ s o, sort_names_b0 L m a0_0 a0_1 a0_2 s = some o →
    WS Tryd.prog ne m E Tryd.f41.ntmps (cfst (cfst (csnd (cfst (csnd (csnd (csnd B41))))))) (sort_names_b0_kn L m a0_0 a0_1 a0_2 s) (sort_names_b0_ls L m a0_0 a0_1 a0_2 s) ((fun s => s.1) s) (lpS Tryd.prog ne m E Tryd.f41.ntmps (sort_names_b0_kn L m a0_0 a0_1 a0_2) (sort_names_b0_ls L m a0_0 a0_1 a0_2) (fun s => s.1) 0 (fun r => RT Tryd.prog ne m E Tryd.f41 (sort_names_enc r) (sort_names_hp H r)) o) := by
  rintro ⟨H3, v4_4, v5_5, v20_6⟩ o h
  unfold sort_names_b0 at h
  try dsimp only at h
  refine WS.sq ?_
  refine WS.rg ?_
  refine RS.mS 1 [(21, .val (Value.bool (decide (v20_6 < (a0_1.n : Int)))))] ?_
  refine RS.dn ?_
  refine WS.nxt ?_
  refine WS.sq ?_
  rcases ite_some h with ⟨hp, h⟩ | ⟨hp, h⟩
  · refine WS.fx 21 true (decide_eq_true hp) ?_
    refine WS.cT ?_
    refine WS.sk ?_
    refine WS.nxt ?_
    refine WS.sq ?_
    refine WS.bk 1 ?_
    refine WS.sq ?_
    refine WS.rg ?_
    obtain ⟨p7, hx, h⟩ := bind_some h
    refine RS.o (H' := H3) (some 22) (Value.pointer (some p7)) (Abs.run_idx (s := a0_1) (k := .i64) (t := 30) (e := 46) (x := .tmp 18) (y := .tmp 20) (by kernel_rfl) (by kernel_rfl) (by kernel_rfl) (by kernel_rfl) (by kernel_rfl) hx) ?_
    obtain ⟨x8_0, hx0, h⟩ := bind_some h
    obtain ⟨x8_1, hx1, h⟩ := bind_some h
    refine RS.o (H' := H3) (some 23) (Value.agg #[(Value.string x8_0), (Sl3.v x8_1)]) (Abs.run_loadAg (t := 46) (x := .tmp 22) (a := p7) (k := 2) (by kernel_rfl) (by kernel_rfl) (by kernel_rfl) (by kernel_rfl) (rdc_cons (rd_cell hx0 deS_inv) (rdc_cons (rd_cell hx1 deSl_inv) rdc_nil))) ?_
    refine RS.mL 2 [(7, .loc 1 0)] ([some (33, [(Sl3.v a0_0), (Sl3.v a0_1), (Sl3.v a0_2)]), some (46, [(Value.string x8_0), (Sl3.v x8_1)])]) ?_
    refine RS.dn ?_
    refine WS.nxt ?_
    refine WS.sq ?_
    refine WS.rg ?_
    refine RS.mS 3 [(26, .val (Value.string x8_0)), (25, .loc 1 0), (24, .val (Sl3.v v4_4))] ?_
    obtain ⟨⟨s9, H10⟩, hx, h⟩ := bind_some h
    try dsimp only at h
    refine RS.o (H' := H10) (some 27) (Sl3.v s9) (Abs.run_newR (by kernel_rfl) (by kernel_rfl) hx) ?_
    obtain ⟨⟨s11, H12⟩, hx, h⟩ := bind_some h
    try dsimp only at h
    refine RS.o (H' := H12) (some 28) (Sl3.v s11) (Abs.run_app (x := .tmp 24) (y := .tmp 27) (ts := #[29, 29]) (s := v4_4) (z := s9) (by kernel_rfl) (by kernel_rfl) (by kernel_rfl) (by kernel_rfl) hx) ?_
    refine RS.mS 1 [(4, .val (Sl3.v s11))] ?_
    refine RS.dn ?_
    refine WS.nxt ?_
    refine WS.sq ?_
    refine WS.rg ?_
    refine RS.mS 4 [(32, .val (Value.int .i64 0)), (31, .val (Value.int .i64 (x8_1.n : Int))), (30, .val (Sl3.v x8_1)), (29, .loc 1 1)] ?_
    refine RS.dn ?_
    refine WS.nxt ?_
    refine WS.bk 2 ?_
    obtain ⟨o, hl, h⟩ := bind_some h
    rcases o with ⟨H34, v5_35, v32_36⟩ | r
    · try dsimp only at h
      refine WS.lI (sort_names_b1_ok (ne := ne) (L := L) (E := E) (m := m) (H := H)) (L.ok hl) 2 ?_
      clear hl
      refine fun a w hs => bkE (bkN ((WS.nxt ?_ a w hs)))
      refine WS.rg ?_
      refine RS.mS 2 [(20, .val (Value.int .i64 (IntKind.i64.wrap (v20_6 + 1)))), (55, .val (Value.int .i64 (IntKind.i64.wrap (v20_6 + 1))))] ?_
      refine RS.dn ?_
      cases h
      exact fun a w hs => lsN rfl (hs.sb 1)
    · try dsimp only at h
      refine WS.lR (sort_names_b1_ok (ne := ne) (L := L) (E := E) (m := m) (H := H)) (L.ok hl) 2 ?_
      cases h
      exact fun a w hq => bkR (bkR (sqR (lsR rfl hq)))
  · refine WS.fx 21 false (decide_eq_false hp) ?_
    refine WS.cF ?_
    refine WS.ex 0 ?_
    cases h
    exact fun a w hs => sqE (lsB rfl (hs.sb 1))

theorem sort_names_b3_ok {ne : NE} {E : Ent} {m : Nat} {H : AH} {L : LC} {a0_0 : Sl3} {a0_1 : Sl3} {a0_2 : Sl3} {v4_38 : Sl3}  : ∀ s o, sort_names_b3 L a0_0 a0_1 a0_2 v4_38 s = some o →
    WS Tryd.prog ne m E Tryd.f41.ntmps (cfst (cfst (csnd (cfst (csnd (csnd (csnd (csnd B41)))))))) (sort_names_b3_kn L a0_0 a0_1 a0_2 v4_38 s) (sort_names_b3_ls L a0_0 a0_1 a0_2 v4_38 s) ((fun s => s.1) s) (lpS Tryd.prog ne m E Tryd.f41.ntmps (sort_names_b3_kn L a0_0 a0_1 a0_2 v4_38) (sort_names_b3_ls L a0_0 a0_1 a0_2 v4_38) (fun s => s.1) 6 (fun r => RT Tryd.prog ne m E Tryd.f41 (sort_names_enc r) (sort_names_hp H r)) o) := by
  rintro ⟨H41, v5_42, v59_43⟩ o h
  unfold sort_names_b3 at h
  try dsimp only at h
  refine WS.sq ?_
  refine WS.rg ?_
  refine RS.mS 1 [(60, .val (Value.bool (decide (v59_43 < (a0_2.n : Int)))))] ?_
  refine RS.dn ?_
  refine WS.nxt ?_
  refine WS.sq ?_
  rcases ite_some h with ⟨hp, h⟩ | ⟨hp, h⟩
  · refine WS.fx 60 true (decide_eq_true hp) ?_
    refine WS.cT ?_
    cases h
  · refine WS.fx 60 false (decide_eq_false hp) ?_
    refine WS.cF ?_
    refine WS.ex 6 ?_
    cases h
    exact fun a w hs => sqE (lsB rfl (hs.sb 1))

theorem sort_names_ok {L : LC} {ne : NE} {m : Nat} {H : AH} {a0_0 : Sl3} {a0_1 : Sl3} {a0_2 : Sl3} {r : (Sl3 × Sl3 × AH)} (h : sort_names L m H a0_0 a0_1 a0_2 = some r) :
    CallS Tryd.prog ne m 41 #[(Value.agg #[(Sl3.v a0_0), (Sl3.v a0_1), (Sl3.v a0_2)])] H (sort_names_enc r) (sort_names_hp H r) := by
  refine CallS.mk (args := [(Value.agg #[(Sl3.v a0_0), (Sl3.v a0_1), (Sl3.v a0_2)])]) Tryd.func41 (B := B41) (by kernel_rfl) (fun E _ => ?_)
  unfold sort_names at h
  refine WS.sq ?_
  refine WS.rg ?_
  refine RS.mL 3 [(3, .val (Sl3.v Sl3.nil)), (2, .val (Sl3.v Sl3.nil)), (1, .loc 0 0)] ([some (33, [(Sl3.v a0_0), (Sl3.v a0_1), (Sl3.v a0_2)])]) ?_
  refine RS.dn ?_
  refine WS.nxt ?_
  refine WS.sq ?_
  refine WS.rg ?_
  refine RS.mS 2 [(15, .val (Sl3.v a0_0)), (14, .loc 0 0)] ?_
  obtain ⟨⟨x1, H2⟩, hx, h⟩ := bind_some h
  try dsimp only at h
  refine RS.cl (some 16) (v := (Sl3.v x1)) 42 #[(Sl3.v a0_0)] (slices_Clone_ok hx) ?_
  refine RS.mS 1 [(4, .val (Sl3.v x1))] ?_
  refine RS.dn ?_
  refine WS.nxt ?_
  refine WS.sq ?_
  refine WS.rg ?_
  refine RS.mS 1 [(5, .val (Sl3.v Sl3.nil))] ?_
  refine RS.dn ?_
  refine WS.nxt ?_
  refine WS.sq ?_
  refine WS.sq ?_
  refine WS.rg ?_
  refine RS.mS 4 [(20, .val (Value.int .i64 0)), (19, .val (Value.int .i64 (a0_1.n : Int))), (18, .val (Sl3.v a0_1)), (17, .loc 0 1)] ?_
  refine RS.dn ?_
  refine WS.nxt ?_
  refine WS.bk 0 ?_
  obtain ⟨o, hl, h⟩ := bind_some h
  rcases o with ⟨H37, v4_38, v5_39, v20_40⟩ | r
  · try dsimp only at h
    refine WS.lI (sort_names_b0_ok (ne := ne) (L := L) (E := E) (m := m) (H := H)) (L.ok hl) 1 ?_
    clear hl
    refine fun a w hs => bkE ((WS.nxt ?_ a w hs))
    refine WS.sq ?_
    refine WS.sq ?_
    refine WS.rg ?_
    refine RS.mS 4 [(59, .val (Value.int .i64 0)), (58, .val (Value.int .i64 (a0_2.n : Int))), (57, .val (Sl3.v a0_2)), (56, .loc 0 2)] ?_
    refine RS.dn ?_
    refine WS.nxt ?_
    refine WS.bk 6 ?_
    obtain ⟨o, hl, h⟩ := bind_some h
    rcases o with ⟨H44, v5_45, v59_46⟩ | r
    · try dsimp only at h
      refine WS.lI (sort_names_b3_ok (ne := ne) (L := L) (E := E) (m := m) (H := H)) (L.ok hl) 1 ?_
      clear hl
      refine fun a w hs => bkE ((WS.nxt ?_ a w hs))
      refine WS.sq ?_
      refine WS.rg ?_
      refine RS.mS 4 [(3, .val (Sl3.v v5_45)), (2, .val (Sl3.v v4_38)), (70, .val (Sl3.v v5_45)), (69, .val (Sl3.v v4_38))] ?_
      refine RS.dn ?_
      refine WS.nxt ?_
      refine WS.rt ?_
      cases h
      exact fun a w hs => rtR (rS hs)
    · try dsimp only at h
      refine WS.lR (sort_names_b3_ok (ne := ne) (L := L) (E := E) (m := m) (H := H)) (L.ok hl) 1 ?_
      cases h
      exact fun a w hq => bkR (sqR (rtR hq))
  · try dsimp only at h
    refine WS.lR (sort_names_b0_ok (ne := ne) (L := L) (E := E) (m := m) (H := H)) (L.ok hl) 1 ?_
    cases h
    exact fun a w hq => bkR (sqR (rtR hq))

def sort_twice_enc : (Bool × AH) → Value
  | (r0, _) => (Value.bool r0)

def sort_twice_hp (_ : AH) : (Bool × AH) → AH := fun r => r.2

noncomputable def B43 : Code := (Tryd.f43.body).getD .skip

noncomputable def sort_twice_b0 (_L : LC) (m : Nat) (a0 : Sl3) (p1 : Nat) : (AH × Int) → Option (Lp (AH × Int) (Bool × AH)) := fun (H3, v9_4) =>
  if v9_4 < (a0.n : Int) then
    Option.bind (idxA 1 a0 v9_4) fun p5 =>
    Option.bind (rd deS H3 p5) fun x6 =>
    Option.bind (lk1 Tryd.prog 102 deB H3 (some p1) (Value.string x6)) fun x7 =>
    if x7 = true then
      none
    else
      Option.bind (upM Tryd.prog m 102 H3 (some p1) (Value.string x6) (Value.bool true)) fun H8 =>
      some (.next (H8, (IntKind.i64.wrap (v9_4 + 1))))
  else
    some (.brk (H3, v9_4))

def sort_twice_b0_kn (_L : LC) (_m : Nat) (a0 : Sl3) (p1 : Nat) : (AH × Int) → KN := fun (_, v9_4) => [(9, .val (Value.int .i64 v9_4)), (3, .val (Value.map (some p1))), (7, .val (Sl3.v a0)), (8, .val (Value.int .i64 (a0.n : Int)))]

def sort_twice_b0_ls (_L : LC) (_m : Nat) (_a0 : Sl3) (_p1 : Nat) : (AH × Int) → Lcs := fun (_, _) => []

noncomputable def sort_twice (L : LC) (m : Nat) (H : AH) (a0 : Sl3) : Option (Bool × AH) :=
  Option.bind (newM H) fun (p1, H2) =>
  Option.bind (L.run (sort_twice_b0 L m a0 p1) (H2, 0)) fun o => match o with
  | .inl (H9, _) =>
    some (false, H9)
  | .inr r => some r

theorem sort_twice_b0_ok {ne : NE} {E : Ent} {H : AH} {L : LC} {m : Nat} {a0 : Sl3} {p1 : Nat}  : ∀ s o, sort_twice_b0 L m a0 p1 s = some o →
    WS Tryd.prog ne m E Tryd.f43.ntmps (cfst (cfst (csnd (cfst (csnd (csnd B43)))))) (sort_twice_b0_kn L m a0 p1 s) (sort_twice_b0_ls L m a0 p1 s) ((fun s => s.1) s) (lpS Tryd.prog ne m E Tryd.f43.ntmps (sort_twice_b0_kn L m a0 p1) (sort_twice_b0_ls L m a0 p1) (fun s => s.1) 0 (fun r => RT Tryd.prog ne m E Tryd.f43 (sort_twice_enc r) (sort_twice_hp H r)) o) := by
  rintro ⟨H3, v9_4⟩ o h
  unfold sort_twice_b0 at h
  try dsimp only at h
  refine WS.sq ?_
  refine WS.rg ?_
  refine RS.mS 1 [(10, .val (Value.bool (decide (v9_4 < (a0.n : Int)))))] ?_
  refine RS.dn ?_
  refine WS.nxt ?_
  refine WS.sq ?_
  rcases ite_some h with ⟨hp, h⟩ | ⟨hp, h⟩
  · refine WS.fx 10 true (decide_eq_true hp) ?_
    refine WS.cT ?_
    refine WS.sk ?_
    refine WS.nxt ?_
    refine WS.sq ?_
    refine WS.bk 1 ?_
    refine WS.sq ?_
    refine WS.rg ?_
    obtain ⟨p5, hx, h⟩ := bind_some h
    refine RS.o (H' := H3) (some 11) (Value.pointer (some p5)) (Abs.run_idx (s := a0) (k := .i64) (t := 29) (e := 9) (x := .tmp 7) (y := .tmp 9) (by kernel_rfl) (by kernel_rfl) (by kernel_rfl) (by kernel_rfl) (by kernel_rfl) hx) ?_
    obtain ⟨x6, hx, h⟩ := bind_some h
    refine RS.o (H' := H3) (some 12) (Value.string x6) (Abs.run_load (t := 9) (x := .tmp 11) (a := p5) (by kernel_rfl) (by kernel_rfl) (by kernel_rfl) (rd_cell hx deS_inv)) ?_
    refine RS.mS 1 [(5, .val (Value.string x6))] ?_
    refine RS.dn ?_
    refine WS.nxt ?_
    refine WS.sq ?_
    refine WS.sq ?_
    refine WS.rg ?_
    refine RS.mS 2 [(14, .val (Value.string x6)), (13, .val (Value.map (some p1)))] ?_
    obtain ⟨x7, hx, h⟩ := bind_some h
    refine RS.o (H' := H3) (some 15) (Value.bool x7) (Abs.run_look (t := 102) (x := .tmp 13) (y := .tmp 14) (mm := (some p1)) (k := (Value.string x6)) (by kernel_rfl) (by kernel_rfl) (by kernel_rfl) (by kernel_rfl) (lk1_eq hx deB_inv)) ?_
    refine RS.dn ?_
    refine WS.nxt ?_
    rcases ite_some h with ⟨hp, h⟩ | ⟨hp, h⟩
    · refine WS.fx 15 true hp ?_
      refine WS.cT ?_
      cases h
    · refine WS.fx 15 false (b_not hp) ?_
      refine WS.cF ?_
      refine WS.sk ?_
      refine WS.nxt ?_
      refine WS.rg ?_
      refine RS.mS 2 [(17, .val (Value.string x6)), (16, .val (Value.map (some p1)))] ?_
      obtain ⟨H8, hx, h⟩ := bind_some h
      refine RS.o (H' := H8) none undef (Abs.run_upM (t := 102) (x := .tmp 16) (y := .tmp 17) (z := .const (Value.bool true)) (mm := (some p1)) (k := (Value.string x6)) (v := (Value.bool true)) (by kernel_rfl) (by kernel_rfl) (by kernel_rfl) (by kernel_rfl) (by kernel_rfl) hx) ?_
      refine RS.dn ?_
      refine fun a w hs => bkN ((WS.nxt ?_ a w hs))
      refine WS.rg ?_
      refine RS.mS 2 [(9, .val (Value.int .i64 (IntKind.i64.wrap (v9_4 + 1)))), (18, .val (Value.int .i64 (IntKind.i64.wrap (v9_4 + 1))))] ?_
      refine RS.dn ?_
      cases h
      exact fun a w hs => lsN rfl (hs.sb 0)
  · refine WS.fx 10 false (decide_eq_false hp) ?_
    refine WS.cF ?_
    refine WS.ex 0 ?_
    cases h
    exact fun a w hs => sqE (lsB rfl (hs.sb 0))

theorem sort_twice_ok {L : LC} {ne : NE} {m : Nat} {H : AH} {a0 : Sl3} {r : (Bool × AH)} (h : sort_twice L m H a0 = some r) :
    CallS Tryd.prog ne m 43 #[(Sl3.v a0)] H (sort_twice_enc r) (sort_twice_hp H r) := by
  refine CallS.mk (args := [(Sl3.v a0)]) Tryd.func43 (B := B43) (by kernel_rfl) (fun E _ => ?_)
  unfold sort_twice at h
  refine WS.sq ?_
  refine WS.rg ?_
  refine RS.mS 1 [(2, .val (Value.bool false))] ?_
  refine RS.dn ?_
  refine WS.nxt ?_
  refine WS.sq ?_
  refine WS.rg ?_
  obtain ⟨⟨p1, H2⟩, hx, h⟩ := bind_some h
  try dsimp only at h
  refine RS.o (H' := H2) (some 6) (Value.map (some p1)) (Abs.run_newM (by kernel_rfl) hx) ?_
  refine RS.mS 1 [(3, .val (Value.map (some p1)))] ?_
  refine RS.dn ?_
  refine WS.nxt ?_
  refine WS.sq ?_
  refine WS.sq ?_
  refine WS.rg ?_
  refine RS.mS 3 [(9, .val (Value.int .i64 0)), (8, .val (Value.int .i64 (a0.n : Int))), (7, .val (Sl3.v a0))] ?_
  refine RS.dn ?_
  refine WS.nxt ?_
  refine WS.bk 0 ?_
  obtain ⟨o, hl, h⟩ := bind_some h
  rcases o with ⟨H9, v9_10⟩ | r
  · try dsimp only at h
    refine WS.lI (sort_twice_b0_ok (ne := ne) (L := L) (E := E) (m := m) (H := H)) (L.ok hl) 0 ?_
    clear hl
    refine fun a w hs => bkE ((WS.nxt ?_ a w hs))
    refine WS.sq ?_
    refine WS.rg ?_
    refine RS.mS 1 [(2, .val (Value.bool false))] ?_
    refine RS.dn ?_
    refine WS.nxt ?_
    refine WS.rt ?_
    cases h
    exact fun a w hs => rtR (rS hs)
  · try dsimp only at h
    refine WS.lR (sort_twice_b0_ok (ne := ne) (L := L) (E := E) (m := m) (H := H)) (L.ok hl) 0 ?_
    cases h
    exact fun a w hq => bkR (sqR (rtR hq))

def sort_parts_enc : (Int × Bool) → Value
  | (r0, r1) => (Value.tuple #[(Value.int .i64 r0), (Value.bool r1)])

def sort_parts_hp (H : AH) : (Int × Bool) → AH := fun _ => H

noncomputable def B90 : Code := (Tryd.f90.body).getD .skip

noncomputable def sort_parts_b0 (_L : LC) (_H : AH) (_a0_0 : Int) (_a0_1 : Int) (_a0_2 : ByteArray) (a0_3 : Sl3) (_a1 : Int) : (Int × Int) → Option (Lp (Int × Int) (Int × Bool)) := fun (v6_1, v16_2) =>
  if v16_2 < (a0_3.n : Int) then
    none
  else
    some (.brk (v6_1, v16_2))

def sort_parts_b0_kn (_L : LC) (_H : AH) (_a0_0 : Int) (_a0_1 : Int) (_a0_2 : ByteArray) (a0_3 : Sl3) (a1 : Int) : (Int × Int) → KN := fun (v6_1, v16_2) => [(6, .val (Value.int .i64 v6_1)), (16, .val (Value.int .i64 v16_2)), (1, .val (Value.int .i64 a1)), (14, .val (Sl3.v a0_3)), (15, .val (Value.int .i64 (a0_3.n : Int)))]

def sort_parts_b0_ls (_L : LC) (_H : AH) (a0_0 : Int) (a0_1 : Int) (a0_2 : ByteArray) (a0_3 : Sl3) (_a1 : Int) : (Int × Int) → Lcs := fun (_, _) => [some (28, [(Value.int .i64 a0_0), (Value.int .i64 a0_1), (Value.string a0_2), (Sl3.v a0_3)])]

noncomputable def sort_parts_body (L : LC) (H : AH) (a0_0 : Int) (a0_1 : Int) (a0_2 : ByteArray) (a0_3 : Sl3) (a1 : Int) : Option (Int × Bool) :=
  if a1 > 16 then
    none
  else
    Option.bind (L.run (sort_parts_b0 L H a0_0 a0_1 a0_2 a0_3 a1) (1, 0)) fun o => match o with
    | .inl (v6_3, _) =>
      some (v6_3, true)
    | .inr r => some r

noncomputable def fam_sort_parts (L : LC) (n : Nat) : (AH → Int → Int → ByteArray → Sl3 → Int → Option (Int × Bool)) := Nat.rec (motive := fun _ => (AH → Int → Int → ByteArray → Sl3 → Int → Option (Int × Bool))) (fun _ _ _ _ _ _ => none) (fun _ _ => sort_parts_body L) n

noncomputable def sort_parts (L : LC) (H : AH) (a0_0 : Int) (a0_1 : Int) (a0_2 : ByteArray) (a0_3 : Sl3) (a1 : Int) : Option (Int × Bool) := (fam_sort_parts L L.fuel) H a0_0 a0_1 a0_2 a0_3 a1

theorem sort_parts_b0_ok {ne : NE} {E : Ent} {m : Nat} {L : LC} {H : AH} {a0_0 : Int} {a0_1 : Int} {a0_2 : ByteArray} {a0_3 : Sl3} {a1 : Int}  : ∀ s o, sort_parts_b0 L H a0_0 a0_1 a0_2 a0_3 a1 s = some o →
    WS Tryd.prog ne m E Tryd.f90.ntmps (cfst (cfst (csnd (cfst (csnd (csnd (csnd B90))))))) (sort_parts_b0_kn L H a0_0 a0_1 a0_2 a0_3 a1 s) (sort_parts_b0_ls L H a0_0 a0_1 a0_2 a0_3 a1 s) ((fun _ => H) s) (lpS Tryd.prog ne m E Tryd.f90.ntmps (sort_parts_b0_kn L H a0_0 a0_1 a0_2 a0_3 a1) (sort_parts_b0_ls L H a0_0 a0_1 a0_2 a0_3 a1) (fun _ => H) 0 (fun r => RT Tryd.prog ne m E Tryd.f90 (sort_parts_enc r) (sort_parts_hp H r)) o) := by
  rintro ⟨v6_1, v16_2⟩ o h
  unfold sort_parts_b0 at h
  try dsimp only at h
  refine WS.sq ?_
  refine WS.rg ?_
  refine RS.mS 1 [(17, .val (Value.bool (decide (v16_2 < (a0_3.n : Int)))))] ?_
  refine RS.dn ?_
  refine WS.nxt ?_
  refine WS.sq ?_
  rcases ite_some h with ⟨hp, h⟩ | ⟨hp, h⟩
  · refine WS.fx 17 true (decide_eq_true hp) ?_
    refine WS.cT ?_
    cases h
  · refine WS.fx 17 false (decide_eq_false hp) ?_
    refine WS.cF ?_
    refine WS.ex 0 ?_
    cases h
    exact fun a w hs => sqE (lsB rfl (hs.sb 1))

theorem sort_parts_body_ok {L : LC} {ne : NE} {m : Nat} {H : AH} {a0_0 : Int} {a0_1 : Int} {a0_2 : ByteArray} {a0_3 : Sl3} {a1 : Int} {r : (Int × Bool)} (h : sort_parts_body L H a0_0 a0_1 a0_2 a0_3 a1 = some r) :
    CallS Tryd.prog ne m 90 #[(Value.agg #[(Value.int .i64 a0_0), (Value.int .i64 a0_1), (Value.string a0_2), (Sl3.v a0_3)]), (Value.int .i64 a1)] H (sort_parts_enc r) (sort_parts_hp H r) := by
  refine CallS.mk (args := [(Value.agg #[(Value.int .i64 a0_0), (Value.int .i64 a0_1), (Value.string a0_2), (Sl3.v a0_3)]), (Value.int .i64 a1)]) Tryd.func90 (B := B90) (by kernel_rfl) (fun E _ => ?_)
  unfold sort_parts_body at h
  refine WS.sq ?_
  refine WS.rg ?_
  refine RS.mL 3 [(5, .val (Value.bool false)), (4, .val (Value.int .i64 0)), (2, .loc 0 0)] ([some (28, [(Value.int .i64 a0_0), (Value.int .i64 a0_1), (Value.string a0_2), (Sl3.v a0_3)])]) ?_
  refine RS.dn ?_
  refine WS.nxt ?_
  refine WS.sq ?_
  refine WS.sq ?_
  refine WS.rg ?_
  refine RS.mS 2 [(12, .val (Value.bool (decide (a1 > 16)))), (11, .val (Value.int .i64 a1))] ?_
  refine RS.dn ?_
  refine WS.nxt ?_
  rcases ite_some h with ⟨hp, h⟩ | ⟨hp, h⟩
  · refine WS.fx 12 true (decide_eq_true hp) ?_
    refine WS.cT ?_
    cases h
  · refine WS.fx 12 false (decide_eq_false hp) ?_
    refine WS.cF ?_
    refine WS.sk ?_
    refine WS.nxt ?_
    refine WS.sq ?_
    refine WS.rg ?_
    refine RS.mS 1 [(6, .val (Value.int .i64 1))] ?_
    refine RS.dn ?_
    refine WS.nxt ?_
    refine WS.sq ?_
    refine WS.sq ?_
    refine WS.rg ?_
    refine RS.mS 4 [(16, .val (Value.int .i64 0)), (15, .val (Value.int .i64 (a0_3.n : Int))), (14, .val (Sl3.v a0_3)), (13, .loc 0 3)] ?_
    refine RS.dn ?_
    refine WS.nxt ?_
    refine WS.bk 0 ?_
    obtain ⟨o, hl, h⟩ := bind_some h
    rcases o with ⟨v6_3, v16_4⟩ | r
    · try dsimp only at h
      refine WS.lI (sort_parts_b0_ok (ne := ne) (L := L) (E := E) (m := m) (H := H)) (L.ok hl) 1 ?_
      clear hl
      refine fun a w hs => bkE ((WS.nxt ?_ a w hs))
      refine WS.sq ?_
      refine WS.rg ?_
      refine RS.mS 3 [(5, .val (Value.bool true)), (4, .val (Value.int .i64 v6_3)), (38, .val (Value.int .i64 v6_3))] ?_
      refine RS.dn ?_
      refine WS.nxt ?_
      refine WS.rt ?_
      cases h
      exact fun a w hs => rtR (rS hs)
    · try dsimp only at h
      refine WS.lR (sort_parts_b0_ok (ne := ne) (L := L) (E := E) (m := m) (H := H)) (L.ok hl) 1 ?_
      cases h
      exact fun a w hq => bkR (sqR (rtR hq))

theorem fam_sort_parts_ok {L : LC} {ne : NE} : ∀ n, (∀ (m : Nat) (H : AH) (a0_0 : Int) (a0_1 : Int) (a0_2 : ByteArray) (a0_3 : Sl3) (a1 : Int) (r : (Int × Bool)), ((fam_sort_parts L n)) H a0_0 a0_1 a0_2 a0_3 a1 = some r → CallS Tryd.prog ne m 90 #[(Value.agg #[(Value.int .i64 a0_0), (Value.int .i64 a0_1), (Value.string a0_2), (Sl3.v a0_3)]), (Value.int .i64 a1)] H (sort_parts_enc r) (sort_parts_hp H r)) := by
  intro n
  induction n with
  | zero => exact (fun _ _ _ _ _ _ _ _ h => (Option.some_ne_none _ h.symm).elim)
  | succ n ih => exact (fun _ _ _ _ _ _ _ _ h => sort_parts_body_ok (L := L)  h)

theorem sort_parts_ok {L : LC} {ne : NE} {m : Nat} {H : AH} {a0_0 : Int} {a0_1 : Int} {a0_2 : ByteArray} {a0_3 : Sl3} {a1 : Int} {r : (Int × Bool)} (h : sort_parts L H a0_0 a0_1 a0_2 a0_3 a1 = some r) :
    CallS Tryd.prog ne m 90 #[(Value.agg #[(Value.int .i64 a0_0), (Value.int .i64 a0_1), (Value.string a0_2), (Sl3.v a0_3)]), (Value.int .i64 a1)] H (sort_parts_enc r) (sort_parts_hp H r) :=
  (fam_sort_parts_ok _) _ _ _ _ _ _ _ _ h

def sort_shaped_enc : Bool → Value
  | r0 => (Value.bool r0)

def sort_shaped_hp (H : AH) : Bool → AH := fun _ => H

noncomputable def B91 : Code := (Tryd.f91.body).getD .skip

noncomputable def sort_shaped_b0 (_L : LC) (_H : AH) (_a0_0 : Int) (_a0_1 : Int) (_a0_2 : ByteArray) (a0_3 : Sl3) : (Bool × Int) → Option (Lp (Bool × Int) Bool) := fun (v3_3, v82_4) =>
  if v82_4 < (a0_3.n : Int) then
    none
  else
    some (.brk (v3_3, v82_4))

def sort_shaped_b0_kn (_L : LC) (_H : AH) (_a0_0 : Int) (_a0_1 : Int) (_a0_2 : ByteArray) (a0_3 : Sl3) : (Bool × Int) → KN := fun (v3_3, v82_4) => [(3, .val (Value.bool v3_3)), (82, .val (Value.int .i64 v82_4)), (80, .val (Sl3.v a0_3)), (81, .val (Value.int .i64 (a0_3.n : Int)))]

def sort_shaped_b0_ls (_L : LC) (_H : AH) (a0_0 : Int) (a0_1 : Int) (a0_2 : ByteArray) (a0_3 : Sl3) : (Bool × Int) → Lcs := fun (_, _) => [some (28, [(Value.int .i64 a0_0), (Value.int .i64 a0_1), (Value.string a0_2), (Sl3.v a0_3)])]

noncomputable def sort_shaped_body (L : LC) (H : AH) (a0_0 : Int) (a0_1 : Int) (a0_2 : ByteArray) (a0_3 : Sl3) : Option Bool :=
  Option.bind (α := Bool) (
    if a0_0 = 1 then
      none
    else
      if a0_0 = 2 then
        if a0_1 = 0 then
          if (a0_2.toList == (⟨#[]⟩ : ByteArray).toList) = true then
            some (decide ((a0_3.n : Int) = 0))
          else
            none
        else
          none
      else
        if a0_0 = 3 then
          if a0_1 ≥ 1 then
            if a0_1 ≤ 4096 then
              if (a0_2.toList == (⟨#[]⟩ : ByteArray).toList) = true then
                some (decide ((a0_3.n : Int) = 0))
              else
                none
            else
              none
          else
            none
        else
          if a0_0 = 4 then
            none
          else
            if a0_0 = 5 then
              none
            else
              if a0_0 = 6 then
                if a0_1 = 0 then
                  Option.bind (sort_Name L a0_2) fun x2 =>
                  if x2 = true then
                    some (decide ((a0_3.n : Int) = 0))
                  else
                    none
                else
                  none
              else
                none) fun v3_1 =>
  Option.bind (L.run (sort_shaped_b0 L H a0_0 a0_1 a0_2 a0_3) (v3_1, 0)) fun o => match o with
  | .inl (v3_5, _) =>
    some v3_5
  | .inr r => some r

noncomputable def fam_sort_shaped (L : LC) (n : Nat) : (AH → Int → Int → ByteArray → Sl3 → Option Bool) := Nat.rec (motive := fun _ => (AH → Int → Int → ByteArray → Sl3 → Option Bool)) (fun _ _ _ _ _ => none) (fun _ _ => sort_shaped_body L) n

noncomputable def sort_shaped (L : LC) (H : AH) (a0_0 : Int) (a0_1 : Int) (a0_2 : ByteArray) (a0_3 : Sl3) : Option Bool := (fam_sort_shaped L L.fuel) H a0_0 a0_1 a0_2 a0_3

theorem sort_shaped_b0_ok {ne : NE} {E : Ent} {m : Nat} {L : LC} {H : AH} {a0_0 : Int} {a0_1 : Int} {a0_2 : ByteArray} {a0_3 : Sl3}  : ∀ s o, sort_shaped_b0 L H a0_0 a0_1 a0_2 a0_3 s = some o →
    WS Tryd.prog ne m E Tryd.f91.ntmps (cfst (cfst (csnd (cfst (csnd (csnd (csnd B91))))))) (sort_shaped_b0_kn L H a0_0 a0_1 a0_2 a0_3 s) (sort_shaped_b0_ls L H a0_0 a0_1 a0_2 a0_3 s) ((fun _ => H) s) (lpS Tryd.prog ne m E Tryd.f91.ntmps (sort_shaped_b0_kn L H a0_0 a0_1 a0_2 a0_3) (sort_shaped_b0_ls L H a0_0 a0_1 a0_2 a0_3) (fun _ => H) 1 (fun r => RT Tryd.prog ne m E Tryd.f91 (sort_shaped_enc r) (sort_shaped_hp H r)) o) := by
  rintro ⟨v3_3, v82_4⟩ o h
  unfold sort_shaped_b0 at h
  try dsimp only at h
  refine WS.sq ?_
  refine WS.rg ?_
  refine RS.mS 1 [(83, .val (Value.bool (decide (v82_4 < (a0_3.n : Int)))))] ?_
  refine RS.dn ?_
  refine WS.nxt ?_
  refine WS.sq ?_
  rcases ite_some h with ⟨hp, h⟩ | ⟨hp, h⟩
  · refine WS.fx 83 true (decide_eq_true hp) ?_
    refine WS.cT ?_
    cases h
  · refine WS.fx 83 false (decide_eq_false hp) ?_
    refine WS.cF ?_
    refine WS.ex 1 ?_
    cases h
    exact fun a w hs => sqE (lsB rfl (hs.sb 1))

theorem sort_shaped_body_ok {L : LC} {ne : NE} {m : Nat} {H : AH} {a0_0 : Int} {a0_1 : Int} {a0_2 : ByteArray} {a0_3 : Sl3} {r : Bool} (h : sort_shaped_body L H a0_0 a0_1 a0_2 a0_3 = some r) :
    CallS Tryd.prog ne m 91 #[(Value.agg #[(Value.int .i64 a0_0), (Value.int .i64 a0_1), (Value.string a0_2), (Sl3.v a0_3)])] H (sort_shaped_enc r) (sort_shaped_hp H r) := by
  refine CallS.mk (args := [(Value.agg #[(Value.int .i64 a0_0), (Value.int .i64 a0_1), (Value.string a0_2), (Sl3.v a0_3)])]) Tryd.func91 (B := B91) (by kernel_rfl) (fun E _ => ?_)
  unfold sort_shaped_body at h
  refine WS.sq ?_
  refine WS.rg ?_
  refine RS.mL 2 [(2, .val (Value.bool false)), (1, .loc 0 0)] ([some (28, [(Value.int .i64 a0_0), (Value.int .i64 a0_1), (Value.string a0_2), (Sl3.v a0_3)])]) ?_
  refine RS.dn ?_
  refine WS.nxt ?_
  refine WS.sq ?_
  refine WS.rg ?_
  refine RS.mS 1 [(3, .val (Value.bool false))] ?_
  refine RS.dn ?_
  refine WS.nxt ?_
  obtain ⟨v3_1, hx, h⟩ := bind_some h
  refine WS.sq ?_
  refine WS.join ([(3, .val (Value.bool v3_1)), (1, .loc 0 0)]) ([some (28, [(Value.int .i64 a0_0), (Value.int .i64 a0_1), (Value.string a0_2), (Sl3.v a0_3)])]) H ?_ (fun a w hs => WS.nxt ?_ a w hs)
  · clear h; rename _ => h
    refine WS.sq ?_
    refine WS.rg ?_
    refine RS.mS 2 [(7, .val (Value.int .i64 a0_0)), (6, .loc 0 0)] ?_
    refine RS.dn ?_
    refine WS.nxt ?_
    refine WS.bk 0 ?_
    refine WS.sq ?_
    refine WS.sq ?_
    refine WS.rg ?_
    refine RS.mS 2 [(8, .val (Value.bool (decide (a0_0 = 1)))), (9, .val (Value.bool (decide (a0_0 = 1))))] ?_
    refine RS.dn ?_
    refine WS.nxt ?_
    rcases ite_some h with ⟨hp, h⟩ | ⟨hp, h⟩
    · refine WS.fx 8 true (decide_eq_true hp) ?_
      refine WS.cT ?_
      cases h
    · refine WS.fx 8 false (decide_eq_false hp) ?_
      refine WS.cF ?_
      refine WS.rg ?_
      refine RS.mS 2 [(8, .val (Value.bool (decide (a0_0 = 2)))), (10, .val (Value.bool (decide (a0_0 = 2))))] ?_
      refine RS.dn ?_
      refine WS.nxt ?_
      rcases ite_some h with ⟨hp, h⟩ | ⟨hp, h⟩
      · refine WS.fx 8 true (decide_eq_true hp) ?_
        refine WS.cT ?_
        refine WS.rg ?_
        refine RS.mS 4 [(14, .val (Value.bool (decide (a0_1 = 0)))), (13, .val (Value.bool (decide (a0_1 = 0)))), (12, .val (Value.int .i64 a0_1)), (11, .loc 0 1)] ?_
        rcases ite_some h with ⟨hp, h⟩ | ⟨hp, h⟩
        · refine RS.fx 14 true (decide_eq_true hp) ?_
          refine RS.mS 5 [(19, .val (Value.bool (a0_2.toList == (⟨#[]⟩ : ByteArray).toList))), (18, .val (Value.bool (a0_2.toList == (⟨#[]⟩ : ByteArray).toList))), (17, .val (Value.bool (a0_2.toList == (⟨#[]⟩ : ByteArray).toList))), (16, .val (Value.string a0_2)), (15, .loc 0 2)] ?_
          rcases ite_some h with ⟨hp, h⟩ | ⟨hp, h⟩
          · refine RS.fx 19 true hp ?_
            refine RS.mS 6 [(3, .val (Value.bool (decide ((a0_3.n : Int) = 0)))), (24, .val (Value.bool (decide ((a0_3.n : Int) = 0)))), (23, .val (Value.bool (decide ((a0_3.n : Int) = 0)))), (22, .val (Value.int .i64 (a0_3.n : Int))), (21, .val (Sl3.v a0_3)), (20, .loc 0 3)] ?_
            refine RS.dn ?_
            cases h
            exact fun a w hs => bkN ((jsN (hs.sb 1)))
          · refine RS.fx 19 false (b_not hp) ?_
            cases h
        · refine RS.fx 14 false (decide_eq_false hp) ?_
          cases h
      · refine WS.fx 8 false (decide_eq_false hp) ?_
        refine WS.cF ?_
        refine WS.sq ?_
        refine WS.rg ?_
        refine RS.mS 2 [(25, .val (Value.bool (decide (a0_0 = 3)))), (26, .val (Value.bool (decide (a0_0 = 3))))] ?_
        refine RS.dn ?_
        refine WS.nxt ?_
        rcases ite_some h with ⟨hp, h⟩ | ⟨hp, h⟩
        · refine WS.fx 25 true (decide_eq_true hp) ?_
          refine WS.cT ?_
          refine WS.rg ?_
          refine RS.mS 4 [(30, .val (Value.bool (decide (a0_1 ≥ 1)))), (29, .val (Value.bool (decide (a0_1 ≥ 1)))), (28, .val (Value.int .i64 a0_1)), (27, .loc 0 1)] ?_
          rcases ite_some h with ⟨hp, h⟩ | ⟨hp, h⟩
          · refine RS.fx 30 true (decide_eq_true hp) ?_
            refine RS.mS 5 [(35, .val (Value.bool (decide (a0_1 ≤ 4096)))), (34, .val (Value.bool (decide (a0_1 ≤ 4096)))), (33, .val (Value.bool (decide (a0_1 ≤ 4096)))), (32, .val (Value.int .i64 a0_1)), (31, .loc 0 1)] ?_
            rcases ite_some h with ⟨hp, h⟩ | ⟨hp, h⟩
            · refine RS.fx 35 true (decide_eq_true hp) ?_
              refine RS.mS 5 [(40, .val (Value.bool (a0_2.toList == (⟨#[]⟩ : ByteArray).toList))), (39, .val (Value.bool (a0_2.toList == (⟨#[]⟩ : ByteArray).toList))), (38, .val (Value.bool (a0_2.toList == (⟨#[]⟩ : ByteArray).toList))), (37, .val (Value.string a0_2)), (36, .loc 0 2)] ?_
              rcases ite_some h with ⟨hp, h⟩ | ⟨hp, h⟩
              · refine RS.fx 40 true hp ?_
                refine RS.mS 6 [(3, .val (Value.bool (decide ((a0_3.n : Int) = 0)))), (45, .val (Value.bool (decide ((a0_3.n : Int) = 0)))), (44, .val (Value.bool (decide ((a0_3.n : Int) = 0)))), (43, .val (Value.int .i64 (a0_3.n : Int))), (42, .val (Sl3.v a0_3)), (41, .loc 0 3)] ?_
                refine RS.dn ?_
                cases h
                exact fun a w hs => bkN ((jsN (hs.sb 1)))
              · refine RS.fx 40 false (b_not hp) ?_
                cases h
            · refine RS.fx 35 false (decide_eq_false hp) ?_
              cases h
          · refine RS.fx 30 false (decide_eq_false hp) ?_
            cases h
        · refine WS.fx 25 false (decide_eq_false hp) ?_
          refine WS.cF ?_
          refine WS.sq ?_
          refine WS.rg ?_
          refine RS.mS 2 [(46, .val (Value.bool (decide (a0_0 = 4)))), (47, .val (Value.bool (decide (a0_0 = 4))))] ?_
          refine RS.dn ?_
          refine WS.nxt ?_
          rcases ite_some h with ⟨hp, h⟩ | ⟨hp, h⟩
          · refine WS.fx 46 true (decide_eq_true hp) ?_
            refine WS.cT ?_
            cases h
          · refine WS.fx 46 false (decide_eq_false hp) ?_
            refine WS.cF ?_
            refine WS.sq ?_
            refine WS.sq ?_
            refine WS.rg ?_
            refine RS.mS 2 [(62, .val (Value.bool (decide (a0_0 = 5)))), (63, .val (Value.bool (decide (a0_0 = 5))))] ?_
            refine RS.dn ?_
            refine WS.nxt ?_
            rcases ite_some h with ⟨hp, h⟩ | ⟨hp, h⟩
            · refine WS.fx 62 true (decide_eq_true hp) ?_
              refine WS.cT ?_
              cases h
            · refine WS.fx 62 false (decide_eq_false hp) ?_
              refine WS.cF ?_
              refine WS.rg ?_
              refine RS.mS 2 [(62, .val (Value.bool (decide (a0_0 = 6)))), (64, .val (Value.bool (decide (a0_0 = 6))))] ?_
              refine RS.dn ?_
              refine WS.nxt ?_
              rcases ite_some h with ⟨hp, h⟩ | ⟨hp, h⟩
              · refine WS.fx 62 true (decide_eq_true hp) ?_
                refine WS.cT ?_
                refine WS.rg ?_
                refine RS.mS 4 [(68, .val (Value.bool (decide (a0_1 = 0)))), (67, .val (Value.bool (decide (a0_1 = 0)))), (66, .val (Value.int .i64 a0_1)), (65, .loc 0 1)] ?_
                rcases ite_some h with ⟨hp, h⟩ | ⟨hp, h⟩
                · refine RS.fx 68 true (decide_eq_true hp) ?_
                  refine RS.mS 2 [(70, .val (Value.string a0_2)), (69, .loc 0 2)] ?_
                  obtain ⟨x2, hx, h⟩ := bind_some h
                  refine RS.cl (some 71) (v := (Value.bool x2)) 13 #[(Value.string a0_2)] (sort_Name_ok hx) ?_
                  refine RS.mS 2 [(73, .val (Value.bool x2)), (72, .val (Value.bool x2))] ?_
                  rcases ite_some h with ⟨hp, h⟩ | ⟨hp, h⟩
                  · refine RS.fx 73 true hp ?_
                    refine RS.mS 6 [(3, .val (Value.bool (decide ((a0_3.n : Int) = 0)))), (78, .val (Value.bool (decide ((a0_3.n : Int) = 0)))), (77, .val (Value.bool (decide ((a0_3.n : Int) = 0)))), (76, .val (Value.int .i64 (a0_3.n : Int))), (75, .val (Sl3.v a0_3)), (74, .loc 0 3)] ?_
                    refine RS.dn ?_
                    cases h
                    exact fun a w hs => bkN ((jsN (hs.sb 1)))
                  · refine RS.fx 73 false (b_not hp) ?_
                    cases h
                · refine RS.fx 68 false (decide_eq_false hp) ?_
                  cases h
              · refine WS.fx 62 false (decide_eq_false hp) ?_
                refine WS.cF ?_
                cases h
  · clear hx
    refine WS.sq ?_
    refine WS.sq ?_
    refine WS.rg ?_
    refine RS.mS 4 [(82, .val (Value.int .i64 0)), (81, .val (Value.int .i64 (a0_3.n : Int))), (80, .val (Sl3.v a0_3)), (79, .loc 0 3)] ?_
    refine RS.dn ?_
    refine WS.nxt ?_
    refine WS.bk 1 ?_
    obtain ⟨o, hl, h⟩ := bind_some h
    rcases o with ⟨v3_5, v82_6⟩ | r
    · try dsimp only at h
      refine WS.lI (sort_shaped_b0_ok (ne := ne) (L := L) (E := E) (m := m) (H := H)) (L.ok hl) 1 ?_
      clear hl
      refine fun a w hs => bkE ((WS.nxt ?_ a w hs))
      refine WS.sq ?_
      refine WS.rg ?_
      refine RS.mS 2 [(2, .val (Value.bool v3_5)), (92, .val (Value.bool v3_5))] ?_
      refine RS.dn ?_
      refine WS.nxt ?_
      refine WS.rt ?_
      cases h
      exact fun a w hs => rtR (rS hs)
    · try dsimp only at h
      refine WS.lR (sort_shaped_b0_ok (ne := ne) (L := L) (E := E) (m := m) (H := H)) (L.ok hl) 1 ?_
      cases h
      exact fun a w hq => bkR (sqR (rtR hq))

theorem fam_sort_shaped_ok {L : LC} {ne : NE} : ∀ n, (∀ (m : Nat) (H : AH) (a0_0 : Int) (a0_1 : Int) (a0_2 : ByteArray) (a0_3 : Sl3) (r : Bool), ((fam_sort_shaped L n)) H a0_0 a0_1 a0_2 a0_3 = some r → CallS Tryd.prog ne m 91 #[(Value.agg #[(Value.int .i64 a0_0), (Value.int .i64 a0_1), (Value.string a0_2), (Sl3.v a0_3)])] H (sort_shaped_enc r) (sort_shaped_hp H r)) := by
  intro n
  induction n with
  | zero => exact (fun _ _ _ _ _ _ _ h => (Option.some_ne_none _ h.symm).elim)
  | succ n ih => exact (fun _ _ _ _ _ _ _ h => sort_shaped_body_ok (L := L)  h)

theorem sort_shaped_ok {L : LC} {ne : NE} {m : Nat} {H : AH} {a0_0 : Int} {a0_1 : Int} {a0_2 : ByteArray} {a0_3 : Sl3} {r : Bool} (h : sort_shaped L H a0_0 a0_1 a0_2 a0_3 = some r) :
    CallS Tryd.prog ne m 91 #[(Value.agg #[(Value.int .i64 a0_0), (Value.int .i64 a0_1), (Value.string a0_2), (Sl3.v a0_3)])] H (sort_shaped_enc r) (sort_shaped_hp H r) :=
  (fam_sort_shaped_ok _) _ _ _ _ _ _ _ h

def sort_wrong_enc : Int → Value
  | r0 => (Value.int .i64 r0)

def sort_wrong_hp (H : AH) : Int → AH := fun _ => H

noncomputable def B57 : Code := (Tryd.f57.body).getD .skip

noncomputable def sort_wrong (L : LC) (H : AH) (a0_0 : Int) (a0_1 : Int) (a0_2 : ByteArray) (a0_3 : Sl3) : Option Int :=
  Option.bind (sort_parts L H a0_0 a0_1 a0_2 a0_3 1) fun (_, x2) =>
  if x2 = true then
    Option.bind (sort_shaped L H a0_0 a0_1 a0_2 a0_3) fun x3 =>
    if x3 = true then
      some 0
    else
      none
  else
    none

theorem sort_wrong_ok {L : LC} {ne : NE} {m : Nat} {H : AH} {a0_0 : Int} {a0_1 : Int} {a0_2 : ByteArray} {a0_3 : Sl3} {r : Int} (h : sort_wrong L H a0_0 a0_1 a0_2 a0_3 = some r) :
    CallS Tryd.prog ne m 57 #[(Value.agg #[(Value.int .i64 a0_0), (Value.int .i64 a0_1), (Value.string a0_2), (Sl3.v a0_3)])] H (sort_wrong_enc r) (sort_wrong_hp H r) := by
  refine CallS.mk (args := [(Value.agg #[(Value.int .i64 a0_0), (Value.int .i64 a0_1), (Value.string a0_2), (Sl3.v a0_3)])]) Tryd.func57 (B := B57) (by kernel_rfl) (fun E _ => ?_)
  unfold sort_wrong at h
  refine WS.sq ?_
  refine WS.rg ?_
  refine RS.mL 2 [(2, .val (Value.int .i64 0)), (1, .loc 0 0)] ([some (28, [(Value.int .i64 a0_0), (Value.int .i64 a0_1), (Value.string a0_2), (Sl3.v a0_3)])]) ?_
  refine RS.dn ?_
  refine WS.nxt ?_
  refine WS.sq ?_
  refine WS.sq ?_
  refine WS.rg ?_
  refine RS.mS 1 [(6, .val (Value.agg #[(Value.int .i64 a0_0), (Value.int .i64 a0_1), (Value.string a0_2), (Sl3.v a0_3)]))] ?_
  obtain ⟨⟨x1, x2⟩, hx, h⟩ := bind_some h
  try dsimp only at h
  refine RS.cl (some 7) (v := (Value.tuple #[(Value.int .i64 x1), (Value.bool x2)])) 90 #[(Value.agg #[(Value.int .i64 a0_0), (Value.int .i64 a0_1), (Value.string a0_2), (Sl3.v a0_3)]), (Value.int .i64 1)] (sort_parts_ok hx) ?_
  refine RS.mS 5 [(4, .val (Value.bool x2)), (3, .val (Value.int .i64 x1)), (9, .val (Value.bool x2)), (8, .val (Value.int .i64 x1)), (5, .val (Value.tuple #[(Value.int .i64 x1), (Value.bool x2)]))] ?_
  refine RS.dn ?_
  refine WS.nxt ?_
  refine WS.sq ?_
  refine WS.rg ?_
  refine RS.mS 2 [(11, .val (Value.bool (!x2))), (10, .val (Value.bool x2))] ?_
  refine RS.dn ?_
  refine WS.nxt ?_
  rcases ite_some h with ⟨hp, h⟩ | ⟨hp, h⟩
  · refine WS.fx 11 false (nb_not hp) ?_
    refine WS.cF ?_
    refine WS.sk ?_
    refine WS.nxt ?_
    refine WS.sq ?_
    refine WS.sq ?_
    refine WS.rg ?_
    refine RS.mS 1 [(12, .val (Value.agg #[(Value.int .i64 a0_0), (Value.int .i64 a0_1), (Value.string a0_2), (Sl3.v a0_3)]))] ?_
    obtain ⟨x3, hx, h⟩ := bind_some h
    refine RS.cl (some 13) (v := (Value.bool x3)) 91 #[(Value.agg #[(Value.int .i64 a0_0), (Value.int .i64 a0_1), (Value.string a0_2), (Sl3.v a0_3)])] (sort_shaped_ok hx) ?_
    refine RS.mS 1 [(14, .val (Value.bool (!x3)))] ?_
    refine RS.dn ?_
    refine WS.nxt ?_
    rcases ite_some h with ⟨hp, h⟩ | ⟨hp, h⟩
    · refine WS.fx 14 false (nb_not hp) ?_
      refine WS.cF ?_
      refine WS.sk ?_
      refine WS.nxt ?_
      refine WS.sq ?_
      refine WS.rg ?_
      refine RS.mS 1 [(2, .val (Value.int .i64 0))] ?_
      refine RS.dn ?_
      refine WS.nxt ?_
      refine WS.rt ?_
      cases h
      exact fun a w hs => rtR (rS hs)
    · refine WS.fx 14 true (nb_not' hp) ?_
      refine WS.cT ?_
      cases h
  · refine WS.fx 11 true (nb_not' hp) ?_
    refine WS.cT ?_
    cases h

end Go.Proofs.YtccbilfbhecdaaaDoor.Aw

