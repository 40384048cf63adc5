/- Parts of the proof: an abstract interpreter of the loaded program and its soundness, printed functions, the law's own texts; part 2. No condition. -/
import Derived.Test.YtccbilfbhecdaaaDoorAp1
import Derived.LoopN
import Derived.Scope
import Derived.Recover
import Derived.ProofKit
import Derived.LaidLaws
import Derived.Deep.DeepLaidRun
import Derived.Lib.LaidTab
namespace Go.Abs

variable {P : Program} {m : Nat}

/-- The package-level variables keep their places. -/
def Glob (P : Program) (φ : Inj) : Prop := ∀ g, g < P.globals.size → ∃ l, φ g = some l ∧ l.blk = g ∧ l.off = 0

theorem Glob.mono {φ ψ : Inj} (h : Glob P φ) (hle : φ.le ψ) : Glob P ψ := fun g hg => let ⟨l, a, b, c⟩ := h g hg; ⟨l, hle _ _ a, b, c⟩

/-- What has been deferred. -/
inductive DR (φ : Inj) : List (FuncId × Array Value) → List Deferred → Prop where
  | nil : DR φ [] []
  | cons {f : FuncId} {args a1 cap : Array Value} {ds : List (FuncId × Array Value)} {l : List Deferred} (h : AR φ args (a1 ++ cap)) (ht : DR φ ds l) : DR φ ((f, args) :: ds) ({ target := .fn (.func f) cap, args := a1 } :: l)

theorem DR.mono {φ ψ : Inj} (hle : φ.le ψ) : ∀ {ds : List (FuncId × Array Value)} {l : List Deferred}, DR φ ds l → DR ψ ds l := by
  intro ds l h
  induction h with
  | nil => exact .nil
  | cons h _ ih => exact .cons ⟨h.1, fun i x y hx hy => (h.2 i x y hx hy).mono hle⟩ ih

/-- A frame and what it stands for. -/
structure SR (φ : Inj) (ss : Sl) (n : Fr) (a : Act) : Prop where
  slot : ∀ t, VR φ ((ss.get t).getD undef) (a.tmps.getD t undef)
  size : n.n ≤ a.tmps.size
  defers : DR φ n.ds a.defers

theorem SR.mono {φ ψ : Inj} (hle : φ.le ψ) {ss : Sl} {n : Fr} {a : Act} (h : SR φ ss n a) : SR ψ ss n a := ⟨fun t => (h.slot t).mono hle, h.size, h.defers.mono hle⟩

theorem vr_undef (φ : Inj) : VR φ undef undef := .tuple #[] #[] rfl fun i x y hx => by simp at hx

theorem SR.put {φ : Inj} {ss ss' : Sl} {n : Fr} {a : Act} {d : Option Tmp} {v v' : Value} (h : SR φ ss n a) (hp : putA n ss d v = some ss') (hv : VR φ v v') : SR φ ss' n (a.put d v') := by
  unfold putA at hp
  split at hp
  · rename_i d
    cases hb : Nat.blt d n.n with
    | false => rw [hb] at hp; cases hp
    | true =>
      rw [hb] at hp
      simp only [cond_true, Option.some.injEq] at hp
      subst hp
      have hlt : d < n.n := Nat.lt_of_lt_of_le (Nat.lt_succ_self _) (Nat.le_of_ble_eq_true hb)
      have hd : d < a.tmps.size := Nat.lt_of_lt_of_le hlt h.size
      refine ⟨fun t => ?_, by simpa [Act.put] using h.size, h.defers⟩
      by_cases e : t = d
      · subst e
        rw [Tr.get_set_same _ _ _ _ (by omega)]
        simp only [Act.put, Option.getD_some]
        rw [Array.getD_eq_getD_getElem?, Array.getElem?_setIfInBounds, if_pos rfl, if_pos hd]
        exact hv
      · rw [Tr.get_set_other _ _ _ _ _ (by omega) e]
        simp only [Act.put]
        rw [Array.getD_eq_getD_getElem?, Array.getElem?_setIfInBounds, if_neg (fun hh => e hh.symm), ← Array.getD_eq_getD_getElem?]
        exact h.slot t
  · cases hp
    exact h

theorem SR.eval {φ : Inj} {ss : Sl} {n : Fr} {a : Act} (h : SR φ ss n a) (hg : Glob P φ) {x : Operand} (hx : okx P x = true) : VR φ (evalA ss x) (a.eval x) := by
  cases x with
  | tmp t => exact h.slot t
  | const v => exact flat_refl depth hx
  | global g =>
    have hlt : g < P.globals.size := Nat.lt_of_lt_of_le (Nat.lt_succ_self _) (Nat.le_of_ble_eq_true hx)
    obtain ⟨l, h1, h2, h3⟩ := hg g hlt
    have := VR.ptr (φ := φ) g 0 l h1
    rw [h2, h3] at this
    exact this
  | func f => exact .func (.func f) #[] #[] #[] #[] rfl rfl (fun i x y hx => by simp at hx) (fun i x y hx => by simp at hx)

/-- What a call comes to. -/
def CallOK (P : Program) (m : Nat) (φ : Inj) (H : AH) (w : World) (v : Value) (H' : AH) (f : FuncId) (args : Array Value) : Prop :=
  Calls P f args w fun e w' => ∃ φ' v', e = .returned v' ∧ VR φ' v v' ∧ Inv φ' H' w' ∧ Step m φ H w φ' H' w'

/-- What is asked of a program: its regions draw as the model has it, the number of abi.NoEscape, no function of its own under a name that the model answers for. -/
structure Sane (P : Program) (ne : NE) : Prop where
  mixed : P.follows .mixedOrders = true
  noNum : ∀ (f : Nat) (fn : Func), P.funcs[f]? = some fn → fn.body.isSome = true → (fn.name == "runtime.NumGoroutine") = false
  esc : (P.funcs[ne.esc]?).isSome = true → ∀ x w, (callFunc ne.esc #[x]).run P w = .ok (.value x) w
  orc : ∀ f args H v H', ne.orc f args H = some (v, H') → (∃ fn c, P.funcs[f]? = some fn ∧ fn.body = some c) ∧ ∀ m φ w args', Glob P φ → AR φ args args' → Inv φ H w → CallOK P m φ H w v H' f args'

def toExit : AExit → Exit
  | .normal => .normal
  | .exit id => .exit id
  | .goto l => .goto l
  | .ret => .ret

/-- What a code comes to. -/
def CodePost (P : Program) (m : Nat) (φ : Inj) (H : AH) (w : World) (e : AExit) (st' : ASt) : Exit → Act → World → Prop :=
  fun e' a' w' => ∃ φ', e' = toExit e ∧ SR φ' st'.ss st'.n a' ∧ Inv φ' st'.H w' ∧ Step m φ H w φ' st'.H w'

def Good (P : Program) (ih : Ex) : Prop := ∀ (m : Nat) (c : Code) (st : ASt) (e : AExit) (st' : ASt), ih m c st = some (e, st') →
  ∀ (φ : Inj) (a : Act) (w : World), Glob P φ → SR φ st.ss st.n a → Inv φ st.H w → c.wp P (CodePost P m φ st.H w e st') a w

theorem aLoad_run {φ : Inj} {H : AH} {w : World} {t : TypeId} {q q' : Addr} {v : Value} (hi : Inv φ H w) (h : aLoad P t q H = some v) (hq : AddrR φ q q') : ∃ v', (loadVar t q').run P w = .ok v' w ∧ VR φ v v' := by
  unfold aLoad at h
  split at h
  · rename_i d i hu hii
    have hagg : (isAgg t).run P w = .ok (isAggD d) w := by
      simp only [isAgg, Sem.run_bind, run_und hu, Result.andThen_ok]
      cases d <;> rfl
    cases hd : isAggD d with
    | true =>
      rw [hd] at h hagg
      simp only [cond_true] at h
      cases hr : rdCells H q 0 i.size with
      | none => rw [hr] at h; cases h
      | some l =>
        rw [hr] at h
        simp only [Option.some.injEq] at h
        subst h
        obtain ⟨hl, l', h1, h2⟩ := rd_run hi hq _ 0 l hr
        have hrun := run_loadCells_list (P := P) w q' l' (fun j u hu => by have := h2 j u hu; rwa [Nat.zero_add] at this)
        rw [← LR.length h1, hl] at hrun
        refine ⟨.agg l'.toArray, ?_, ?_⟩
        · simp only [loadVar, Sem.run_bind, hagg, Result.andThen_ok, if_true, run_size hii, hrun, Sem.run_pure]
        · have := AR_iff.2 (show LR φ l.toArray.toList l'.toArray.toList by simpa using h1)
          exact .agg _ _ this.1 this.2
    | false =>
      rw [hd] at h hagg
      simp only [cond_false] at h
      obtain ⟨v', h1, h2⟩ := hi.cell h hq
      refine ⟨v', ?_, h2⟩
      simp only [loadVar, Sem.run_bind, hagg, Result.andThen_ok, Bool.false_eq_true, if_false]
      simp [h1]
  · cases h

def resV (tmps : Array Value) : ResultVar → Sem Value
  | .tmp t => pure (tmps.getD t undef)
  | .cell a t => do loadVar t (← asAddr (tmps.getD a undef))

theorem results_eq (fn : Func) (tmps : Array Value) : results fn tmps = (fn.results.mapM (resV tmps) >>= fun vs => pure (if h : vs.size = 1 then vs[0] else .tuple vs)) := rfl

theorem resultsA_run {φ : Inj} {w : World} {st : ASt} {a : Act} (hs : SR φ st.ss st.n a) (hi : Inv φ st.H w) : ∀ (l : List ResultVar) (vs : List Value), resultsA P st l = some vs →
    ∃ vs', (l.mapM (resV a.tmps)).run P w = .ok vs' w ∧ LR φ vs vs' := by
  intro l
  induction l with
  | nil => intro vs h; simp only [resultsA, Option.some.injEq] at h; subst h; exact ⟨[], rfl, .nil⟩
  | cons x l ih =>
    intro vs h
    cases x with
    | tmp t =>
      simp only [resultsA] at h
      cases hr : resultsA P st l with
      | none => rw [hr] at h; cases h
      | some us =>
        rw [hr] at h
        simp only [Option.some.injEq] at h
        subst h
        obtain ⟨us', h1, h2⟩ := ih us hr
        refine ⟨a.tmps.getD t undef :: us', ?_, .cons (hs.slot t) h2⟩
        rw [List.mapM_cons]
        have hA : (resV a.tmps (.tmp t)).run P w = .ok (a.tmps.getD t undef) w := rfl
        simp only [Sem.run_bind, hA, Sem.run_pure, Result.andThen_ok, h1]
    | cell p t =>
      simp only [resultsA] at h
      split at h
      · rename_i q us hq hr
        cases hl : aLoad P t q st.H with
        | none => rw [hl] at h; cases h
        | some v =>
          rw [hl] at h
          simp only [Option.some.injEq] at h
          subst h
          obtain ⟨us', h1, h2⟩ := ih us hr
          have hp := hs.slot p
          have hq' : (st.ss.get p).getD undef = .pointer (some q) := hq
          rw [hq'] at hp
          obtain ⟨q', hq2, hqa⟩ := hp.ptr_inv
          obtain ⟨v', h3, h4⟩ := aLoad_run hi hl hqa
          refine ⟨v' :: us', ?_, .cons h4 h2⟩
          rw [List.mapM_cons]
          have hA : (resV a.tmps (.cell p t)).run P w = .ok v' w := by
            simp only [resV, Sem.run_bind, hq2]
            exact h3
          simp only [Sem.run_bind, hA, Sem.run_pure, Result.andThen_ok, h1]
      · cases h

theorem resultA_run {φ : Inj} {w : World} {st : ASt} {a : Act} {fn : Func} {v : Value} {H' : AH} (hs : SR φ st.ss st.n a) (hi : Inv φ st.H w) (h : resultA P fn st = some (v, H')) :
    H' = st.H ∧ ∃ v', (results fn a.tmps).run P w = .ok v' w ∧ VR φ v v' := by
  unfold resultA at h
  cases hr : resultsA P st fn.results.toList with
  | none => rw [hr] at h; cases h
  | some vs =>
    rw [hr] at h
    obtain ⟨vs', h1, h2⟩ := resultsA_run hs hi _ _ hr
    have h3 : (fn.results.mapM (resV a.tmps)).run P w = .ok vs'.toArray w := by
      rw [Array.mapM_eq_mapM_toList]
      show Sem.run P (List.toArray <$> _) w = _
      rw [Sem.run_map, h1]; rfl
    have h4 : ∀ r : Value, (if h : vs'.toArray.size = 1 then vs'.toArray[0] else .tuple vs'.toArray) = r → (results fn a.tmps).run P w = .ok r w := by
      intro r hr
      rw [results_eq, Sem.run_bind, h3, Result.andThen_ok, hr]; rfl
    cases h2 with
    | nil =>
      simp only [Option.some.injEq, Prod.mk.injEq] at h
      obtain ⟨rfl, rfl⟩ := h
      exact ⟨rfl, _, h4 _ rfl, .tuple _ _ rfl fun i x y hx => by simp at hx⟩
    | cons hv ht =>
      cases ht with
      | nil =>
        simp only [Option.some.injEq, Prod.mk.injEq] at h
        obtain ⟨rfl, rfl⟩ := h
        exact ⟨rfl, _, h4 _ rfl, hv⟩
      | cons hv2 ht2 =>
        simp only [Option.some.injEq, Prod.mk.injEq] at h
        obtain ⟨rfl, rfl⟩ := h
        refine ⟨rfl, _, h4 _ rfl, ?_⟩
        rw [dif_neg (by simp)]
        have hall : LR φ _ _ := F2.cons hv (F2.cons hv2 ht2)
        have := AR_iff.2 (show LR φ (List.toArray _).toList (List.toArray _).toList by simpa using hall)
        exact .tuple _ _ this.1 this.2

theorem ofArgs_get : ∀ (l : List Value) (i : Nat) (t : Sl) (j : Nat), (∀ k, i ≤ k → t.get k = none) → (ofArgs i l t).get j = if j < i then t.get j else l[j - i]? := by
  intro l
  induction l with
  | nil =>
    intro i t j h
    simp only [ofArgs]
    split
    · rfl
    · rename_i hj; rw [h j (by omega)]; simp
  | cons v l ih =>
    intro i t j h
    simp only [ofArgs]
    rw [ih (i + 1) _ j (fun k hk => by rw [Tr.get_set_other _ _ _ _ _ (by omega) (by omega)]; exact h k (by omega))]
    by_cases hj : j < i
    · rw [if_pos (by omega), if_pos hj, Tr.get_set_other _ _ _ _ _ (by omega) (by omega)]
    · rw [if_neg hj]
      by_cases hji : j = i
      · subst hji
        rw [if_pos (by omega), Tr.get_set_same _ _ _ _ (by omega)]
        simp
      · rw [if_neg (by omega)]
        rw [show j - i = (j - (i + 1)) + 1 by omega]
        simp

theorem SR.enter {φ : Inj} {args args' : Array Value} (ha : AR φ args args') (n : Nat) : SR φ (ofArgs 0 args.toList .nil) ⟨n, []⟩ { tmps := args' ++ Array.replicate (n - args'.size) undef, defers := [] } := by
  refine ⟨fun t => ?_, by simp; omega, .nil⟩
  rw [ofArgs_get _ _ _ _ (fun k _ => rfl)]
  simp only [Nat.not_lt_zero, if_false, Nat.sub_zero]
  rw [Array.getElem?_toList]
  rw [Array.getD_eq_getD_getElem?, Array.getElem?_append]
  cases hx : args[t]? with
  | none =>
    have hge : args.size ≤ t := by rwa [Array.getElem?_eq_none_iff] at hx
    rw [if_neg (by have := ha.1; omega)]
    rw [Array.getElem?_replicate]
    split <;> exact vr_undef φ
  | some x =>
    obtain ⟨y, hy, hv⟩ := ha.get hx
    have hlt : t < args'.size := by rw [Array.getElem?_eq_some_iff] at hy; exact hy.1
    rw [if_pos hlt, hy]
    exact hv

theorem run_callFunc_body {ne : NE} (hS : Sane P ne) {f : Nat} {fn : Func} {c : Code} (hf : P.funcs[f]? = some fn) (hb : fn.body = some c) (args : Array Value) (w : World) : (callFunc f args).run P w = .ok (.enter f args) w := by
  have hn := hS.noNum f fn hf (by rw [hb]; rfl)
  rw [beq_eq_false_iff_ne] at hn
  simp [callFunc, hf, hb, hn]

theorem dOps_ok {φ : Inj} {w : World} {ops : Array Oper} {cs : List Frame} {Q : Exit → Act → List Frame → World → Prop} (hg : Glob P φ) (hcs : recoverD cs = none) : ∀ (l : List Oper) (k : Nat) {st st' : ASt} {a : Act}, (∀ j, l[j]? = ops[k + j]?) →
    dOps P l st = some st' → SR φ st.ss st.n a → (∀ a', SR φ st'.ss st'.n a' → Q .normal a' cs w) → st'.H = st.H ∧ wpOpsS P ops Q (List.range' k l.length) a cs w := by
  intro l
  induction l with
  | nil =>
    intro k st st' a _ h hs hn
    simp only [dOps, Option.some.injEq] at h
    subst h
    exact ⟨rfl, hn a hs⟩
  | cons o l ih =>
    intro k st st' a hl h hs hn
    have hoi : ops[k]? = some o := by have := hl 0; simpa using this.symm
    have hl' : ∀ j, l[j]? = ops[k + 1 + j]? := fun j => by
      have := hl (j + 1)
      rw [show k + 1 + j = k + (j + 1) by omega, ← this]
      simp
    rw [List.length_cons, List.range'_succ]
    simp only [dOps] at h
    cases hgd : o.guard with
    | some jw => rw [hgd] at h; cases h
    | none =>
      rw [hgd] at h
      simp only at h
      have hwt : Region.wanted o (yielded ops a.tmps) = true := by unfold Region.wanted; rw [hgd]
      simp only [wpOpsS, hoi, hwt, if_true]
      cases hr : recoverOp o with
      | true =>
        rw [hr] at h
        simp only [cond_true] at h
        cases hp : putA st.n st.ss o.dst .nilIface with
        | none => rw [hp] at h; cases h
        | some ss1 =>
          rw [hp] at h
          simp only at h
          have hrun : (execOp a.eval o).run P w = .ok .recover w := by
            obtain ⟨dst, op, ty, pos, after, guard⟩ := o
            unfold recoverOp at hr
            simp only at hr
            split at hr
            · rfl
            · cases hr
          rw [hrun]
          simp only [hcs]
          exact ih (k + 1) (st := ⟨ss1, st.n, st.H⟩) hl' h (hs.put hp .nilIface) hn
      | false =>
        rw [hr] at h
        simp only [cond_false] at h
        have key : ∀ x, (o.op = .move x ∨ o.op = .assign x) → (match (bif okx P x then some (evalA st.ss x) else none) with
            | some v => match putA st.n st.ss o.dst v with
              | some ss => dOps P l ⟨ss, st.n, st.H⟩
              | none => none
            | none => none) = some st' → st'.H = st.H ∧ (match (execOp a.eval o).run P w with
              | .ok .recover w' =>
                match recoverD cs with
                | some (v, cs') => wpOpsS P ops Q (List.range' (k + 1) l.length) (a.put o.dst v) cs' w'
                | none => wpOpsS P ops Q (List.range' (k + 1) l.length) (a.put o.dst .nilIface) cs w'
              | r => o.upon P a (fun a' w' => wpOpsS P ops Q (List.range' (k + 1) l.length) a' cs w') (fun e a' w' => Q e a' cs w') r) := by
          intro x hx h
          cases hk : okx P x with
          | false => rw [hk] at h; cases h
          | true =>
            rw [hk] at h
            simp only [cond_true] at h
            cases hp : putA st.n st.ss o.dst (evalA st.ss x) with
            | none => rw [hp] at h; cases h
            | some ss1 =>
              rw [hp] at h
              simp only at h
              have hrun : (execOp a.eval o).run P w = .ok (.value (a.eval x)) w := by
                rcases hx with hx | hx <;> (unfold execOp; rw [hx]; rfl)
              rw [hrun]
              exact ih (k + 1) (st := ⟨ss1, st.n, st.H⟩) hl' h (hs.put hp (hs.eval hg hk)) hn
        split at h
        · rename_i v hv
          split at hv
          · rename_i x hx; exact key x (.inl hx) (by rw [hv]; exact h)
          · rename_i x hx; exact key x (.inr hx) (by rw [hv]; exact h)
          · cases hv
        · cases h

/-- What a deferred call comes to. -/
theorem dFin_ok {φ φ1 : Inj} {H H1 : AH} {w w1 : World} {fn : Func} {e : AExit} {st : ASt} {a1 : Act} (h : dFin P fn (some (e, st)) = some H1) (hs : SR φ1 st.ss st.n a1) (hi : Inv φ1 st.H w1) (hst : Step m φ H w φ1 st.H w1) :
    (e = .normal ∨ e = .ret) ∧ st.H = H1 ∧ a1.defers = [] ∧ ∃ v, (results fn a1.tmps).run P w1 = .ok v w1 := by
  have key : (match st.n.ds, resultA P fn st with
    | [], some (_, H) => some H
    | _, _ => none) = some H1 → st.H = H1 ∧ a1.defers = [] ∧ ∃ v, (results fn a1.tmps).run P w1 = .ok v w1 := by
    intro h
    split at h
    · rename_i v H2 hd hr
      simp only [Option.some.injEq] at h
      subst h
      obtain ⟨e1, v', h1, h2⟩ := resultA_run hs hi hr
      have hd1 := hs.defers
      rw [hd] at hd1
      cases hq : a1.defers with
      | nil => exact ⟨e1.symm, rfl, v', h1⟩
      | cons x y => rw [hq] at hd1; cases hd1
    · cases h
  cases e with
  | normal => exact ⟨.inl rfl, key h⟩
  | ret => exact ⟨.inr rfl, key h⟩
  | _ => cases h

theorem callD_ok {ih : Ex} (hG : Good P ih) {f : Nat} {args args' : Array Value} {H H1 : AH} (h : callD P ih m f args H = some H1) {φ : Inj} {w : World} (hg : Glob P φ) (ha : AR φ args args') (hi : Inv φ H w) :
    ∃ fn c, P.funcs[f]? = some fn ∧ fn.body = some c ∧ CallsD P f args' .returning w fun e u' w' => ∃ v φ1, e = .returned v ∧ u' = .returning ∧ Inv φ1 H1 w' ∧ Step m φ H w φ1 H1 w' := by
  unfold callD at h
  cases hf : P.funcs[f]? with
  | none => rw [hf] at h; cases h
  | some fn =>
    rw [hf] at h
    simp only at h
    cases hb : fn.body with
    | none => rw [hb] at h; cases h
    | some c =>
      rw [hb] at h
      simp only at h
      refine ⟨fn, c, rfl, hb, ?_⟩
      have plain : dFin P fn (ih m c ⟨ofArgs 0 args.toList .nil, ⟨fn.ntmps, []⟩, H⟩) = some H1 → CallsD P f args' .returning w fun e u' w' => ∃ v φ1, e = .returned v ∧ u' = .returning ∧ Inv φ1 H1 w' ∧ Step m φ H w φ1 H1 w' := by
        intro h
        cases he : ih m c ⟨ofArgs 0 args.toList .nil, ⟨fn.ntmps, []⟩, H⟩ with
        | none => rw [he] at h; cases h
        | some r =>
          obtain ⟨e, st⟩ := r
          rw [he] at h
          have hw := hG m c _ e st he φ _ w hg (SR.enter ha fn.ntmps) hi
          refine (callsD_of_wp (u := .returning) hf hb (R := fun e w' => ∃ v φ1, e = .returned v ∧ Inv φ1 H1 w' ∧ Step m φ H w φ1 H1 w') (wp_mono hw fun e' a' w' hpost => ?_)).mono fun e u' w' hh => ?_
          · obtain ⟨φ', rfl, hs, hi', hst⟩ := hpost
            obtain ⟨h1, h2, h3, v, h4⟩ := dFin_ok h hs hi' hst
            subst h2
            rcases h1 with rfl | rfl
            · exact ⟨h3, v, h4, v, φ', rfl, hi', hst⟩
            · exact ⟨h3, v, h4, v, φ', rfl, hi', hst⟩
          · obtain ⟨rfl, v, φ1, h1, h2, h3⟩ := hh
            exact ⟨v, φ1, h1, rfl, h2, h3⟩
      split at h
      · rename_i id ops b
        cases hrec : ops.toList.any recoverOp with
        | false => rw [hrec] at h; exact plain h
        | true =>
          rw [hrec] at h
          simp only [cond_true] at h
          cases hd : dOps P ops.toList ⟨ofArgs 0 args.toList .nil, ⟨fn.ntmps, []⟩, H⟩ with
          | none => rw [hd] at h; cases h
          | some st1 =>
            rw [hd] at h
            simp only at h
            refine callsD_of_wpS hf hb fun c₀ cs hu => ?_
            refine wpS_seq (wpS_region ?_)
            have hcs : recoverD (c₀ :: cs) = none := by simp [recoverD, hu]
            have := dOps_ok (P := P) (w := w) (ops := ops) (cs := c₀ :: cs) (Q := Exit.thenS (b.wpS P (bodyPostS P fn c₀ cs fun e u' w' => ∃ v φ1, e = .returned v ∧ u' = .returning ∧ Inv φ1 H1 w' ∧ Step m φ H w φ1 H1 w')) (bodyPostS P fn c₀ cs fun e u' w' => ∃ v φ1, e = .returned v ∧ u' = .returning ∧ Inv φ1 H1 w' ∧ Step m φ H w φ1 H1 w')) hg hcs ops.toList 0 (fun j => by rw [Nat.zero_add]; simp) hd (SR.enter ha fn.ntmps)
            have hst1 : st1.H = H := by
              have hd' : ∀ (l : List Oper) (st st' : ASt), dOps P l st = some st' → st'.H = st.H := by
                intro l
                induction l with
                | nil => intro st st' h; simp only [dOps, Option.some.injEq] at h; subst h; rfl
                | cons o l ih =>
                  intro st st' h
                  simp only [dOps] at h
                  split at h
                  · cases h
                  · split at h
                    · split at h
                      · rename_i ss1 _; exact ih ⟨ss1, st.n, st.H⟩ _ h
                      · cases h
                    · cases h
              exact hd' _ _ _ hd
            have fin := (this fun a' hs' => ?_).2
            · rw [List.range_eq_range']
              simpa using fin
            · show b.wpS P _ a' (c₀ :: cs) w
              cases he : ih m b st1 with
              | none => rw [he] at h; cases h
              | some r =>
                obtain ⟨e, st⟩ := r
                rw [he] at h
                have hw := hG m b _ e st he φ a' w hg hs' (by rw [hst1]; exact hi)
                refine wpS_of_wp (wp_mono hw fun e' a2 w2 hpost => ?_)
                obtain ⟨φ', rfl, hs2, hi2, hst2⟩ := hpost
                rw [hst1] at hst2
                obtain ⟨h1, h2, h3, v, h4⟩ := dFin_ok h hs2 hi2 hst2
                subst h2
                have hc : ({ c₀ with mode := .returning } : Frame) = c₀ := by cases c₀; simp only at hu; subst hu; rfl
                rcases h1 with rfl | rfl
                · exact ⟨h3, .returning, by rw [hc], v, h4, v, φ', rfl, rfl, hi2, hst2⟩
                · exact ⟨h3, .returning, by rw [hc], v, h4, v, φ', rfl, rfl, hi2, hst2⟩
      · exact plain h

theorem leave_ok {ne : NE} (hS : Sane P ne) {ih : Ex} (hG : Good P ih) {fn : Func} {R : Ending → World → Prop} {v : Value} {H' : AH} {a : Act} : ∀ (ds : List (FuncId × Array Value)) {l : List Deferred} {st : ASt} {φ : Inj} {w : World}, leaveA P ih m fn ds st = some (v, H') →
    DR φ ds l → Glob P φ → SR φ st.ss st.n a → Inv φ st.H w → (∀ φ' v' w', VR φ' v v' → Inv φ' H' w' → Step m φ st.H w φ' H' w' → R (.returned v') w') → Leaves P fn a.tmps R l .returning w := by
  intro ds
  induction ds with
  | nil =>
    intro l st φ w h hd hg hs hi hR
    cases hd
    obtain ⟨rfl, v', h1, h2⟩ := resultA_run hs hi h
    exact ⟨v', h1, hR φ v' w h2 hi (Step.refl _ _ _ _)⟩
  | cons x ds ihd =>
    intro l st φ w h hd hg hs hi hR
    cases hd with
    | cons hx ht =>
      rename_i f args a1 cap l'
      simp only [leaveA] at h
      cases hc : callD P ih m f args st.H with
      | none => rw [hc] at h; cases h
      | some H1 =>
        rw [hc] at h
        simp only at h
        obtain ⟨fn', c', hf', hb', hcd⟩ := callD_ok hG hc hg hx hi
        refine leaves_cons (by intro hh; cases hh) (f := f) (args := a1 ++ cap) (run_callFunc_body hS hf' hb' _ w) (hcd.mono fun e u' w' hh => ?_)
        obtain ⟨v0, φ1, rfl, rfl, hi1, hst1⟩ := hh
        exact ihd h (ht.mono hst1.ext) (hg.mono hst1.ext) (hs.mono hst1.ext) hi1 fun φ' v' w2 g1 g2 g3 => hR φ' v' w2 g1 g2 (hst1.trans hi g3)

theorem acallFn_body {ne : NE} (hS : Sane P ne) {ih : Ex} (hG : Good P ih) {f : Nat} {fn : Func} {c : Code} (hf : P.funcs[f]? = some fn) (hb : fn.body = some c) {args args' : Array Value} {H H' : AH} {v : Value}
    (h : acallFn P ne ih m f args H = some (v, H')) {φ : Inj} {w : World} (hg : Glob P φ) (ha : AR φ args args') (hi : Inv φ H w) : CallOK P m φ H w v H' f args' := by
  unfold acallFn at h
  cases hor : ne.orc f args H with
  | some r =>
    rw [hor] at h
    simp only [Option.some.injEq] at h
    subst h
    exact (hS.orc f args H v H' hor).2 m φ w args' hg ha hi
  | none =>
  rw [hor, hf] at h
  simp only [hb] at h
  cases he : ih m c ⟨ofArgs 0 args.toList .nil, ⟨fn.ntmps, []⟩, H⟩ with
  | none => rw [he] at h; cases h
  | some r =>
    obtain ⟨e, st⟩ := r
    rw [he] at h
    have hw := hG m c _ e st he φ _ w hg (SR.enter ha fn.ntmps) hi
    refine calls_of_wp_defers hf hb (wp_mono hw fun e' a' w' hpost => ?_)
    obtain ⟨φ', rfl, hs, hi', hst⟩ := hpost
    cases e with
    | normal => exact leave_ok hS hG _ h hs.defers (hg.mono hst.ext) hs hi' fun φ2 v2 w2 g1 g2 g3 => ⟨φ2, v2, rfl, g1, g2, hst.trans hi g3⟩
    | ret => exact leave_ok hS hG _ h hs.defers (hg.mono hst.ext) hs hi' fun φ2 v2 w2 g1 g2 g3 => ⟨φ2, v2, rfl, g1, g2, hst.trans hi g3⟩
    | _ => cases h

end Go.Abs


namespace Go.Abs

variable {P : Program} {m : Nat}

theorem wp_of_opOK {φ : Inj} {H H' : AH} {w : World} {v : Value} {o : Oper} {a : Act} {next : Act → World → Prop} {Q : Exit → Act → World → Prop} (h : OpOK P m φ H w v H' (execOp a.eval o))
    (hn : ∀ φ' v' w', VR φ' v v' → Inv φ' H' w' → Step m φ H w φ' H' w' → next (a.put o.dst v') w') : o.wp P a w next Q := by
  obtain ⟨φ', w', nx, h1, h2, h3, h4⟩ := h
  unfold Oper.wp
  rw [h1]
  rcases h4 with ⟨v', rfl, h5⟩ | ⟨rfl, rfl⟩
  · exact hn φ' v' w' h5 h2 h3
  · exact hn φ' undef w' (vr_undef _) h2 h3

theorem sim_lenOf {φ : Inj} {v v' : Value} (h : VR φ v v') : Sim P m (fun _ p q => p = q ∧ p ≤ (match v with | .slice _ k _ => k | _ => p)) φ (Builtin.lenOf v) (Builtin.lenOf v') := by
  cases h <;> first | exact sim_pure ⟨rfl, Nat.le_refl _⟩ | exact sim_halt

theorem sim_firstCells0 {φ : Inj} (size : Nat) {v v' : Value} (h : VR φ v v') : Sim P m (fun _ c c' => c = #[] ∧ c' = #[]) φ (Builtin.firstCells size 0 v) (Builtin.firstCells size 0 v') := by
  have nul : ∀ b a : Addr, Sim P m (fun _ c c' => c = #[] ∧ c' = #[]) φ (loadCells b (0 * size)) (loadCells a (0 * size)) := by
    intro b a; rw [Nat.zero_mul]; exact sim_pure ⟨rfl, rfl⟩
  cases h with
  | slice b o n c l1 hl hc => exact nul _ _
  | sliceOpen b o n c l1 hl hn hc => exact nul _ _
  | sliceEnd b o l1 a hl => exact nul _ _
  | sliceZero b o l1 a hl => exact nul _ _
  | sliceNil n c => exact sim_pure ⟨rfl, rfl⟩
  | string s => exact sim_pure ⟨by apply Array.ext'; simp, by apply Array.ext'; simp⟩
  | _ => exact sim_halt

theorem sim_firstCells {φ : Inj} (size n : Nat) {v v' : Value} (h : VR φ v v') (hn : n ≤ (match v with | .slice _ k _ => k | _ => n)) : Sim P m AR φ (Builtin.firstCells size n v) (Builtin.firstCells size n v') := by
  have nul : ∀ b a : Addr, n = 0 → Sim P m AR φ (loadCells b (n * size)) (loadCells a (n * size)) := by
    intro b a e; subst e; rw [Nat.zero_mul]; exact sim_pure (AR.empty _)
  cases h with
  | slice b o n c l1 hl hc => exact sim_loadCells _ ⟨rfl, l1, hl, rfl⟩
  | sliceOpen b o n c l1 hl hn hc => exact sim_loadCells _ ⟨rfl, l1, hl, rfl⟩
  | sliceEnd b o l1 a hl => exact nul _ _ (Nat.le_zero.1 hn)
  | sliceZero b o l1 a hl => exact nul _ _ (Nat.le_zero.1 hn)
  | sliceNil n c => exact sim_pure (AR.empty _)
  | string s => exact sim_pure (AR.map _ _ _ fun x hx => .int _ _)
  | _ => exact sim_halt

theorem sim_copy {φ : Inj} (ts : Array TypeId) (ty : TypeId) {x y x' y' : Value} (hx : VR φ x x') (hy : VR φ y y') : Sim P m VR φ (Builtin.copy_ ts ty #[x, y]) (Builtin.copy_ ts ty #[x', y']) := by
  unfold Builtin.copy_
  cases hts : ts[0]? with
  | none => exact sim_halt
  | some t =>
    simp only [List.getElem?_toArray, List.getElem?_cons_zero, List.getElem?_cons_succ]
    refine sim_bind (sim_underlying t) fun φ1 h1 d d' e => ?_
    cases e
    cases d with
    | slice elem =>
      simp only
      have hx1 := hx.mono h1
      have tail : ∀ (b b' : Option Addr) (n : Nat), ((b = none ∧ b' = none) ∨ ∃ a a', b = some a ∧ b' = some a' ∧ (n = 0 ∨ AddrR φ1 a a')) → Sim P m VR φ1
          (do
            let __do_lift ← Builtin.lenOf y
            let size ← sizeOf elem
            let cells ← Builtin.firstCells size (Nat.min __do_lift n) y
            match b with
              | some a => do
                storeCells a cells.toList
                pure (goInt ↑(Nat.min __do_lift n))
              | x => pure (goInt ↑(Nat.min __do_lift n)))
          (do
            let __do_lift ← Builtin.lenOf y'
            let size ← sizeOf elem
            let cells ← Builtin.firstCells size (Nat.min __do_lift n) y'
            match b' with
              | some a => do
                storeCells a cells.toList
                pure (goInt ↑(Nat.min __do_lift n))
              | x => pure (goInt ↑(Nat.min __do_lift n))) := by
        intro b b' n hb
        have hy1 := hy.mono h1
        refine sim_bind (sim_lenOf hy1) fun φ2 h2 p q e => ?_
        obtain ⟨rfl, hp⟩ := e
        refine sim_bind (sim_sizeOf elem) fun φ3 h3 s s' e => ?_
        cases e
        have hy3 := (hy1.mono h2).mono h3
        rcases hb with ⟨rfl, rfl⟩ | ⟨a, a', rfl, rfl, ha⟩
        · refine sim_bind (sim_firstCells s (Nat.min p n) hy3 ?_) fun φ4 h4 c c' hc => sim_pure (.int _ _)
          cases y <;> simp only [Nat.le_refl]
          exact Nat.le_trans (Nat.min_le_left _ _) hp
        · rcases ha with rfl | ha
          · have e0 : Nat.min p 0 = 0 := Nat.min_zero p
            rw [e0]
            refine sim_bind (sim_firstCells0 s hy3) fun φ4 h4 c c' hc => ?_
            obtain ⟨rfl, rfl⟩ := hc
            exact sim_bind (R := EqR Unit) (sim_pure rfl) fun φ5 h5 _ _ _ => sim_pure (.int _ _)
          · refine sim_bind (sim_firstCells s (Nat.min p n) hy3 ?_) fun φ4 h4 c c' hc => ?_
            · cases y <;> simp only [Nat.le_refl]
              exact Nat.le_trans (Nat.min_le_left _ _) hp
            · exact sim_bind (sim_storeCells _ _ 0 (((ha.mono h2).mono h3).mono h4) (AR_iff.1 hc)) fun φ5 h5 _ _ _ => sim_pure (.int _ _)
      cases hx1 with
      | sliceNil n c => exact tail none none n (.inl ⟨rfl, rfl⟩)
      | slice b o n c l1 hl hc => exact tail _ _ n (.inr ⟨_, _, rfl, rfl, .inr ⟨rfl, l1, hl, rfl⟩⟩)
      | sliceOpen b o n c l1 hl hn hc => exact tail _ _ n (.inr ⟨_, _, rfl, rfl, .inr ⟨rfl, l1, hl, rfl⟩⟩)
      | sliceEnd b o l1 a hl => exact tail _ _ 0 (.inr ⟨_, _, rfl, rfl, .inl rfl⟩)
      | sliceZero b o l1 a hl => exact tail _ _ 0 (.inr ⟨_, _, rfl, rfl, .inl rfl⟩)
      | _ => exact sim_halt
    | _ => exact sim_halt

theorem calls_returned {φ : Inj} {H H' : AH} {w : World} {v : Value} {f : Nat} {args : Array Value} {dst : Option Tmp} {a : Act} {next : Act → World → Prop} {Q : Exit → Act → World → Prop} (h : CallOK P m φ H w v H' f args)
    (hn : ∀ φ' v' w', VR φ' v v' → Inv φ' H' w' → Step m φ H w φ' H' w' → next (a.put dst v') w') :
    Calls P f args w fun
      | .returned v, w'' => next (a.put dst v) w''
      | .panicked chain, w'' => Q (.panic chain) a w''
      | .outgrown, _ => LetsOut Q := by
  refine h.mono fun e w' hh => ?_
  obtain ⟨φ', v', rfl, h1, h2, h3⟩ := hh
  exact hn φ' v' w' h1 h2 h3

theorem flat_all {φ : Inj} {args args' : Array Value} (h : args.all (flat depth) = true) (ha : AR φ args args') : args = args' := by
  refine Array.ext ha.1 fun i h1 h2 => ?_
  rw [Array.all_eq_true] at h
  exact flat_eq depth (h i h1) (ha.2 i _ _ (Array.getElem?_eq_getElem h1) (Array.getElem?_eq_getElem h2))

/-- A call of a function by its number. -/
theorem callFn_wp {ne : NE} (hS : Sane P ne) {ih : Ex} (hG : Good P ih) {f : Nat} {args args' : Array Value} {H H' : AH} {v : Value} (h : acallFn P ne ih m f args H = some (v, H')) {φ : Inj} {w : World} (hg : Glob P φ) (ha : AR φ args args') (hi : Inv φ H w)
    {o : Oper} {a : Act} {next : Act → World → Prop} {Q : Exit → Act → World → Prop} (hn : ∀ φ' v' w', VR φ' v v' → Inv φ' H' w' → Step m φ H w φ' H' w' → next (a.put o.dst v') w') :
    o.upon P a next Q ((callFunc f args').run P w) := by
  have h0 := h
  unfold acallFn at h
  cases hor : ne.orc f args H with
  | some r =>
    rw [hor] at h
    simp only [Option.some.injEq] at h
    subst h
    obtain ⟨⟨fn, c, hf, hb⟩, hc⟩ := hS.orc f args H v H' hor
    rw [run_callFunc_body hS hf hb]
    exact calls_returned (hc m φ w args' hg ha hi) hn
  | none =>
  rw [hor] at h
  simp only at h
  cases hf : P.funcs[f]? with
  | none => rw [hf] at h; cases h
  | some fn =>
    rw [hf] at h
    simp only at h
    cases hb : fn.body with
    | some c =>
      rw [run_callFunc_body hS hf hb]
      exact calls_returned (acallFn_body hS hG hf hb h0 hg ha hi) hn
    | none =>
      rw [hb] at h
      simp only at h
      cases hfl : args.all (flat depth) with
      | true =>
        rw [hfl] at h
        simp only [cond_true] at h
        have he := flat_all hfl ha
        subst he
        cases hp : peval P (callFunc f args) with
        | none => rw [hp] at h; cases h
        | some nx =>
          rw [hp] at h
          rw [peval_run P _ _ hp w]
          cases nx with
          | value u =>
            simp only [asVal] at h
            cases hf2 : flat depth u with
            | false => rw [hf2] at h; cases h
            | true =>
              rw [hf2] at h
              simp only [cond_true, Option.some.injEq, Prod.mk.injEq] at h
              obtain ⟨rfl, rfl⟩ := h
              exact hn φ u w (flat_refl _ hf2) hi (Step.refl _ _ _ _)
          | skip =>
            simp only [asVal, Option.some.injEq, Prod.mk.injEq] at h
            obtain ⟨rfl, rfl⟩ := h
            exact hn φ undef w (vr_undef _) hi (Step.refl _ _ _ _)
          | _ => cases h
      | false =>
        rw [hfl] at h
        simp only [cond_false] at h
        split at h
        · rename_i x hx
          cases hfe : Nat.beq f ne.esc with
          | false => rw [hfe] at h; cases h
          | true =>
            rw [hfe] at h
            have := Nat.eq_of_beq_eq_true hfe
            subst this
            simp only [cond_true, Option.some.injEq, Prod.mk.injEq] at h
            obtain ⟨rfl, rfl⟩ := h
            have hlr := AR_iff.1 ha
            rw [hx] at hlr
            obtain ⟨x', hx', hv⟩ : ∃ x', args' = #[x'] ∧ VR φ x x' := by
              generalize hq : args'.toList = q at hlr
              cases hlr with
              | cons h1 t1 => cases t1; exact ⟨_, by apply Array.ext'; simpa using hq, h1⟩
            rw [hx', hS.esc (by rw [hf]; rfl)]
            exact hn φ x' w hv hi (Step.refl _ _ _ _)
        · cases h

theorem ar_map {φ : Inj} {ρ ρ' : Operand → Value} (xs : Array Operand) (h : ∀ x ∈ xs, VR φ (ρ x) (ρ' x)) : AR φ (xs.map ρ) (xs.map ρ') := AR.map ρ ρ' xs h

theorem ar_one {φ : Inj} {args args' : Array Value} {x : Value} (ha : AR φ args args') (h : args.toList = [x]) : args = #[x] ∧ ∃ x', args' = #[x'] ∧ VR φ x x' := by
  have hlr := AR_iff.1 ha
  rw [h] at hlr
  refine ⟨by apply Array.ext'; simpa using h, ?_⟩
  generalize hq : args'.toList = q at hlr
  cases hlr with
  | cons h1 t1 => cases t1; exact ⟨_, by apply Array.ext'; simpa using hq, h1⟩

theorem ar_two {φ : Inj} {args args' : Array Value} {x y : Value} (ha : AR φ args args') (h : args.toList = [x, y]) : args = #[x, y] ∧ ∃ x' y', args' = #[x', y'] ∧ VR φ x x' ∧ VR φ y y' := by
  have hlr := AR_iff.1 ha
  rw [h] at hlr
  refine ⟨list_two h, ?_⟩
  generalize hq : args'.toList = q at hlr
  cases hlr with
  | cons h1 t1 => cases t1 with
    | cons h2 t2 => cases t2; exact ⟨_, _, list_two hq, h1, h2⟩

theorem unsafeSliceData_eq (ts : Array TypeId) (ty : TypeId) (a : Addr) (n c : Nat) (hc : c ≠ 0) : Builtin.unsafeSliceData_ ts ty #[.slice (some a) n c] = pure (.pointer (some a)) := by
  show (if c ≠ 0 then _ else _) = _
  rw [if_pos hc]

theorem runOp_ok {ne : NE} (hS : Sane P ne) {ih : Ex} (hG : Good P ih) {o : Oper} {ρ : Operand → Value} {H H' : AH} {v : Value} (h : runOp P ne ih m o ρ H = some (v, H')) {φ : Inj} {w : World} {a : Act} (hg : Glob P φ) (hρ : ∀ x ∈ o.op.operands, VR φ (ρ x) (a.eval x)) (hi : Inv φ H w)
    {next : Act → World → Prop} {Q : Exit → Act → World → Prop} (hn : ∀ φ' v' w', VR φ' v v' → Inv φ' H' w' → Step m φ H w φ' H' w' → next (a.put o.dst v') w') : o.wp P a w next Q := by
  have fl := fun hh => wp_of_opOK (a := a) (next := next) (Q := Q) (flatRun_ok (P := P) (m := m) (H' := H') (v := v) hi hρ hh) hn
  have ao := fun hh => wp_of_opOK (a := a) (next := next) (Q := Q) (aOp_ok (P := P) (m := m) (H' := H') (v := v) hi hρ hh) hn
  obtain ⟨dst, op, ty, pos, after, guard⟩ := o
  unfold runOp at h
  simp only at h hρ hn
  cases op with
  | call c =>
    obtain ⟨callee, args, ts⟩ := c
    cases callee with
    | value g =>
      simp only at h
      have hgv := hρ g (by simp [Op.operands, Call.operands])
      have hargs : AR φ (args.map ρ) (args.map a.eval) := ar_map args fun x hx => hρ x (by simp [Op.operands, Call.operands, hx])
      split at h
      · rename_i f first captured hge
        rw [hge] at hgv
        generalize hq : a.eval g = q at hgv
        cases hgv with
        | func fn f1 g1 f1' g1' hf1 hg1 i1 i2 =>
          have hall : AR φ (first ++ args.map ρ ++ captured) (f1' ++ args.map a.eval ++ g1') := ((AR.append ⟨hf1, i1⟩ hargs).append ⟨hg1, i2⟩)
          show Oper.upon P _ a next Q _
          have hex : execOp a.eval { dst := dst, op := .call { callee := .value g, args := args, argTypes := ts }, type := ty, pos := pos, after := after, guard := guard } = callFunc f (f1' ++ args.map a.eval ++ g1') := by
            simp only [execOp, resolve, hq]; rfl
          rw [hex]
          exact callFn_wp hS hG h hg hall hi hn
      · cases h
    | invoke r nm => cases h
    | builtin b =>
      have hargs : AR φ (args.map ρ) (args.map a.eval) := ar_map args fun x hx => hρ x (by simp [Op.operands, Call.operands, hx])
      simp only at h
      cases b with
      | append => exact wp_of_opOK (aAppend_ok (ty := ty) hi h hargs) hn
      | len =>
        simp only at h
        split at h
        · rename_i e b n c hu hl
          simp only [Option.some.injEq, Prod.mk.injEq] at h
          obtain ⟨rfl, rfl⟩ := h
          obtain ⟨_, x', hx', hv⟩ := ar_one hargs hl
          obtain ⟨b', c', rfl⟩ := slice_inv hv
          cases ht : ts[0]? with
          | none => rw [ht] at hu; cases hu
          | some t =>
            rw [ht] at hu
            have hu : P.underlying t = some (.slice e) := hu
            have hrun : (Builtin.len_ ts ty (args.map a.eval)).run P w = .ok (goInt n) w := by
              rw [hx']
              simp [Builtin.len_, ht, run_und hu]
            exact wp_of_opOK (opOK_value (s := Builtin.len_ ts ty (args.map a.eval)) hrun hi (Step.refl _ _ _ _) (.int _ _)) hn
        · rename_i k e r hu hl
          split at h
          · rename_i es n opn esz ro hgr
            simp only [Option.some.injEq, Prod.mk.injEq] at h
            obtain ⟨rfl, rfl⟩ := h
            obtain ⟨_, x', hx', hv⟩ := ar_one hargs hl
            cases hv with
            | map r l hlr =>
              obtain ⟨es', g1, g2⟩ := hi.map hgr rfl hlr
              cases ht : ts[0]? with
              | none => rw [ht] at hu; cases hu
              | some t =>
                rw [ht] at hu
                have hu : P.underlying t = some (.map k e) := hu
                have hrun : (Builtin.len_ ts ty (args.map a.eval)).run P w = .ok (goInt es'.size) w := by
                  rw [hx']
                  simp [Builtin.len_, ht, run_und hu, run_getObj_map g1]
                rw [g2.1] at hn
                exact wp_of_opOK (opOK_value (s := Builtin.len_ ts ty (args.map a.eval)) hrun hi (Step.refl _ _ _ _) (.int _ _)) hn
          · cases h
        · exact fl h
      | copy =>
        simp only at h
        split at h
        · rename_i x y hl
          obtain ⟨e1, x', y', e2, hx, hy⟩ := ar_two hargs hl
          have h' : asNext (arun P m (do pure (.value (← Builtin.copy_ ts ty (args.map ρ)))) H) = some (v, H') := h
          rw [e1] at h'
          refine wp_of_opOK (H' := H') (v := v) ?_ hn
          show OpOK P m φ H w v H' (do pure (.value (← Builtin.copy_ ts ty (args.map a.eval))))
          rw [e2]
          exact opOK_of_sim (sim_v (sim_copy ts ty hx hy)) hi h'
        · cases h
      | delete =>
        simp only at h
        have : ∃ x k, (args.map ρ).toList = [x, k] := by
          unfold aDelete at h
          split at h
          · rename_i t x k h1 h2; exact ⟨x, k, h2⟩
          · cases h
        obtain ⟨x, k, hl⟩ := this
        obtain ⟨e1, x', k', e2, hx, hk⟩ := ar_two hargs hl
        rw [hl] at h
        have hfk : flat depth k = true := by
          unfold aDelete at h
          split at h
          · rename_i t x2 k2 h1 h2
            simp only [List.cons.injEq, and_true] at h2
            obtain ⟨rfl, rfl⟩ := h2
            cases hf : flat depth k with
            | true => rfl
            | false => rw [hf] at h; cases h
          · cases h
        obtain ⟨w', r1, r2, r3, rfl⟩ := aDelete_ok (ty := ty) hi h hx
        have := flat_eq depth hfk hk
        subst this
        rw [← e2] at r1
        exact wp_of_opOK (opOK_value (s := Builtin.delete_ ts ty (args.map a.eval)) r1 r2 r3 (.tuple #[] #[] rfl fun i x y hx => by simp at hx)) hn
      | unsafeSliceData =>
        simp only at h
        split at h
        · rename_i p n c hl
          cases hq : (Nat.beq n 0 || Nat.beq c 0) with
          | true => rw [hq] at h; cases h
          | false =>
            rw [hq] at h
            simp only [cond_false, Option.some.injEq, Prod.mk.injEq] at h
            obtain ⟨rfl, rfl⟩ := h
            simp only [Bool.or_eq_false_iff] at hq
            have hn0 := Nat.ne_of_beq_eq_false hq.1
            have hc0 := Nat.ne_of_beq_eq_false hq.2
            obtain ⟨_, x', hx', hv⟩ := ar_one hargs hl
            have key : ∃ p' c', x' = .slice (some p') n c' ∧ c' ≠ 0 ∧ VR φ (.pointer (some p)) (.pointer (some p')) := by
              cases hv with
              | slice b o n c l1 hl1 hc => exact ⟨_, _, rfl, hc0, .ptr b o l1 hl1⟩
              | sliceOpen b o n c l1 hl1 hn1 hc => exact ⟨_, _, rfl, by omega, .ptr b o l1 hl1⟩
              | sliceEnd b o l1 a hl => exact absurd rfl hn0
              | sliceZero b o l1 a hl => exact absurd rfl hn0
            obtain ⟨p', c', rfl, hc', hvp⟩ := key
            have hrun : (Builtin.unsafeSliceData_ ts ty (args.map a.eval)).run P w = .ok (.pointer (some p')) w := by
              rw [hx', unsafeSliceData_eq ts ty p' n c' hc']; rfl
            exact wp_of_opOK (opOK_value (s := Builtin.unsafeSliceData_ ts ty (args.map a.eval)) hrun hi (Step.refl _ _ _ _) hvp) hn
        · exact fl h
      | unsafeString =>
        simp only at h
        have : ∃ x k, (args.map ρ).toList = [x, k] := by
          unfold aUnsafeString at h
          split at h
          · rename_i h1 _; exact ⟨_, _, h1⟩
          · rename_i h1 _; exact ⟨_, _, h1⟩
          · cases h
        obtain ⟨x, k, hl⟩ := this
        obtain ⟨e1, x', k', e2, hx, hk⟩ := ar_two hargs hl
        rw [hl] at h
        obtain ⟨w', r1, r2, r3, s, rfl⟩ := aUnsafeString_ok (ty := ty) hi h hx hk
        rw [← e2] at r1
        exact wp_of_opOK (opOK_value (s := Builtin.unsafeString_ ts ty (args.map a.eval)) r1 r2 r3 (.string s)) hn
      | _ => exact fl h
  | _ => exact ao h

end Go.Abs


namespace Go.Abs

variable {P : Program} {m : Nat}

theorem getD_bool {φ : Inj} {a : Act} {d : Nat} {b : Bool} (h : VR φ (.bool b) (a.tmps.getD d undef)) : a.tmps[d]? = some (.bool b) := by
  rw [Array.getD_eq_getD_getElem?] at h
  cases hx : a.tmps[d]? with
  | none => rw [hx] at h; cases h
  | some v => rw [hx] at h; simp only [Option.getD_some] at h; cases h; rfl

theorem wantedA_ok {φ : Inj} {ops : Array Oper} {o : Oper} {ss : Sl} {n : Fr} {a : Act} {b : Bool} (hs : SR φ ss n a) (h : wantedA ops o ss = some b) : Region.wanted o (yielded ops a.tmps) = b := by
  unfold wantedA at h
  unfold Region.wanted
  cases hg : o.guard with
  | none => rw [hg] at h; simp only [Option.some.injEq] at h ⊢; exact h
  | some jw =>
    obtain ⟨j, want⟩ := jw
    rw [hg] at h
    simp only at h ⊢
    unfold yielded
    cases hd : (ops[j]?).bind (·.dst) with
    | none => rw [hd] at h; cases h
    | some d =>
      rw [hd] at h
      simp only [Option.bind_some] at h ⊢
      have hv := hs.slot d
      split at h
      · rename_i c hc
        simp only [Option.some.injEq] at h
        rw [hc] at hv
        rw [getD_bool hv, ← h]
        cases c <;> cases want <;> rfl
      · rename_i vs hc
        simp only [Option.some.injEq] at h
        rw [hc] at hv
        rw [← h]
        have : ∀ c, a.tmps[d]? ≠ some (.bool c) := by
          intro c hcc
          rw [Array.getD_eq_getD_getElem?, hcc] at hv
          cases hv
        split
        · rename_i c hcc; exact absurd hcc (this c)
        · cases want <;> rfl
      · cases h

theorem stepOp_ok {ne : NE} (hS : Sane P ne) {ih : Ex} (hG : Good P ih) {ops : Array Oper} {o : Oper} {i : Nat} {st st' : ASt} (h : stepOp P ne ih m ops o st = some st') (hoi : ops[i]? = some o) {φ : Inj} {w : World} {a : Act}
    (hg : Glob P φ) (hs : SR φ st.ss st.n a) (hi : Inv φ st.H w) {K : Act → World → Prop} {Q : Exit → Act → World → Prop}
    (hn : ∀ φ' a' w', SR φ' st'.ss st'.n a' → Inv φ' st'.H w' → Step m φ st.H w φ' st'.H w' → K a' w') : wpOp P ops Q i K a w := by
  unfold stepOp at h
  unfold wpOp
  rw [hoi]
  simp only
  cases hw : wantedA ops o st.ss with
  | none => rw [hw] at h; cases h
  | some b =>
    rw [hw] at h
    rw [wantedA_ok hs hw]
    cases b with
    | true =>
      simp only [if_true] at h ⊢
      cases hx : o.op.operands.all (okx P) with
      | false => rw [hx] at h; cases h
      | true =>
        rw [hx] at h
        simp only [cond_true] at h
        cases hr : runOp P ne ih m o (evalA st.ss) st.H with
        | none =>
          rw [hr] at h
          simp only at h
          cases hd : deferOf o (evalA st.ss) with
          | none => rw [hd] at h; cases h
          | some d =>
            rw [hd] at h
            simp only at h
            cases hp : putA st.n st.ss o.dst undef with
            | none => rw [hp] at h; cases h
            | some ss1 =>
              rw [hp] at h
              simp only [Option.some.injEq] at h
              subst h
              rw [Array.all_eq_true_iff_forall_mem] at hx
              refine .inl ?_
              have hs1 := hs.put (v' := undef) hp (vr_undef φ)
              obtain ⟨dst, op, ty, pos, after, guard⟩ := o
              unfold deferOf at hd
              simp only at hd hx hp hs1
              split at hd
              · rename_i g args ts
                split at hd
                · rename_i f first captured hge
                  simp only [Option.some.injEq] at hd
                  subst hd
                  have hgv := hs.eval hg (hx g (by simp [Op.operands, Call.operands]))
                  have hargs : AR φ (args.map (evalA st.ss)) (args.map a.eval) := ar_map args fun x hm => hs.eval hg (hx x (by simp [Op.operands, Call.operands, hm]))
                  rw [hge] at hgv
                  generalize hq : a.eval g = q at hgv
                  cases hgv with
                  | func fn f1 g1 f1' g1' hf1 hg1 i1 i2 =>
                    have hall : AR φ (first ++ args.map (evalA st.ss) ++ captured) (f1' ++ args.map a.eval ++ g1') := ((AR.append ⟨hf1, i1⟩ hargs).append ⟨hg1, i2⟩)
                    show Oper.upon P _ a K Q _
                    have hex : (execOp a.eval { dst := dst, op := .defer { callee := .value g, args := args, argTypes := ts }, type := ty, pos := pos, after := after, guard := guard }).run P w = .ok (.defer { target := .fn (.func f) g1', args := f1' ++ args.map a.eval }) w := by
                      simp only [execOp, resolve, hq]; rfl
                    rw [hex]
                    have et : ∀ l, (({ a with defers := l } : Act).put dst undef).tmps = (a.put dst undef).tmps := fun l => by cases dst <;> rfl
                    refine hn φ _ w ⟨fun t => by rw [et]; exact hs1.slot t, by rw [et]; exact hs1.size, ?_⟩ hi (Step.refl _ _ _ _)
                    have e : ∀ b : Act, (b.put dst undef).defers = b.defers := fun b => by cases dst <;> rfl
                    rw [e]
                    exact .cons hall hs.defers
                · cases hd
              · cases hd
        | some vh =>
          obtain ⟨v, H1⟩ := vh
          rw [hr] at h
          simp only at h
          cases hp : putA st.n st.ss o.dst v with
          | none => rw [hp] at h; cases h
          | some ss1 =>
            rw [hp] at h
            simp only [Option.some.injEq] at h
            subst h
            rw [Array.all_eq_true_iff_forall_mem] at hx
            refine .inl (runOp_ok hS hG hr hg (fun x hxm => hs.eval hg (hx x hxm)) hi fun φ' v' w' h1 h2 h3 => ?_)
            exact hn φ' _ w' ((hs.mono h3.ext).put hp h1) h2 h3
    | false =>
      simp only [Bool.false_eq_true, if_false] at h ⊢
      cases hp : putA st.n st.ss o.dst undef with
      | none => rw [hp] at h; cases h
      | some ss1 =>
        rw [hp] at h
        simp only [Option.some.injEq] at h
        subst h
        exact hn φ _ w (hs.put hp (vr_undef φ)) hi (Step.refl _ _ _ _)

theorem runOps_ok {ne : NE} (hS : Sane P ne) {ih : Ex} (hG : Good P ih) {ops : Array Oper} : ∀ (l : List Oper) (k : Nat) {st st' : ASt}, (∀ j, l[j]? = ops[k + j]?) → runOps P ne ih m ops l st = some st' → ∀ {φ : Inj} {w : World} {a : Act},
    Glob P φ → SR φ st.ss st.n a → Inv φ st.H w → ∀ {Q : Exit → Act → World → Prop},
    (∀ φ' a' w', SR φ' st'.ss st'.n a' → Inv φ' st'.H w' → Step m φ st.H w φ' st'.H w' → Q .normal a' w') → wpOps P ops Q (List.range' k l.length) a w := by
  intro l
  induction l with
  | nil =>
    intro k st st' _ h φ w a hg hs hi Q hn
    simp only [runOps, Option.some.injEq] at h
    subst h
    exact hn φ a w hs hi (Step.refl _ _ _ _)
  | cons o l ihl =>
    intro k st st' hl h φ w a hg hs hi Q hn
    simp only [runOps] at h
    cases hst : stepOp P ne ih m ops o st with
    | none => rw [hst] at h; cases h
    | some st1 =>
      rw [hst] at h
      simp only at h
      have hoi : ops[k]? = some o := by have := hl 0; simpa using this.symm
      rw [List.length_cons, List.range'_succ, wpOps_cons]
      refine stepOp_ok hS hG hst hoi hg hs hi fun φ1 a1 w1 h1 h2 h3 => ?_
      refine ihl (k + 1) (fun j => ?_) h (hg.mono h3.ext) h1 h2 fun φ2 a2 w2 g1 g2 g3 => hn φ2 a2 w2 g1 g2 (h3.trans hi g3)
      have := hl (j + 1)
      rw [show k + 1 + j = k + (j + 1) by omega, ← this]
      simp

end Go.Abs


namespace Go.Abs

variable {P : Program} {m : Nat}

/-- As Inv, over a heap that is any function. -/
structure InvG (φ : Inj) (g : Nat → Option Blk) (n : Nat) (w : World) : Prop where
  dom : ∀ id l, φ id = some l → id < n ∧ l.blk < w.heap.size
  obj : ∀ id b, g id = some b → ∃ l, φ id = some l ∧ OR φ l b w
  sep : ∀ id id' b b' l l', g id = some b → g id' = some b' → id ≠ id' → b.ro = false → alive b = true → alive b' = true →
    φ id = some l → φ id' = some l' → l.blk ≠ l'.blk

theorem Inv.g {φ : Inj} {H : AH} {w : World} (h : Inv φ H w) : InvG φ H.get H.next w := ⟨h.dom, h.obj, h.sep⟩

structure StepG (m lo : Nat) (φ : Inj) (g : Nat → Option Blk) (w : World) (φ' : Inj) (g' : Nat → Option Blk) (w' : World) : Prop where
  ext : φ.le φ'
  new : ∀ id l, φ' id = some l → φ id = none → lo ≤ id ∧ (w.heap.size ≤ l.blk ∨ ∃ id0 l0, m ≤ id0 ∧ (g id0).isSome = true ∧ φ id0 = some l0 ∧ l0.blk = l.blk)
  alv : ∀ id, (g' id).isSome = true → (g id).isSome = true ∨ φ id = none
  size : w.heap.size ≤ w'.heap.size
  keep : ∀ c, c < w.heap.size → (∀ id l, m ≤ id → (g id).isSome = true → φ id = some l → l.blk ≠ c) → w'.heap[c]? = w.heap[c]?
  os : w'.os = w.os
  tape : w'.tape = w.tape
  output : w'.output = w.output

theorem StepG.refl (m lo : Nat) (φ : Inj) (g : Nat → Option Blk) (w : World) : StepG m lo φ g w φ g w :=
  ⟨Inj.le_refl _, fun id l h h' => (by rw [h] at h'; cases h'), fun _ h => .inl h, Nat.le_refl _, fun _ _ _ => rfl, rfl, rfl, rfl⟩

theorem StepG.trans {m lo : Nat} {φ : Inj} {g : Nat → Option Blk} {n : Nat} {w : World} {φ' : Inj} {g' : Nat → Option Blk} {w' : World} {φ'' : Inj} {g'' : Nat → Option Blk} {w'' : World} (hi : InvG φ g n w)
    (h : StepG m lo φ g w φ' g' w') (k : StepG m lo φ' g' w' φ'' g'' w'') : StepG m lo φ g w φ'' g'' w'' := by
  have al : ∀ id l, (g id).isSome = true → φ' id = some l → φ id = some l := by
    intro id l ha hl
    obtain ⟨b, hb⟩ := Option.isSome_iff_exists.1 ha
    obtain ⟨l0, h0, _⟩ := hi.obj id b hb
    have := h.ext _ _ h0
    rw [hl] at this; cases this; exact h0
  refine ⟨Inj.le_trans h.ext k.ext, ?_, ?_, Nat.le_trans h.size k.size, ?_, k.os.trans h.os, k.tape.trans h.tape, k.output.trans h.output⟩
  · intro id l h2 h0
    cases h1 : φ' id with
    | some l1 =>
      have := k.ext _ _ h1
      rw [h2] at this; cases this
      exact h.new id l h1 h0
    | none =>
      obtain ⟨n1, n2⟩ := k.new id l h2 h1
      refine ⟨n1, ?_⟩
      rcases n2 with n2 | ⟨id0, l0, a1, a2, a3, a4⟩
      · exact .inl (Nat.le_trans h.size n2)
      · cases h00 : φ id0 with
        | none =>
          obtain ⟨_, m2⟩ := h.new id0 l0 a3 h00
          rcases m2 with m2 | ⟨id1, l1, b1, b2, b3, b4⟩
          · exact .inl (a4 ▸ m2)
          · exact .inr ⟨id1, l1, b1, b2, b3, b4.trans a4⟩
        | some l00 =>
          rcases h.alv id0 a2 with ha | ha
          · have := h.ext _ _ h00
            rw [a3] at this; cases this
            exact .inr ⟨id0, l0, a1, ha, h00, a4⟩
          · rw [h00] at ha; cases ha
  · intro id h2
    rcases k.alv id h2 with h1 | h1
    · exact h.alv id h1
    · refine .inr ?_
      cases h0 : φ id with
      | none => rfl
      | some l => rw [h.ext _ _ h0] at h1; cases h1
  · intro c hc hno
    rw [k.keep c (Nat.lt_of_lt_of_le hc h.size) ?_, h.keep c hc hno]
    intro id l hm ha hl
    rcases h.alv id ha with h0 | h0
    · exact hno id l hm h0 (al id l h0 hl)
    · obtain ⟨_, m2⟩ := h.new id l hl h0
      rcases m2 with m2 | ⟨id1, l1, b1, b2, b3, b4⟩
      · omega
      · exact b4 ▸ hno id1 l1 b1 b2 b3

/-- The numbers below n alone. -/
def restr (φ : Inj) (n : Nat) : Inj := fun id => if id < n then φ id else none

theorem restr_lt {φ : Inj} {n id : Nat} (h : id < n) : restr φ n id = φ id := by simp [restr, h]
theorem restr_some {φ : Inj} {n id : Nat} {l : Loc} (h : restr φ n id = some l) : id < n ∧ φ id = some l := by
  unfold restr at h
  split at h
  · rename_i hh; exact ⟨hh, h⟩
  · cases h

theorem restr_le {φ ψ : Inj} (n k : Nat) (hn : n ≤ k) (h : φ.le ψ) : (restr φ n).le (restr ψ k) := by
  intro id l hl
  obtain ⟨h1, h2⟩ := restr_some hl
  rw [restr_lt (by omega)]
  exact h _ _ h2

/-- The numbers after an operation on a part of the heap. -/
def joined (φ φ' : Inj) (nx : Nat) : Inj := fun id => if id < nx then φ' id else φ id

def joinedG (g : Nat → Option Blk) (Hin H' : AH) : Nat → Option Blk := fun id => if (Hin.get id).isSome = true ∨ (Hin.next ≤ id ∧ id < H'.next) then H'.get id else g id

structure FrameRes (m lo : Nat) (φ : Inj) (g : Nat → Option Blk) (w : World) (Hin : AH) (φ' : Inj) (H' : AH) (w' : World) (n' : Nat) : Prop where
  le : φ.le (joined φ φ' H'.next)
  le' : φ'.le (joined φ φ' H'.next)
  inv : InvG (joined φ φ' H'.next) (joinedG g Hin H') n' w'
  step : StepG m lo φ g w (joined φ φ' H'.next) (joinedG g Hin H') w'
  none_ : ∀ id, (H'.get id).isSome = true → (Hin.get id).isSome = true ∨ (Hin.next ≤ id ∧ id < H'.next)
  excl : ∀ id id' l l', (g id).isSome = true → Hin.get id = none → id < Hin.next ∨ H'.next ≤ id → id ≠ id' → (joinedG g Hin H' id').isSome = true → joined φ φ' H'.next id = some l → joined φ φ' H'.next id' = some l' →
    (∀ id2 l2, id2 ≠ id → (g id2).isSome = true → φ id2 = some l2 → ∀ l1, φ id = some l1 → l2.blk ≠ l1.blk) → l'.blk ≠ l.blk

theorem frame {φ : Inj} {g : Nat → Option Blk} {n n' lo : Nat} {w : World} {Hin : AH} {φ' : Inj} {H' : AH} {w' : World} (hi : InvG φ g n w) (hsub : ∀ id b, Hin.get id = some b → g id = some b ∧ id < Hin.next)
    (hfree : ∀ id, Hin.next ≤ id → id < H'.next → φ id = none) (hn : n ≤ n') (hn' : H'.next ≤ n') (hlo : lo ≤ Hin.next)
    (hex : ∀ id b, g id = some b → Hin.get id = none → ∀ id' l l', (Hin.get id').isSome = true → φ id = some l → φ id' = some l' → l'.blk ≠ l.blk)
    (h1 : Inv φ' H' w') (h2 : Step m (restr φ Hin.next) Hin w φ' H' w') : FrameRes m lo φ g w Hin φ' H' w' n' := by
  have hle : φ.le (joined φ φ' H'.next) := by
    intro id l hl
    unfold joined
    split
    · rename_i hlt
      by_cases h : id < Hin.next
      · exact h2.ext _ _ (by rw [restr_lt h]; exact hl)
      · rw [hfree id (by omega) hlt] at hl; cases hl
    · exact hl
  have hle' : φ'.le (joined φ φ' H'.next) := by
    intro id l hl
    unfold joined
    rw [if_pos (h1.dom id l hl).1]; exact hl
  have hnone : ∀ id, (H'.get id).isSome = true → (Hin.get id).isSome = true ∨ (Hin.next ≤ id ∧ id < H'.next) := by
    intro id hs
    rcases h2.alv id hs with h | h
    · exact .inl h
    · obtain ⟨b, hb⟩ := Option.isSome_iff_exists.1 hs
      obtain ⟨l, hl, _⟩ := h1.obj id b hb
      obtain ⟨q1, _⟩ := h2.new id l hl h
      exact .inr ⟨q1, (h1.dom id l hl).1⟩
  -- the place of what is in the part, afterwards
  have hin : ∀ id l, (H'.get id).isSome = true → φ' id = some l → w.heap.size ≤ l.blk ∨ ∃ id0 l0, (Hin.get id0).isSome = true ∧ φ id0 = some l0 ∧ l0.blk = l.blk := by
    intro id l hs hl
    cases hr : restr φ Hin.next id with
    | some l0 =>
      have := h2.ext _ _ hr
      rw [hl] at this; cases this
      rcases h2.alv id hs with h | h
      · exact .inr ⟨id, l, h, (restr_some hr).2, rfl⟩
      · rw [h] at hr; cases hr
    | none =>
      obtain ⟨_, q2⟩ := h2.new id l hl hr
      rcases q2 with q2 | ⟨id0, l0, a1, a2, a3, a4⟩
      · exact .inl q2
      · exact .inr ⟨id0, l0, a2, (restr_some a3).2, a4⟩
  have hout : ∀ id b, g id = some b → ¬ ((Hin.get id).isSome = true ∨ (Hin.next ≤ id ∧ id < H'.next)) → ∃ l, φ id = some l ∧ joined φ φ' H'.next id = some l ∧ l.blk < w.heap.size ∧ OR φ l b w ∧ w'.heap[l.blk]? = w.heap[l.blk]? ∧
      (∀ id' l', (H'.get id').isSome = true → φ' id' = some l' → l'.blk ≠ l.blk) := by
    intro id b hb hno
    obtain ⟨l, hl, hor⟩ := hi.obj id b hb
    have hnn : Hin.get id = none := by
      cases hq : Hin.get id with
      | none => rfl
      | some b' => exact absurd (.inl (by rw [hq]; rfl)) hno
    have hblk := (hi.dom id l hl).2
    refine ⟨l, hl, hle _ _ hl, hblk, hor, ?_, ?_⟩
    · refine h2.keep _ hblk fun id' l' _ hs' hl' => ?_
      exact hex id b hb hnn id' l l' hs' hl (restr_some hl').2
    · intro id' l' hs' hl'
      rcases hin id' l' hs' hl' with h | ⟨id0, l0, a1, a2, a3⟩
      · omega
      · rw [← a3]; exact hex id b hb hnn id0 l l0 a1 hl a2
  refine ⟨hle, hle', ?_, ?_, hnone, ?_⟩
  · refine ⟨?_, ?_, ?_⟩
    · intro id l hl
      unfold joined at hl
      split at hl
      · have := h1.dom id l hl; exact ⟨by omega, this.2⟩
      · have := hi.dom id l hl; have := h2.size; omega
    · intro id b hb
      unfold joinedG at hb
      split at hb
      · obtain ⟨l, hl, hor⟩ := h1.obj id b hb
        exact ⟨l, hle' _ _ hl, hor.mono hle'⟩
      · rename_i hno
        obtain ⟨l, q1, q2, q3, q4, q5, q6⟩ := hout id b hb hno
        exact ⟨l, q2, (q4.mono hle).same q5⟩
    · intro id id' b b' l l' hb hb' hne hr ha ha' hl hl'
      unfold joinedG at hb hb'
      split at hb
      · rename_i hyes
        obtain ⟨k, hk, _⟩ := h1.obj id b hb
        have e1 := hle' _ _ hk
        rw [hl] at e1; cases e1
        split at hb'
        · obtain ⟨k', hk', _⟩ := h1.obj id' b' hb'
          have e2 := hle' _ _ hk'
          rw [hl'] at e2; cases e2
          exact h1.sep id id' b b' l l' hb hb' hne hr ha ha' hk hk'
        · rename_i hno
          obtain ⟨k', q1, q2, q3, q4, q5, q6⟩ := hout id' b' hb' hno
          rw [hl'] at q2; cases q2
          exact q6 id l (by rw [hb]; rfl) hk
      · rename_i hno
        obtain ⟨k, q1, q2, q3, q4, q5, q6⟩ := hout id b hb hno
        rw [hl] at q2; cases q2
        split at hb'
        · obtain ⟨k', hk', _⟩ := h1.obj id' b' hb'
          have e2 := hle' _ _ hk'
          rw [hl'] at e2; cases e2
          exact fun e => q6 id' l' (by rw [hb']; rfl) hk' e.symm
        · rename_i hno'
          obtain ⟨k', p1, p2, _⟩ := hout id' b' hb' hno'
          rw [hl'] at p2; cases p2
          exact hi.sep id id' b b' l l' hb hb' hne hr ha ha' q1 p1
  · refine ⟨hle, ?_, ?_, h2.size, ?_, h2.os, h2.tape, h2.output⟩
    · intro id l hl h0
      unfold joined at hl
      split at hl
      · have hr : restr φ Hin.next id = none := by unfold restr; split <;> first | exact h0 | rfl
        obtain ⟨q1, q2⟩ := h2.new id l hl hr
        refine ⟨by omega, q2.imp (fun h => h) fun ⟨id0, l0, a1, a2, a3, a4⟩ => ?_⟩
        obtain ⟨b, hb⟩ := Option.isSome_iff_exists.1 a2
        exact ⟨id0, l0, a1, by rw [(hsub _ _ hb).1]; rfl, (restr_some a3).2, a4⟩
      · rw [h0] at hl; cases hl
    · intro id hs
      unfold joinedG at hs
      split at hs
      · rename_i hyes
        rcases h2.alv id hs with h | h
        · obtain ⟨b, hb⟩ := Option.isSome_iff_exists.1 h
          exact .inl (by rw [(hsub _ _ hb).1]; rfl)
        · rcases hyes with hy | ⟨y1, y2⟩
          · obtain ⟨b, hb⟩ := Option.isSome_iff_exists.1 hy
            exact .inl (by rw [(hsub _ _ hb).1]; rfl)
          · exact .inr (hfree id y1 y2)
      · exact .inl hs
    · intro c hc hno
      refine h2.keep c hc fun id l hm hs hl => ?_
      obtain ⟨b, hb⟩ := Option.isSome_iff_exists.1 hs
      exact hno id l hm (by rw [(hsub _ _ hb).1]; rfl) (restr_some hl).2
  · intro id id' l l' hs hnn hrange hne hs' hl hl' hold
    obtain ⟨b, hb⟩ := Option.isSome_iff_exists.1 hs
    have hno : ¬ ((Hin.get id).isSome = true ∨ (Hin.next ≤ id ∧ id < H'.next)) := by
      rw [hnn]; simp; omega
    obtain ⟨k, q1, q2, q3, q4, q5, q6⟩ := hout id b hb hno
    rw [hl] at q2; cases q2
    unfold joinedG at hs'
    split at hs'
    · obtain ⟨b', hb'⟩ := Option.isSome_iff_exists.1 hs'
      obtain ⟨k', hk', _⟩ := h1.obj id' b' hb'
      have e2 := hle' _ _ hk'
      rw [hl'] at e2; cases e2
      exact q6 id' l' hs' hk'
    · rename_i hno'
      obtain ⟨b', hb'⟩ := Option.isSome_iff_exists.1 hs'
      obtain ⟨k', p1, p2, _⟩ := hout id' b' hb' hno'
      rw [hl'] at p2; cases p2
      exact hold id' l' (fun e => hne e.symm) hs' p1 l q1

end Go.Abs


namespace Go.Abs

variable {P : Program} {m : Nat} {α β : Type}

/-- It leaves the abstract heap as it is. -/
def HK (P : Program) (m : Nat) (s : Sem α) : Prop := ∀ H x H', arun P m s H = some (x, H') → H' = H

theorem hk_bind {s : Sem α} {k : α → Sem β} (h : HK P m s) (hk : ∀ a, HK P m (k a)) : HK P m (s >>= k) := by
  intro H x H' hr
  change arun P m (s.bind k) H = _ at hr
  rw [arun_bind] at hr
  cases hs : arun P m s H with
  | none => rw [hs] at hr; cases hr
  | some p =>
    obtain ⟨a, H1⟩ := p
    rw [hs] at hr
    have e1 := h H a H1 hs
    subst e1
    exact hk a _ x H' hr

theorem hk_pure (a : α) : HK P m (Pure.pure a : Sem α) := by
  intro H x H' hr
  have : some (a, H) = some (x, H') := hr
  simp only [Option.some.injEq, Prod.mk.injEq] at this
  exact this.2.symm

theorem hk_halt (h : Halt) : HK P m (Sem.halt h : Sem α) := by intro H x H' hr; simp [arun] at hr

theorem hk_none {s : Sem α} (h : ∀ H, arun P m s H = none) : HK P m s := by intro H x H' hr; rw [h] at hr; cases hr

theorem hk_program : HK P m program := by
  intro H x H' hr
  have : some (P, H) = some (x, H') := hr
  simp only [Option.some.injEq, Prod.mk.injEq] at this
  exact this.2.symm

theorem hk_load (a : Addr) (md : Mode) : HK P m (load a md) := by
  intro H x H' hr
  simp only [load, arun] at hr
  split at hr
  · simp only [Option.some.injEq, Prod.mk.injEq] at hr; exact hr.2.symm
  · cases hr

theorem hk_underlying (t : TypeId) : HK P m (underlying t) := hk_bind hk_program fun p => by cases p.underlying t <;> first | exact hk_pure _ | exact hk_halt _
theorem hk_typeInfo (t : TypeId) : HK P m (typeInfo t) := hk_bind hk_program fun p => by cases p.info? t <;> first | exact hk_pure _ | exact hk_halt _
theorem hk_sizeOf (t : TypeId) : HK P m (sizeOf t) := hk_bind (hk_typeInfo t) fun i => hk_pure _
theorem hk_isAgg (t : TypeId) : HK P m (isAgg t) := hk_bind (hk_underlying t) fun d => by cases d <;> exact hk_pure _
theorem hk_zero (t : TypeId) : HK P m (zeroValue t) := hk_bind (hk_typeInfo t) fun i => by cases i.zero <;> first | exact hk_pure _ | exact hk_halt _
theorem hk_asIntOf (v : Value) : HK P m (asIntOf v) := by
  cases v with
  | pointer a => cases a <;> exact hk_halt _
  | int k n => exact hk_pure _
  | _ => exact hk_halt _
theorem hk_sureAddr (v : Value) : HK P m (Instr.sureAddr v) := by
  cases v with
  | pointer a => cases a <;> first | exact hk_pure _ | exact hk_halt _
  | _ => exact hk_halt _
theorem hk_boundsPanic (k : IntKind) (x y : Int) (c : BoundsCode) : HK P m (boundsPanic k x y c : Sem α) := by
  refine hk_none fun H => ?_
  unfold Go.boundsPanic
  show arun P m (if _ then _ else _) H = none
  split
  · exact arun_bind_none _ _ (fun a H => arun_runtimePanic _ _) H
  · exact arun_bind_none _ _ (fun a H => arun_runtimePanic _ _) H

theorem hk_loadCellsFrom (a : Addr) : ∀ (n i : Nat) (acc : Array Value), HK P m (loadCellsFrom a i n acc) := by
  intro n
  induction n with
  | zero => intro i acc; exact hk_pure _
  | succ n ih => intro i acc; exact hk_bind (hk_load _ _) fun v => ih _ _

theorem hk_loadVar (t : TypeId) (a : Addr) : HK P m (loadVar t a) := by
  refine hk_bind (hk_isAgg t) fun b => ?_
  cases b
  · exact hk_load _ _
  · exact hk_bind (hk_sizeOf t) fun n => hk_bind (hk_loadCellsFrom a n 0 #[]) fun cs => hk_pure _

theorem hk_part (t : TypeId) (cs : Array Value) (off : Nat) : HK P m (part t cs off) := by
  refine hk_bind (hk_isAgg t) fun b => ?_
  cases b
  · show HK P m (match cs[off]? with | some v => pure v | none => stuck "part: no such cell")
    cases cs[off]? with
    | none => exact hk_halt _
    | some v => exact hk_pure _
  · exact hk_bind (hk_sizeOf t) fun n => hk_pure _

theorem hk_loadAt (t : TypeId) (v : Value) : HK P m (Instr.loadAt t v) := hk_bind (hk_sureAddr v) fun a => hk_loadVar t a

theorem hk_fieldPlace (a : Addr) (f : Field) : HK P m (fieldPlace a f) := by
  refine hk_bind (hk_sizeOf _) fun n => ?_
  split
  · intro H x H' hr
    exfalso
    unfold partAt byteOf at hr
    simp only [bind, arun_bind, pure] at hr
    split at hr
    · rename_i u H1 hq
      revert hq
      cases hs : a.spot with
      | none => simp [arun, program, arun_bind, noView, viewAt, shape, bind]
      | some s =>
        simp only [arun, Option.some.injEq, Prod.mk.injEq]
        intro hq
        obtain ⟨rfl, rfl⟩ := hq
        simp [arun, program, arun_bind, noView, viewAt, shape, bind] at hr
    · cases hr
  · exact hk_pure _

theorem hk_fieldAt (t : TypeId) (v : Value) (k : Nat) : HK P m (Instr.fieldAt t v k) := by
  refine hk_bind (hk_underlying t) fun d => ?_
  cases d with
  | struct fs =>
    simp only
    cases fs[k]? with
    | none => exact hk_halt _
    | some f => exact hk_bind (hk_sureAddr v) fun a => hk_bind (hk_fieldPlace a f) fun b => hk_pure _
  | _ => exact hk_halt _

theorem hk_asAgg (v : Value) : HK P m (asAgg v) := by cases v <;> first | exact hk_pure _ | exact hk_halt _

theorem hk_field (t : TypeId) (v : Value) (k : Nat) : HK P m (Instr.field t v k) := by
  refine hk_bind (hk_underlying t) fun d => ?_
  cases d with
  | struct fs =>
    simp only
    cases fs[k]? with
    | none => exact hk_halt _
    | some f => exact hk_bind (hk_asAgg v) fun a => hk_part _ _ _
  | _ => exact hk_halt _

theorem hk_makeInterface (t : TypeId) (v : Value) : HK P m (Instr.makeInterface t v) := hk_bind (hk_underlying t) fun d => by cases d <;> first | exact hk_halt _ | exact hk_pure _

theorem hk_extract (v : Value) (k : Nat) : HK P m (Instr.extract v k) := by
  cases v with
  | tuple vs => simp only [Instr.extract]; cases vs[k]? <;> first | exact hk_halt _ | exact hk_pure _
  | _ => exact hk_halt _

theorem hk_index (t : TypeId) (x i : Value) : HK P m (Instr.index t x i) := by
  refine hk_bind (hk_asIntOf i) fun k => ?_
  obtain ⟨k, n⟩ := k
  refine hk_bind (hk_underlying t) fun d => ?_
  split
  · split
    · exact hk_bind (hk_sizeOf _) fun z => hk_part _ _ _
    · exact hk_boundsPanic _ _ _ _
  · split
    · exact hk_pure _
    · exact hk_boundsPanic _ _ _ _
  · exact hk_halt _

theorem hk_indexAt (t : TypeId) (x i : Value) : HK P m (Instr.indexAt t x i) := by
  refine hk_bind (hk_asIntOf i) fun k => ?_
  obtain ⟨k, n⟩ := k
  have tail : ∀ p : Option Addr × Nat × TypeId, HK P m (do
        let d ← underlying t
        match p.fst with
          | some a => (if 0 ≤ n ∧ n < ↑p.2.fst then (sizeOf p.2.snd >>= fun z => pure (Value.pointer (some (a.add (n.toNat * z))))) else (if (decide (p.2.fst ≤ 1) && (match d with | TypeDesc.array len elem => true | x => false)) = true then unsupported (.noEntry "op/indexAddr.an index out of range at an array of length 0 or 1 (ledger 616)") else boundsPanic k n (↑p.2.fst) BoundsCode.index))
          | none => boundsPanic k n 0 BoundsCode.index) := by
    intro p
    refine hk_bind (hk_underlying t) fun d => ?_
    cases p.fst with
    | none => exact hk_boundsPanic _ _ _ _
    | some a =>
      simp only
      split
      · exact hk_bind (hk_sizeOf _) fun z => hk_pure _
      · have both : ∀ b : Bool, HK P m (if b = true then unsupported (.noEntry "op/indexAddr.an index out of range at an array of length 0 or 1 (ledger 616)") else boundsPanic k n (↑p.2.fst) BoundsCode.index : Sem Value) := by
          intro b; cases b
          · exact hk_boundsPanic _ _ _ _
          · exact hk_halt _
        exact both _
  refine hk_bind (hk_underlying t) fun d => ?_
  cases d with
  | array len elem => exact hk_bind (hk_sureAddr x) fun a => tail (some a, len, elem)
  | slice elem =>
    cases x with
    | slice b l c => exact tail (b, l, elem)
    | _ => exact hk_halt _
  | _ => exact hk_halt _

theorem hk_mapM (f : α → Sem (Nat × Nat)) (hf : ∀ x, HK P m (f x)) : ∀ l : List α, HK P m (l.mapM f) := by
  intro l
  induction l with
  | nil => exact hk_pure _
  | cons a l ih => rw [List.mapM_cons]; exact hk_bind (hf a) fun x => hk_bind ih fun y => hk_pure _

theorem hk_build (t : TypeId) (ps : Array (Nat × Value)) : HK P m (Instr.build t ps) := by
  refine hk_bind (hk_zero t) fun z => ?_
  refine hk_bind (hk_underlying t) fun d => ?_
  cases d with
  | struct fields =>
    refine hk_bind ?_ fun pl => ?_
    · rw [Array.mapM_eq_mapM_toList]
      exact hk_bind (hk_mapM _ (fun x => hk_bind (hk_sizeOf _) fun n => hk_pure _) _) fun a => hk_pure _
    · split
      · exact hk_pure _
      · exact hk_halt _
  | array len elem =>
    refine hk_bind (hk_sizeOf elem) fun s => ?_
    split
    · exact hk_pure _
    · exact hk_halt _
  | _ => exact hk_halt _

theorem hk_v {s : Sem Value} (h : HK P m s) : HK P m (do pure (.value (← s)) : Sem Next) := hk_bind h fun v => hk_pure _

theorem asNext_same {s : Sem Next} (h : HK P m s) {H H' : AH} {v : Value} (hr : asNext (arun P m s H) = some (v, H')) : H' = H := by
  cases ha : arun P m s H with
  | none => rw [ha] at hr; cases hr
  | some p =>
    obtain ⟨nx, H1⟩ := p
    have := h H nx H1 ha
    subst this
    rw [ha] at hr
    cases nx <;> simp only [asNext] at hr <;> first | (cases hr; done) | (simp only [Option.some.injEq, Prod.mk.injEq] at hr; exact hr.2.symm)

theorem flatRun_same {o : Oper} {ρ : Operand → Value} {H H' : AH} {v : Value} (h : flatRun P o ρ H = some (v, H')) : H' = H := by
  have go : ∀ x : Option Next, asVal H x = some (v, H') → H' = H := by
    intro x hx
    unfold asVal at hx
    split at hx
    · rename_i u
      cases hf : flat depth u with
      | false => rw [hf] at hx; cases hx
      | true => rw [hf] at hx; simp only [cond_true, Option.some.injEq, Prod.mk.injEq] at hx; exact hx.2.symm
    · simp only [Option.some.injEq, Prod.mk.injEq] at hx; exact hx.2.symm
    · cases hx
  unfold flatRun at h
  split at h
  · cases h
  · cases ha : o.op.operands.all (fun x => flat depth (ρ x)) with
    | false => rw [ha] at h; cases h
    | true => rw [ha] at h; exact go _ h

theorem quiet_same {ne : NE} {ih : Ex} {o : Oper} {ρ : Operand → Value} {H H' : AH} {v : Value} (hq : quiet P o = true) (h : runOp P ne ih m o ρ H = some (v, H')) : H' = H := by
  have fl := fun hh => flatRun_same (P := P) (o := o) (ρ := ρ) (H := H) (H' := H') (v := v) hh
  obtain ⟨dst, op, ty, pos, after, guard⟩ := o
  unfold quiet at hq
  unfold runOp at h
  simp only at h hq
  cases op with
  | call c =>
    obtain ⟨callee, args, ts⟩ := c
    cases callee with
    | builtin b =>
      cases b <;> simp only at hq <;> first | (cases hq; done) | skip
      · exact fl h
      · simp only at h
        split at h
        · simp only [Option.some.injEq, Prod.mk.injEq] at h; exact h.2.symm
        · split at h
          · simp only [Option.some.injEq, Prod.mk.injEq] at h; exact h.2.symm
          · cases h
        · exact fl h
      · exact fl h
      · exact fl h
      · simp only at h
        split at h
        · rename_i a n c _
          cases hb : (Nat.beq n 0 || Nat.beq c 0) with
          | true => rw [hb] at h; cases h
          | false => rw [hb] at h; simp only [cond_false, Option.some.injEq, Prod.mk.injEq] at h; exact h.2.symm
        · exact fl h
    | _ => cases hq
  | move x => simp only [aOp, Option.some.injEq, Prod.mk.injEq] at h; exact h.2.symm
  | assign x => simp only [aOp, Option.some.injEq, Prod.mk.injEq] at h; exact h.2.symm
  | pick c a b =>
    simp only [aOp] at h
    split at h
    · simp only [Option.some.injEq, Prod.mk.injEq] at h; exact h.2.symm
    · cases h
  | slice t x lo hi mx =>
    simp only [aOp] at h
    split at h
    · split at h
      · simp only [Option.some.injEq, Prod.mk.injEq] at h; exact h.2.symm
      · cases h
    · split at h
      · simp only [Option.some.injEq, Prod.mk.injEq] at h; exact h.2.symm
      · cases h
    · exact fl h
  | binOp op t x y yt =>
    simp only [aOp] at h
    split at h
    · simp only [Option.some.injEq, Prod.mk.injEq] at h; exact h.2.symm
    · exact fl h
  | unOp op t x => exact fl h
  | typeAssert x a b c =>
    simp only [aOp] at h
    split at h
    · split at h
      · simp only [Option.some.injEq, Prod.mk.injEq] at h; exact h.2.symm
      · exact fl h
    · exact fl h
  | build t ps =>
    simp only [aOp] at h
    cases hz : zflat P t with
    | false => rw [hz] at h; cases h
    | true => rw [hz] at h; exact asNext_same (hk_v (hk_build _ _)) h
  | nilCheck x =>
    simp only [aOp] at h
    split at h
    · simp only [Option.some.injEq, Prod.mk.injEq] at h; exact h.2.symm
    · simp only [Option.some.injEq, Prod.mk.injEq] at h; exact h.2.symm
    · cases h
  | makeInterface t x => exact asNext_same (hk_v (hk_makeInterface _ _)) h
  | makeFunc fn f c => exact asNext_same (P := P) (m := m) (hk_v (hk_pure _)) h
  | fieldAddr t x f => exact asNext_same (hk_v (hk_fieldAt _ _ _)) h
  | field t x f => exact asNext_same (hk_v (hk_field _ _ _)) h
  | indexAddr t x i => exact asNext_same (hk_v (hk_indexAt _ _ _)) h
  | index t x i => exact asNext_same (hk_v (hk_index _ _ _)) h
  | load t x => exact asNext_same (hk_v (hk_loadAt _ _)) h
  | lookup t x k ok =>
    simp only [aOp] at h
    cases hf : flat depth (ρ k) with
    | false => rw [hf] at h; cases h
    | true =>
      rw [hf] at h
      simp only [cond_true] at h
      split at h
      · simp only [Option.some.injEq, Prod.mk.injEq] at h; exact h.2.symm
      · cases h
  | extract x i => exact asNext_same (hk_v (hk_extract _ _)) h
  | convert s d x =>
    simp only at hq
    simp only [aOp] at h
    split at h
    · split at h
      · simp only [Option.some.injEq, Prod.mk.injEq] at h; exact h.2.symm
      · cases h
    · split at h
      · rename_i h1 h2
        rw [h1, h2] at hq
        cases hq
      · cases h
    · split at h
      · rename_i h1 h2
        rw [h1, h2] at hq
        cases hq
      · exact fl h
    · exact fl h
  | _ => cases hq

end Go.Abs


namespace Go.Abs

variable {P : Program} {m : Nat}

theorem veq_eq : ∀ (n : Nat) {v u : Value}, veq n v u = true → v = u := by
  intro n
  induction n with
  | zero =>
    intro v u h
    unfold veq at h
    split at h <;> first | (cases h; done) | skip
    · simp at h; rw [h]
    · simp at h; rw [h.1, h.2]
    · rename_i a b; simp at h; exact congrArg _ (ByteArray.ext h)
    · simp only [Bool.and_eq_true, beq_iff_eq] at h
      rw [h.1.1, Nat.eq_of_beq_eq_true h.1.2, Nat.eq_of_beq_eq_true h.2]
    · simp at h; rw [h]
    · simp only [Bool.and_eq_true, beq_iff_eq] at h
      rw [h.1.1, Nat.eq_of_beq_eq_true h.1.2, Nat.eq_of_beq_eq_true h.2]
    · simp at h; rw [h]
    · rfl
    · rfl
    all_goals (rename_i hk; cases hk)
  | succ n ih =>
    have zz : ∀ (a b : Array Value), Nat.beq a.size b.size = true → ((a.toList.zip b.toList).all fun (x, y) => veq n x y) = true → a = b := by
      intro a b hs hall
      have hs := Nat.eq_of_beq_eq_true hs
      refine Array.ext hs fun i h1 h2 => ih ?_
      rw [List.all_eq_true] at hall
      have := hall (a[i], b[i]) (by
        rw [List.mem_iff_getElem?]
        exact ⟨i, by rw [List.getElem?_zip_eq_some]; simp [h1, h2]⟩)
      exact this
    intro v u h
    unfold veq at h
    split at h <;> first | (cases h; done) | skip
    · simp at h; rw [h]
    · simp at h; rw [h.1, h.2]
    · rename_i a b; simp at h; exact congrArg _ (ByteArray.ext h)
    · simp only [Bool.and_eq_true, beq_iff_eq] at h
      rw [h.1.1, Nat.eq_of_beq_eq_true h.1.2, Nat.eq_of_beq_eq_true h.2]
    · simp at h; rw [h]
    · simp only [Bool.and_eq_true, beq_iff_eq] at h
      rw [h.1.1, Nat.eq_of_beq_eq_true h.1.2, Nat.eq_of_beq_eq_true h.2]
    · simp at h; rw [h]
    · rfl
    · rfl
    · rename_i k t v' u' w' hk
      cases hk
      simp only [Bool.and_eq_true] at h
      rw [Nat.eq_of_beq_eq_true h.1, ih h.2]
    · rename_i k a b hk
      cases hk
      simp only [Bool.and_eq_true] at h
      rw [zz a b h.1 h.2]
    · rename_i k a b hk
      cases hk
      simp only [Bool.and_eq_true] at h
      rw [zz a b h.1 h.2]
    · rename_i k f a c g b d hk
      cases hk
      simp only [Bool.and_eq_true, beq_iff_eq] at h
      obtain ⟨⟨⟨⟨h1, h2⟩, h3⟩, h4⟩, h5⟩ := h
      rw [h1, zz a b h2 h3, zz c d h4 h5]

theorem all_zipIdx {α : Type} {l : List α} {f : α × Nat → Bool} (h : l.zipIdx.all f = true) {i : Nat} {x : α} (hi : l[i]? = some x) : f (x, i) = true := by
  rw [List.all_eq_true] at h
  refine h (x, i) ?_
  rw [List.mem_iff_getElem?]
  exact ⟨i, by simp [List.getElem?_zipIdx, hi]⟩

theorem edgesOk_spec {ops : List Oper} (h : edgesOk ops = true) {i : Nat} {o : Oper} (hi : ops[i]? = some o) {e : Edge} (he : e ∈ o.after) (hb : Region.binds .any e = true) : e.on < i := by
  have := all_zipIdx h hi
  simp only at this
  rw [Array.all_eq_true_iff_forall_mem] at this
  have := this e he
  rw [hb] at this
  simp only [Bool.not_true, Bool.false_or] at this
  exact Nat.lt_of_lt_of_le (Nat.lt_succ_self _) (Nat.le_of_ble_eq_true this)

theorem closedOk_spec {ops : List Oper} {bs : List Nat} (h : closedOk ops bs = true) {i j : Nat} {o : Oper} (hi : ops[i]? = some o) (hj : j < i) (hp : pre bs i j = true) : ∃ e ∈ o.after, Region.binds .any e = true ∧ (e.on = j ∨ (j < e.on ∧ pre bs e.on j = true)) := by
  have := all_zipIdx h hi
  simp only [List.all_eq_true, List.mem_range] at this
  have := this j hj
  rw [hp] at this
  simp only [Bool.not_true, Bool.false_or, Array.any_eq_true'] at this
  obtain ⟨e, he, hh⟩ := this
  simp only [Bool.and_eq_true, Bool.or_eq_true] at hh
  refine ⟨e, he, hh.1, hh.2.imp (fun h => Nat.eq_of_beq_eq_true h) (fun h => ⟨Nat.lt_of_lt_of_le (Nat.lt_succ_self _) (Nat.le_of_ble_eq_true h.1), h.2⟩)⟩

theorem slotsOk_spec {ops : Array Oper} {bs : List Nat} (h : slotsOk ops bs = true) {i j : Nat} {o p : Oper} (hj : ops.toList[j]? = some o) (hi : ops.toList[i]? = some p) (hij : i < j) {t : Nat}
    (ht : (p.dst = some t ∧ t ∈ namesOf ops o) ∨ (o.dst = some t ∧ t ∈ namesOf ops p)) : pre bs j i = true := by
  have h1 := all_zipIdx h hj
  have h2 := all_zipIdx h1 hi
  simp only at h2
  have hb : Nat.blt i j = true := Nat.ble_eq_true_of_le hij
  rw [hb] at h2
  simp only [Bool.not_true, Bool.false_or, Bool.or_eq_true, Bool.not_eq_true'] at h2
  rcases h2 with h2 | h2
  · exact h2
  · exfalso
    simp only [Bool.or_eq_false_iff] at h2
    rcases ht with ⟨h3, h4⟩ | ⟨h3, h4⟩
    · have := h2.1
      rw [h3] at this
      simp at this
      exact this h4
    · have := h2.2
      rw [h3] at this
      simp at this
      exact this h4

theorem putAll_next : ∀ (l : List (Nat × Nat × Blk)) (H : AH), (putAll l H).next = H.next := by
  intro l
  induction l with
  | nil => intro H; rfl
  | cons a l ih => intro H; exact ih _

theorem putAll_out : ∀ (l : List (Nat × Nat × Blk)) (H : AH) (id : Nat), (∀ p ∈ l, p.2.1 ≠ id) → (putAll l H).get id = H.get id := by
  intro l
  induction l with
  | nil => intro H id _; rfl
  | cons a l ih =>
    intro H id h
    obtain ⟨i, id', b⟩ := a
    show (putAll l (H.put id' b)).get id = H.get id
    rw [ih _ _ (fun p hp => h p (by simp [hp])), AH.get_put_other _ _ (fun e => h (i, id', b) (by simp) e.symm)]

theorem putAll_in : ∀ (l : List (Nat × Nat × Blk)) (H : AH) (p : Nat × Nat × Blk), p ∈ l → (∀ q ∈ l, q.2.1 = p.2.1 → q = p) → (putAll l H).get p.2.1 = some p.2.2 := by
  intro l
  induction l with
  | nil => intro H p hp; cases hp
  | cons a l ih =>
    intro H p hp hu
    obtain ⟨i, id', b⟩ := a
    show (putAll l (H.put id' b)).get p.2.1 = some p.2.2
    by_cases hl : p ∈ l
    · exact ih _ p hl fun q hq => hu q (by simp [hq])
    · have hpa : p = (i, id', b) := by simpa [hl] using hp
      subst hpa
      rw [putAll_out _ _ _ (fun q hq e => hl (by have := hu q (by simp [hq]) e; subst this; exact hq)), AH.get_put_same]

section plan
variable {ne : NE} {ih : Ex} {n : Fr} {ops : Array Oper} {bs : List Nat}

inductive PCase (P : Program) (ne : NE) (ih : Ex) (m : Nat) (n : Fr) (ops : Array Oper) (bs : List Nat) (i : Nat) (o : Oper) (d d' : DSt) : Prop
  | pass (hw : wantedA ops o d.ss = some false) (hp : putA n d.ss o.dst undef = some d'.ss) (hc : d'.cnt = d.cnt) (hG : d'.G = d.G) (hpe : d'.pend = d.pend) (ha : d'.acts = d.acts) (hgs : d'.gs = d.gs)
      (hpl : d'.pls = ⟨.pass, d.ss, d.cnt, undef, d.cnt⟩ :: d.pls)
  | quiet (v : Value) (hw : wantedA ops o d.ss = some true) (hx : o.op.operands.all (okx P) = true) (hq : quiet P o = true) (hp : putA n d.ss o.dst v = some d'.ss) (hc : d'.cnt = d.cnt) (hG : d'.G = d.G) (hpe : d'.pend = d.pend) (ha : d'.acts = d.acts) (hgs : d'.gs = d.gs)
      (hpl : d'.pls = ⟨.quiet, d.ss, d.cnt, v, d.cnt⟩ :: d.pls)
  | new (v : Value) (H : AH) (b : Blk) (hw : wantedA ops o d.ss = some true) (hx : o.op.operands.all (okx P) = true) (hr : aOp P m o (evalA d.ss) ⟨d.cnt, .nil⟩ = some (v, H)) (hb : H.get d.cnt = some b) (hn : H.next = d.cnt + 1)
      (hm : makes o = true) (hp : putA n d.ss o.dst v = some d'.ss) (hc : d'.cnt = d.cnt + 1) (hG : d'.G = d.G) (hpe : d'.pend = (i, d.cnt, b) :: d.pend) (ha : d'.acts = d.acts) (hgs : d'.gs = d.gs)
      (hpl : d'.pls = ⟨.new b, d.ss, d.cnt, v, d.cnt + 1⟩ :: d.pls)
  | act (v : Value) (hw : wantedA ops o d.ss = some true) (hx : o.op.operands.all (okx P) = true) (hch : d.acts.all (pre bs i) = true)
      (hr : runOp P ne ih m o (evalA d.ss) (putAll (d.pend.filter fun p => pre bs i p.1) { d.G with next := d.cnt }) = some (v, d'.G)) (hle : d.cnt ≤ d'.G.next)
      (hp : putA n d.ss o.dst v = some d'.ss) (hc : d'.cnt = d'.G.next) (hpe : d'.pend = d.pend.filter fun p => !pre bs i p.1) (ha : d'.acts = i :: d.acts) (hgs : d'.gs = d'.G :: d.gs)
      (hpl : d'.pls = ⟨.act, d.ss, d.cnt, v, d'.G.next⟩ :: d.pls)

theorem planOp_case {i : Nat} {o : Oper} {d d' : DSt} (h : planOp P ne ih m n ops bs i o d = some d') : PCase P ne ih m n ops bs i o d d' := by
  unfold planOp at h
  split at h
  · rename_i hw
    split at h
    · rename_i ss hp
      simp only [Option.some.injEq] at h
      subst h
      exact .pass hw hp rfl rfl rfl rfl rfl rfl
    · cases h
  · rename_i hw
    cases hx : o.op.operands.all (okx P) with
    | false => rw [hx] at h; cases h
    | true =>
      rw [hx] at h
      simp only [cond_true] at h
      cases hq : quiet P o with
      | true =>
        rw [hq] at h
        simp only [cond_true] at h
        split at h
        · rename_i v _ _
          split at h
          · rename_i ss hp
            simp only [Option.some.injEq] at h
            subst h
            exact .quiet v hw hx hq hp rfl rfl rfl rfl rfl rfl
          · cases h
        · cases h
      | false =>
        rw [hq] at h
        simp only [cond_false] at h
        cases hm : makes o with
        | true =>
          rw [hm] at h
          simp only [cond_true] at h
          split at h
          · rename_i v H hr
            split at h
            · rename_i b hb
              cases hn : Nat.beq H.next (d.cnt + 1) with
              | false => rw [hn] at h; cases h
              | true =>
                rw [hn] at h
                simp only [cond_true] at h
                split at h
                · rename_i ss hp
                  simp only [Option.some.injEq] at h
                  subst h
                  exact .new v H b hw hx hr hb (Nat.eq_of_beq_eq_true hn) hm hp rfl rfl rfl rfl rfl rfl
                · cases h
            · cases h
          · cases h
        | false =>
          rw [hm] at h
          simp only [cond_false] at h
          cases hch : d.acts.all (pre bs i) with
          | false => rw [hch] at h; cases h
          | true =>
            rw [hch] at h
            simp only [cond_true] at h
            split at h
            · rename_i v G hr
              cases hG : Nat.ble d.cnt G.next with
              | false => rw [hG] at h; cases h
              | true =>
                rw [hG] at h
                simp only [cond_true] at h
                split at h
                · rename_i ss hp
                  simp only [Option.some.injEq] at h
                  subst h
                  exact .act v hw hx hch hr (Nat.le_of_ble_eq_true hG) hp rfl rfl rfl rfl rfl
                · cases h
            · cases h
  · cases h

theorem planOps_seq : ∀ (l : List Oper) (i : Nat) (d d' : DSt), planOps P ne ih m n ops bs i l d = some d' →
    ∃ D : Nat → DSt, D i = d ∧ D (i + l.length) = d' ∧ ∀ j o, l[j]? = some o → PCase P ne ih m n ops bs (i + j) o (D (i + j)) (D (i + j + 1)) := by
  intro l
  induction l with
  | nil =>
    intro i d d' h
    simp only [planOps, Option.some.injEq] at h
    subst h
    exact ⟨fun _ => d, rfl, rfl, fun j o hj => by simp at hj⟩
  | cons o l ihl =>
    intro i d d' h
    simp only [planOps] at h
    cases hp : planOp P ne ih m n ops bs i o d with
    | none => rw [hp] at h; cases h
    | some d1 =>
      rw [hp] at h
      obtain ⟨D, h1, h2, h3⟩ := ihl (i + 1) d1 d' h
      refine ⟨fun k => if k = i then d else D k, by simp, ?_, ?_⟩
      · show (if i + (o :: l).length = i then d else D (i + (o :: l).length)) = d'
        rw [if_neg (by simp)]
        rw [← h2]; congr 1; simp; omega
      · intro j o' hj
        cases j with
        | zero =>
          simp only [List.getElem?_cons_zero, Option.some.injEq] at hj
          subst hj
          show PCase P ne ih m n ops bs i o (if i = i then d else D i) (if i + 1 = i then d else D (i + 1))
          rw [if_pos rfl, if_neg (by omega), h1]
          exact planOp_case hp
        | succ j =>
          have := h3 j o' (by simpa using hj)
          show PCase P ne ih m n ops bs (i + (j + 1)) o' (if i + (j + 1) = i then d else D (i + (j + 1))) (if i + (j + 1) + 1 = i then d else D (i + (j + 1) + 1))
          rw [if_neg (by omega), if_neg (by omega)]
          have e : i + 1 + j = i + (j + 1) := by omega
          rw [e] at this
          exact this

end plan

end Go.Abs


namespace Go.Abs

variable {P : Program} {m : Nat}

def UnderV (n : Nat) (v : Value) : Prop := ∀ φ v', VR φ v v' → VR (restr φ n) v v'

theorem restr_of {φ : Inj} {n b : Nat} {l : Loc} (hb : b < n) (h : φ b = some l) : restr φ n b = some l := by rw [restr_lt hb]; exact h

theorem underV_of {ψ : Inj} {n : Nat} (hd : ∀ id l, ψ id = some l → id < n) {v u : Value} (h : VR ψ v u) : UnderV n v := by
  induction h with
  | ptr b o l hb =>
    intro φ v' h'
    cases h' with
    | ptr _ _ l' hb' => exact .ptr b o l' (restr_of (hd _ _ hb) hb')
  | slice b o k c l hb hc =>
    intro φ v' h'
    cases h' with
    | slice _ _ _ _ l' hb' hc' => exact .slice b o k c l' (restr_of (hd _ _ hb) hb') hc'
    | sliceOpen _ _ _ c' l' hb' h1 h2 => exact .sliceOpen b o k c' l' (restr_of (hd _ _ hb) hb') h1 h2
    | sliceEnd _ _ l' a hb' => exact .sliceEnd b o l' a (restr_of (hd _ _ hb) hb')
    | sliceZero _ _ l' a hb' => exact .sliceZero b o l' a (restr_of (hd _ _ hb) hb')
  | sliceOpen b o k c l hb hc =>
    intro φ v' h'
    cases h' with
    | slice _ _ _ _ l' hb' hc' => exact .slice b o k _ l' (restr_of (hd _ _ hb) hb') hc'
    | sliceOpen _ _ _ c' l' hb' h1 h2 => exact .sliceOpen b o k c' l' (restr_of (hd _ _ hb) hb') h1 h2
    | sliceEnd _ _ l' a hb' => exact .sliceEnd b o l' a (restr_of (hd _ _ hb) hb')
  | sliceEnd b o l a hb =>
    intro φ v' h'
    cases h' with
    | slice _ _ _ _ l' hb' hc' => exact .slice b o 0 _ l' (restr_of (hd _ _ hb) hb') hc'
    | sliceOpen _ _ _ c' l' hb' h1 h2 => exact .sliceOpen b o 0 c' l' (restr_of (hd _ _ hb) hb') h1 h2
    | sliceEnd _ _ l' a hb' => exact .sliceEnd b o l' a (restr_of (hd _ _ hb) hb')
  | sliceZero b o l a hb =>
    intro φ v' h'
    cases h' with
    | slice _ _ _ _ l' hb' hc' => exact .slice b o 0 _ l' (restr_of (hd _ _ hb) hb') hc'
    | sliceZero _ _ l' a hb' => exact .sliceZero b o l' a (restr_of (hd _ _ hb) hb')
  | map r l hb =>
    intro φ v' h'
    cases h' with
    | map _ l' hb' => exact .map r l' (restr_of (hd _ _ hb) hb')
  | func fn f g f' g' hf hg h1 h2 i1 i2 =>
    intro φ v' h'
    cases h' with
    | func _ _ _ f2 g2 hf2 hg2 k1 k2 =>
      refine .func fn f g f2 g2 hf2 hg2 (fun i x y hx hy => ?_) (fun i x y hx hy => ?_)
      · obtain ⟨u, hu, _⟩ := AR.get (φ := ψ) ⟨hf, h1⟩ hx
        exact i1 i x u hx hu φ y (k1 i x y hx hy)
      · obtain ⟨u, hu, _⟩ := AR.get (φ := ψ) ⟨hg, h2⟩ hx
        exact i2 i x u hx hu φ y (k2 i x y hx hy)
  | iface t v u hv ih =>
    intro φ v' h'
    cases h' with
    | iface _ _ v2 hv2 => exact .iface t v v2 (ih φ v2 hv2)
  | agg f f' hf h1 i1 =>
    intro φ v' h'
    cases h' with
    | agg _ f2 hf2 k1 =>
      refine .agg f f2 hf2 (fun i x y hx hy => ?_)
      obtain ⟨u, hu, _⟩ := AR.get (φ := ψ) ⟨hf, h1⟩ hx
      exact i1 i x u hx hu φ y (k1 i x y hx hy)
  | tuple f f' hf h1 i1 =>
    intro φ v' h'
    cases h' with
    | tuple _ f2 hf2 k1 =>
      refine .tuple f f2 hf2 (fun i x y hx hy => ?_)
      obtain ⟨u, hu, _⟩ := AR.get (φ := ψ) ⟨hf, h1⟩ hx
      exact i1 i x u hx hu φ y (k1 i x y hx hy)
  | bool b => intro φ v' h'; cases h'; exact .bool b
  | int k b => intro φ v' h'; cases h'; exact .int k b
  | float k b => intro φ v' h'; cases h'; exact .float k b
  | complex k a b v hv => intro φ v' h'; cases h' with | complex _ _ _ _ hv => exact .complex k a b _ hv
  | string s => intro φ v' h'; cases h'; exact .string s
  | ptrNil => intro φ v' h'; cases h'; exact .ptrNil
  | sliceNil a b => intro φ v' h'; cases h'; exact .sliceNil a b
  | mapNil => intro φ v' h'; cases h'; exact .mapNil
  | chanNil => intro φ v' h'; cases h'; exact .chanNil
  | nilFunc => intro φ v' h'; cases h'; exact .nilFunc
  | nilIface => intro φ v' h'; cases h'; exact .nilIface

theorem blt_lt {a b : Nat} (h : Nat.blt a b = true) : a < b := Nat.lt_of_lt_of_le (Nat.lt_succ_self _) (Nat.le_of_ble_eq_true h)

theorem unders_under {c : Nat} : ∀ (n : Nat) {v : Value}, unders c n v = true → UnderV c v := by
  intro n
  induction n with
  | zero =>
    intro v h φ v' h'
    cases h' <;> simp only [unders] at h <;> first
      | (cases h; done)
      | exact .bool _ | exact .int _ _ | exact .float _ _ | exact .complex _ _ _ _ (by assumption) | exact .string _ | exact .ptrNil | exact .sliceNil _ _ | exact .mapNil | exact .chanNil | exact .nilFunc | exact .nilIface
      | exact .ptr _ _ _ (restr_of (blt_lt h) (by assumption))
      | exact .map _ _ (restr_of (blt_lt h) (by assumption))
      | exact .slice _ _ _ _ _ (restr_of (blt_lt h) (by assumption)) (by assumption)
      | exact .sliceOpen _ _ _ _ _ (restr_of (blt_lt h) (by assumption)) (by assumption) (by assumption)
      | exact .sliceEnd _ _ _ _ (restr_of (blt_lt h) (by assumption))
      | exact .sliceZero _ _ _ _ (restr_of (blt_lt h) (by assumption))
  | succ n ih =>
    have arr : ∀ {φ : Inj} (f f' : Array Value), f.all (unders c n) = true → (∀ (i : Nat) (x y : Value), f[i]? = some x → f'[i]? = some y → VR φ x y) → (∀ (i : Nat) (x y : Value), f[i]? = some x → f'[i]? = some y → VR (restr φ c) x y) := by
      intro φ f f' hall hh i x y hx hy
      have hx' := hx
      rw [Array.getElem?_eq_some_iff] at hx
      obtain ⟨hi, rfl⟩ := hx
      rw [Array.all_eq_true] at hall
      exact ih (hall i hi) φ y (hh i _ y hx' hy)
    intro v h φ v' h'
    cases h' <;> simp only [unders, Bool.and_eq_true] at h <;> first
      | (cases h; done)
      | exact .bool _ | exact .int _ _ | exact .float _ _ | exact .complex _ _ _ _ (by assumption) | exact .string _ | exact .ptrNil | exact .sliceNil _ _ | exact .mapNil | exact .chanNil | exact .nilFunc | exact .nilIface
      | exact .ptr _ _ _ (restr_of (blt_lt h) (by assumption))
      | exact .map _ _ (restr_of (blt_lt h) (by assumption))
      | exact .slice _ _ _ _ _ (restr_of (blt_lt h) (by assumption)) (by assumption)
      | exact .sliceOpen _ _ _ _ _ (restr_of (blt_lt h) (by assumption)) (by assumption) (by assumption)
      | exact .sliceEnd _ _ _ _ (restr_of (blt_lt h) (by assumption))
      | exact .sliceZero _ _ _ _ (restr_of (blt_lt h) (by assumption))
      | exact .iface _ _ _ (ih h _ _ (by assumption))
      | exact .agg _ _ (by assumption) (arr _ _ h (by assumption))
      | exact .tuple _ _ (by assumption) (arr _ _ h (by assumption))
      | exact .func _ _ _ _ _ (by assumption) (by assumption) (arr _ _ h.1 (by assumption)) (arr _ _ h.2 (by assumption))

theorem UnderV.mono {n k : Nat} (hnk : n ≤ k) {v : Value} (h : UnderV n v) : UnderV k v := fun φ v' hv => (h φ v' hv).mono (restr_le n k hnk (Inj.le_refl φ))

def UnderB (n : Nat) (b : Blk) : Prop := ∀ φ l w, OR φ l b w → OR (restr φ n) l b w

theorem UnderB.mono {n k : Nat} (hnk : n ≤ k) {b : Blk} (h : UnderB n b) : UnderB k b := fun φ l w hv => (h φ l w hv).mono (restr_le n k hnk (Inj.le_refl φ))

theorem objR_under {ψ : Inj} {n : Nat} (hd : ∀ id l, ψ id = some l → id < n) {φ : Inj} {bo o1 o2 : Obj} (h1 : ObjR ψ bo o1) (h2 : ObjR φ bo o2) : ObjR (restr φ n) bo o2 := by
  cases bo with
  | map es k =>
    cases o1 <;> first | (exact h1.elim) | skip
    cases o2 <;> first | (exact h2.elim) | skip
    rename_i es1 k1 es2 k2
    refine ⟨h2.1, h2.2.1, fun i x y hx hy => ?_⟩
    obtain ⟨q1, q2, q3, q4⟩ := h2.2.2 i x y hx hy
    have hi : i < es1.size := by rw [← h1.2.1]; rw [Array.getElem?_eq_some_iff] at hx; exact hx.1
    obtain ⟨_, r2, _⟩ := h1.2.2 i x es1[i] hx (by simp [hi])
    exact ⟨q1, underV_of hd r2 φ _ q2, q3, q4⟩
  | stringIter s p =>
    cases o1 <;> first | (exact h1.elim) | skip
    cases o2 <;> first | (exact h2.elim) | skip
    exact h2
  | mapIter m a b c =>
    cases o1 <;> first | (exact h1.elim) | skip
    cases o2 <;> first | (exact h2.elim) | skip
    exact ⟨underV_of hd h1.1 φ _ h2.1, h2.2⟩
  | _ => cases o1 <;> exact h1.elim

theorem underB_of {ψ : Inj} {n : Nat} (hd : ∀ id l, ψ id = some l → id < n) {b : Blk} {l : Loc} {w : World} (h : OR ψ l b w) : UnderB n b := by
  intro φ l' w' h'
  obtain ⟨bo, opn, esz, ro⟩ := b
  cases bo with
  | cells c e f =>
    obtain ⟨c1, e1, f1, _, h1⟩ := h
    obtain ⟨c2, e2, f2, h3, h2⟩ := h'
    refine ⟨c2, e2, f2, h3, ⟨fun i v hv => ?_, h2.fin, h2.esz, h2.exact_, h2.own, h2.elem⟩⟩
    obtain ⟨u, _, hu⟩ := h1.cell i v hv
    obtain ⟨v', hv', hr⟩ := h2.cell i v hv
    exact ⟨v', hv', underV_of hd hu φ v' hr⟩
  | deferred d => exact h'
  | _ =>
    obtain ⟨o1, _, h1, _⟩ := h
    obtain ⟨o2, h3, h4, h5⟩ := h'
    exact ⟨o2, h3, objR_under hd h1 h4, h5⟩

theorem InvG.part {φ : Inj} {g : Nat → Option Blk} {n : Nat} {w : World} (hi : InvG φ g n w) {Hin : AH} (hsub : ∀ id b, Hin.get id = some b → g id = some b ∧ id < Hin.next) (hu : ∀ id b, Hin.get id = some b → UnderB Hin.next b) :
    Inv (restr φ Hin.next) Hin w := by
  refine ⟨fun id l hl => ?_, fun id b hb => ?_, fun id id' b b' l l' hb hb' hne hr ha ha' hl hl' => ?_⟩
  · obtain ⟨h1, h2⟩ := restr_some hl
    exact ⟨h1, (hi.dom id l h2).2⟩
  · obtain ⟨h1, h2⟩ := hsub id b hb
    obtain ⟨l, h3, h4⟩ := hi.obj id b h1
    exact ⟨l, restr_of h2 h3, hu id b hb φ l w h4⟩
  · exact hi.sep id id' b b' l l' (hsub id b hb).1 (hsub id' b' hb').1 hne hr ha ha' (restr_some hl).2 (restr_some hl').2

end Go.Abs


namespace Go.Abs

variable {P : Program} {m : Nat}

def pl (D : Nat → DSt) (i : Nat) : Pl := (D (i + 1)).pls.headD ⟨.pass, .nil, 0, undef, 0⟩

def IsAct (ops : Array Oper) (D : Nat → DSt) (i : Nat) : Prop := i < ops.size ∧ (pl D i).kind = .act
def IsNew (ops : Array Oper) (D : Nat → DSt) (i : Nat) (b : Blk) : Prop := i < ops.size ∧ (pl D i).kind = .new b

structure Plan (P : Program) (ne : NE) (ih : Ex) (m : Nat) (n : Fr) (ops : Array Oper) (bs : List Nat) (D : Nat → DSt) (ss0 : Sl) (H0 : AH) : Prop where
  slots : slotsOk ops bs = true
  edges : edgesOk ops.toList = true
  closed : closedOk ops.toList bs = true
  start : D 0 = ⟨ss0, H0.next, H0, [], [H0], [], []⟩
  seq : ∀ i o, ops.toList[i]? = some o → PCase P ne ih m n ops bs i o (D i) (D (i + 1))
  steady : ∀ i o, ops.toList[i]? = some o → steady P ne ih m bs (D ops.size).gs.reverse (D ops.size).acts.reverse i o (pl D i) = true

section
variable {ne : NE} {ih : Ex} {n : Fr} {ops : Array Oper} {bs : List Nat} {D : Nat → DSt} {ss0 : Sl} {H0 : AH}

theorem op_at {i : Nat} (h : i < ops.size) : ∃ o, ops.toList[i]? = some o ∧ ops[i]? = some o := ⟨ops[i], by simp [h], by simp [h]⟩

theorem Plan.cnt_step (p : Plan P ne ih m n ops bs D ss0 H0) {i : Nat} (hi : i < ops.size) : (D i).cnt ≤ (D (i + 1)).cnt := by
  obtain ⟨o, ho, _⟩ := op_at hi
  cases p.seq i o ho <;> omega

theorem Plan.cnt_mono (p : Plan P ne ih m n ops bs D ss0 H0) {i j : Nat} (hij : i ≤ j) (hj : j ≤ ops.size) : (D i).cnt ≤ (D j).cnt := by
  induction j with
  | zero => rw [show i = 0 by omega]; exact Nat.le_refl _
  | succ j ih =>
    by_cases h : i = j + 1
    · subst h; exact Nat.le_refl _
    · exact Nat.le_trans (ih (by omega) (by omega)) (p.cnt_step (by omega))

theorem Plan.gnext (p : Plan P ne ih m n ops bs D ss0 H0) {i : Nat} (hi : i ≤ ops.size) : (D i).G.next ≤ (D i).cnt := by
  induction i with
  | zero => rw [p.start]; exact Nat.le_refl _
  | succ i ih =>
    obtain ⟨o, ho, _⟩ := op_at (show i < ops.size by omega)
    have := ih (by omega)
    cases p.seq i o ho with
    | pass hw hp hc hG hpe ha hgs hpl => rw [hc, hG]; exact this
    | quiet v hw hx hq hp hc hG hpe ha hgs hpl => rw [hc, hG]; exact this
    | new v H b hw hx hr hb hn hm hp hc hG hpe ha hgs hpl => rw [hc, hG]; omega
    | act v hw hx hch hr hle hp hc hpe ha hgs hpl => rw [hc]; exact Nat.le_refl _

theorem Plan.kind_new (p : Plan P ne ih m n ops bs D ss0 H0) {i : Nat} {b : Blk} (h : IsNew ops D i b) : (D (i + 1)).cnt = (D i).cnt + 1 := by
  obtain ⟨o, ho, _⟩ := op_at h.1
  have hk := h.2
  unfold pl at hk
  cases p.seq i o ho with
  | pass hw hp hc hG hpe ha hgs hpl => rw [hpl] at hk; cases hk
  | quiet v hw hx hq hp hc hG hpe ha hgs hpl => rw [hpl] at hk; cases hk
  | new v H b hw hx hr hb hn hm hp hc hG hpe ha hgs hpl => exact hc
  | act v hw hx hch hr hle hp hc hpe ha hgs hpl => rw [hpl] at hk; cases hk

theorem not_new_act {i : Nat} {b : Blk} (h : IsNew ops D i b) (k : IsAct ops D i) : False := by have := h.2; rw [k.2] at this; cases this

theorem Plan.new_inj (p : Plan P ne ih m n ops bs D ss0 H0) {i j : Nat} {b : Blk} (h : IsNew ops D i b) (hj : j < ops.size) (hc : (D i).cnt = (D j).cnt) : j ≤ i := by
  by_cases hlt : i < j
  · have h1 := p.cnt_mono (show i + 1 ≤ j by omega) (by omega)
    rw [p.kind_new h] at h1
    omega
  · omega

theorem Plan.new_eq (p : Plan P ne ih m n ops bs D ss0 H0) {i j : Nat} {b c : Blk} (h : IsNew ops D i b) (k : IsNew ops D j c) (hc : (D i).cnt = (D j).cnt) : i = j :=
  Nat.le_antisymm (p.new_inj k h.1 hc.symm) (p.new_inj h k.1 hc)

theorem Plan.acts (p : Plan P ne ih m n ops bs D ss0 H0) {i : Nat} (hi : i ≤ ops.size) : ∀ a, a ∈ (D i).acts ↔ a < i ∧ IsAct ops D a := by
  induction i with
  | zero => intro a; rw [p.start]; simp
  | succ i ih =>
    obtain ⟨o, ho, _⟩ := op_at (show i < ops.size by omega)
    have := ih (by omega)
    intro a
    have skip : (pl D i).kind ≠ .act → ((a < i ∧ IsAct ops D a) ↔ (a < i + 1 ∧ IsAct ops D a)) := by
      intro hk
      constructor
      · intro h; exact ⟨by omega, h.2⟩
      · intro h
        refine ⟨?_, h.2⟩
        have : a ≠ i := fun e => hk (e ▸ h.2.2)
        omega
    cases p.seq i o ho with
    | pass hw hp hc hG hpe ha hgs hpl => rw [ha, this]; exact skip (by unfold pl; rw [hpl]; simp)
    | quiet v hw hx hq hp hc hG hpe ha hgs hpl => rw [ha, this]; exact skip (by unfold pl; rw [hpl]; simp)
    | new v H b hw hx hr hb hn hm hp hc hG hpe ha hgs hpl => rw [ha, this]; exact skip (by unfold pl; rw [hpl]; simp)
    | act v hw hx hch hr hle hp hc hpe ha hgs hpl =>
      rw [ha, List.mem_cons, this]
      constructor
      · rintro (rfl | h)
        · exact ⟨by omega, by omega, by unfold pl; rw [hpl]; rfl⟩
        · exact ⟨by omega, h.2⟩
      · intro h
        by_cases e : a = i
        · exact .inl e
        · exact .inr ⟨by omega, h.2⟩

theorem Plan.g_same (p : Plan P ne ih m n ops bs D ss0 H0) {i j : Nat} (hij : i ≤ j) (hj : j ≤ ops.size) (hno : ∀ a, i ≤ a → a < j → ¬ IsAct ops D a) : (D j).G = (D i).G := by
  induction j with
  | zero => rw [show i = 0 by omega]
  | succ j ih =>
    by_cases h : i = j + 1
    · subst h; rfl
    · have h1 := ih (by omega) (by omega) fun a h1 h2 => hno a h1 (by omega)
      rw [← h1]
      obtain ⟨o, ho, _⟩ := op_at (show j < ops.size by omega)
      cases p.seq j o ho with
      | pass hw hp hc hG hpe ha hgs hpl => exact hG
      | quiet v hw hx hq hp hc hG hpe ha hgs hpl => exact hG
      | new v H b hw hx hr hb hn hm hp hc hG hpe ha hgs hpl => exact hG
      | act v hw hx hch hr hle hp hc hpe ha hgs hpl => exact absurd ⟨by omega, by unfold pl; rw [hpl]; rfl⟩ (hno j (by omega) (by omega))

theorem Plan.pend (p : Plan P ne ih m n ops bs D ss0 H0) {i : Nat} (hi : i ≤ ops.size) : ∀ q, q ∈ (D i).pend ↔ q.1 < i ∧ IsNew ops D q.1 q.2.2 ∧ q.2.1 = (D q.1).cnt ∧ ∀ a, IsAct ops D a → q.1 < a → a < i → pre bs a q.1 = false := by
  induction i with
  | zero => intro a; rw [p.start]; simp
  | succ i ih =>
    obtain ⟨o, ho, _⟩ := op_at (show i < ops.size by omega)
    have := ih (by omega)
    intro q
    have noact : (pl D i).kind ≠ .act → ((∀ a, IsAct ops D a → q.1 < a → a < i → pre bs a q.1 = false) ↔ (∀ a, IsAct ops D a → q.1 < a → a < i + 1 → pre bs a q.1 = false)) := by
      intro hk
      constructor
      · intro h a ha h1 h2
        have : a ≠ i := fun e => hk (e ▸ ha.2)
        exact h a ha h1 (by omega)
      · intro h a ha h1 h2; exact h a ha h1 (by omega)
    have skip : (pl D i).kind ≠ .act → (∀ b, (pl D i).kind ≠ .new b) → ((q.1 < i ∧ IsNew ops D q.1 q.2.2 ∧ q.2.1 = (D q.1).cnt ∧ ∀ a, IsAct ops D a → q.1 < a → a < i → pre bs a q.1 = false) ↔ (q.1 < i + 1 ∧ IsNew ops D q.1 q.2.2 ∧ q.2.1 = (D q.1).cnt ∧ ∀ a, IsAct ops D a → q.1 < a → a < i + 1 → pre bs a q.1 = false)) := by
      intro hk hk2
      rw [noact hk]
      constructor
      · intro h; exact ⟨by omega, h.2⟩
      · intro h
        have : q.1 ≠ i := fun e => hk2 _ (by have := h.2.1.2; rw [e] at this; exact this)
        exact ⟨by omega, h.2⟩
    cases p.seq i o ho with
    | pass hw hp hc hG hpe ha hgs hpl => rw [hpe, this]; exact skip (by unfold pl; rw [hpl]; simp) (by unfold pl; rw [hpl]; simp)
    | quiet v hw hx hq hp hc hG hpe ha hgs hpl => rw [hpe, this]; exact skip (by unfold pl; rw [hpl]; simp) (by unfold pl; rw [hpl]; simp)
    | new v H b hw hx hr hb hn hm hp hc hG hpe ha hgs hpl =>
      have hk : (pl D i).kind = .new b := by unfold pl; rw [hpl]; rfl
      rw [hpe, List.mem_cons, this, noact (by rw [hk]; simp)]
      constructor
      · rintro (rfl | h)
        · exact ⟨by simp, ⟨by simp; omega, hk⟩, rfl, fun a _ h1 h2 => by simp at h1; omega⟩
        · exact ⟨by omega, h.2⟩
      · intro h
        by_cases e : q.1 = i
        · left
          obtain ⟨q1, q2, q3⟩ := q
          have e : q1 = i := e
          subst e
          have : (pl D q1).kind = .new q3 := h.2.1.2
          rw [hk] at this
          cases this
          have h3 : q2 = (D q1).cnt := h.2.2.1
          rw [h3]
        · exact .inr ⟨by omega, h.2⟩
    | act v hw hx hch hr hle hp hc hpe ha hgs hpl =>
      have hk : (pl D i).kind = .act := by unfold pl; rw [hpl]; rfl
      rw [hpe, List.mem_filter, this]
      constructor
      · rintro ⟨⟨h1, h2, h3, h4⟩, h5⟩
        refine ⟨by omega, h2, h3, fun a hA hlt hlt2 => ?_⟩
        by_cases e : a = i
        · subst e; simpa using h5
        · exact h4 a hA hlt (by omega)
      · rintro ⟨h1, h2, h3, h4⟩
        have hne : q.1 ≠ i := fun e => by have := h2.2; rw [e, hk] at this; cases this
        refine ⟨⟨by omega, h2, h3, fun a hA hlt hlt2 => h4 a hA hlt (by omega)⟩, ?_⟩
        rw [h4 i ⟨by omega, hk⟩ (by omega) (by omega)]; rfl

theorem putA_other {ss ss' : Sl} {d : Option Tmp} {v : Value} {t : Nat} (h : putA n ss d v = some ss') (hd : d ≠ some t) : ss'.get t = ss.get t := by
  unfold putA at h
  split at h
  · rename_i d
    cases hb : Nat.blt d n.n with
    | false => rw [hb] at h; cases h
    | true =>
      rw [hb] at h
      simp only [cond_true, Option.some.injEq] at h
      subst h
      exact Tr.get_set_other _ _ _ _ _ (by omega) (fun e => hd (by rw [e]))
  · cases h; rfl

theorem Plan.put (p : Plan P ne ih m n ops bs D ss0 H0) {i : Nat} {o : Oper} (ho : ops.toList[i]? = some o) : ∃ v, putA n (D i).ss o.dst v = some (D (i + 1)).ss := by
  cases p.seq i o ho with
  | pass hw hp hc hG hpe ha hgs hpl => exact ⟨_, hp⟩
  | quiet v hw hx hq hp hc hG hpe ha hgs hpl => exact ⟨_, hp⟩
  | new v H b hw hx hr hb hn hm hp hc hG hpe ha hgs hpl => exact ⟨_, hp⟩
  | act v hw hx hch hr hle hp hc hpe ha hgs hpl => exact ⟨_, hp⟩

theorem Plan.ss_same (p : Plan P ne ih m n ops bs D ss0 H0) {t i j : Nat} (hij : i ≤ j) (hj : j ≤ ops.size) (hno : ∀ k o, i ≤ k → k < j → ops.toList[k]? = some o → o.dst ≠ some t) : (D j).ss.get t = (D i).ss.get t := by
  induction j with
  | zero => rw [show i = 0 by omega]
  | succ j ih =>
    by_cases h : i = j + 1
    · subst h; rfl
    · rw [← ih (by omega) (by omega) fun k o h1 h2 => hno k o h1 (by omega)]
      obtain ⟨o, ho, _⟩ := op_at (show j < ops.size by omega)
      obtain ⟨v, hv⟩ := p.put ho
      exact putA_other hv (hno j o (by omega) (by omega) ho)

theorem Plan.trace (p : Plan P ne ih m n ops bs D ss0 H0) {i j : Nat} (hij : i ≤ j) (hj : j ≤ ops.size) :
    ∃ Y Z : List _, (D j).gs.reverse = (D i).gs.reverse ++ Y ∧ (D j).acts.reverse = (D i).acts.reverse ++ Z ∧ ∀ a ∈ Z, i ≤ a ∧ IsAct ops D a := by
  induction j with
  | zero => rw [show i = 0 by omega]; exact ⟨[], [], by simp, by simp, by simp⟩
  | succ j ih =>
    by_cases h : i = j + 1
    · subst h; exact ⟨[], [], by simp, by simp, by simp⟩
    · obtain ⟨Y, Z, h1, h2, h3⟩ := ih (by omega) (by omega)
      obtain ⟨o, ho, _⟩ := op_at (show j < ops.size by omega)
      cases p.seq j o ho with
      | pass hw hp hc hG hpe ha hgs hpl => rw [ha, hgs]; exact ⟨Y, Z, h1, h2, h3⟩
      | quiet v hw hx hq hp hc hG hpe ha hgs hpl => rw [ha, hgs]; exact ⟨Y, Z, h1, h2, h3⟩
      | new v H b hw hx hr hb hn hm hp hc hG hpe ha hgs hpl => rw [ha, hgs]; exact ⟨Y, Z, h1, h2, h3⟩
      | act v hw hx hch hr hle hp hc hpe ha hgs hpl =>
        rw [ha, hgs]
        refine ⟨Y ++ [(D (j + 1)).G], Z ++ [j], by rw [List.reverse_cons, h1, List.append_assoc], by rw [List.reverse_cons, h2, List.append_assoc], fun a hm => ?_⟩
        rw [List.mem_append] at hm
        rcases hm with hm | hm
        · exact h3 a hm
        · have : a = j := by simpa using hm
          subst this
          exact ⟨by omega, by omega, by unfold pl; rw [hpl]; rfl⟩

theorem Plan.gs_head (p : Plan P ne ih m n ops bs D ss0 H0) {i : Nat} (hi : i ≤ ops.size) : ∃ r, (D i).gs = (D i).G :: r ∧ r.length = (D i).acts.length := by
  induction i with
  | zero => rw [p.start]; exact ⟨[], rfl, rfl⟩
  | succ i ih =>
    obtain ⟨r, h1, h2⟩ := ih (by omega)
    obtain ⟨o, ho, _⟩ := op_at (show i < ops.size by omega)
    cases p.seq i o ho with
    | pass hw hp hc hG hpe ha hgs hpl => rw [ha, hgs, hG]; exact ⟨r, h1, h2⟩
    | quiet v hw hx hq hp hc hG hpe ha hgs hpl => rw [ha, hgs, hG]; exact ⟨r, h1, h2⟩
    | new v H b hw hx hr hb hn hm hp hc hG hpe ha hgs hpl => rw [ha, hgs, hG]; exact ⟨r, h1, h2⟩
    | act v hw hx hch hr hle hp hc hpe ha hgs hpl => rw [ha, hgs]; exact ⟨(D i).gs, rfl, by rw [h1]; simp [h2]⟩

/-- At a cut the heap so far stands in the list at the number of what has acted. -/
theorem Plan.at_cut (p : Plan P ne ih m n ops bs D ss0 H0) {k : Nat} (hk : k ≤ ops.size) :
    (D ops.size).gs.reverse[(D k).acts.length]? = some (D k).G ∧ (D ops.size).acts.reverse.take (D k).acts.length = (D k).acts.reverse ∧ ∀ a ∈ (D ops.size).acts.reverse.drop (D k).acts.length, k ≤ a ∧ IsAct ops D a := by
  obtain ⟨Y, Z, h1, h2, h3⟩ := p.trace hk (Nat.le_refl _)
  obtain ⟨r, h4, h5⟩ := p.gs_head hk
  refine ⟨?_, ?_, ?_⟩
  · rw [h1, h4, List.reverse_cons, List.append_assoc, List.getElem?_append_right (by simp [h5])]
    simp [h5]
  · rw [h2, List.take_append_of_le_length (by simp)]
    rw [← List.length_reverse, List.take_length]
  · rw [h2]
    intro a ha
    rw [List.drop_append_of_le_length (by simp)] at ha
    rw [← List.length_reverse, List.drop_length, List.nil_append] at ha
    exact h3 a ha

end

theorem planOps_pls {ne : NE} {ih : Ex} {n : Fr} {ops : Array Oper} {bs : List Nat} {D : Nat → DSt} (h0 : (D 0).pls = []) (seq : ∀ i o, ops.toList[i]? = some o → PCase P ne ih m n ops bs i o (D i) (D (i + 1))) : ∀ i, i ≤ ops.size →
    (D i).pls.length = i ∧ ∀ j, j < i → (D i).pls.reverse[j]? = some (pl D j) := by
  intro i
  induction i with
  | zero => intro _; rw [h0]; exact ⟨rfl, fun j hj => by omega⟩
  | succ i ih =>
    intro hi
    obtain ⟨h1, h2⟩ := ih (by omega)
    obtain ⟨o, ho, _⟩ := op_at (show i < ops.size by omega)
    have key : ∃ x, (D (i + 1)).pls = x :: (D i).pls := by
      cases seq i o ho with
      | pass hw hp hc hG hpe ha hgs hpl => exact ⟨_, hpl⟩
      | quiet v hw hx hq hp hc hG hpe ha hgs hpl => exact ⟨_, hpl⟩
      | new v H b hw hx hr hb hn hm hp hc hG hpe ha hgs hpl => exact ⟨_, hpl⟩
      | act v hw hx hch hr hle hp hc hpe ha hgs hpl => exact ⟨_, hpl⟩
    obtain ⟨x, hx⟩ := key
    have hpl : pl D i = x := by unfold pl; rw [hx]; rfl
    refine ⟨by rw [hx]; simp [h1], fun j hj => ?_⟩
    rw [hx, List.reverse_cons]
    by_cases e : j = i
    · subst e
      rw [List.getElem?_append_right (by simp [h1])]
      simp [h1, hpl]
    · rw [List.getElem?_append_left (by simp [h1]; omega)]
      exact h2 j (by omega)

theorem steadyAll_at {ne : NE} {ih : Ex} {bs : List Nat} {gs : List AH} {acts : List Nat} : ∀ (l : List Oper) (k : List Pl) (i : Nat), steadyAll P ne ih m bs gs acts i l k = true → ∀ j o, l[j]? = some o → ∃ q, k[j]? = some q ∧ steady P ne ih m bs gs acts (i + j) o q = true := by
  intro l
  induction l with
  | nil => intro k i h j o hj; simp at hj
  | cons o l ihl =>
    intro k i h j o' hj
    cases k with
    | nil => simp [steadyAll] at h
    | cons q k =>
      simp only [steadyAll, Bool.and_eq_true] at h
      cases j with
      | zero => simp at hj; subst hj; exact ⟨q, rfl, h.1⟩
      | succ j =>
        obtain ⟨q', h1, h2⟩ := ihl k (i + 1) h.2 j o' (by simpa using hj)
        exact ⟨q', by simpa using h1, by rw [show i + (j + 1) = i + 1 + j by omega]; exact h2⟩

theorem drawnA_plan {ne : NE} {ih : Ex} {ops : Array Oper} {st st' : ASt} (h : drawnA P ne ih m ops st = some st') :
    ∃ D, Plan P ne ih m st.n ops (befores ops.toList) D st.ss st.H ∧ st' = ⟨(D ops.size).ss, st.n, putAll (D ops.size).pend { (D ops.size).G with next := (D ops.size).cnt }⟩ := by
  unfold drawnA at h
  cases hc : (slotsOk ops (befores ops.toList) && edgesOk ops.toList && closedOk ops.toList (befores ops.toList)) with
  | false => simp only [hc] at h; cases h
  | true =>
    simp only [hc, cond_true] at h
    simp only [Bool.and_eq_true] at hc
    cases hp : planOps P ne ih m st.n ops (befores ops.toList) 0 ops.toList ⟨st.ss, st.H.next, st.H, [], [st.H], [], []⟩ with
    | none => rw [hp] at h; cases h
    | some d =>
      rw [hp] at h
      simp only at h
      obtain ⟨D, h1, h2, h3⟩ := planOps_seq _ _ _ _ hp
      simp only [Nat.zero_add] at h2 h3
      have h2 : D ops.size = d := h2
      cases hs : steadyAll P ne ih m (befores ops.toList) d.gs.reverse d.acts.reverse 0 ops.toList d.pls.reverse with
      | false => rw [hs] at h; cases h
      | true =>
        rw [hs] at h
        simp only [cond_true, Option.some.injEq] at h
        subst h
        subst h2
        refine ⟨D, ⟨hc.1.1, hc.1.2, hc.2, h1, h3, fun i o ho => ?_⟩, rfl⟩
        obtain ⟨q, h4, h5⟩ := steadyAll_at _ _ _ hs i o ho
        have hlt : i < ops.size := by rw [List.getElem?_eq_some_iff] at ho; simpa using ho.1
        have := (planOps_pls (by rw [h1]) h3 ops.size (Nat.le_refl _)).2 i hlt
        rw [h4] at this
        cases this
        rw [Nat.zero_add] at h5
        exact h5

end Go.Abs


namespace Go.Abs

variable {P : Program} {m : Nat}

def LL (la : Array Bool) (i : Nat) : Prop := la.getD i false = true

theorem LL_set {la : Array Bool} {i : Nat} (hi : i < la.size) (j : Nat) : LL (la.setIfInBounds i true) j ↔ j = i ∨ LL la j := by
  unfold LL
  rw [Array.getD_eq_getD_getElem?, Array.getD_eq_getD_getElem?, Array.getElem?_setIfInBounds]
  by_cases e : i = j
  · subst e; simp [hi]
  · rw [if_neg e]
    constructor
    · exact .inr
    · rintro (h | h)
      · exact absurd h.symm e
      · exact h

structure JC (ops : Array Oper) (bs : List Nat) (la : Array Bool) : Prop where
  size : la.size = ops.size
  closed : ∀ i j, LL la i → j < i → pre bs i j = true → LL la j

structure Rdy (ops : Array Oper) (bs : List Nat) (la : Array Bool) (i : Nat) : Prop where
  lt : i < ops.size
  no : ¬ LL la i
  all : ∀ j, j < i → pre bs i j = true → LL la j

theorem rdy_of {ops : Array Oper} {bs : List Nat} {la : Array Bool} (hc : closedOk ops.toList bs = true) (hj : JC ops bs la) {i : Nat} (h : i ∈ Region.ready .any ops la) : Rdy ops bs la i := by
  unfold Region.ready at h
  rw [List.mem_filter, List.mem_range] at h
  obtain ⟨hlt, h2⟩ := h
  obtain ⟨o, ho, ho'⟩ := op_at hlt
  rw [ho'] at h2
  simp only [Option.map_some, Option.getD_some, Bool.and_eq_true, Bool.not_eq_true', Array.all_eq_true_iff_forall_mem] at h2
  refine ⟨hlt, fun hh => ?_, fun j hji hp => ?_⟩
  · unfold LL at hh
    have h3 := h2.1
    rw [Array.getD_eq_getD_getElem?] at h3 hh
    have : i < la.size := by rw [hj.size]; exact hlt
    rw [Array.getElem?_eq_getElem this] at h3 hh
    simp only [Option.getD_some] at h3 hh
    rw [h3] at hh; cases hh
  · obtain ⟨e, he, hb, hcase⟩ := closedOk_spec hc ho hji hp
    have := h2.2 e he
    rw [hb] at this
    simp only [Bool.not_true, Bool.false_or] at this
    rcases hcase with h | ⟨h, h'⟩
    · subst h; exact this
    · exact hj.closed e.on j this h h'

theorem JC.next {ops : Array Oper} {bs : List Nat} {la : Array Bool} (hj : JC ops bs la) {i : Nat} (r : Rdy ops bs la i) : JC ops bs (la.setIfInBounds i true) := by
  have hlt : i < la.size := by rw [hj.size]; exact r.lt
  refine ⟨by simpa using hj.size, fun k j hk hjk hp => ?_⟩
  rw [LL_set hlt] at hk ⊢
  rcases hk with rfl | hk
  · exact .inr (r.all j hjk hp)
  · exact .inr (hj.closed k j hk hjk hp)

/-- With nothing ready all stand listed. -/
theorem all_listed {ops : Array Oper} {bs : List Nat} {la : Array Bool} (he : edgesOk ops.toList = true) (hj : JC ops bs la) (hr : Region.ready .any ops la = []) : ∀ i, i < ops.size → LL la i := by
  intro i
  induction i using Nat.strongRecOn with
  | ind i ih =>
    intro hlt
    apply Classical.byContradiction
    intro hn
    obtain ⟨o, ho, ho'⟩ := op_at hlt
    have hm : i ∈ Region.ready .any ops la := by
      unfold Region.ready
      rw [List.mem_filter, List.mem_range]
      refine ⟨hlt, ?_⟩
      rw [ho']
      simp only [Option.map_some, Option.getD_some, Bool.and_eq_true, Bool.not_eq_true', Array.all_eq_true_iff_forall_mem]
      refine ⟨?_, fun e hem => ?_⟩
      · unfold LL at hn
        rw [Array.getD_eq_getD_getElem?] at hn ⊢
        have : i < la.size := by rw [hj.size]; exact hlt
        rw [Array.getElem?_eq_getElem this] at hn ⊢
        simpa using hn
      · cases hb : Region.binds .any e with
        | false => rfl
        | true =>
          have h1 := edgesOk_spec he ho hem hb
          have := ih e.on h1 (by omega)
          unfold LL at this
          rw [this]; rfl
    rw [hr] at hm; cases hm

section
variable {ne : NE} {ih : Ex} {n : Fr} {ops : Array Oper} {bs : List Nat} {D : Nat → DSt} {ss0 : Sl} {H0 : AH}

structure JS (ops : Array Oper) (D : Nat → DSt) (n : Fr) (la : Array Bool) (φ : Inj) (a : Act) : Prop where
  slot : ∀ t, ∃ e, e ≤ ops.size ∧ (∀ j o, ops.toList[j]? = some o → LL la j → o.dst = some t → j < e) ∧ (e = 0 ∨ ∃ j o, e = j + 1 ∧ ops.toList[j]? = some o ∧ LL la j ∧ o.dst = some t) ∧
    VR (restr φ (D e).cnt) (((D e).ss.get t).getD undef) (a.tmps.getD t undef)
  size : n.n ≤ a.tmps.size
  defers : DR φ n.ds a.defers

theorem dst_names {ops : Array Oper} {o : Oper} {t : Nat} (h : o.dst = some t) : t ∈ namesOf ops o := by
  unfold namesOf; rw [h]; simp

theorem lt_of_at {i : Nat} {o : Oper} (h : ops.toList[i]? = some o) : i < ops.size := by
  rw [List.getElem?_eq_some_iff] at h; simpa using h.1

theorem JS.read (p : Plan P ne ih m n ops bs D ss0 H0) {la : Array Bool} (hc : JC ops bs la) {φ : Inj} {a : Act} (h : JS ops D n la φ a) {i : Nat} (r : Rdy ops bs la i) {o : Oper} (ho : ops.toList[i]? = some o) {t : Nat} (ht : t ∈ namesOf ops o) :
    VR (restr φ (D i).cnt) (((D i).ss.get t).getD undef) (a.tmps.getD t undef) := by
  obtain ⟨e, he, hw, hs, hv⟩ := h.slot t
  have h1 : e ≤ i := by
    rcases hs with rfl | ⟨j, q, rfl, hj, hl, hd⟩
    · omega
    · by_cases hji : j < i
      · omega
      · exfalso
        by_cases e : j = i
        · subst e; exact r.no hl
        · have := slotsOk_spec p.slots (i := i) (j := j) hj ho (by omega) (t := t) (.inr ⟨hd, ht⟩)
          exact r.no (hc.closed j i hl (by omega) this)
  have h2 : (D i).ss.get t = (D e).ss.get t := by
    refine p.ss_same h1 (Nat.le_of_lt r.lt) fun k q hk1 hk2 hq hd => ?_
    have := slotsOk_spec p.slots (i := k) (j := i) ho hq hk2 (t := t) (.inl ⟨hd, ht⟩)
    have := hw k q hq (r.all k hk2 this) hd
    omega
  rw [h2]
  exact hv.mono (restr_le _ _ (p.cnt_mono h1 (Nat.le_of_lt r.lt)) (Inj.le_refl φ))

theorem putA_same {ss ss' : Sl} {t : Nat} {v : Value} (h : putA n ss (some t) v = some ss') : t < n.n ∧ ss'.get t = some v := by
  unfold putA at h
  simp only at h
  cases hb : Nat.blt t n.n with
  | false => rw [hb] at h; cases h
  | true =>
    rw [hb] at h
    simp only [cond_true, Option.some.injEq] at h
    subst h
    exact ⟨blt_lt hb, Tr.get_set_same _ _ _ _ (by omega)⟩

theorem JS.next (p : Plan P ne ih m n ops bs D ss0 H0) {la : Array Bool} (hc : JC ops bs la) {φ φ' : Inj} (hle : φ.le φ') {a : Act} (h : JS ops D n la φ a) {i : Nat} (r : Rdy ops bs la i) {o : Oper} (ho : ops.toList[i]? = some o) {v v' : Value}
    (hp : putA n (D i).ss o.dst v = some (D (i + 1)).ss) (hv : VR (restr φ' (D (i + 1)).cnt) v v') : JS ops D n (la.setIfInBounds i true) φ' (a.put o.dst v') := by
  have hlt : i < la.size := by rw [hc.size]; exact r.lt
  have old : ∀ t, o.dst ≠ some t → (a.put o.dst v').tmps.getD t undef = a.tmps.getD t undef := by
    intro t ht
    cases hd : o.dst with
    | none => rfl
    | some d =>
      simp only [Act.put]
      rw [Array.getD_eq_getD_getElem?, Array.getElem?_setIfInBounds, if_neg (fun hh => ht (by rw [hd, hh])), ← Array.getD_eq_getD_getElem?]
  refine ⟨fun t => ?_, ?_, ?_⟩
  · by_cases ht : o.dst = some t
    · refine ⟨i + 1, r.lt, fun j q hq hl hd => ?_, .inr ⟨i, o, rfl, ho, (LL_set hlt i).2 (.inl rfl), ht⟩, ?_⟩
      · rw [LL_set hlt] at hl
        rcases hl with rfl | hl
        · omega
        · apply Classical.byContradiction
          intro hge
          have := slotsOk_spec p.slots (i := i) (j := j) hq ho (by omega) (t := t) (.inl ⟨ht, dst_names hd⟩)
          exact r.no (hc.closed j i hl (by omega) this)
      · rw [ht] at hp
        obtain ⟨h1, h2⟩ := putA_same hp
        rw [h2, ht]
        simp only [Act.put, Option.getD_some]
        rw [Array.getD_eq_getD_getElem?, Array.getElem?_setIfInBounds, if_pos rfl, if_pos (Nat.lt_of_lt_of_le h1 h.size)]
        exact hv
    · obtain ⟨e, he, hw, hs, hv2⟩ := h.slot t
      refine ⟨e, he, fun j q hq hl hd => ?_, hs.imp (fun h => h) (fun ⟨j, q, h1, h2, h3, h4⟩ => ⟨j, q, h1, h2, (LL_set hlt j).2 (.inr h3), h4⟩), ?_⟩
      · rw [LL_set hlt] at hl
        rcases hl with rfl | hl
        · rw [ho] at hq; cases hq; exact absurd hd ht
        · exact hw j q hq hl hd
      · rw [old t ht]
        exact hv2.mono (restr_le _ _ (Nat.le_refl _) hle)
  · have := h.size
    cases hd : o.dst <;> simpa [Act.put] using this
  · have := h.defers.mono hle
    cases hd : o.dst <;> simpa [Act.put] using this

theorem wanted_names {φ : Inj} {o : Oper} {ss : Sl} {a : Act} {b : Bool} (hs : ∀ t ∈ namesOf ops o, VR φ ((ss.get t).getD undef) (a.tmps.getD t undef)) (h : wantedA ops o ss = some b) : Region.wanted o (yielded ops a.tmps) = b := by
  unfold wantedA at h
  unfold Region.wanted
  cases hg : o.guard with
  | none => rw [hg] at h; simp only [Option.some.injEq] at h ⊢; exact h
  | some jw =>
    obtain ⟨j, want⟩ := jw
    rw [hg] at h
    simp only at h ⊢
    unfold yielded
    cases hd : (ops[j]?).bind (·.dst) with
    | none => rw [hd] at h; cases h
    | some d =>
      rw [hd] at h
      simp only [Option.bind_some] at h ⊢
      have hv := hs d (by unfold namesOf; rw [hg]; simp [hd])
      split at h
      · rename_i c hc
        simp only [Option.some.injEq] at h
        rw [hc] at hv
        rw [getD_bool hv, ← h]
        cases c <;> cases want <;> rfl
      · rename_i vs hc
        simp only [Option.some.injEq] at h
        rw [hc] at hv
        rw [← h]
        have : ∀ c, a.tmps[d]? ≠ some (.bool c) := by
          intro c hcc
          rw [Array.getD_eq_getD_getElem?, hcc] at hv
          cases hv
        split
        · rename_i c hcc; exact absurd hcc (this c)
        · cases want <;> rfl
      · cases h

theorem eval_names {φ : Inj} {o : Oper} {ss : Sl} {a : Act} (hs : ∀ t ∈ namesOf ops o, VR φ ((ss.get t).getD undef) (a.tmps.getD t undef)) (hg : Glob P φ) (hx : o.op.operands.all (okx P) = true) :
    ∀ x ∈ o.op.operands, VR φ (evalA ss x) (a.eval x) := by
  intro x hm
  rw [Array.all_eq_true_iff_forall_mem] at hx
  have hx := hx x hm
  cases x with
  | tmp t =>
    refine hs t ?_
    unfold namesOf tmpsOf
    simp only [List.mem_append, List.mem_filterMap]
    exact .inl (.inr ⟨.tmp t, by simpa using hm, rfl⟩)
  | const v => exact flat_refl depth hx
  | global g =>
    have hlt : g < P.globals.size := blt_lt hx
    obtain ⟨l, h1, h2, h3⟩ := hg g hlt
    have := VR.ptr (φ := φ) g 0 l h1
    rw [h2, h3] at this
    exact this
  | func f => exact .func (.func f) #[] #[] #[] #[] rfl rfl (fun i x y hx => by simp at hx) (fun i x y hx => by simp at hx)

end
end Go.Abs


namespace Go.Abs

variable {P : Program} {m : Nat}

def NP (ops : Array Oper) (D : Nat → DSt) (bs : List Nat) (i p : Nat) : Prop := ∀ a, IsAct ops D a → i < a → a < p → pre bs a i = false

structure JH (m : Nat) (ops : Array Oper) (bs : List Nat) (D : Nat → DSt) (φ0 : Inj) (H0 : AH) (w0 : World) (la : Array Bool) (φ : Inj) (g : Nat → Option Blk) (p : Nat) (w : World) : Prop where
  ini : InvG φ0 H0.get H0.next w0
  ple : p ≤ ops.size
  cut : ∀ i, IsAct ops D i → (LL la i ↔ i < p)
  dom : ∀ id l, φ id = some l → id < H0.next ∨ ∃ i, i < ops.size ∧ LL la i ∧ (D i).cnt ≤ id ∧ id < (D (i + 1)).cnt
  inv : InvG φ g (D ops.size).cnt w
  step : StepG m H0.next φ0 H0.get w0 φ g w
  pnd : ∀ i b, IsNew ops D i b → LL la i → NP ops D bs i p → g (D i).cnt = some b
  rest : ∀ id, (∀ i b, IsNew ops D i b → LL la i → NP ops D bs i p → id ≠ (D i).cnt) → g id = (D p).G.get id
  fresh : ∀ i b, IsNew ops D i b → NP ops D bs i p → (D p).G.get (D i).cnt = none
  gids : ∀ id b, (D p).G.get id = some b → id < (D p).G.next
  undG : ∀ id b, (D p).G.get id = some b → UnderB (D p).G.next b
  undP : ∀ i b, IsNew ops D i b → LL la i → UnderB ((D i).cnt + 1) b
  excl : ∀ i b, IsNew ops D i b → LL la i → NP ops D bs i p → ∀ id2 l l2, id2 ≠ (D i).cnt → (g id2).isSome = true → φ (D i).cnt = some l → φ id2 = some l2 → l2.blk ≠ l.blk

section
variable {ne : NE} {ih : Ex} {n : Fr} {ops : Array Oper} {bs : List Nat} {D : Nat → DSt} {ss0 : Sl} {H0 : AH} {φ0 : Inj} {w0 : World}

theorem JH.init (p : Plan P ne ih m n ops bs D ss0 H0) {la : Array Bool} (hla : ∀ i, i < ops.size → ¬ LL la i) {φ : Inj} {w : World} (hini : InvG φ0 H0.get H0.next w0) (hi : Inv φ H0 w) (hw0 : StepG m H0.next φ0 H0.get w0 φ H0.get w) : JH m ops bs D φ0 H0 w0 la φ H0.get 0 w := by
  have hG : (D 0).G = H0 := by rw [p.start]
  have hc0 : (D 0).cnt = H0.next := by rw [p.start]
  refine ⟨hini, Nat.zero_le _, fun i hA => ⟨fun h => absurd h (hla i hA.1), fun h => by omega⟩, fun id l hl => .inl (hi.dom id l hl).1, ⟨fun id l hl => ?_, hi.obj, hi.sep⟩, hw0, fun i b hN hL _ => absurd hL (hla i hN.1), fun id _ => by rw [hG], ?_, ?_, ?_,
    fun i b hN hL => absurd hL (hla i hN.1), fun i b hN hL => absurd hL (hla i hN.1)⟩
  · have h1 := hi.dom id l hl
    have h2 := p.cnt_mono (Nat.zero_le _) (Nat.le_refl ops.size)
    rw [hc0] at h2
    exact ⟨by omega, h1.2⟩
  · intro i b hN _
    rw [hG]
    cases hq : H0.get (D i).cnt with
    | none => rfl
    | some b' =>
      obtain ⟨l, h1, _⟩ := hi.obj _ _ hq
      have h2 := (hi.dom _ _ h1).1
      have h3 := p.cnt_mono (Nat.zero_le i) (Nat.le_of_lt hN.1)
      omega
  · intro id b hb
    rw [hG] at hb ⊢
    obtain ⟨l, h1, _⟩ := hi.obj _ _ hb
    exact (hi.dom _ _ h1).1
  · intro id b hb
    rw [hG] at hb ⊢
    obtain ⟨l, h1, h2⟩ := hi.obj _ _ hb
    exact underB_of (fun id l h => (hi.dom id l h).1) h2

theorem JH.g_of_G {la : Array Bool} {φ : Inj} {g : Nat → Option Blk} {p : Nat} {w : World} (h : JH m ops bs D φ0 H0 w0 la φ g p w) {id : Nat} {b : Blk} (hb : (D p).G.get id = some b) : g id = some b := by
  rw [h.rest id fun i c hN hL hP e => ?_]
  · exact hb
  · subst e
    rw [h.fresh i c hN hP] at hb; cases hb

theorem JH.free (pl : Plan P ne ih m n ops bs D ss0 H0) {la : Array Bool} {φ : Inj} {g : Nat → Option Blk} {p : Nat} {w : World} (h : JH m ops bs D φ0 H0 w0 la φ g p w) {i : Nat} (r : Rdy ops bs la i) {id : Nat} (h1 : (D i).cnt ≤ id) (h2 : id < (D (i + 1)).cnt) : φ id = none := by
  cases hq : φ id with
  | none => rfl
  | some l =>
    exfalso
    rcases h.dom id l hq with h3 | ⟨j, hj, hL, h3, h4⟩
    · have := pl.cnt_mono (Nat.zero_le i) (Nat.le_of_lt r.lt)
      rw [pl.start] at this
      simp only at this
      omega
    · have hne : j ≠ i := fun e => r.no (e ▸ hL)
      by_cases hlt : j < i
      · have := pl.cnt_mono (show j + 1 ≤ i by omega) (Nat.le_of_lt r.lt)
        omega
      · have := pl.cnt_mono (show i + 1 ≤ j by omega) (Nat.le_of_lt hj)
        omega

theorem JH.still {la : Array Bool} (hc : JC ops bs la) {φ : Inj} {g : Nat → Option Blk} {p : Nat} {w w' : World} (h : JH m ops bs D φ0 H0 w0 la φ g p w) {i : Nat} (r : Rdy ops bs la i)
    (ha : (pl D i).kind ≠ .act) (hn : ∀ b, (pl D i).kind ≠ .new b) (hi : InvG φ g (D ops.size).cnt w') (hs : StepG m H0.next φ g w φ g w') : JH m ops bs D φ0 H0 w0 (la.setIfInBounds i true) φ g p w' := by
  have hlt : i < la.size := by rw [hc.size]; exact r.lt
  have old : ∀ j b, IsNew ops D j b → LL (la.setIfInBounds i true) j → LL la j := by
    intro j b hN hL
    rw [LL_set hlt] at hL
    rcases hL with rfl | hL
    · exact absurd hN.2 (hn b)
    · exact hL
  refine ⟨h.ini, h.ple, fun j hA => ?_, fun id l hl => ?_, hi, h.step.trans h.ini hs, fun j b hN hL hP => h.pnd j b hN (old j b hN hL) hP, fun id hh => h.rest id fun j b hN hL hP => hh j b hN ((LL_set hlt j).2 (.inr hL)) hP, h.fresh, h.gids, h.undG,
    fun j b hN hL => h.undP j b hN (old j b hN hL), fun j b hN hL hP => h.excl j b hN (old j b hN hL) hP⟩
  · rw [LL_set hlt, ← h.cut j hA]
    constructor
    · rintro (rfl | h)
      · exact absurd hA.2 ha
      · exact h
    · exact .inr
  · rcases h.dom id l hl with h1 | ⟨j, h1, h2, h3⟩
    · exact .inl h1
    · exact .inr ⟨j, h1, (LL_set hlt j).2 (.inr h2), h3⟩

theorem joinedG_self {g : Nat → Option Blk} {Hin : AH} (hsub : ∀ id b, Hin.get id = some b → g id = some b) : joinedG g Hin Hin = g := by
  funext id
  unfold joinedG
  split
  · rename_i h
    rcases h with h | h
    · obtain ⟨b, hb⟩ := Option.isSome_iff_exists.1 h
      rw [hb, hsub id b hb]
    · omega
  · rfl

theorem quiet_frame {lo N : Nat} {φ φ' : Inj} {g : Nat → Option Blk} {w w' : World} {Hin : AH} (hi : InvG φ g N w) (hsub : ∀ id b, Hin.get id = some b → g id = some b ∧ id < Hin.next) (hn : Hin.next ≤ N) (hlo : lo ≤ Hin.next)
    (hex : ∀ id b, g id = some b → Hin.get id = none → ∀ id' l l', (Hin.get id').isSome = true → φ id = some l → φ id' = some l' → l'.blk ≠ l.blk)
    (h1 : Inv φ' Hin w') (h2 : Step m (restr φ Hin.next) Hin w φ' Hin w') : φ' = restr φ Hin.next ∧ InvG φ g N w' ∧ StepG m lo φ g w φ g w' := by
  have e1 : φ' = restr φ Hin.next := by
    funext id
    cases hq : restr φ Hin.next id with
    | some l => exact h2.ext _ _ hq
    | none =>
      cases hp : φ' id with
      | none => rfl
      | some l =>
        have := (h2.new id l hp hq).1
        have := (h1.dom id l hp).1
        omega
  have e2 : joined φ φ' Hin.next = φ := by
    funext id
    unfold joined
    split
    · rename_i hlt; rw [e1, restr_lt hlt]
    · rfl
  have e3 := joinedG_self fun id b hb => (hsub id b hb).1
  have fr := frame hi hsub (fun id a b => by omega) (Nat.le_refl N) hn hlo hex h1 h2
  refine ⟨e1, ?_, ?_⟩
  · have := fr.inv; rw [e2, e3] at this; exact this
  · have := fr.step; rw [e2, e3] at this; exact this

theorem JH.new (pl' : Plan P ne ih m n ops bs D ss0 H0) {la : Array Bool} (hc : JC ops bs la) {φ : Inj} {g : Nat → Option Blk} {p : Nat} {w : World} (h : JH m ops bs D φ0 H0 w0 la φ g p w) {i : Nat} (r : Rdy ops bs la i) {b : Blk} (hN : IsNew ops D i b)
    {H : AH} (hb : H.get (D i).cnt = some b) (hnx : H.next = (D i).cnt + 1) {φ' : Inj} {w' : World} (h1 : Inv φ' H w') (h2 : Step m (restr φ (D i).cnt) ⟨(D i).cnt, .nil⟩ w φ' H w') :
    ∃ ψ g', φ.le ψ ∧ φ'.le ψ ∧ JH m ops bs D φ0 H0 w0 (la.setIfInBounds i true) ψ g' p w' := by
  have hlt : i < la.size := by rw [hc.size]; exact r.lt
  have hstep := pl'.kind_new hN
  have hnil : ∀ id, (AH.get ⟨(D i).cnt, .nil⟩ id) = none := fun id => rfl
  have hcN := pl'.cnt_mono (show i + 1 ≤ ops.size from r.lt) (Nat.le_refl _)
  have h0i := pl'.cnt_mono (Nat.zero_le i) (Nat.le_of_lt r.lt)
  rw [pl'.start] at h0i
  simp only at h0i
  have fr := frame (n' := (D ops.size).cnt) (lo := H0.next) (Hin := ⟨(D i).cnt, .nil⟩) h.inv (fun id b hb => by rw [hnil] at hb; cases hb) (fun id a b => h.free pl' r a (by rw [hstep]; omega)) (Nat.le_refl _) (by omega) h0i (fun id b _ _ id' l l' hs => by rw [hnil] at hs; cases hs) h1 h2
  have hjg : ∀ id, joinedG g ⟨(D i).cnt, .nil⟩ H id = if id = (D i).cnt then some b else g id := by
    intro id
    unfold joinedG
    rw [hnil]
    by_cases e : id = (D i).cnt
    · subst e; rw [if_pos (.inr ⟨Nat.le_refl _, by omega⟩), if_pos rfl, hb]
    · rw [if_neg (by simp; omega), if_neg e]
  have hNPi : NP ops D bs i p := by
    intro a hA hia hap
    cases hq : pre bs a i with
    | false => rfl
    | true => exact absurd (hc.closed a i ((h.cut a hA).2 hap) hia hq) r.no
  have hjd : ∀ id l, joined φ φ' H.next id = some l → φ id = some l ∨ (id = (D i).cnt ∧ φ' id = some l) := by
    intro id l hl
    unfold joined at hl
    split at hl
    · cases hr : restr φ (D i).cnt id with
      | some l2 =>
        have e := h2.ext _ _ hr
        rw [hl] at e; cases e
        exact .inl (restr_some hr).2
      | none =>
        have := (h2.new id l hl hr).1
        have := (h1.dom id l hl).1
        exact .inr ⟨by simp only at *; omega, hl⟩
    · exact .inl hl
  have old : ∀ j b, IsNew ops D j b → j ≠ i → (D j).cnt ≠ (D i).cnt := fun j b hj hne e => hne (pl'.new_eq hj hN e)
  refine ⟨joined φ φ' H.next, joinedG g ⟨(D i).cnt, .nil⟩ H, fr.le, fr.le', h.ini, h.ple, fun j hA => ?_, fun id l hl => ?_, fr.inv, h.step.trans h.ini fr.step, fun j c hj hL hP => ?_, fun id hh => ?_, h.fresh, h.gids, h.undG, fun j c hj hL => ?_, fun j c hj hL hP id2 l l2 hne hs hl hl2 => ?_⟩
  · rw [LL_set hlt, ← h.cut j hA]
    constructor
    · rintro (rfl | h)
      · exact (not_new_act hN hA).elim
      · exact h
    · exact .inr
  · rcases hjd id l hl with hl | ⟨rfl, _⟩
    · rcases h.dom id l hl with q1 | ⟨j, q1, q2, q3⟩
      · exact .inl q1
      · exact .inr ⟨j, q1, (LL_set hlt j).2 (.inr q2), q3⟩
    · exact .inr ⟨i, r.lt, (LL_set hlt i).2 (.inl rfl), Nat.le_refl _, by omega⟩
  · rw [LL_set hlt] at hL
    rw [hjg]
    by_cases e : j = i
    · subst e
      rw [if_pos rfl]
      have := hN.2.symm.trans hj.2
      cases this; rfl
    · rw [if_neg (old j c hj e)]
      exact h.pnd j c hj (hL.resolve_left e) hP
  · have hne : id ≠ (D i).cnt := hh i b hN ((LL_set hlt i).2 (.inl rfl)) hNPi
    rw [hjg, if_neg hne]
    exact h.rest id fun j c hj hL hP => hh j c hj ((LL_set hlt j).2 (.inr hL)) hP
  · rw [LL_set hlt] at hL
    by_cases e : j = i
    · subst e
      have := hN.2.symm.trans hj.2
      cases this
      obtain ⟨l, q1, q2⟩ := h1.obj _ _ hb
      rw [← hnx]
      exact underB_of (fun id l h => (h1.dom id l h).1) q2
    · exact h.undP j c hj (hL.resolve_left e)
  · rw [LL_set hlt] at hL
    by_cases e : j = i
    · subst e
      have hs' : (g id2).isSome = true := by rw [hjg, if_neg hne] at hs; exact hs
      obtain ⟨b2, hb2⟩ := Option.isSome_iff_exists.1 hs'
      obtain ⟨k2, q1, _⟩ := h.inv.obj _ _ hb2
      have := fr.le _ _ q1
      rw [hl2] at this; cases this
      have hk2 := (h.inv.dom _ _ q1).2
      rcases hjd _ _ hl with q3 | ⟨_, q3⟩
      · rw [h.free pl' r (Nat.le_refl _) (by omega)] at q3; cases q3
      · have hr : restr φ (D j).cnt (D j).cnt = none := by unfold restr; rw [if_neg (by omega)]
        obtain ⟨_, q4⟩ := h2.new _ _ q3 hr
        rcases q4 with q4 | ⟨id0, l0, _, q5, _⟩
        · omega
        · rw [hnil] at q5; cases q5
    · have hjc := old j c hj e
      have hg := h.pnd j c hj (hL.resolve_left e) hP
      exact fr.excl (D j).cnt id2 l l2 (by rw [hg]; rfl) (hnil _) (by simp only; omega) (fun e => hne e.symm) hs hl hl2 fun id3 l3 hne3 hs3 hl3 l1 hl1 => h.excl j c hj (hL.resolve_left e) hP id3 l1 l3 hne3 hs3 hl1 hl3

end
end Go.Abs


namespace Go.Abs

variable {P : Program} {m : Nat}

section
variable {ne : NE} {ih : Ex} {n : Fr} {ops : Array Oper} {bs : List Nat} {D : Nat → DSt} {ss0 : Sl} {H0 : AH} {φ0 : Inj} {w0 : World}

/-- The heap that an acting operation sees. -/
def Hact (bs : List Nat) (D : Nat → DSt) (i : Nat) : AH := putAll ((D i).pend.filter fun p => pre bs i p.1) { (D i).G with next := (D i).cnt }

structure ActIn (ops : Array Oper) (bs : List Nat) (D : Nat → DSt) (la : Array Bool) (p i : Nat) : Prop where
  pi : p ≤ i
  no : ∀ a, p ≤ a → a < i → ¬ IsAct ops D a
  G : (D i).G = (D p).G
  next : (Hact bs D i).next = (D i).cnt
  put : ∀ j b, IsNew ops D j b → j < i → NP ops D bs j i → pre bs i j = true → (Hact bs D i).get (D j).cnt = some b
  get : ∀ id, (Hact bs D i).get id = (D p).G.get id ∨ ∃ j b, IsNew ops D j b ∧ j < i ∧ LL la j ∧ NP ops D bs j p ∧ NP ops D bs j i ∧ pre bs i j = true ∧ id = (D j).cnt ∧ (Hact bs D i).get id = some b

theorem JH.actIn (pl' : Plan P ne ih m n ops bs D ss0 H0) {la : Array Bool} (hc : JC ops bs la) {φ : Inj} {g : Nat → Option Blk} {p : Nat} {w : World} (h : JH m ops bs D φ0 H0 w0 la φ g p w) {i : Nat} (r : Rdy ops bs la i) (hA : IsAct ops D i)
    (hch : (D i).acts.all (pre bs i) = true) : ActIn ops bs D la p i := by
  have hpi : p ≤ i := by
    apply Classical.byContradiction
    intro hlt
    exact r.no ((h.cut i hA).2 (by omega))
  have hno : ∀ a, p ≤ a → a < i → ¬ IsAct ops D a := by
    intro a h1 h2 hAa
    have hm := (pl'.acts (Nat.le_of_lt r.lt) a).2 ⟨h2, hAa⟩
    rw [List.all_eq_true] at hch
    have := (h.cut a hAa).1 (r.all a h2 (hch a hm))
    omega
  have hG := pl'.g_same hpi (Nat.le_of_lt r.lt) hno
  have hpend := pl'.pend (Nat.le_of_lt r.lt)
  have hmem : ∀ q, q ∈ ((D i).pend.filter fun p => pre bs i p.1) ↔ (q.1 < i ∧ IsNew ops D q.1 q.2.2 ∧ q.2.1 = (D q.1).cnt ∧ NP ops D bs q.1 i) ∧ pre bs i q.1 = true := by
    intro q
    rw [List.mem_filter, hpend]
    exact Iff.rfl
  have huniq : ∀ q q2, q ∈ ((D i).pend.filter fun p => pre bs i p.1) → q2 ∈ ((D i).pend.filter fun p => pre bs i p.1) → q2.2.1 = q.2.1 → q2 = q := by
    intro q q2 hq hq2 he
    obtain ⟨⟨h1, h2, h3, h4⟩, _⟩ := (hmem q).1 hq
    obtain ⟨⟨k1, k2, k3, k4⟩, _⟩ := (hmem q2).1 hq2
    have e := pl'.new_eq k2 h2 (by rw [← k3, he, h3])
    obtain ⟨a1, a2, a3⟩ := q
    obtain ⟨b1, b2, b3⟩ := q2
    simp only at *
    subst e
    have := k2.2.symm.trans h2.2
    cases this
    rw [he]
  refine ⟨hpi, hno, hG, putAll_next _ _, fun j b hj hji hnp hpre => ?_, fun id => ?_⟩
  · have := putAll_in ((D i).pend.filter fun p => pre bs i p.1) { (D i).G with next := (D i).cnt } (j, (D j).cnt, b) ((hmem _).2 ⟨⟨hji, hj, rfl, hnp⟩, hpre⟩) (fun q hq he => huniq _ q ((hmem _).2 ⟨⟨hji, hj, rfl, hnp⟩, hpre⟩) hq he)
    exact this
  · by_cases hex : ∃ q ∈ ((D i).pend.filter fun p => pre bs i p.1), q.2.1 = id
    · obtain ⟨q, hq, he⟩ := hex
      right
      obtain ⟨⟨h1, h2, h3, h4⟩, h5⟩ := (hmem q).1 hq
      refine ⟨q.1, q.2.2, h2, h1, r.all _ h1 h5, fun a ha h6 h7 => h4 a ha h6 (by omega), h4, h5, by rw [← he, h3], ?_⟩
      have := putAll_in ((D i).pend.filter fun p => pre bs i p.1) { (D i).G with next := (D i).cnt } q hq (fun q2 hq2 he => huniq _ q2 hq hq2 he)
      rw [he] at this
      exact this
    · left
      have := putAll_out ((D i).pend.filter fun p => pre bs i p.1) { (D i).G with next := (D i).cnt } id (fun q hq he => hex ⟨q, hq, he⟩)
      rw [← hG]
      exact this

theorem ActIn.sub (pl' : Plan P ne ih m n ops bs D ss0 H0) {la : Array Bool} {φ : Inj} {g : Nat → Option Blk} {p : Nat} {w : World} (h : JH m ops bs D φ0 H0 w0 la φ g p w) {i : Nat} (r : Rdy ops bs la i) (x : ActIn ops bs D la p i) :
    ∀ id b, (Hact bs D i).get id = some b → g id = some b ∧ id < (Hact bs D i).next := by
  intro id b hb
  rw [x.next]
  rcases x.get id with h1 | ⟨j, c, h1, h2, h3, h4, h5, h6, h7, h8⟩
  · rw [h1] at hb
    refine ⟨h.g_of_G hb, ?_⟩
    have q1 := h.gids id b hb
    have q2 := pl'.gnext h.ple
    have q3 := pl'.cnt_mono x.pi (Nat.le_of_lt r.lt)
    omega
  · rw [hb] at h8; cases h8
    subst h7
    refine ⟨h.pnd j _ h1 h3 h4, ?_⟩
    have q1 := pl'.kind_new h1
    have q2 := pl'.cnt_mono (show j + 1 ≤ i by omega) (Nat.le_of_lt r.lt)
    omega

theorem ActIn.und (pl' : Plan P ne ih m n ops bs D ss0 H0) {la : Array Bool} {φ : Inj} {g : Nat → Option Blk} {p : Nat} {w : World} (h : JH m ops bs D φ0 H0 w0 la φ g p w) {i : Nat} (r : Rdy ops bs la i) (x : ActIn ops bs D la p i) :
    ∀ id b, (Hact bs D i).get id = some b → UnderB (Hact bs D i).next b := by
  intro id b hb
  rw [x.next]
  rcases x.get id with h1 | ⟨j, c, h1, h2, h3, h4, h5, h6, h7, h8⟩
  · rw [h1] at hb
    have q2 := pl'.gnext h.ple
    have q3 := pl'.cnt_mono x.pi (Nat.le_of_lt r.lt)
    exact (h.undG id b hb).mono (by omega)
  · rw [hb] at h8; cases h8
    have q1 := pl'.kind_new h1
    have q2 := pl'.cnt_mono (show j + 1 ≤ i by omega) (Nat.le_of_lt r.lt)
    exact (h.undP j _ h1 h3).mono (by omega)

theorem ActIn.pending {la : Array Bool} {φ : Inj} {g : Nat → Option Blk} {p : Nat} {w : World} (h : JH m ops bs D φ0 H0 w0 la φ g p w) {Hin : AH} (hsup : ∀ id b, (D p).G.get id = some b → ∃ c, Hin.get id = some c) {id : Nat} {b : Blk} (hb : g id = some b) (hn : Hin.get id = none) :
    ∃ j c, IsNew ops D j c ∧ LL la j ∧ NP ops D bs j p ∧ id = (D j).cnt := by
  apply Classical.byContradiction
  intro hno
  have := h.rest id fun j c h1 h2 h3 e => hno ⟨j, c, h1, h2, h3, e⟩
  rw [hb] at this
  obtain ⟨c, hc⟩ := hsup id b this.symm
  rw [hn] at hc; cases hc

theorem ActIn.sup {la : Array Bool} {p i : Nat} (x : ActIn ops bs D la p i) : ∀ id b, (D p).G.get id = some b → ∃ c, (Hact bs D i).get id = some c := by
  intro id b hb
  rcases x.get id with h1 | ⟨j, c, h1, h2, h3, h4, h5, h6, h7, h8⟩
  · exact ⟨b, by rw [h1, hb]⟩
  · exact ⟨c, h8⟩

theorem ActIn.excl {la : Array Bool} {φ : Inj} {g : Nat → Option Blk} {p : Nat} {w : World} (h : JH m ops bs D φ0 H0 w0 la φ g p w) {Hin : AH} (hsup : ∀ id b, (D p).G.get id = some b → ∃ c, Hin.get id = some c) (hsub : ∀ id b, Hin.get id = some b → g id = some b ∧ id < Hin.next) :
    ∀ id b, g id = some b → Hin.get id = none → ∀ id' l l', (Hin.get id').isSome = true → φ id = some l → φ id' = some l' → l'.blk ≠ l.blk := by
  intro id b hb hn id' l l' hs hl hl'
  obtain ⟨j, c, h1, h2, h3, rfl⟩ := ActIn.pending h hsup hb hn
  obtain ⟨b', hb'⟩ := Option.isSome_iff_exists.1 hs
  exact h.excl j c h1 h2 h3 id' l l' (fun e => by rw [e, hn] at hs; cases hs) (by rw [(hsub _ _ hb').1]; rfl) hl hl'

theorem JH.act (pl' : Plan P ne ih m n ops bs D ss0 H0) {la : Array Bool} (hc : JC ops bs la) {φ : Inj} {g : Nat → Option Blk} {p : Nat} {w : World} (h : JH m ops bs D φ0 H0 w0 la φ g p w) {i : Nat} (r : Rdy ops bs la i) (hA : IsAct ops D i)
    (x : ActIn ops bs D la p i) (hcnt : (D (i + 1)).cnt = (D (i + 1)).G.next) {φ' : Inj} {w' : World} (h1 : Inv φ' (D (i + 1)).G w') (h2 : Step m (restr φ (Hact bs D i).next) (Hact bs D i) w φ' (D (i + 1)).G w') :
    ∃ ψ g', φ.le ψ ∧ φ'.le ψ ∧ JH m ops bs D φ0 H0 w0 (la.setIfInBounds i true) ψ g' (i + 1) w' := by
  have hlt : i < la.size := by rw [hc.size]; exact r.lt
  have hsub := x.sub pl' h r
  have hcN := pl'.cnt_mono (show i + 1 ≤ ops.size from r.lt) (Nat.le_refl _)
  have h0i := pl'.cnt_mono (Nat.zero_le i) (Nat.le_of_lt r.lt)
  have hii := pl'.cnt_step r.lt
  rw [pl'.start] at h0i
  simp only at h0i
  have hnx := x.next
  have fr := frame (n' := (D ops.size).cnt) (lo := H0.next) (Hin := Hact bs D i) h.inv hsub (fun id a b => h.free pl' r (by omega) (by omega)) (Nat.le_refl _) (by omega) (by omega) (ActIn.excl h x.sup hsub) h1 h2
  have oldL : ∀ j c, IsNew ops D j c → LL (la.setIfInBounds i true) j → j ≠ i ∧ LL la j := by
    intro j c hj hL
    have hne : j ≠ i := fun e => not_new_act hj (e ▸ hA)
    rw [LL_set hlt] at hL
    exact ⟨hne, hL.resolve_left hne⟩
  -- what is not taken in
  have out : ∀ j c, IsNew ops D j c → NP ops D bs j (i + 1) → (Hact bs D i).get (D j).cnt = none ∧ ((D j).cnt < (Hact bs D i).next ∨ (D (i + 1)).G.next ≤ (D j).cnt) := by
    intro j c hj hP
    have hne : j ≠ i := fun e => not_new_act hj (e ▸ hA)
    by_cases hji : j < i
    · have q1 := pl'.kind_new hj
      have q2 := pl'.cnt_mono (show j + 1 ≤ i by omega) (Nat.le_of_lt r.lt)
      refine ⟨?_, .inl (by omega)⟩
      rcases x.get (D j).cnt with h3 | ⟨k, d, k1, k2, k3, k4, k5, k6, k7, k8⟩
      · rw [h3]
        have := x.pi
        exact h.fresh j c hj fun a ha q1 q2 => hP a ha q1 (by omega)
      · have := pl'.new_eq hj k1 k7
        subst this
        rw [hP i hA hji (by omega)] at k6; cases k6
    · have q2 := pl'.cnt_mono (show i + 1 ≤ j by omega) (Nat.le_of_lt hj.1)
      refine ⟨?_, .inr (by omega)⟩
      cases hq : (Hact bs D i).get (D j).cnt with
      | none => rfl
      | some b => have := (hsub _ _ hq).2; omega
  have np : ∀ j, NP ops D bs j (i + 1) → NP ops D bs j p := fun j hP a ha q1 q2 => hP a ha q1 (by have := x.pi; omega)
  refine ⟨joined φ φ' (D (i + 1)).G.next, joinedG g (Hact bs D i) (D (i + 1)).G, fr.le, fr.le', h.ini, r.lt, fun j hAj => ?_, fun id l hl => ?_, fr.inv, h.step.trans h.ini fr.step, fun j c hj hL hP => ?_, fun id hh => ?_, fun j c hj hP => ?_, fun id b hb => ?_, fun id b hb => ?_,
    fun j c hj hL => h.undP j c hj (oldL j c hj hL).2, fun j c hj hL hP id2 l l2 hne hs hl hl2 => ?_⟩
  · rw [LL_set hlt]
    constructor
    · rintro (rfl | hL)
      · omega
      · have := (h.cut j hAj).1 hL
        have := x.pi
        omega
    · intro hj
      by_cases e : j = i
      · exact .inl e
      · right
        rw [h.cut j hAj]
        apply Classical.byContradiction
        intro hge
        exact x.no j (by omega) (by omega) hAj
  · unfold joined at hl
    split at hl
    · rename_i hidlt
      cases hr : restr φ (Hact bs D i).next id with
      | some l2 =>
        have e := h2.ext _ _ hr
        rw [hl] at e; cases e
        rcases h.dom id l (restr_some hr).2 with q1 | ⟨j, q1, q2, q3⟩
        · exact .inl q1
        · exact .inr ⟨j, q1, (LL_set hlt j).2 (.inr q2), q3⟩
      | none =>
        have := (h2.new id l hl hr).1
        exact .inr ⟨i, r.lt, (LL_set hlt i).2 (.inl rfl), by omega, by omega⟩
    · rcases h.dom id l hl with q1 | ⟨j, q1, q2, q3⟩
      · exact .inl q1
      · exact .inr ⟨j, q1, (LL_set hlt j).2 (.inr q2), q3⟩
  · obtain ⟨hne, hL⟩ := oldL j c hj hL
    obtain ⟨q1, q2⟩ := out j c hj hP
    unfold joinedG
    rw [if_neg (by rw [q1]; simp; omega)]
    exact h.pnd j c hj hL (np j hP)
  · unfold joinedG
    split
    · rfl
    · rename_i hno
      have e1 : (D (i + 1)).G.get id = none := by
        cases hq : (D (i + 1)).G.get id with
        | none => rfl
        | some b => exact absurd (fr.none_ id (by rw [hq]; rfl)) hno
      rw [e1]
      cases hq : g id with
      | none => rfl
      | some b =>
        exfalso
        have hnn : (Hact bs D i).get id = none := by
          cases hq : (Hact bs D i).get id with
          | none => rfl
          | some b => exact absurd (.inl (by rw [hq]; rfl)) hno
        obtain ⟨j, c, k1, k2, k3, rfl⟩ := ActIn.pending h x.sup hq hnn
        by_cases hP : NP ops D bs j (i + 1)
        · exact hh j c k1 ((LL_set hlt j).2 (.inr k2)) hP rfl
        · apply hP
          intro a ha q1 q2
          cases hpr : pre bs a j with
          | false => rfl
          | true =>
            exfalso
            by_cases hap : a < p
            · rw [k3 a ha q1 hap] at hpr; cases hpr
            · have : a = i := by
                apply Classical.byContradiction
                intro hne
                exact x.no a (by omega) (by omega) ha
              subst this
              have := x.put j c k1 q1 (fun a' ha' r1 r2 => by
                by_cases hap' : a' < p
                · exact k3 a' ha' r1 hap'
                · exact absurd ha' (x.no a' (by omega) r2)) hpr
              rw [hnn] at this; cases this
  · obtain ⟨q1, q2⟩ := out j c hj hP
    cases hq : (D (i + 1)).G.get (D j).cnt with
    | none => rfl
    | some b =>
      rcases fr.none_ (D j).cnt (by rw [hq]; rfl) with h3 | h3
      · rw [q1] at h3; cases h3
      · omega
  · obtain ⟨l, q1, _⟩ := h1.obj _ _ hb
    exact (h1.dom _ _ q1).1
  · obtain ⟨l, q1, q2⟩ := h1.obj _ _ hb
    exact underB_of (fun id l h => (h1.dom id l h).1) q2
  · obtain ⟨hne', hL⟩ := oldL j c hj hL
    obtain ⟨q1, q2⟩ := out j c hj hP
    have hg := h.pnd j c hj hL (np j hP)
    exact fr.excl (D j).cnt id2 l l2 (by rw [hg]; rfl) q1 q2 (fun e => hne e.symm) hs hl hl2 fun id3 l3 hne3 hs3 hl3 l1 hl1 => h.excl j c hj hL (np j hP) id3 l1 l3 hne3 hs3 hl1 hl3

end
end Go.Abs


namespace Go.Abs

variable {P : Program} {m : Nat}

section
variable {ne : NE} {ih : Ex} {n : Fr} {ops : Array Oper} {bs : List Nat} {D : Nat → DSt} {ss0 : Sl} {H0 : AH} {φ0 : Inj} {w0 : World}

theorem Glob.restr {φ0 φ : Inj} {k N : Nat} (h : Glob P φ0) (hle : φ0.le φ) (hd : ∀ id l, φ0 id = some l → id < k) (hk : k ≤ N) : Glob P (restr φ N) := by
  intro g hg
  obtain ⟨l, a, b, c⟩ := h g hg
  exact ⟨l, restr_of (Nat.lt_of_lt_of_le (hd _ _ a) hk) (hle _ _ a), b, c⟩

theorem restr_sub {φ : Inj} (N : Nat) : (restr φ N).le φ := fun id l h => (restr_some h).2

theorem step_drawn (hS : Sane P ne) (hG : Good P ih) (pl' : Plan P ne ih m n ops bs D ss0 H0) (hg : Glob P φ0) (hd0 : ∀ id l, φ0 id = some l → id < H0.next)
    {la : Array Bool} (hc : JC ops bs la) {φ : Inj} {g : Nat → Option Blk} {p : Nat} {w : World} {a : Act} (h : JH m ops bs D φ0 H0 w0 la φ g p w) (hs : JS ops D n la φ a) {i : Nat} (r : Rdy ops bs la i) {Q : Exit → Act → World → Prop} :
    wpOp P ops Q i (fun a' w' => ∃ φ' g' p', JH m ops bs D φ0 H0 w0 (la.setIfInBounds i true) φ' g' p' w' ∧ JS ops D n (la.setIfInBounds i true) φ' a') a w := by
  obtain ⟨o, ho, ho'⟩ := op_at r.lt
  have hread : ∀ t ∈ namesOf ops o, VR (restr φ (D i).cnt) (((D i).ss.get t).getD undef) (a.tmps.getD t undef) := fun t ht => hs.read pl' hc r ho ht
  have h0i := pl'.cnt_mono (Nat.zero_le i) (Nat.le_of_lt r.lt)
  rw [pl'.start] at h0i
  simp only at h0i
  unfold wpOp
  rw [ho']
  simp only
  cases pl'.seq i o ho with
  | pass hw hp hcn hG' hpe ha hgs hpl =>
    rw [wanted_names hread hw]
    simp only [Bool.false_eq_true, if_false]
    refine ⟨φ, g, p, h.still hc r (by unfold pl; rw [hpl]; simp) (by unfold pl; rw [hpl]; simp) h.inv (StepG.refl _ _ _ _ _), hs.next pl' hc (Inj.le_refl φ) r ho hp (vr_undef _)⟩
  | quiet v hw hx hq hp hcn hG' hpe ha hgs hpl =>
    rw [wanted_names hread hw]
    simp only [if_true]
    left
    have hst := pl'.steady i o ho
    have hpl2 : pl D i = ⟨.quiet, (D i).ss, (D i).cnt, v, (D i).cnt⟩ := by unfold pl; rw [hpl]; rfl
    rw [hpl2] at hst
    unfold steady at hst
    simp only [Bool.and_eq_true] at hst
    obtain ⟨hun, hall⟩ := hst
    obtain ⟨c1, c2, c3⟩ := pl'.at_cut h.ple
    have hone := all_zipIdx hall c1
    simp only at hone
    have hfit : fits bs (D ops.size).acts.reverse i (D p).acts.length = true := by
      unfold fits
      rw [c2]
      simp only [Bool.and_eq_true, List.all_eq_true, Bool.not_eq_true']
      refine ⟨fun b hb => ?_, fun b hb => ?_⟩
      · rw [List.mem_reverse, pl'.acts h.ple] at hb
        cases hpre : (Nat.blt i b && pre bs b i) with
        | false => rfl
        | true =>
          exfalso
          simp only [Bool.and_eq_true] at hpre
          exact r.no (hc.closed b i ((h.cut b hb.2).2 hb.1) (blt_lt hpre.1) hpre.2)
      · obtain ⟨hpb, hAb⟩ := c3 b hb
        cases hpre : (Nat.blt b i && pre bs i b) with
        | false => rfl
        | true =>
          exfalso
          simp only [Bool.and_eq_true] at hpre
          have := (h.cut b hAb).1 (r.all b (blt_lt hpre.1) hpre.2)
          omega
    rw [hfit] at hone
    simp only [Bool.not_true, Bool.false_or] at hone
    cases hr : runOp P ne ih m o (evalA (D i).ss) { (D p).G with next := max (D i).cnt (D p).G.next } with
    | none => rw [hr] at hone; cases hone
    | some vh =>
      obtain ⟨v2, H2⟩ := vh
      rw [hr] at hone
      simp only at hone
      have e1 := veq_eq _ hone
      subst e1
      have e2 := quiet_same hq hr
      subst e2
      have hgn := pl'.gnext h.ple
      have hcp := pl'.cnt_mono h.ple (Nat.le_refl _)
      have hci := pl'.cnt_mono (Nat.le_of_lt r.lt) (Nat.le_refl _)
      have hsub : ∀ id b, AH.get { (D p).G with next := max (D i).cnt (D p).G.next } id = some b → g id = some b ∧ id < max (D i).cnt (D p).G.next := by
        intro id b hb
        have hb : (D p).G.get id = some b := hb
        have := h.gids id b hb
        exact ⟨h.g_of_G hb, by omega⟩
      have hinv : Inv (restr φ (max (D i).cnt (D p).G.next)) { (D p).G with next := max (D i).cnt (D p).G.next } w :=
        h.inv.part (Hin := { (D p).G with next := max (D i).cnt (D p).G.next }) hsub fun id b hb => (h.undG id b hb).mono (Nat.le_max_right _ _)
      have hlei : (restr φ (D i).cnt).le (restr φ (max (D i).cnt (D p).G.next)) := restr_le _ _ (Nat.le_max_left _ _) (Inj.le_refl φ)
      have hgl : Glob P (restr φ (D i).cnt) := hg.restr h.step.ext hd0 h0i
      refine runOp_ok hS hG hr (hgl.mono hlei) (fun x hxm => (eval_names hread hgl hx x hxm).mono hlei) hinv fun φ' v' w' q1 q2 q3 => ?_
      obtain ⟨f1, f2, f3⟩ := quiet_frame (lo := H0.next) h.inv hsub (by show max _ _ ≤ _; omega) (by show _ ≤ max _ _; omega)
        (ActIn.excl h (Hin := { (D p).G with next := max (D i).cnt (D p).G.next }) (fun id b hb => ⟨b, hb⟩) hsub) q2 q3
      refine ⟨φ, g, p, h.still hc r (by unfold pl; rw [hpl]; simp) (by unfold pl; rw [hpl]; simp) f2 f3, hs.next pl' hc (Inj.le_refl φ) r ho hp ?_⟩
      rw [hcn]
      refine unders_under _ hun φ v' ?_
      rw [f1] at q1
      exact q1.mono (restr_sub _)
  | new v H b hw hx hr hb hn hm hp hcn hG' hpe ha hgs hpl =>
    rw [wanted_names hread hw]
    simp only [if_true]
    left
    have hgl : Glob P (restr φ (D i).cnt) := hg.restr h.step.ext hd0 h0i
    have hci := pl'.cnt_mono (Nat.le_of_lt r.lt) (Nat.le_refl _)
    have hinv : Inv (restr φ (D i).cnt) ⟨(D i).cnt, .nil⟩ w := h.inv.part (Hin := ⟨(D i).cnt, .nil⟩) (fun id b hb => by cases hb) (fun id b hb => by cases hb)
    have hN : IsNew ops D i b := ⟨r.lt, by unfold pl; rw [hpl]; rfl⟩
    refine wp_of_opOK (aOp_ok hinv (fun x hxm => eval_names hread hgl hx x hxm) hr) fun φ' v' w' q1 q2 q3 => ?_
    obtain ⟨ψ, g', k1, k2, k3⟩ := h.new pl' hc r hN hb hn q2 q3
    refine ⟨ψ, g', p, k3, hs.next pl' hc k1 r ho hp ?_⟩
    refine underV_of (fun id l hl => ?_) q1 ψ v' (q1.mono k2)
    have := (q2.dom id l hl).1
    omega
  | act v hw hx hch hr hle hp hcn hpe ha hgs hpl =>
    rw [wanted_names hread hw]
    simp only [if_true]
    left
    have hA : IsAct ops D i := ⟨r.lt, by unfold pl; rw [hpl]; rfl⟩
    have x := h.actIn pl' hc r hA hch
    have hnx := x.next
    have hgl : Glob P (restr φ (D i).cnt) := hg.restr h.step.ext hd0 h0i
    have hinv : Inv (restr φ (Hact bs D i).next) (Hact bs D i) w := h.inv.part (x.sub pl' h r) (x.und pl' h r)
    rw [← hnx] at hgl hread
    refine runOp_ok hS hG hr hgl (fun y hym => eval_names hread hgl hx y hym) hinv fun φ' v' w' q1 q2 q3 => ?_
    obtain ⟨ψ, g', k1, k2, k3⟩ := h.act pl' hc r hA x hcn q2 q3
    refine ⟨ψ, g', i + 1, k3, hs.next pl' hc k1 r ho hp ?_⟩
    refine underV_of (fun id l hl => ?_) q1 ψ v' (q1.mono k2)
    have := (q2.dom id l hl).1
    omega

theorem count_false (la : Array Bool) (i : Nat) (hi : i < la.size) (h : ¬ LL la i) : (la.setIfInBounds i true).toList.count false + 1 = la.toList.count false := by
  unfold LL at h
  rw [Array.getD_eq_getD_getElem?, Array.getElem?_eq_getElem hi, Option.getD_some] at h
  have h : la[i] = false := by simpa using h
  have hl : i < la.toList.length := by simpa using hi
  rw [Array.toList_setIfInBounds, List.count_set hl]
  have e : la.toList[i] = false := by simpa using h
  have hpos : 0 < la.toList.count false := by
    rw [List.count_pos_iff]
    exact e ▸ List.getElem_mem hl
  simp only [e]
  have e2 : ((true : Bool) == false) = false := rfl
  have e3 : ((false : Bool) == false) = true := rfl
  rw [e2, e3]
  simp only [if_true, Bool.false_eq_true, if_false]
  omega

theorem wpAny_drawn (hS : Sane P ne) (hG : Good P ih) (pl' : Plan P ne ih m n ops bs D ss0 H0) (hg : Glob P φ0) (hd0 : ∀ id l, φ0 id = some l → id < H0.next) {Q : Exit → Act → World → Prop}
    (hQ : ∀ (la : Array Bool) φ g p a w, (∀ i, i < ops.size → LL la i) → JH m ops bs D φ0 H0 w0 la φ g p w → JS ops D n la φ a → Q .normal a w) :
    ∀ (fuel : Nat) (la : Array Bool) (φ : Inj) (g : Nat → Option Blk) (p : Nat) (a : Act) (w : World), la.toList.count false = fuel → JC ops bs la → JH m ops bs D φ0 H0 w0 la φ g p w → JS ops D n la φ a → wpAny P .any ops Q fuel la a w := by
  intro fuel
  induction fuel with
  | zero =>
    intro la φ g p a w hcount hc h hs
    have hr : Region.ready .any ops la = [] := by
      rw [List.eq_nil_iff_forall_not_mem]
      intro i hi
      have r := rdy_of pl'.closed hc hi
      have := count_false la i (by rw [hc.size]; exact r.lt) r.no
      omega
    exact ⟨hr, hQ la φ g p a w (all_listed pl'.edges hc hr) h hs⟩
  | succ fuel ihf =>
    intro la φ g p a w hcount hc h hs
    refine ⟨fun hr => hQ la φ g p a w (all_listed pl'.edges hc hr) h hs, fun i hi => ?_⟩
    have r := rdy_of pl'.closed hc hi
    refine wpOp_mono (fun a' w' hK => ?_) (step_drawn hS hG pl' hg hd0 hc h hs r)
    obtain ⟨φ', g', p', h', hs'⟩ := hK
    have := count_false la i (by rw [hc.size]; exact r.lt) r.no
    exact ihf _ φ' g' p' a' w' (by omega) (hc.next r) h' hs'

end

theorem drawnA_any {ne : NE} {ih : Ex} (hS : Sane P ne) (hG : Good P ih) {ops : Array Oper} {st st' : ASt} (hd : drawnA P ne ih m ops st = some st') {φ : Inj} {w : World} {a : Act} (hg : Glob P φ) (hs : SR φ st.ss st.n a) (hi : Inv φ st.H w)
    {Q : Exit → Act → World → Prop} (hn : ∀ φ' a' w', SR φ' st'.ss st'.n a' → Inv φ' st'.H w' → Step m φ st.H w φ' st'.H w' → Q .normal a' w') : wpAny P .any ops Q ops.size (Array.replicate ops.size false) a { w with drawn := w.drawn + 1 } := by
  obtain ⟨D, pl', rfl⟩ := drawnA_plan hd
  have hD0 : (D 0).cnt = st.H.next := by rw [pl'.start]
  have hS0 : (D 0).ss = st.ss := by rw [pl'.start]
  have hLL : ∀ i, i < ops.size → ¬ LL (Array.replicate ops.size false) i := by
    intro i h1 h2
    unfold LL at h2
    rw [Array.getD_eq_getD_getElem?, Array.getElem?_replicate] at h2
    rw [if_pos h1] at h2
    cases h2
  have hw' : Inv φ st.H { w with drawn := w.drawn + 1 } := ⟨hi.dom, hi.obj, hi.sep⟩
  refine wpAny_drawn (φ0 := φ) (w0 := w) hS hG pl' hg (fun id l h => (hi.dom id l h).1) ?_ _ _ φ st.H.get 0 a _ (by simp) ⟨by simp, fun i j h => ?_⟩ (JH.init pl' hLL hi.g hw' ⟨Inj.le_refl _, fun id l h h' => (by rw [h] at h'; cases h'), fun _ h => .inl h, Nat.le_refl _, fun _ _ _ => rfl, rfl, rfl, rfl⟩) ?_
  · intro la φ' g p a' w' hall h hs'
    have hN : ∀ i, i ≤ ops.size → (D i).cnt ≤ (D ops.size).cnt := fun i hi => pl'.cnt_mono hi (Nat.le_refl _)
    have hnoact : ∀ i, p ≤ i → i < ops.size → ¬ IsAct ops D i := fun i h1 h2 hA => by
      have := (h.cut i hA).1 (hall i h2)
      omega
    have hGe := pl'.g_same h.ple (Nat.le_refl _) hnoact
    have hmem := pl'.pend (Nat.le_refl ops.size)
    have hNP : ∀ j, NP ops D (befores ops.toList) j p ↔ NP ops D (befores ops.toList) j ops.size := by
      intro j
      constructor
      · intro hP b hb h1 h2
        exact hP b hb h1 ((h.cut b hb).1 (hall b hb.1))
      · intro hP b hb h1 h2
        exact hP b hb h1 hb.1
    have huniq : ∀ q q2, q ∈ (D ops.size).pend → q2 ∈ (D ops.size).pend → q2.2.1 = q.2.1 → q2 = q := by
      intro q q2 hq hq2 he
      obtain ⟨h1, h2, h3, h4⟩ := (hmem q).1 hq
      obtain ⟨k1, k2, k3, k4⟩ := (hmem q2).1 hq2
      have e := pl'.new_eq k2 h2 (by rw [← k3, he, h3])
      obtain ⟨a1, a2, a3⟩ := q
      obtain ⟨b1, b2, b3⟩ := q2
      simp only at *
      subst e
      have := k2.2.symm.trans h2.2
      cases this
      rw [he]
    have hget : ∀ id, (putAll (D ops.size).pend { (D ops.size).G with next := (D ops.size).cnt }).get id = g id := by
      intro id
      by_cases hex : ∃ q ∈ (D ops.size).pend, q.2.1 = id
      · obtain ⟨q, hq, he⟩ := hex
        obtain ⟨h1, h2, h3, h4⟩ := (hmem q).1 hq
        have := putAll_in (D ops.size).pend { (D ops.size).G with next := (D ops.size).cnt } q hq (fun q2 hq2 he => huniq _ q2 hq hq2 he)
        rw [he] at this
        rw [this, ← he, h3]
        exact (h.pnd q.1 q.2.2 h2 (hall _ h1) ((hNP _).2 h4)).symm
      · have := putAll_out (D ops.size).pend { (D ops.size).G with next := (D ops.size).cnt } id (fun q hq he => hex ⟨q, hq, he⟩)
        rw [this]
        have := h.rest id fun j c h1 h2 h3 e => hex ⟨(j, (D j).cnt, c), (hmem _).2 ⟨h1.1, h1, rfl, (hNP _).1 h3⟩, e.symm⟩
        rw [this, ← hGe]; rfl
    have hgf : (putAll (D ops.size).pend { (D ops.size).G with next := (D ops.size).cnt }).get = g := funext hget
    have hnx : (putAll (D ops.size).pend { (D ops.size).G with next := (D ops.size).cnt }).next = (D ops.size).cnt := putAll_next _ _
    have h0 := hN 0 (Nat.zero_le _)
    refine hn φ' a' w' ⟨fun t => ?_, hs'.size, hs'.defers⟩ ⟨?_, ?_, ?_⟩ ⟨?_, h.step.ext, h.step.new, ?_, h.step.size, h.step.keep, h.step.os, h.step.tape, h.step.output⟩
    · obtain ⟨e, he, hw, hsm, hv⟩ := hs'.slot t
      have : (D ops.size).ss.get t = (D e).ss.get t := pl'.ss_same he (Nat.le_refl _) fun k q h1 h2 hq hd => by
        have := hw k q hq (hall k h2) hd
        omega
      show VR φ' (((D ops.size).ss.get t).getD undef) _
      rw [this]
      exact hv.mono (restr_sub _)
    · show ∀ id l, φ' id = some l → id < (putAll _ _).next ∧ _
      rw [hnx]; exact h.inv.dom
    · show ∀ id b, (putAll _ _).get id = some b → _
      rw [hgf]; exact h.inv.obj
    · show ∀ id id' b b' l l', (putAll _ _).get id = some b → (putAll _ _).get id' = some b' → _
      rw [hgf]; exact h.inv.sep
    · show st.H.next ≤ (putAll _ _).next
      rw [hnx]; omega
    · show ∀ id, ((putAll _ _).get id).isSome = true → _
      rw [hgf]; exact h.step.alv
  · by_cases hlt : i < ops.size
    · exact absurd h (hLL i hlt)
    · unfold LL at h
      rw [Array.getD_eq_getD_getElem?, Array.getElem?_replicate, if_neg hlt] at h
      cases h
  · refine ⟨fun t => ⟨0, Nat.zero_le _, fun j q hj hL => absurd hL (hLL j (lt_of_at hj)), .inl rfl, ?_⟩, hs.size, hs.defers⟩
    rw [hD0, hS0]
    have := hs.slot t
    refine underV_of (fun id l hl => (hi.dom id l hl).1) this φ _ this

theorem drawnA_ok {ne : NE} {ih : Ex} (hS : Sane P ne) (hG : Good P ih) {ops : Array Oper} {st st' : ASt} (hd : drawnA P ne ih m ops st = some st') {φ : Inj} {w : World} {a : Act} (hg : Glob P φ) (hs : SR φ st.ss st.n a) (hi : Inv φ st.H w)
    {id : Nat} {Q : Exit → Act → World → Prop} (hn : ∀ φ' a' w', SR φ' st'.ss st'.n a' → Inv φ' st'.H w' → Step m φ st.H w φ' st'.H w' → Q .normal a' w') : (Code.region id ops true).wp P Q a w := by
  exact wp_region_any hS.mixed (drawnA_any hS hG hd hg hs hi hn)

end Go.Abs


namespace Go.Abs

variable {P : Program} {m : Nat}

def HSame (H K : AH) : Prop := K.next = H.next ∧ ∀ id, K.get id = H.get id

theorem HSame.refl (H : AH) : HSame H H := ⟨rfl, fun _ => rfl⟩
theorem HSame.trans {H K L : AH} (h : HSame H K) (k : HSame K L) : HSame H L := ⟨k.1.trans h.1, fun id => (k.2 id).trans (h.2 id)⟩

theorem inv_same {φ : Inj} {H K : AH} {w : World} (h : HSame H K) (hi : Inv φ K w) : Inv φ H w :=
  ⟨fun id l hl => by rw [← h.1]; exact hi.dom id l hl, fun id b hb => hi.obj id b (by rw [h.2]; exact hb), fun id id' b b' l l' hb hb' => hi.sep id id' b b' l l' (by rw [h.2]; exact hb) (by rw [h.2]; exact hb')⟩

theorem step_same {φ φ' : Inj} {H H' K : AH} {w w' : World} (h : HSame H' K) (hs : Step m φ H w φ' K w') : Step m φ H w φ' H' w' :=
  ⟨by rw [← h.1]; exact hs.le, hs.ext, hs.new, fun id hh => hs.alv id (by rw [h.2]; exact hh), hs.size, hs.keep, hs.os, hs.tape, hs.output⟩

theorem setCell_of {H : AH} {a : Addr} {v : Value} {c : Array Value} {e : TypeId} {f : Nat × Nat} {opn : Bool} {esz : Nat} (h1 : a.spot = none) (h2 : m ≤ a.block) (h3 : H.get a.block = some { obj := .cells c e f, opn, esz, ro := false }) (h4 : a.off < c.size) :
    H.setCell m a v = some (H.put a.block { obj := .cells (c.setIfInBounds a.off v) e f, opn, esz, ro := false }) := by
  unfold AH.setCell
  rw [h3, h1]
  simp only [Nat.ble_eq_true_of_le h2, show Nat.blt a.off c.size = true from Nat.ble_eq_true_of_le h4, Bool.and_self, cond_true]

theorem put_next (H : AH) (i : Nat) (b : Blk) : (H.put i b).next = H.next := rfl

theorem setCell_same {H K H1 : AH} {a : Addr} {v : Value} (h : HSame H K) (hs : H.setCell m a v = some H1) : ∃ K1, K.setCell m a v = some K1 ∧ HSame H1 K1 := by
  obtain ⟨h1, h2, c, e, f, opn, esz, h3, h4, rfl⟩ := setCell_get hs
  refine ⟨_, setCell_of h1 h2 (by rw [h.2]; exact h3) h4, by rw [put_next, put_next]; exact h.1, fun id => ?_⟩
  by_cases e : id = a.block
  · subst e; rw [AH.get_put_same, AH.get_put_same]
  · rw [AH.get_put_other _ _ e, AH.get_put_other _ _ e]; exact h.2 id

theorem setCell_comm {H H1 H2 : AH} {a b : Addr} {v u : Value} (h : H.setCell m a v = some H1) (k : H1.setCell m b u = some H2) (hne : a.block ≠ b.block ∨ a.off ≠ b.off) :
    ∃ K1 K2, H.setCell m b u = some K1 ∧ K1.setCell m a v = some K2 ∧ HSame H2 K2 := by
  obtain ⟨h1, h2, c, e, f, opn, esz, h3, h4, rfl⟩ := setCell_get h
  obtain ⟨k1, k2, c', e', f', opn', esz', k3, k4, rfl⟩ := setCell_get k
  by_cases eb : a.block = b.block
  · have hoff : a.off ≠ b.off := hne.resolve_left (fun hh => hh eb)
    rw [← eb, AH.get_put_same] at k3
    simp only [Option.some.injEq, Blk.mk.injEq, Obj.cells.injEq] at k3
    obtain ⟨⟨rfl, rfl, rfl⟩, rfl, rfl, _⟩ := k3
    have k4' : b.off < c.size := by simpa using k4
    refine ⟨_, _, setCell_of k1 k2 (by rw [← eb]; exact h3) k4', setCell_of (c := c.setIfInBounds b.off u) h1 h2 (by rw [← eb, AH.get_put_same]) (by simpa using h4), rfl, fun id => ?_⟩
    by_cases ei : id = a.block
    · subst ei
      rw [AH.get_put_same, ← eb, AH.get_put_same, Array.setIfInBounds_comm _ _ hoff]
    · rw [AH.get_put_other _ _ ei, ← eb, AH.get_put_other _ _ ei, AH.get_put_other _ _ ei, AH.get_put_other _ _ ei]
  · rw [AH.get_put_other _ _ (fun hh => eb hh.symm)] at k3
    refine ⟨_, _, setCell_of k1 k2 k3 k4, setCell_of h1 h2 (by rw [AH.get_put_other _ _ eb]; exact h3) h4, rfl, fun id => ?_⟩
    by_cases ei : id = a.block
    · subst ei
      rw [AH.get_put_same, AH.get_put_other _ _ eb, AH.get_put_same]
    · rw [AH.get_put_other _ _ ei]
      by_cases ej : id = b.block
      · subst ej; rw [AH.get_put_same, AH.get_put_same]
      · rw [AH.get_put_other _ _ ej, AH.get_put_other _ _ ej, AH.get_put_other _ _ ei]

def wrL (m : Nat) : List (Addr × Value) → AH → Option AH
  | [], H => some H
  | (a, v) :: l, H => match H.setCell m a v with
    | some H1 => wrL m l H1
    | none => none

theorem wrL_same : ∀ (l : List (Addr × Value)) {H K H1 : AH}, HSame H K → wrL m l H = some H1 → ∃ K1, wrL m l K = some K1 ∧ HSame H1 K1 := by
  intro l
  induction l with
  | nil => intro H K H1 h hs; simp only [wrL, Option.some.injEq] at hs; subst hs; exact ⟨K, rfl, h⟩
  | cons x l ih =>
    intro H K H1 h hs
    obtain ⟨a, v⟩ := x
    simp only [wrL] at hs ⊢
    cases hc : H.setCell m a v with
    | none => rw [hc] at hs; cases hs
    | some H2 =>
      rw [hc] at hs
      obtain ⟨K2, e, h2⟩ := setCell_same h hc
      rw [e]
      exact ih h2 hs

theorem wrL_past {a : Addr} {v : Value} : ∀ (l : List (Addr × Value)) {H Hx K : AH}, H.setCell m a v = some Hx → wrL m l Hx = some K → (∀ y ∈ l, a.block ≠ y.1.block ∨ a.off ≠ y.1.off) →
    ∃ L1 L2, wrL m l H = some L1 ∧ L1.setCell m a v = some L2 ∧ HSame K L2 := by
  intro l
  induction l with
  | nil => intro H Hx K h k _; simp only [wrL, Option.some.injEq] at k; subst k; exact ⟨H, Hx, rfl, h, HSame.refl _⟩
  | cons y l ih =>
    intro H Hx K h k hne
    obtain ⟨b, u⟩ := y
    simp only [wrL] at k ⊢
    cases hc : Hx.setCell m b u with
    | none => rw [hc] at k; cases k
    | some Hy =>
      rw [hc] at k
      simp only at k
      obtain ⟨K1, K2, e1, e2, e3⟩ := setCell_comm h hc (hne (b, u) (by simp))
      obtain ⟨K', e4, e5⟩ := wrL_same l e3 k
      obtain ⟨L1, L2, e6, e7, e8⟩ := ih e2 e4 fun y hy => hne y (by simp [hy])
      rw [e1]
      exact ⟨L1, L2, e6, e7, e5.trans e8⟩

theorem wrL_swap {l2 : List (Addr × Value)} : ∀ (l1 : List (Addr × Value)) {H H1 H2 : AH}, wrL m l1 H = some H1 → wrL m l2 H1 = some H2 → (∀ x ∈ l1, ∀ y ∈ l2, x.1.block ≠ y.1.block ∨ x.1.off ≠ y.1.off) →
    ∃ K1 K2, wrL m l2 H = some K1 ∧ wrL m l1 K1 = some K2 ∧ HSame H2 K2 := by
  intro l1
  induction l1 with
  | nil => intro H H1 H2 h k _; simp only [wrL, Option.some.injEq] at h; subst h; exact ⟨H2, H2, k, rfl, HSame.refl _⟩
  | cons x l1 ih =>
    intro H H1 H2 h k hne
    obtain ⟨a, v⟩ := x
    simp only [wrL] at h ⊢
    cases hc : H.setCell m a v with
    | none => rw [hc] at h; cases h
    | some Hx =>
      rw [hc] at h
      simp only at h
      obtain ⟨K1, K2, e1, e2, e3⟩ := ih h k fun x hx => hne x (by simp [hx])
      obtain ⟨L1, L2, e4, e5, e6⟩ := wrL_past l2 hc e1 (hne (a, v) (by simp))
      obtain ⟨M2, e7, e8⟩ := wrL_same l1 e6 e2
      refine ⟨L1, M2, e4, ?_, e3.trans e8⟩
      rw [e5]
      exact e7

def cwL (a : Addr) : Nat → List Value → List (Addr × Value)
  | _, [] => []
  | i, v :: l => (a.add i, v) :: cwL a (i + 1) l

theorem wrCells_wrL (a : Addr) : ∀ (l : List Value) (i : Nat) (H : AH), l.all one = true → wrCells m a i l H = wrL m (cwL a i l) H := by
  intro l
  induction l with
  | nil => intro i H _; rfl
  | cons v l ih =>
    intro i H h
    simp only [List.all_cons, Bool.and_eq_true] at h
    simp only [wrCells, cwL, wrL, h.1, cond_true]
    cases H.setCell m (a.add i) v with
    | none => rfl
    | some H1 => exact ih (i + 1) H1 h.2

theorem cwL_mem {a : Addr} : ∀ (l : List Value) (i : Nat), ∀ x ∈ cwL a i l, x.1.block = a.block ∧ a.off + i ≤ x.1.off ∧ x.1.off < a.off + i + l.length := by
  intro l
  induction l with
  | nil => intro i x hx; cases hx
  | cons v l ih =>
    intro i x hx
    simp only [cwL, List.mem_cons] at hx
    rcases hx with rfl | hx
    · simp only [List.length_cons, Addr.add]
      split
      · rename_i e; subst e; exact ⟨rfl, by omega, by omega⟩
      · exact ⟨rfl, by simp only; omega, by simp only; omega⟩
    · obtain ⟨h1, h2, h3⟩ := ih (i + 1) x hx
      simp only [List.length_cons]
      exact ⟨h1, by omega, by omega⟩

theorem wrCells_swap {a b : Addr} {l k : List Value} {H H1 H2 : AH} (hl : l.all one = true) (hk : k.all one = true) (h1 : wrCells m a 0 l H = some H1) (h2 : wrCells m b 0 k H1 = some H2) (ha : apartC a l.length b k.length = true) :
    ∃ K1 K2, wrCells m b 0 k H = some K1 ∧ wrCells m a 0 l K1 = some K2 ∧ HSame H2 K2 := by
  rw [wrCells_wrL a l 0 H hl] at h1
  rw [wrCells_wrL b k 0 H1 hk] at h2
  obtain ⟨K1, K2, e1, e2, e3⟩ := wrL_swap (cwL a 0 l) h1 h2 fun x hx y hy => by
    obtain ⟨p1, p2, p3⟩ := cwL_mem l 0 x hx
    obtain ⟨q1, q2, q3⟩ := cwL_mem k 0 y hy
    unfold apartC at ha
    simp only [Bool.or_eq_true, Bool.not_eq_true'] at ha
    rcases ha with (ha | ha) | ha
    · have := Nat.ne_of_beq_eq_false ha
      exact .inl (by omega)
    · have := Nat.le_of_ble_eq_true ha
      exact .inr (by omega)
    · have := Nat.le_of_ble_eq_true ha
      exact .inr (by omega)
  exact ⟨K1, K2, by rw [wrCells_wrL b k 0 H hk]; exact e1, by rw [wrCells_wrL a l 0 K1 hl]; exact e2, e3⟩

theorem tPure_run {φ : Inj} {o : Oper} {ρ ρ' : Operand → Value} {v : Value} (hρ : ∀ x ∈ o.op.operands, VR φ (ρ x) (ρ' x)) (h : tPure P o ρ = some v) : ∃ v', VR φ v v' ∧ ∀ w, (execOp ρ' o).run P w = .ok (.value v') w := by
  obtain ⟨dst, op, ty, pos, after, guard⟩ := o
  unfold tPure at h
  simp only at h hρ
  split at h
  · rename_i x
    cases h
    exact ⟨ρ' x, hρ x (by simp [Op.operands]), fun w => rfl⟩
  · rename_i x
    cases h
    exact ⟨ρ' x, hρ x (by simp [Op.operands]), fun w => rfl⟩
  · rename_i x
    have hx := hρ x (by simp [Op.operands])
    split at h
    · rename_i a ha
      cases h
      rw [ha] at hx
      refine ⟨ρ' x, hx, fun w => ?_⟩
      generalize hq : ρ' x = q at hx
      cases hx with
      | ptr b o l hl => simp only [execOp, hq]; rfl
    · cases h
  · rename_i s x f
    have hx := hρ x (by simp [Op.operands])
    split at h
    · rename_i fs a hu ha
      rw [ha] at hx
      cases hf : fs[f]? with
      | none => rw [hf] at h; cases h
      | some fd =>
        rw [hf] at h
        simp only at h
        cases hi : P.info? fd.type with
        | none => rw [hi] at h; cases h
        | some i =>
          rw [hi] at h
          simp only at h
          cases hz : Nat.beq i.size 0 with
          | true => rw [hz] at h; cases h
          | false =>
            rw [hz] at h
            simp only [cond_false, Option.some.injEq] at h
            subst h
            have hne := Nat.ne_of_beq_eq_false hz
            generalize hq : ρ' x = q at hx
            cases hx with
            | ptr b o l hl =>
              refine ⟨.pointer (some ⟨l.blk, l.off + (o + fd.offset), none⟩), by rw [Addr.add_lit]; exact .ptr b (o + fd.offset) l hl, fun w => ?_⟩
              have hrun : (Instr.fieldAt s (.pointer (some ⟨l.blk, l.off + o, none⟩)) f).run P w = .ok (.pointer (some ⟨l.blk, l.off + (o + fd.offset), none⟩)) w := by
                simp only [Instr.fieldAt, Sem.run_bind, run_und hu, Result.andThen_ok, hf, Instr.sureAddr, Sem.run_pure, fieldPlace, run_size hi]
                rw [if_neg hne]
                simp only [Sem.run_pure, Result.andThen_ok, Addr.add_lit, Nat.add_assoc]
              simp only [execOp, hq, Sem.run_bind, hrun, Result.andThen_ok]
              rfl
    · cases h
  · rename_i t x y
    have hx := hρ x (by simp [Op.operands])
    have hy := hρ y (by simp [Op.operands])
    split at h
    · rename_i e a n c k i hu ha hk
      rw [ha] at hx
      rw [hk] at hy
      cases hi : P.info? e with
      | none => rw [hi] at h; cases h
      | some inf =>
        rw [hi] at h
        simp only at h
        cases hb : Nat.blt i n with
        | false => rw [hb] at h; cases h
        | true =>
          rw [hb] at h
          simp only [cond_true, Option.some.injEq] at h
          subst h
          have hlt := blt_lt hb
          generalize hq : ρ' x = q at hx
          generalize hr : ρ' y = r at hy
          cases hy
          have key : ∀ (b o : Nat) (l : Loc) (c' : Nat), φ b = some l → a = ⟨b, o, none⟩ → q = .slice (some ⟨l.blk, l.off + o, none⟩) n c' → ∃ v', VR φ (.pointer (some (a.add (i * inf.size)))) v' ∧ ∀ w, (execOp ρ' { dst := dst, op := .indexAddr t x y, type := ty, pos := pos, after := after, guard := guard }).run P w = .ok (.value v') w := by
            intro b o l c' hl e1 e2
            subst e1 e2
            refine ⟨.pointer (some ⟨l.blk, l.off + (o + i * inf.size), none⟩), by rw [Addr.add_lit]; exact .ptr b (o + i * inf.size) l hl, fun w => ?_⟩
            have hrun : (Instr.indexAt t (.slice (some ⟨l.blk, l.off + o, none⟩) n c') (.int k (Int.ofNat i))).run P w = .ok (.pointer (some ⟨l.blk, l.off + (o + i * inf.size), none⟩)) w := by
              simp only [Instr.indexAt, asIntOf, Sem.run_bind, run_und hu, Result.andThen_ok, Sem.run_pure]
              rw [if_pos ⟨Int.natCast_nonneg i, Int.ofNat_lt.2 hlt⟩]
              simp only [Sem.run_bind, run_size hi, Result.andThen_ok, Sem.run_pure, Addr.add_lit, Nat.add_assoc]
              rfl
            simp only [execOp, hq, hr, Sem.run_bind, hrun, Result.andThen_ok]
            rfl
          cases hx with
          | slice b o n c l1 hl hc => exact key b o l1 _ hl rfl rfl
          | sliceOpen b o n c' l1 hl hn hc => exact key b o l1 _ hl rfl rfl
          | sliceEnd b o l1 a hl => omega
          | sliceZero b o l1 a hl => omega
    · cases h
  · cases h

theorem arun_storeCells (a : Addr) : ∀ (l : List Value) (i : Nat) (H : AH), arun P m (Go.storeCells a l i) H = (wrCells m a i l H).map fun H' => ((), H') := by
  intro l
  induction l with
  | nil => intro i H; rfl
  | cons v l ih =>
    intro i H
    unfold Go.storeCells
    simp only [bind, Go.store, Sem.bind, arun, wrCells]
    cases one v with
    | false => rfl
    | true =>
      simp only [cond_true]
      cases H.setCell m (a.add i) v with
      | none => rfl
      | some H1 => exact ih (i + 1) H1

theorem run_store {ne : NE} {ih : Ex} {ρ : Operand → Value} {o : Oper} {H H' : AH} {t : TypeId} {x y : Operand} {a : Addr} {v : Value} (hop : o.op = .store t x y) (hu : (P.info? t).map (·.size) = some v.cells.size) (hx : ρ x = .pointer (some a)) (hy : ρ y = v) (h : wrCells m a 0 v.cells.toList H = some H') :
    runOp P ne ih m o ρ H = some (undef, H') := by
  obtain ⟨dst, op, ty, pos, after, guard⟩ := o
  simp only at hop
  subst hop
  cases hi : P.info? t with
  | none => rw [hi] at hu; cases hu
  | some inf =>
    rw [hi] at hu
    simp only [Option.map_some, Option.some.injEq] at hu
    simp only [runOp, aOp, execOp, hx, hy, bind]
    have hS : arun P m (Instr.storeAt t (.pointer (some a)) v) H = some ((), H') := by
      unfold Instr.storeAt Go.storeVar
      simp only [Instr.sureAddr, Go.sizeOf, Go.typeInfo, Go.program, bind, Pure.pure, Sem.bind, arun, hi]
      rw [if_neg (by rw [hu]; simp), arun_storeCells, h]
      rfl
    rw [arun_bind, hS]
    rfl

theorem tStore_run {ne : NE} {ih : Ex} {ρ : Operand → Value} {o : Oper} {H H' : AH} {a : Addr} {l : List Value} (h : tStore P o ρ = some (a, l)) (hw : wrCells m a 0 l H = some H') : runOp P ne ih m o ρ H = some (undef, H') ∧ l.all one = true := by
  unfold tStore at h
  split at h
  · rename_i t x y hop
    split at h
    · rename_i b hb
      split at h
      · rename_i i hi
        cases hq : (Nat.beq i.size (ρ y).cells.size && (ρ y).cells.toList.all one) with
        | false => rw [hq] at h; cases h
        | true =>
          rw [hq] at h
          simp only [cond_true, Option.some.injEq, Prod.mk.injEq] at h
          obtain ⟨rfl, rfl⟩ := h
          simp only [Bool.and_eq_true] at hq
          exact ⟨run_store hop (by rw [hi]; simp only [Option.map_some]; rw [Nat.eq_of_beq_eq_true hq.1]) hb rfl hw, hq.2⟩
      · cases h
    · cases h
  · cases h

theorem wpAny_more {ops : Array Oper} {md : Region.Mode} {Q : Exit → Act → World → Prop} (j : Nat) : ∀ (f : Nat) (la : Array Bool) (a : Act) (w : World), wpAny P md ops Q f la a w → wpAny P md ops Q (f + j) la a w := by
  intro f
  induction f with
  | zero => intro la a w h; rw [Nat.zero_add]; exact wpAny_done h.1 h.2 j
  | succ f ih =>
    intro la a w h
    rw [show f + 1 + j = (f + j) + 1 by omega]
    exact ⟨h.1, fun i hi => wpOp_mono (fun a' w' h' => ih _ a' w' h') (h.2 i hi)⟩

theorem wp_Q {o : Oper} {a : Act} {w : World} {K : Act → World → Prop} {Q Q1 : Exit → Act → World → Prop} (hp : ∀ c a w, Q1 (.panic c) a w → Q (.panic c) a w) (hl : LetsOut Q1 → LetsOut Q) (h : o.wp P a w K Q1) : o.wp P a w K Q := by
  unfold Oper.wp at *
  generalize (execOp a.eval o).run P w = r at *
  cases r with
  | ok n w' =>
    cases n <;> simp only [Oper.upon] at h ⊢ <;>
      first
        | exact h
        | exact Calls.mono h (fun e w'' he => by cases e <;> first | exact he | exact hp _ _ _ he | exact hl he)
        | exact h.elim
  | halt x w' =>
    cases x <;> simp only [Oper.upon] at h ⊢
    case panic u => exact hp _ _ _ h

theorem preOps_get {ops : Array Oper} {k i : Nat} : (preOps ops k)[i]? = if i < k then ops[i]? else none := by
  unfold preOps
  rw [List.getElem?_toArray, List.getElem?_take]
  split <;> simp

theorem preOps_size {ops : Array Oper} {k : Nat} (hk : k ≤ ops.size) : (preOps ops k).size = k := by
  unfold preOps
  simp; omega

theorem wpOp_pre {ops : Array Oper} {k i : Nat} (hik : i < k) (hgd : ∀ o, ops[i]? = some o → guardIn k o = true) {Q Q1 : Exit → Act → World → Prop} {K : Act → World → Prop} {a : Act} {w : World} (hp : ∀ c a w, Q1 (.panic c) a w → Q (.panic c) a w) (hl : LetsOut Q1 → LetsOut Q)
    (h : wpOp P (preOps ops k) Q1 i K a w) : wpOp P ops Q i K a w := by
  unfold wpOp at *
  rw [preOps_get, if_pos hik] at h
  cases ho : ops[i]? with
  | none => rw [ho] at h; exact h
  | some o =>
    rw [ho] at h
    simp only at h ⊢
    have hw : Region.wanted o (yielded (preOps ops k) a.tmps) = Region.wanted o (yielded ops a.tmps) := by
      have hg := hgd o ho
      unfold guardIn at hg
      unfold Region.wanted
      cases hgu : o.guard with
      | none => rfl
      | some jw =>
        obtain ⟨j, want⟩ := jw
        rw [hgu] at hg
        simp only at hg ⊢
        have := blt_lt hg
        unfold yielded
        rw [preOps_get, if_pos this]
    rw [hw] at h
    split
    · rename_i hh
      rw [if_pos hh] at h
      exact h.imp (wp_Q hp hl) (fun ⟨x, y⟩ => ⟨x, hl y⟩)
    · rename_i hh
      rw [if_neg hh] at h
      exact h

theorem allTo_get {k n i : Nat} : (allTo k n)[i]? = if i < n then some (Nat.blt i k) else none := by
  unfold allTo
  rw [List.getElem?_toArray, List.getElem?_map]
  by_cases h : i < n
  · rw [List.getElem?_range h, if_pos h]; rfl
  · rw [List.getElem?_eq_none (by simp; omega), if_neg h]; rfl

theorem wpAny_split {ops : Array Oper} {bs : List Nat} {k : Nat} (hk : k ≤ ops.size) (hc : closedOk ops.toList bs = true) (htail : ∀ j, k ≤ j → j < ops.size → ∀ i, i < k → pre bs j i = true) (hgd : ∀ i o, i < k → ops[i]? = some o → guardIn k o = true)
    (hed : edgesOk (preOps ops k).toList = true) {f2 : Nat} {Q Q1 : Exit → Act → World → Prop} (hQn : ∀ a w, Q1 .normal a w → wpAny P .any ops Q f2 (allTo k ops.size) a w) (hp : ∀ c a w, Q1 (.panic c) a w → Q (.panic c) a w) (hl : LetsOut Q1 → LetsOut Q) :
    ∀ (f : Nat) (la la1 : Array Bool) (a : Act) (w : World), la1.size = k → (∀ i, i < k → la1.getD i false = la.getD i false) → (∀ i, k ≤ i → la.getD i false = false) → JC ops bs la →
      wpAny P .any (preOps ops k) Q1 f la1 a w → wpAny P .any ops Q (f + f2) la a w := by
  have hps := preOps_size hk
  have done : ∀ (la la1 : Array Bool), la1.size = k → (∀ i, i < k → la1.getD i false = la.getD i false) → (∀ i, k ≤ i → la.getD i false = false) → JC ops bs la → Region.ready .any (preOps ops k) la1 = [] → la = allTo k ops.size := by
    intro la la1 h1 h2 h3 hj hr
    have hall := all_listed hed (bs := []) ⟨by rw [h1, hps], fun i j _ _ hh => by simp [pre] at hh⟩ hr
    apply Array.ext_getElem?
    intro i
    rw [allTo_get]
    by_cases hi : i < ops.size
    · rw [if_pos hi]
      have hil : i < la.size := by rw [hj.size]; exact hi
      rw [Array.getElem?_eq_getElem hil]
      congr 1
      have hgd : la.getD i false = la[i] := by rw [Array.getD_eq_getD_getElem?, Array.getElem?_eq_getElem hil]; rfl
      rw [← hgd]
      by_cases hik : i < k
      · rw [← h2 i hik, Nat.ble_eq_true_of_le (show i + 1 ≤ k from hik) |> (fun h => show Nat.blt i k = true from h)]
        exact hall i (by rw [hps]; exact hik)
      · rw [h3 i (by omega)]
        cases hb : Nat.blt i k with
        | false => rfl
        | true => exact absurd (blt_lt hb) hik
    · rw [if_neg hi, Array.getElem?_eq_none (by rw [hj.size]; omega)]
  intro f
  induction f with
  | zero =>
    intro la la1 a w h1 h2 h3 hj h
    rw [Nat.zero_add, done la la1 h1 h2 h3 hj h.1]
    exact hQn a w h.2
  | succ f ih =>
    intro la la1 a w h1 h2 h3 hj h
    by_cases hr : Region.ready .any (preOps ops k) la1 = []
    · rw [done la la1 h1 h2 h3 hj hr, Nat.add_comm]
      exact wpAny_more _ _ _ _ _ (hQn a w (h.1 hr))
    · rw [show f + 1 + f2 = (f + f2) + 1 by omega]
      obtain ⟨i0, hi0⟩ := List.exists_mem_of_ne_nil _ hr
      obtain ⟨u1, o0, u2, u3⟩ := mem_ready.1 hi0
      have hi0k : i0 < k := by
        rw [preOps_get] at u2
        split at u2
        · assumption
        · cases u2
      have no0 : ¬ LL la i0 := by
        intro hL
        unfold LL at hL
        rw [← h2 i0 hi0k] at hL
        rw [Array.getD_eq_getD_getElem?] at hL u1
        rw [Array.getElem?_eq_getElem (by rw [h1]; exact hi0k)] at hL u1
        simp only [Option.getD_some] at hL u1
        rw [hL] at u1; cases u1
      refine ⟨fun hro => ?_, fun i hi => ?_⟩
      · exfalso
        have : i0 ∈ Region.ready .any ops la := by
          refine mem_ready.2 ⟨?_, o0, ?_, fun e he hb => ?_⟩
          · have hil : i0 < la.size := by rw [hj.size]; omega
            unfold LL at no0
            rw [Array.getD_eq_getD_getElem?, Array.getElem?_eq_getElem hil, Option.getD_some] at no0
            rw [Array.getD_eq_getD_getElem?, Array.getElem?_eq_getElem hil, Option.getD_some]
            simpa using no0
          · rw [preOps_get, if_pos hi0k] at u2; exact u2
          · have := u3 e he hb
            have hek : e.on < k := by
              apply Classical.byContradiction
              intro hge
              rw [Array.getD_eq_getD_getElem?, Array.getElem?_eq_none (by omega)] at this
              cases this
            rw [← h2 _ hek]; exact this
        rw [hro] at this; cases this
      · have r := rdy_of hc hj hi
        have hik : i < k := by
          apply Classical.byContradiction
          intro hge
          exact no0 (r.all i0 (by omega) (htail i (by omega) r.lt i0 hi0k))
        have hi1 : i ∈ Region.ready .any (preOps ops k) la1 := by
          obtain ⟨v1, o, v2, v3⟩ := mem_ready.1 hi
          refine mem_ready.2 ⟨?_, o, by rw [preOps_get, if_pos hik]; exact v2, fun e he hb => ?_⟩
          · have := h2 i hik
            have hno := r.no
            unfold LL at hno
            rw [← this] at hno
            have hil : i < la1.size := by rw [h1]; exact hik
            rw [Array.getD_eq_getD_getElem?, Array.getElem?_eq_getElem hil, Option.getD_some] at hno
            rw [Array.getD_eq_getD_getElem?, Array.getElem?_eq_getElem hil, Option.getD_some]
            simpa using hno
          · have := v3 e he hb
            have hek : e.on < k := by
              apply Classical.byContradiction
              intro hge
              rw [h3 _ (by omega)] at this; cases this
            rw [h2 _ hek]; exact this
        have hla : i < la.size := by rw [hj.size]; exact r.lt
        refine wpOp_mono (fun a' w' h' => ih (la.setIfInBounds i true) (la1.setIfInBounds i true) a' w' (by simpa using h1) (fun j hj' => ?_) (fun j hj' => ?_) (hj.next r) h') (wpOp_pre hik (fun o ho => hgd i o hik ho) hp hl (h.2 i hi1))
        · by_cases e : i = j
          · subst e
            rw [Array.getD_eq_getD_getElem?, Array.getD_eq_getD_getElem?, Array.getElem?_setIfInBounds, Array.getElem?_setIfInBounds, if_pos rfl, if_pos rfl, if_pos (by rw [h1]; exact hik), if_pos hla]
          · have := h2 j hj'
            rw [Array.getD_eq_getD_getElem?, Array.getD_eq_getD_getElem?] at this
            rw [Array.getD_eq_getD_getElem?, Array.getD_eq_getD_getElem?, Array.getElem?_setIfInBounds, Array.getElem?_setIfInBounds, if_neg e, if_neg e]
            exact this
        · have := h3 j hj'
          rw [Array.getD_eq_getD_getElem?] at this
          rw [Array.getD_eq_getD_getElem?, Array.getElem?_setIfInBounds, if_neg (by omega)]
          exact this

theorem tailPure_ok {φ : Inj} {w : World} {ops : Array Oper} {Q : Exit → Act → World → Prop} (hns : Region.noSelect ops = true) (hg : Glob P φ) (hp : ∀ c a w, ¬ Q (.panic c) a w) {f : Nat} : ∀ (l : List Nat) (la la' : Array Bool) (st st' : ASt) (a : Act), tailPure P ops l la st = some (la', st') → SR φ st.ss st.n a →
    (∀ a', SR φ st'.ss st'.n a' → wpAny P .any ops Q f la' a' w) → wpAny P .any ops Q (f + l.length) la a w := by
  intro l
  induction l with
  | nil =>
    intro la la' st st' a h hs hn
    simp only [tailPure, Option.some.injEq, Prod.mk.injEq] at h
    obtain ⟨rfl, rfl⟩ := h
    exact hn a hs
  | cons i l ih =>
    intro la la' st st' a h hs hn
    simp only [tailPure] at h
    cases ho : ops[i]? with
    | none => rw [ho] at h; cases h
    | some o =>
      rw [ho] at h
      simp only at h
      cases hb : (o.guard.isNone && o.op.operands.all (okx P) && Region.free .any ops la i && (Region.ready .any ops la).contains i) with
      | false => rw [hb] at h; cases h
      | true =>
        rw [hb] at h
        simp only [Bool.and_eq_true] at hb
        obtain ⟨⟨⟨b1, b2⟩, b3⟩, b4⟩ := hb
        simp only [cond_true] at h
        cases ht : tPure P o (evalA st.ss) with
        | none => rw [ht] at h; cases h
        | some v =>
          rw [ht] at h
          simp only at h
          cases hpu : putA st.n st.ss o.dst v with
          | none => rw [hpu] at h; cases h
          | some ss1 =>
            rw [hpu] at h
            simp only at h
            rw [Array.all_eq_true_iff_forall_mem] at b2
            obtain ⟨v', hv, hrun⟩ := tPure_run (P := P) (ρ' := a.eval) (fun x hx => hs.eval hg (b2 x hx)) ht
            have h2 := ih (la.setIfInBounds i true) la' ⟨ss1, st.n, st.H⟩ st' (a.put o.dst v') h (hs.put hpu hv) hn
            rw [List.length_cons, ← Nat.add_assoc]
            have hwant : Region.wanted o (yielded ops a.tmps) = true := by
              unfold Region.wanted
              cases hgu : o.guard with
              | none => rfl
              | some _ => rw [hgu] at b1; cases b1
            exact wpAny_take (oi := o) (v := v') ho hns b3 b4 (fun c a w hh => absurd hh (hp c _ w)) (.inl ⟨hwant, hrun⟩) h2

theorem tailPure_H {ops : Array Oper} : ∀ (l : List Nat) (la la' : Array Bool) (st st' : ASt), tailPure P ops l la st = some (la', st') → st'.H = st.H := by
  intro l
  induction l with
  | nil =>
    intro la la' st st' h
    simp only [tailPure, Option.some.injEq, Prod.mk.injEq] at h
    obtain ⟨rfl, rfl⟩ := h
    rfl
  | cons i l ih =>
    intro la la' st st' h
    simp only [tailPure] at h
    split at h
    · rename_i o ho
      cases hb : (o.guard.isNone && o.op.operands.all (okx P) && Region.free .any ops la i && (Region.ready .any ops la).contains i) with
      | false => rw [hb] at h; cases h
      | true =>
        rw [hb] at h
        simp only [cond_true] at h
        split at h
        · split at h
          · rename_i ss1 _
            exact ih (la.setIfInBounds i true) la' ⟨ss1, st.n, st.H⟩ st' h
          · cases h
        · cases h
    · cases h

theorem plain_store {ne : NE} (hS : Sane P ne) {ih : Ex} (hG : Good P ih) {ops : Array Oper} {i : Nat} {o : Oper} {st : ASt} {H H1 : AH} {b : Addr} {l : List Value} (ho : ops[i]? = some o) (hpl : plainSt P o = true) (ht : tStore P o (evalA st.ss) = some (b, l)) (hw : wrCells m b 0 l H = some H1)
    {φ : Inj} {w : World} {a : Act} (hg : Glob P φ) (hs : SR φ st.ss st.n a) (hi : Inv φ H w) {K : Act → World → Prop} {Q : Exit → Act → World → Prop} (hn : ∀ φ' w', SR φ' st.ss st.n a → Glob P φ' → Inv φ' H1 w' → Step m φ H w φ' H1 w' → K a w') : wpOp P ops Q i K a w := by
  unfold plainSt at hpl
  simp only [Bool.and_eq_true] at hpl
  obtain ⟨⟨p1, p2⟩, p3⟩ := hpl
  unfold wpOp
  rw [ho]
  have hwant : Region.wanted o (yielded ops a.tmps) = true := by
    unfold Region.wanted
    cases hgu : o.guard with
    | none => rfl
    | some _ => rw [hgu] at p1; cases p1
  simp only [hwant, if_true]
  left
  rw [Array.all_eq_true_iff_forall_mem] at p3
  refine runOp_ok hS hG (tStore_run (ne := ne) (ih := ih) ht hw).1 hg (fun x hx => hs.eval hg (p3 x hx)) hi fun φ' v' w' h1 h2 h3 => ?_
  have hd : o.dst = none := by
    cases hd : o.dst with
    | none => rfl
    | some _ => rw [hd] at p2; cases p2
  rw [hd]
  exact hn φ' w' (hs.mono h3.ext) (hg.mono h3.ext) h2 h3

theorem readyIs_eq {ops : Array Oper} {la : Array Bool} {l : List Nat} (h : readyIs ops la l = true) : Region.ready .any ops la = l := by
  unfold readyIs at h
  exact eq_of_beq h

theorem tailStores_ok {ne : NE} (hS : Sane P ne) {ih : Ex} (hG : Good P ih) {ops : Array Oper} {i j : Nat} {la : Array Bool} {st st' : ASt} (h : tailStores P m ops i j la st = some st') {φ : Inj} {w : World} {a : Act} (hg : Glob P φ) (hs : SR φ st.ss st.n a) (hi : Inv φ st.H w) {Q : Exit → Act → World → Prop}
    (hn : ∀ φ' w', SR φ' st'.ss st'.n a → Inv φ' st'.H w' → Step m φ st.H w φ' st'.H w' → Q .normal a w') : wpAny P .any ops Q 2 la a w := by
  unfold tailStores at h
  cases hoi : ops[i]? with
  | none => rw [hoi] at h; cases h
  | some o =>
    cases hoj : ops[j]? with
    | none => rw [hoi, hoj] at h; cases h
    | some q =>
      rw [hoi, hoj] at h
      simp only at h
      cases hb : (plainSt P o && plainSt P q && readyIs ops la [i, j] && readyIs ops (la.setIfInBounds i true) [j] && readyIs ops (la.setIfInBounds j true) [i] && readyIs ops ((la.setIfInBounds i true).setIfInBounds j true) []) with
      | false => rw [hb] at h; cases h
      | true =>
        rw [hb] at h
        simp only [Bool.and_eq_true] at hb
        obtain ⟨⟨⟨⟨⟨b1, b2⟩, b3⟩, b4⟩, b5⟩, b6⟩ := hb
        have b3 := readyIs_eq b3
        have b4 := readyIs_eq b4
        have b5 := readyIs_eq b5
        have b6 := readyIs_eq b6
        simp only [cond_true] at h
        split at h
        · rename_i x l y k h1 h2
          cases hap : apartC x l.length y k.length with
          | false => rw [hap] at h; cases h
          | true =>
            rw [hap] at h
            simp only [cond_true] at h
            cases hw1 : wrCells m x 0 l st.H with
            | none => rw [hw1] at h; cases h
            | some H1 =>
              rw [hw1] at h
              simp only at h
              cases hw2 : wrCells m y 0 k H1 with
              | none => rw [hw2] at h; cases h
              | some H2 =>
                rw [hw2] at h
                simp only [Option.some.injEq] at h
                subst h
                have hl := (tStore_run (m := m) (ne := ne) (ih := ih) h1 hw1).2
                have hk := (tStore_run (m := m) (ne := ne) (ih := ih) h2 hw2).2
                obtain ⟨K1, K2, e1, e2, e3⟩ := wrCells_swap hl hk hw1 hw2 hap
                refine wpAny_all b3 (by simp) fun r hr => ?_
                simp only [List.mem_cons, List.not_mem_nil, or_false] at hr
                rcases hr with hr | hr <;> rw [hr]
                · refine plain_store (st := st) hS hG hoi b1 h1 hw1 hg hs hi fun φ1 w1 s1 g1 i1 t1 => ?_
                  refine wpAny_all b4 (by simp) fun r hr => ?_
                  simp only [List.mem_cons, List.not_mem_nil, or_false] at hr
                  rw [hr]
                  refine plain_store (st := st) hS hG hoj b2 h2 hw2 g1 s1 i1 fun φ2 w2 s2 g2 i2 t2 => ?_
                  exact wpAny_done b6 (hn φ2 w2 s2 i2 (t1.trans hi t2)) 0
                · refine plain_store (st := st) hS hG hoj b2 h2 e1 hg hs hi fun φ1 w1 s1 g1 i1 t1 => ?_
                  refine wpAny_all b5 (by simp) fun r hr => ?_
                  simp only [List.mem_cons, List.not_mem_nil, or_false] at hr
                  rw [hr]
                  refine plain_store (st := st) hS hG hoi b1 h1 e2 g1 s1 i1 fun φ2 w2 s2 g2 i2 t2 => ?_
                  refine wpAny_done ?_ (hn φ2 w2 s2 (inv_same e3 i2) (step_same e3 (t1.trans hi t2))) 0
                  by_cases hij : i = j
                  · rw [← hij] at b6 ⊢; exact b6
                  · rw [Array.setIfInBounds_comm _ _ (fun hh => hij hh.symm)]; exact b6
        · cases h

theorem filter_len (p : Nat → Bool) : ∀ l : List Nat, l.length = (l.filter p).length + (l.filter fun i => !p i).length := by
  intro l
  induction l with
  | nil => rfl
  | cons x l ih =>
    cases h : p x <;> simp only [List.filter_cons, h, List.length_cons, if_true, Bool.not_true, Bool.not_false, Bool.false_eq_true, if_false] <;> omega

theorem drawn2A_ok {ne : NE} (hS : Sane P ne) {ih : Ex} (hG : Good P ih) {ops : Array Oper} {st st' : ASt} (hd : drawn2A P ne ih m ops st = some st') {φ : Inj} {w : World} {a : Act} (hg : Glob P φ) (hs : SR φ st.ss st.n a) (hi : Inv φ st.H w)
    {id : Nat} {Q : Exit → Act → World → Prop} (hp : ∀ c a w, ¬ Q (.panic c) a w) (hn : ∀ φ' a' w', SR φ' st'.ss st'.n a' → Inv φ' st'.H w' → Step m φ st.H w φ' st'.H w' → Q .normal a' w') : (Code.region id ops true).wp P Q a w := by
  unfold drawn2A at hd
  simp only at hd
  generalize endAt P ops.toList 0 0 = k at hd
  cases hb : (splitOk ops (befores ops.toList) k && Region.noSelect ops) with
  | false => rw [hb] at hd; cases hd
  | true =>
    rw [hb] at hd
    simp only [Bool.and_eq_true] at hb
    obtain ⟨hsp, hns⟩ := hb
    unfold splitOk at hsp
    simp only [Bool.and_eq_true] at hsp
    obtain ⟨⟨⟨s1, s2⟩, s3⟩, s4⟩ := hsp
    have hk := blt_lt s1
    rw [List.all_eq_true] at s3 s4
    have htail : ∀ j, k ≤ j → j < ops.size → ∀ i, i < k → pre (befores ops.toList) j i = true := by
      intro j h1 h2 i h3
      have := s3 j (by rw [List.mem_drop_iff_getElem]; exact ⟨j - k, by simp; omega, by simp; omega⟩)
      rw [List.all_eq_true] at this
      exact this i (List.mem_range.2 h3)
    have hgd : ∀ i o, i < k → ops[i]? = some o → guardIn k o = true := by
      intro i o h1 h2
      refine s4 o ?_
      rw [List.mem_iff_getElem?]
      exact ⟨i, by rw [List.getElem?_take, if_pos h1]; simpa using h2⟩
    simp only [cond_true] at hd
    cases hda : drawnA P ne ih m (preOps ops k) st with
    | none => rw [hda] at hd; cases hd
    | some st1 =>
      rw [hda] at hd
      simp only at hd
      generalize hL1 : (List.filter (fun i => !((ops[i]?).map isStore).getD false) (List.drop k (List.range ops.size))) = l1 at hd
      split at hd
      · rename_i la st2 i j htp hl2
        have hw' : Inv φ st.H { w with drawn := w.drawn + 1 } := ⟨hi.dom, hi.obj, hi.sep⟩
        have hlen : ops.size - k = l1.length + 2 := by
          have h1 := filter_len (fun i => ((ops[i]?).map isStore).getD false) (List.drop k (List.range ops.size))
          rw [hl2] at h1
          have h2 : (List.filter (fun i => !((ops[i]?).map isStore).getD false) (List.drop k (List.range ops.size))).length = l1.length := by rw [hL1]
          rw [h2] at h1
          simp only [List.length_drop, List.length_range, List.length_cons, List.length_nil] at h1
          omega
        have hed : edgesOk (preOps ops k).toList = true := by
          obtain ⟨D, pl', _⟩ := drawnA_plan hda
          exact pl'.edges
        have hpsz := preOps_size (Nat.le_of_lt hk)
        let Q1 : Exit → Act → World → Prop := fun e a w => match e with
          | .normal => wpAny P .any ops Q (2 + l1.length) (allTo k ops.size) a w
          | e => Q e a w
        have h1 : wpAny P .any (preOps ops k) Q1 (preOps ops k).size (Array.replicate (preOps ops k).size false) a { w with drawn := w.drawn + 1 } := by
          refine drawnA_any (Q := Q1) hS hG hda hg hs hi fun φ1 a1 w1 g1 g2 g3 => ?_
          show wpAny P .any ops Q (2 + l1.length) (allTo k ops.size) a1 w1
          have hg1 := hg.mono g3.ext
          have hH : st2.H = st1.H := tailPure_H l1 _ _ _ _ htp
          refine tailPure_ok hns hg1 hp l1 _ _ _ _ a1 htp g1 fun a2 s2 => ?_
          refine tailStores_ok hS hG hd hg1 s2 (by rw [hH]; exact g2) fun φ2 w2 t1 t2 t3 => ?_
          rw [hH] at t3
          exact hn φ2 a2 w2 t1 t2 (g3.trans hi t3)
        refine wp_region_any hS.mixed ?_
        have h2 := wpAny_split (Q := Q) (Q1 := Q1) (f2 := 2 + l1.length) (Nat.le_of_lt hk) s2 htail hgd hed (fun a w h => h) (fun c a w h => h) (fun h => h) (preOps ops k).size (Array.replicate ops.size false) (Array.replicate (preOps ops k).size false) a { w with drawn := w.drawn + 1 }
          (by simpa using hpsz) (fun i hi => ?_) (fun i hi => ?_) ⟨by simp, fun i j hh => ?_⟩ h1
        · have e : (preOps ops k).size + (2 + l1.length) = ops.size := by
            rw [hpsz]
            omega
          rw [e] at h2
          exact h2
        · rw [Array.getD_eq_getD_getElem?, Array.getD_eq_getD_getElem?, Array.getElem?_replicate, Array.getElem?_replicate, if_pos (by rw [hpsz]; exact hi), if_pos (by omega)]
        · rw [Array.getD_eq_getD_getElem?, Array.getElem?_replicate]; split <;> rfl
        · unfold LL at hh
          rw [Array.getD_eq_getD_getElem?, Array.getElem?_replicate] at hh
          split at hh <;> cases hh
      · cases hd

end Go.Abs


namespace Go.Abs

variable {P : Program} {m : Nat}

theorem rounds_mono {c : Code} {Q Q' : Exit → Act → World → Prop} (hq : ∀ e a w, Q e a w → Q' e a w) : ∀ (n : Nat) (a : Act) (w : World), Code.rounds P c Q n a w → Code.rounds P c Q' n a w := by
  intro n
  induction n with
  | zero => intro a w h; exact h
  | succ n ih =>
    intro a w h
    rw [rounds_succ] at h ⊢
    refine wp_mono h fun e a w he => ?_
    cases e <;> first | exact ih _ _ he | exact hq _ _ _ he

/-- Loops, by rounds. -/
def GoodL (P : Program) (ih : Ex) (n : Nat) : Prop := ∀ (m : Nat) (c : Code) (st : ASt) (e : AExit) (st' : ASt), ih m (.loop c) st = some (e, st') →
  ∀ (φ : Inj) (a : Act) (w : World), Glob P φ → SR φ st.ss st.n a → Inv φ st.H w → Code.rounds P c (CodePost P m φ st.H w e st') n a w

theorem CodePost.trans {φ φ1 : Inj} {H H1 : AH} {w w1 : World} {e : AExit} {st' : ASt} (hi : Inv φ H w) (hst : Step m φ H w φ1 H1 w1) : ∀ e' a' w', CodePost P m φ1 H1 w1 e st' e' a' w' → CodePost P m φ H w e st' e' a' w' :=
  fun e' a' w' ⟨φ', h1, h2, h3, h4⟩ => ⟨φ', h1, h2, h3, hst.trans hi h4⟩

theorem scope_ok {ih : Ex} (hG : Good P ih) {body : Code} : ∀ (k0 : Nat) (now : Code) (st : ASt) (e : AExit) (st' : ASt), inScopeA ih m body k0 now st = some (e, st') →
    ∀ (φ : Inj) (a : Act) (w : World), Glob P φ → SR φ st.ss st.n a → Inv φ st.H w → ∀ (b : Frame) (k : List Item) (cs : List Frame),
    ∃ e' a' w', CodePost P m φ st.H w e st' e' a' w' ∧ Arrives P (lone (b.at a (.code now :: .inScope body :: k)) cs w) b k cs e' a' w' := by
  intro k0
  induction k0 with
  | zero => intro now st e st' h; cases h
  | succ k0 ihk =>
    intro now st e st' h φ a w hg hs hi b k cs
    simp only [inScopeA] at h
    cases hr : ih m now st with
    | none => rw [hr] at h; cases h
    | some r =>
      obtain ⟨e1, st1⟩ := r
      obtain ⟨e', a1, w1, hpost, harr⟩ := hG m now st e1 st1 hr φ a w hg hs hi b (.inScope body :: k) cs
      obtain ⟨φ1, rfl, hs1, hi1, hst1⟩ := hpost
      rw [hr] at h
      cases e1 with
      | normal =>
        simp only [Option.some.injEq, Prod.mk.injEq] at h
        obtain ⟨rfl, rfl⟩ := h
        exact ⟨.normal, a1, w1, ⟨φ1, rfl, hs1, hi1, hst1⟩, Steps.trans harr (.one step_inScope)⟩
      | exit id =>
        simp only [Option.some.injEq, Prod.mk.injEq] at h
        obtain ⟨rfl, rfl⟩ := h
        exact ⟨.exit id, a1, w1, ⟨φ1, rfl, hs1, hi1, hst1⟩, fun k' hk => harr k' (by simp [exitTo, hk])⟩
      | ret =>
        simp only [Option.some.injEq, Prod.mk.injEq] at h
        obtain ⟨rfl, rfl⟩ := h
        exact ⟨.ret, a1, w1, ⟨φ1, rfl, hs1, hi1, hst1⟩, harr⟩
      | goto l =>
        simp only at h
        cases hf : findLabel body l with
        | none =>
          rw [hf] at h
          simp only [Option.some.injEq, Prod.mk.injEq] at h
          obtain ⟨rfl, rfl⟩ := h
          exact ⟨.goto l, a1, w1, ⟨φ1, rfl, hs1, hi1, hst1⟩, fun k' hk => harr k' (by simp [gotoIn, hf, hk])⟩
        | some rest =>
          rw [hf] at h
          obtain ⟨e2, a2, w2, hp2, ha2⟩ := ihk rest st1 e st' h φ1 a1 w1 (hg.mono hst1.ext) hs1 hi1 b k cs
          refine ⟨e2, a2, w2, CodePost.trans hi hst1 _ _ _ hp2, .of_steps (harr _ (by simp [gotoIn, hf])) ha2⟩

theorem exec_good {ne : NE} (hS : Sane P ne) : ∀ n, Good P (exec P ne n) ∧ GoodL P (exec P ne n) n := by
  intro n
  induction n with
  | zero =>
    refine ⟨?_, ?_⟩
    · intro m c st e st' h; cases h
    · intro m c st e st' h; cases h
  | succ n ihn =>
    obtain ⟨hG, hL⟩ := ihn
    have hLoop : GoodL P (exec P ne (n + 1)) (n + 1) := by
      intro m c st e st' h φ a w hg hs hi
      change execStep P ne (exec P ne n) m (.loop c) st = some (e, st') at h
      simp only [execStep] at h
      rw [rounds_succ]
      cases hr : exec P ne n m c st with
      | none => rw [hr] at h; cases h
      | some r =>
        obtain ⟨e1, st1⟩ := r
        rw [hr] at h
        refine wp_mono (hG m c st e1 st1 hr φ a w hg hs hi) fun e' a1 w1 hpost => ?_
        obtain ⟨φ1, rfl, hs1, hi1, hst1⟩ := hpost
        cases e1 with
        | normal =>
          exact rounds_mono (CodePost.trans hi hst1) _ _ _ (hL m c st1 e st' h φ1 a1 w1 (hg.mono hst1.ext) hs1 hi1)
        | _ =>
          simp only [Option.some.injEq, Prod.mk.injEq] at h
          obtain ⟨rfl, rfl⟩ := h
          exact ⟨φ1, rfl, hs1, hi1, hst1⟩
    refine ⟨?_, hLoop⟩
    intro m c st e st' h φ a w hg hs hi
    cases c with
    | loop c => exact wp_loop_rounds (n + 1) (hLoop m c st e st' h φ a w hg hs hi)
    | skip =>
      have h : some (AExit.normal, st) = some (e, st') := h
      simp only [Option.some.injEq, Prod.mk.injEq] at h
      obtain ⟨rfl, rfl⟩ := h
      exact wp_skip ⟨φ, rfl, hs, hi, Step.refl _ _ _ _⟩
    | label l =>
      have h : some (AExit.normal, st) = some (e, st') := h
      simp only [Option.some.injEq, Prod.mk.injEq] at h
      obtain ⟨rfl, rfl⟩ := h
      exact wp_label ⟨φ, rfl, hs, hi, Step.refl _ _ _ _⟩
    | ret =>
      have h : some (AExit.ret, st) = some (e, st') := h
      simp only [Option.some.injEq, Prod.mk.injEq] at h
      obtain ⟨rfl, rfl⟩ := h
      exact wp_ret ⟨φ, rfl, hs, hi, Step.refl _ _ _ _⟩
    | exit id =>
      have h : some (AExit.exit id, st) = some (e, st') := h
      simp only [Option.some.injEq, Prod.mk.injEq] at h
      obtain ⟨rfl, rfl⟩ := h
      exact wp_exit ⟨φ, rfl, hs, hi, Step.refl _ _ _ _⟩
    | goto l =>
      have h : some (AExit.goto l, st) = some (e, st') := h
      simp only [Option.some.injEq, Prod.mk.injEq] at h
      obtain ⟨rfl, rfl⟩ := h
      exact wp_goto ⟨φ, rfl, hs, hi, Step.refl _ _ _ _⟩
    | seq x y =>
      change execStep P ne (exec P ne n) m (.seq x y) st = some (e, st') at h
      simp only [execStep] at h
      refine wp_seq ?_
      cases hr : exec P ne n m x st with
      | none => rw [hr] at h; cases h
      | some r =>
        obtain ⟨e1, st1⟩ := r
        rw [hr] at h
        refine wp_mono (hG m x st e1 st1 hr φ a w hg hs hi) fun e' a1 w1 hpost => ?_
        obtain ⟨φ1, rfl, hs1, hi1, hst1⟩ := hpost
        cases e1 with
        | normal => exact wp_mono (hG m y st1 e st' h φ1 a1 w1 (hg.mono hst1.ext) hs1 hi1) (CodePost.trans hi hst1)
        | _ =>
          simp only [Option.some.injEq, Prod.mk.injEq] at h
          obtain ⟨rfl, rfl⟩ := h
          exact ⟨φ1, rfl, hs1, hi1, hst1⟩
    | cond c x y =>
      change execStep P ne (exec P ne n) m (.cond c x y) st = some (e, st') at h
      simp only [execStep] at h
      split at h
      · rename_i t ht
        have hv : VR φ (evalA st.ss c) (a.eval c) := by
          cases c with
          | tmp k => exact hs.slot k
          | const v =>
            have : v = .bool t := ht
            subst this; exact .bool t
          | global g => cases ht
          | func f => cases ht
        rw [ht] at hv
        have hc : a.eval c = .bool t := by
          generalize a.eval c = u at hv
          cases hv; rfl
        refine wp_cond hc ?_
        cases t with
        | true => exact hG m x st e st' h φ a w hg hs hi
        | false => exact hG m y st e st' h φ a w hg hs hi
      · cases h
    | block id c =>
      change execStep P ne (exec P ne n) m (.block id c) st = some (e, st') at h
      simp only [execStep] at h
      refine wp_block ?_
      cases hr : exec P ne n m c st with
      | none => rw [hr] at h; cases h
      | some r =>
        obtain ⟨e1, st1⟩ := r
        rw [hr] at h
        refine wp_mono (hG m c st e1 st1 hr φ a w hg hs hi) fun e' a1 w1 hpost => ?_
        obtain ⟨φ1, rfl, hs1, hi1, hst1⟩ := hpost
        cases e1 with
        | exit j =>
          simp only at h
          cases hj : Nat.beq j id with
          | true =>
            rw [hj] at h
            simp only [cond_true, Option.some.injEq, Prod.mk.injEq] at h
            obtain ⟨rfl, rfl⟩ := h
            show (if j = id then _ else _)
            rw [if_pos (Nat.eq_of_beq_eq_true hj)]
            exact ⟨φ1, rfl, hs1, hi1, hst1⟩
          | false =>
            rw [hj] at h
            simp only [cond_false, Option.some.injEq, Prod.mk.injEq] at h
            obtain ⟨rfl, rfl⟩ := h
            show (if j = id then _ else _)
            rw [if_neg (Nat.ne_of_beq_eq_false hj)]
            exact ⟨φ1, rfl, hs1, hi1, hst1⟩
        | _ =>
          simp only [Option.some.injEq, Prod.mk.injEq] at h
          obtain ⟨rfl, rfl⟩ := h
          exact ⟨φ1, rfl, hs1, hi1, hst1⟩
    | scope body =>
      change execStep P ne (exec P ne n) m (.scope body) st = some (e, st') at h
      simp only [execStep] at h
      intro b k cs
      obtain ⟨e', a', w', h1, h2⟩ := scope_ok hG _ _ _ _ _ h φ a w hg hs hi b k cs
      exact ⟨e', a', w', h1, .of_steps (.one step_scope) h2⟩
    | region id ops d =>
      change execStep P ne (exec P ne n) m (.region id ops d) st = some (e, st') at h
      simp only [execStep] at h
      cases d with
      | true =>
        simp only [cond_true] at h
        cases hr : drawnA P ne (exec P ne n) m ops st with
        | none =>
          rw [hr] at h
          simp only [cond_true] at h
          cases hr2 : drawn2A P ne (exec P ne n) m ops st with
          | none => rw [hr2] at h; cases h
          | some st1 =>
            rw [hr2] at h
            simp only [Option.some.injEq, Prod.mk.injEq] at h
            obtain ⟨rfl, rfl⟩ := h
            exact drawn2A_ok hS hG hr2 hg hs hi (fun c a w ⟨_, hh, _⟩ => by cases hh) fun φ' a' w' h1 h2 h3 => ⟨φ', rfl, h1, h2, h3⟩
        | some st1 =>
          rw [hr] at h
          simp only [Option.some.injEq, Prod.mk.injEq] at h
          obtain ⟨rfl, rfl⟩ := h
          exact drawnA_ok hS hG hr hg hs hi fun φ' a' w' h1 h2 h3 => ⟨φ', rfl, h1, h2, h3⟩
      | false =>
        simp only [cond_false] at h
        cases hr : runOps P ne (exec P ne n) m ops ops.toList st with
        | none => rw [hr] at h; simp only [cond_false] at h; cases h
        | some st1 =>
          rw [hr] at h
          simp only [Option.some.injEq, Prod.mk.injEq] at h
          obtain ⟨rfl, rfl⟩ := h
          refine wp_region ?_
          have := runOps_ok hS hG (ops := ops) ops.toList 0 (fun j => by rw [Nat.zero_add]; simp) hr hg hs hi (Q := CodePost P m φ st.H w .normal st1) fun φ' a' w' h1 h2 h3 => ⟨φ', rfl, h1, h2, h3⟩
          rw [List.range_eq_range']
          simpa using this
    | rangeFunc => cases h
    | refuse => cases h

/-- What the interpreter finds of a call, the call comes to, in any world. -/
theorem acall_ok {ne : NE} (hS : Sane P ne) {n : Nat} {f : Nat} {fn : Func} {c : Code} (hf : P.funcs[f]? = some fn) (hb : fn.body = some c) {args args' : Array Value} {H H' : AH} {v : Value}
    (h : acall P ne n m f args H = some (v, H')) {φ : Inj} {w : World} (hg : Glob P φ) (ha : AR φ args args') (hi : Inv φ H w) : CallOK P m φ H w v H' f args' :=
  acallFn_body hS (exec_good hS n).1 hf hb h hg ha hi

end Go.Abs


namespace Go.Abs

variable {P : Program} {m : Nat}

def φg (P : Program) : Inj := fun g => if g < P.globals.size then some ⟨g, 0, 0, 0⟩ else none

theorem glob_φg : Glob P (φg P) := fun g hg => ⟨⟨g, 0, 0, 0⟩, by simp [φg, hg], rfl, rfl⟩

theorem inv_start {W : World} (h : P.globals.size ≤ W.heap.size) : Inv (φg P) ⟨P.globals.size, .nil⟩ W := by
  refine ⟨fun id l hl => ?_, fun id b hb => (by cases hb), fun id id' b b' l l' hb => (by cases hb)⟩
  unfold φg at hl
  split at hl
  · rename_i hlt
    cases hl
    exact ⟨hlt, Nat.lt_of_lt_of_le hlt h⟩
  · cases hl

/-- Every package-level variable has its block at the start. -/
def globalsB (P : Program) : Bool := (List.range P.globals.size).all fun g => (((begin P (fun _ _ => 0) default).world.heap[g]?).bind Obj.row?).isSome

theorem globals_there (hB : globalsB P = true) {W : World} (h : W.ShapedOpen P) : P.globals.size ≤ W.heap.size := by
  unfold globalsB at hB
  rw [List.all_eq_true] at hB
  apply Classical.byContradiction
  intro hlt
  have hlt : W.heap.size < P.globals.size := by omega
  have := hB W.heap.size (List.mem_range.2 hlt)
  obtain ⟨⟨z, t⟩, hz⟩ := Option.isSome_iff_exists.1 this
  obtain ⟨cs, h1, _⟩ := h.1 W.heap.size z t hlt hz
  rw [Array.getElem?_eq_none (Nat.le_refl _)] at h1
  cases h1

open Go.ChangeShapes in
theorem trodAll_below {H : Type} {enc : TypeId × Value → H} (hl : laidOutB P = true) {W W' : World} (hb : RowKit.Below W.heap.size W W') : ∀ (ts : List TypeId) (vs : List Value) (ds : List (DataW H)) (ps : List MemPlace),
    (∀ t ∈ ts, P.readableRec t = true ∧ t < P.types.size) → DataW.TrodAll enc P W 0 (fun _ => true) true ts vs ds ps → (∀ x ∈ ps, x.block < W.heap.size) → DataW.TrodAll enc P W' 0 (fun b => decide (b < W.heap.size)) true ts vs ds ps := by
  intro ts
  induction ts with
  | nil =>
    intro vs ds ps _ h _
    obtain ⟨rfl, rfl, rfl⟩ := trodAll_nil h
    exact trodAll_mk0
  | cons t ts ih =>
    intro vs ds ps ht h hlt
    obtain ⟨v, vs', d, ds', p, q, rfl, rfl, rfl, h1, h2⟩ := trodAll_cons h
    obtain ⟨hr, hs⟩ := ht t (by simp)
    exact ⟨p, q, RowKit.Below.trod hl hr hs h1 hb (fun x hx => hlt x (by simp [hx])), ih vs' ds' q (fun t h => ht t (by simp [h])) h2 (fun x hx => hlt x (by simp [hx])), rfl⟩

open Go.ChangeShapes in
theorem law_post {H : Type} {enc : TypeId × Value → H} {fn : Func} {s : ChangeSpec} {apart fresh handsOn : Bool} (hl : laidOutB P = true) (hts : ∀ t ∈ fn.params.toList, P.readableRec t = true ∧ t < P.types.size) (hv : s.vars = [])
    {tb : TypeId} (hres : fn.resultTypes = #[tb]) (hbool : P.underlying tb = some .bool) {W W' : World} {args : Array Value} {ds gs : List (DataW H)} {before : List MemPlace}
    (hW : DataW.Whole enc P fn.params.toList s.vars apart W args.toList ds gs before) (hs : (s.fn H ds).results = [.lit (.bool true)] ∧ (s.fn H ds).args = ds ∧ (s.fn H ds).vars = []) (hb : RowKit.Below W.heap.size W W') :
    s.post enc P fn apart fresh handsOn false W args (.bool true) W' := by
  have hW' := hW
  obtain ⟨p, q, hA, hV, hps, hfz, hnd⟩ := hW
  rw [hv] at hV
  obtain ⟨rfl, rfl⟩ := trodVars_none hV
  have hlt : ∀ x ∈ before, x.block < W.heap.size := fun x hx => hW'.lt x hx
  rw [List.append_nil] at hps
  subst hps
  refine ⟨ds, [], before, [], before, [], hW', ?_, ?_, ?_, hb.frame _, fun h => by cases h⟩
  · rw [List.append_nil, hs.1, hres]
    exact trodAll_mk1 ⟨1, by simp [DataW.trod, hbool, Value.cells]⟩
  · rw [List.append_nil, hs.2.1]
    exact trodAll_below hl hb _ _ _ _ hts hA hlt
  · rw [List.append_nil, hs.2.2, hv]
    rfl

end Go.Abs


namespace Go.Abs

variable {P : Program} {m : Nat}

/-- Nothing is known from elsewhere. -/
def NE.plain (k : Nat) : NE := ⟨k, fun _ _ _ => none⟩

theorem sane_of {ne : NE} (ho : ∀ f args H, ne.orc f args H = none) (hm : P.follows .mixedOrders = true) (hn : (P.funcs.toList.all fun fn => !(fn.body.isSome && (fn.name == "runtime.NumGoroutine"))) = true) (he : (P.funcs[ne.esc]?).isSome = false) : Sane P ne := by
  refine ⟨hm, fun f fn hf hb => ?_, fun h => (by rw [he] at h; cases h), fun f args H v H' h => by rw [ho] at h; cases h⟩
  rw [List.all_eq_true] at hn
  have := hn fn (by
    have : P.funcs.toList[f]? = some fn := by rw [Array.getElem?_toList]; exact hf
    exact List.mem_of_getElem? this)
  rw [hb] at this
  simpa using this

/-- It hands back one bool. -/
def boolRes (P : Program) (fn : Func) : Bool :=
  match fn.resultTypes.toList with
  | [t] => (match P.underlying t with | some .bool => true | _ => false)
  | _ => false

theorem boolRes_of {P : Program} {fn : Func} (h : boolRes P fn = true) : ∃ t, fn.resultTypes = #[t] ∧ P.underlying t = some .bool := by
  unfold boolRes at h
  split at h
  · rename_i t ht
    refine ⟨t, ?_, ?_⟩
    · apply Array.ext'; exact ht
    · split at h
      · rename_i e; exact e
      · cases h
  · cases h

def readB (P : Program) (fn : Func) : Bool := fn.params.toList.all fun t => P.readableRec t && decide (t < P.types.size)

theorem readB_of {P : Program} {fn : Func} (h : readB P fn = true) : ∀ t ∈ fn.params.toList, P.readableRec t = true ∧ t < P.types.size := by
  intro t ht
  have := List.all_eq_true.1 h t ht
  simp only [Bool.and_eq_true, decide_eq_true_eq] at this
  exact this

end Go.Abs


namespace Go.Abs

def litV : Lit → Value
  | .bool b => .bool b
  | .int k n => .int k n
  | .float k b => .float k b
  | .string bs => .string ⟨bs.toArray⟩
  | .nil => .pointer none

end Go.Abs


namespace Go.Abs

variable {P : Program} {m : Nat}

abbrev Tab := Nat × TypeId × Array Value

def tabBlk (x : Tab) : Blk := ⟨.cells x.2.2 x.2.1 (0, 0), false, 1, true⟩

def startH (P : Program) (tabs : List Tab) : AH := tabs.foldl (fun H x => H.put x.1 (tabBlk x)) ⟨P.globals.size, .nil⟩

def tabsB (P : Program) (tabs : List Tab) : Bool := tabs.all fun x => Nat.blt x.1 P.globals.size && x.2.2.all (flat depth)

theorem startH_fold : ∀ (tabs : List Tab) (H : AH), (tabs.foldl (fun H x => H.put x.1 (tabBlk x)) H).next = H.next ∧
    ∀ id b, (tabs.foldl (fun H x => H.put x.1 (tabBlk x)) H).get id = some b → H.get id = some b ∨ ∃ x ∈ tabs, x.1 = id ∧ b = tabBlk x := by
  intro tabs
  induction tabs with
  | nil => intro H; exact ⟨rfl, fun id b h => .inl h⟩
  | cons x tabs ih =>
    intro H
    obtain ⟨h1, h2⟩ := ih (H.put x.1 (tabBlk x))
    refine ⟨h1, fun id b hb => ?_⟩
    rcases h2 id b hb with h | ⟨y, hy, h⟩
    · by_cases e : id = x.1
      · subst e
        rw [AH.get_put_same] at h
        cases h
        exact .inr ⟨x, by simp, rfl, rfl⟩
      · rw [AH.get_put_other _ _ e] at h
        exact .inl h
    · exact .inr ⟨y, by simp [hy], h⟩

theorem startH_get {tabs : List Tab} {id : Nat} {b : Blk} (h : (startH P tabs).get id = some b) : ∃ x ∈ tabs, x.1 = id ∧ b = tabBlk x := by
  rcases (startH_fold tabs ⟨P.globals.size, .nil⟩).2 id b h with h | h
  · cases h
  · exact h

theorem startH_next (tabs : List Tab) : (startH P tabs).next = P.globals.size := (startH_fold tabs ⟨P.globals.size, .nil⟩).1

theorem inv_tabs {tabs : List Tab} {W : World} (h : P.globals.size ≤ W.heap.size) (hB : tabsB P tabs = true) (ht : ∀ x ∈ tabs, ∃ fr, W.heap[x.1]? = some (.cells x.2.2 x.2.1 fr)) : Inv (φg P) (startH P tabs) W := by
  unfold tabsB at hB
  rw [List.all_eq_true] at hB
  refine ⟨fun id l hl => ?_, fun id b hb => ?_, fun id id' b b' l l' hb _ _ hr => ?_⟩
  · rw [startH_next]; exact (inv_start h).dom id l hl
  · obtain ⟨x, hx, rfl, rfl⟩ := startH_get hb
    have := hB x hx
    simp only [Bool.and_eq_true] at this
    obtain ⟨h1, h2⟩ := this
    have h1 := blt_lt h1
    obtain ⟨fr, hfr⟩ := ht x hx
    refine ⟨⟨x.1, 0, 0, 0⟩, by simp [φg, h1], x.2.2, x.2.1, fr, hfr, ⟨fun i v hv => ⟨v, by simpa using hv, ?_⟩, Nat.zero_le _, fun h => (by cases h), fun _ => ⟨rfl, rfl⟩, fun h => (by cases h), rfl⟩⟩
    rw [Array.all_eq_true_iff_forall_mem] at h2
    exact flat_refl depth (h2 v (Array.mem_of_getElem? hv))
  · obtain ⟨x, hx, rfl, rfl⟩ := startH_get hb
    cases hr

theorem tab_there {W : World} {name : String} {g : Nat} {e : TypeId} {k : IntKind} {zs : List Int} (hg : P.globalNamed name = some g) (hlt : g < P.globals.size)
    (hrow : (((begin P (fun _ _ => 0) default).world.heap[g]?).bind Obj.row?).map (·.2) = some e) (hsh : W.ShapedOpen P) (ht : Lib.TabIs P W name k zs) :
    W.heap[g]? = some (.cells (zs.map fun z => Value.int k z).toArray e (0, 0)) := by
  cases hr : ((begin P (fun _ _ => 0) default).world.heap[g]?).bind Obj.row? with
  | none => rw [hr] at hrow; cases hrow
  | some zt =>
    obtain ⟨z, t⟩ := zt
    rw [hr] at hrow
    simp only [Option.map_some, Option.some.injEq] at hrow
    subst hrow
    obtain ⟨cs, h1, _, _⟩ := hsh.1 g z t hlt hr
    unfold Lib.TabIs World.var? at ht
    rw [hg] at ht
    simp only [Option.bind_some, h1] at ht
    simp only [Option.some.injEq] at ht
    rw [h1, ht]

end Go.Abs


namespace Go.Abs

def layAll {α β : Type} (f : α → Array Obj → List Value × Array Obj) (g : β → α) : List β → Array Obj → List Value × Array Obj
  | [], h => ([], h)
  | d :: ds, h => let r := f (g d) h; let s := layAll f g ds r.2; (r.1 ++ s.1, s.2)

def layD (P : Program) : Nat → TypeId × DataW Unit → Array Obj → List Value × Array Obj
  | 0, _, h => ([], h)
  | _ + 1, (_, .lit l), h => ([litV l], h)
  | _ + 1, (t, .nil), h => ([match P.underlying t with
      | some (.slice _) => .slice none 0 0
      | some (.map ..) => .map none
      | some (.interface _) => .nilIface
      | some (.func ..) => .nilFunc
      | _ => .pointer none], h)
  | n + 1, (t, .agg ps), h =>
    let ts := match P.underlying t with
      | some (.struct fs) => fs.toList.map fun (f : Field) => f.type
      | some (.array k e) => List.replicate k e
      | _ => []
    layAll (layD P n) id (ts.zip ps) h
  | n + 1, (t, .ptr d), h => match P.underlying t with
    | some (.pointer e) => let r := layD P n (e, d) h; ([.pointer (some ⟨r.2.size, 0, none⟩)], r.2.push (.cells r.1.toArray e (0, 0)))
    | _ => ([], h)
  | n + 1, (t, .slice es sp), h => match P.underlying t with
    | some (.slice e) =>
      let r := layAll (layD P n) (fun d => (e, d)) (es ++ sp) h
      ([.slice (some ⟨r.2.size, 0, none⟩) es.length (es.length + sp.length)], r.2.push (.cells r.1.toArray e (0, 0)))
    | _ => ([], h)
  | _ + 1, _, h => ([], h)

noncomputable def laidW2 (P : Program) (laid : List (String × DataW Unit)) (os : Os) : World :=
  let w0 := World.holding P os ⟨#[], #[], []⟩
  { w0 with heap := laid.foldl (fun h x => match P.globalNamed x.1 with
      | some g => match h[g]? with
        | some (.cells _ t frozen) => let r := layD P 8 (t, x.2) h; r.2.setIfInBounds g (.cells r.1.toArray t frozen)
        | _ => h
      | none => h) w0.heap }

end Go.Abs


namespace Go.Abs

variable {P : Program} {m : Nat} {ρ ρ' : Operand → Value}

theorem map_congr {xs : Array Operand} (h : ∀ x ∈ xs, ρ x = ρ' x) : xs.map ρ = xs.map ρ' := Array.map_congr_left h

theorem omap_congr {x : Option Operand} (h : ∀ y, x = some y → ρ y = ρ' y) : x.map ρ = x.map ρ' := by
  cases x with
  | none => rfl
  | some y => simp [h y rfl]

theorem resolve_congr {c : Call} {t : TypeId} (h : ∀ x ∈ c.operands, ρ x = ρ' x) : resolve ρ c t = resolve ρ' c t := by
  obtain ⟨callee, args, ts⟩ := c
  have ha : args.map ρ = args.map ρ' := map_congr fun x hx => h x (by simp [Call.operands, hx])
  cases callee with
  | value f => simp only [resolve, ha, h f (by simp [Call.operands])]
  | invoke r n => simp only [resolve, ha, h r (by simp [Call.operands])]
  | builtin b => simp only [resolve, ha]

theorem execOp_congr {o : Oper} (hsel : ∀ cs b, o.op ≠ .select cs b) (h : ∀ x ∈ o.op.operands, ρ x = ρ' x) : execOp ρ o = execOp ρ' o := by
  obtain ⟨dst, op, ty, pos, after, guard⟩ := o
  simp only at h
  cases op with
  | build t ps =>
    have : (ps.map fun (i, x) => (i, ρ x)) = ps.map fun (i, x) => (i, ρ' x) := Array.map_congr_left fun p hp => by
      have := h p.2 (by simp only [Op.operands, List.mem_toArray, List.mem_map, Array.mem_toList_iff]; exact ⟨p, hp, rfl⟩)
      simp [this]
    simp only [execOp, this]
  | buildSlice t n ps =>
    have : (ps.map fun (i, x) => (i, ρ x)) = ps.map fun (i, x) => (i, ρ' x) := Array.map_congr_left fun p hp => by
      have := h p.2 (by simp only [Op.operands, List.mem_toArray, List.mem_map, Array.mem_toList_iff]; exact ⟨p, hp, rfl⟩)
      simp [this]
    simp only [execOp, this]
  | makeFunc fn a b =>
    simp only [execOp, map_congr (xs := a) fun x hx => h x (by simp [Op.operands, hx]), map_congr (xs := b) fun x hx => h x (by simp [Op.operands, hx])]
  | makeMap t r =>
    simp only [execOp, omap_congr (x := r) fun x hx => h x (by subst hx; simp [Op.operands])]
  | slice t x l hi mx =>
    simp only [execOp, omap_congr (x := l) fun x hx => h x (by subst hx; simp [Op.operands]), omap_congr (x := hi) fun x hx => h x (by subst hx; simp [Op.operands]), omap_congr (x := mx) fun x hx => h x (by subst hx; simp [Op.operands]), h x (by simp [Op.operands])]
  | call c => simp only [execOp, resolve_congr (c := c) h]
  | go c => simp only [execOp, resolve_congr (c := c) h]
  | defer c => simp only [execOp, resolve_congr (c := c) h]
  | select cs b => exact absurd rfl (hsel cs b)
  | pick c a b => simp only [execOp, h c (by simp [Op.operands]), h a (by simp [Op.operands]), h b (by simp [Op.operands])]
  | store t a b => simp only [execOp, h a (by simp [Op.operands]), h b (by simp [Op.operands])]
  | binOp _ t a b _ => simp only [execOp, h a (by simp [Op.operands]), h b (by simp [Op.operands])]
  | makeSlice t a b => simp only [execOp, h a (by simp [Op.operands]), h b (by simp [Op.operands])]
  | indexAddr t a b => simp only [execOp, h a (by simp [Op.operands]), h b (by simp [Op.operands])]
  | index t a b => simp only [execOp, h a (by simp [Op.operands]), h b (by simp [Op.operands])]
  | lookup t a b _ => simp only [execOp, h a (by simp [Op.operands]), h b (by simp [Op.operands])]
  | mapEntry t a b => simp only [execOp, h a (by simp [Op.operands]), h b (by simp [Op.operands])]
  | send a b => simp only [execOp, h a (by simp [Op.operands]), h b (by simp [Op.operands])]
  | mapUpdate t a b c => simp only [execOp, h c (by simp [Op.operands]), h a (by simp [Op.operands]), h b (by simp [Op.operands])]
  | entryStore t a b c => simp only [execOp, h c (by simp [Op.operands]), h a (by simp [Op.operands]), h b (by simp [Op.operands])]
  | insert t a b c => simp only [execOp, h c (by simp [Op.operands]), h a (by simp [Op.operands]), h b (by simp [Op.operands])]
  | alloc t => rfl
  | ready g => rfl
  | waits g => rfl
  | recv t x k => simp only [execOp, h x (by simp [Op.operands])]
  | move x => simp only [execOp, h x (by simp [Op.operands])]
  | assign x => simp only [execOp, h x (by simp [Op.operands])]
  | box t x => simp only [execOp, h x (by simp [Op.operands])]
  | load t x => simp only [execOp, h x (by simp [Op.operands])]
  | nilCheck x => simp only [execOp, h x (by simp [Op.operands])]
  | unOp _ t x => simp only [execOp, h x (by simp [Op.operands])]
  | convert s d x => simp only [execOp, h x (by simp [Op.operands])]
  | sliceToArrayPointer t x => simp only [execOp, h x (by simp [Op.operands])]
  | makeInterface t x => simp only [execOp, h x (by simp [Op.operands])]
  | makeChan t x => simp only [execOp, h x (by simp [Op.operands])]
  | fieldAddr t x f => simp only [execOp, h x (by simp [Op.operands])]
  | field t x f => simp only [execOp, h x (by simp [Op.operands])]
  | range t x => simp only [execOp, h x (by simp [Op.operands])]
  | next x b => simp only [execOp, h x (by simp [Op.operands])]
  | entry x => simp only [execOp, h x (by simp [Op.operands])]
  | typeAssert x t u b => simp only [execOp, h x (by simp [Op.operands])]
  | extract x i => simp only [execOp, h x (by simp [Op.operands])]
  | panic x => simp only [execOp, h x (by simp [Op.operands])]

theorem all_congr {xs : Array Operand} (f : Value → Bool) (h : ∀ x ∈ xs, ρ x = ρ' x) : xs.all (fun x => f (ρ x)) = xs.all fun x => f (ρ' x) := by
  rw [Bool.eq_iff_iff, Array.all_eq_true_iff_forall_mem, Array.all_eq_true_iff_forall_mem]
  exact ⟨fun hh x hx => by rw [← h x hx]; exact hh x hx, fun hh x hx => by rw [h x hx]; exact hh x hx⟩

theorem flatRun_congr {o : Oper} {H : AH} (h : ∀ x ∈ o.op.operands, ρ x = ρ' x) : flatRun P o ρ H = flatRun P o ρ' H := by
  unfold flatRun
  split
  · rfl
  · rename_i hs
    rw [execOp_congr hs h, all_congr (flat depth) h]

theorem aOp_congr {o : Oper} {H : AH} (h : ∀ x ∈ o.op.operands, ρ x = ρ' x) : aOp P m o ρ H = aOp P m o ρ' H := by
  have h1 := flatRun_congr (P := P) (H := H) h
  have h2 := fun hs => execOp_congr (o := o) hs h
  obtain ⟨dst, op, ty, pos, after, guard⟩ := o
  simp only at h h1 h2
  unfold aOp
  cases op with
  | slice t x l hi mx =>
    simp only [h1, omap_congr (x := l) fun x hx => h x (by subst hx; simp [Op.operands]), omap_congr (x := hi) fun x hx => h x (by subst hx; simp [Op.operands]), omap_congr (x := mx) fun x hx => h x (by subst hx; simp [Op.operands]), h x (by simp [Op.operands])]
  | pick c a b => simp only [h c (by simp [Op.operands]), h a (by simp [Op.operands]), h b (by simp [Op.operands])]
  | binOp _ t a b _ => simp only [h1, h a (by simp [Op.operands]), h b (by simp [Op.operands])]
  | lookup t a b _ => simp only [h a (by simp [Op.operands]), h b (by simp [Op.operands])]
  | mapEntry t a b => simp only [h a (by simp [Op.operands]), h b (by simp [Op.operands])]
  | mapUpdate t a b c => simp only [h c (by simp [Op.operands]), h a (by simp [Op.operands]), h b (by simp [Op.operands])]
  | insert t a b c => simp only [h c (by simp [Op.operands]), h a (by simp [Op.operands]), h b (by simp [Op.operands])]
  | move x => simp only [h x (by simp [Op.operands])]
  | assign x => simp only [h x (by simp [Op.operands])]
  | convert s d x => simp only [h1, h x (by simp [Op.operands])]
  | typeAssert x t u b => simp only [h1, h x (by simp [Op.operands])]
  | nilCheck x => simp only [h x (by simp [Op.operands])]
  | _ => first | exact h1 | (simp only [h2 (fun _ _ hh => by cases hh)]; done)

theorem runOp_congr {ne : NE} {ih : Ex} {o : Oper} {H : AH} (h : ∀ x ∈ o.op.operands, ρ x = ρ' x) : runOp P ne ih m o ρ H = runOp P ne ih m o ρ' H := by
  have h1 := flatRun_congr (P := P) (H := H) h
  have h2 := fun hs => execOp_congr (o := o) hs h
  have h3 := aOp_congr (P := P) (m := m) (H := H) h
  obtain ⟨dst, op, ty, pos, after, guard⟩ := o
  simp only at h h1 h2 h3
  unfold runOp
  cases op with
  | call c =>
    obtain ⟨callee, args, ts⟩ := c
    have ha : args.map ρ = args.map ρ' := map_congr fun x hx => h x (by simp [Op.operands, Call.operands, hx])
    cases callee with
    | value g => simp only [ha, h g (by simp [Op.operands, Call.operands])]
    | invoke r n => rfl
    | builtin b => simp only [ha, h1, h2 (fun _ _ hh => by cases hh)]
  | _ => exact h3

end Go.Abs


namespace Go.Abs

variable {P : Program} {ne : NE} {m : Nat} {n : Fr}

abbrev Kn := List (Nat × Value)

def lk : Kn → Nat → Option Value
  | [], _ => none
  | (k, v) :: l, t => bif Nat.beq k t then some v else lk l t

/-- What is known of the slots. -/
def Mat (kn : Kn) (ss : Sl) : Prop := ∀ t v, lk kn t = some v → ss.get t = some v

def evK (kn : Kn) : Operand → Value
  | .tmp t => (lk kn t).getD undef
  | .const v => v
  | .global g => .pointer (some ⟨g, 0, none⟩)
  | .func f => .func (.func f) #[] #[]

def knownX (kn : Kn) : Operand → Bool
  | .tmp t => (lk kn t).isSome
  | _ => true

theorem Mat.eval {kn : Kn} {ss : Sl} (h : Mat kn ss) {x : Operand} (hx : knownX kn x = true) : evalA ss x = evK kn x := by
  cases x with
  | tmp t =>
    obtain ⟨v, hv⟩ := Option.isSome_iff_exists.1 hx
    simp only [evalA, evK, hv, h t v hv]
  | _ => rfl

theorem Mat.put {kn : Kn} {ss : Sl} (h : Mat kn ss) (d : Nat) (v : Value) : Mat ((d, v) :: kn) (ss.set (d + 1) d v) := by
  intro t u hu
  simp only [lk] at hu
  cases hb : Nat.beq d t with
  | true =>
    rw [hb] at hu
    have := Nat.eq_of_beq_eq_true hb
    subst this
    rw [Tr.get_set_same _ _ _ _ (by omega)]
    exact hu
  | false =>
    rw [hb] at hu
    have hne := Nat.ne_of_beq_eq_false hb
    rw [Tr.get_set_other _ _ _ _ _ (by omega) (fun e => hne e.symm)]
    exact h t u hu

/-- All of the first stands in the second. -/
def SubK : Kn → Kn → Prop
  | [], _ => True
  | (t, v) :: l, kn => lk kn t = some v ∧ SubK l kn

theorem Mat.sub {kn : Kn} {ss : Sl} (h : Mat kn ss) : ∀ {kn' : Kn}, SubK kn' kn → Mat kn' ss := by
  intro kn'
  induction kn' with
  | nil => intro _ t v hv; cases hv
  | cons p l ih =>
    obtain ⟨k, u⟩ := p
    intro hs t v hv
    simp only [lk] at hv
    cases hb : Nat.beq k t with
    | true =>
      rw [hb] at hv
      have := Nat.eq_of_beq_eq_true hb
      subst this
      cases hv
      exact h _ _ hs.1
    | false =>
      rw [hb] at hv
      exact ih hs.2 t v hv

def Ev (P : Program) (ne : NE) (m : Nat) (c : Code) (st : ASt) (e : AExit) (st' : ASt) : Prop := ∃ N, ∀ k, N ≤ k → exec P ne k m c st = some (e, st')

abbrev Post := AExit → Sl → AH → Prop

def WC (P : Program) (ne : NE) (m : Nat) (n : Fr) (c : Code) (ss : Sl) (H : AH) (Q : Post) : Prop := ∃ e ss' H', Ev P ne m c ⟨ss, n, H⟩ e ⟨ss', n, H'⟩ ∧ Q e ss' H'

def WX (P : Program) (ne : NE) (m : Nat) (n : Fr) (c : Code) (kn : Kn) (H : AH) (Q : Post) : Prop := ∀ ss, Mat kn ss → WC P ne m n c ss H Q

abbrev seqQ (P : Program) (ne : NE) (m : Nat) (n : Fr) (b : Code) (Q : Post) : Post := fun e ss H => match e with
  | .normal => WC P ne m n b ss H Q
  | e => Q e ss H

abbrev blkQ (id : Nat) (Q : Post) : Post := fun e ss H => match e with
  | .exit j => bif Nat.beq j id then Q .normal ss H else Q (.exit j) ss H
  | e => Q e ss H

theorem exec_succ (k : Nat) : exec P ne (k + 1) = execStep P ne (exec P ne k) := rfl

theorem WC.mono {c : Code} {ss : Sl} {H : AH} {Q Q' : Post} (h : WC P ne m n c ss H Q) (hq : ∀ e ss H, Q e ss H → Q' e ss H) : WC P ne m n c ss H Q' :=
  let ⟨e, s, H1, h1, h2⟩ := h; ⟨e, s, H1, h1, hq _ _ _ h2⟩

theorem WX.mono {c : Code} {kn : Kn} {H : AH} {Q Q' : Post} (h : WX P ne m n c kn H Q) (hq : ∀ e ss H, Q e ss H → Q' e ss H) : WX P ne m n c kn H Q' :=
  fun ss hs => (h ss hs).mono hq

theorem WX.weak {c : Code} {kn : Kn} (kn' : Kn) {H : AH} {Q : Post} (hsub : SubK kn' kn) (h : WX P ne m n c kn' H Q) : WX P ne m n c kn H Q := fun ss hs => h ss (hs.sub hsub)

def cfst : Code → Code
  | .seq a _ => a
  | .cond _ x _ => x
  | .block _ b => b
  | .loop b => b
  | .scope b => b
  | c => c
def csnd : Code → Code
  | .seq _ b => b
  | .cond _ _ y => y
  | c => c

def isSeq : Code → Bool | .seq .. => true | _ => false
def isSkip : Code → Bool | .skip => true | .label _ => true | _ => false
def isRet : Code → Bool | .ret => true | _ => false
def isExit (i : Nat) : Code → Bool | .exit j => Nat.beq j i | _ => false
def isBlock (i : Nat) : Code → Bool | .block j _ => Nat.beq j i | _ => false
def isLoop : Code → Bool | .loop _ => true | _ => false
def condOf : Code → Option Operand | .cond c _ _ => some c | _ => none
def regOf : Code → Option (Array Oper × Bool) | .region _ ops d => some (ops, d) | _ => none
def opsOf (c : Code) : Array Oper := match c with | .region _ ops _ => ops | _ => #[]

theorem WX.seq {c : Code} {kn : Kn} {H : AH} {Q : Post} (hc : isSeq c = true) (h : WX P ne m n (cfst c) kn H (seqQ P ne m n (csnd c) Q)) : WX P ne m n c kn H Q := by
  cases c with
  | seq a b =>
    intro ss hs
    obtain ⟨e, s1, H1, ⟨N, h1⟩, hq⟩ := h ss hs
    simp only [cfst] at h1
    cases e with
    | normal =>
      obtain ⟨e2, s2, H2, ⟨N2, h2⟩, hq2⟩ := (show WC P ne m n b s1 H1 Q from hq)
      refine ⟨e2, s2, H2, ⟨max N N2 + 1, fun k hk => ?_⟩, hq2⟩
      obtain ⟨k, rfl⟩ : ∃ j, k = j + 1 := ⟨k - 1, by omega⟩
      rw [exec_succ]
      simp only [execStep]
      rw [h1 k (by omega)]
      exact h2 k (by omega)
    | _ =>
      refine ⟨_, s1, H1, ⟨N + 1, fun k hk => ?_⟩, hq⟩
      obtain ⟨k, rfl⟩ : ∃ j, k = j + 1 := ⟨k - 1, by omega⟩
      rw [exec_succ]
      simp only [execStep]
      rw [h1 k (by omega)]
  | _ => cases hc

/-- On with what stands behind. -/
theorem WX.nxt {b : Code} {kn : Kn} {H : AH} {Q : Post} (h : WX P ne m n b kn H Q) : ∀ ss, Mat kn ss → seqQ P ne m n b Q .normal ss H := h

theorem WX.skip {c : Code} {kn : Kn} {H : AH} {Q : Post} (hc : isSkip c = true) (h : ∀ ss, Mat kn ss → Q .normal ss H) : WX P ne m n c kn H Q := by
  intro ss hs
  refine ⟨.normal, ss, H, ⟨1, fun k hk => ?_⟩, h ss hs⟩
  obtain ⟨k, rfl⟩ : ∃ j, k = j + 1 := ⟨k - 1, by omega⟩
  cases c <;> first | rfl | cases hc

theorem WX.ret {c : Code} {kn : Kn} {H : AH} {Q : Post} (hc : isRet c = true) (h : ∀ ss, Mat kn ss → Q .ret ss H) : WX P ne m n c kn H Q := by
  intro ss hs
  refine ⟨.ret, ss, H, ⟨1, fun k hk => ?_⟩, h ss hs⟩
  obtain ⟨k, rfl⟩ : ∃ j, k = j + 1 := ⟨k - 1, by omega⟩
  cases c <;> first | rfl | cases hc

theorem WX.exit {c : Code} {kn : Kn} {H : AH} {Q : Post} (i : Nat) (hc : isExit i c = true) (h : ∀ ss, Mat kn ss → Q (.exit i) ss H) : WX P ne m n c kn H Q := by
  intro ss hs
  refine ⟨.exit i, ss, H, ⟨1, fun k hk => ?_⟩, h ss hs⟩
  obtain ⟨k, rfl⟩ : ∃ j, k = j + 1 := ⟨k - 1, by omega⟩
  cases c with
  | exit j => have := Nat.eq_of_beq_eq_true hc; subst this; rfl
  | _ => cases hc

theorem WX.block {c : Code} {kn : Kn} {H : AH} {Q : Post} (i : Nat) (hc : isBlock i c = true) (h : WX P ne m n (cfst c) kn H (blkQ i Q)) : WX P ne m n c kn H Q := by
  cases c with
  | block j body =>
    have := Nat.eq_of_beq_eq_true hc
    subst this
    intro ss hs
    obtain ⟨e, s1, H1, ⟨N, h1⟩, hq⟩ := h ss hs
    simp only [cfst] at h1
    cases e with
    | exit j' =>
      cases hj : Nat.beq j' j with
      | true =>
        simp only [blkQ, hj, cond_true] at hq
        refine ⟨_, s1, H1, ⟨N + 1, fun k hk => ?_⟩, hq⟩
        obtain ⟨k, rfl⟩ : ∃ j, k = j + 1 := ⟨k - 1, by omega⟩
        rw [exec_succ]
        simp only [execStep]
        rw [h1 k (by omega)]
        simp only [hj, cond_true]
      | false =>
        simp only [blkQ, hj, cond_false] at hq
        refine ⟨_, s1, H1, ⟨N + 1, fun k hk => ?_⟩, hq⟩
        obtain ⟨k, rfl⟩ : ∃ j, k = j + 1 := ⟨k - 1, by omega⟩
        rw [exec_succ]
        simp only [execStep]
        rw [h1 k (by omega)]
        simp only [hj, cond_false]
    | _ =>
      refine ⟨_, s1, H1, ⟨N + 1, fun k hk => ?_⟩, hq⟩
      obtain ⟨k, rfl⟩ : ∃ j, k = j + 1 := ⟨k - 1, by omega⟩
      rw [exec_succ]
      simp only [execStep]
      rw [h1 k (by omega)]
  | _ => cases hc

theorem WX.cond {c : Code} {kn : Kn} {H : AH} {Q : Post} (t : Bool) (hc : (condOf c).map (fun x => (knownX kn x, evK kn x)) = some (true, .bool t)) (h : WX P ne m n (bif t then cfst c else csnd c) kn H Q) : WX P ne m n c kn H Q := by
  cases c with
  | cond x a b =>
    intro ss hs
    simp only [condOf, Option.map_some, Option.some.injEq, Prod.mk.injEq] at hc
    have hev : evalA ss x = .bool t := (hs.eval hc.1).trans hc.2
    simp only [cfst, csnd] at h
    obtain ⟨e, s1, H1, ⟨N, h1⟩, hq⟩ := h ss hs
    refine ⟨e, s1, H1, ⟨N + 1, fun k hk => ?_⟩, hq⟩
    obtain ⟨k, rfl⟩ : ∃ j, k = j + 1 := ⟨k - 1, by omega⟩
    rw [exec_succ]
    simp only [execStep, hev]
    exact h1 k (by omega)
  | _ => cases hc

theorem WX.condT {c : Code} {kn : Kn} {H : AH} {Q : Post} (b : Bool) (hb : b = true) (hc : (condOf c).map (fun x => (knownX kn x, evK kn x)) = some (true, .bool b)) (h : WX P ne m n (cfst c) kn H Q) : WX P ne m n c kn H Q := by
  subst hb; exact WX.cond true hc h
theorem WX.condF {c : Code} {kn : Kn} {H : AH} {Q : Post} (b : Bool) (hb : b = false) (hc : (condOf c).map (fun x => (knownX kn x, evK kn x)) = some (true, .bool b)) (h : WX P ne m n (csnd c) kn H Q) : WX P ne m n c kn H Q := by
  subst hb; exact WX.cond false hc h

def RX (P : Program) (ne : NE) (m : Nat) (n : Fr) (ops : Array Oper) (k : Nat) (kn : Kn) (H : AH) (K : Sl → AH → Prop) : Prop :=
  ∀ ss, Mat kn ss → ∃ ss' H', (∃ N, ∀ j, N ≤ j → runOps P ne (exec P ne j) m ops (ops.toList.drop k) ⟨ss, n, H⟩ = some ⟨ss', n, H'⟩) ∧ K ss' H'

theorem WX.region {c : Code} {kn : Kn} {H : AH} {Q : Post} (ops : Array Oper) (hc : regOf c = some (ops, false)) (h : RX P ne m n ops 0 kn H fun ss H => Q .normal ss H) : WX P ne m n c kn H Q := by
  cases c with
  | region id ops' d =>
    simp only [regOf, Option.some.injEq, Prod.mk.injEq] at hc
    obtain ⟨rfl, rfl⟩ := hc
    intro ss hs
    obtain ⟨s1, H1, ⟨N, h1⟩, hq⟩ := h ss hs
    refine ⟨.normal, s1, H1, ⟨N + 1, fun k hk => ?_⟩, hq⟩
    obtain ⟨k, rfl⟩ : ∃ j, k = j + 1 := ⟨k - 1, by omega⟩
    rw [exec_succ]
    simp only [execStep, cond_false]
    have := h1 k (by omega)
    rw [List.drop_zero] at this
    rw [this]
  | _ => cases hc

def opB (P : Program) (n : Fr) (kn : Kn) (o : Oper) (d : Option Nat) : Bool :=
  o.guard.isNone && o.op.operands.all (okx P) && o.op.operands.all (knownX kn) && (match o.dst, d with
    | some a, some b => Nat.beq a b && Nat.blt a n.n
    | none, none => true
    | _, _ => false)

theorem RX.done {ops : Array Oper} {k : Nat} {kn : Kn} {H : AH} {K : Sl → AH → Prop} (hk : Nat.ble ops.size k = true) (h : ∀ ss, Mat kn ss → K ss H) : RX P ne m n ops k kn H K := by
  intro ss hs
  have : ops.toList.drop k = [] := List.drop_eq_nil_of_le (by simpa using Nat.le_of_ble_eq_true hk)
  exact ⟨ss, H, ⟨0, fun j _ => by rw [this]; rfl⟩, h ss hs⟩

def putK (kn : Kn) (d : Option Nat) (v : Value) : Kn := match d with
  | some d => (d, v) :: kn
  | none => kn

theorem drop_cons {ops : Array Oper} {k : Nat} {o : Oper} (ho : ops[k]? = some o) : ops.toList.drop k = o :: ops.toList.drop (k + 1) := by
  rw [Array.getElem?_eq_some_iff] at ho
  obtain ⟨hlt, rfl⟩ := ho
  rw [List.drop_eq_getElem_cons (by simpa using hlt)]
  simp

theorem Mat.putD {kn : Kn} {ss ss' : Sl} {o : Oper} {d : Option Nat} {v : Value} (hs : Mat kn ss) (hd : (match o.dst, d with
    | some a, some b => Nat.beq a b && Nat.blt a n.n
    | none, none => true
    | _, _ => false) = true) : ∃ ss', putA n ss o.dst v = some ss' ∧ Mat (putK kn d v) ss' := by
  cases ho : o.dst with
  | none =>
    rw [ho] at hd
    cases d with
    | none => exact ⟨ss, rfl, hs⟩
    | some b => cases hd
  | some a =>
    rw [ho] at hd
    cases d with
    | none => cases hd
    | some b =>
      simp only [Bool.and_eq_true] at hd
      have := Nat.eq_of_beq_eq_true hd.1
      subst this
      exact ⟨_, by simp only [putA, hd.2, cond_true], hs.put a v⟩

/-- One operation. -/
theorem RX.op {ops : Array Oper} {k : Nat} {kn : Kn} {H H' : AH} {K : Sl → AH → Prop} (o : Oper) (d : Option Nat) (v : Value) (ho : ops[k]? = some o) (hB : opB P n kn o d = true)
    (hr : ∃ N, ∀ j, N ≤ j → runOp P ne (exec P ne j) m o (evK kn) H = some (v, H')) (h : RX P ne m n ops (k + 1) (putK kn d v) H' K) : RX P ne m n ops k kn H K := by
  intro ss hs
  unfold opB at hB
  simp only [Bool.and_eq_true] at hB
  obtain ⟨⟨⟨hg, hx⟩, hkn⟩, hd⟩ := hB
  rw [Array.all_eq_true_iff_forall_mem] at hkn
  obtain ⟨s1, hp, hm⟩ := Mat.putD (v := v) (ss' := ss) hs hd
  obtain ⟨s2, H2, ⟨N2, h2⟩, hK⟩ := h s1 hm
  obtain ⟨N, hr⟩ := hr
  refine ⟨s2, H2, ⟨max N N2, fun j hj => ?_⟩, hK⟩
  rw [drop_cons ho]
  simp only [runOps, stepOp]
  have hw : wantedA ops o ss = some true := by
    unfold wantedA
    cases hgg : o.guard with
    | none => rfl
    | some q => rw [hgg] at hg; cases hg
  rw [hw]
  have hc := runOp_congr (P := P) (ne := ne) (ih := exec P ne j) (m := m) (H := H) (o := o) (ρ := evalA ss) (ρ' := evK kn) fun x hx => hs.eval (hkn x hx)
  simp only [hx, cond_true, hc, hr j (by omega), hp]
  exact h2 j (by omega)

/-- An operation that enters nothing. -/
theorem RX.pure {ops : Array Oper} {k : Nat} {kn : Kn} {H H' : AH} {K : Sl → AH → Prop} (o : Oper) (d : Option Nat) (v : Value) (ho : ops[k]? = some o) (hB : opB P n kn o d = true)
    (hr : ∀ ih, runOp P ne ih m o (evK kn) H = some (v, H')) (h : RX P ne m n ops (k + 1) (putK kn d v) H' K) : RX P ne m n ops k kn H K :=
  RX.op o d v ho hB ⟨0, fun j _ => hr _⟩ h

end Go.Abs


namespace Go.Abs

variable {P : Program} {ne : NE} {m : Nat} {n : Fr}

def wantK (ops : Array Oper) (kn : Kn) (o : Oper) : Option Bool :=
  match o.guard with
  | none => some true
  | some (j, want) => match (ops[j]?).bind (·.dst) with
    | some d => match lk kn d with
      | some (.bool b) => some (b == want)
      | some (.tuple _) => some false
      | _ => none
    | none => none

theorem Mat.want {ops : Array Oper} {kn : Kn} {ss : Sl} {o : Oper} {b : Bool} (hs : Mat kn ss) (h : wantK ops kn o = some b) : wantedA ops o ss = some b := by
  unfold wantK at h
  unfold wantedA
  cases hg : o.guard with
  | none => rw [hg] at h; exact h
  | some q =>
    obtain ⟨j, w⟩ := q
    rw [hg] at h
    simp only at h ⊢
    cases hd : (ops[j]?).bind (·.dst) with
    | none => rw [hd] at h; cases h
    | some d =>
      rw [hd] at h
      simp only at h ⊢
      cases hl : lk kn d with
      | none => rw [hl] at h; cases h
      | some u => rw [hl] at h; rw [hs d u hl]; exact h

def dstB (n : Fr) (o : Oper) (d : Option Nat) : Bool := match o.dst, d with
  | some a, some b => Nat.beq a b && Nat.blt a n.n
  | none, none => true
  | _, _ => false

def opG (P : Program) (n : Fr) (ops : Array Oper) (kn : Kn) (o : Oper) (d : Option Nat) : Bool :=
  (match wantK ops kn o with | some true => true | _ => false) && o.op.operands.all (okx P) && o.op.operands.all (knownX kn) && dstB n o d

theorem RX.opg {ops : Array Oper} {k : Nat} {kn : Kn} {H H' : AH} {K : Sl → AH → Prop} (o : Oper) (d : Option Nat) (v : Value) (ho : ops[k]? = some o) (hB : opG P n ops kn o d = true)
    (hr : ∃ N, ∀ j, N ≤ j → runOp P ne (exec P ne j) m o (evK kn) H = some (v, H')) (h : RX P ne m n ops (k + 1) (putK kn d v) H' K) : RX P ne m n ops k kn H K := by
  intro ss hs
  unfold opG at hB
  simp only [Bool.and_eq_true] at hB
  obtain ⟨⟨⟨hg, hx⟩, hkn⟩, hd⟩ := hB
  rw [Array.all_eq_true_iff_forall_mem] at hkn
  obtain ⟨s1, hp, hm⟩ := Mat.putD (v := v) (ss' := ss) hs hd
  obtain ⟨s2, H2, ⟨N2, h2⟩, hK⟩ := h s1 hm
  obtain ⟨N, hr⟩ := hr
  have hw : wantedA ops o ss = some true := by
    refine hs.want ?_
    split at hg
    · assumption
    · cases hg
  refine ⟨s2, H2, ⟨max N N2, fun j hj => ?_⟩, hK⟩
  rw [drop_cons ho]
  simp only [runOps, stepOp]
  rw [hw]
  have hc := runOp_congr (P := P) (ne := ne) (ih := exec P ne j) (m := m) (H := H) (o := o) (ρ := evalA ss) (ρ' := evK kn) fun x hx => hs.eval (hkn x hx)
  simp only [hx, cond_true, hc, hr j (by omega), hp]
  exact h2 j (by omega)

/-- An operation that enters no function. -/
theorem RX.p {ops : Array Oper} {k : Nat} {kn : Kn} {H H' : AH} {K : Sl → AH → Prop} (o : Oper) (d : Option Nat) (v : Value) (ho : ops[k]? = some o) (hB : opG P n ops kn o d = true)
    (hr : ∀ ih, runOp P ne ih m o (evK kn) H = some (v, H')) (h : RX P ne m n ops (k + 1) (putK kn d v) H' K) : RX P ne m n ops k kn H K :=
  RX.opg o d v ho hB ⟨0, fun j _ => hr _⟩ h

def opS (n : Fr) (ops : Array Oper) (kn : Kn) (o : Oper) (d : Option Nat) : Bool :=
  (match wantK ops kn o with | some false => true | _ => false) && dstB n o d

/-- An operation that is passed over. -/
theorem RX.skp {ops : Array Oper} {k : Nat} {kn : Kn} {H : AH} {K : Sl → AH → Prop} (o : Oper) (d : Option Nat) (ho : ops[k]? = some o) (hB : opS n ops kn o d = true)
    (h : RX P ne m n ops (k + 1) (putK kn d undef) H K) : RX P ne m n ops k kn H K := by
  intro ss hs
  unfold opS at hB
  simp only [Bool.and_eq_true] at hB
  obtain ⟨s1, hp, hm⟩ := Mat.putD (v := undef) (ss' := ss) hs hB.2
  obtain ⟨s2, H2, ⟨N2, h2⟩, hK⟩ := h s1 hm
  have hw : wantedA ops o ss = some false := by
    refine hs.want ?_
    have hg := hB.1
    split at hg
    · assumption
    · cases hg
  refine ⟨s2, H2, ⟨N2, fun j hj => ?_⟩, hK⟩
  rw [drop_cons ho]
  simp only [runOps, stepOp]
  rw [hw]
  simp only [hp]
  exact h2 j hj

theorem Mat.fix {kn : Kn} {ss : Sl} (hs : Mat kn ss) (t : Nat) {b c : Bool} (hb : b = c) (hl : lk kn t = some (.bool b)) : Mat ((t, .bool c) :: kn) ss := by
  subst hb
  intro t' v hv
  simp only [lk] at hv
  cases h : Nat.beq t t' with
  | true => rw [h] at hv; have := Nat.eq_of_beq_eq_true h; subst this; cases hv; exact hs _ _ hl
  | false => rw [h] at hv; exact hs _ _ hv

theorem RX.fix {ops : Array Oper} {k : Nat} {kn : Kn} {H : AH} {K : Sl → AH → Prop} (t : Nat) {b : Bool} (c : Bool) (hb : b = c) (hl : lk kn t = some (.bool b)) (h : RX P ne m n ops k ((t, .bool c) :: kn) H K) : RX P ne m n ops k kn H K :=
  fun ss hs => h ss (hs.fix t hb hl)

theorem WX.fix {c : Code} {kn : Kn} {H : AH} {Q : Post} (t : Nat) {b : Bool} (d : Bool) (hb : b = d) (hl : lk kn t = some (.bool b)) (h : WX P ne m n c ((t, .bool d) :: kn) H Q) : WX P ne m n c kn H Q :=
  fun ss hs => h ss (hs.fix t hb hl)

theorem RX.weak {ops : Array Oper} {k : Nat} {kn : Kn} (kn' : Kn) {H : AH} {K : Sl → AH → Prop} (hsub : SubK kn' kn) (h : RX P ne m n ops k kn' H K) : RX P ne m n ops k kn H K := fun ss hs => h ss (hs.sub hsub)

def CallE (P : Program) (ne : NE) (m : Nat) (f : Nat) (args : Array Value) (H : AH) (v : Value) (H' : AH) : Prop := ∃ N, ∀ k, N ≤ k → acallFn P ne (exec P ne k) m f args H = some (v, H')

def callK (kn : Kn) (o : Oper) : Option (Nat × Array Value) :=
  match o.op with
  | .call { callee := .value g, args, .. } => match evK kn g with
    | .func (.func f) first cap => some (f, first ++ args.map (evK kn) ++ cap)
    | _ => none
  | _ => none

theorem RX.call {ops : Array Oper} {k : Nat} {kn : Kn} {H H' : AH} {K : Sl → AH → Prop} (o : Oper) (d : Option Nat) {v : Value} (f : Nat) (args : Array Value) (ho : ops[k]? = some o) (hB : opG P n ops kn o d = true)
    (hc : callK kn o = some (f, args)) (hr : CallE P ne m f args H v H') (h : RX P ne m n ops (k + 1) (putK kn d v) H' K) : RX P ne m n ops k kn H K := by
  refine RX.opg o d v ho hB ?_ h
  obtain ⟨N, hr⟩ := hr
  refine ⟨N, fun j hj => ?_⟩
  unfold callK at hc
  split at hc
  · rename_i g args0 ts ho'
    split at hc
    · rename_i f0 first cap hg
      simp only [Option.some.injEq, Prod.mk.injEq] at hc
      obtain ⟨rfl, rfl⟩ := hc
      simp only [runOp, ho', hg]
      exact hr j hj
    · cases hc
  · cases hc

def resK (kn : Kn) : List ResultVar → Option (List Value)
  | [] => some []
  | .tmp t :: l => match lk kn t, resK kn l with
    | some v, some vs => some (v :: vs)
    | _, _ => none
  | .cell .. :: _ => none

def resV1 : List Value → Value
  | [v] => v
  | l => .tuple l.toArray

def RQ (fn : Func) (v : Value) (H' : AH) : Sl → AH → Prop := fun ss H => H = H' ∧ ∃ kn, Mat kn ss ∧ (resK kn fn.results.toList).map resV1 = some v

def retQ (fn : Func) (v : Value) (H' : AH) : Post := fun e ss H => (e = .normal ∨ e = .ret) ∧ RQ fn v H' ss H

theorem resK_ok {kn : Kn} {ss : Sl} (hs : Mat kn ss) {H : AH} : ∀ (l : List ResultVar) (vs : List Value), resK kn l = some vs → resultsA P ⟨ss, n, H⟩ l = some vs := by
  intro l
  induction l with
  | nil => intro vs h; exact h
  | cons x l ih =>
    intro vs h
    cases x with
    | tmp t =>
      simp only [resK] at h
      cases h1 : lk kn t with
      | none => rw [h1] at h; cases h
      | some v =>
        cases h2 : resK kn l with
        | none => rw [h1, h2] at h; cases h
        | some us =>
          rw [h1, h2] at h
          simp only [Option.some.injEq] at h
          subst h
          simp only [resultsA, ih us h2, evalA, hs t v h1, Option.getD_some]
    | cell a t => cases h

theorem RQ.result {fn : Func} {v : Value} {H H' : AH} {ss : Sl} (h : RQ fn v H' ss H) : resultA P fn ⟨ss, n, H⟩ = some (v, H') := by
  obtain ⟨rfl, kn, hs, hr⟩ := h
  cases h1 : resK kn fn.results.toList with
  | none => rw [h1] at hr; cases hr
  | some vs =>
    rw [h1] at hr
    simp only [Option.map_some, Option.some.injEq] at hr
    subst hr
    unfold resultA
    rw [resK_ok hs _ _ h1]
    match vs with
    | [] => rfl
    | [v] => rfl
    | v :: u :: l => rfl

def argK : Nat → List Value → Kn
  | _, [] => []
  | i, v :: l => (i, v) :: argK (i + 1) l

theorem lk_argK : ∀ (l : List Value) (i t : Nat) (v : Value), lk (argK i l) t = some v → i ≤ t ∧ l[t - i]? = some v := by
  intro l
  induction l with
  | nil => intro i t v h; cases h
  | cons a l ih =>
    intro i t v h
    simp only [argK, lk] at h
    cases hb : Nat.beq i t with
    | true =>
      rw [hb] at h
      have := Nat.eq_of_beq_eq_true hb
      subst this
      cases h
      exact ⟨Nat.le_refl _, by simp⟩
    | false =>
      rw [hb] at h
      have hne := Nat.ne_of_beq_eq_false hb
      obtain ⟨h1, h2⟩ := ih (i + 1) t v h
      refine ⟨by omega, ?_⟩
      rw [show t - i = (t - (i + 1)) + 1 by omega]
      simpa using h2

theorem mat_args (args : List Value) : Mat (argK 0 args) (ofArgs 0 args .nil) := by
  intro t v h
  obtain ⟨_, h2⟩ := lk_argK _ _ _ _ h
  rw [ofArgs_get _ _ _ _ (fun k _ => rfl), if_neg (by omega)]
  exact h2

theorem CallE.mk {f : Nat} {fn : Func} {B : Code} {args : List Value} {H H' : AH} {v : Value} (hf : P.funcs[f]? = some fn) (hb : fn.body = some B) (ho : ne.orc f args.toArray H = none) (h : WX P ne m ⟨fn.ntmps, []⟩ B (argK 0 args) H (retQ fn v H')) : CallE P ne m f args.toArray H v H' := by
  obtain ⟨e, ss, H1, ⟨N, h1⟩, he, hq⟩ := h _ (mat_args args)
  refine ⟨N, fun k hk => ?_⟩
  unfold acallFn
  rw [ho, hf]
  simp only [hb, h1 k hk]
  rcases he with rfl | rfl
  · exact hq.result
  · exact hq.result

inductive Lp (S R : Type) where
  | next (s : S)
  | brk (s : S)
  | ret (r : R)

def iterO {S R : Type} (body : S → Option (Lp S R)) : Nat → S → Option (S ⊕ R)
  | 0, _ => none
  | k + 1, s => match body s with
    | some (.next s') => iterO body k s'
    | some (.brk s') => some (.inl s')
    | some (.ret r) => some (.inr r)
    | none => none

theorem iterO_mono {S R : Type} {body : S → Option (Lp S R)} : ∀ (k : Nat) (s : S) (r : S ⊕ R), iterO body k s = some r → iterO body (k + 1) s = some r := by
  intro k
  induction k with
  | zero => intro s r h; cases h
  | succ k ih =>
    intro s r h
    rw [iterO] at h ⊢
    cases hb : body s with
    | none => rw [hb] at h; cases h
    | some o =>
      rw [hb] at h
      cases o with
      | next s' => exact ih s' r h
      | _ => exact h

theorem iterO_le {S R : Type} {body : S → Option (Lp S R)} {k l : Nat} (hl : k ≤ l) {s : S} {r : S ⊕ R} (h : iterO body k s = some r) : iterO body l s = some r := by
  induction hl with
  | refl => exact h
  | step _ ih => exact iterO_mono _ _ _ ih

open Classical in
noncomputable def loopO {S R : Type} (body : S → Option (Lp S R)) (s : S) : Option (S ⊕ R) :=
  if h : ∃ k, (iterO body k s).isSome = true then iterO body (Classical.choose h) s else none

theorem loopO_iff {S R : Type} {body : S → Option (Lp S R)} {s : S} {r : S ⊕ R} : loopO body s = some r ↔ ∃ k, iterO body k s = some r := by
  unfold loopO
  constructor
  · intro h
    split at h
    · exact ⟨_, h⟩
    · cases h
  · rintro ⟨k, hk⟩
    have hex : ∃ k, (iterO body k s).isSome = true := ⟨k, by rw [hk]; rfl⟩
    rw [dif_pos hex]
    obtain ⟨r', hr'⟩ := Option.isSome_iff_exists.1 (Classical.choose_spec hex)
    rw [hr']
    have h1 := iterO_le (Nat.le_max_left k (Classical.choose hex)) hk
    have h2 := iterO_le (Nat.le_max_right k (Classical.choose hex)) hr'
    rw [h1] at h2
    exact h2.symm

theorem loopO_next {S R : Type} {body : S → Option (Lp S R)} {s s' : S} (h : body s = some (.next s')) : loopO body s = loopO body s' := by
  apply Option.ext
  intro r
  rw [loopO_iff, loopO_iff]
  constructor
  · rintro ⟨k, hk⟩
    cases k with
    | zero => cases hk
    | succ k => rw [iterO, h] at hk; exact ⟨k, hk⟩
  · rintro ⟨k, hk⟩
    exact ⟨k + 1, by rw [iterO, h]; exact hk⟩

theorem loopO_brk {S R : Type} {body : S → Option (Lp S R)} {s s' : S} (h : body s = some (.brk s')) : loopO body s = some (.inl s') := loopO_iff.2 ⟨1, by rw [iterO, h]⟩
theorem loopO_ret {S R : Type} {body : S → Option (Lp S R)} {s : S} {r : R} (h : body s = some (.ret r)) : loopO body s = some (.inr r) := loopO_iff.2 ⟨1, by rw [iterO, h]⟩

def lpQ {S R : Type} (knOf : S → Kn) (hOf : S → AH) (i : Nat) (QR : R → Sl → AH → Prop) (o : Lp S R) : Post := fun e ss H => match o with
  | .next s => e = .normal ∧ Mat (knOf s) ss ∧ H = hOf s
  | .brk s => e = .exit i ∧ Mat (knOf s) ss ∧ H = hOf s
  | .ret r => e = .ret ∧ QR r ss H

def outQ {S R : Type} (knOf : S → Kn) (hOf : S → AH) (i : Nat) (QR : R → Sl → AH → Prop) (Q : Post) : S ⊕ R → Prop
  | .inl s => ∀ ss, Mat (knOf s) ss → Q (.exit i) ss (hOf s)
  | .inr r => ∀ ss H, QR r ss H → Q .ret ss H

theorem WX.loop {S R : Type} {c : Code} {kn : Kn} {H : AH} {Q : Post} (hc : isLoop c = true) (body : S → Option (Lp S R)) (knOf : S → Kn) (hOf : S → AH) (i : Nat) (QR : R → Sl → AH → Prop)
    (hbody : ∀ s o, body s = some o → WX P ne m n (cfst c) (knOf s) (hOf s) (lpQ knOf hOf i QR o)) {s : S} {o : S ⊕ R} (h : loopO body s = some o) (hsub : SubK (knOf s) kn) (hH : H = hOf s)
    (hQ : outQ knOf hOf i QR Q o) : WX P ne m n c kn H Q := by
  subst hH
  refine WX.weak _ hsub ?_
  cases c with
  | loop bc =>
    simp only [cfst] at hbody
    obtain ⟨k, hk⟩ := loopO_iff.1 h
    clear h hsub
    induction k generalizing s with
    | zero => cases hk
    | succ k ih =>
      rw [iterO] at hk
      cases hb : body s with
      | none => rw [hb] at hk; cases hk
      | some o' =>
        rw [hb] at hk
        intro ss hs
        obtain ⟨e, s1, H1, ⟨N, h1⟩, hq⟩ := hbody s o' hb ss hs
        cases o' with
        | next s' =>
          obtain ⟨rfl, hm, rfl⟩ := hq
          obtain ⟨e2, s2, H2, ⟨N2, h2⟩, hq2⟩ := ih hk s1 hm
          refine ⟨e2, s2, H2, ⟨max N N2 + 1, fun j hj => ?_⟩, hq2⟩
          obtain ⟨j, rfl⟩ : ∃ i, j = i + 1 := ⟨j - 1, by omega⟩
          rw [exec_succ]
          simp only [execStep]
          rw [h1 j (by omega)]
          exact h2 j (by omega)
        | brk s' =>
          obtain ⟨rfl, hm, rfl⟩ := hq
          simp only [Option.some.injEq] at hk
          subst hk
          refine ⟨_, s1, _, ⟨N + 1, fun j hj => ?_⟩, hQ s1 hm⟩
          obtain ⟨j, rfl⟩ : ∃ i, j = i + 1 := ⟨j - 1, by omega⟩
          rw [exec_succ]
          simp only [execStep]
          rw [h1 j (by omega)]
        | ret r =>
          obtain ⟨rfl, hr⟩ := hq
          simp only [Option.some.injEq] at hk
          subst hk
          refine ⟨_, s1, _, ⟨N + 1, fun j hj => ?_⟩, hQ s1 _ hr⟩
          obtain ⟨j, rfl⟩ : ∃ i, j = i + 1 := ⟨j - 1, by omega⟩
          rw [exec_succ]
          simp only [execStep]
          rw [h1 j (by omega)]
  | _ => cases hc

/-- A part all of whose ways go on. -/
theorem WX.join {c : Code} {kn : Kn} {H : AH} {Q : Post} (kn' : Kn) (H' : AH) (h : WX P ne m n c kn H fun e ss H1 => e = .normal ∧ Mat kn' ss ∧ H1 = H') (hq : ∀ ss, Mat kn' ss → Q .normal ss H') : WX P ne m n c kn H Q :=
  h.mono fun e ss H1 ⟨h1, h2, h3⟩ => by subst h1; subst h3; exact hq ss h2

theorem bind_some {α β : Type} {x : Option α} {f : α → Option β} {b : β} (h : x.bind f = some b) : ∃ a, x = some a ∧ f a = some b := by
  cases x with
  | none => cases h
  | some a => exact ⟨a, rfl, h⟩

theorem ite_some {α : Type} {p : Prop} [Decidable p] {x y : Option α} {b : α} (h : (if p then x else y) = some b) : (p ∧ x = some b) ∨ (¬ p ∧ y = some b) := by
  split at h
  · exact .inl ⟨‹p›, h⟩
  · exact .inr ⟨‹¬ p›, h⟩

end Go.Abs


namespace Go.Abs

variable {P : Program} {ne : NE} {m : Nat} {n : Fr} {ih : Ex} {ρ : Operand → Value} {o : Oper} {H H' : AH}

/-- A slice: where it begins, its length, its capacity. -/
structure Sl3 where
  p : Option Addr
  n : Nat
  c : Nat

def Sl3.v (s : Sl3) : Value := .slice s.p s.n s.c
def Sl3.nil : Sl3 := ⟨none, 0, 0⟩

/-- The address of an element. -/
def idxA (sz : Nat) (s : Sl3) (i : Int) : Option Addr :=
  match s.p with
  | some a => if 0 ≤ i ∧ i < s.n then some (a.add (i.toNat * sz)) else none
  | none => none

theorem run_idx {t e : TypeId} {x y : Operand} {sz : Nat} {s : Sl3} {k : IntKind} {i : Int} {a : Addr} (hop : o.op = .indexAddr t x y) (hu : P.underlying t = some (.slice e)) (hi : (P.info? e).map (·.size) = some sz)
    (hx : ρ x = s.v) (hy : ρ y = .int k i) (h : idxA sz s i = some a) : runOp P ne ih m o ρ H = some (.pointer (some a), H) := by
  obtain ⟨dst, op, ty, pos, after, guard⟩ := o
  simp only at hop
  subst hop
  obtain ⟨p, l, c⟩ := s
  cases hie : P.info? e with
  | none => rw [hie] at hi; cases hi
  | some inf =>
    rw [hie] at hi
    simp only [Option.map_some, Option.some.injEq] at hi
    subst hi
    unfold idxA at h
    cases p with
    | none => cases h
    | some b =>
      simp only at h
      split at h
      · rename_i hb
        simp only [Option.some.injEq] at h
        subst h
        simp only [runOp, aOp, execOp, hx, hy, Sl3.v]
        have hS : arun P m (Instr.indexAt t (.slice (some b) l c) (.int k i)) H = some (.pointer (some (b.add (i.toNat * inf.size))), H) := by
          unfold Instr.indexAt
          simp only [asIntOf, Go.underlying, Go.sizeOf, Go.typeInfo, Go.program, bind, Pure.pure, Sem.bind, arun, hu, hie]
          rw [if_pos hb]
          simp only [Sem.bind, arun, hie]
        simp only [bind]
        rw [arun_bind, hS]
        rfl
      · cases h

/-- What stands in a cell, read as what it is. -/
def rd {α : Type} (de : Value → Option α) (H : AH) (a : Addr) : Option α := (H.cell a).bind de

def deI (k : IntKind) : Value → Option Int
  | .int k' x => if k' = k then some x else none
  | _ => none
def deS : Value → Option ByteArray
  | .string s => some s
  | _ => none
def deSl : Value → Option Sl3
  | .slice p n c => some ⟨p, n, c⟩
  | _ => none
theorem rd_cell {α : Type} {de : Value → Option α} {a : Addr} {x : α} {v : Value} (h : rd de H a = some x) (hv : ∀ u, de u = some x → u = v) : H.cell a = some v := by
  obtain ⟨u, h1, h2⟩ := bind_some h
  rw [h1, hv u h2]

theorem deI_inv {k : IntKind} {x : Int} : ∀ u, deI k u = some x → u = .int k x := by
  intro u h
  cases u <;> simp only [deI] at h <;> try cases h
  split at h
  · rename_i e; subst e; cases h; rfl
  · cases h
theorem deS_inv {x : ByteArray} : ∀ u, deS u = some x → u = .string x := by
  intro u h
  cases u <;> simp only [deS] at h <;> cases h
  rfl
theorem deSl_inv {x : Sl3} : ∀ u, deSl u = some x → u = x.v := by
  intro u h
  cases u <;> simp only [deSl] at h <;> cases h
  rfl
theorem run_load {t : TypeId} {x : Operand} {a : Addr} {v : Value} (hop : o.op = .load t x) (hu : (P.underlying t).map isAggD = some false) (hx : ρ x = .pointer (some a)) (h : H.cell a = some v) :
    runOp P ne ih m o ρ H = some (v, H) := by
  obtain ⟨dst, op, ty, pos, after, guard⟩ := o
  simp only at hop
  subst hop
  cases hd : P.underlying t with
  | none => rw [hd] at hu; cases hu
  | some d =>
    rw [hd] at hu
    simp only [Option.map_some, Option.some.injEq] at hu
    simp only [runOp, aOp, execOp, hx, bind]
    have hS : arun P m (Instr.loadAt t (.pointer (some a))) H = some (v, H) := by
      unfold Instr.loadAt Go.loadVar Go.isAgg
      simp only [Instr.sureAddr, Go.underlying, Go.program, bind, Pure.pure, Sem.bind, arun, hd]
      cases d <;> first | (simp only [isAggD] at hu; cases hu; done) | simp only [Sem.bind, arun, Go.load, h, Bool.false_eq_true, if_false]
    rw [arun_bind, hS]
    rfl

theorem run_store1 {t : TypeId} {x y : Operand} {a : Addr} {v : Value} (hop : o.op = .store t x y) (hu : (P.info? t).map (·.size) = some 1) (hx : ρ x = .pointer (some a)) (hy : ρ y = v) (hv : one v = true) (h : H.setCell m a v = some H') :
    runOp P ne ih m o ρ H = some (undef, H') := by
  have hc : v.cells = #[v] := by cases v <;> first | rfl | cases hv
  refine run_store hop (by rw [hc]; exact hu) hx hy ?_
  rw [hc]
  simp only [wrCells, hv, cond_true]
  rw [show a.add 0 = a from rfl, h]

theorem arun_loadCellsFrom (a : Addr) : ∀ (k i : Nat) (acc : Array Value) (H : AH), arun P m (Go.loadCellsFrom a i k acc) H = (rdCells H a i k).map fun l => (acc ++ l.toArray, H) := by
  intro k
  induction k with
  | zero => intro i acc H; simp [Go.loadCellsFrom, rdCells, arun, Pure.pure]
  | succ k ih =>
    intro i acc H
    unfold Go.loadCellsFrom
    simp only [bind, Go.load, Sem.bind, arun, rdCells]
    cases H.cell (a.add i) with
    | none => rfl
    | some v =>
      simp only [ih]
      cases rdCells H a (i + 1) k with
      | none => rfl
      | some l => simp

end Go.Abs


namespace Go.Abs

variable {P : Program} {ne : NE} {m : Nat} {n : Fr} {ih : Ex} {ρ : Operand → Value} {o : Oper} {H H' : AH}

def boundI (y dflt : Nat) : Option Int → Option Nat
  | none => some dflt
  | some x => if 0 ≤ x ∧ x ≤ y then some x.toNat else none

def slcB (len cap : Nat) (lo hi mx : Option Int) : Option (Nat × Nat × Nat) :=
  match boundI cap cap mx with
  | some k => bif mx.isSome && hi.isNone then none else match boundI k len hi with
    | some h => match boundI h 0 lo with
      | some l => some (l, h, k)
      | none => none
    | none => none
  | none => none

theorem blt_iff {a b : Nat} : Nat.blt a b = true ↔ a < b := by
  unfold Nat.blt
  exact ⟨fun h => Nat.le_of_ble_eq_true h, fun h => Nat.ble_eq_true_of_le h⟩

theorem run_sliceBound {x : Int} {k : IntKind} {y : Nat} {code : BoundsCode} {d a : Nat} (h : boundI y d (some x) = some a) : peval P (Instr.sliceBound (.int k x) y code) = some a := by
  simp only [boundI] at h
  split at h
  · rename_i hb
    cases h
    unfold Instr.sliceBound
    simp only [asIntOf, bind, Pure.pure, Sem.bind]
    rw [if_pos hb]
    rfl
  · cases h

theorem pbind {α β : Type} (s : Sem α) (f : α → Sem β) : peval P (s.bind f) = (peval P s).bind fun a => peval P (f a) := by
  induction s with
  | pure a => rfl
  | program c ih => exact ih P
  | mark mk c ih => exact ih
  | _ => rfl

theorem run_sliceBounds {b : Bool} {len cap : Nat} {lo hi mx : Option Int} {k1 k2 k3 : IntKind} {l h k : Nat} (hb : slcB len cap lo hi mx = some (l, h, k)) :
    peval P (Instr.sliceBounds b len cap (lo.map (Value.int k1)) (hi.map (Value.int k2)) (mx.map (Value.int k3))) = some (l, h, k) := by
  unfold slcB at hb
  cases hk : boundI cap cap mx with
  | none => rw [hk] at hb; cases hb
  | some k' =>
    rw [hk] at hb
    simp only at hb
    cases hc : (mx.isSome && hi.isNone) with
    | true => rw [hc] at hb; cases hb
    | false =>
      rw [hc] at hb
      simp only [cond_false] at hb
      cases hh : boundI k' len hi with
      | none => rw [hh] at hb; cases hb
      | some h' =>
        rw [hh] at hb
        simp only at hb
        cases hl : boundI h' 0 lo with
        | none => rw [hl] at hb; cases hb
        | some l' =>
          rw [hl] at hb
          cases hb
          unfold Instr.sliceBounds
          cases mx with
          | none =>
            simp only [boundI, Option.some.injEq] at hk
            subst hk
            cases hi with
            | none =>
              simp only [boundI, Option.some.injEq] at hh
              subst hh
              cases lo with
              | none => simp only [boundI, Option.some.injEq] at hl; subst hl; rfl
              | some x =>
                simp only [Option.map_none, Option.map_some, bind, Pure.pure, Sem.bind]
                rw [pbind, run_sliceBound hl]; rfl
            | some y =>
              simp only [Option.map_none, Option.map_some, bind, Pure.pure, Sem.bind]
              rw [pbind, run_sliceBound hh]
              cases lo with
              | none => simp only [boundI, Option.some.injEq] at hl; subst hl; rfl
              | some x =>
                simp only [Option.bind_some, Option.map_some]
                rw [pbind, run_sliceBound hl]; rfl
          | some z =>
            cases hi with
            | none => simp at hc
            | some y =>
              simp only [Option.map_none, Option.map_some, bind, Pure.pure, Sem.bind]
              rw [pbind, run_sliceBound hk]
              simp only [Option.bind_some]
              rw [pbind, run_sliceBound hh]
              cases lo with
              | none => simp only [boundI, Option.some.injEq] at hl; subst hl; rfl
              | some x =>
                simp only [Option.bind_some, Option.map_some]
                rw [pbind, run_sliceBound hl]; rfl

theorem flat_optI {lo : Option Operand} {x : Option Int} {k : IntKind} (h : lo.map ρ = x.map (Value.int k)) : ∀ y ∈ lo.toArray, flat depth (ρ y) = true := by
  intro y hy
  cases lo with
  | none => simp at hy
  | some z =>
    simp only [Option.toArray_some, List.mem_toArray, List.mem_singleton] at hy
    subst hy
    cases x with
    | none => simp at h
    | some x => simp only [Option.map_some, Option.some.injEq] at h; rw [h]; rfl

end Go.Abs

