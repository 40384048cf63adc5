/- The engine, part 18 of 35: pieces of the interpreter and of its soundness. No condition. -/
import Derived.Test.YtiggbefjndkkmaaGreatDoorE17
import Derived.LoopN
import Derived.Scope
namespace Go.Abs

variable {P : Program} {m : Nat}

/-- What is asked of a program: its regions draw as the model has it, the number of abi.NoEscape, no function of its own under a name that the model answers for. -/
structure Sane (P : Program) (ne : Nat) : Prop where
  mixed : P.follows .mixedOrders = true
  noNum : ∀ (f : Nat) (fn : Func), P.funcs[f]? = some fn → fn.body.isSome = true → (fn.name == "runtime.NumGoroutine") = false
  esc : (P.funcs[ne]?).isSome = true → ∀ x w, (callFunc ne #[x]).run P w = .ok (.value x) w

/-- The package-level variables keep their places. -/
def Glob (P : Program) (φ : Inj) : Prop := ∀ g, g < P.globals.size → ∃ l, φ g = some l ∧ l.blk = g ∧ l.off = 0

theorem Glob.mono {φ ψ : Inj} (h : Glob P φ) (hle : φ.le ψ) : Glob P ψ := fun g hg => let ⟨l, a, b, c⟩ := h g hg; ⟨l, hle _ _ a, b, c⟩

/-- A frame and what it stands for. -/
structure SR (φ : Inj) (ss : Sl) (n : Nat) (a : Act) : Prop where
  slot : ∀ t, VR φ ((ss.get t).getD undef) (a.tmps.getD t undef)
  size : n ≤ a.tmps.size
  defers : a.defers = []

theorem SR.mono {φ ψ : Inj} (hle : φ.le ψ) {ss : Sl} {n : Nat} {a : Act} (h : SR φ ss n a) : SR ψ ss n a := ⟨fun t => (h.slot t).mono hle, h.size, h.defers⟩

theorem vr_undef (φ : Inj) : VR φ undef undef := .tuple #[] #[] rfl fun i x y hx => by simp at hx

theorem SR.put {φ : Inj} {ss ss' : Sl} {n : Nat} {a : Act} {d : Option Tmp} {v v' : Value} (h : SR φ ss n a) (hp : putA n ss d v = some ss') (hv : VR φ v v') : SR φ ss' n (a.put d v') := by
  unfold putA at hp
  split at hp
  · rename_i d
    cases hb : Nat.blt d n with
    | false => rw [hb] at hp; cases hp
    | true =>
      rw [hb] at hp
      simp only [cond_true, Option.some.injEq] at hp
      subst hp
      have hlt : d < n := Nat.lt_of_lt_of_le (Nat.lt_succ_self _) (Nat.le_of_ble_eq_true hb)
      have hd : d < a.tmps.size := Nat.lt_of_lt_of_le hlt h.size
      refine ⟨fun t => ?_, by simpa [Act.put] using h.size, h.defers⟩
      by_cases e : t = d
      · subst e
        rw [Tr.get_set_same _ _ _ _ (by omega)]
        simp only [Act.put, Option.getD_some]
        rw [Array.getD_eq_getD_getElem?, Array.getElem?_setIfInBounds, if_pos rfl, if_pos hd]
        exact hv
      · rw [Tr.get_set_other _ _ _ _ _ (by omega) e]
        simp only [Act.put]
        rw [Array.getD_eq_getD_getElem?, Array.getElem?_setIfInBounds, if_neg (fun hh => e hh.symm), ← Array.getD_eq_getD_getElem?]
        exact h.slot t
  · cases hp
    exact h

theorem SR.eval {φ : Inj} {ss : Sl} {n : Nat} {a : Act} (h : SR φ ss n a) (hg : Glob P φ) {x : Operand} (hx : okx P x = true) : VR φ (evalA ss x) (a.eval x) := by
  cases x with
  | tmp t => exact h.slot t
  | const v => exact flat_refl depth hx
  | global g =>
    have hlt : g < P.globals.size := Nat.lt_of_lt_of_le (Nat.lt_succ_self _) (Nat.le_of_ble_eq_true hx)
    obtain ⟨l, h1, h2, h3⟩ := hg g hlt
    have := VR.ptr (φ := φ) g 0 l h1
    rw [h2, h3] at this
    exact this
  | func f => exact .func (.func f) #[] #[] #[] #[] rfl rfl (fun i x y hx => by simp at hx) (fun i x y hx => by simp at hx)

/-- What a call comes to. -/
def CallOK (P : Program) (m : Nat) (φ : Inj) (H : AH) (w : World) (v : Value) (H' : AH) (f : FuncId) (args : Array Value) : Prop :=
  Calls P f args w fun e w' => ∃ φ' v', e = .returned v' ∧ VR φ' v v' ∧ Inv φ' H' w' ∧ Step m φ H w φ' H' w'

def toExit : AExit → Exit
  | .normal => .normal
  | .exit id => .exit id
  | .goto l => .goto l
  | .ret => .ret

/-- What a code comes to. -/
def CodePost (P : Program) (m : Nat) (φ : Inj) (H : AH) (w : World) (e : AExit) (st' : ASt) : Exit → Act → World → Prop :=
  fun e' a' w' => ∃ φ', e' = toExit e ∧ SR φ' st'.ss st'.n a' ∧ Inv φ' st'.H w' ∧ Step m φ H w φ' st'.H w'

def Good (P : Program) (ih : Ex) : Prop := ∀ (m : Nat) (c : Code) (st : ASt) (e : AExit) (st' : ASt), ih m c st = some (e, st') →
  ∀ (φ : Inj) (a : Act) (w : World), Glob P φ → SR φ st.ss st.n a → Inv φ st.H w → c.wp P (CodePost P m φ st.H w e st') a w

theorem aLoad_run {φ : Inj} {H : AH} {w : World} {t : TypeId} {q q' : Addr} {v : Value} (hi : Inv φ H w) (h : aLoad P t q H = some v) (hq : AddrR φ q q') : ∃ v', (loadVar t q').run P w = .ok v' w ∧ VR φ v v' := by
  unfold aLoad at h
  split at h
  · rename_i d i hu hii
    have hagg : (isAgg t).run P w = .ok (isAggD d) w := by
      simp only [isAgg, Sem.run_bind, run_und hu, Result.andThen_ok]
      cases d <;> rfl
    cases hd : isAggD d with
    | true =>
      rw [hd] at h hagg
      simp only [cond_true] at h
      cases hr : rdCells H q 0 i.size with
      | none => rw [hr] at h; cases h
      | some l =>
        rw [hr] at h
        simp only [Option.some.injEq] at h
        subst h
        obtain ⟨hl, l', h1, h2⟩ := rd_run hi hq _ 0 l hr
        have hrun := run_loadCells_list (P := P) w q' l' (fun j u hu => by have := h2 j u hu; rwa [Nat.zero_add] at this)
        rw [← LR.length h1, hl] at hrun
        refine ⟨.agg l'.toArray, ?_, ?_⟩
        · simp only [loadVar, Sem.run_bind, hagg, Result.andThen_ok, if_true, run_size hii, hrun, Sem.run_pure]
        · have := AR_iff.2 (show LR φ l.toArray.toList l'.toArray.toList by simpa using h1)
          exact .agg _ _ this.1 this.2
    | false =>
      rw [hd] at h hagg
      simp only [cond_false] at h
      obtain ⟨v', h1, h2⟩ := hi.cell h hq
      refine ⟨v', ?_, h2⟩
      simp only [loadVar, Sem.run_bind, hagg, Result.andThen_ok, Bool.false_eq_true, if_false]
      simp [h1]
  · cases h

def resV (tmps : Array Value) : ResultVar → Sem Value
  | .tmp t => pure (tmps.getD t undef)
  | .cell a t => do loadVar t (← asAddr (tmps.getD a undef))

theorem results_eq (fn : Func) (tmps : Array Value) : results fn tmps = (fn.results.mapM (resV tmps) >>= fun vs => pure (if h : vs.size = 1 then vs[0] else .tuple vs)) := rfl

theorem resultsA_run {φ : Inj} {w : World} {st : ASt} {a : Act} (hs : SR φ st.ss st.n a) (hi : Inv φ st.H w) : ∀ (l : List ResultVar) (vs : List Value), resultsA P st l = some vs →
    ∃ vs', (l.mapM (resV a.tmps)).run P w = .ok vs' w ∧ LR φ vs vs' := by
  intro l
  induction l with
  | nil => intro vs h; simp only [resultsA, Option.some.injEq] at h; subst h; exact ⟨[], rfl, .nil⟩
  | cons x l ih =>
    intro vs h
    cases x with
    | tmp t =>
      simp only [resultsA] at h
      cases hr : resultsA P st l with
      | none => rw [hr] at h; cases h
      | some us =>
        rw [hr] at h
        simp only [Option.some.injEq] at h
        subst h
        obtain ⟨us', h1, h2⟩ := ih us hr
        refine ⟨a.tmps.getD t undef :: us', ?_, .cons (hs.slot t) h2⟩
        rw [List.mapM_cons]
        have hA : (resV a.tmps (.tmp t)).run P w = .ok (a.tmps.getD t undef) w := rfl
        simp only [Sem.run_bind, hA, Sem.run_pure, Result.andThen_ok, h1]
    | cell p t =>
      simp only [resultsA] at h
      split at h
      · rename_i q us hq hr
        cases hl : aLoad P t q st.H with
        | none => rw [hl] at h; cases h
        | some v =>
          rw [hl] at h
          simp only [Option.some.injEq] at h
          subst h
          obtain ⟨us', h1, h2⟩ := ih us hr
          have hp := hs.slot p
          have hq' : (st.ss.get p).getD undef = .pointer (some q) := hq
          rw [hq'] at hp
          obtain ⟨q', hq2, hqa⟩ := hp.ptr_inv
          obtain ⟨v', h3, h4⟩ := aLoad_run hi hl hqa
          refine ⟨v' :: us', ?_, .cons h4 h2⟩
          rw [List.mapM_cons]
          have hA : (resV a.tmps (.cell p t)).run P w = .ok v' w := by
            simp only [resV, Sem.run_bind, hq2]
            exact h3
          simp only [Sem.run_bind, hA, Sem.run_pure, Result.andThen_ok, h1]
      · cases h

theorem resultA_run {φ : Inj} {w : World} {st : ASt} {a : Act} {fn : Func} {v : Value} {H' : AH} (hs : SR φ st.ss st.n a) (hi : Inv φ st.H w) (h : resultA P fn st = some (v, H')) :
    H' = st.H ∧ ∃ v', (results fn a.tmps).run P w = .ok v' w ∧ VR φ v v' := by
  unfold resultA at h
  cases hr : resultsA P st fn.results.toList with
  | none => rw [hr] at h; cases h
  | some vs =>
    rw [hr] at h
    obtain ⟨vs', h1, h2⟩ := resultsA_run hs hi _ _ hr
    have h3 : (fn.results.mapM (resV a.tmps)).run P w = .ok vs'.toArray w := by
      rw [Array.mapM_eq_mapM_toList]
      show Sem.run P (List.toArray <$> _) w = _
      rw [Sem.run_map, h1]; rfl
    have h4 : ∀ r : Value, (if h : vs'.toArray.size = 1 then vs'.toArray[0] else .tuple vs'.toArray) = r → (results fn a.tmps).run P w = .ok r w := by
      intro r hr
      rw [results_eq, Sem.run_bind, h3, Result.andThen_ok, hr]; rfl
    cases h2 with
    | nil =>
      simp only [Option.some.injEq, Prod.mk.injEq] at h
      obtain ⟨rfl, rfl⟩ := h
      exact ⟨rfl, _, h4 _ rfl, .tuple _ _ rfl fun i x y hx => by simp at hx⟩
    | cons hv ht =>
      cases ht with
      | nil =>
        simp only [Option.some.injEq, Prod.mk.injEq] at h
        obtain ⟨rfl, rfl⟩ := h
        exact ⟨rfl, _, h4 _ rfl, hv⟩
      | cons hv2 ht2 =>
        simp only [Option.some.injEq, Prod.mk.injEq] at h
        obtain ⟨rfl, rfl⟩ := h
        refine ⟨rfl, _, h4 _ rfl, ?_⟩
        rw [dif_neg (by simp)]
        have hall : LR φ _ _ := F2.cons hv (F2.cons hv2 ht2)
        have := AR_iff.2 (show LR φ (List.toArray _).toList (List.toArray _).toList by simpa using hall)
        exact .tuple _ _ this.1 this.2

theorem ofArgs_get : ∀ (l : List Value) (i : Nat) (t : Sl) (j : Nat), (∀ k, i ≤ k → t.get k = none) → (ofArgs i l t).get j = if j < i then t.get j else l[j - i]? := by
  intro l
  induction l with
  | nil =>
    intro i t j h
    simp only [ofArgs]
    split
    · rfl
    · rename_i hj; rw [h j (by omega)]; simp
  | cons v l ih =>
    intro i t j h
    simp only [ofArgs]
    rw [ih (i + 1) _ j (fun k hk => by rw [Tr.get_set_other _ _ _ _ _ (by omega) (by omega)]; exact h k (by omega))]
    by_cases hj : j < i
    · rw [if_pos (by omega), if_pos hj, Tr.get_set_other _ _ _ _ _ (by omega) (by omega)]
    · rw [if_neg hj]
      by_cases hji : j = i
      · subst hji
        rw [if_pos (by omega), Tr.get_set_same _ _ _ _ (by omega)]
        simp
      · rw [if_neg (by omega)]
        rw [show j - i = (j - (i + 1)) + 1 by omega]
        simp

theorem SR.enter {φ : Inj} {args args' : Array Value} (ha : AR φ args args') (n : Nat) : SR φ (ofArgs 0 args.toList .nil) n { tmps := args' ++ Array.replicate (n - args'.size) undef, defers := [] } := by
  refine ⟨fun t => ?_, by simp; omega, rfl⟩
  rw [ofArgs_get _ _ _ _ (fun k _ => rfl)]
  simp only [Nat.not_lt_zero, if_false, Nat.sub_zero]
  rw [Array.getElem?_toList]
  rw [Array.getD_eq_getD_getElem?, Array.getElem?_append]
  cases hx : args[t]? with
  | none =>
    have hge : args.size ≤ t := by rwa [Array.getElem?_eq_none_iff] at hx
    rw [if_neg (by have := ha.1; omega)]
    rw [Array.getElem?_replicate]
    split <;> exact vr_undef φ
  | some x =>
    obtain ⟨y, hy, hv⟩ := ha.get hx
    have hlt : t < args'.size := by rw [Array.getElem?_eq_some_iff] at hy; exact hy.1
    rw [if_pos hlt, hy]
    exact hv

theorem run_callFunc_body {ne : Nat} (hS : Sane P ne) {f : Nat} {fn : Func} {c : Code} (hf : P.funcs[f]? = some fn) (hb : fn.body = some c) (args : Array Value) (w : World) : (callFunc f args).run P w = .ok (.enter f args) w := by
  have hn := hS.noNum f fn hf (by rw [hb]; rfl)
  rw [beq_eq_false_iff_ne] at hn
  simp [callFunc, hf, hb, hn]

theorem acallFn_body {ne : Nat} (hS : Sane P ne) {ih : Ex} (hG : Good P ih) {f : Nat} {fn : Func} {c : Code} (hf : P.funcs[f]? = some fn) (hb : fn.body = some c) {args args' : Array Value} {H H' : AH} {v : Value}
    (h : acallFn P ne ih m f args H = some (v, H')) {φ : Inj} {w : World} (hg : Glob P φ) (ha : AR φ args args') (hi : Inv φ H w) : CallOK P m φ H w v H' f args' := by
  unfold acallFn at h
  rw [hf] at h
  simp only [hb] at h
  cases he : ih m c ⟨ofArgs 0 args.toList .nil, fn.ntmps, H⟩ with
  | none => rw [he] at h; cases h
  | some r =>
    obtain ⟨e, st⟩ := r
    rw [he] at h
    have hw := hG m c _ e st he φ _ w hg (SR.enter ha fn.ntmps) hi
    refine calls_of_wp hf hb (wp_mono hw fun e' a' w' hpost => ?_)
    obtain ⟨φ', rfl, hs, hi', hst⟩ := hpost
    cases e with
    | normal =>
      obtain ⟨rfl, v', h1, h2⟩ := resultA_run hs hi' h
      exact ⟨hs.defers, v', h1, φ', v', rfl, h2, hi', hst⟩
    | ret =>
      obtain ⟨rfl, v', h1, h2⟩ := resultA_run hs hi' h
      exact ⟨hs.defers, v', h1, φ', v', rfl, h2, hi', hst⟩
    | _ => cases h

end Go.Abs
