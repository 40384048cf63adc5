/- The engine, part 30 of 35: the interpreter is sound for whole calls. No condition. -/
import Derived.Test.YtiggbefjndkkmaaGreatDoorE29
namespace Go.Abs

variable {P : Program} {m : Nat}

theorem rounds_mono {c : Code} {Q Q' : Exit → Act → World → Prop} (hq : ∀ e a w, Q e a w → Q' e a w) : ∀ (n : Nat) (a : Act) (w : World), Code.rounds P c Q n a w → Code.rounds P c Q' n a w := by
  intro n
  induction n with
  | zero => intro a w h; exact h
  | succ n ih =>
    intro a w h
    rw [rounds_succ] at h ⊢
    refine wp_mono h fun e a w he => ?_
    cases e <;> first | exact ih _ _ he | exact hq _ _ _ he

/-- Loops, by rounds. -/
def GoodL (P : Program) (ih : Ex) (n : Nat) : Prop := ∀ (m : Nat) (c : Code) (st : ASt) (e : AExit) (st' : ASt), ih m (.loop c) st = some (e, st') →
  ∀ (φ : Inj) (a : Act) (w : World), Glob P φ → SR φ st.ss st.n a → Inv φ st.H w → Code.rounds P c (CodePost P m φ st.H w e st') n a w

theorem CodePost.trans {φ φ1 : Inj} {H H1 : AH} {w w1 : World} {e : AExit} {st' : ASt} (hi : Inv φ H w) (hst : Step m φ H w φ1 H1 w1) : ∀ e' a' w', CodePost P m φ1 H1 w1 e st' e' a' w' → CodePost P m φ H w e st' e' a' w' :=
  fun e' a' w' ⟨φ', h1, h2, h3, h4⟩ => ⟨φ', h1, h2, h3, hst.trans hi h4⟩

theorem scope_ok {ih : Ex} (hG : Good P ih) {body : Code} : ∀ (k0 : Nat) (now : Code) (st : ASt) (e : AExit) (st' : ASt), inScopeA ih m body k0 now st = some (e, st') →
    ∀ (φ : Inj) (a : Act) (w : World), Glob P φ → SR φ st.ss st.n a → Inv φ st.H w → ∀ (b : Frame) (k : List Item) (cs : List Frame),
    ∃ e' a' w', CodePost P m φ st.H w e st' e' a' w' ∧ Arrives P (lone (b.at a (.code now :: .inScope body :: k)) cs w) b k cs e' a' w' := by
  intro k0
  induction k0 with
  | zero => intro now st e st' h; cases h
  | succ k0 ihk =>
    intro now st e st' h φ a w hg hs hi b k cs
    simp only [inScopeA] at h
    cases hr : ih m now st with
    | none => rw [hr] at h; cases h
    | some r =>
      obtain ⟨e1, st1⟩ := r
      obtain ⟨e', a1, w1, hpost, harr⟩ := hG m now st e1 st1 hr φ a w hg hs hi b (.inScope body :: k) cs
      obtain ⟨φ1, rfl, hs1, hi1, hst1⟩ := hpost
      rw [hr] at h
      cases e1 with
      | normal =>
        simp only [Option.some.injEq, Prod.mk.injEq] at h
        obtain ⟨rfl, rfl⟩ := h
        exact ⟨.normal, a1, w1, ⟨φ1, rfl, hs1, hi1, hst1⟩, Steps.trans harr (.one step_inScope)⟩
      | exit id =>
        simp only [Option.some.injEq, Prod.mk.injEq] at h
        obtain ⟨rfl, rfl⟩ := h
        exact ⟨.exit id, a1, w1, ⟨φ1, rfl, hs1, hi1, hst1⟩, fun k' hk => harr k' (by simp [exitTo, hk])⟩
      | ret =>
        simp only [Option.some.injEq, Prod.mk.injEq] at h
        obtain ⟨rfl, rfl⟩ := h
        exact ⟨.ret, a1, w1, ⟨φ1, rfl, hs1, hi1, hst1⟩, harr⟩
      | goto l =>
        simp only at h
        cases hf : findLabel body l with
        | none =>
          rw [hf] at h
          simp only [Option.some.injEq, Prod.mk.injEq] at h
          obtain ⟨rfl, rfl⟩ := h
          exact ⟨.goto l, a1, w1, ⟨φ1, rfl, hs1, hi1, hst1⟩, fun k' hk => harr k' (by simp [gotoIn, hf, hk])⟩
        | some rest =>
          rw [hf] at h
          obtain ⟨e2, a2, w2, hp2, ha2⟩ := ihk rest st1 e st' h φ1 a1 w1 (hg.mono hst1.ext) hs1 hi1 b k cs
          refine ⟨e2, a2, w2, CodePost.trans hi hst1 _ _ _ hp2, .of_steps (harr _ (by simp [gotoIn, hf])) ha2⟩

theorem exec_good {ne : Nat} (hS : Sane P ne) : ∀ n, Good P (exec P ne n) ∧ GoodL P (exec P ne n) n := by
  intro n
  induction n with
  | zero =>
    refine ⟨?_, ?_⟩
    · intro m c st e st' h; cases h
    · intro m c st e st' h; cases h
  | succ n ihn =>
    obtain ⟨hG, hL⟩ := ihn
    have hLoop : GoodL P (exec P ne (n + 1)) (n + 1) := by
      intro m c st e st' h φ a w hg hs hi
      change execStep P ne (exec P ne n) m (.loop c) st = some (e, st') at h
      simp only [execStep] at h
      rw [rounds_succ]
      cases hr : exec P ne n m c st with
      | none => rw [hr] at h; cases h
      | some r =>
        obtain ⟨e1, st1⟩ := r
        rw [hr] at h
        refine wp_mono (hG m c st e1 st1 hr φ a w hg hs hi) fun e' a1 w1 hpost => ?_
        obtain ⟨φ1, rfl, hs1, hi1, hst1⟩ := hpost
        cases e1 with
        | normal =>
          exact rounds_mono (CodePost.trans hi hst1) _ _ _ (hL m c st1 e st' h φ1 a1 w1 (hg.mono hst1.ext) hs1 hi1)
        | _ =>
          simp only [Option.some.injEq, Prod.mk.injEq] at h
          obtain ⟨rfl, rfl⟩ := h
          exact ⟨φ1, rfl, hs1, hi1, hst1⟩
    refine ⟨?_, hLoop⟩
    intro m c st e st' h φ a w hg hs hi
    cases c with
    | loop c => exact wp_loop_rounds (n + 1) (hLoop m c st e st' h φ a w hg hs hi)
    | skip =>
      have h : some (AExit.normal, st) = some (e, st') := h
      simp only [Option.some.injEq, Prod.mk.injEq] at h
      obtain ⟨rfl, rfl⟩ := h
      exact wp_skip ⟨φ, rfl, hs, hi, Step.refl _ _ _ _⟩
    | label l =>
      have h : some (AExit.normal, st) = some (e, st') := h
      simp only [Option.some.injEq, Prod.mk.injEq] at h
      obtain ⟨rfl, rfl⟩ := h
      exact wp_label ⟨φ, rfl, hs, hi, Step.refl _ _ _ _⟩
    | ret =>
      have h : some (AExit.ret, st) = some (e, st') := h
      simp only [Option.some.injEq, Prod.mk.injEq] at h
      obtain ⟨rfl, rfl⟩ := h
      exact wp_ret ⟨φ, rfl, hs, hi, Step.refl _ _ _ _⟩
    | exit id =>
      have h : some (AExit.exit id, st) = some (e, st') := h
      simp only [Option.some.injEq, Prod.mk.injEq] at h
      obtain ⟨rfl, rfl⟩ := h
      exact wp_exit ⟨φ, rfl, hs, hi, Step.refl _ _ _ _⟩
    | goto l =>
      have h : some (AExit.goto l, st) = some (e, st') := h
      simp only [Option.some.injEq, Prod.mk.injEq] at h
      obtain ⟨rfl, rfl⟩ := h
      exact wp_goto ⟨φ, rfl, hs, hi, Step.refl _ _ _ _⟩
    | seq x y =>
      change execStep P ne (exec P ne n) m (.seq x y) st = some (e, st') at h
      simp only [execStep] at h
      refine wp_seq ?_
      cases hr : exec P ne n m x st with
      | none => rw [hr] at h; cases h
      | some r =>
        obtain ⟨e1, st1⟩ := r
        rw [hr] at h
        refine wp_mono (hG m x st e1 st1 hr φ a w hg hs hi) fun e' a1 w1 hpost => ?_
        obtain ⟨φ1, rfl, hs1, hi1, hst1⟩ := hpost
        cases e1 with
        | normal => exact wp_mono (hG m y st1 e st' h φ1 a1 w1 (hg.mono hst1.ext) hs1 hi1) (CodePost.trans hi hst1)
        | _ =>
          simp only [Option.some.injEq, Prod.mk.injEq] at h
          obtain ⟨rfl, rfl⟩ := h
          exact ⟨φ1, rfl, hs1, hi1, hst1⟩
    | cond c x y =>
      change execStep P ne (exec P ne n) m (.cond c x y) st = some (e, st') at h
      simp only [execStep] at h
      split at h
      · rename_i t ht
        have hv : VR φ (evalA st.ss c) (a.eval c) := by
          cases c with
          | tmp k => exact hs.slot k
          | const v =>
            have : v = .bool t := ht
            subst this; exact .bool t
          | global g => cases ht
          | func f => cases ht
        rw [ht] at hv
        have hc : a.eval c = .bool t := by
          generalize a.eval c = u at hv
          cases hv; rfl
        refine wp_cond hc ?_
        cases t with
        | true => exact hG m x st e st' h φ a w hg hs hi
        | false => exact hG m y st e st' h φ a w hg hs hi
      · cases h
    | block id c =>
      change execStep P ne (exec P ne n) m (.block id c) st = some (e, st') at h
      simp only [execStep] at h
      refine wp_block ?_
      cases hr : exec P ne n m c st with
      | none => rw [hr] at h; cases h
      | some r =>
        obtain ⟨e1, st1⟩ := r
        rw [hr] at h
        refine wp_mono (hG m c st e1 st1 hr φ a w hg hs hi) fun e' a1 w1 hpost => ?_
        obtain ⟨φ1, rfl, hs1, hi1, hst1⟩ := hpost
        cases e1 with
        | exit j =>
          simp only at h
          cases hj : Nat.beq j id with
          | true =>
            rw [hj] at h
            simp only [cond_true, Option.some.injEq, Prod.mk.injEq] at h
            obtain ⟨rfl, rfl⟩ := h
            show (if j = id then _ else _)
            rw [if_pos (Nat.eq_of_beq_eq_true hj)]
            exact ⟨φ1, rfl, hs1, hi1, hst1⟩
          | false =>
            rw [hj] at h
            simp only [cond_false, Option.some.injEq, Prod.mk.injEq] at h
            obtain ⟨rfl, rfl⟩ := h
            show (if j = id then _ else _)
            rw [if_neg (Nat.ne_of_beq_eq_false hj)]
            exact ⟨φ1, rfl, hs1, hi1, hst1⟩
        | _ =>
          simp only [Option.some.injEq, Prod.mk.injEq] at h
          obtain ⟨rfl, rfl⟩ := h
          exact ⟨φ1, rfl, hs1, hi1, hst1⟩
    | scope body =>
      change execStep P ne (exec P ne n) m (.scope body) st = some (e, st') at h
      simp only [execStep] at h
      intro b k cs
      obtain ⟨e', a', w', h1, h2⟩ := scope_ok hG _ _ _ _ _ h φ a w hg hs hi b k cs
      exact ⟨e', a', w', h1, .of_steps (.one step_scope) h2⟩
    | region id ops d =>
      change execStep P ne (exec P ne n) m (.region id ops d) st = some (e, st') at h
      simp only [execStep] at h
      cases d with
      | true =>
        simp only [cond_true] at h
        cases hr : drawnA P ne (exec P ne n) m ops st with
        | none => rw [hr] at h; cases h
        | some st1 =>
          rw [hr] at h
          simp only [Option.some.injEq, Prod.mk.injEq] at h
          obtain ⟨rfl, rfl⟩ := h
          exact drawnA_ok hS hG hr hg hs hi fun φ' a' w' h1 h2 h3 => ⟨φ', rfl, h1, h2, h3⟩
      | false =>
        simp only [cond_false] at h
        cases hr : runOps P ne (exec P ne n) m ops ops.toList st with
        | none => rw [hr] at h; cases h
        | some st1 =>
          rw [hr] at h
          simp only [Option.some.injEq, Prod.mk.injEq] at h
          obtain ⟨rfl, rfl⟩ := h
          refine wp_region ?_
          have := runOps_ok hS hG (ops := ops) ops.toList 0 (fun j => by rw [Nat.zero_add]; simp) hr hg hs hi (Q := CodePost P m φ st.H w .normal st1) fun φ' a' w' h1 h2 h3 => ⟨φ', rfl, h1, h2, h3⟩
          rw [List.range_eq_range']
          simpa using this
    | rangeFunc => cases h
    | refuse => cases h

/-- What the interpreter finds of a call, the call comes to, in any world. -/
theorem acall_ok {ne : Nat} (hS : Sane P ne) {n : Nat} {f : Nat} {fn : Func} {c : Code} (hf : P.funcs[f]? = some fn) (hb : fn.body = some c) {args args' : Array Value} {H H' : AH} {v : Value}
    (h : acall P ne n m f args H = some (v, H')) {φ : Inj} {w : World} (hg : Glob P φ) (ha : AR φ args args') (hi : Inv φ H w) : CallOK P m φ H w v H' f args' :=
  acallFn_body hS (exec_good hS n).1 hf hb h hg ha hi

end Go.Abs
