/- The engine, part 20 of 35: pieces of the interpreter and of its soundness. No condition. -/
import Derived.Test.YtiggbefjndkkmaaGreatDoorE19
namespace Go.Abs

variable {P : Program} {m : Nat}

theorem getD_bool {φ : Inj} {a : Act} {d : Nat} {b : Bool} (h : VR φ (.bool b) (a.tmps.getD d undef)) : a.tmps[d]? = some (.bool b) := by
  rw [Array.getD_eq_getD_getElem?] at h
  cases hx : a.tmps[d]? with
  | none => rw [hx] at h; cases h
  | some v => rw [hx] at h; simp only [Option.getD_some] at h; cases h; rfl

theorem wantedA_ok {φ : Inj} {ops : Array Oper} {o : Oper} {ss : Sl} {n : Nat} {a : Act} {b : Bool} (hs : SR φ ss n a) (h : wantedA ops o ss = some b) : Region.wanted o (yielded ops a.tmps) = b := by
  unfold wantedA at h
  unfold Region.wanted
  cases hg : o.guard with
  | none => rw [hg] at h; simp only [Option.some.injEq] at h ⊢; exact h
  | some jw =>
    obtain ⟨j, want⟩ := jw
    rw [hg] at h
    simp only at h ⊢
    unfold yielded
    cases hd : (ops[j]?).bind (·.dst) with
    | none => rw [hd] at h; cases h
    | some d =>
      rw [hd] at h
      simp only [Option.bind_some] at h ⊢
      have hv := hs.slot d
      split at h
      · rename_i c hc
        simp only [Option.some.injEq] at h
        rw [hc] at hv
        rw [getD_bool hv, ← h]
        cases c <;> cases want <;> rfl
      · rename_i vs hc
        simp only [Option.some.injEq] at h
        rw [hc] at hv
        rw [← h]
        have : ∀ c, a.tmps[d]? ≠ some (.bool c) := by
          intro c hcc
          rw [Array.getD_eq_getD_getElem?, hcc] at hv
          cases hv
        split
        · rename_i c hcc; exact absurd hcc (this c)
        · cases want <;> rfl
      · cases h

theorem stepOp_ok {ne : Nat} (hS : Sane P ne) {ih : Ex} (hG : Good P ih) {ops : Array Oper} {o : Oper} {i : Nat} {st st' : ASt} (h : stepOp P ne ih m ops o st = some st') (hoi : ops[i]? = some o) {φ : Inj} {w : World} {a : Act}
    (hg : Glob P φ) (hs : SR φ st.ss st.n a) (hi : Inv φ st.H w) {K : Act → World → Prop} {Q : Exit → Act → World → Prop}
    (hn : ∀ φ' a' w', SR φ' st'.ss st'.n a' → Inv φ' st'.H w' → Step m φ st.H w φ' st'.H w' → K a' w') : wpOp P ops Q i K a w := by
  unfold stepOp at h
  unfold wpOp
  rw [hoi]
  simp only
  cases hw : wantedA ops o st.ss with
  | none => rw [hw] at h; cases h
  | some b =>
    rw [hw] at h
    rw [wantedA_ok hs hw]
    cases b with
    | true =>
      simp only [if_true] at h ⊢
      cases hx : o.op.operands.all (okx P) with
      | false => rw [hx] at h; cases h
      | true =>
        rw [hx] at h
        simp only [cond_true] at h
        cases hr : runOp P ne ih m o (evalA st.ss) st.H with
        | none => rw [hr] at h; cases h
        | some vh =>
          obtain ⟨v, H1⟩ := vh
          rw [hr] at h
          simp only at h
          cases hp : putA st.n st.ss o.dst v with
          | none => rw [hp] at h; cases h
          | some ss1 =>
            rw [hp] at h
            simp only [Option.some.injEq] at h
            subst h
            rw [Array.all_eq_true_iff_forall_mem] at hx
            refine .inl (runOp_ok hS hG hr hg (fun x hxm => hs.eval hg (hx x hxm)) hi fun φ' v' w' h1 h2 h3 => ?_)
            exact hn φ' _ w' ((hs.mono h3.ext).put hp h1) h2 h3
    | false =>
      simp only [Bool.false_eq_true, if_false] at h ⊢
      cases hp : putA st.n st.ss o.dst undef with
      | none => rw [hp] at h; cases h
      | some ss1 =>
        rw [hp] at h
        simp only [Option.some.injEq] at h
        subst h
        exact hn φ _ w (hs.put hp (vr_undef φ)) hi (Step.refl _ _ _ _)

theorem runOps_ok {ne : Nat} (hS : Sane P ne) {ih : Ex} (hG : Good P ih) {ops : Array Oper} : ∀ (l : List Oper) (k : Nat) {st st' : ASt}, (∀ j, l[j]? = ops[k + j]?) → runOps P ne ih m ops l st = some st' → ∀ {φ : Inj} {w : World} {a : Act},
    Glob P φ → SR φ st.ss st.n a → Inv φ st.H w → ∀ {Q : Exit → Act → World → Prop},
    (∀ φ' a' w', SR φ' st'.ss st'.n a' → Inv φ' st'.H w' → Step m φ st.H w φ' st'.H w' → Q .normal a' w') → wpOps P ops Q (List.range' k l.length) a w := by
  intro l
  induction l with
  | nil =>
    intro k st st' _ h φ w a hg hs hi Q hn
    simp only [runOps, Option.some.injEq] at h
    subst h
    exact hn φ a w hs hi (Step.refl _ _ _ _)
  | cons o l ihl =>
    intro k st st' hl h φ w a hg hs hi Q hn
    simp only [runOps] at h
    cases hst : stepOp P ne ih m ops o st with
    | none => rw [hst] at h; cases h
    | some st1 =>
      rw [hst] at h
      simp only at h
      have hoi : ops[k]? = some o := by have := hl 0; simpa using this.symm
      rw [List.length_cons, List.range'_succ, wpOps_cons]
      refine stepOp_ok hS hG hst hoi hg hs hi fun φ1 a1 w1 h1 h2 h3 => ?_
      refine ihl (k + 1) (fun j => ?_) h (hg.mono h3.ext) h1 h2 fun φ2 a2 w2 g1 g2 g3 => hn φ2 a2 w2 g1 g2 (h3.trans hi g3)
      have := hl (j + 1)
      rw [show k + 1 + j = k + (j + 1) by omega, ← this]
      simp

end Go.Abs
