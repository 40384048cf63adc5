/- The engine, part 14 of 35: pieces of the interpreter and of its soundness. No condition. -/
import Derived.Test.YtiggbefjndkkmaaGreatDoorE13
namespace Go.Abs

variable {P : Program} {m : Nat}

theorem aEqV_in {φ : Inj} {t : TypeId} {x y x' y' : Value} {b : Bool} (h : aEqV P t x y = some b) (hx : VR φ x x') (hy : VR φ y y') (w : World) (d : Nat) : (Op.equalIn (d + 1) t x' y').run P w = .ok b w := by
  unfold aEqV at h
  split at h
  · rename_i e a hu
    cases h; cases hx; cases hy
    simp only [Op.equalIn, Sem.run_bind, run_und hu, Result.andThen_ok]; rfl
  · rename_i e a hu
    cases h; cases hx; cases hy
    simp only [Op.equalIn, Sem.run_bind, run_und hu, Result.andThen_ok]; rfl
  · rename_i e b1 o1 b2 o2 hu
    cases hi : P.info? e with
    | none => rw [hi] at h; cases h
    | some i =>
      rw [hi] at h
      simp only at h
      cases hq : (Nat.beq b1 b2 && !Nat.beq i.size 0) with
      | false => rw [hq] at h; cases h
      | true =>
        rw [hq] at h
        simp only [cond_true, Option.some.injEq] at h
        simp only [Bool.and_eq_true, Bool.not_eq_true'] at hq
        have e1 := Nat.eq_of_beq_eq_true hq.1
        have e2 := Nat.ne_of_beq_eq_false hq.2
        subst e1 h
        cases hx with
        | ptr b o l hl => cases hy with
          | ptr b' o' l' hl' =>
            rw [hl] at hl'; cases hl'
            simp only [Op.equalIn, Sem.run_bind, run_und hu, Result.andThen_ok, run_size hi]
            rw [if_pos e2]
            simp only [sameAddr, beq_self_eq_true, if_true, Sem.run_pure]
            congr 1
            by_cases ho : o1 = o2
            · subst ho; simp
            · have : Nat.beq o1 o2 = false := by
                cases hh : Nat.beq o1 o2 with
                | false => rfl
                | true => exact absurd (Nat.eq_of_beq_eq_true hh) ho
              rw [this]
              simp [ho]
  · rename_i e n c a n' c' hu
    cases h; cases hx
    cases hy <;> (simp only [Op.equalIn, Sem.run_bind, run_und hu, Result.andThen_ok]; rfl)
  · rename_i e n c a n' c' hu
    cases h; cases hy
    cases hx <;> (simp only [Op.equalIn, Sem.run_bind, run_und hu, Result.andThen_ok]; rfl)
  · rename_i e n c hu
    cases h; cases hx; cases hy
    simp only [Op.equalIn, Sem.run_bind, run_und hu, Result.andThen_ok]; rfl
  · rename_i e n c hu
    cases h; cases hx; cases hy
    simp only [Op.equalIn, Sem.run_bind, run_und hu, Result.andThen_ok]; rfl
  · rename_i hu
    cases h; cases hx; cases hy
    simp only [Op.equalIn, Sem.run_bind, run_und hu, Result.andThen_ok]; rfl
  · rename_i hu
    cases h; cases hx; cases hy
    simp only [Op.equalIn, Sem.run_bind, run_und hu, Result.andThen_ok]; rfl
  · rename_i hu
    cases h; cases hx; cases hy
    simp only [Op.equalIn, Sem.run_bind, run_und hu, Result.andThen_ok]; rfl
  · rename_i hu
    cases h; cases hx; cases hy
    simp only [Op.equalIn, Sem.run_bind, run_und hu, Result.andThen_ok]; rfl
  · cases h

/-- Kinds of values of which the guard asks nothing, and which no other operator takes. -/
def plainly : Value → Value → Bool
  | .pointer _, .pointer _ | .slice .., .slice .. | .map _, .map _ | .nilFunc, .func .. | .func .., .nilFunc | .nilIface, .iface .. | .iface .., .nilIface => true
  | _, _ => false

theorem aEqV_plain {φ : Inj} {t : TypeId} {x y x' y' : Value} {b : Bool} (h : aEqV P t x y = some b) (hx : VR φ x x') (hy : VR φ y y') : plainly x' y' = true := by
  unfold aEqV at h
  split at h <;> first | (cases h; done) | (cases hx <;> cases hy <;> rfl)

theorem plainly_guard {x y : Value} (h : plainly x y = true) (op : BinOp) (t : TypeId) (ox oy : Operand) (w : World) : (eqGuard op t ox oy x y).run P w = .ok () w := by
  unfold plainly at h
  split at h <;> first | (cases h; done) | (unfold eqGuard; cases op <;> rfl)

theorem plainly_eql {x y : Value} (h : plainly x y = true) (t : TypeId) : binOp .eql t x y = (do pure (.bool (← Op.equal t x y))) := by
  unfold plainly at h
  split at h <;> first | (cases h; done) | (unfold binOp; rfl)

theorem plainly_neq {x y : Value} (h : plainly x y = true) (t : TypeId) : binOp .neq t x y = (do pure (.bool (!(← Op.equal t x y)))) := by
  unfold plainly at h
  split at h <;> first | (cases h; done) | (unfold binOp; rfl)

theorem aEqV_run {φ : Inj} {t : TypeId} {x y x' y' : Value} {b : Bool} (h : aEqV P t x y = some b) (hx : VR φ x x') (hy : VR φ y y') (w : World) :
    (Op.equal t x' y').run P w = .ok b w ∧ (∀ op (ox oy : Operand), (eqGuard op t ox oy x' y').run P w = .ok () w) ∧
      (binOp .eql t x' y' = do pure (.bool (← Op.equal t x' y'))) ∧ (binOp .neq t x' y' = do pure (.bool (!(← Op.equal t x' y')))) :=
  have hp := aEqV_plain h hx hy
  ⟨aEqV_in h hx hy w 9999, fun op ox oy => plainly_guard hp op t ox oy w, plainly_eql hp t, plainly_neq hp t⟩

theorem aEq_ok {φ : Inj} {H : AH} {w : World} {op : BinOp} {t : TypeId} {x y x' y' v : Value} (hi : Inv φ H w) (h : aEq P op t x y = some v) (hx : VR φ x x') (hy : VR φ y y') (ox oy : Operand) :
    OpOK P m φ H w v H (do pure (.value (← (do eqGuard op t ox oy x' y'; binOp op t x' y')))) := by
  unfold aEq at h
  split at h
  · cases hb : aEqV P t x y with
    | none => rw [hb] at h; cases h
    | some b =>
      rw [hb] at h
      simp only [Option.some.injEq] at h
      subst h
      obtain ⟨h1, h2, h3, h4⟩ := aEqV_run hb hx hy w
      refine opOK_value (v' := .bool b) ?_ hi (Step.refl _ _ _ _) (.bool b)
      rw [Sem.run_bind, h2, Result.andThen_ok, h3, Sem.run_bind, h1]; rfl
  · cases hb : aEqV P t x y with
    | none => rw [hb] at h; cases h
    | some b =>
      rw [hb] at h
      simp only [Option.some.injEq] at h
      subst h
      obtain ⟨h1, h2, h3, h4⟩ := aEqV_run hb hx hy w
      refine opOK_value (v' := .bool !b) ?_ hi (Step.refl _ _ _ _) (.bool _)
      rw [Sem.run_bind, h2, Result.andThen_ok, h4, Sem.run_bind, h1]; rfl
  · cases h

end Go.Abs
